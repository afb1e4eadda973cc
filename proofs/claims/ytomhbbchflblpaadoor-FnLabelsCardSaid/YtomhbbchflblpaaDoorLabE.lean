/- Labels drawn: the contracts (printed by wip/gen/labgen.py). -/
import Derived.Test.YtomhbbchflblpaaDoorLabD
import Derived.Test.YtomhbbchflblpaaDoorConv
namespace Go.Proofs.YtomhbbchflblpaaDoor
open Go.RowKit

theorem lit_strsL (w : World) (l : List ByteArray) (cs : Array Value) (hcs : cs = (l.map Value.string).toArray) : SlAt (w.alloc (.cells cs 9)) (some ⟨w.heap.size, 0, none⟩) l.length 1 (fun i _ => .string (l.getD i ⟨#[]⟩)) := by
  subst hcs
  refine SlAt.of_row (World.rowIs_alloc w (l.map Value.string).toArray 9 (fun j => .string (l.getD j ⟨#[]⟩)) (fun i hi => ?_)) (by simp) (fun i hi j hj => ?_)
  · simp at hi
    simp [List.getD_eq_getElem?_getD, hi]
  · have : j = 0 := by omega
    subst this; simp
theorem alB (w : World) (o : Obj) : Below w.heap.size w (w.alloc o) := (Below.refl _ _).alloc (Nat.le_refl _) _
theorem strs40 {l : List ByteArray} (h : l.all (fun t => decide (t.size ≤ 40)) = true) (i : Nat) (hi : i < l.length) : (l.getD i ⟨#[]⟩).size ≤ 40 := by
  have hm : l.getD i ⟨#[]⟩ ∈ l := by
    rw [List.getD_eq_getElem?_getD, List.getElem?_eq_getElem hi]; exact List.getElem_mem _
  simpa using List.all_eq_true.1 h _ hm
def keysL : List ByteArray := [⟨#[122, 111, 110, 101]⟩, ⟨#[100, 105, 115, 107]⟩, ⟨#[97, 112, 112]⟩, ⟨#[116, 105, 101, 114]⟩, ⟨#[97, 46, 98, 47, 99]⟩, ⟨#[90, 111, 110, 101]⟩]
def valsL : List ByteArray := [⟨#[97]⟩, ⟨#[98]⟩, ⟨#[99]⟩, ⟨#[]⟩, ⟨#[115, 115, 100]⟩, ⟨#[118, 49, 46, 50]⟩]
theorem keysL_ok : keysL.all (fun t => decide (t.size ≤ 40)) = true := by decide +kernel
theorem valsL_ok : valsL.all (fun t => decide (t.size ≤ 40)) = true := by decide +kernel
theorem six40 (s u : ByteArray) (hs : s.size = 30) (hu : u.size = 31) (i : Nat) (h : i < 6) : (([⟨#[]⟩, ⟨#[45, 97]⟩, ⟨#[122, 122, 47]⟩, s, u, ⟨#[195, 169]⟩] : List ByteArray).getD i ⟨#[]⟩).size ≤ 40 := by
  rcases (show i = 0 ∨ i = 1 ∨ i = 2 ∨ i = 3 ∨ i = 4 ∨ i = 5 by omega) with rfl | rfl | rfl | rfl | rfl | rfl
  · show (⟨#[]⟩ : ByteArray).size ≤ 40; decide
  · show (⟨#[45, 97]⟩ : ByteArray).size ≤ 40; decide
  · show (⟨#[122, 122, 47]⟩ : ByteArray).size ≤ 40; decide
  · show s.size ≤ 40; omega
  · show u.size ≤ 40; omega
  · show (⟨#[195, 169]⟩ : ByteArray).size ≤ 40; decide
theorem four40 (s u : ByteArray) (hs : s.size = 20) (hu : u.size = 21) (i : Nat) (h : i < 4) : (([⟨#[120]⟩, ⟨#[97, 47, 98]⟩, s, u] : List ByteArray).getD i ⟨#[]⟩).size ≤ 40 := by
  rcases (show i = 0 ∨ i = 1 ∨ i = 2 ∨ i = 3 by omega) with rfl | rfl | rfl | rfl
  · show (⟨#[120]⟩ : ByteArray).size ≤ 40; decide
  · show (⟨#[97, 47, 98]⟩ : ByteArray).size ≤ 40; decide
  · show s.size ≤ 40; omega
  · show u.size ≤ 40; omega

set_option maxHeartbeats 1000000 in
theorem l14Key_any (g : Nat) (w : World) (hC : Cur w g) : Calls Tryd.prog 33 #[.pointer (some ⟨g, 0, none⟩)] w (StrP g (fun t => t.size ≤ 40) w) := by
  go_enter Tryd.func33, Tryd.ntmps33
  go_wp2_with fail
  refine (l01Pick_any g _ 6 6 (fun i => keysL.getD i ⟨#[]⟩) (fun t => t.size ≤ 40) _ (by omega) (by omega) (hC.keep (alB w _)) (lit_strsL w keysL _ rfl) (fun b o h => by cases h; have := hC.lt; omega) (fun i hi => strs40 keysL_ok i hi)).mono ?_
  rintro e w3 ⟨t, ht, rfl, hc3, ha3⟩
  have ht40 : t.size ≤ 40 := ht
  clear ht
  go_wp2
  go_ret
  exact ⟨t, ht40, rfl, hc3, (Apart.of_below (alB w _) _).trans ha3⟩
set_option maxHeartbeats 1000000 in
theorem l14Value_any (g : Nat) (w : World) (hC : Cur w g) : Calls Tryd.prog 34 #[.pointer (some ⟨g, 0, none⟩)] w (StrP g (fun t => t.size ≤ 40) w) := by
  go_enter Tryd.func34, Tryd.ntmps34
  go_wp2_with fail
  refine (l01Pick_any g _ 6 6 (fun i => valsL.getD i ⟨#[]⟩) (fun t => t.size ≤ 40) _ (by omega) (by omega) (hC.keep (alB w _)) (lit_strsL w valsL _ rfl) (fun b o h => by cases h; have := hC.lt; omega) (fun i hi => strs40 valsL_ok i hi)).mono ?_
  rintro e w3 ⟨t, ht, rfl, hc3, ha3⟩
  have ht40 : t.size ≤ 40 := ht
  clear ht
  go_wp2
  go_ret
  exact ⟨t, ht40, rfl, hc3, (Apart.of_below (alB w _) _).trans ha3⟩

theorem conv_backN (w : World) (g n cap : Nat) (l : List UInt8) (hl : l.length = n) (hc : ∀ j, j < n → w.cell? ⟨g, j, none⟩ = some (.int .u8 (l.getD j 0).toNat)) :
    (convert 22 9 (.slice (some ⟨g, 0, none⟩) n cap)).run Tryd.prog w = .ok (.string ⟨l.toArray⟩) w := by
  subst hl
  refine run_convert_bytes_back w _ _ _ _ cap l Tryd.underlying22 Tryd.underlying5 Tryd.underlying9 fun j hj => ?_
  rw [addr_add, Nat.zero_add, hc j hj, List.getD_eq_getElem?_getD, List.getElem?_eq_getElem hj]
  rfl
theorem figureN (x : Int) (w : World) (h0 : 0 ≤ x) (h1 : x < 10) : Calls Tryd.prog 49 #[.int .i64 x] w fun e w' => e = .returned (.int .u8 (48 + x)) ∧ w = w' := by
  go_enter Tryd.func49, Tryd.ntmps49
  go_wp2
  go_ret
  exact ⟨rfl, rfl⟩
theorem convN (w : World) (x : Int) (h0 : 0 ≤ x) (h1 : x < 10) : ∃ c : UInt8, (convert 22 9 (.slice (some ⟨w.heap.size, 0, none⟩) 1 1)).run Tryd.prog (w.alloc (.cells #[.int .u8 (48 + x)] 5)) = .ok (.string ⟨#[c]⟩) (w.alloc (.cells #[.int .u8 (48 + x)] 5)) := by
  obtain ⟨m, rfl⟩ := Int.eq_ofNat_of_zero_le h0
  refine ⟨UInt8.ofNat (48 + m), conv_backN _ _ 1 1 [UInt8.ofNat (48 + m)] rfl fun j hj => ?_⟩
  obtain rfl : j = 0 := by omega
  have e : ((UInt8.ofNat (48 + m)).toNat : Int) = 48 + (m : Int) := by
    rw [UInt8.toNat_ofNat']; omega
  rw [World.cell?, heap_alloc_new]
  have e2 : (UInt8.ofNat (48 + m)).toNat = 48 + m := by omega
  simp only [List.getElem?_toArray, List.getD_cons_zero, e]
  rfl
theorem one_nil (c : UInt8) : ((⟨#[c]⟩ : ByteArray) ++ (⟨#[]⟩ : ByteArray)).size ≤ 1 := by
  rw [ByteArray.size_append]; exact Nat.le_refl 1
/-- Decimal of one figure. -/
theorem decN (i : Int) (w : World) (h0 : 0 ≤ i) (h1 : i < 10) : Calls Tryd.prog 37 #[.int .i64 i] w fun e w' => ∃ t : ByteArray, t.size ≤ 1 ∧ e = .returned (.string t) ∧ Below w.heap.size w w' := by
  by_cases hz : i = 0
  · subst hz
    go_enter Tryd.func37, Tryd.ntmps37
    go_wp2
    go_ret
    exact ⟨_, by decide, rfl, Below.refl _ _⟩
  have e0 : (i == 0) = false := by rw [beq_eq_false_iff_ne]; omega
  have e1 : decide (i < 0) = false := decide_eq_false (by omega)
  go_enter Tryd.func37, Tryd.ntmps37
  go_wp2
  go_loopw [0, 4] (fun a v wr => ∃ (m : Int) (t : ByteArray), a = .int .i64 m ∧ v = .string t ∧ 0 ≤ m ∧ m < 10 ∧ (m = 0 → t.size ≤ 1) ∧ (m ≠ 0 → t = ⟨#[]⟩) ∧ Below w.heap.size w wr) (fun a _ _ => (intOf a).toNat)
  case atStart => exact ⟨i, ⟨#[]⟩, rfl, rfl, h0, h1, fun _ => by decide, fun _ => rfl, Below.refl _ _⟩
  case round =>
    obtain ⟨m, t, rfl, rfl, hm0, hm1, ht0, ht1, hb⟩ := hrel
    by_cases hm : m = 0
    · subst hm
      have HT := Lib.hid (ht0 rfl)
      clear ht0 ht1
      go_wp2
      go_ret
      exact ⟨_, HT.out, rfl, hb⟩
    · obtain rfl := ht1 hm
      have n0 : (m != 0) = true := by rw [bne_iff_ne]; exact hm
      have hr0 : (0 : Int) ≤ m := by omega
      have hmod : m.tmod 10 = m := Int.tmod_eq_of_lt hm0 hm1
      have hdiv : m.tdiv 10 = 0 := Int.tdiv_eq_zero_of_lt hm0 hm1
      obtain ⟨c, hcv⟩ := convN wr m hm0 hm1
      clear ht0 ht1
      go_wp2_with (go_at_call 49; refine (figureN _ _ (by omega) (by omega)).mono ?_; rintro e w' ⟨rfl, rfl⟩)
      go_roundw
      case rel => exact ⟨0, _, by go_num, rfl, by omega, by omega, fun _ => one_nil c, fun h => absurd rfl h, hb.alloc hb.size _⟩
      case measure => simp [intOf]; omega

theorem Tryd.infoU8N : (Tryd.prog.info? 5).map (fun i => (i.zero, i.size, i.bytes)) = some (some (.int .u8 0), 1, 1) := by kernel_rfl
set_option maxHeartbeats 1000000 in
theorem longN (n : Nat) (x : UInt8) (w : World) (hn : n ≤ 1000000) : Calls Tryd.prog 36 #[.int .i64 n, .int .u8 x.toNat] w fun e w' => ∃ t : ByteArray, t.size = n ∧ e = .returned (.string t) ∧ Below w.heap.size w w' := by
  obtain ⟨i0, hi, hz0, hz1, hz2⟩ := info_parts Tryd.infoU8N
  have hb2 : i0.bytes * n ≤ 281474976710656 := by rw [hz2]; omega
  have hb3 : n ≤ maxLen := by unfold maxLen; omega
  go_enter Tryd.func36, Tryd.ntmps36
  go_wp2_with (at_make; refine wpList_make_full _ rfl (.tmp 7) (.tmp 7) 22 rfl w.heap.size 5 i0 _ 1 Tryd.underlying22 hi hz0 hz1 .i64 .i64 _ _ n rfl rfl rfl rfl hb2 hb3 (Nat.le_refl _) ?_; intro w1 hown hgrow)
  obtain ⟨F0, hrow0, -, -, -, -⟩ := rowIs_of_owns hown
  have hbel1 : Below w.heap.size w w1 := (Below.refl _ _).grown hgrow (Nat.le_refl _) (fun k hk => by cases hk)
  obtain ⟨g, hg⟩ : ∃ g, g = w.heap.size := ⟨_, rfl⟩
  rw [← hg] at hrow0 ⊢
  have hgle : w.heap.size ≤ g := by omega
  have HG := Lib.hid hg; clear hg hown hgrow
  go_loopw [6] (fun i wr => ∃ k : Nat, k ≤ n ∧ i = .int .i64 k ∧ Below w.heap.size w wr ∧ ∃ F, wr.rowIs g 5 (n * 1) F ∧ ∀ i, i < k → F i = .int .u8 x.toNat) (fun i _ => n - (intOf i).toNat)
  case atStart => exact ⟨0, by omega, rfl, hbel1, F0, hrow0, fun i hi => by omega⟩
  case round =>
    obtain ⟨k, hk, rfl, hb, F, hrow, hF⟩ := hrel
    have HF := Lib.hid hF; clear hF hrow0
    by_cases hlt : k < n
    · have d0 := hrow.cell (i := k) (by omega)
      have f0 := hrow.frozen k
      go_wp2
      go_roundw
      case rel => exact ⟨k + 1, by omega, by go_num, hb.setCell (by omega) _, _, hrow.set k _, fun i hi => by
        show (if i = k then _ else _) = _
        by_cases hik : i = k
        · rw [if_pos hik]
        · rw [if_neg hik]; exact HF.out i (by omega)⟩
      case measure => simp [intOf] <;> omega
    · obtain rfl : k = n := by omega
      have hcv := conv_backN wr g k k (List.replicate k x) (by simp) (fun j hj => by
        have hc := hrow.cell (i := j) (by omega)
        rw [HF.out j hj] at hc
        rw [hc, List.getD_eq_getElem?_getD, List.getElem?_replicate, if_pos hj]; rfl)
      go_wp2
      go_ret
      exact ⟨_, by show Array.size _ = k; simp, rfl, hb⟩

end Go.Proofs.YtomhbbchflblpaaDoor
