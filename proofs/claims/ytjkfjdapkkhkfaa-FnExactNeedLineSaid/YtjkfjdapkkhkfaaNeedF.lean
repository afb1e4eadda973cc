/- NeedLine: contracts of both texts. -/
import Derived.Test.YtjkfjdapkkhkfaaNeedE
import Derived.Test.YtjkfjdapkkhkfaaLine
import Derived.Deep.RegionWith
import Derived.Deep.DeepCutAuto
namespace Go.Proofs.Ytjkfjdapkkhkfaa
open Go.RowKit

def opWord (op : Int) : ByteArray := if op = 1 then ⟨#[105, 110]⟩ else if op = 2 then ⟨#[110, 111, 116, 105, 110]⟩ else if op = 3 then ⟨#[104, 97, 115]⟩ else if op = 4 then ⟨#[104, 97, 115, 110, 111, 116]⟩ else ⟨#[]⟩
theorem opWord_size (op : Int) : (opWord op).size ≤ 6 := by
  unfold opWord
  split
  · decide
  · split
    · decide
    · split
      · decide
      · split <;> decide
def valTexts (V : List ByteArray) : List (List UInt8) := V.map (·.data.toList)
def headB (n : Nd) : ByteArray := n.key ++ ⟨#[32]⟩ ++ opWord n.op
def needLineB (n : Nd) : ByteArray := if needOkB n = true then (if 0 < n.vals.length then headB n ++ (⟨#[32]⟩ ++ ⟨(Lib.join (valTexts n.vals) [44]).toArray⟩) else headB n) else ⟨#[]⟩
def accN (n : Nd) : Nat → ByteArray
  | 0 => headB n
  | k + 1 => (if k = 0 then accN n k ++ ⟨#[32]⟩ else accN n k ++ ⟨#[44]⟩) ++ strAt n.vals k

theorem val_get (V : List ByteArray) (k : Nat) (h : k < V.length) : V[k] = strAt V k := by
  rw [strAt, List.getD_eq_getElem?_getD, List.getElem?_eq_getElem h]; rfl
theorem accN_join (n : Nd) : ∀ k, k ≤ n.vals.length → (accN n k).data.toList = (headB n).data.toList ++ (if k = 0 then [] else 32 :: Lib.join (valTexts (n.vals.take k)) [44])
  | 0, _ => by simp [accN]
  | k + 1, h => by
    have ih := accN_join n k (by omega)
    have e : valTexts (n.vals.take (k + 1)) = valTexts (n.vals.take k) ++ [(strAt n.vals k).data.toList] := by
      rw [List.take_succ_eq_append_getElem (show k < n.vals.length by omega), val_get _ k (by omega)]; simp [valTexts]
    rw [e, join_snoc, if_neg (by omega)]
    simp only [accN]
    by_cases hk : k = 0
    · subst hk
      rw [if_pos rfl, app_data, app_data, ih]
      simp [valTexts]
    · have h0 : valTexts (n.vals.take k) ≠ [] := by
        intro e
        have h1 : (valTexts (n.vals.take k)).length = k := by simp [valTexts]; omega
        rw [e] at h1
        simp at h1
        omega
      rw [if_neg hk, app_data, app_data, ih, if_neg hk, if_neg h0]
      simp [List.append_assoc]
theorem accN_line (n : Nd) (h : needOkB n = true) : needLineB n = accN n n.vals.length := by
  have h2 := accN_join n n.vals.length (Nat.le_refl _)
  rw [List.take_length] at h2
  unfold needLineB
  rw [if_pos h]
  by_cases h0 : 0 < n.vals.length
  · rw [if_pos h0]
    rw [if_neg (by omega)] at h2
    have : (accN n n.vals.length).data.toList = (headB n ++ (⟨#[32]⟩ ++ ⟨(Lib.join (valTexts n.vals) [44]).toArray⟩ : ByteArray)).data.toList := by
      rw [h2, app_data, app_data]; simp
    have h3 := congrArg List.toArray this
    simp only [Array.toArray_toList] at h3
    exact ByteArray.ext h3.symm
  · have hz : n.vals.length = 0 := by omega
    rw [if_neg h0, hz]; rfl
theorem need_facts {n : Nd} (h : needOkB n = true) : n.key.size ≤ 30 ∧ 1 ≤ n.op ∧ n.op ≤ 4 ∧ n.vals.length ≤ 4 ∧ ∀ k, k < n.vals.length → (strAt n.vals k).size ≤ 20 := by
  unfold needOkB labelKeyB betweenB at h
  simp only [Bool.and_eq_true, decide_eq_true_eq] at h
  obtain ⟨⟨⟨h1, -⟩, h2, h3⟩, h4⟩ := h
  by_cases h5 : 3 ≤ n.op
  · rw [if_pos h5, decide_eq_true_eq] at h4
    exact ⟨h1, h2, h3, by omega, fun k hk => by omega⟩
  · rw [if_neg h5] at h4
    simp only [Bool.and_eq_true, decide_eq_true_eq] at h4
    refine ⟨h1, h2, h3, by omega, fun k hk => ?_⟩
    have h6 := h4.2
    unfold valsOkB at h6
    rw [List.all_eq_true] at h6
    have h7 := h6 k (List.mem_range.2 hk)
    unfold valOk labelValueB at h7
    simp only [Bool.and_eq_true, Bool.or_eq_true, decide_eq_true_eq] at h7
    rcases h7.1 with g | g
    · rw [List.isEmpty_iff] at g
      have := toList_length (strAt n.vals k)
      rw [g] at this
      simp at this
      omega
    · exact g.1
theorem headB_size {n : Nd} (h : needOkB n = true) : (headB n).size ≤ 37 := by
  have h1 := (need_facts h).1
  have h2 := opWord_size n.op
  have e2 : (⟨#[32]⟩ : ByteArray).size = 1 := rfl
  simp only [headB, ByteArray.size_append]
  omega
theorem accN_size {n : Nd} (h : needOkB n = true) : ∀ k, k ≤ n.vals.length → (accN n k).size ≤ 37 + 21 * k
  | 0, _ => headB_size h
  | k + 1, hk => by
    have ih := accN_size h k (by omega)
    have h1 := (need_facts h).2.2.2.2 k (by omega)
    have e1 : (⟨#[32]⟩ : ByteArray).size = 1 := rfl
    have e2 : (⟨#[44]⟩ : ByteArray).size = 1 := rfl
    simp only [accN, ByteArray.size_append]
    split <;> (rw [ByteArray.size_append]; omega)

theorem lensC (c : Nat) (X : List (List UInt8)) (h : ∀ x ∈ X, x.length ≤ c) : Lib.lens X ≤ c * X.length := by
  induction X with
  | nil => simp [Lib.lens]
  | cons x xs ih =>
    have h1 := h x (by simp)
    have h2 := ih fun y hy => h y (by simp [hy])
    simp only [Lib.lens, List.map_cons, List.sum_cons, List.length_cons, Nat.mul_add] at h2 ⊢
    omega
theorem vals_len {n : Nd} (h : needOkB n = true) : (Lib.join (valTexts n.vals) [44]).length ≤ 100 := by
  obtain ⟨-, -, -, h4, h5⟩ := need_facts h
  have h3 : ∀ x ∈ valTexts n.vals, x.length ≤ 20 := by
    intro x hx
    simp only [valTexts, List.mem_map] at hx
    obtain ⟨y, hy, rfl⟩ := hx
    obtain ⟨i, hi, rfl⟩ := List.getElem_of_mem hy
    rw [val_get _ i hi]
    have := h5 i hi
    have e : (strAt n.vals i).data.toList.length = (strAt n.vals i).size := by simp
    omega
  have h6 := lensC 20 _ h3
  have h7 : (valTexts n.vals).length = n.vals.length := by simp [valTexts]
  cases hX : valTexts n.vals with
  | nil => simp [Lib.join_nil]
  | cons x r =>
    rw [hX] at h6 h7
    rw [Lib.join_length]
    simp only [List.length_cons, List.length_nil] at h6 h7 ⊢
    omega

theorem needWord_any (op : Int) (w : World) : Calls Try.prog 52 #[.int .i64 op] w fun e w' => e = .returned (.string (opWord op)) ∧ w = w' := by
  have H : Hid (opWord op = if op = 1 then ⟨#[105, 110]⟩ else if op = 2 then ⟨#[110, 111, 116, 105, 110]⟩ else if op = 3 then ⟨#[104, 97, 115]⟩ else if op = 4 then ⟨#[104, 97, 115, 110, 111, 116]⟩ else ⟨#[]⟩) := rfl
  by_cases h1 : op = 1
  · subst h1
    go_enter Try.func52, Try.ntmps52
    go_wp2
    go_ret
    exact ⟨ret_strB (by rw [H.out]; rfl), rfl⟩
  by_cases h2 : op = 2
  · subst h2
    go_enter Try.func52, Try.ntmps52
    go_wp2
    go_ret
    exact ⟨ret_strB (by rw [H.out]; rfl), rfl⟩
  by_cases h3 : op = 3
  · subst h3
    go_enter Try.func52, Try.ntmps52
    go_wp2
    go_ret
    exact ⟨ret_strB (by rw [H.out]; rfl), rfl⟩
  by_cases h4 : op = 4
  · subst h4
    go_enter Try.func52, Try.ntmps52
    go_wp2
    go_ret
    exact ⟨ret_strB (by rw [H.out]; rfl), rfl⟩
  · have b1 : (op == 1) = false := by simp [h1]
    have b2 : (op == 2) = false := by simp [h2]
    have b3 : (op == 3) = false := by simp [h3]
    have b4 : (op == 4) = false := by simp [h4]
    have HH := Lib.hid (And.intro h1 (And.intro h2 (And.intro h3 h4))); clear h1 h2 h3 h4
    go_enter Try.func52, Try.ntmps52
    go_wp2
    go_ret
    exact ⟨ret_strB (by rw [H.out, if_neg HH.out.1, if_neg HH.out.2.1, if_neg HH.out.2.2.1, if_neg HH.out.2.2.2]), rfl⟩

def OpsAt (w' : World) (g : Nat) : Prop := ∀ op : Int, 1 ≤ op → op ≤ 4 → w'.cell? ⟨g, op.toNat, none⟩ = some (.string (opWord op))
theorem l15Ops_any (w : World) : Calls Try.prog 51 #[] w fun e w' => (∃ g, e = .returned (.slice (some ⟨g, 0, none⟩) 5 5) ∧ OpsAt w' g) ∧ Below w.heap.size w w' := by
  go_enter Try.func51, Try.ntmps51
  go_wp2
  go_ret
  refine ⟨⟨_, rfl, fun op h1 h2 => ?_⟩, by repeat (first | exact Below.refl _ _ | (refine Below.alloc ?_ (by first | omega | (simp; done) | (simp; omega)) _) | (refine Below.setCell ?_ (by first | omega | (simp; done) | (simp; omega)) _) | (refine Below.drew ?_) | (refine below_drewN ?_ _))⟩
  rcases (show op = 1 ∨ op = 2 ∨ op = 3 ∨ op = 4 by omega) with rfl | rfl | rfl | rfl <;> (go_simp; rfl)

set_option maxHeartbeats 1000000 in
theorem iNeedLine (n : Nd) (a : Option Addr) (m : Nat) (w : World) (hw : n.wt ≤ 1048576) (hcap : n.vals.length ≤ m) (hv : StrsIn w Any (.slice a n.vals.length m) n.vals) :
    Calls Try.prog 30 #[.agg #[.string n.key, .int .i64 n.op, .slice a n.vals.length m]] w fun e w' => e = .returned (.string (needLineB n)) ∧ Below w.heap.size w w' := by
  have hB := nd_alloc w #[.string n.key, .int .i64 n.op, .slice a n.vals.length m] 34
  have HB := Lib.hid (And.intro hB (hv.keep hB)); clear hB hv
  have HL : Hid (needLineB n = if needOkB n = true then (if 0 < n.vals.length then headB n ++ (⟨#[32]⟩ ++ ⟨(Lib.join (valTexts n.vals) [44]).toArray⟩) else headB n) else ⟨#[]⟩) := rfl
  cases hok : needOkB n
  · go_enter Try.func30, Try.ntmps30
    go_wp2_with fail
    refine (iNeedOk n _ _ hw HB.out.2).mono ?_
    rintro e w1 ⟨rfl, hb1⟩
    go_wp2
    go_ret
    exact ⟨ret_strB (by rw [HL.out, hok]; rfl), bnext HB.out.1 hb1⟩
  have HF := Lib.hid (need_facts hok)
  have HHS := Lib.hid (headB_size hok)
  have hks := HF.out.1
  have hos := opWord_size n.op
  have hvl := HF.out.2.2.2.1
  have HH : Hid (headB n = n.key ++ ⟨#[32]⟩ ++ opWord n.op) := rfl
  have hrow := World.rowIs_alloc w #[.string n.key, .int .i64 n.op, .slice a n.vals.length m] 34 (lit3 (.string n.key) (.int .i64 n.op) (.slice a n.vals.length m)) (lit3_get _ _ _)
  have HR := Lib.hid hrow; clear hrow
  go_enter Try.func30, Try.ntmps30
  go_wp2_with fail
  refine (iNeedOk n _ _ hw HB.out.2).mono ?_
  rintro e w1 ⟨rfl, hb1⟩
  have hr1 := rowIs_keep HR.out hb1
  have r0 : w1.cell? ⟨w.heap.size, 0, none⟩ = some (.string n.key) := hr1.cell (by simp)
  have r1 : w1.cell? ⟨w.heap.size, 1, none⟩ = some (.int .i64 n.op) := hr1.cell (by simp)
  have r2 : w1.cell? ⟨w.heap.size, 2, none⟩ = some (.slice a n.vals.length m) := hr1.cell (by simp)
  have HW1 := Lib.hid (And.intro (bnext HB.out.1 hb1) (HB.out.2.keep hb1)); clear hr1 hb1
  by_cases h0 : 0 < n.vals.length
  rotate_left
  · have h0' : decide ((0 : Int) < (n.vals.length : Int)) = false := decide_eq_false (by omega)
    have HZ := Lib.hid h0; clear h0
    go_wp2_with fail
    go_quiet ((go_at_call 52; exact quiet_eq (needWord_any _ _)))
    go_wp2
    go_ret
    exact ⟨ret_strB (by rw [HL.out, hok, if_pos rfl, if_neg HZ.out, HH.out]), below_drewN HW1.out.1 _⟩
  have h0' : (0 : Int) < (n.vals.length : Int) := by omega
  obtain ⟨b, o, rfl, hcell⟩ := HW1.out.2.at h0
  have HC := Lib.hid hcell
  have hbl := lt_of_cell (hcell 0 h0)
  clear hcell
  go_wp2_with fail
  go_quiet ((go_at_call 52; exact quiet_eq (needWord_any _ _)))
  go_wp2_with fail
  have hjn := fun W : World => Try.strings_Join b o m n.vals ⟨#[44]⟩ W
  have HJL := Lib.hid (vals_len hok)
  obtain ⟨js, hjs⟩ : ∃ js : ByteArray, js = ⟨(Lib.join (valTexts n.vals) [44]).toArray⟩ := ⟨_, rfl⟩
  have hjz : js.size ≤ 100 := by have := HJL.out; rw [hjs]; show (Lib.join (valTexts n.vals) [44]).toArray.size ≤ 100; simpa using this
  change ∀ W : World, _ → _ → _ → _ → _ → Calls _ _ _ W (fun e w' => e = .returned (.string ⟨(Lib.join (valTexts n.vals) [44]).toArray⟩) ∧ _) at hjn
  rw [← hjs] at hjn
  have HJ := Lib.hid hjn; clear hjn
  have HJS := Lib.hid hjs; clear hjs
  refine (HJ.out _ (fun j x hx => ?_) (by have := hbl; exact this) (by omega) hcap (by have := HJL.out; show (Lib.join (valTexts n.vals) [44]).length ≤ _; omega)).mono ?_
  · have hj : j < n.vals.length := (List.getElem?_eq_some_iff.1 hx).1
    have := HC.out j hj
    rw [← val_get _ j hj] at this
    rw [List.getElem?_eq_getElem hj] at hx
    simp only [Option.some.injEq] at hx
    rw [hx] at this
    exact this
  rintro e w2 ⟨rfl, hb2⟩
  go_wp2
  go_ret
  exact ⟨ret_strB (by rw [HL.out, hok, if_pos rfl, if_pos h0, HH.out, HJS.out]), bnext (below_drewN HW1.out.1 _) hb2⟩

set_option maxRecDepth 100000 in
set_option maxHeartbeats 2000000 in
theorem sNeedLine (n : Nd) (vv : Value) (w : World) (hw : n.wt ≤ 1048576) (hv : StrsIn w Any vv n.vals) :
    Calls Try.prog 29 #[.agg #[.string n.key, .int .i64 n.op, vv]] w fun e w' => e = .returned (.string (needLineB n)) ∧ Below w.heap.size w w' := by
  obtain ⟨a, m, rfl⟩ := hv.len
  have hB := nd_alloc w #[.string n.key, .int .i64 n.op, .slice a n.vals.length m] 34
  have HB := Lib.hid (And.intro hB (hv.keep hB)); have HV0 := Lib.hid hv; clear hB hv
  have HL : Hid (needLineB n = if needOkB n = true then (if 0 < n.vals.length then headB n ++ (⟨#[32]⟩ ++ ⟨(Lib.join (valTexts n.vals) [44]).toArray⟩) else headB n) else ⟨#[]⟩) := rfl
  cases hok : needOkB n
  · go_enter Try.func29, Try.ntmps29
    go_wp2_with fail
    refine (sNeedOk n _ _ hw HB.out.2).mono ?_
    rintro e w1 ⟨rfl, hb1⟩
    go_wp2
    go_ret
    exact ⟨ret_strB (by rw [HL.out, hok]; rfl), bnext HB.out.1 hb1⟩
  have HF := Lib.hid (need_facts hok)
  have HAS := Lib.hid (fun k (hk : k ≤ n.vals.length) => accN_size hok k hk)
  have HAL := Lib.hid (accN_line n hok)
  have hks := HF.out.1
  have hos := opWord_size n.op
  have hvl := HF.out.2.2.2.1
  have ho1 := HF.out.2.1
  have ho4 := HF.out.2.2.1
  have ho0 : (0 : Int) ≤ n.op := by omega
  have ho5 : n.op < 5 := by omega
  have HH : Hid (accN n 0 = n.key ++ ⟨#[32]⟩ ++ opWord n.op) := rfl
  have hrow := World.rowIs_alloc w #[.string n.key, .int .i64 n.op, .slice a n.vals.length m] 34 (lit3 (.string n.key) (.int .i64 n.op) (.slice a n.vals.length m)) (lit3_get _ _ _)
  have HR := Lib.hid hrow; clear hrow
  go_enter Try.func29, Try.ntmps29
  go_wp2_with fail
  refine (sNeedOk n _ _ hw HB.out.2).mono ?_
  rintro e w1 ⟨rfl, hb1⟩
  have hr1 := rowIs_keep HR.out hb1
  have HW1 := Lib.hid (And.intro (bnext HB.out.1 hb1) hr1); clear hr1 hb1
  go_upto_region 3 with fail
  go_cut [3] (fun s3 wx => s3 = .string (accN n 0) ∧ wx.rowIs w.heap.size 34 3 (lit3 (.string n.key) (.int .i64 n.op) (.slice a n.vals.length m)) ∧ Below w.heap.size w wx)
  case first =>
    have hrd : (w1.drew).rowIs w.heap.size 34 3 (lit3 (.string n.key) (.int .i64 n.op) (.slice a n.vals.length m)) := HW1.out.2
    have HD := Lib.hid (And.intro hrd HW1.out.1.drew)
    have r0 : w1.drew.cell? ⟨w.heap.size, 0, none⟩ = some (.string n.key) := hrd.cell (by simp)
    have r1 : w1.drew.cell? ⟨w.heap.size, 1, none⟩ = some (.int .i64 n.op) := hrd.cell (by simp)
    clear hrd
    go_region_with (go_at_call 51; refine (l15Ops_any _).mono ?_; rintro e w2 ⟨⟨g, rfl, hops⟩, hb2⟩; have o1 := hops n.op ho1 ho4; have r0 := bkeep hb2 r0; have r1 := bkeep hb2 r1; have HE := Lib.hid (And.intro (rowIs_keep HD.out.1 hb2) (bnext HD.out.2 hb2)); clear hops hb2)
    all_goals (go_wp2_with fail; go_meet; exact ⟨by rw [HH.out], HE.out.1, HE.out.2⟩)
  case rest =>
    obtain ⟨rfl, hrx, hbx⟩ := hcut
    have r2 := hrx.cell (i := 2) (by omega)
    clear HW1
    go_wp2
    go_loopw [3, 4] (fun s3 s4 wr => ∃ k : Nat, k ≤ n.vals.length ∧ s4 = .int .i64 k ∧ s3 = .string (accN n k) ∧ wr.cell? ⟨w.heap.size, 2, none⟩ = some (.slice a n.vals.length m) ∧ Below w.heap.size w wr) (fun _ s4 _ => n.vals.length - (intOf s4).toNat)
    case atStart => exact ⟨0, by omega, rfl, rfl, r2, hbx⟩
    case round =>
      obtain ⟨k, hk, rfl, rfl, p2, hb⟩ := hrel
      have hsa := HAS.out k hk
      clear r2 hrx hbx
      by_cases hlt : k < n.vals.length
      · have hs2 := HF.out.2.2.2.2 k hlt
        obtain ⟨b, off, rfl, hcell⟩ := (HV0.out.keep hb).at hlt
        have c0 := hcell k hlt
        clear hcell
        have HA : Hid (accN n (k + 1) = (if k = 0 then accN n k ++ ⟨#[32]⟩ else accN n k ++ ⟨#[44]⟩) ++ strAt n.vals k) := rfl
        by_cases hk0 : k = 0
        · have hkb : ((k : Int) == 0) = true := by rw [beq_iff_eq]; omega
          have HK0 := Lib.hid hk0; clear hk0
          go_wp2
          go_roundw
          case rel => exact ⟨k + 1, by omega, by go_num, by rw [HA.out, if_pos HK0.out], p2, hb⟩
          case measure => simp [intOf]; omega
        · have hkb : ((k : Int) == 0) = false := by rw [beq_eq_false_iff_ne]; omega
          have HK0 := Lib.hid hk0; clear hk0
          go_wp2
          go_roundw
          case rel => exact ⟨k + 1, by omega, by go_num, by rw [HA.out, if_neg HK0.out], p2, hb⟩
          case measure => simp [intOf]; omega
      · obtain rfl : k = n.vals.length := by omega
        go_wp2
        go_ret
        exact ⟨ret_strB (by rw [HAL.out]), hb⟩

end Go.Proofs.Ytjkfjdapkkhkfaa
