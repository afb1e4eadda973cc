/- Code points: the reference's texts. -/
import Derived.Test.YtfblkmldonommaaDoorMem
import Derived.Test.YtfblkmldonommaaDoorRuneP
import Derived.Deep.QuietTactic
import Derived.BigQuiet
import Derived.Lib.ValidLaws
import Derived.Lib.TrimUEq
import Derived.Lib.RuneCount
import Derived.Laws.BytesString
import Derived.Laws.IdiomStrings
namespace Go.Proofs.YtfblkmldonommaaDoor
open Go.RowKit

def runeOkZ (n : Int) : Bool := betweenB n 0 1114111 && !betweenB n 55296 57343
theorem runeOkZ_nat (n : Nat) : runeOkZ (n : Int) = runeOkN n := by
  rw [Bool.eq_iff_iff]; simp [runeOkZ, runeOkN, betweenB]; omega
/-- The text of a code point, as bytes. -/
def rtext (n : Int) : List UInt8 := if 0 ≤ n then (runeBytes n.toNat).map UInt8.ofNat else []
theorem rtext_bad {n : Int} (h : runeOkZ n = false) : rtext n = [] := by
  unfold rtext
  split
  · obtain ⟨m, rfl⟩ := Int.eq_ofNat_of_zero_le (by assumption)
    rw [runeOkZ_nat] at h
    simp [runeBytes, h]
  · rfl

theorem sRuneOk (n : Int) (w : World) : Calls Tryd.prog 12 #[.int .i64 n] w fun e w' => e = .returned (.bool (runeOkZ n)) ∧ w = w' := by
  have H : Hid (runeOkZ n = (betweenB n 0 1114111 && !betweenB n 55296 57343)) := rfl
  cases h1 : betweenB n 0 1114111 <;> cases h2 : betweenB n 55296 57343
  all_goals
    go_enter Tryd.func12, Tryd.ntmps12
    go_wp2_with (go_at_call 10; refine (l01In_any _ _ _ _).mono ?_; rintro e w' ⟨rfl, rfl⟩)
    go_ret
    exact ⟨ret_bool (by rw [H.out, h1, h2]; rfl), rfl⟩

theorem ret_str {a b : ByteArray} (h : a = b) : Ending.returned (.string a) = .returned (.string b) := by rw [h]

/-- 'string([]byte{..})' of bytes that the statement itself has just laid. -/
theorem fold_push (l : List Int) : ∀ r : ByteArray, l.foldl (fun r n => r.push (UInt8.ofNat n.toNat)) r = ⟨r.data ++ (l.map fun n => UInt8.ofNat n.toNat).toArray⟩ := by
  induction l with
  | nil => intro r; simp
  | cons c l ih => intro r; rw [List.foldl_cons, ih]; simp [ByteArray.push]

theorem conv_lit (W : World) (cs : List Int) : (convert 38 9 (.slice (some ⟨W.heap.size, 0, none⟩) cs.length cs.length)).run Tryd.prog (W.alloc (.cells (cs.map (Value.int .u8)).toArray 5)) =
    .ok (.string ⟨(cs.map fun n => UInt8.ofNat n.toNat).toArray⟩) (W.alloc (.cells (cs.map (Value.int .u8)).toArray 5)) := by
  rw [run_convert_bytes_string _ _ _ _ _ _ _ Tryd.underlying38 Tryd.underlying5 Tryd.underlying9]
  have hl := run_loadCells_list (P := Tryd.prog) (W.alloc (.cells (cs.map (Value.int .u8)).toArray 5)) ⟨W.heap.size, 0, none⟩ (cs.map (Value.int .u8)) (fun j v hj => by
    have hj' : j < cs.length := by have := (List.getElem?_eq_some_iff.1 hj).1; simpa using this
    rw [addr_add, Nat.zero_add]
    have hr := World.rowIs_alloc W (cs.map (Value.int .u8)).toArray 5 (fun j => (cs.map (Value.int .u8)).getD j undef) (fun i hi => by
      simp at hi
      simp [hi])
    rw [hr.cell (by simpa using hj'), List.getD_eq_getElem?_getD, hj]; rfl)
  simp only [List.length_map] at hl
  rw [run_bytesToString _ _ cs.length cs.length _ hl, fold_push]
  have he0 : ByteArray.empty.data = #[] := rfl
  rw [he0]; simp
theorem conv1 (W : World) (a : Int) : (convert 38 9 (.slice (some ⟨W.heap.size, 0, none⟩) 1 1)).run Tryd.prog (W.alloc (.cells #[.int .u8 a] 5)) = .ok (.string ⟨#[UInt8.ofNat a.toNat]⟩) (W.alloc (.cells #[.int .u8 a] 5)) := conv_lit W [a]
theorem conv2 (W : World) (a b : Int) : (convert 38 9 (.slice (some ⟨W.heap.size, 0, none⟩) 2 2)).run Tryd.prog (W.alloc (.cells #[.int .u8 a, .int .u8 b] 5)) = .ok (.string ⟨#[UInt8.ofNat a.toNat, UInt8.ofNat b.toNat]⟩) (W.alloc (.cells #[.int .u8 a, .int .u8 b] 5)) := conv_lit W [a, b]
theorem conv3 (W : World) (a b c : Int) : (convert 38 9 (.slice (some ⟨W.heap.size, 0, none⟩) 3 3)).run Tryd.prog (W.alloc (.cells #[.int .u8 a, .int .u8 b, .int .u8 c] 5)) = .ok (.string ⟨#[UInt8.ofNat a.toNat, UInt8.ofNat b.toNat, UInt8.ofNat c.toNat]⟩) (W.alloc (.cells #[.int .u8 a, .int .u8 b, .int .u8 c] 5)) := conv_lit W [a, b, c]
theorem conv4 (W : World) (a b c d : Int) : (convert 38 9 (.slice (some ⟨W.heap.size, 0, none⟩) 4 4)).run Tryd.prog (W.alloc (.cells #[.int .u8 a, .int .u8 b, .int .u8 c, .int .u8 d] 5)) = .ok (.string ⟨#[UInt8.ofNat a.toNat, UInt8.ofNat b.toNat, UInt8.ofNat c.toNat, UInt8.ofNat d.toNat]⟩) (W.alloc (.cells #[.int .u8 a, .int .u8 b, .int .u8 c, .int .u8 d] 5)) := conv_lit W [a, b, c, d]

theorem rtext_nat (m : Nat) : rtext (m : Int) = (runeBytes m).map UInt8.ofNat := by simp [rtext]

set_option maxHeartbeats 1000000 in
set_option maxRecDepth 100000 in
theorem sRuneText (n : Int) (w : World) : Calls Tryd.prog 11 #[.int .i64 n] w fun e w' => e = .returned (.string ⟨(rtext n).toArray⟩) ∧ Below w.heap.size w w' := by
  cases hok : runeOkZ n
  · have hr := Lib.hid (rtext_bad hok)
    go_enter Tryd.func11, Tryd.ntmps11
    go_wp2_with (go_at_call 12; refine (sRuneOk _ _).mono ?_; rintro e w' ⟨rfl, rfl⟩)
    go_ret
    exact ⟨ret_str (by rw [hr.out]), Below.refl _ _⟩
  have hr : 0 ≤ n ∧ n ≤ 1114111 := by simp [runeOkZ, betweenB] at hok; omega
  obtain ⟨h0, h1⟩ := hr
  obtain ⟨m, rfl⟩ := Int.eq_ofNat_of_zero_le h0
  have ho : runeOkN m = true := by rw [← runeOkZ_nat]; exact hok
  have hR := Lib.hid (rtext_nat m)
  have HO := Lib.hid ho
  clear ho
  have k1 := conv1
  have k2 := conv2
  have k3 := conv3
  have k4 := conv4
  by_cases g1 : (m : Int) ≤ 127
  · go_enter Tryd.func11, Tryd.ntmps11
    go_wp2_with (go_at_call 12; refine (sRuneOk _ _).mono ?_; rintro e w' ⟨rfl, rfl⟩)
    go_ret
    exact ⟨ret_str (by rw [hR.out, runeBytes, if_pos HO.out, if_pos (by omega)]; rfl), by repeat (first | exact Below.refl _ _ | (refine Below.alloc ?_ (by first | omega | (simp; done) | (simp; omega)) _) | (refine Below.setCell ?_ (by first | omega | (simp; done) | (simp; omega)) _) | (refine Below.drew ?_) | (refine below_drewN ?_ _))⟩
  have g1' : (128 : Int) ≤ m := by omega
  have d1 : decide ((m : Int) < 128) = false := decide_eq_false (by omega)
  clear g1
  by_cases g2 : (m : Int) ≤ 2047
  · go_enter Tryd.func11, Tryd.ntmps11
    go_wp2_with (go_at_call 12; refine (sRuneOk _ _).mono ?_; rintro e w' ⟨rfl, rfl⟩)
    go_ret
    exact ⟨ret_str (by rw [hR.out, runeBytes, if_pos HO.out, if_neg (by omega), if_pos (by omega)]; rfl), by repeat (first | exact Below.refl _ _ | (refine Below.alloc ?_ (by first | omega | (simp; done) | (simp; omega)) _) | (refine Below.setCell ?_ (by first | omega | (simp; done) | (simp; omega)) _) | (refine Below.drew ?_) | (refine below_drewN ?_ _))⟩
  have g2' : (2048 : Int) ≤ m := by omega
  have d2 : decide ((m : Int) < 2048) = false := decide_eq_false (by omega)
  clear g2 g1'
  by_cases g3 : (m : Int) ≤ 65535
  · have d3 : decide ((m : Int) < 65536) = true := decide_eq_true (by omega)
    go_enter Tryd.func11, Tryd.ntmps11
    go_wp2_with (go_at_call 12; refine (sRuneOk _ _).mono ?_; rintro e w' ⟨rfl, rfl⟩)
    go_ret
    exact ⟨ret_str (by rw [hR.out, runeBytes, if_pos HO.out, if_neg (by omega), if_neg (by omega), if_pos (by omega)]; rfl), by repeat (first | exact Below.refl _ _ | (refine Below.alloc ?_ (by first | omega | (simp; done) | (simp; omega)) _) | (refine Below.setCell ?_ (by first | omega | (simp; done) | (simp; omega)) _) | (refine Below.drew ?_) | (refine below_drewN ?_ _))⟩
  · have g3' : (65536 : Int) ≤ m := by omega
    have d3 : decide ((m : Int) < 65536) = false := decide_eq_false (by omega)
    clear g3 g2'
    go_enter Tryd.func11, Tryd.ntmps11
    go_wp2_with (go_at_call 12; refine (sRuneOk _ _).mono ?_; rintro e w' ⟨rfl, rfl⟩)
    go_ret
    exact ⟨ret_str (by rw [hR.out, runeBytes, if_pos HO.out, if_neg (by omega), if_neg (by omega), if_neg (by omega)]; rfl), by repeat (first | exact Below.refl _ _ | (refine Below.alloc ?_ (by first | omega | (simp; done) | (simp; omega)) _) | (refine Below.setCell ?_ (by first | omega | (simp; done) | (simp; omega)) _) | (refine Below.drew ?_) | (refine below_drewN ?_ _))⟩

/-- What RuneAt answers. -/
def rAt (s : ByteArray) (k : Nat) : Nat × Nat := Utf8.decode s k
def rN (s : ByteArray) (p : Int) : Int := if 0 ≤ p ∧ p < s.size ∧ badD (rAt s p.toNat) = false then (rAt s p.toNat).1 else 0
def rNext (s : ByteArray) (p : Int) : Int := if 0 ≤ p ∧ p < s.size ∧ badD (rAt s p.toNat) = false then p + (rAt s p.toNat).2 else -1
theorem ret_at {a b c d : Int} (h : a = c) (k : b = d) : Ending.returned (.tuple #[.int .i64 a, .int .i64 b]) = .returned (.tuple #[.int .i64 c, .int .i64 d]) := by rw [h, k]

theorem btake_ext (s : ByteArray) (k m : Nat) (h : k + m ≤ s.size) : (s.extract k (k + m)).toList = (btake s k m).map UInt8.ofNat := by
  induction m with
  | zero => rw [Lib.extract_toList]; simp [btake]
  | succ m ih =>
    have ih := ih (by omega)
    rw [Lib.extract_toList] at ih ⊢
    rw [Nat.add_sub_cancel_left] at ih ⊢
    have hk : m < (s.data.toList.drop k).length := by simp; omega
    rw [List.take_succ_eq_append_getElem hk, ih, btake, List.map_append]
    congr 1
    simp only [List.map_cons, List.map_nil, List.getElem_drop, List.cons.injEq, and_true]
    rw [bt_eq s (k + m) (by omega)]
    simp; rfl
theorem map_u8_inj : ∀ (l m : List Nat), (∀ x ∈ l, x < 256) → (∀ x ∈ m, x < 256) → l.map UInt8.ofNat = m.map UInt8.ofNat → l = m
  | [], [], _, _, _ => rfl
  | [], _ :: _, _, _, h => by simp at h
  | _ :: _, [], _, _, h => by simp at h
  | a :: l, b :: m, hl, hm, h => by
    simp only [List.map_cons, List.cons.injEq] at h
    have h1 := congrArg UInt8.toNat h.1
    have ha := hl a (by simp); have hb := hm b (by simp)
    simp [Nat.mod_eq_of_lt ha, Nat.mod_eq_of_lt hb] at h1
    rw [h1, map_u8_inj l m (fun x hx => hl x (by simp [hx])) (fun x hx => hm x (by simp [hx])) h.2]
theorem runeBytes_lt (n : Nat) : ∀ x ∈ runeBytes n, x < 256 := by
  intro x hx
  unfold runeBytes at hx
  split at hx
  · rename_i ho
    simp only [runeOkN, Bool.and_eq_true, decide_eq_true_eq] at ho
    split at hx
    · simp at hx; omega
    split at hx
    · simp at hx; omega
    split at hx
    · simp at hx; omega
    · simp at hx; omega
  · simp at hx
theorem btake_lt (s : ByteArray) (k : Nat) : ∀ m, ∀ x ∈ btake s k m, x < 256
  | 0, x, hx => by simp [btake] at hx
  | m + 1, x, hx => by
    simp only [btake, List.mem_append, List.mem_singleton] at hx
    rcases hx with hx | rfl
    · exact btake_lt s k m x hx
    · exact bt_lt _ _
/-- The last comparison of RuneAt. -/
theorem same_ext (s : ByteArray) (k n m : Nat) (h : k + m ≤ s.size) : (rtext (n : Int) == (s.extract k (k + m)).toList) = decide (runeBytes n = btake s k m) := by
  rw [btake_ext s k m h, rtext_nat, Bool.eq_iff_iff, beq_iff_eq, decide_eq_true_eq]
  exact ⟨map_u8_inj _ _ (runeBytes_lt n) (btake_lt s k m), fun e => by rw [e]⟩

end Go.Proofs.YtfblkmldonommaaDoor
