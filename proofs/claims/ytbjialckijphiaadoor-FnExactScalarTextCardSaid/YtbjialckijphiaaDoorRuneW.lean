/- Code points: the reference's texts. -/
import Derived.Test.YtbjialckijphiaaDoorMem
import Derived.Test.YtbjialckijphiaaDoorRuneP
import Derived.Test.YtbjialckijphiaaDoorConv
import Derived.Deep.QuietTactic
import Derived.BigQuiet
import Derived.Lib.ValidLaws
import Derived.Lib.TrimUEq
import Derived.Lib.RuneCount
import Derived.Laws.BytesString
import Derived.Laws.IdiomStrings
namespace Go.Proofs.YtbjialckijphiaaDoor
open Go.RowKit

def runeOkZ (n : Int) : Bool := betweenB n 0 1114111 && !betweenB n 55296 57343
theorem runeOkZ_nat (n : Nat) : runeOkZ (n : Int) = runeOkN n := by
  rw [Bool.eq_iff_iff]; simp [runeOkZ, runeOkN, betweenB]; omega
/-- The text of a code point, as bytes. -/
def rtext (n : Int) : List UInt8 := if 0 ≤ n then (runeBytes n.toNat).map UInt8.ofNat else []
theorem rtext_bad {n : Int} (h : runeOkZ n = false) : rtext n = [] := by
  unfold rtext
  split
  · obtain ⟨m, rfl⟩ := Int.eq_ofNat_of_zero_le (by assumption)
    rw [runeOkZ_nat] at h
    simp [runeBytes, h]
  · rfl

theorem sRuneOk (n : Int) (w : World) : Calls Tryd.prog 55 #[.int .i64 n] w fun e w' => e = .returned (.bool (runeOkZ n)) ∧ w = w' := by
  have H : Hid (runeOkZ n = (betweenB n 0 1114111 && !betweenB n 55296 57343)) := rfl
  cases h1 : betweenB n 0 1114111 <;> cases h2 : betweenB n 55296 57343
  all_goals
    go_enter Tryd.func55, Tryd.ntmps55
    go_wp2_with (go_at_call 32; refine (l01In_any _ _ _ _).mono ?_; rintro e w' ⟨rfl, rfl⟩)
    go_ret
    exact ⟨ret_bool (by rw [H.out, h1, h2]; rfl), rfl⟩

theorem rtext_nat (m : Nat) : rtext (m : Int) = (runeBytes m).map UInt8.ofNat := by simp [rtext]

set_option maxHeartbeats 1000000 in
set_option maxRecDepth 100000 in
theorem sRuneText (n : Int) (w : World) : Calls Tryd.prog 46 #[.int .i64 n] w fun e w' => e = .returned (.string ⟨(rtext n).toArray⟩) ∧ Below w.heap.size w w' := by
  cases hok : runeOkZ n
  · have hr := Lib.hid (rtext_bad hok)
    go_enter Tryd.func46, Tryd.ntmps46
    go_wp2_with (go_at_call 55; refine (sRuneOk _ _).mono ?_; rintro e w' ⟨rfl, rfl⟩)
    go_ret
    exact ⟨ret_str (by rw [hr.out]), Below.refl _ _⟩
  have hr : 0 ≤ n ∧ n ≤ 1114111 := by simp [runeOkZ, betweenB] at hok; omega
  obtain ⟨h0, h1⟩ := hr
  obtain ⟨m, rfl⟩ := Int.eq_ofNat_of_zero_le h0
  have ho : runeOkN m = true := by rw [← runeOkZ_nat]; exact hok
  have hR := Lib.hid (rtext_nat m)
  have HO := Lib.hid ho
  clear ho
  have k1 := conv1
  have k2 := conv2
  have k3 := conv3
  have k4 := conv4
  by_cases g1 : (m : Int) ≤ 127
  · go_enter Tryd.func46, Tryd.ntmps46
    go_wp2_with (go_at_call 55; refine (sRuneOk _ _).mono ?_; rintro e w' ⟨rfl, rfl⟩)
    go_ret
    exact ⟨ret_str (by rw [hR.out, runeBytes, if_pos HO.out, if_pos (by omega)]; rfl), by repeat (first | exact Below.refl _ _ | (refine Below.alloc ?_ (by first | omega | (simp; done) | (simp; omega)) _) | (refine Below.setCell ?_ (by first | omega | (simp; done) | (simp; omega)) _) | (refine Below.drew ?_) | (refine below_drewN ?_ _))⟩
  have g1' : (128 : Int) ≤ m := by omega
  have d1 : decide ((m : Int) < 128) = false := decide_eq_false (by omega)
  clear g1
  by_cases g2 : (m : Int) ≤ 2047
  · go_enter Tryd.func46, Tryd.ntmps46
    go_wp2_with (go_at_call 55; refine (sRuneOk _ _).mono ?_; rintro e w' ⟨rfl, rfl⟩)
    go_ret
    exact ⟨ret_str (by rw [hR.out, runeBytes, if_pos HO.out, if_neg (by omega), if_pos (by omega)]; rfl), by repeat (first | exact Below.refl _ _ | (refine Below.alloc ?_ (by first | omega | (simp; done) | (simp; omega)) _) | (refine Below.setCell ?_ (by first | omega | (simp; done) | (simp; omega)) _) | (refine Below.drew ?_) | (refine below_drewN ?_ _))⟩
  have g2' : (2048 : Int) ≤ m := by omega
  have d2 : decide ((m : Int) < 2048) = false := decide_eq_false (by omega)
  clear g2 g1'
  by_cases g3 : (m : Int) ≤ 65535
  · have d3 : decide ((m : Int) < 65536) = true := decide_eq_true (by omega)
    go_enter Tryd.func46, Tryd.ntmps46
    go_wp2_with (go_at_call 55; refine (sRuneOk _ _).mono ?_; rintro e w' ⟨rfl, rfl⟩)
    go_ret
    exact ⟨ret_str (by rw [hR.out, runeBytes, if_pos HO.out, if_neg (by omega), if_neg (by omega), if_pos (by omega)]; rfl), by repeat (first | exact Below.refl _ _ | (refine Below.alloc ?_ (by first | omega | (simp; done) | (simp; omega)) _) | (refine Below.setCell ?_ (by first | omega | (simp; done) | (simp; omega)) _) | (refine Below.drew ?_) | (refine below_drewN ?_ _))⟩
  · have g3' : (65536 : Int) ≤ m := by omega
    have d3 : decide ((m : Int) < 65536) = false := decide_eq_false (by omega)
    clear g3 g2'
    go_enter Tryd.func46, Tryd.ntmps46
    go_wp2_with (go_at_call 55; refine (sRuneOk _ _).mono ?_; rintro e w' ⟨rfl, rfl⟩)
    go_ret
    exact ⟨ret_str (by rw [hR.out, runeBytes, if_pos HO.out, if_neg (by omega), if_neg (by omega), if_neg (by omega)]; rfl), by repeat (first | exact Below.refl _ _ | (refine Below.alloc ?_ (by first | omega | (simp; done) | (simp; omega)) _) | (refine Below.setCell ?_ (by first | omega | (simp; done) | (simp; omega)) _) | (refine Below.drew ?_) | (refine below_drewN ?_ _))⟩

/-- What RuneAt answers. -/
def rAt (s : ByteArray) (k : Nat) : Nat × Nat := Utf8.decode s k
def rN (s : ByteArray) (p : Int) : Int := if 0 ≤ p ∧ p < s.size ∧ badD (rAt s p.toNat) = false then (rAt s p.toNat).1 else 0
def rNext (s : ByteArray) (p : Int) : Int := if 0 ≤ p ∧ p < s.size ∧ badD (rAt s p.toNat) = false then p + (rAt s p.toNat).2 else -1
theorem ret_at {a b c d : Int} (h : a = c) (k : b = d) : Ending.returned (.tuple #[.int .i64 a, .int .i64 b]) = .returned (.tuple #[.int .i64 c, .int .i64 d]) := by rw [h, k]

theorem btake_ext (s : ByteArray) (k m : Nat) (h : k + m ≤ s.size) : (s.extract k (k + m)).toList = (btake s k m).map UInt8.ofNat := by
  induction m with
  | zero => rw [Lib.extract_toList]; simp [btake]
  | succ m ih =>
    have ih := ih (by omega)
    rw [Lib.extract_toList] at ih ⊢
    rw [Nat.add_sub_cancel_left] at ih ⊢
    have hk : m < (s.data.toList.drop k).length := by simp; omega
    rw [List.take_succ_eq_append_getElem hk, ih, btake, List.map_append]
    congr 1
    simp only [List.map_cons, List.map_nil, List.getElem_drop, List.cons.injEq, and_true]
    rw [bt_eq s (k + m) (by omega)]
    simp; rfl
theorem map_u8_inj : ∀ (l m : List Nat), (∀ x ∈ l, x < 256) → (∀ x ∈ m, x < 256) → l.map UInt8.ofNat = m.map UInt8.ofNat → l = m
  | [], [], _, _, _ => rfl
  | [], _ :: _, _, _, h => by simp at h
  | _ :: _, [], _, _, h => by simp at h
  | a :: l, b :: m, hl, hm, h => by
    simp only [List.map_cons, List.cons.injEq] at h
    have h1 := congrArg UInt8.toNat h.1
    have ha := hl a (by simp); have hb := hm b (by simp)
    simp [Nat.mod_eq_of_lt ha, Nat.mod_eq_of_lt hb] at h1
    rw [h1, map_u8_inj l m (fun x hx => hl x (by simp [hx])) (fun x hx => hm x (by simp [hx])) h.2]
theorem runeBytes_lt (n : Nat) : ∀ x ∈ runeBytes n, x < 256 := by
  intro x hx
  unfold runeBytes at hx
  split at hx
  · rename_i ho
    simp only [runeOkN, Bool.and_eq_true, decide_eq_true_eq] at ho
    split at hx
    · simp at hx; omega
    split at hx
    · simp at hx; omega
    split at hx
    · simp at hx; omega
    · simp at hx; omega
  · simp at hx
theorem btake_lt (s : ByteArray) (k : Nat) : ∀ m, ∀ x ∈ btake s k m, x < 256
  | 0, x, hx => by simp [btake] at hx
  | m + 1, x, hx => by
    simp only [btake, List.mem_append, List.mem_singleton] at hx
    rcases hx with hx | rfl
    · exact btake_lt s k m x hx
    · exact bt_lt _ _
/-- The last comparison of RuneAt. -/
theorem same_ext (s : ByteArray) (k n m : Nat) (h : k + m ≤ s.size) : (rtext (n : Int) == (s.extract k (k + m)).toList) = decide (runeBytes n = btake s k m) := by
  rw [btake_ext s k m h, rtext_nat, Bool.eq_iff_iff, beq_iff_eq, decide_eq_true_eq]
  exact ⟨map_u8_inj _ _ (runeBytes_lt n) (btake_lt s k m), fun e => by rw [e]⟩

end Go.Proofs.YtbjialckijphiaaDoor
