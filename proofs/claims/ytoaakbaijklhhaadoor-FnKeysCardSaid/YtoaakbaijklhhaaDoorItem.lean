/- ItemOf: contracts of both texts; the law. -/
import Derived.Test.YtoaakbaijklhhaaDoorInd
namespace Go.Proofs.YtoaakbaijklhhaaDoor
open Go.RowKit

def isItem (s : ByteArray) : Bool := decide (2 ≤ s.size) && (bt s 0 == 45 && bt s 1 == 32)
def isDash (s : ByteArray) : Bool := s.toList == [45]
def itA (s : ByteArray) : ByteArray := if isDash s = true then ⟨#[]⟩ else if isItem s = true then restB s 2 else ⟨#[]⟩
def itN (s : ByteArray) : Nat := if isDash s = true then 0 else if isItem s = true then 2 + ind (s.extract 2 s.size).data.toList else 0
def itB (s : ByteArray) : Bool := isDash s || isItem s
def ItemP (s : ByteArray) (w : World) (e : Ending) (w' : World) : Prop := e = .returned (.tuple #[.string (itA s), .int .i64 (itN s), .bool (itB s)]) ∧ Below w.heap.size w w'
theorem item_dash {s : ByteArray} {w w' : World} (h : isDash s = true) (hb : Below w.heap.size w w') : ItemP s w (.returned (.tuple #[.string ⟨#[]⟩, .int .i64 0, .bool true])) w' := by
  refine ⟨?_, hb⟩
  rw [itA, itN, itB, if_pos h, if_pos h, h]; rfl
theorem item_no {s : ByteArray} {w w' : World} (h : isDash s = false) (h2 : isItem s = false) (hb : Below w.heap.size w w') : ItemP s w (.returned (.tuple #[.string ⟨#[]⟩, .int .i64 0, .bool false])) w' := by
  refine ⟨?_, hb⟩
  rw [itA, itN, itB, h, h2]; rfl
theorem item_yes {s : ByteArray} {w w' : World} {t : ByteArray} {n : Int} (h : isDash s = false) (h2 : isItem s = true) (ht : t = restB s 2) (hn : n = ((2 + ind (s.extract 2 s.size).data.toList : Nat) : Int)) (hb : Below w.heap.size w w') : ItemP s w (.returned (.tuple #[.string t, .int .i64 n, .bool true])) w' := by
  subst ht hn
  refine ⟨?_, hb⟩
  rw [itA, itN, itB, h, h2]; rfl
theorem two_cons (s : ByteArray) (h : 2 ≤ s.size) : ∃ r, s.data.toList = s[0]'(by omega) :: s[1]'(by omega) :: r := by
  have hlen : s.data.toList.length = s.size := by simp
  have h1 : s.data.toList.drop 0 = _ := List.drop_eq_getElem_cons (i := 0) (l := s.data.toList) (by omega)
  have h2 : s.data.toList.drop 1 = _ := List.drop_eq_getElem_cons (i := 1) (l := s.data.toList) (by omega)
  exact ⟨s.data.toList.drop 2, h1.trans (congrArg _ h2)⟩
theorem beq_byte (a b : UInt8) : (b == a) = (a.toNat == b.toNat) := by
  by_cases h : a = b
  · subst h; simp
  · have : a.toNat ≠ b.toNat := fun e => h (UInt8.toNat_inj.1 e)
    rw [beq_eq_false_iff_ne.2 (Ne.symm h), beq_eq_false_iff_ne.2 this]
theorem pre_item (s : ByteArray) : Lib.hasPrefix s.data.toList [45, 32] = isItem s := by
  have hlen : s.data.toList.length = s.size := by simp
  by_cases h : 2 ≤ s.size
  · obtain ⟨r, hr⟩ := two_cons s h
    rw [hr, isItem, decide_eq_true h, bt_eq s 0 (by omega), bt_eq s 1 (by omega)]
    show ((45 : UInt8) == s[0] && ((32 : UInt8) == s[1] && true)) = _
    rw [beq_byte, beq_byte, Bool.and_true, Bool.true_and]
    rfl
  · rw [isItem, decide_eq_false h, Bool.false_and]
    match hm : s.data.toList with
    | [] => rfl
    | [b] => show ((45 : UInt8) == b && false) = false; simp
    | a :: b :: r => rw [hm] at hlen; simp at hlen; omega
theorem tail_ind (s : ByteArray) (h : isItem s = true) : ind (s.extract 1 s.size).data.toList = 1 + ind (s.extract 2 s.size).data.toList := by
  simp only [isItem, Bool.and_eq_true, decide_eq_true_eq, beq_iff_eq] at h
  obtain ⟨h2, -, h1⟩ := h
  obtain ⟨r, hr⟩ := two_cons s h2
  rw [bt_eq s 1 (by omega)] at h1
  have e1 : s[1] = 32 := UInt8.toNat_inj.1 h1
  rw [Lib.extract_from, Lib.extract_from, hr, e1]
  simp [ind_cons]
theorem tail_rest (s : ByteArray) (m : Nat) (hm : m = ind (s.extract 1 s.size).data.toList) (h : isItem s = true) : s.extract (1 + m) s.size = restB s 2 := by
  rw [tail_ind s h] at hm
  rw [restB, ext_drop, hm, Lib.extract_from]
  congr 2
  simp [List.drop_drop]
  congr 1
  omega

theorem iItemOf (s : ByteArray) (w : World) (hs : s.size ≤ 1048576) : Calls Tryd.prog 47 #[.string s] w (ItemP s w) := by
  cases hd : (s.toList == [45])
  rotate_left
  · have HD := Lib.hid (show isDash s = true from hd)
    go_enter Tryd.func47, Tryd.ntmps47
    go_wp2
    go_ret3
    exact item_dash HD.out (Below.refl _ _)
  have HD := Lib.hid (show isDash s = false from hd)
  have HP := Lib.hid (fun w0 => (show Calls Tryd.prog 71 #[.string s, .string ⟨#[45, 32]⟩] w0 fun e w' => e = .returned (.bool (isItem s)) ∧ w0 = w' by
    have h := Tryd.strings_HasPrefix s ⟨#[45, 32]⟩ w0
    refine h.mono fun e w' ⟨h1, h2⟩ => ⟨?_, h2.symm⟩
    rw [h1]
    exact congrArg (fun b => Ending.returned (.bool b)) (pre_item s)))
  cases hi : isItem s
  · have HI := Lib.hid hi
    rw [hi] at HP
    go_enter Tryd.func47, Tryd.ntmps47
    go_wp2_with (go_at_call 71; refine (HP.out _).mono ?_; rintro e w' ⟨rfl, rfl⟩)
    go_ret3
    exact item_no HD.out HI.out (Below.refl _ _)
  · have HI := Lib.hid hi
    rw [hi] at HP
    have h2 : 2 ≤ s.size := by
      simp only [isItem, Bool.and_eq_true, decide_eq_true_eq] at hi; omega
    have hsz := restB_size s 2 h2
    have HT := Lib.hid (fun w0 => iTrim (s.extract 2 s.size) w0)
    rw [rest_def] at HT
    obtain ⟨t, ht⟩ : ∃ t, t = restB s 2 := ⟨_, rfl⟩
    rw [← ht] at HT hsz
    have HTT := Lib.hid ht
    obtain ⟨m, hm⟩ : ∃ m, m = ind (s.extract 2 s.size).data.toList := ⟨_, rfl⟩
    rw [← hm] at hsz
    have HM := Lib.hid hm
    have h3 : (2 : Int) ≤ (s.size : Int) := by omega
    clear ht hm hi
    go_enter Tryd.func47, Tryd.ntmps47
    go_wp2_with (first | (go_at_call 71; refine (HP.out _).mono ?_; rintro e w' ⟨rfl, rfl⟩) | (go_at_call 72; refine (HT.out _).mono ?_; rintro e w' ⟨rfl, rfl⟩))
    go_ret3
    exact item_yes HD.out HI.out HTT.out (by rw [← HM.out]; omega) (Below.refl _ _)

end Go.Proofs.YtoaakbaijklhhaaDoor
