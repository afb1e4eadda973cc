/- Right trees: what TreeOk says, as data; the tests of one string, both texts. -/
import Derived.Test.YtbjialckijphiaaDoorUtf8I
import Derived.Test.YtbjialckijphiaaDoorTreeD
import Derived.Test.YtbjialckijphiaaDoorTreeS
namespace Go.Proofs.YtbjialckijphiaaDoor
open Go.RowKit

def textOkB (s : ByteArray) : Bool := decide (s.size ≤ 400) && (runesO s).isSome
def geT (a b : ByteArray) : Bool := !(Op.bytesLess a.toList b.toList)
def keyOkAt (l : List ByteArray) (i : Nat) : Bool := textOkB (strAt l i) && !(decide (0 < i) && geT (strAt l (i - 1)) (strAt l i))
def keysOkB (l : List ByteArray) : Bool := (List.range l.length).all (keyOkAt l)
def headB (t : Tr) : Bool :=
  betweenB t.kind 1 6 && (!(t.flag && t.kind != 2) && (!(t.num != 0 && t.kind != 3) && (!(!t.text.toList.isEmpty && t.kind != 4) && (!(decide (0 < t.keys.length) && t.kind != 6) && (!(decide (0 < t.kids.length) && decide (t.kind < 5)) && (textOkB t.text && !(t.kind == 6 && t.keys.length != t.kids.length)))))))
mutual
def shapeB : Tr → Bool
  | .mk k f n s keys kids => headB (.mk k f n s keys kids) && (keysOkB keys && shapeL kids)
def shapeL : List Tr → Bool
  | [] => true
  | t :: ts => shapeB t && shapeL ts
end
theorem shape_eq (t : Tr) : shapeB t = (headB t && (keysOkB t.keys && shapeL t.kids)) := by cases t; rfl
theorem shapeL_at : ∀ (l : List Tr), (∀ i, i < l.length → shapeB (kidAt l i) = true) → shapeL l = true
  | [], _ => rfl
  | t :: ts, h => by
    have h0 := h 0 (by simp)
    have ih := shapeL_at ts (fun i hi => h (i + 1) (by simpa using hi))
    rw [shapeL, ih, show shapeB t = true from h0]; rfl
theorem shapeL_not : ∀ (l : List Tr) (i : Nat), i < l.length → shapeB (kidAt l i) = false → shapeL l = false
  | [], i, h, _ => by simp at h
  | t :: ts, 0, _, h => by rw [shapeL, show shapeB t = false from h]; rfl
  | t :: ts, i + 1, hi, h => by rw [shapeL, shapeL_not ts i (by simpa using hi) h, Bool.and_false]
theorem shape_head {t : Tr} (h : headB t = false) : shapeB t = false := by rw [shape_eq, h]; rfl
theorem keys_no {l : List ByteArray} {k : Nat} (h : k < l.length) (e : keyOkAt l k = false) : keysOkB l = false := by
  rw [keysOkB, List.all_eq_false]; exact ⟨k, List.mem_range.2 h, by simp [e]⟩
theorem keys_yes {l : List ByteArray} (e : ∀ k, k < l.length → keyOkAt l k = true) : keysOkB l = true := by
  rw [keysOkB, List.all_eq_true]; exact fun x hx => e x (List.mem_range.1 hx)
def treeOkB (t : Tr) : Bool := decide (t.depth ≤ 8) && (decide (t.nodes ≤ 300) && shapeB t)

theorem sText (s : ByteArray) (w : World) : Calls Tryd.prog 33 #[.string s] w fun e w' => e = .returned (.bool (textOkB s)) ∧ Below w.heap.size w w' := by
  have HT : Hid (textOkB s = (decide (s.size ≤ 400) && (runesO s).isSome)) := rfl
  by_cases h : s.size ≤ 400
  · have hd : decide ((s.size : Int) ≤ 400) = true := decide_eq_true (by omega)
    have HU := Lib.hid (fun w0 => sUtf8Ok s w0 (by omega))
    go_enter Tryd.func33, Tryd.ntmps33
    go_wp2_with fail
    refine (HU.out _).mono ?_
    rintro e w1 ⟨rfl, hb1⟩
    go_wp2
    go_ret
    exact ⟨ret_bool (by rw [HT.out, decide_eq_true h, Bool.true_and]), hb1⟩
  · have hd : decide ((s.size : Int) ≤ 400) = false := decide_eq_false (by omega)
    go_enter Tryd.func33, Tryd.ntmps33
    go_wp2_with fail
    go_ret
    exact ⟨ret_bool (by rw [HT.out, decide_eq_false h, Bool.false_and]), Below.refl _ _⟩
theorem iText (s : ByteArray) (w : World) (hT : Tabs w) : Calls Tryd.prog 35 #[.string s] w fun e w' => e = .returned (.bool (textOkB s)) ∧ Below w.heap.size w w' := by
  have HT : Hid (textOkB s = (decide (s.size ≤ 400) && (runesO s).isSome)) := rfl
  have HV := Lib.hid hT; clear hT
  by_cases h : s.size ≤ 400
  · have hd : decide ((s.size : Int) ≤ 400) = true := decide_eq_true (by omega)
    have HU := Lib.hid (fun w0 hT => iUtf8Ok s w0 (by omega) hT)
    go_enter Tryd.func35, Tryd.ntmps35
    go_wp2_with fail
    refine (HU.out _ HV.out).mono ?_
    rintro e w1 ⟨rfl, hb1⟩
    go_wp2
    go_ret
    exact ⟨ret_bool (by rw [HT.out, decide_eq_true h, Bool.true_and]), hb1⟩
  · have hd : decide ((s.size : Int) ≤ 400) = false := decide_eq_false (by omega)
    go_enter Tryd.func35, Tryd.ntmps35
    go_wp2_with fail
    go_ret
    exact ⟨ret_bool (by rw [HT.out, decide_eq_false h, Bool.false_and]), Below.refl _ _⟩

end Go.Proofs.YtbjialckijphiaaDoor
