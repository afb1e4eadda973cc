/- ScalT, IdtK, IdtS, IdtI, merged. -/
import Derived.Test.YtpcojfcbomkgpaaDoorTreeOk
import Derived.Test.YtpcojfcbomkgpaaDoorJB
import Derived.Test.YtpcojfcbomkgpaaDoorJC
import Derived.Test.YtpcojfcbomkgpaaDoorJA
import Derived.Deep.RegionLaw
namespace Go.Proofs.YtpcojfcbomkgpaaDoor
open Go.RowKit

def scalR (t : Tr) : Bool := decide (t.kids.length = 0) && treeOkB t
def scalS (t : Tr) : ByteArray := if scalR t = true then scalTB t.kind t.flag t.num t.text else ⟨#[]⟩
def ScalTV (t : Tr) (w : World) (e : Ending) (w' : World) : Prop := e = .returned (.tuple #[.string (scalS t), .bool (scalR t)]) ∧ Below w.heap.size w w'
theorem scalT_no {t : Tr} {w w' : World} (h : scalR t = false) (hb : Below w.heap.size w w') : ScalTV t w (.returned (.tuple #[.string ⟨#[]⟩, .bool false])) w' := ⟨by rw [scalS, h]; rfl, hb⟩
theorem scalT_yes {t : Tr} {w w' : World} {x : ByteArray} (h : scalR t = true) (hx : x = scalTB t.kind t.flag t.num t.text) (hb : Below w.heap.size w w') : ScalTV t w (.returned (.tuple #[.string x, .bool true])) w' := ⟨by rw [scalS, h, hx]; rfl, hb⟩

set_option maxRecDepth 100000 in
set_option maxHeartbeats 4000000 in
theorem sScalarText (t : Tr) (S : Nat → Prop) (vk vs : Value) (w : World) (hn : t.nodes ≤ 2000000) (hnu : t.nums) (ht : TreeIn w S t vk vs) :
    Calls Tryd.prog 145 #[.agg #[.int .i64 t.kind, .bool t.flag, .int .i64 t.num, .string t.text, vk, vs]] w (ScalTV t w) := by
  obtain ⟨hk0, hs0⟩ := treeIn_iff.1 ht
  obtain ⟨a1, m1, rfl⟩ := hk0.len
  obtain ⟨a2, m2, rfl⟩ := hs0.len
  have HB0 := Lib.hid (alloc_below w #[.int .i64 t.kind, .bool t.flag, .int .i64 t.num, .string t.text, .slice a1 t.keys.length m1, .slice a2 t.kids.length m2] 50)
  have HS0 := Lib.hid (Spill.new w t (.slice a1 t.keys.length m1) (.slice a2 t.kids.length m2) 50)
  obtain ⟨p0, p1, p2, p3, p4, p5⟩ := HS0.out.cells
  have HIN := Lib.hid (ht.keep HB0.out)
  have hok := sTreeOk t S _ _ _ hn HIN.out
  by_cases hk : 0 < t.kids.length
  · have H := Lib.hid (show scalR t = false by rw [scalR, decide_eq_false (by omega)]; rfl)
    have z1 : decide ((0 : Int) < (t.kids.length : Int)) = true := decide_eq_true (by omega)
    have z2 : decide (0 < t.kids.length) = true := decide_eq_true hk
    clear hok hnu hn ht hk0 hs0
    go_enter Tryd.func145, Tryd.ntmps145
    go_wp2_with fail
    go_ret2
    exact scalT_no H.out HB0.out
  have z1 : decide ((0 : Int) < (t.kids.length : Int)) = false := decide_eq_false (by omega)
  have z2 : decide (0 < t.kids.length) = false := decide_eq_false hk
  have HR : Hid (scalR t = (decide (t.kids.length = 0) && treeOkB t)) := rfl
  cases hokb : treeOkB t
  · have H := Lib.hid (show scalR t = false by rw [HR.out, hokb]; simp)
    rw [hokb] at hok
    have HOK := Lib.hid hok
    clear hok hnu hn ht hk0 hs0 hokb
    go_enter Tryd.func145, Tryd.ntmps145
    go_wp2_with (go_at_call 58; refine (HOK.out).mono ?_; rintro e w1 ⟨rfl, hb1⟩; have HS1 := Lib.hid (HS0.out.keep hb1); have HB1 := Lib.hid (bnext HB0.out hb1); have HI1 := Lib.hid (HIN.out.keep hb1); obtain ⟨q0, q1, q2, q3, q4, q5⟩ := HS1.out.cells)
    go_ret2
    exact scalT_no H.out HB1.out
  have H := Lib.hid (show scalR t = true by rw [HR.out, hokb, decide_eq_true (by omega)]; rfl)
  have hsh : shapeB t = true := by
    simp only [treeOkB, Bool.and_eq_true] at hokb; exact hokb.2.2
  rw [hokb] at hok
  have HOK := Lib.hid hok
  obtain ⟨k1, k2, k3, -⟩ := head_kind (shape_parts hsh).1
  have hts := text_size k3
  have hnb := nums_bd hnu
  have hsl : t.kind < 4 → (sayB t).length ≤ 100000000 := fun h => by
    rcases (show t.kind = 1 ∨ t.kind = 2 ∨ t.kind = 3 by omega) with e | e | e
    · rw [say_null e]; decide
    · cases hf : t.flag
      · rw [say_false e hf]; decide
      · rw [say_true e hf]; decide
    · rw [say_int e]; have := itoa_len t.num hnb; omega
  have HKD := Lib.hid (show t.kind < 4 → (⟨(sayB t).toArray⟩ : ByteArray) = scalTB t.kind t.flag t.num t.text from fun h => scal_say h k1)
  have HSH := Lib.hid (And.intro hsh (And.intro hnu (And.intro hn hsl)))
  have hkk : t.kind = 1 ∨ t.kind = 2 ∨ t.kind = 3 ∨ t.kind = 4 ∨ t.kind = 5 ∨ t.kind = 6 := by omega
  clear hok hsh hnu hn ht hk0 hs0 hokb hk k1 k2 k3 hsl
  rcases hkk with hk | hk | hk | hk | hk | hk
  · have k1 : (t.kind == 1) = true := kind_eqs t.kind 1 hk 1
    have k2 : (t.kind == 2) = false := kind_eqs t.kind 1 hk 2
    have k3 : (t.kind == 3) = false := kind_eqs t.kind 1 hk 3
    have k4 : (t.kind == 4) = false := kind_eqs t.kind 1 hk 4
    have k5 : (t.kind == 5) = false := kind_eqs t.kind 1 hk 5
    have k6 : (t.kind == 6) = false := kind_eqs t.kind 1 hk 6
    have HV := Lib.hid (scal_null (k := t.kind) (f := t.flag) (n := t.num) (s := t.text) hk)
    clear hk
    go_enter Tryd.func145, Tryd.ntmps145
    go_wp2_with (go_at_call 58; refine (HOK.out).mono ?_; rintro e w1 ⟨rfl, hb1⟩; have HS1 := Lib.hid (HS0.out.keep hb1); have HB1 := Lib.hid (bnext HB0.out hb1); have HI1 := Lib.hid (HIN.out.keep hb1); obtain ⟨q0, q1, q2, q3, q4, q5⟩ := HS1.out.cells)
    go_ret2
    exact scalT_yes H.out HV.out.symm HB1.out
  · have k1 : (t.kind == 1) = false := kind_eqs t.kind 2 hk 1
    have k2 : (t.kind == 2) = true := kind_eqs t.kind 2 hk 2
    have k3 : (t.kind == 3) = false := kind_eqs t.kind 2 hk 3
    have k4 : (t.kind == 4) = false := kind_eqs t.kind 2 hk 4
    have k5 : (t.kind == 5) = false := kind_eqs t.kind 2 hk 5
    have k6 : (t.kind == 6) = false := kind_eqs t.kind 2 hk 6
    rcases Bool.eq_false_or_eq_true t.flag with hf | hf
    all_goals
      have HF := Lib.hid hf
      clear hf
    · have HV := Lib.hid (scal_true (k := t.kind) (f := t.flag) (n := t.num) (s := t.text) hk HF.out)
      clear hk
      go_enter Tryd.func145, Tryd.ntmps145
      go_wp2_with (go_at_call 58; refine (HOK.out).mono ?_; rintro e w1 ⟨rfl, hb1⟩; have HS1 := Lib.hid (HS0.out.keep hb1); have HB1 := Lib.hid (bnext HB0.out hb1); obtain ⟨q0, q1, q2, q3, q4, q5⟩ := HS1.out.cells; rw [HF.out] at q1)
      go_ret2
      exact scalT_yes H.out HV.out.symm HB1.out
    · have HV := Lib.hid (scal_false (k := t.kind) (f := t.flag) (n := t.num) (s := t.text) hk HF.out)
      clear hk
      go_enter Tryd.func145, Tryd.ntmps145
      go_wp2_with (go_at_call 58; refine (HOK.out).mono ?_; rintro e w1 ⟨rfl, hb1⟩; have HS1 := Lib.hid (HS0.out.keep hb1); have HB1 := Lib.hid (bnext HB0.out hb1); obtain ⟨q0, q1, q2, q3, q4, q5⟩ := HS1.out.cells; rw [HF.out] at q1)
      go_ret2
      exact scalT_yes H.out HV.out.symm HB1.out
  · have k1 : (t.kind == 1) = false := kind_eqs t.kind 3 hk 1
    have k2 : (t.kind == 2) = false := kind_eqs t.kind 3 hk 2
    have k3 : (t.kind == 3) = true := kind_eqs t.kind 3 hk 3
    have k4 : (t.kind == 4) = false := kind_eqs t.kind 3 hk 4
    have k5 : (t.kind == 5) = false := kind_eqs t.kind 3 hk 5
    have k6 : (t.kind == 6) = false := kind_eqs t.kind 3 hk 6
    have HV := Lib.hid (scal_int (k := t.kind) (f := t.flag) (n := t.num) (s := t.text) hk)
    clear hk
    go_enter Tryd.func145, Tryd.ntmps145
    go_wp2_with (first | (go_at_call 58; refine (HOK.out).mono ?_; rintro e w1 ⟨rfl, hb1⟩; have HS1 := Lib.hid (HS0.out.keep hb1); have HB1 := Lib.hid (bnext HB0.out hb1); have HI1 := Lib.hid (HIN.out.keep hb1); obtain ⟨q0, q1, q2, q3, q4, q5⟩ := HS1.out.cells) | (go_at_call 179; refine (sDecimal t.num _ hnb.1 hnb.2).mono ?_; rintro e w2 ⟨rfl, hb2⟩))
    go_ret2
    exact scalT_yes H.out HV.out.symm (bnext HB1.out hb2)
  · have k1 : (t.kind == 1) = false := kind_eqs t.kind 4 hk 1
    have k2 : (t.kind == 2) = false := kind_eqs t.kind 4 hk 2
    have k3 : (t.kind == 3) = false := kind_eqs t.kind 4 hk 3
    have k4 : (t.kind == 4) = true := kind_eqs t.kind 4 hk 4
    have k5 : (t.kind == 5) = false := kind_eqs t.kind 4 hk 5
    have k6 : (t.kind == 6) = false := kind_eqs t.kind 4 hk 6
    have HV := Lib.hid (scal_text (k := t.kind) (f := t.flag) (n := t.num) (s := t.text) hk)
    clear hk
    go_enter Tryd.func145, Tryd.ntmps145
    go_wp2_with (first | (go_at_call 58; refine (HOK.out).mono ?_; rintro e w1 ⟨rfl, hb1⟩; have HS1 := Lib.hid (HS0.out.keep hb1); have HB1 := Lib.hid (bnext HB0.out hb1); have HI1 := Lib.hid (HIN.out.keep hb1); obtain ⟨q0, q1, q2, q3, q4, q5⟩ := HS1.out.cells) | (go_at_call 146; refine (sKeyText t.text _ (by omega)).mono ?_; rintro e w2 ⟨rfl, hb2⟩))
    go_ret2
    exact scalT_yes H.out HV.out.symm (bnext HB1.out hb2)
  · have k1 : (t.kind == 1) = false := kind_eqs t.kind 5 hk 1
    have k2 : (t.kind == 2) = false := kind_eqs t.kind 5 hk 2
    have k3 : (t.kind == 3) = false := kind_eqs t.kind 5 hk 3
    have k4 : (t.kind == 4) = false := kind_eqs t.kind 5 hk 4
    have k5 : (t.kind == 5) = true := kind_eqs t.kind 5 hk 5
    have k6 : (t.kind == 6) = false := kind_eqs t.kind 5 hk 6
    have HV := Lib.hid (scal_list (k := t.kind) (f := t.flag) (n := t.num) (s := t.text) hk)
    clear hk
    go_enter Tryd.func145, Tryd.ntmps145
    go_wp2_with (go_at_call 58; refine (HOK.out).mono ?_; rintro e w1 ⟨rfl, hb1⟩; have HS1 := Lib.hid (HS0.out.keep hb1); have HB1 := Lib.hid (bnext HB0.out hb1); have HI1 := Lib.hid (HIN.out.keep hb1); obtain ⟨q0, q1, q2, q3, q4, q5⟩ := HS1.out.cells)
    go_ret2
    exact scalT_yes H.out HV.out.symm HB1.out
  · have k1 : (t.kind == 1) = false := kind_eqs t.kind 6 hk 1
    have k2 : (t.kind == 2) = false := kind_eqs t.kind 6 hk 2
    have k3 : (t.kind == 3) = false := kind_eqs t.kind 6 hk 3
    have k4 : (t.kind == 4) = false := kind_eqs t.kind 6 hk 4
    have k5 : (t.kind == 5) = false := kind_eqs t.kind 6 hk 5
    have k6 : (t.kind == 6) = true := kind_eqs t.kind 6 hk 6
    have HV := Lib.hid (scal_map (k := t.kind) (f := t.flag) (n := t.num) (s := t.text) hk)
    clear hk
    go_enter Tryd.func145, Tryd.ntmps145
    go_wp2_with (go_at_call 58; refine (HOK.out).mono ?_; rintro e w1 ⟨rfl, hb1⟩; have HS1 := Lib.hid (HS0.out.keep hb1); have HB1 := Lib.hid (bnext HB0.out hb1); have HI1 := Lib.hid (HIN.out.keep hb1); obtain ⟨q0, q1, q2, q3, q4, q5⟩ := HS1.out.cells)
    go_ret2
    exact scalT_yes H.out HV.out.symm HB1.out

set_option maxRecDepth 100000 in
set_option maxHeartbeats 4000000 in
theorem iScalarText (t : Tr) (S : Nat → Prop) (vk vs : Value) (w : World) (hn : t.nodes ≤ 2000000) (hnu : t.nums) (ht : TreeIn w S t vk vs) (hT : Tabs w) (hP : Pows w) :
    Calls Tryd.prog 147 #[.agg #[.int .i64 t.kind, .bool t.flag, .int .i64 t.num, .string t.text, vk, vs]] w (ScalTV t w) := by
  have HT := Lib.hid (And.intro hT hP); clear hT hP
  obtain ⟨hk0, hs0⟩ := treeIn_iff.1 ht
  obtain ⟨a1, m1, rfl⟩ := hk0.len
  obtain ⟨a2, m2, rfl⟩ := hs0.len
  have HB0 := Lib.hid (alloc_below w #[.int .i64 t.kind, .bool t.flag, .int .i64 t.num, .string t.text, .slice a1 t.keys.length m1, .slice a2 t.kids.length m2] 50)
  have HS0 := Lib.hid (Spill.new w t (.slice a1 t.keys.length m1) (.slice a2 t.kids.length m2) 50)
  obtain ⟨p0, p1, p2, p3, p4, p5⟩ := HS0.out.cells
  have HIN := Lib.hid (ht.keep HB0.out)
  have hok := iTreeOk t S _ _ _ hn HIN.out (tabs_keep HT.out.1 HB0.out)
  by_cases hk : 0 < t.kids.length
  · have H := Lib.hid (show scalR t = false by rw [scalR, decide_eq_false (by omega)]; rfl)
    have z1 : decide ((0 : Int) < (t.kids.length : Int)) = true := decide_eq_true (by omega)
    have z2 : decide (0 < t.kids.length) = true := decide_eq_true hk
    clear hok hnu hn ht hk0 hs0
    go_enter Tryd.func147, Tryd.ntmps147
    go_wp2_with fail
    go_ret2
    exact scalT_no H.out HB0.out
  have z1 : decide ((0 : Int) < (t.kids.length : Int)) = false := decide_eq_false (by omega)
  have z2 : decide (0 < t.kids.length) = false := decide_eq_false hk
  have HR : Hid (scalR t = (decide (t.kids.length = 0) && treeOkB t)) := rfl
  cases hokb : treeOkB t
  · have H := Lib.hid (show scalR t = false by rw [HR.out, hokb]; simp)
    rw [hokb] at hok
    have HOK := Lib.hid hok
    clear hok hnu hn ht hk0 hs0 hokb
    go_enter Tryd.func147, Tryd.ntmps147
    go_wp2_with (go_at_call 51; refine (HOK.out).mono ?_; rintro e w1 ⟨rfl, hb1⟩; have HS1 := Lib.hid (HS0.out.keep hb1); have HB1 := Lib.hid (bnext HB0.out hb1); have HI1 := Lib.hid (HIN.out.keep hb1); obtain ⟨q0, q1, q2, q3, q4, q5⟩ := HS1.out.cells)
    go_ret2
    exact scalT_no H.out HB1.out
  have H := Lib.hid (show scalR t = true by rw [HR.out, hokb, decide_eq_true (by omega)]; rfl)
  have hsh : shapeB t = true := by
    simp only [treeOkB, Bool.and_eq_true] at hokb; exact hokb.2.2
  rw [hokb] at hok
  have HOK := Lib.hid hok
  obtain ⟨k1, k2, k3, -⟩ := head_kind (shape_parts hsh).1
  have hts := text_size k3
  have hnb := nums_bd hnu
  have hsl : t.kind < 4 → (sayB t).length ≤ 100000000 := fun h => by
    rcases (show t.kind = 1 ∨ t.kind = 2 ∨ t.kind = 3 by omega) with e | e | e
    · rw [say_null e]; decide
    · cases hf : t.flag
      · rw [say_false e hf]; decide
      · rw [say_true e hf]; decide
    · rw [say_int e]; have := itoa_len t.num hnb; omega
  have HKD := Lib.hid (show t.kind < 4 → (⟨(sayB t).toArray⟩ : ByteArray) = scalTB t.kind t.flag t.num t.text from fun h => scal_say h k1)
  have HSH := Lib.hid (And.intro hsh (And.intro hnu (And.intro hn hsl)))
  have hkk : t.kind = 1 ∨ t.kind = 2 ∨ t.kind = 3 ∨ t.kind = 4 ∨ t.kind = 5 ∨ t.kind = 6 := by omega
  clear hok hsh hnu hn ht hk0 hs0 hokb hk k1 k2 k3 hsl
  rcases hkk with hk | hk | hk | hk | hk | hk
  · have k1 : (t.kind == 1) = true := kind_eqs t.kind 1 hk 1
    have k2 : (t.kind == 2) = false := kind_eqs t.kind 1 hk 2
    have k3 : (t.kind == 3) = false := kind_eqs t.kind 1 hk 3
    have k4 : (t.kind == 4) = false := kind_eqs t.kind 1 hk 4
    have k5 : (t.kind == 5) = false := kind_eqs t.kind 1 hk 5
    have k6 : (t.kind == 6) = false := kind_eqs t.kind 1 hk 6
    have HV := Lib.hid (HKD.out (by omega))
    have HSY := Lib.hid (fun w0 (hb : Below w.heap.size w w0) (hi : TreeIn w0 S t (.slice a1 t.keys.length m1) (.slice a2 t.kids.length m2)) => iSay_1 t hk S _ _ w0 w0 _ [] HSH.out.2.2.1 HSH.out.1 HSH.out.2.1 hi (Buf.nil w0) (by have := HSH.out.2.2.2 (by omega); simpa using this) (tabs_keep HT.out.1 hb) (pows_keep HT.out.2 hb))
    clear hk
    go_enter Tryd.func147, Tryd.ntmps147
    go_wp2_with (first | (go_at_call 51; refine (HOK.out).mono ?_; rintro e w1 ⟨rfl, hb1⟩; have HS1 := Lib.hid (HS0.out.keep hb1); have HB1 := Lib.hid (bnext HB0.out hb1); have HI1 := Lib.hid (HIN.out.keep hb1); obtain ⟨q0, q1, q2, q3, q4, q5⟩ := HS1.out.cells) | (go_at_call 199; refine (HSY.out _ HB1.out HI1.out).mono ?_; rintro e w2 ⟨v2, rfl, hb2⟩; have hcv := hb2.buf.text; have hbel := hb2.buf.bel; rw [List.nil_append] at hcv))
    go_ret2
    exact scalT_yes H.out HV.out (bnext HB1.out hbel)
  · have k1 : (t.kind == 1) = false := kind_eqs t.kind 2 hk 1
    have k2 : (t.kind == 2) = true := kind_eqs t.kind 2 hk 2
    have k3 : (t.kind == 3) = false := kind_eqs t.kind 2 hk 3
    have k4 : (t.kind == 4) = false := kind_eqs t.kind 2 hk 4
    have k5 : (t.kind == 5) = false := kind_eqs t.kind 2 hk 5
    have k6 : (t.kind == 6) = false := kind_eqs t.kind 2 hk 6
    have HV := Lib.hid (HKD.out (by omega))
    have HSY := Lib.hid (fun w0 (hb : Below w.heap.size w w0) (hi : TreeIn w0 S t (.slice a1 t.keys.length m1) (.slice a2 t.kids.length m2)) => iSay_2 t hk S _ _ w0 w0 _ [] HSH.out.2.2.1 HSH.out.1 HSH.out.2.1 hi (Buf.nil w0) (by have := HSH.out.2.2.2 (by omega); simpa using this) (tabs_keep HT.out.1 hb) (pows_keep HT.out.2 hb))
    clear hk
    go_enter Tryd.func147, Tryd.ntmps147
    go_wp2_with (first | (go_at_call 51; refine (HOK.out).mono ?_; rintro e w1 ⟨rfl, hb1⟩; have HS1 := Lib.hid (HS0.out.keep hb1); have HB1 := Lib.hid (bnext HB0.out hb1); have HI1 := Lib.hid (HIN.out.keep hb1); obtain ⟨q0, q1, q2, q3, q4, q5⟩ := HS1.out.cells) | (go_at_call 199; refine (HSY.out _ HB1.out HI1.out).mono ?_; rintro e w2 ⟨v2, rfl, hb2⟩; have hcv := hb2.buf.text; have hbel := hb2.buf.bel; rw [List.nil_append] at hcv))
    go_ret2
    exact scalT_yes H.out HV.out (bnext HB1.out hbel)
  · have k1 : (t.kind == 1) = false := kind_eqs t.kind 3 hk 1
    have k2 : (t.kind == 2) = false := kind_eqs t.kind 3 hk 2
    have k3 : (t.kind == 3) = true := kind_eqs t.kind 3 hk 3
    have k4 : (t.kind == 4) = false := kind_eqs t.kind 3 hk 4
    have k5 : (t.kind == 5) = false := kind_eqs t.kind 3 hk 5
    have k6 : (t.kind == 6) = false := kind_eqs t.kind 3 hk 6
    have HV := Lib.hid (HKD.out (by omega))
    have HSY := Lib.hid (fun w0 (hb : Below w.heap.size w w0) (hi : TreeIn w0 S t (.slice a1 t.keys.length m1) (.slice a2 t.kids.length m2)) => iSay_3 t hk S _ _ w0 w0 _ [] HSH.out.2.2.1 HSH.out.1 HSH.out.2.1 hi (Buf.nil w0) (by have := HSH.out.2.2.2 (by omega); simpa using this) (tabs_keep HT.out.1 hb) (pows_keep HT.out.2 hb))
    clear hk
    go_enter Tryd.func147, Tryd.ntmps147
    go_wp2_with (first | (go_at_call 51; refine (HOK.out).mono ?_; rintro e w1 ⟨rfl, hb1⟩; have HS1 := Lib.hid (HS0.out.keep hb1); have HB1 := Lib.hid (bnext HB0.out hb1); have HI1 := Lib.hid (HIN.out.keep hb1); obtain ⟨q0, q1, q2, q3, q4, q5⟩ := HS1.out.cells) | (go_at_call 199; refine (HSY.out _ HB1.out HI1.out).mono ?_; rintro e w2 ⟨v2, rfl, hb2⟩; have hcv := hb2.buf.text; have hbel := hb2.buf.bel; rw [List.nil_append] at hcv))
    go_ret2
    exact scalT_yes H.out HV.out (bnext HB1.out hbel)
  · have k1 : (t.kind == 1) = false := kind_eqs t.kind 4 hk 1
    have k2 : (t.kind == 2) = false := kind_eqs t.kind 4 hk 2
    have k3 : (t.kind == 3) = false := kind_eqs t.kind 4 hk 3
    have k4 : (t.kind == 4) = true := kind_eqs t.kind 4 hk 4
    have k5 : (t.kind == 5) = false := kind_eqs t.kind 4 hk 5
    have k6 : (t.kind == 6) = false := kind_eqs t.kind 4 hk 6
    have HV := Lib.hid (scal_text (k := t.kind) (f := t.flag) (n := t.num) (s := t.text) hk)
    clear hk
    go_enter Tryd.func147, Tryd.ntmps147
    go_wp2_with (first | (go_at_call 51; refine (HOK.out).mono ?_; rintro e w1 ⟨rfl, hb1⟩; have HS1 := Lib.hid (HS0.out.keep hb1); have HB1 := Lib.hid (bnext HB0.out hb1); have HI1 := Lib.hid (HIN.out.keep hb1); obtain ⟨q0, q1, q2, q3, q4, q5⟩ := HS1.out.cells) | (go_at_call 148; refine (iKeyText t.text _ (by omega) (tabs_keep HT.out.1 HB1.out)).mono ?_; rintro e w2 ⟨rfl, hb2⟩))
    go_ret2
    exact scalT_yes H.out HV.out.symm (bnext HB1.out hb2)
  · have k1 : (t.kind == 1) = false := kind_eqs t.kind 5 hk 1
    have k2 : (t.kind == 2) = false := kind_eqs t.kind 5 hk 2
    have k3 : (t.kind == 3) = false := kind_eqs t.kind 5 hk 3
    have k4 : (t.kind == 4) = false := kind_eqs t.kind 5 hk 4
    have k5 : (t.kind == 5) = true := kind_eqs t.kind 5 hk 5
    have k6 : (t.kind == 6) = false := kind_eqs t.kind 5 hk 6
    have HV := Lib.hid (scal_list (k := t.kind) (f := t.flag) (n := t.num) (s := t.text) hk)
    clear hk
    go_enter Tryd.func147, Tryd.ntmps147
    go_wp2_with (go_at_call 51; refine (HOK.out).mono ?_; rintro e w1 ⟨rfl, hb1⟩; have HS1 := Lib.hid (HS0.out.keep hb1); have HB1 := Lib.hid (bnext HB0.out hb1); have HI1 := Lib.hid (HIN.out.keep hb1); obtain ⟨q0, q1, q2, q3, q4, q5⟩ := HS1.out.cells)
    go_ret2
    exact scalT_yes H.out HV.out.symm HB1.out
  · have k1 : (t.kind == 1) = false := kind_eqs t.kind 6 hk 1
    have k2 : (t.kind == 2) = false := kind_eqs t.kind 6 hk 2
    have k3 : (t.kind == 3) = false := kind_eqs t.kind 6 hk 3
    have k4 : (t.kind == 4) = false := kind_eqs t.kind 6 hk 4
    have k5 : (t.kind == 5) = false := kind_eqs t.kind 6 hk 5
    have k6 : (t.kind == 6) = true := kind_eqs t.kind 6 hk 6
    have HV := Lib.hid (scal_map (k := t.kind) (f := t.flag) (n := t.num) (s := t.text) hk)
    clear hk
    go_enter Tryd.func147, Tryd.ntmps147
    go_wp2_with (go_at_call 51; refine (HOK.out).mono ?_; rintro e w1 ⟨rfl, hb1⟩; have HS1 := Lib.hid (HS0.out.keep hb1); have HB1 := Lib.hid (bnext HB0.out hb1); have HI1 := Lib.hid (HIN.out.keep hb1); obtain ⟨q0, q1, q2, q3, q4, q5⟩ := HS1.out.cells)
    go_ret2
    exact scalT_yes H.out HV.out.symm HB1.out

end Go.Proofs.YtpcojfcbomkgpaaDoor
namespace Go.Proofs.YtpcojfcbomkgpaaDoor
open Go.RowKit

def sp2 : ByteArray := ⟨#[32, 32]⟩
/-- Lines, the first behind h, the others behind two blanks. -/
def pre2 (h : ByteArray) : List ByteArray → List ByteArray
  | [] => []
  | x :: r => (h ++ x) :: r.map twoSp
theorem pre2_len (h : ByteArray) : ∀ L : List ByteArray, (pre2 h L).length = L.length
  | [] => rfl
  | x :: r => by simp [pre2]
theorem take_strI (l : List ByteArray) (i : Nat) (h : i < l.length) : l.take (i + 1) = l.take i ++ [strAt l i] := by
  rw [List.take_succ_eq_append_getElem h, strAt, List.getD_eq_getElem?_getD, List.getElem?_eq_getElem h]; rfl
theorem pre2_take (h : ByteArray) : ∀ (L : List ByteArray) (j : Nat), j < L.length → pre2 h (L.take (j + 1)) = pre2 h (L.take j) ++ [(if j = 0 then h else sp2) ++ strAt L j]
  | [], _, h => by simp at h
  | x :: r, 0, _ => by rw [if_pos rfl]; rfl
  | x :: r, j + 1, hj => by
    rw [if_neg (by omega), List.take_succ_cons, List.take_succ_cons, pre2, pre2, take_strI r j (by simpa using hj), List.map_append]
    rfl
theorem entry_list {key : ByteArray} {leaf : Bool} {L : List ByteArray} (h : 0 < L.length) : entryL false key leaf L = pre2 ⟨#[45, 32]⟩ L := by
  cases L with
  | nil => simp at h
  | cons x r => rfl
theorem entry_leaf {key : ByteArray} {L : List ByteArray} : entryL true key true L = [(keyTextB key ++ ⟨#[58, 32]⟩) ++ strAt L 0] := rfl
theorem entry_map {key : ByteArray} {L : List ByteArray} : entryL true key false L = (keyTextB key ++ ⟨#[58]⟩) :: pre2 sp2 L := by
  cases L with
  | nil => rfl
  | cons x r => rfl
theorem depth_kidI : ∀ (l : List Tr) (k : Nat), k < l.length → (kidAt l k).depth ≤ depthL l
  | [], k, h => by simp at h
  | t :: ts, 0, _ => by rw [depthL]; show t.depth ≤ _; omega
  | t :: ts, k + 1, h => by
    have := depth_kidI ts k (by simpa using h)
    rw [depthL]
    have e : kidAt (t :: ts) (k + 1) = kidAt ts k := rfl
    rw [e]; omega
theorem ok_kid {t : Tr} (h : treeOkB t = true) {k : Nat} (hk : k < t.kids.length) : treeOkB (kidAt t.kids k) = true := by
  simp only [treeOkB, Bool.and_eq_true, decide_eq_true_eq] at h ⊢
  have h1 := depth_kidI t.kids k hk
  have h2 := nodes_kid t.kids k hk
  have h3 := depth_eq t
  have h4 := nodes_eq t
  exact ⟨by omega, by omega, shapeL_kid (shape_parts h.2.2).2.2 hk⟩
theorem rowS_of {e c : Nat} {W0 w w2 : World} {v : Value} {n : Nat} {xs : List Value} (h : RowB e c W0 w v n xs) (hb : Below w.heap.size w w2) : RowS e c w.heap.size w2.heap.size W0 w2 v n xs :=
  ⟨h.keep hb, fun b hb' => .inl (h.own.lt b hb').2, Nat.le_refl _⟩
theorem lines_of {w w2 : World} {lv : Value} {L : List ByteArray} (h : RowB 9 1 w w2 lv L.length (L.map Value.string)) : ∃ a cap fp, lv = .slice a L.length cap ∧ GFlat w2 w.heap.size w2.heap.size (.slice a L.length cap) L.length 1 (strF L) fp := by
  obtain ⟨a, cap, fp, rfl, h1, h2, -⟩ := h.sl (strCell L)
  exact ⟨a, cap, fp, rfl, GFlat.new h1 h2⟩
theorem row_fin {lo hi : Nat} {W0 w : World} {v : Value} {acc L : List ByteArray} {h0 : ByteArray} (h : RowS 9 1 lo hi W0 w v (acc.length + L.length) ((acc ++ pre2 h0 (L.take L.length)).map Value.string)) :
    RowB 9 1 W0 w v (acc ++ pre2 h0 L).length ((acc ++ pre2 h0 L).map Value.string) := by
  have := h.row
  rw [List.take_length] at this
  rw [List.length_append, pre2_len]; exact this
theorem row_more {lo hi : Nat} {W0 w : World} {v : Value} {acc L : List ByteArray} {h0 : ByteArray} {j : Nat} (hj : j < L.length) {H : ByteArray} (hH : H = if j = 0 then h0 else sp2)
    (h : RowS 9 1 lo hi W0 w v (acc.length + j + 1) ((acc ++ pre2 h0 (L.take j)).map Value.string ++ [.string (H ++ strAt L j)])) :
    RowS 9 1 lo hi W0 w v (acc.length + (j + 1)) ((acc ++ pre2 h0 (L.take (j + 1))).map Value.string) := by
  rw [pre2_take h0 L j hj, ← hH, ← List.append_assoc, List.map_append]; exact h
theorem kind_two {t : Tr} (h : shapeB t = true) (hk : 0 < t.kids.length) : t.kind = 5 ∨ t.kind = 6 := by
  obtain ⟨h1, h2, -, -, h5, -⟩ := head_kind (shape_parts h).1
  by_cases h6 : t.kind < 5
  · have := h5 h6; omega
  · omega
theorem idt_len {t : Tr} (h : treeOkB t = true) (hn : t.nums) : (linesT t).length ≤ 600 ∧ 0 < (linesT t).length ∧ ∀ i, (strAt (linesT t) i).size ≤ 1500000 := by
  simp only [treeOkB, Bool.and_eq_true, decide_eq_true_eq] at h
  obtain ⟨a, b, c⟩ := linesT_len t h.2.2 hn
  exact ⟨by omega, b, strAt_le fun l hl => by have := c l hl; omega⟩

end Go.Proofs.YtpcojfcbomkgpaaDoor
namespace Go.Proofs.YtpcojfcbomkgpaaDoor
open Go.RowKit

def IdtS (N : Nat) : Prop := ∀ (t : Tr) (S : Nat → Prop) (vk vs : Value) (w : World), t.nodes ≤ N → treeOkB t = true → t.nums → TreeIn w S t vk vs →
    Calls Tryd.prog 92 #[.agg #[.int .i64 t.kind, .bool t.flag, .int .i64 t.num, .string t.text, vk, vs]] w (fun e w' => ∃ v, e = .returned v ∧ RowB 9 1 w w' v (linesT t).length ((linesT t).map Value.string))

set_option maxRecDepth 100000 in
set_option maxHeartbeats 8000000 in
theorem sIdt_leaf (t : Tr) (S : Nat → Prop) (vk vs : Value) (w : World) (hk : t.kids.length = 0) (hok : treeOkB t = true) (hnu : t.nums) (ht : TreeIn w S t vk vs) :
    Calls Tryd.prog 92 #[.agg #[.int .i64 t.kind, .bool t.flag, .int .i64 t.num, .string t.text, vk, vs]] w (fun e w' => ∃ v, e = .returned v ∧ RowB 9 1 w w' v (linesT t).length ((linesT t).map Value.string)) := by
  obtain ⟨hk0, hs0⟩ := treeIn_iff.1 ht
  obtain ⟨a1, m1, rfl⟩ := hk0.len
  obtain ⟨a2, m2, rfl⟩ := hs0.len
  have hsh : shapeB t = true := by simp only [treeOkB, Bool.and_eq_true] at hok; exact hok.2.2
  have hnn : t.nodes ≤ 300 := by simp only [treeOkB, Bool.and_eq_true, decide_eq_true_eq] at hok; exact hok.2.1
  have HB0 := Lib.hid (alloc_below w #[.int .i64 t.kind, .bool t.flag, .int .i64 t.num, .string t.text, .slice a1 t.keys.length m1, .slice a2 t.kids.length m2] 50)
  have HS0 := Lib.hid (Spill.new w t (.slice a1 t.keys.length m1) (.slice a2 t.kids.length m2) 50)
  have HIN := Lib.hid (ht.keep HB0.out)
  obtain ⟨p0, p1, p2, p3, p4, p5⟩ := HS0.out.cells
  have H := Lib.hid (lines_leaf hk)
  have HSC := Lib.hid (fun w0 hin => sScalarText t S (.slice a1 t.keys.length m1) (.slice a2 t.kids.length m2) w0 (by omega) hnu hin)
  have hr : scalR t = true := by rw [scalR, hok, decide_eq_true hk]; rfl
  have hs : scalS t = scalTB t.kind t.flag t.num t.text := by rw [scalS, hr]; rfl
  unfold ScalTV at HSC
  rw [hr, hs] at HSC
  generalize scalTB t.kind t.flag t.num t.text = X at HSC H
  have z1 : ((t.kids.length : Int) == 0) = true := by rw [hk]; rfl
  clear hr hs hok hnu hsh hk0 hs0 ht hk
  have hz0 : (w.alloc (.cells #[.int .i64 t.kind, .bool t.flag, .int .i64 t.num, .string t.text, .slice a1 t.keys.length m1, .slice a2 t.kids.length m2] 50)).heap.size = w.heap.size + 1 := World.size_alloc ..
  have HR0 := Lib.hid (show RowB 9 1 (w.alloc (.cells #[.int .i64 t.kind, .bool t.flag, .int .i64 t.num, .string t.text, .slice a1 t.keys.length m1, .slice a2 t.kids.length m2] 50)) ((w.alloc (.cells #[.int .i64 t.kind, .bool t.flag, .int .i64 t.num, .string t.text, .slice a1 t.keys.length m1, .slice a2 t.kids.length m2] 50)).alloc (.cells #[] 9)) (.slice (some ⟨w.heap.size + 1, 0, none⟩) 0 0) 0 [] from by have := RowB.start 9 1 (w.alloc (.cells #[.int .i64 t.kind, .bool t.flag, .int .i64 t.num, .string t.text, .slice a1 t.keys.length m1, .slice a2 t.kids.length m2] 50)) #[] rfl; rw [hz0] at this; exact this)
  clear hz0
  go_enter Tryd.func92, Tryd.ntmps92
  go_wp2_with fail
  refine (HSC.out _ (HIN.out.keep ((Below.refl _ _).alloc (Nat.le_refl _) _))).mono ?_
  rintro e w1 ⟨rfl, hb1⟩
  have HR1 := Lib.hid (HR0.out.keep hb1); clear hb1
  go_wp2_with (at_builtin; refine wpList_row Tryd.elStr (by rfl) _ _ (by rfl) _ _ _ [.string X] (w.alloc (.cells #[.int .i64 t.kind, .bool t.flag, .int .i64 t.num, .string t.text, .slice a1 t.keys.length m1, .slice a2 t.kids.length m2] 50)) _ (by rfl) HR1.out _ 1 1 (by rfl) rfl (by simp [Value.oneCell']) (by rfl) (by omega) ?_; intro v' w' hrow')
  go_ret
  exact ⟨_, rfl, by rw [H.out]; exact hrow'.since HB0.out⟩

set_option maxRecDepth 100000 in
set_option maxHeartbeats 8000000 in
theorem sIdt_list (N : Nat) (hIH : IdtS N) (t : Tr) (S : Nat → Prop) (vk vs : Value) (w : World) (hk : t.kind = 5) (h0 : 0 < t.kids.length) (hN : t.nodes ≤ N + 1) (hok : treeOkB t = true) (hnu : t.nums) (ht : TreeIn w S t vk vs) :
    Calls Tryd.prog 92 #[.agg #[.int .i64 t.kind, .bool t.flag, .int .i64 t.num, .string t.text, vk, vs]] w (fun e w' => ∃ v, e = .returned v ∧ RowB 9 1 w w' v (linesT t).length ((linesT t).map Value.string)) := by
  obtain ⟨hk0, hs0⟩ := treeIn_iff.1 ht
  obtain ⟨a1, m1, rfl⟩ := hk0.len
  obtain ⟨a2, m2, rfl⟩ := hs0.len
  have hsh : shapeB t = true := by simp only [treeOkB, Bool.and_eq_true] at hok; exact hok.2.2
  have hnn : t.nodes ≤ 300 := by simp only [treeOkB, Bool.and_eq_true, decide_eq_true_eq] at hok; exact hok.2.1
  have HB0 := Lib.hid (alloc_below w #[.int .i64 t.kind, .bool t.flag, .int .i64 t.num, .string t.text, .slice a1 t.keys.length m1, .slice a2 t.kids.length m2] 50)
  have HS0 := Lib.hid (Spill.new w t (.slice a1 t.keys.length m1) (.slice a2 t.kids.length m2) 50)
  have HIN := Lib.hid (ht.keep HB0.out)
  have IH := Lib.hid hIH; clear hIH
  have HN := Lib.hid (show nodesL t.kids ≤ N by have := nodes_eq t; omega)
  have hkl2 : t.kids.length ≤ 300 := by have := nodes_eq t; have := len_nodes t.kids; omega
  have hlw := idt_len hok hnu
  have hll : (linesT t).length ≤ 600 := hlw.1
  have HST := Lib.hid (linesAt_start false t.keys t.kids)
  have HE := Lib.hid (show linesT t = linesK false t.keys 0 t.kids by rw [lines_node h0, hk]; rfl)
  rw [HE.out] at hll
  generalize linesK false t.keys 0 t.kids = ALL at HST HE hll
  have HOK := Lib.hid (fun (k : Nat) (h : k < t.kids.length) => ok_kid hok h)
  have HNU := Lib.hid (fun (k : Nat) (h : k < t.kids.length) => nums_kid t.kids k h ((nums_iff t).1 hnu).2)
  have hkey := (shape_parts hsh).2.1
  have HKZ := Lib.hid (fun i => key_size hkey i)
  have HKL := Lib.hid (show t.kind = 6 → t.keys.length = t.kids.length from (head_kind (shape_parts hsh).1).2.2.2.1)
  have HKK := Lib.hid hk
  have z0 : ((t.kids.length : Int) == 0) = false := by rw [beq_eq_false_iff_ne]; omega
  have z5 : (t.kind == 5) = true := kind_eqs t.kind 5 hk 5
  have z6 : (t.kind == 6) = false := kind_eqs t.kind 5 hk 6
  have hz0 : (w.alloc (.cells #[.int .i64 t.kind, .bool t.flag, .int .i64 t.num, .string t.text, .slice a1 t.keys.length m1, .slice a2 t.kids.length m2] 50)).heap.size = w.heap.size + 1 := World.size_alloc ..
  have HR0 := Lib.hid (show RowB 9 1 (w.alloc (.cells #[.int .i64 t.kind, .bool t.flag, .int .i64 t.num, .string t.text, .slice a1 t.keys.length m1, .slice a2 t.kids.length m2] 50)) ((w.alloc (.cells #[.int .i64 t.kind, .bool t.flag, .int .i64 t.num, .string t.text, .slice a1 t.keys.length m1, .slice a2 t.kids.length m2] 50)).alloc (.cells #[] 9)) (.slice (some ⟨w.heap.size + 1, 0, none⟩) 0 0) 0 [] from by have := RowB.start 9 1 (w.alloc (.cells #[.int .i64 t.kind, .bool t.flag, .int .i64 t.num, .string t.text, .slice a1 t.keys.length m1, .slice a2 t.kids.length m2] 50)) #[] rfl; rw [hz0] at this; exact this)
  obtain ⟨p0, p1, p2, p3, p4, p5⟩ := HS0.out.cells
  clear hok hnu hsh hk0 hs0 ht hk hlw hkey hz0 hN
  go_enter Tryd.func92, Tryd.ntmps92
  go_wp2
  clear p0 p1 p2 p3 p4 p5 z0
  generalize hW0 : w.alloc (.cells #[.int .i64 t.kind, .bool t.flag, .int .i64 t.num, .string t.text, .slice a1 t.keys.length m1, .slice a2 t.kids.length m2] 50) = W0 at HB0 HS0 HIN HR0 ⊢
  clear hW0
  go_loopw [3, 6] (fun v i wr => ∃ (k : Nat) (acc : List ByteArray), k ≤ t.kids.length ∧ i = .int .i64 k ∧ Hid (RowB 9 1 W0 wr v acc.length (acc.map Value.string)) ∧ Hid (LinesAt false t.keys t.kids k acc ALL)) (fun _ i _ => t.kids.length - (intOf i).toNat)
  case atStart => exact ⟨0, [], by omega, rfl, HR0, HST⟩
  case round =>
    obtain ⟨k, acc, hk, rfl, HR, HST⟩ := hrel
    obtain ⟨wo, hwo⟩ : ∃ wo : World, wo = wr := ⟨_, rfl⟩
    subst hwo
    have HSP := Lib.hid (HS0.out.keep HR.out.bel)
    obtain ⟨p0, p1, p2, p3, p4, p5⟩ := HSP.out.cells
    by_cases hlt : k < t.kids.length
    rotate_left
    · obtain rfl : k = t.kids.length := by omega
      have H := Lib.hid (linesAt_end HST.out (Nat.le_refl _))
      go_wp2
      go_ret
      exact ⟨_, rfl, by rw [HE.out, ← H.out]; exact HR.out.since HB0.out⟩
    have HIW := Lib.hid (HIN.out.keep HR.out.bel)
    obtain ⟨hk1, hs1⟩ := treeIn_iff.1 HIW.out
    obtain ⟨b, o, vk', vs', rfl, ⟨c0, c1, c2, c3, c4, c5⟩, hin⟩ := hs1.at hlt
    obtain ⟨hk', hs'⟩ := treeIn_iff.1 hin
    obtain ⟨b1, n1, rfl⟩ := hk'.len
    obtain ⟨b2, n2, rfl⟩ := hs'.len
    clear hk' hs'
    have hlb := lt_of_cell c0
    have hstep := linesAt_step HST.out hlt
    have hacc := linesAt_len hstep
    simp only [List.length_append] at hacc
    obtain ⟨hL1, hL2, hL3⟩ := idt_len (HOK.out k hlt) (HNU.out k hlt)
    have hnk := nodes_kid t.kids k hlt
    have HCALL := Lib.hid (fun w0 hin => IH.out (kidAt t.kids k) S (.slice b1 (kidAt t.kids k).keys.length n1) (.slice b2 (kidAt t.kids k).kids.length n2) w0 (by have := HN.out; omega) (HOK.out k hlt) (HNU.out k hlt) hin)
    have HLT := Lib.hid (show 0 < (kidAt t.kids k).kids.length ∨ (kidAt t.kids k).kids.length = 0 by omega)
    have hkk : (kidAt t.kids k).kids.isEmpty = decide ((kidAt t.kids k).kids.length = 0) := by cases (kidAt t.kids k).kids <;> rfl
    rw [entry_list hL2] at hstep hacc
    rw [pre2_len] at hacc
    have HSTEP := Lib.hid hstep; have HL3 := Lib.hid hL3; have HIN2 := Lib.hid hin
    clear hstep hL3 hin hnk hk1 hs1
    go_wp2_with fail
    refine (HCALL.out _ HIN2.out).mono ?_
    rintro e w2 ⟨lv, rfl, hrow2⟩
    have HBC := Lib.hid hrow2.bel
    obtain ⟨a, cap, fp, rfl, hG⟩ := lines_of hrow2
    have HRS := Lib.hid (rowS_of HR.out HBC.out)
    have HG := Lib.hid hG
    clear hG hrow2
    clear c0 c1 c2 c3 c4
    have c5 := bkeep HBC.out c5
    clear p0 p1 p2 p3 p4 p5
    have HSP2 := Lib.hid (HSP.out.keep HBC.out)
    obtain ⟨p0, p1, p2, p3, p4, p5⟩ := HSP2.out.cells
    clear p1 p2 p3
    generalize linesT (kidAt t.kids k) = L at *
    go_wp2_with fail
    go_loopw [3, 8, 9] (fun v hd i wv => ∃ (j : Nat) (H : ByteArray), i = .int .i64 j ∧ hd = .string H ∧ j ≤ L.length ∧ H.size ≤ 2 ∧ Hid (H = if j = 0 then (⟨#[45, 32]⟩ : ByteArray) else sp2) ∧ Hid (RowS 9 1 wo.heap.size w2.heap.size W0 wv v (acc.length + j) ((acc ++ pre2 (⟨#[45, 32]⟩ : ByteArray) (L.take j)).map Value.string)) ∧ Hid (GFlat wv wo.heap.size w2.heap.size (.slice a L.length cap) L.length 1 (strF L) fp)) (fun _ _ i _ => L.length - (intOf i).toNat)
    case atStart => exact ⟨0, ⟨#[45, 32]⟩, rfl, rfl, by omega, by decide, Lib.hid rfl, Lib.hid (by simpa [pre2] using HRS.out), HG⟩
    case round =>
      obtain ⟨j, H, rfl, rfl, hj, hHz, HH, HRS, HG⟩ := hrel
      by_cases hjl : j < L.length
      · obtain ⟨bl, ol, rfl, hcl⟩ := HG.out.own.sl.at (by omega)
        have l0 := hcl j hjl 0 (by omega)
        simp only [Nat.mul_one, Nat.add_zero, strF] at l0
        have hls := HL3.out j
        have hlr := lt_of_cell l0
        clear hcl
        go_wp2_with (at_builtin; refine wpList_rowS Tryd.elStr (by rfl) _ _ (by rfl) _ _ _ [.string (H ++ strAt L j)] W0 _ (by rfl) HRS.out _ 1 1 (by rfl) rfl (by simp [Value.oneCell']) (by rfl) (by omega) ?_; intro v' w' hrow' hg'; have HG' := Lib.hid (GFlat.grown (HRS.out.alloc _) hg' (HG.out.keep ((Below.refl _ _).alloc (Nat.le_refl _) _))))
        go_roundw
        case rel => exact ⟨j + 1, sp2, by go_num, rfl, by omega, by decide, Lib.hid (by rw [if_neg (by omega)]), Lib.hid (row_more hjl HH.out hrow'), HG'⟩
        case measure => simp [intOf] <;> omega
      · obtain rfl : j = L.length := by omega
        go_wp2
        go_roundw
        case rel => exact ⟨k + 1, _, by omega, by go_num, Lib.hid (row_fin HRS.out), HSTEP⟩
        case measure => simp [intOf] <;> omega

set_option maxRecDepth 100000 in
set_option maxHeartbeats 8000000 in
theorem sIdt_map (N : Nat) (hIH : IdtS N) (t : Tr) (S : Nat → Prop) (vk vs : Value) (w : World) (hk : t.kind = 6) (h0 : 0 < t.kids.length) (hN : t.nodes ≤ N + 1) (hok : treeOkB t = true) (hnu : t.nums) (ht : TreeIn w S t vk vs) :
    Calls Tryd.prog 92 #[.agg #[.int .i64 t.kind, .bool t.flag, .int .i64 t.num, .string t.text, vk, vs]] w (fun e w' => ∃ v, e = .returned v ∧ RowB 9 1 w w' v (linesT t).length ((linesT t).map Value.string)) := by
  obtain ⟨hk0, hs0⟩ := treeIn_iff.1 ht
  obtain ⟨a1, m1, rfl⟩ := hk0.len
  obtain ⟨a2, m2, rfl⟩ := hs0.len
  have hsh : shapeB t = true := by simp only [treeOkB, Bool.and_eq_true] at hok; exact hok.2.2
  have hnn : t.nodes ≤ 300 := by simp only [treeOkB, Bool.and_eq_true, decide_eq_true_eq] at hok; exact hok.2.1
  have HB0 := Lib.hid (alloc_below w #[.int .i64 t.kind, .bool t.flag, .int .i64 t.num, .string t.text, .slice a1 t.keys.length m1, .slice a2 t.kids.length m2] 50)
  have HS0 := Lib.hid (Spill.new w t (.slice a1 t.keys.length m1) (.slice a2 t.kids.length m2) 50)
  have HIN := Lib.hid (ht.keep HB0.out)
  have IH := Lib.hid hIH; clear hIH
  have HN := Lib.hid (show nodesL t.kids ≤ N by have := nodes_eq t; omega)
  have hkl2 : t.kids.length ≤ 300 := by have := nodes_eq t; have := len_nodes t.kids; omega
  have hlw := idt_len hok hnu
  have hll : (linesT t).length ≤ 600 := hlw.1
  have HST := Lib.hid (linesAt_start true t.keys t.kids)
  have HE := Lib.hid (show linesT t = linesK true t.keys 0 t.kids by rw [lines_node h0, hk]; rfl)
  rw [HE.out] at hll
  generalize linesK true t.keys 0 t.kids = ALL at HST HE hll
  have HOK := Lib.hid (fun (k : Nat) (h : k < t.kids.length) => ok_kid hok h)
  have HNU := Lib.hid (fun (k : Nat) (h : k < t.kids.length) => nums_kid t.kids k h ((nums_iff t).1 hnu).2)
  have hkey := (shape_parts hsh).2.1
  have HKZ := Lib.hid (fun i => key_size hkey i)
  have HKL := Lib.hid (show t.kind = 6 → t.keys.length = t.kids.length from (head_kind (shape_parts hsh).1).2.2.2.1)
  have HKK := Lib.hid hk
  have z0 : ((t.kids.length : Int) == 0) = false := by rw [beq_eq_false_iff_ne]; omega
  have z5 : (t.kind == 5) = false := kind_eqs t.kind 6 hk 5
  have z6 : (t.kind == 6) = true := kind_eqs t.kind 6 hk 6
  have hz0 : (w.alloc (.cells #[.int .i64 t.kind, .bool t.flag, .int .i64 t.num, .string t.text, .slice a1 t.keys.length m1, .slice a2 t.kids.length m2] 50)).heap.size = w.heap.size + 1 := World.size_alloc ..
  have HR0 := Lib.hid (show RowB 9 1 (w.alloc (.cells #[.int .i64 t.kind, .bool t.flag, .int .i64 t.num, .string t.text, .slice a1 t.keys.length m1, .slice a2 t.kids.length m2] 50)) ((w.alloc (.cells #[.int .i64 t.kind, .bool t.flag, .int .i64 t.num, .string t.text, .slice a1 t.keys.length m1, .slice a2 t.kids.length m2] 50)).alloc (.cells #[] 9)) (.slice (some ⟨w.heap.size + 1, 0, none⟩) 0 0) 0 [] from by have := RowB.start 9 1 (w.alloc (.cells #[.int .i64 t.kind, .bool t.flag, .int .i64 t.num, .string t.text, .slice a1 t.keys.length m1, .slice a2 t.kids.length m2] 50)) #[] rfl; rw [hz0] at this; exact this)
  obtain ⟨p0, p1, p2, p3, p4, p5⟩ := HS0.out.cells
  clear hok hnu hsh hk0 hs0 ht hk hlw hkey hz0 hN
  go_enter Tryd.func92, Tryd.ntmps92
  go_wp2
  clear p0 p1 p2 p3 p4 p5 z0
  generalize hW0 : w.alloc (.cells #[.int .i64 t.kind, .bool t.flag, .int .i64 t.num, .string t.text, .slice a1 t.keys.length m1, .slice a2 t.kids.length m2] 50) = W0 at HB0 HS0 HIN HR0 ⊢
  clear hW0
  go_loopw [3, 6] (fun v i wr => ∃ (k : Nat) (acc : List ByteArray), k ≤ t.kids.length ∧ i = .int .i64 k ∧ Hid (RowB 9 1 W0 wr v acc.length (acc.map Value.string)) ∧ Hid (LinesAt true t.keys t.kids k acc ALL)) (fun _ i _ => t.kids.length - (intOf i).toNat)
  case atStart => exact ⟨0, [], by omega, rfl, HR0, HST⟩
  case round =>
    obtain ⟨k, acc, hk, rfl, HR, HST⟩ := hrel
    obtain ⟨wo, hwo⟩ : ∃ wo : World, wo = wr := ⟨_, rfl⟩
    subst hwo
    have HSP := Lib.hid (HS0.out.keep HR.out.bel)
    obtain ⟨p0, p1, p2, p3, p4, p5⟩ := HSP.out.cells
    by_cases hlt : k < t.kids.length
    rotate_left
    · obtain rfl : k = t.kids.length := by omega
      have H := Lib.hid (linesAt_end HST.out (Nat.le_refl _))
      go_wp2
      go_ret
      exact ⟨_, rfl, by rw [HE.out, ← H.out]; exact HR.out.since HB0.out⟩
    have HIW := Lib.hid (HIN.out.keep HR.out.bel)
    obtain ⟨hk1, hs1⟩ := treeIn_iff.1 HIW.out
    obtain ⟨b, o, vk', vs', rfl, ⟨c0, c1, c2, c3, c4, c5⟩, hin⟩ := hs1.at hlt
    obtain ⟨hk', hs'⟩ := treeIn_iff.1 hin
    obtain ⟨b1, n1, rfl⟩ := hk'.len
    obtain ⟨b2, n2, rfl⟩ := hs'.len
    clear hk' hs'
    have hlb := lt_of_cell c0
    have hstep := linesAt_step HST.out hlt
    have hacc := linesAt_len hstep
    simp only [List.length_append] at hacc
    obtain ⟨hL1, hL2, hL3⟩ := idt_len (HOK.out k hlt) (HNU.out k hlt)
    have hnk := nodes_kid t.kids k hlt
    have HCALL := Lib.hid (fun w0 hin => IH.out (kidAt t.kids k) S (.slice b1 (kidAt t.kids k).keys.length n1) (.slice b2 (kidAt t.kids k).kids.length n2) w0 (by have := HN.out; omega) (HOK.out k hlt) (HNU.out k hlt) hin)
    have HLT := Lib.hid (show 0 < (kidAt t.kids k).kids.length ∨ (kidAt t.kids k).kids.length = 0 by omega)
    have hkk : (kidAt t.kids k).kids.isEmpty = decide ((kidAt t.kids k).kids.length = 0) := by cases (kidAt t.kids k).kids <;> rfl
    have HSTEP := Lib.hid hstep; have HL3 := Lib.hid hL3; have HIN2 := Lib.hid hin
    clear hstep hL3 hin hnk hk1 hs1
    obtain ⟨bk, ok, hbk, hcell⟩ := (treeIn_iff.1 HIW.out).1.at (show k < t.keys.length by have := HKL.out HKK.out; omega)
    subst hbk
    have hkl4 : k < t.keys.length := by have := HKL.out HKK.out; omega
    have hkl3 : (k : Int) < (t.keys.length : Int) := by omega
    have hkl1 : (0 : Int) ≤ (k : Int) := by omega
    have d0 := hcell k hkl4
    clear hcell
    have hld := lt_of_cell d0
    have hksz := HKZ.out k
    have HK := Lib.hid (fun w0 => sKeyText (strAt t.keys k) w0 (by omega))
    have hks2 := keyText_len (strAt t.keys k)
    go_wp2_with fail
    refine (HCALL.out _ HIN2.out).mono ?_
    rintro e w2 ⟨lv, rfl, hrow2⟩
    have HBC := Lib.hid hrow2.bel
    obtain ⟨a, cap, fp, rfl, hG⟩ := lines_of hrow2
    have HRS := Lib.hid (rowS_of HR.out HBC.out)
    have HG := Lib.hid hG
    clear hG hrow2
    clear c0 c1 c2 c3 c4
    have c5 := bkeep HBC.out c5
    have d0 := bkeep HBC.out d0
    clear p0 p1 p2 p3 p4 p5
    have HSP2 := Lib.hid (HSP.out.keep HBC.out)
    obtain ⟨p0, p1, p2, p3, p4, p5⟩ := HSP2.out.cells
    clear p1 p2 p3
    generalize linesT (kidAt t.kids k) = L at *
    cases he : decide ((kidAt t.kids k).kids.length = 0)
    · have z2 : (((kidAt t.kids k).kids.length : Int) == 0) = false := by rw [decide_eq_false_iff_not] at he; rw [beq_eq_false_iff_ne]; omega
      rw [hkk, he, entry_map] at HSTEP hacc
      simp only [List.length_cons, pre2_len] at hacc
      clear he hkk HLT
      generalize keyTextB (strAt t.keys k) = KT at *
      go_wp2_with (first | (go_at_call 146; refine (HK.out _).mono ?_; rintro e w5 ⟨rfl, hb5⟩; have HRS5 := Lib.hid (HRS.out.keep hb5); have HG5 := Lib.hid (HG.out.keep hb5); clear hb5) | (at_builtin; refine wpList_rowS Tryd.elStr (by rfl) _ _ (by rfl) _ _ _ [.string (KT ++ ⟨#[58]⟩)] W0 _ (by rfl) HRS5.out _ 1 1 (by rfl) rfl (by simp [Value.oneCell']) (by rfl) (by omega) ?_; intro v' w' hrow' hg'; have HG' := Lib.hid (GFlat.grown (HRS5.out.alloc _) hg' (HG5.out.keep ((Below.refl _ _).alloc (Nat.le_refl _) _))); have HR' := Lib.hid hrow'; clear hrow' hg'))
      go_loopw [3, 8, 9] (fun v hd i wv => ∃ (j : Nat) (H : ByteArray), i = .int .i64 j ∧ hd = .string H ∧ j ≤ L.length ∧ H.size ≤ 2 ∧ Hid (H = if j = 0 then sp2 else sp2) ∧ Hid (RowS 9 1 wo.heap.size w2.heap.size W0 wv v ((acc ++ [KT ++ ⟨#[58]⟩]).length + j) (((acc ++ [KT ++ ⟨#[58]⟩]) ++ pre2 sp2 (L.take j)).map Value.string)) ∧ Hid (GFlat wv wo.heap.size w2.heap.size (.slice a L.length cap) L.length 1 (strF L) fp)) (fun _ _ i _ => L.length - (intOf i).toNat)
      case atStart => exact ⟨0, sp2, rfl, rfl, by omega, by decide, Lib.hid rfl, Lib.hid (by simpa [pre2] using HR'.out), HG'⟩
      case round =>
        obtain ⟨j, H, rfl, rfl, hj, hHz, HH, HRS, HG⟩ := hrel
        by_cases hjl : j < L.length
        · obtain ⟨bl, ol, rfl, hcl⟩ := HG.out.own.sl.at (by omega)
          have l0 := hcl j hjl 0 (by omega)
          simp only [Nat.mul_one, Nat.add_zero, strF] at l0
          have hls := HL3.out j
          have hlr := lt_of_cell l0
          clear hcl
          go_wp2_with (at_builtin; refine wpList_rowS Tryd.elStr (by rfl) _ _ (by rfl) _ _ _ [.string (H ++ strAt L j)] W0 _ (by rfl) HRS.out _ 1 1 (by rfl) rfl (by simp [Value.oneCell']) (by rfl) (by simp; omega) ?_; intro v' w' hrow' hg'; have HG' := Lib.hid (GFlat.grown (HRS.out.alloc _) hg' (HG.out.keep ((Below.refl _ _).alloc (Nat.le_refl _) _))))
          go_roundw
          case rel => exact ⟨j + 1, sp2, by go_num, rfl, by omega, by decide, Lib.hid (by rw [if_neg (by omega)]), Lib.hid (row_more hjl HH.out hrow'), HG'⟩
          case measure => simp [intOf] <;> omega
        · obtain rfl : j = L.length := by omega
          go_wp2
          go_roundw
          case rel => exact ⟨k + 1, _, by omega, by go_num, Lib.hid (row_fin HRS.out), Lib.hid (by have := HSTEP.out; simpa using this)⟩
          case measure => simp [intOf] <;> omega
    · have z2 : (((kidAt t.kids k).kids.length : Int) == 0) = true := by rw [decide_eq_true_eq] at he; rw [beq_iff_eq]; omega
      rw [hkk, he, entry_leaf] at HSTEP hacc
      simp only [List.length_cons, List.length_nil] at hacc
      clear he hkk HLT
      generalize keyTextB (strAt t.keys k) = KT at *
      obtain ⟨bl, ol, rfl, hcl⟩ := HG.out.own.sl.at (by omega)
      have l0 := hcl 0 hL2 0 (by omega)
      simp only [Nat.zero_mul, Nat.add_zero, strF] at l0
      have hls := HL3.out 0
      have hlr := lt_of_cell l0
      have hl0 : (0 : Int) < (L.length : Int) := by omega
      have ka1 : ¬ 9223372036854775807 < KT.size + 2 := by omega
      have ka2 : ¬ 9223372036854775807 < KT.size + 2 + (strAt L 0).size := by omega
      clear hcl
      go_wp2_with fail
      go_region_law (first
        | (go_simp; go_at_call 146; refine (HK.out _).mono ?_
           rintro e w5 ⟨rfl, hb5⟩
           have HRS5 := Lib.hid ((HRS.out.keep (Below.refl _ _).drew).keep hb5)
           have l5 := bkeep hb5 (show World.cell? _ ⟨bl, ol, none⟩ = some (.string (strAt L 0)) by go_simp)
           clear hb5)
        | (refine step_rowS Tryd.elStr (by rfl) _ _ (by rfl) _ _ _ [.string ((KT ++ ⟨#[58, 32]⟩) ++ strAt L 0)] W0 (by rfl) (HRS5.out.alloc _) _ _ (heap_alloc_new _ _) 1 1 (by rfl) rfl (by simp [Value.oneCell']) (by rfl) (by omega) ?_
           intro v' w' hrow' hg'))
      all_goals
        go_wp2
        go_roundw
        case rel => exact ⟨k + 1, _, by omega, by go_num, Lib.hid (by simpa using hrow'.row), HSTEP⟩
        case measure => simp [intOf] <;> omega

theorem sIdt : ∀ N, IdtS N
  | 0 => fun t S vk vs w h _ _ _ => by have := nodes_pos t; omega
  | N + 1 => fun t S vk vs w h hok hnu ht => by
    have hsh : shapeB t = true := by simp only [treeOkB, Bool.and_eq_true] at hok; exact hok.2.2
    by_cases hk : t.kids.length = 0
    · exact sIdt_leaf t S vk vs w hk hok hnu ht
    rcases kind_two hsh (by omega) with h5 | h6
    · exact sIdt_list N (sIdt N) t S vk vs w h5 (by omega) h hok hnu ht
    · exact sIdt_map N (sIdt N) t S vk vs w h6 (by omega) h hok hnu ht

end Go.Proofs.YtpcojfcbomkgpaaDoor
namespace Go.Proofs.YtpcojfcbomkgpaaDoor
open Go.RowKit

theorem row_cap {w : World} {base e size : Nat} {a : Option Addr} {n cap : Nat} {xs : List Value} (h : w.ownsRow base e size (.slice a n cap) n xs) : n ≤ cap := by
  rcases h.2 with ⟨h, _⟩ | ⟨g, cap', cur, hv, hbg, hg, hnc, rest⟩
  · cases h; exact Nat.le_refl _
  · cases hv; exact hnc
theorem rows_hide {W0 wB w2 : World} {v : Value} {n : Nat} {xs : List Value} {L : List ByteArray} {a : Option Addr} {cap : Nat} (hr : RowB 9 1 W0 wB v n xs) (h : RowB 9 1 wB w2 (.slice a L.length cap) L.length (L.map Value.string)) :
    ∃ lo hi fp, Hid (RowS 9 1 lo hi W0 w2 v n xs) ∧ Hid (GFlat w2 lo hi (.slice a L.length cap) L.length 1 (strF L) fp) := by
  obtain ⟨a', cap', fp, h', hG⟩ := lines_of h
  cases h'
  exact ⟨_, _, fp, Lib.hid (rowS_of hr h.bel), Lib.hid hG⟩

def IdtI (N : Nat) : Prop := ∀ (t : Tr) (S : Nat → Prop) (vk vs : Value) (w : World), t.nodes ≤ N → treeOkB t = true → t.nums → TreeIn w S t vk vs → Tabs w → Pows w →
    Calls Tryd.prog 95 #[.agg #[.int .i64 t.kind, .bool t.flag, .int .i64 t.num, .string t.text, vk, vs]] w (fun e w' => ∃ v, e = .returned v ∧ RowB 9 1 w w' v (linesT t).length ((linesT t).map Value.string))

set_option maxRecDepth 100000 in
set_option maxHeartbeats 8000000 in
theorem iIdt_leaf (t : Tr) (S : Nat → Prop) (vk vs : Value) (w : World) (hk : t.kids.length = 0) (hok : treeOkB t = true) (hnu : t.nums) (ht : TreeIn w S t vk vs) (hTab : Tabs w) (hPow : Pows w) :
    Calls Tryd.prog 95 #[.agg #[.int .i64 t.kind, .bool t.flag, .int .i64 t.num, .string t.text, vk, vs]] w (fun e w' => ∃ v, e = .returned v ∧ RowB 9 1 w w' v (linesT t).length ((linesT t).map Value.string)) := by
  have HTP := Lib.hid (And.intro hTab hPow); clear hTab hPow
  obtain ⟨hk0, hs0⟩ := treeIn_iff.1 ht
  obtain ⟨a1, m1, rfl⟩ := hk0.len
  obtain ⟨a2, m2, rfl⟩ := hs0.len
  have hsh : shapeB t = true := by simp only [treeOkB, Bool.and_eq_true] at hok; exact hok.2.2
  have hnn : t.nodes ≤ 300 := by simp only [treeOkB, Bool.and_eq_true, decide_eq_true_eq] at hok; exact hok.2.1
  have HB0 := Lib.hid (alloc_below w #[.int .i64 t.kind, .bool t.flag, .int .i64 t.num, .string t.text, .slice a1 t.keys.length m1, .slice a2 t.kids.length m2] 50)
  have HS0 := Lib.hid (Spill.new w t (.slice a1 t.keys.length m1) (.slice a2 t.kids.length m2) 50)
  have HIN := Lib.hid (ht.keep HB0.out)
  obtain ⟨p0, p1, p2, p3, p4, p5⟩ := HS0.out.cells
  have H := Lib.hid (lines_leaf hk)
  have HSC := Lib.hid (fun w0 hin hT hP => iScalarText t S (.slice a1 t.keys.length m1) (.slice a2 t.kids.length m2) w0 (by omega) hnu hin hT hP)
  have hr : scalR t = true := by rw [scalR, hok, decide_eq_true hk]; rfl
  have hs : scalS t = scalTB t.kind t.flag t.num t.text := by rw [scalS, hr]; rfl
  unfold ScalTV at HSC
  rw [hr, hs] at HSC
  generalize scalTB t.kind t.flag t.num t.text = X at HSC H
  have z1 : ((t.kids.length : Int) == 0) = true := by rw [hk]; rfl
  clear hr hs hok hnu hsh hk0 hs0 ht hk
  go_enter Tryd.func95, Tryd.ntmps95
  go_wp2_with fail
  refine (HSC.out _ HIN.out (tabs_keep HTP.out.1 HB0.out) (pows_keep HTP.out.2 HB0.out)).mono ?_
  rintro e w1 ⟨rfl, hb1⟩
  have HB1 := Lib.hid (bnext HB0.out hb1); clear hb1
  go_wp2
  go_ret
  exact ⟨_, rfl, by rw [H.out]; exact ⟨World.ownsRow_lit (base := w.heap.size) (e := 9) (size := 1) w1 #[.string X] 1 HB1.out.size (by unfold maxLen; omega) (by simp), HB1.out.alloc HB1.out.size _⟩⟩

set_option maxRecDepth 100000 in
set_option maxHeartbeats 8000000 in
theorem iIdt_list (N : Nat) (hIH : IdtI N) (t : Tr) (S : Nat → Prop) (vk vs : Value) (w : World) (hk : t.kind = 5) (h0 : 0 < t.kids.length) (hN : t.nodes ≤ N + 1) (hok : treeOkB t = true) (hnu : t.nums) (ht : TreeIn w S t vk vs) (hTab : Tabs w) (hPow : Pows w) :
    Calls Tryd.prog 95 #[.agg #[.int .i64 t.kind, .bool t.flag, .int .i64 t.num, .string t.text, vk, vs]] w (fun e w' => ∃ v, e = .returned v ∧ RowB 9 1 w w' v (linesT t).length ((linesT t).map Value.string)) := by
  have HTP := Lib.hid (And.intro hTab hPow); clear hTab hPow
  obtain ⟨hk0, hs0⟩ := treeIn_iff.1 ht
  obtain ⟨a1, m1, rfl⟩ := hk0.len
  obtain ⟨a2, m2, rfl⟩ := hs0.len
  have hsh : shapeB t = true := by simp only [treeOkB, Bool.and_eq_true] at hok; exact hok.2.2
  have hnn : t.nodes ≤ 300 := by simp only [treeOkB, Bool.and_eq_true, decide_eq_true_eq] at hok; exact hok.2.1
  have HB0 := Lib.hid (alloc_below w #[.int .i64 t.kind, .bool t.flag, .int .i64 t.num, .string t.text, .slice a1 t.keys.length m1, .slice a2 t.kids.length m2] 50)
  have HS0 := Lib.hid (Spill.new w t (.slice a1 t.keys.length m1) (.slice a2 t.kids.length m2) 50)
  have HIN := Lib.hid (ht.keep HB0.out)
  have IH := Lib.hid hIH; clear hIH
  have HN := Lib.hid (show nodesL t.kids ≤ N by have := nodes_eq t; omega)
  have hkl2 : t.kids.length ≤ 300 := by have := nodes_eq t; have := len_nodes t.kids; omega
  have hlw := idt_len hok hnu
  have hll : (linesT t).length ≤ 600 := hlw.1
  have HST := Lib.hid (linesAt_start false t.keys t.kids)
  have HE := Lib.hid (show linesT t = linesK false t.keys 0 t.kids by rw [lines_node h0, hk]; rfl)
  rw [HE.out] at hll
  generalize linesK false t.keys 0 t.kids = ALL at HST HE hll
  have HOK := Lib.hid (fun (k : Nat) (h : k < t.kids.length) => ok_kid hok h)
  have HNU := Lib.hid (fun (k : Nat) (h : k < t.kids.length) => nums_kid t.kids k h ((nums_iff t).1 hnu).2)
  have hkey := (shape_parts hsh).2.1
  have HKZ := Lib.hid (fun i => key_size hkey i)
  have HKL := Lib.hid (show t.kind = 6 → t.keys.length = t.kids.length from (head_kind (shape_parts hsh).1).2.2.2.1)
  have HKK := Lib.hid hk
  have z0 : ((t.kids.length : Int) == 0) = false := by rw [beq_eq_false_iff_ne]; omega
  have z5 : (t.kind == 5) = true := kind_eqs t.kind 5 hk 5
  have z6 : (t.kind == 6) = false := kind_eqs t.kind 5 hk 6
  have hz0 : (w.alloc (.cells #[.int .i64 t.kind, .bool t.flag, .int .i64 t.num, .string t.text, .slice a1 t.keys.length m1, .slice a2 t.kids.length m2] 50)).heap.size = w.heap.size + 1 := World.size_alloc ..
  have HR0 := Lib.hid (show RowB 9 1 (w.alloc (.cells #[.int .i64 t.kind, .bool t.flag, .int .i64 t.num, .string t.text, .slice a1 t.keys.length m1, .slice a2 t.kids.length m2] 50)) ((w.alloc (.cells #[.int .i64 t.kind, .bool t.flag, .int .i64 t.num, .string t.text, .slice a1 t.keys.length m1, .slice a2 t.kids.length m2] 50)).alloc (.cells #[] 9)) (.slice (some ⟨w.heap.size + 1, 0, none⟩) 0 0) 0 [] from by have := RowB.start 9 1 (w.alloc (.cells #[.int .i64 t.kind, .bool t.flag, .int .i64 t.num, .string t.text, .slice a1 t.keys.length m1, .slice a2 t.kids.length m2] 50)) #[] rfl; rw [hz0] at this; exact this)
  obtain ⟨p0, p1, p2, p3, p4, p5⟩ := HS0.out.cells
  clear hok hnu hsh hk0 hs0 ht hk hlw hkey hz0 hN
  go_enter Tryd.func95, Tryd.ntmps95
  go_wp2
  clear p0 p1 p2 p3 p4 p5 z0
  generalize hW0 : w.alloc (.cells #[.int .i64 t.kind, .bool t.flag, .int .i64 t.num, .string t.text, .slice a1 t.keys.length m1, .slice a2 t.kids.length m2] 50) = W0 at HB0 HS0 HIN HR0 ⊢
  clear hW0
  go_loopw [5, 26] (fun v i wr => ∃ (k : Nat) (acc : List ByteArray), k ≤ t.kids.length ∧ i = .int .i64 k ∧ Hid (RowB 9 1 W0 wr v acc.length (acc.map Value.string)) ∧ Hid (LinesAt false t.keys t.kids k acc ALL)) (fun _ i _ => t.kids.length - (intOf i).toNat)
  case atStart => exact ⟨0, [], by omega, rfl, HR0, HST⟩
  case round =>
    obtain ⟨k, acc, hk, rfl, HR, HST⟩ := hrel
    obtain ⟨wo, hwo⟩ : ∃ wo : World, wo = wr := ⟨_, rfl⟩
    subst hwo
    have HSP := Lib.hid (HS0.out.keep HR.out.bel)
    obtain ⟨p0, p1, p2, p3, p4, p5⟩ := HSP.out.cells
    by_cases hlt : k < t.kids.length
    rotate_left
    · obtain rfl : k = t.kids.length := by omega
      have H := Lib.hid (linesAt_end HST.out (Nat.le_refl _))
      go_wp2
      go_ret
      exact ⟨_, rfl, by rw [HE.out, ← H.out]; exact HR.out.since HB0.out⟩
    have HIW := Lib.hid (HIN.out.keep HR.out.bel)
    obtain ⟨hk1, hs1⟩ := treeIn_iff.1 HIW.out
    obtain ⟨b, o, vk', vs', rfl, ⟨c0, c1, c2, c3, c4, c5⟩, hin⟩ := hs1.at hlt
    obtain ⟨hk', hs'⟩ := treeIn_iff.1 hin
    obtain ⟨b1, n1, rfl⟩ := hk'.len
    obtain ⟨b2, n2, rfl⟩ := hs'.len
    clear hk' hs'
    have hlb := lt_of_cell c0
    have hstep := linesAt_step HST.out hlt
    have hacc := linesAt_len hstep
    simp only [List.length_append] at hacc
    obtain ⟨hL1, hL2, hL3⟩ := idt_len (HOK.out k hlt) (HNU.out k hlt)
    have hnk := nodes_kid t.kids k hlt
    have HCALL := Lib.hid (fun w0 hin hT hP => IH.out (kidAt t.kids k) S (.slice b1 (kidAt t.kids k).keys.length n1) (.slice b2 (kidAt t.kids k).kids.length n2) w0 (by have := HN.out; omega) (HOK.out k hlt) (HNU.out k hlt) hin hT hP)
    have HLT := Lib.hid (show 0 < (kidAt t.kids k).kids.length ∨ (kidAt t.kids k).kids.length = 0 by omega)
    have hkk : (kidAt t.kids k).kids.isEmpty = decide ((kidAt t.kids k).kids.length = 0) := by cases (kidAt t.kids k).kids <;> rfl
    rw [entry_list hL2] at hstep hacc
    rw [pre2_len] at hacc
    have HSTEP := Lib.hid hstep; have HL3 := Lib.hid hL3; have HIN2 := Lib.hid hin
    clear hstep hL3 hin hnk hk1 hs1
    have HBW := Lib.hid (bnext HB0.out HR.out.bel)
    have HAL := Lib.hid (alloc_below wo #[.int .i64 (kidAt t.kids k).kind, .bool (kidAt t.kids k).flag, .int .i64 (kidAt t.kids k).num, .string (kidAt t.kids k).text, .slice b1 (kidAt t.kids k).keys.length n1, .slice b2 (kidAt t.kids k).kids.length n2] 50)
    have HKB := Lib.hid (Spill.new wo (kidAt t.kids k) (.slice b1 (kidAt t.kids k).keys.length n1) (.slice b2 (kidAt t.kids k).kids.length n2) 50)
    have HBA := Lib.hid (bnext HBW.out HAL.out)
    go_wp2_with fail
    refine (HCALL.out _ (HIN2.out.keep HAL.out) (tabs_keep HTP.out.1 HBA.out) (pows_keep HTP.out.2 HBA.out)).mono ?_
    rintro e w2 ⟨lv, rfl, hrow2⟩
    have HBC := Lib.hid hrow2.bel
    have HBD := Lib.hid (bnext HAL.out HBC.out)
    have HTP2 := Lib.hid (And.intro (tabs_keep HTP.out.1 (bnext HBA.out HBC.out)) (pows_keep HTP.out.2 (bnext HBA.out HBC.out)))
    obtain ⟨a, cap, hcap⟩ : ∃ a cap, lv = .slice a (linesT (kidAt t.kids k)).length cap := by obtain ⟨a, cap, fp, h, -⟩ := lines_of hrow2; exact ⟨a, cap, h⟩
    subst hcap
    have hcap := row_cap hrow2.own
    obtain ⟨lo, hi, fp, HRS, HG⟩ := rows_hide (HR.out.alloc _) hrow2
    clear hrow2 c0 c1 c2 c3 c4 c5 p0 p1 p2 p3 p4 p5
    have HSP2 := Lib.hid (HSP.out.keep HBD.out)
    have HKB2 := Lib.hid (HKB.out.keep HBC.out)
    obtain ⟨p0, p1, p2, p3, p4, p5⟩ := HSP2.out.cells
    obtain ⟨c0, c1, c2, c3, c4, c5⟩ := HKB2.out.cells
    clear p1 p2 p3 c0 c1 c2 c3 c4
    generalize linesT (kidAt t.kids k) = L at *
    obtain ⟨bl, ol, hal, hcl⟩ := HG.out.own.sl.at (by omega)
    subst hal
    have l0 := hcl 0 hL2 0 (by omega)
    simp only [Nat.zero_mul, Nat.add_zero, strF] at l0
    have hls := HL3.out 0
    have hlr := lt_of_cell l0
    have hl0 : (0 : Int) < (L.length : Int) := by omega
    have hl1 : (1 : Int) ≤ (L.length : Int) := by omega
    have hl2 : (L.length : Int) ≤ (cap : Int) := by omega
    clear hcl
    by_cases hc1 : cap = 1
    · go_wp2_with (at_builtin; refine wpList_rowS Tryd.elStr (by rfl) _ _ (by rfl) _ _ _ [.string (⟨#[45, 32]⟩ ++ strAt L 0)] W0 _ (by rfl) HRS.out _ 1 1 (by rfl) rfl (by simp [Value.oneCell']) (by rfl) (by first | omega | (simp; omega)) ?_; intro v0 w0 hrow0 hg0; have HG' := Lib.hid (GFlat.grown (HRS.out.alloc _) hg0 (HG.out.keep ((Below.refl _ _).alloc (Nat.le_refl _) _))))
      go_loopw [5, 75] (fun v i wv => ∃ (j : Nat), i = .int .i64 j ∧ j ≤ L.length - 1 ∧ Hid (RowS 9 1 lo hi W0 wv v (acc.length + (j + 1)) ((acc ++ pre2 (⟨#[45, 32]⟩ : ByteArray) (L.take (j + 1))).map Value.string)) ∧ Hid (GFlat wv lo hi (.slice (some ⟨bl, ol, none⟩) L.length cap) L.length 1 (strF L) fp)) (fun _ i _ => L.length - 1 - (intOf i).toNat)
      case atStart => exact ⟨0, rfl, by omega, Lib.hid (row_more (j := 0) (h0 := (⟨#[45, 32]⟩ : ByteArray)) (H := ⟨#[45, 32]⟩) hL2 rfl (by simpa [pre2] using hrow0)), HG'⟩
      case round =>
        obtain ⟨j, rfl, hj, HRS, HG⟩ := hrel
        by_cases hjl : j < L.length - 1
        · exfalso; omega
        · obtain rfl : j = L.length - 1 := by omega
          go_wp2
          go_roundw
          case rel => exact ⟨k + 1, _, by omega, by go_num, Lib.hid (row_fin (by rw [Nat.sub_add_cancel hL2] at HRS; exact HRS.out)), HSTEP⟩
          case measure => simp [intOf] <;> omega
    · go_wp2_with (at_builtin; refine wpList_rowS Tryd.elStr (by rfl) _ _ (by rfl) _ _ _ [.string (⟨#[45, 32]⟩ ++ strAt L 0)] W0 _ (by rfl) HRS.out _ 1 1 (by rfl) rfl (by simp [Value.oneCell']) (by rfl) (by first | omega | (simp; omega)) ?_; intro v0 w0 hrow0 hg0; have HG' := Lib.hid (GFlat.grown (HRS.out.alloc _) hg0 (HG.out.keep ((Below.refl _ _).alloc (Nat.le_refl _) _))))
      go_loopw [5, 75] (fun v i wv => ∃ (j : Nat), i = .int .i64 j ∧ j ≤ L.length - 1 ∧ Hid (RowS 9 1 lo hi W0 wv v (acc.length + (j + 1)) ((acc ++ pre2 (⟨#[45, 32]⟩ : ByteArray) (L.take (j + 1))).map Value.string)) ∧ Hid (GFlat wv lo hi (.slice (some ⟨bl, ol, none⟩) L.length cap) L.length 1 (strF L) fp)) (fun _ i _ => L.length - 1 - (intOf i).toNat)
      case atStart => exact ⟨0, rfl, by omega, Lib.hid (row_more (j := 0) (h0 := (⟨#[45, 32]⟩ : ByteArray)) (H := ⟨#[45, 32]⟩) hL2 rfl (by simpa [pre2] using hrow0)), HG'⟩
      case round =>
        obtain ⟨j, rfl, hj, HRS, HG⟩ := hrel
        by_cases hjl : j < L.length - 1
        · obtain ⟨b9, o9, h9, hcl⟩ := HG.out.own.sl.at (by omega)
          cases h9
          have l0 := hcl (j + 1) (by omega) 0 (by omega)
          simp only [Nat.mul_one, Nat.add_zero, strF] at l0
          rw [show ol + (j + 1) = ol + 1 + j by omega] at l0
          have hls := HL3.out (j + 1)
          have hlr := lt_of_cell l0
          clear hcl
          go_wp2_with (at_builtin; refine wpList_rowS Tryd.elStr (by rfl) _ _ (by rfl) _ _ _ [.string (sp2 ++ strAt L (j + 1))] W0 _ (by rfl) HRS.out _ 1 1 (by rfl) rfl (by simp [Value.oneCell']) (by rfl) (by first | omega | (simp; omega)) ?_; intro v' w' hrow' hg'; have HG' := Lib.hid (GFlat.grown (HRS.out.alloc _) hg' (HG.out.keep ((Below.refl _ _).alloc (Nat.le_refl _) _))))
          go_roundw
          case rel => exact ⟨j + 1, by go_num, by omega, Lib.hid (row_more (h0 := (⟨#[45, 32]⟩ : ByteArray)) (by omega) (by rw [if_neg (by omega)]) hrow'), HG'⟩
          case measure => simp [intOf] <;> omega
        · obtain rfl : j = L.length - 1 := by omega
          go_wp2
          go_roundw
          case rel => exact ⟨k + 1, _, by omega, by go_num, Lib.hid (row_fin (by rw [Nat.sub_add_cancel hL2] at HRS; exact HRS.out)), HSTEP⟩
          case measure => simp [intOf] <;> omega

set_option maxRecDepth 100000 in
set_option maxHeartbeats 8000000 in
theorem iIdt_map (N : Nat) (hIH : IdtI N) (t : Tr) (S : Nat → Prop) (vk vs : Value) (w : World) (hk : t.kind = 6) (h0 : 0 < t.kids.length) (hN : t.nodes ≤ N + 1) (hok : treeOkB t = true) (hnu : t.nums) (ht : TreeIn w S t vk vs) (hTab : Tabs w) (hPow : Pows w) :
    Calls Tryd.prog 95 #[.agg #[.int .i64 t.kind, .bool t.flag, .int .i64 t.num, .string t.text, vk, vs]] w (fun e w' => ∃ v, e = .returned v ∧ RowB 9 1 w w' v (linesT t).length ((linesT t).map Value.string)) := by
  have HTP := Lib.hid (And.intro hTab hPow); clear hTab hPow
  obtain ⟨hk0, hs0⟩ := treeIn_iff.1 ht
  obtain ⟨a1, m1, rfl⟩ := hk0.len
  obtain ⟨a2, m2, rfl⟩ := hs0.len
  have hsh : shapeB t = true := by simp only [treeOkB, Bool.and_eq_true] at hok; exact hok.2.2
  have hnn : t.nodes ≤ 300 := by simp only [treeOkB, Bool.and_eq_true, decide_eq_true_eq] at hok; exact hok.2.1
  have HB0 := Lib.hid (alloc_below w #[.int .i64 t.kind, .bool t.flag, .int .i64 t.num, .string t.text, .slice a1 t.keys.length m1, .slice a2 t.kids.length m2] 50)
  have HS0 := Lib.hid (Spill.new w t (.slice a1 t.keys.length m1) (.slice a2 t.kids.length m2) 50)
  have HIN := Lib.hid (ht.keep HB0.out)
  have IH := Lib.hid hIH; clear hIH
  have HN := Lib.hid (show nodesL t.kids ≤ N by have := nodes_eq t; omega)
  have hkl2 : t.kids.length ≤ 300 := by have := nodes_eq t; have := len_nodes t.kids; omega
  have hlw := idt_len hok hnu
  have hll : (linesT t).length ≤ 600 := hlw.1
  have HST := Lib.hid (linesAt_start true t.keys t.kids)
  have HE := Lib.hid (show linesT t = linesK true t.keys 0 t.kids by rw [lines_node h0, hk]; rfl)
  rw [HE.out] at hll
  generalize linesK true t.keys 0 t.kids = ALL at HST HE hll
  have HOK := Lib.hid (fun (k : Nat) (h : k < t.kids.length) => ok_kid hok h)
  have HNU := Lib.hid (fun (k : Nat) (h : k < t.kids.length) => nums_kid t.kids k h ((nums_iff t).1 hnu).2)
  have hkey := (shape_parts hsh).2.1
  have HKZ := Lib.hid (fun i => key_size hkey i)
  have HKL := Lib.hid (show t.kind = 6 → t.keys.length = t.kids.length from (head_kind (shape_parts hsh).1).2.2.2.1)
  have HKK := Lib.hid hk
  have z0 : ((t.kids.length : Int) == 0) = false := by rw [beq_eq_false_iff_ne]; omega
  have z5 : (t.kind == 5) = false := kind_eqs t.kind 6 hk 5
  have z6 : (t.kind == 6) = true := kind_eqs t.kind 6 hk 6
  have hz0 : (w.alloc (.cells #[.int .i64 t.kind, .bool t.flag, .int .i64 t.num, .string t.text, .slice a1 t.keys.length m1, .slice a2 t.kids.length m2] 50)).heap.size = w.heap.size + 1 := World.size_alloc ..
  have HR0 := Lib.hid (show RowB 9 1 (w.alloc (.cells #[.int .i64 t.kind, .bool t.flag, .int .i64 t.num, .string t.text, .slice a1 t.keys.length m1, .slice a2 t.kids.length m2] 50)) ((w.alloc (.cells #[.int .i64 t.kind, .bool t.flag, .int .i64 t.num, .string t.text, .slice a1 t.keys.length m1, .slice a2 t.kids.length m2] 50)).alloc (.cells #[] 9)) (.slice (some ⟨w.heap.size + 1, 0, none⟩) 0 0) 0 [] from by have := RowB.start 9 1 (w.alloc (.cells #[.int .i64 t.kind, .bool t.flag, .int .i64 t.num, .string t.text, .slice a1 t.keys.length m1, .slice a2 t.kids.length m2] 50)) #[] rfl; rw [hz0] at this; exact this)
  obtain ⟨p0, p1, p2, p3, p4, p5⟩ := HS0.out.cells
  clear hok hnu hsh hk0 hs0 ht hk hlw hkey hz0 hN
  go_enter Tryd.func95, Tryd.ntmps95
  go_wp2
  clear p0 p1 p2 p3 p4 p5 z0
  generalize hW0 : w.alloc (.cells #[.int .i64 t.kind, .bool t.flag, .int .i64 t.num, .string t.text, .slice a1 t.keys.length m1, .slice a2 t.kids.length m2] 50) = W0 at HB0 HS0 HIN HR0 ⊢
  clear hW0
  go_loopw [5, 26] (fun v i wr => ∃ (k : Nat) (acc : List ByteArray), k ≤ t.kids.length ∧ i = .int .i64 k ∧ Hid (RowB 9 1 W0 wr v acc.length (acc.map Value.string)) ∧ Hid (LinesAt true t.keys t.kids k acc ALL)) (fun _ i _ => t.kids.length - (intOf i).toNat)
  case atStart => exact ⟨0, [], by omega, rfl, HR0, HST⟩
  case round =>
    obtain ⟨k, acc, hk, rfl, HR, HST⟩ := hrel
    obtain ⟨wo, hwo⟩ : ∃ wo : World, wo = wr := ⟨_, rfl⟩
    subst hwo
    have HSP := Lib.hid (HS0.out.keep HR.out.bel)
    obtain ⟨p0, p1, p2, p3, p4, p5⟩ := HSP.out.cells
    by_cases hlt : k < t.kids.length
    rotate_left
    · obtain rfl : k = t.kids.length := by omega
      have H := Lib.hid (linesAt_end HST.out (Nat.le_refl _))
      go_wp2
      go_ret
      exact ⟨_, rfl, by rw [HE.out, ← H.out]; exact HR.out.since HB0.out⟩
    have HIW := Lib.hid (HIN.out.keep HR.out.bel)
    obtain ⟨hk1, hs1⟩ := treeIn_iff.1 HIW.out
    obtain ⟨b, o, vk', vs', rfl, ⟨c0, c1, c2, c3, c4, c5⟩, hin⟩ := hs1.at hlt
    obtain ⟨hk', hs'⟩ := treeIn_iff.1 hin
    obtain ⟨b1, n1, rfl⟩ := hk'.len
    obtain ⟨b2, n2, rfl⟩ := hs'.len
    clear hk' hs'
    have hlb := lt_of_cell c0
    have hstep := linesAt_step HST.out hlt
    have hacc := linesAt_len hstep
    simp only [List.length_append] at hacc
    obtain ⟨hL1, hL2, hL3⟩ := idt_len (HOK.out k hlt) (HNU.out k hlt)
    have hnk := nodes_kid t.kids k hlt
    have HCALL := Lib.hid (fun w0 hin hT hP => IH.out (kidAt t.kids k) S (.slice b1 (kidAt t.kids k).keys.length n1) (.slice b2 (kidAt t.kids k).kids.length n2) w0 (by have := HN.out; omega) (HOK.out k hlt) (HNU.out k hlt) hin hT hP)
    have HLT := Lib.hid (show 0 < (kidAt t.kids k).kids.length ∨ (kidAt t.kids k).kids.length = 0 by omega)
    have hkk : (kidAt t.kids k).kids.isEmpty = decide ((kidAt t.kids k).kids.length = 0) := by cases (kidAt t.kids k).kids <;> rfl
    have HSTEP := Lib.hid hstep; have HL3 := Lib.hid hL3; have HIN2 := Lib.hid hin
    clear hstep hL3 hin hnk hk1 hs1
    obtain ⟨bk, ok, hbk, hcell⟩ := (treeIn_iff.1 HIW.out).1.at (show k < t.keys.length by have := HKL.out HKK.out; omega)
    subst hbk
    have hkl4 : k < t.keys.length := by have := HKL.out HKK.out; omega
    have hkl3 : (k : Int) < (t.keys.length : Int) := by omega
    have hkl1 : (0 : Int) ≤ (k : Int) := by omega
    have d0 := hcell k hkl4
    clear hcell
    have hld := lt_of_cell d0
    have hksz := HKZ.out k
    have HK := Lib.hid (fun w0 hT => iKeyText (strAt t.keys k) w0 (by omega) hT)
    have hks2 := keyText_len (strAt t.keys k)
    have HBW := Lib.hid (bnext HB0.out HR.out.bel)
    have HAL := Lib.hid (alloc_below wo #[.int .i64 (kidAt t.kids k).kind, .bool (kidAt t.kids k).flag, .int .i64 (kidAt t.kids k).num, .string (kidAt t.kids k).text, .slice b1 (kidAt t.kids k).keys.length n1, .slice b2 (kidAt t.kids k).kids.length n2] 50)
    have HKB := Lib.hid (Spill.new wo (kidAt t.kids k) (.slice b1 (kidAt t.kids k).keys.length n1) (.slice b2 (kidAt t.kids k).kids.length n2) 50)
    have HBA := Lib.hid (bnext HBW.out HAL.out)
    go_wp2_with fail
    refine (HCALL.out _ (HIN2.out.keep HAL.out) (tabs_keep HTP.out.1 HBA.out) (pows_keep HTP.out.2 HBA.out)).mono ?_
    rintro e w2 ⟨lv, rfl, hrow2⟩
    have HBC := Lib.hid hrow2.bel
    have HBD := Lib.hid (bnext HAL.out HBC.out)
    have HTP2 := Lib.hid (And.intro (tabs_keep HTP.out.1 (bnext HBA.out HBC.out)) (pows_keep HTP.out.2 (bnext HBA.out HBC.out)))
    obtain ⟨a, cap, hcap⟩ : ∃ a cap, lv = .slice a (linesT (kidAt t.kids k)).length cap := by obtain ⟨a, cap, fp, h, -⟩ := lines_of hrow2; exact ⟨a, cap, h⟩
    subst hcap
    have hcap := row_cap hrow2.own
    obtain ⟨lo, hi, fp, HRS, HG⟩ := rows_hide (HR.out.alloc _) hrow2
    clear hrow2 c0 c1 c2 c3 c4 c5 p0 p1 p2 p3 p4 p5
    have HSP2 := Lib.hid (HSP.out.keep HBD.out)
    have HKB2 := Lib.hid (HKB.out.keep HBC.out)
    obtain ⟨p0, p1, p2, p3, p4, p5⟩ := HSP2.out.cells
    obtain ⟨c0, c1, c2, c3, c4, c5⟩ := HKB2.out.cells
    clear p1 p2 p3 c0 c1 c2 c3 c4
    have d0 := bkeep HBD.out d0
    generalize linesT (kidAt t.kids k) = L at *
    obtain ⟨bl, ol, hal, hcl⟩ := HG.out.own.sl.at (by omega)
    subst hal
    cases he : decide ((kidAt t.kids k).kids.length = 0)
    · have z2 : (((kidAt t.kids k).kids.length : Int) == 0) = false := by rw [decide_eq_false_iff_not] at he; rw [beq_eq_false_iff_ne]; omega
      rw [hkk, he, entry_map] at HSTEP hacc
      simp only [List.length_cons, pre2_len] at hacc
      clear he hkk HLT hcl
      generalize keyTextB (strAt t.keys k) = KT at *
      go_wp2_with (first | (go_at_call 148; refine (HK.out _ HTP2.out.1).mono ?_; rintro e w5 ⟨rfl, hb5⟩; have HRS5 := Lib.hid (HRS.out.keep hb5); have HG5 := Lib.hid (HG.out.keep hb5); clear hb5) | (at_builtin; refine wpList_rowS Tryd.elStr (by rfl) _ _ (by rfl) _ _ _ [.string (KT ++ ⟨#[58]⟩)] W0 _ (by rfl) HRS5.out _ 1 1 (by rfl) rfl (by simp [Value.oneCell']) (by rfl) (by omega) ?_; intro v' w' hrow' hg'; have HG' := Lib.hid (GFlat.grown (HRS5.out.alloc _) hg' (HG5.out.keep ((Below.refl _ _).alloc (Nat.le_refl _) _))); have HR' := Lib.hid hrow'; clear hrow' hg'))
      go_loopw [5, 75] (fun v i wv => ∃ (j : Nat), i = .int .i64 j ∧ j ≤ L.length ∧ Hid (RowS 9 1 lo hi W0 wv v ((acc ++ [KT ++ ⟨#[58]⟩]).length + (j)) (((acc ++ [KT ++ ⟨#[58]⟩]) ++ pre2 sp2 (L.take (j))).map Value.string)) ∧ Hid (GFlat wv lo hi (.slice (some ⟨bl, ol, none⟩) L.length cap) L.length 1 (strF L) fp)) (fun _ i _ => L.length - (intOf i).toNat)
      case atStart => exact ⟨0, rfl, by omega, Lib.hid (by simpa [pre2] using HR'.out), HG'⟩
      case round =>
        obtain ⟨j, rfl, hj, HRS, HG⟩ := hrel
        by_cases hjl : j < L.length
        · obtain ⟨b9, o9, h9, hcl⟩ := HG.out.own.sl.at (by omega)
          cases h9
          have l0 := hcl (j) (by omega) 0 (by omega)
          simp only [Nat.mul_one, Nat.add_zero, strF] at l0
          skip
          have hls := HL3.out (j)
          have hlr := lt_of_cell l0
          clear hcl
          go_wp2_with (at_builtin; refine wpList_rowS Tryd.elStr (by rfl) _ _ (by rfl) _ _ _ [.string (sp2 ++ strAt L (j))] W0 _ (by rfl) HRS.out _ 1 1 (by rfl) rfl (by simp [Value.oneCell']) (by rfl) (by first | omega | (simp; omega)) ?_; intro v' w' hrow' hg'; have HG' := Lib.hid (GFlat.grown (HRS.out.alloc _) hg' (HG.out.keep ((Below.refl _ _).alloc (Nat.le_refl _) _))))
          go_roundw
          case rel => exact ⟨j + 1, by go_num, by omega, Lib.hid (row_more (h0 := sp2) (by omega) (by split <;> rfl) hrow'), HG'⟩
          case measure => simp [intOf] <;> omega
        · obtain rfl : j = L.length := by omega
          go_wp2
          go_roundw
          case rel => exact ⟨k + 1, _, by omega, by go_num, Lib.hid (row_fin HRS.out), Lib.hid (by have := HSTEP.out; simpa using this)⟩
          case measure => simp [intOf] <;> omega
    · have z2 : (((kidAt t.kids k).kids.length : Int) == 0) = true := by rw [decide_eq_true_eq] at he; rw [beq_iff_eq]; omega
      rw [hkk, he, entry_leaf] at HSTEP hacc
      simp only [List.length_cons, List.length_nil] at hacc
      clear he hkk HLT
      generalize keyTextB (strAt t.keys k) = KT at *
      have l0 := hcl 0 hL2 0 (by omega)
      simp only [Nat.zero_mul, Nat.add_zero, strF] at l0
      have hls := HL3.out 0
      have hlr := lt_of_cell l0
      have hl0 : (0 : Int) < (L.length : Int) := by omega
      have ka1 : ¬ 9223372036854775807 < KT.size + 2 := by omega
      have ka2 : ¬ 9223372036854775807 < KT.size + 2 + (strAt L 0).size := by omega
      clear hcl
      go_wp2_with fail
      go_region_law (first
        | (go_simp; go_at_call 148; refine (HK.out _ (tabs_keep HTP2.out.1 (Below.refl _ _).drew)).mono ?_
           rintro e w5 ⟨rfl, hb5⟩
           have HRS5 := Lib.hid ((HRS.out.keep (Below.refl _ _).drew).keep hb5)
           have l5 := bkeep hb5 (show World.cell? _ ⟨bl, ol, none⟩ = some (.string (strAt L 0)) by go_simp)
           clear hb5)
        | (refine step_rowS Tryd.elStr (by rfl) _ _ (by rfl) _ _ _ [.string ((KT ++ ⟨#[58, 32]⟩) ++ strAt L 0)] W0 (by rfl) (HRS5.out.alloc _) _ _ (heap_alloc_new _ _) 1 1 (by rfl) rfl (by simp [Value.oneCell']) (by rfl) (by omega) ?_
           intro v' w' hrow' hg'))
      all_goals
        go_wp2
        go_roundw
        case rel => exact ⟨k + 1, _, by omega, by go_num, Lib.hid (by simpa using hrow'.row), HSTEP⟩
        case measure => simp [intOf] <;> omega

theorem iIdt : ∀ N, IdtI N
  | 0 => fun t S vk vs w h _ _ _ _ _ => by have := nodes_pos t; omega
  | N + 1 => fun t S vk vs w h hok hnu ht hT hP => by
    have hsh : shapeB t = true := by simp only [treeOkB, Bool.and_eq_true] at hok; exact hok.2.2
    by_cases hk : t.kids.length = 0
    · exact iIdt_leaf t S vk vs w hk hok hnu ht hT hP
    rcases kind_two hsh (by omega) with h5 | h6
    · exact iIdt_list N (iIdt N) t S vk vs w h5 (by omega) h hok hnu ht hT hP
    · exact iIdt_map N (iIdt N) t S vk vs w h6 (by omega) h hok hnu ht hT hP

end Go.Proofs.YtpcojfcbomkgpaaDoor
