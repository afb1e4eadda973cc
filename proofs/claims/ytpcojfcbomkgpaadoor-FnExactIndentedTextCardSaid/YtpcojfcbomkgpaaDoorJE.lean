/- IdtL, IdtM, merged. -/
import Derived.Test.YtpcojfcbomkgpaaDoorJD
import Derived.Lib.Join
import Derived.Lib.JoinFns
import Derived.Test.YtpcojfcbomkgpaaDoorTreeHs
import Derived.Test.YtpcojfcbomkgpaaDoorTreeHi
import Derived.Test.YtpcojfcbomkgpaaDoorTreeW
namespace Go.Proofs.YtpcojfcbomkgpaaDoor
open Go.RowKit

def idtL (t : Tr) : List ByteArray := if treeOkB t = true then linesT t else []
def IdtV (t : Tr) (w : World) (e : Ending) (w' : World) : Prop := ∃ v, e = .returned v ∧ RowB 9 1 w w' v (idtL t).length ((idtL t).map Value.string)
theorem idtV_yes {t : Tr} {w w' : World} {v : Value} (h : treeOkB t = true) (hr : RowB 9 1 w w' v (linesT t).length ((linesT t).map Value.string)) : IdtV t w (.returned v) w' := by
  have e : idtL t = linesT t := if_pos h
  exact ⟨v, rfl, by rw [e]; exact hr⟩
theorem idtV_no {t : Tr} {w w' : World} {v : Value} (h : treeOkB t = false) (hr : RowB 9 1 w w' v 0 []) : IdtV t w (.returned v) w' := by
  have e : idtL t = [] := if_neg (by simp [h])
  exact ⟨v, rfl, by rw [e]; exact hr⟩

/-! ### How long the lines are, all together -/
def sumS (L : List ByteArray) : Nat := (L.map ByteArray.size).sum
theorem sumS_app (L M : List ByteArray) : sumS (L ++ M) = sumS L + sumS M := by simp [sumS]
theorem sumS_cons (x : ByteArray) (L : List ByteArray) : sumS (x :: L) = x.size + sumS L := by simp [sumS]
theorem sumS_two : ∀ L : List ByteArray, sumS (L.map twoSp) = sumS L + 2 * L.length
  | [] => rfl
  | x :: L => by
    have h : (twoSp x).size = 2 + x.size := by rw [twoSp, ByteArray.size_append]; rfl
    rw [List.map_cons, sumS_cons, sumS_cons, sumS_two L, List.length_cons, h]; omega
theorem sumS_entry {m : Bool} {key : ByteArray} {leaf : Bool} {L : List ByteArray} (hk : key.size ≤ 400) (hL : 0 < L.length) : sumS (entryL m key leaf L) ≤ sumS L + 2 * L.length + 2404 := by
  have h1 := keyText_len key
  cases L with
  | nil => simp at hL
  | cons x r =>
    have e2 : (⟨#[58, 32]⟩ : ByteArray).size = 2 := rfl
    have e1 : (⟨#[58]⟩ : ByteArray).size = 1 := rfl
    have e3 : (⟨#[45, 32]⟩ : ByteArray).size = 2 := rfl
    unfold entryL
    split
    · split
      · show sumS [(keyTextB key ++ ⟨#[58, 32]⟩) ++ x] ≤ _
        rw [sumS_cons, sumS_cons, ByteArray.size_append, ByteArray.size_append, e2]
        have : sumS [] = 0 := rfl
        omega
      · rw [sumS_cons, sumS_two, ByteArray.size_append, e1]; omega
    · show sumS ((⟨#[45, 32]⟩ ++ x) :: r.map twoSp) ≤ _
      rw [sumS_cons, sumS_two, ByteArray.size_append, e3, sumS_cons, List.length_cons]; omega
mutual
theorem linesT_sum : ∀ t : Tr, shapeB t = true → t.nums → t.nodes ≤ 300 → sumS (linesT t) + 4000 ≤ 7000 * t.nodes
  | .mk k f n s keys kids, h, hn, hN => by
    obtain ⟨h1, h2, h3⟩ := shape_parts h
    obtain ⟨a1, a2, a3, a4, a5, a6⟩ := head_kind h1
    simp only [Tr.text, Tr.keys, Tr.kids] at a3 h2 h3
    have hb := nums_bd hn
    simp only [Tr.num] at hb
    have hs := text_size a3
    simp only [Tr.nums] at hn
    simp only [Tr.nodes] at hN
    rw [linesT]
    by_cases hk : kids.isEmpty = true
    · rw [if_pos hk]
      have := scal_len (k := k) (f := f) hs hb
      rw [sumS_cons]
      have e : sumS [] = 0 := rfl
      simp only [Tr.nodes]; omega
    · rw [if_neg hk]
      have := linesK_sum (k == 6) keys (key_size h2) kids 0 h3 hn.2 (by omega)
      simp only [Tr.nodes]; omega
theorem linesK_sum (m : Bool) (keys : List ByteArray) (hk : ∀ j, (strAt keys j).size ≤ 400) : ∀ (l : List Tr) (i : Nat), shapeL l = true → numsL l → nodesL l ≤ 300 → sumS (linesK m keys i l) ≤ 7000 * nodesL l
  | [], i, _, _, _ => by simp [linesK, sumS]
  | t :: ts, i, h, hn, hN => by
    rw [shapeL, Bool.and_eq_true] at h
    simp only [numsL] at hn
    simp only [nodesL] at hN
    have a := linesT_sum t h.1 hn.1 (by omega)
    obtain ⟨b1, b2, -⟩ := linesT_len t h.1 hn.1
    have c := sumS_entry (m := m) (leaf := t.kids.isEmpty) (hk i) b2
    have d := linesK_sum m keys hk ts (i + 1) h.2 hn.2 (by omega)
    rw [linesK, sumS_app]
    simp only [nodesL]; omega
end
theorem idt_sum {t : Tr} (hn : t.nums) : sumS (idtL t) ≤ 2100000 ∧ (idtL t).length ≤ 600 := by
  unfold idtL
  cases h : treeOkB t
  · rw [if_neg (by simp)]; exact ⟨Nat.zero_le _, Nat.zero_le _⟩
  · rw [if_pos rfl]
    have h1 := h
    simp only [treeOkB, Bool.and_eq_true, decide_eq_true_eq] at h1
    have := linesT_sum t h1.2.2 hn h1.2.1
    exact ⟨by omega, (idt_len h hn).1⟩
/-- The lines as one text. -/
def catL (L : List ByteArray) : List UInt8 := L.flatMap fun l => l.data.toList ++ [10]
theorem catL_snoc (L : List ByteArray) (x : ByteArray) : catL (L ++ [x]) = (catL L ++ x.data.toList) ++ [10] := by simp [catL]
theorem catL_len : ∀ L : List ByteArray, (catL L).length = sumS L + L.length
  | [] => rfl
  | x :: L => by
    have ih := catL_len L
    have e : catL (x :: L) = (x.data.toList ++ [10]) ++ catL L := by simp [catL]
    have e2 : x.data.toList.length = x.size := by simp
    rw [e, List.length_append, List.length_append, ih, sumS_cons, e2]; simp only [List.length_cons, List.length_nil]; omega
theorem sumS_take (L : List ByteArray) (k : Nat) : sumS (L.take k) ≤ sumS L := by
  have : sumS L = sumS (L.take k) + sumS (L.drop k) := by rw [← sumS_app, List.take_append_drop]
  omega
theorem join_cat : ∀ (L : List ByteArray), 0 < L.length → Lib.join (L.map (·.data.toList)) [10] ++ [10] = catL L
  | [], h => by simp at h
  | [x], _ => by simp [Lib.join_one, catL]
  | x :: y :: L, _ => by
    have ih := join_cat (y :: L) (by simp)
    have e : catL (x :: y :: L) = x.data.toList ++ (10 :: catL (y :: L)) := by simp [catL]
    rw [e, ← ih]
    simp only [List.map_cons, Lib.join_cons]
    simp [Lib.joinTail]
def idtB (t : Tr) : ByteArray := if (catL (idtL t)).length ≤ 20000 then ⟨(catL (idtL t)).toArray⟩ else ⟨#[]⟩

set_option maxRecDepth 100000 in
set_option maxHeartbeats 4000000 in
theorem sIndentedLines (t : Tr) (S : Nat → Prop) (vk vs : Value) (w : World) (hn : t.nodes ≤ 2000000) (hnu : t.nums) (ht : TreeIn w S t vk vs) :
    Calls Tryd.prog 28 #[.agg #[.int .i64 t.kind, .bool t.flag, .int .i64 t.num, .string t.text, vk, vs]] w (IdtV t w) := by
  obtain ⟨hk0, hs0⟩ := treeIn_iff.1 ht
  obtain ⟨a1, m1, rfl⟩ := hk0.len
  obtain ⟨a2, m2, rfl⟩ := hs0.len
  have HB0 := Lib.hid (alloc_below w #[.int .i64 t.kind, .bool t.flag, .int .i64 t.num, .string t.text, .slice a1 t.keys.length m1, .slice a2 t.kids.length m2] 50)
  have HS0 := Lib.hid (Spill.new w t (.slice a1 t.keys.length m1) (.slice a2 t.kids.length m2) 50)
  obtain ⟨p0, p1, p2, p3, p4, p5⟩ := HS0.out.cells
  have HIN := Lib.hid (ht.keep HB0.out)
  have hok := sTreeOk t S _ _ _ hn HIN.out
  cases hokb : treeOkB t
  · have H := Lib.hid hokb
    rw [hokb] at hok
    have HOK := Lib.hid hok
    clear hok hnu hn ht hk0 hs0 hokb
    go_enter Tryd.func28, Tryd.ntmps28
    go_wp2_with (go_at_call 58; refine (HOK.out).mono ?_; rintro e w1 ⟨rfl, hb1⟩; have HS1 := Lib.hid (HS0.out.keep hb1); have HB1 := Lib.hid (bnext HB0.out hb1); have HI1 := Lib.hid (HIN.out.keep hb1); obtain ⟨q0, q1, q2, q3, q4, q5⟩ := HS1.out.cells)
    go_ret
    exact idtV_no H.out ((RowB.start 9 1 _ _ rfl).since HB1.out)
  have H := Lib.hid hokb
  have HID := Lib.hid (fun w0 hin => sIdt t.nodes t S (.slice a1 t.keys.length m1) (.slice a2 t.kids.length m2) w0 (Nat.le_refl _) hokb hnu hin)
  rw [hokb] at hok
  have HOK := Lib.hid hok
  clear hok hnu hn ht hk0 hs0 hokb
  go_enter Tryd.func28, Tryd.ntmps28
  go_wp2_with (go_at_call 58; refine (HOK.out).mono ?_; rintro e w1 ⟨rfl, hb1⟩; have HS1 := Lib.hid (HS0.out.keep hb1); have HB1 := Lib.hid (bnext HB0.out hb1); have HI1 := Lib.hid (HIN.out.keep hb1); obtain ⟨q0, q1, q2, q3, q4, q5⟩ := HS1.out.cells)
  refine (HID.out _ HI1.out).mono ?_
  rintro e w2 ⟨v, rfl, hrow⟩
  go_wp2
  go_ret
  exact idtV_yes H.out (hrow.since HB1.out)

set_option maxRecDepth 100000 in
set_option maxHeartbeats 4000000 in
theorem iIndentedLines (t : Tr) (S : Nat → Prop) (vk vs : Value) (w : World) (hn : t.nodes ≤ 2000000) (hnu : t.nums) (ht : TreeIn w S t vk vs) (hT : Tabs w) (hP : Pows w) :
    Calls Tryd.prog 30 #[.agg #[.int .i64 t.kind, .bool t.flag, .int .i64 t.num, .string t.text, vk, vs]] w (IdtV t w) := by
  have HT := Lib.hid (And.intro hT hP); clear hT hP
  obtain ⟨hk0, hs0⟩ := treeIn_iff.1 ht
  obtain ⟨a1, m1, rfl⟩ := hk0.len
  obtain ⟨a2, m2, rfl⟩ := hs0.len
  have HB0 := Lib.hid (alloc_below w #[.int .i64 t.kind, .bool t.flag, .int .i64 t.num, .string t.text, .slice a1 t.keys.length m1, .slice a2 t.kids.length m2] 50)
  have HS0 := Lib.hid (Spill.new w t (.slice a1 t.keys.length m1) (.slice a2 t.kids.length m2) 50)
  obtain ⟨p0, p1, p2, p3, p4, p5⟩ := HS0.out.cells
  have HIN := Lib.hid (ht.keep HB0.out)
  have hok := iTreeOk t S _ _ _ hn HIN.out (tabs_keep HT.out.1 HB0.out)
  cases hokb : treeOkB t
  · have H := Lib.hid hokb
    rw [hokb] at hok
    have HOK := Lib.hid hok
    clear hok hnu hn ht hk0 hs0 hokb
    go_enter Tryd.func30, Tryd.ntmps30
    go_wp2_with (go_at_call 51; refine (HOK.out).mono ?_; rintro e w1 ⟨rfl, hb1⟩; have HS1 := Lib.hid (HS0.out.keep hb1); have HB1 := Lib.hid (bnext HB0.out hb1); have HI1 := Lib.hid (HIN.out.keep hb1); obtain ⟨q0, q1, q2, q3, q4, q5⟩ := HS1.out.cells)
    go_ret
    exact idtV_no H.out ⟨World.ownsRow_nil _ _ _ _, HB1.out⟩
  have H := Lib.hid hokb
  have HID := Lib.hid (fun w0 hin hT hP => iIdt t.nodes t S (.slice a1 t.keys.length m1) (.slice a2 t.kids.length m2) w0 (Nat.le_refl _) hokb hnu hin hT hP)
  rw [hokb] at hok
  have HOK := Lib.hid hok
  clear hok hnu hn ht hk0 hs0 hokb
  go_enter Tryd.func30, Tryd.ntmps30
  go_wp2_with (go_at_call 51; refine (HOK.out).mono ?_; rintro e w1 ⟨rfl, hb1⟩; have HS1 := Lib.hid (HS0.out.keep hb1); have HB1 := Lib.hid (bnext HB0.out hb1); have HI1 := Lib.hid (HIN.out.keep hb1); obtain ⟨q0, q1, q2, q3, q4, q5⟩ := HS1.out.cells)
  refine (HID.out _ HI1.out (tabs_keep HT.out.1 HB1.out) (pows_keep HT.out.2 HB1.out)).mono ?_
  rintro e w2 ⟨v, rfl, hrow⟩
  go_wp2
  go_ret
  exact idtV_yes H.out (hrow.since HB1.out)

theorem Buf.sl9 {W0 w : World} {v : Value} {l : List UInt8} (h : Buf W0 w v l) : ∃ a c, v = .slice a l.length c := by
  rcases h.own.2 with ⟨hv, hl⟩ | ⟨g, cap, cur, hv, _⟩
  · exact ⟨none, 0, by rw [hv, hl]⟩
  · exact ⟨_, cap, hv⟩
set_option maxRecDepth 100000 in
set_option maxHeartbeats 4000000 in
theorem sIndentedText (t : Tr) (S : Nat → Prop) (vk vs : Value) (w : World) (hn : t.nodes ≤ 2000000) (hnu : t.nums) (ht : TreeIn w S t vk vs) :
    Calls Tryd.prog 36 #[.agg #[.int .i64 t.kind, .bool t.flag, .int .i64 t.num, .string t.text, vk, vs]] w fun e w' => e = .returned (.string (idtB t)) ∧ Below w.heap.size w w' := by
  obtain ⟨hk0, hs0⟩ := treeIn_iff.1 ht
  obtain ⟨a1, m1, rfl⟩ := hk0.len
  obtain ⟨a2, m2, rfl⟩ := hs0.len
  have HB0 := Lib.hid (alloc_below w #[.int .i64 t.kind, .bool t.flag, .int .i64 t.num, .string t.text, .slice a1 t.keys.length m1, .slice a2 t.kids.length m2] 50)
  have HS0 := Lib.hid (Spill.new w t (.slice a1 t.keys.length m1) (.slice a2 t.kids.length m2) 50)
  obtain ⟨p0, p1, p2, p3, p4, p5⟩ := HS0.out.cells
  have HIN := Lib.hid (ht.keep HB0.out)
  have HIL := Lib.hid (sIndentedLines t S _ _ _ hn hnu HIN.out)
  obtain ⟨hz1, hz2⟩ := idt_sum hnu
  have HBR : Hid (idtB t = if (catL (idtL t)).length ≤ 20000 then ⟨(catL (idtL t)).toArray⟩ else ⟨#[]⟩) := rfl
  unfold IdtV at HIL
  generalize idtL t = L at *
  clear hn hnu ht hk0 hs0
  go_enter Tryd.func36, Tryd.ntmps36
  go_wp2_with fail
  refine HIL.out.mono ?_
  rintro e w1 ⟨lv, rfl, hrow⟩
  obtain ⟨a, cap, fp, rfl, -, -, hsl⟩ := hrow.sl (strCell L)
  have HB1 := Lib.hid (bnext HB0.out hrow.bel); have HSL := Lib.hid hsl
  clear hrow hsl p0 p1 p2 p3 p4 p5
  go_wp2_with fail
  go_loopw [4, 5] (fun v i wr => ∃ j : Nat, j ≤ L.length ∧ i = .int .i64 j ∧ Hid (Buf w1 wr v (catL (L.take j)))) (fun _ i _ => L.length - (intOf i).toNat)
  case atStart => exact ⟨0, by omega, rfl, Lib.hid (Buf.lit w1 [] _ 0 rfl rfl (by omega))⟩
  case round =>
    obtain ⟨j, hj, rfl, HBF⟩ := hrel
    have hcl := catL_len (L.take j)
    have hst := sumS_take L j
    have hln : (L.take j).length = j := by simp; omega
    rw [hln] at hcl
    by_cases hlt : j < L.length
    · obtain ⟨b, off, rfl, hcell⟩ := (HSL.out.keep HBF.out.bel).at (by omega)
      have c0 := hcell j hlt 0 (by omega)
      simp only [Nat.mul_one, Nat.add_zero, strF] at c0
      have HE := Lib.hid (show catL (L.take (j + 1)) = (catL (L.take j) ++ (strAt L j).data.toList) ++ [10] by rw [take_strI L j hlt, catL_snoc])
      have hcl2 := catL_len (L.take (j + 1))
      have hst2 := sumS_take L (j + 1)
      have hln2 : (L.take (j + 1)).length = j + 1 := by simp; omega
      rw [hln2] at hcl2
      rw [HE.out, List.length_append, List.length_append] at hcl2
      have hxs : (strAt L j).data.toList.length = (strAt L j).size := by simp
      generalize strAt L j = X at *
      generalize catL (L.take j) = AC at *
      clear hcell
      go_wp2_with (first | (at_builtin; refine wpList_bufS (by rfl) _ _ (by rfl) _ _ w1 _ (by rfl) HBF.out X (by rfl) (by omega) ?_; intro v2 w2 hb2; have HB2 := Lib.hid hb2; clear hb2) | (at_builtin; refine wpList_buf (by rfl) _ _ (by rfl) _ _ [10] w1 _ (by rfl) HB2.out _ 1 1 (by rfl) rfl (by rfl) (by rw [List.length_append]; omega) ?_; intro v3 w3 hb3))
      go_roundw
      case rel => exact ⟨j + 1, by omega, by go_num, Lib.hid (by rw [HE.out]; exact hb3)⟩
      case measure => simp [intOf] <;> omega
    · obtain rfl : j = L.length := by omega
      have ht := HBF.out.text
      rw [List.take_length] at ht hcl HBF
      by_cases hd : (catL L).length ≤ 20000
      · have H2 := Lib.hid (show idtB t = ⟨(catL L).toArray⟩ by rw [HBR.out, if_pos hd])
        obtain ⟨a9, c9, hv9⟩ := HBF.out.sl9
        have d1 : decide ((20000 : Int) < ((catL L).length : Int)) = false := decide_eq_false (by omega)
        have d2 : decide (20000 < (catL L).length) = false := decide_eq_false (by omega)
        subst hv9
        clear hcl hst hln
        go_wp2
        go_ret
        exact ⟨ret_str H2.out.symm, bnext HB1.out HBF.out.bel⟩
      · have H2 := Lib.hid (show idtB t = ⟨#[]⟩ by rw [HBR.out, if_neg hd])
        obtain ⟨a9, c9, hv9⟩ := HBF.out.sl9
        have d1 : decide ((20000 : Int) < ((catL L).length : Int)) = true := decide_eq_true (by omega)
        have d2 : decide (20000 < (catL L).length) = true := decide_eq_true (by omega)
        subst hv9
        clear hcl hst hln
        go_wp2
        go_ret
        exact ⟨ret_str H2.out.symm, bnext HB1.out HBF.out.bel⟩

set_option maxRecDepth 100000 in
set_option maxHeartbeats 4000000 in
theorem iIndentedText (t : Tr) (S : Nat → Prop) (vk vs : Value) (w : World) (hn : t.nodes ≤ 2000000) (hnu : t.nums) (ht : TreeIn w S t vk vs) (hT : Tabs w) (hP : Pows w) :
    Calls Tryd.prog 37 #[.agg #[.int .i64 t.kind, .bool t.flag, .int .i64 t.num, .string t.text, vk, vs]] w fun e w' => e = .returned (.string (idtB t)) ∧ Below w.heap.size w w' := by
  have HT := Lib.hid (And.intro hT hP); clear hT hP
  obtain ⟨hk0, hs0⟩ := treeIn_iff.1 ht
  obtain ⟨a1, m1, rfl⟩ := hk0.len
  obtain ⟨a2, m2, rfl⟩ := hs0.len
  have HB0 := Lib.hid (alloc_below w #[.int .i64 t.kind, .bool t.flag, .int .i64 t.num, .string t.text, .slice a1 t.keys.length m1, .slice a2 t.kids.length m2] 50)
  have HS0 := Lib.hid (Spill.new w t (.slice a1 t.keys.length m1) (.slice a2 t.kids.length m2) 50)
  obtain ⟨p0, p1, p2, p3, p4, p5⟩ := HS0.out.cells
  have HIN := Lib.hid (ht.keep HB0.out)
  have hok := iTreeOk t S _ _ _ hn HIN.out (tabs_keep HT.out.1 HB0.out)
  obtain ⟨hz1, hz2⟩ := idt_sum hnu
  have HBR : Hid (idtB t = if (catL (idtL t)).length ≤ 20000 then ⟨(catL (idtL t)).toArray⟩ else ⟨#[]⟩) := rfl
  have HL : Hid (idtL t = if treeOkB t = true then linesT t else []) := rfl
  cases hokb : treeOkB t
  · have H := Lib.hid (show idtB t = ⟨#[]⟩ by rw [HBR.out, HL.out, hokb]; rfl)
    rw [hokb] at hok
    have HOK := Lib.hid hok
    clear hok hnu hn ht hk0 hs0 hokb
    go_enter Tryd.func37, Tryd.ntmps37
    go_wp2_with (go_at_call 51; refine (HOK.out).mono ?_; rintro e w1 ⟨rfl, hb1⟩; have HS1 := Lib.hid (HS0.out.keep hb1); have HB1 := Lib.hid (bnext HB0.out hb1); have HI1 := Lib.hid (HIN.out.keep hb1); obtain ⟨q0, q1, q2, q3, q4, q5⟩ := HS1.out.cells)
    go_ret
    exact ⟨ret_str H.out.symm, HB1.out⟩
  have he : idtL t = linesT t := by rw [HL.out, hokb]; rfl
  have hl := (idt_len hokb hnu).2.1
  rw [he] at hz1 hz2 HBR
  have HID := Lib.hid (fun w0 hin hT hP => iIdt t.nodes t S (.slice a1 t.keys.length m1) (.slice a2 t.kids.length m2) w0 (Nat.le_refl _) hokb hnu hin hT hP)
  rw [hokb] at hok
  have HOK := Lib.hid hok
  clear hok hnu hn ht hk0 hs0 hokb HL he
  generalize linesT t = L at *
  have hcl := catL_len L
  have hj := join_cat L hl
  obtain ⟨J, hJ⟩ : ∃ J : ByteArray, J = ⟨(Lib.join (L.map (·.data.toList)) [10]).toArray⟩ := ⟨_, rfl⟩
  have hJL : (J ++ ⟨#[10]⟩).data.toList = catL L := by rw [← hj, hJ]; simp
  have hJs : (J ++ ⟨#[10]⟩).size = (catL L).length := by rw [← hJL]; exact (Array.length_toList ..).symm
  have hJ1 : J.size + 1 = (catL L).length := by rw [← hJs, ByteArray.size_append]; rfl
  have hJd : J.data.toList.length = J.size := by simp
  have HJ := Lib.hid (show (⟨(catL L).toArray⟩ : ByteArray) = J ++ ⟨#[10]⟩ by rw [← hJL])
  have HJN := Lib.hid (fun bk o c W (h1 : ∀ (j : Nat) x, L[j]? = some x → World.cell? W ⟨bk, o + j, none⟩ = some (.string x)) (h2 : bk < W.heap.size) (h3 : L.length ≤ c) => Tryd.strings_Join bk o c L ⟨#[10]⟩ W h1 h2 (by omega) h3 (by
    have e : (Lib.join (L.map (·.data.toList)) [10]).length = J.size := by rw [hJ]; exact List.size_toArray.symm
    show (Lib.join (L.map (·.data.toList)) [10]).length ≤ _
    omega))
  have HJE := Lib.hid (show (⟨(Lib.join (L.map (·.data.toList)) (⟨#[10]⟩ : ByteArray).data.toList).toArray⟩ : ByteArray) = J from hJ.symm)
  rw [HJE.out] at HJN
  have hJb : J.size ≤ 3000000 := by omega
  have HJ1 := Lib.hid hJ1
  clear hj hJ hJL hJs hJd HJE hcl hJ1
  go_enter Tryd.func37, Tryd.ntmps37
  go_wp2_with (go_at_call 51; refine (HOK.out).mono ?_; rintro e w1 ⟨rfl, hb1⟩; have HS1 := Lib.hid (HS0.out.keep hb1); have HB1 := Lib.hid (bnext HB0.out hb1); have HI1 := Lib.hid (HIN.out.keep hb1); obtain ⟨q0, q1, q2, q3, q4, q5⟩ := HS1.out.cells)
  refine (HID.out _ HI1.out (tabs_keep HT.out.1 HB1.out) (pows_keep HT.out.2 HB1.out)).mono ?_
  rintro e w2 ⟨lv, rfl, hrow⟩
  have HB2 := Lib.hid (bnext HB1.out hrow.bel)
  obtain ⟨a, cap, fp, rfl, -, -, hsl⟩ := hrow.sl (strCell L)
  have hcap := row_cap hrow.own
  obtain ⟨b, off, rfl, hcell⟩ := hsl.at hl
  have hb0 := lt_of_cell (hcell 0 hl 0 (by omega))
  have HC := Lib.hid (show ∀ (j : Nat) x, L[j]? = some x → w2.cell? ⟨b, off + j, none⟩ = some (.string x) from fun j x hx => by
    have hjl := (List.getElem?_eq_some_iff.1 hx).1
    have := hcell j hjl 0 (by omega)
    simp only [Nat.mul_one, Nat.add_zero, strF, strAt, List.getD_eq_getElem?_getD, hx, Option.getD_some] at this
    exact this)
  clear hrow hsl hcell q0 q1 q2 q3 q4 q5
  by_cases hd : (catL L).length ≤ 20000
  · have H2 := Lib.hid (show idtB t = J ++ ⟨#[10]⟩ by rw [HBR.out, if_pos hd, HJ.out])
    have d1 : decide ((20000 : Int) < (J.size : Int) + 1) = false := decide_eq_false (by have := HJ1.out; omega)
    have d2 : decide (20000 < J.size + 1) = false := decide_eq_false (by have := HJ1.out; omega)
    clear hd
    go_wp2_with (go_at_call 98; refine (HJN.out b off cap _ HC.out hb0 hcap).mono ?_; rintro e w3 ⟨rfl, hb3⟩)
    go_ret
    exact ⟨ret_str H2.out.symm, bnext HB2.out hb3⟩
  · have H2 := Lib.hid (show idtB t = ⟨#[]⟩ by rw [HBR.out, if_neg hd])
    have d1 : decide ((20000 : Int) < (J.size : Int) + 1) = true := decide_eq_true (by have := HJ1.out; omega)
    have d2 : decide (20000 < J.size + 1) = true := decide_eq_true (by have := HJ1.out; omega)
    clear hd
    go_wp2_with (go_at_call 98; refine (HJN.out b off cap _ HC.out hb0 hcap).mono ?_; rintro e w3 ⟨rfl, hb3⟩)
    go_ret
    exact ⟨ret_str H2.out.symm, bnext HB2.out hb3⟩

end Go.Proofs.YtpcojfcbomkgpaaDoor
namespace Go.Proofs.YtpcojfcbomkgpaaDoor
open Go.RowKit

set_option maxRecDepth 100000 in
set_option maxHeartbeats 4000000 in
theorem lawIndentedText {H : Type} {enc : TypeId × Value → H} {W : World} {base : Nat} {v : Value} {d : DataW H} {p : List MemPlace} (hval : Value.okWide Tryd.prog W .any base 45 v)
    (h : DataW.Trod enc Tryd.prog W 0 (fun _ => true) true 45 v d p) (_h1 : Lib.VarReads Tryd.prog W "math/bits.deBruijn32tab" Rows.laid_math_bits_deBruijn32tab) (_h2 : Lib.VarReads Tryd.prog W "math/bits.deBruijn64tab" Rows.laid_math_bits_deBruijn64tab) (hp : Lib.VarReads Tryd.prog W "internal/strconv.uint64pow10" Rows.laid_internal_strconv_uint64pow10) (ha : Lib.VarReads Tryd.prog W "unicode/utf8.acceptRanges" Rows.laid_unicode_utf8_acceptRanges) (hf : Lib.VarReads Tryd.prog W "unicode/utf8.first" Rows.laid_unicode_utf8_first) :
    Calls Tryd.prog 7 #[v] W fun e w' => e = .returned (.bool true) ∧ Below W.heap.size W w' := by
  have HTV := Lib.hid (And.intro (tabs_of ha hf) (pows_of hp)); clear ha hf hp
  obtain ⟨t, vk, vs, rfl, ht, hfit, hnum⟩ := openTreeN hval h
  clear h hval
  obtain ⟨hk, hs⟩ := treeIn_iff.1 ht
  obtain ⟨a1, m1, rfl⟩ := hk.len
  obtain ⟨a2, m2, rfl⟩ := hs.len
  clear hk hs
  by_cases hs : (1048576 : Int) < (t.wt : Nat)
  · have hy := lessZ_neg hs
    go_enter Tryd.func7, Tryd.ntmps7
    go_wp2_with fail
    refine (szTree_any t _ _ _ _ _ hfit (ht.keep (alloc_below _ _ _)) (by omega) (by omega)).mono ?_; rintro e w1 ⟨rfl, hb1⟩
    go_wp2
    go_ret
    exact ⟨rfl, bnext (alloc_below _ _ _) hb1⟩
  have hy := lessZ_pos hs
  have hz : (0 : Int) ≤ 1048576 - (t.wt : Nat) := by omega
  have HW := Lib.hid (show t.wt ≤ 1048576 by omega)
  have HN := Lib.hid (show t.nodes ≤ 2000000 by have := nodes_wt t; omega)
  have HNU := Lib.hid hnum; clear hnum
  go_enter Tryd.func7, Tryd.ntmps7
  go_wp2_with fail
  refine (szTree_any t _ _ _ _ _ hfit (ht.keep (alloc_below _ _ _)) (by omega) (by omega)).mono ?_; rintro e w1 ⟨rfl, hb1⟩
  have hs1 := (Spill.new W t (.slice a1 t.keys.length m1) (.slice a2 t.kids.length m2) _).keep hb1
  have hbw1 := bnext (alloc_below _ _ _) hb1
  have HB1 := Lib.hid hb1; clear hb1
  obtain ⟨p0, p1, p2, p3, p4, p5⟩ := hs1.cells
  go_wp2_with fail
  clear p0 p1 p2 p3 p4 p5
  refine (toTree_any t _ _ _ _ HW.out (ht.keep hbw1)).mono ?_; rintro e w2 ⟨⟨k2, s2, f2, rfl, ho2, -, -⟩, hb2⟩
  have hT2 := TreeOwn.toIn (S := Any) _ _ _ _ ho2 (fun _ _ => trivial)
  obtain ⟨c1, n1, rfl⟩ := (treeIn_iff.1 hT2).1.len
  obtain ⟨c2, n2, rfl⟩ := (treeIn_iff.1 hT2).2.len
  have hs2 := hs1.keep hb2
  have hbw2 := bnext hbw1 hb2
  clear ho2
  go_wp2_with fail
  refine (sIndentedText t _ _ _ _ HN.out HNU.out hT2).mono ?_; rintro e w3 ⟨rfl, hb3⟩
  have hs3 := hs2.keep hb3
  have hbw3 := bnext hbw2 hb3
  obtain ⟨p0, p1, p2, p3, p4, p5⟩ := hs3.cells
  go_wp2_with fail
  clear p0 p1 p2 p3 p4 p5
  refine (toTree_any t _ _ _ _ HW.out (ht.keep hbw3)).mono ?_; rintro e w4 ⟨⟨k4, s4, f4, rfl, ho4, -, -⟩, hb4⟩
  have hT4 := TreeOwn.toIn (S := Any) _ _ _ _ ho4 (fun _ _ => trivial)
  obtain ⟨c3, n3, rfl⟩ := (treeIn_iff.1 hT4).1.len
  obtain ⟨c4, n4, rfl⟩ := (treeIn_iff.1 hT4).2.len
  have hs4 := hs3.keep hb4
  have hbw4 := bnext hbw3 hb4
  have hbx4 := bnext hbw4 (alloc_below w4 #[.int .i64 t.kind, .bool t.flag, .int .i64 t.num, .string t.text, .slice c3 t.keys.length n3, .slice c4 t.kids.length n4] 50)
  clear ho4
  go_wp2_with fail
  refine (iIndentedText t _ _ _ _ HN.out HNU.out (hT4.keep (alloc_below _ _ _)) (tabs_keep HTV.out.1 hbx4) (pows_keep HTV.out.2 hbx4)).mono ?_; rintro e w5 ⟨rfl, hb5⟩
  have hx5 := (Spill.new w4 t (.slice c3 t.keys.length n3) (.slice c4 t.kids.length n4) _).keep hb5
  have hs5 := (hs4.keep (alloc_below w4 _ _)).keep hb5
  have hbx5 := bnext (alloc_below w4 _ _) hb5
  have hbw5 := bnext hbw4 hbx5
  have HB5 := Lib.hid hb5; clear hb5
  obtain ⟨p0, p1, p2, p3, p4, p5⟩ := hs5.cells
  obtain ⟨q0, q1, q2, q3, q4, q5⟩ := hx5.cells
  have e1 := beq_self_eq_true (idtB t).toList
  go_wp2_with fail
  have hd5 : Below w5.heap.size w5 w5.drew := (Below.refl _ _).drew
  have hx5d := Lib.hid (hx5.keep hd5)
  go_region_with (first
    | (go_at_call 29; refine (toTree_any t _ _ _ _ HW.out (ht.keep hbw5.drew)).mono ?_; rintro e w6 ⟨⟨k6, s6, f6, rfl, ho6, -, -⟩, hb6⟩; have hT6 := TreeOwn.toIn (S := Any) _ _ _ _ ho6 (fun _ _ => trivial); obtain ⟨c5, n5, rfl⟩ := (treeIn_iff.1 hT6).1.len; obtain ⟨c6, n6, rfl⟩ := (treeIn_iff.1 hT6).2.len; clear ho6; obtain ⟨r0, r1, r2, r3, r4, r5⟩ := (hx5d.out.keep hb6).cells)
    | (go_at_call 32; refine (eqTree_any t _ _ _ _ _ _ _ HW.out ((hT4.keep hbx5.drew).keep hb6) hT6).mono ?_; rintro e w7 ⟨rfl, hb7⟩))
  all_goals (go_wp2; go_ret; exact ⟨rfl, bnext (bnext hbw5.drew hb6) hb7⟩)

end Go.Proofs.YtpcojfcbomkgpaaDoor
