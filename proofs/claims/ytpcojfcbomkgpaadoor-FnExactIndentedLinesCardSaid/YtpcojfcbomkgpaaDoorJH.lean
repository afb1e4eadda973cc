/- IdtL, IdtN, merged. -/
import Derived.Test.YtpcojfcbomkgpaaDoorJD
import Derived.Lib.Join
import Derived.Lib.JoinFns
import Derived.Test.YtpcojfcbomkgpaaDoorJG
import Derived.Test.YtpcojfcbomkgpaaDoorJF
import Derived.Deep.RegionWith
namespace Go.Proofs.YtpcojfcbomkgpaaDoor
open Go.RowKit

def idtL (t : Tr) : List ByteArray := if treeOkB t = true then linesT t else []
def IdtV (t : Tr) (w : World) (e : Ending) (w' : World) : Prop := ∃ v, e = .returned v ∧ RowB 9 1 w w' v (idtL t).length ((idtL t).map Value.string)
theorem idtV_yes {t : Tr} {w w' : World} {v : Value} (h : treeOkB t = true) (hr : RowB 9 1 w w' v (linesT t).length ((linesT t).map Value.string)) : IdtV t w (.returned v) w' := by
  have e : idtL t = linesT t := if_pos h
  exact ⟨v, rfl, by rw [e]; exact hr⟩
theorem idtV_no {t : Tr} {w w' : World} {v : Value} (h : treeOkB t = false) (hr : RowB 9 1 w w' v 0 []) : IdtV t w (.returned v) w' := by
  have e : idtL t = [] := if_neg (by simp [h])
  exact ⟨v, rfl, by rw [e]; exact hr⟩

/-! ### How long the lines are, all together -/
def sumS (L : List ByteArray) : Nat := (L.map ByteArray.size).sum
theorem sumS_app (L M : List ByteArray) : sumS (L ++ M) = sumS L + sumS M := by simp [sumS]
theorem sumS_cons (x : ByteArray) (L : List ByteArray) : sumS (x :: L) = x.size + sumS L := by simp [sumS]
theorem sumS_two : ∀ L : List ByteArray, sumS (L.map twoSp) = sumS L + 2 * L.length
  | [] => rfl
  | x :: L => by
    have h : (twoSp x).size = 2 + x.size := by rw [twoSp, ByteArray.size_append]; rfl
    rw [List.map_cons, sumS_cons, sumS_cons, sumS_two L, List.length_cons, h]; omega
theorem sumS_entry {m : Bool} {key : ByteArray} {leaf : Bool} {L : List ByteArray} (hk : key.size ≤ 400) (hL : 0 < L.length) : sumS (entryL m key leaf L) ≤ sumS L + 2 * L.length + 2404 := by
  have h1 := keyText_len key
  cases L with
  | nil => simp at hL
  | cons x r =>
    have e2 : (⟨#[58, 32]⟩ : ByteArray).size = 2 := rfl
    have e1 : (⟨#[58]⟩ : ByteArray).size = 1 := rfl
    have e3 : (⟨#[45, 32]⟩ : ByteArray).size = 2 := rfl
    unfold entryL
    split
    · split
      · show sumS [(keyTextB key ++ ⟨#[58, 32]⟩) ++ x] ≤ _
        rw [sumS_cons, sumS_cons, ByteArray.size_append, ByteArray.size_append, e2]
        have : sumS [] = 0 := rfl
        omega
      · rw [sumS_cons, sumS_two, ByteArray.size_append, e1]; omega
    · show sumS ((⟨#[45, 32]⟩ ++ x) :: r.map twoSp) ≤ _
      rw [sumS_cons, sumS_two, ByteArray.size_append, e3, sumS_cons, List.length_cons]; omega
mutual
theorem linesT_sum : ∀ t : Tr, shapeB t = true → t.nums → t.nodes ≤ 300 → sumS (linesT t) + 4000 ≤ 7000 * t.nodes
  | .mk k f n s keys kids, h, hn, hN => by
    obtain ⟨h1, h2, h3⟩ := shape_parts h
    obtain ⟨a1, a2, a3, a4, a5, a6⟩ := head_kind h1
    simp only [Tr.text, Tr.keys, Tr.kids] at a3 h2 h3
    have hb := nums_bd hn
    simp only [Tr.num] at hb
    have hs := text_size a3
    simp only [Tr.nums] at hn
    simp only [Tr.nodes] at hN
    rw [linesT]
    by_cases hk : kids.isEmpty = true
    · rw [if_pos hk]
      have := scal_len (k := k) (f := f) hs hb
      rw [sumS_cons]
      have e : sumS [] = 0 := rfl
      simp only [Tr.nodes]; omega
    · rw [if_neg hk]
      have := linesK_sum (k == 6) keys (key_size h2) kids 0 h3 hn.2 (by omega)
      simp only [Tr.nodes]; omega
theorem linesK_sum (m : Bool) (keys : List ByteArray) (hk : ∀ j, (strAt keys j).size ≤ 400) : ∀ (l : List Tr) (i : Nat), shapeL l = true → numsL l → nodesL l ≤ 300 → sumS (linesK m keys i l) ≤ 7000 * nodesL l
  | [], i, _, _, _ => by simp [linesK, sumS]
  | t :: ts, i, h, hn, hN => by
    rw [shapeL, Bool.and_eq_true] at h
    simp only [numsL] at hn
    simp only [nodesL] at hN
    have a := linesT_sum t h.1 hn.1 (by omega)
    obtain ⟨b1, b2, -⟩ := linesT_len t h.1 hn.1
    have c := sumS_entry (m := m) (leaf := t.kids.isEmpty) (hk i) b2
    have d := linesK_sum m keys hk ts (i + 1) h.2 hn.2 (by omega)
    rw [linesK, sumS_app]
    simp only [nodesL]; omega
end
theorem idt_sum {t : Tr} (hn : t.nums) : sumS (idtL t) ≤ 2100000 ∧ (idtL t).length ≤ 600 := by
  unfold idtL
  cases h : treeOkB t
  · rw [if_neg (by simp)]; exact ⟨Nat.zero_le _, Nat.zero_le _⟩
  · rw [if_pos rfl]
    have h1 := h
    simp only [treeOkB, Bool.and_eq_true, decide_eq_true_eq] at h1
    have := linesT_sum t h1.2.2 hn h1.2.1
    exact ⟨by omega, (idt_len h hn).1⟩
/-- The lines as one text. -/
def catL (L : List ByteArray) : List UInt8 := L.flatMap fun l => l.data.toList ++ [10]
theorem catL_snoc (L : List ByteArray) (x : ByteArray) : catL (L ++ [x]) = (catL L ++ x.data.toList) ++ [10] := by simp [catL]
theorem catL_len : ∀ L : List ByteArray, (catL L).length = sumS L + L.length
  | [] => rfl
  | x :: L => by
    have ih := catL_len L
    have e : catL (x :: L) = (x.data.toList ++ [10]) ++ catL L := by simp [catL]
    have e2 : x.data.toList.length = x.size := by simp
    rw [e, List.length_append, List.length_append, ih, sumS_cons, e2]; simp only [List.length_cons, List.length_nil]; omega
theorem sumS_take (L : List ByteArray) (k : Nat) : sumS (L.take k) ≤ sumS L := by
  have : sumS L = sumS (L.take k) + sumS (L.drop k) := by rw [← sumS_app, List.take_append_drop]
  omega
theorem join_cat : ∀ (L : List ByteArray), 0 < L.length → Lib.join (L.map (·.data.toList)) [10] ++ [10] = catL L
  | [], h => by simp at h
  | [x], _ => by simp [Lib.join_one, catL]
  | x :: y :: L, _ => by
    have ih := join_cat (y :: L) (by simp)
    have e : catL (x :: y :: L) = x.data.toList ++ (10 :: catL (y :: L)) := by simp [catL]
    rw [e, ← ih]
    simp only [List.map_cons, Lib.join_cons]
    simp [Lib.joinTail]
def idtB (t : Tr) : ByteArray := if (catL (idtL t)).length ≤ 20000 then ⟨(catL (idtL t)).toArray⟩ else ⟨#[]⟩

set_option maxRecDepth 100000 in
set_option maxHeartbeats 4000000 in
theorem sIndentedLines (t : Tr) (S : Nat → Prop) (vk vs : Value) (w : World) (hn : t.nodes ≤ 2000000) (hnu : t.nums) (ht : TreeIn w S t vk vs) :
    Calls Tryd.prog 28 #[.agg #[.int .i64 t.kind, .bool t.flag, .int .i64 t.num, .string t.text, vk, vs]] w (IdtV t w) := by
  obtain ⟨hk0, hs0⟩ := treeIn_iff.1 ht
  obtain ⟨a1, m1, rfl⟩ := hk0.len
  obtain ⟨a2, m2, rfl⟩ := hs0.len
  have HB0 := Lib.hid (alloc_below w #[.int .i64 t.kind, .bool t.flag, .int .i64 t.num, .string t.text, .slice a1 t.keys.length m1, .slice a2 t.kids.length m2] 50)
  have HS0 := Lib.hid (Spill.new w t (.slice a1 t.keys.length m1) (.slice a2 t.kids.length m2) 50)
  obtain ⟨p0, p1, p2, p3, p4, p5⟩ := HS0.out.cells
  have HIN := Lib.hid (ht.keep HB0.out)
  have hok := sTreeOk t S _ _ _ hn HIN.out
  cases hokb : treeOkB t
  · have H := Lib.hid hokb
    rw [hokb] at hok
    have HOK := Lib.hid hok
    clear hok hnu hn ht hk0 hs0 hokb
    go_enter Tryd.func28, Tryd.ntmps28
    go_wp2_with (go_at_call 58; refine (HOK.out).mono ?_; rintro e w1 ⟨rfl, hb1⟩; have HS1 := Lib.hid (HS0.out.keep hb1); have HB1 := Lib.hid (bnext HB0.out hb1); have HI1 := Lib.hid (HIN.out.keep hb1); obtain ⟨q0, q1, q2, q3, q4, q5⟩ := HS1.out.cells)
    go_ret
    exact idtV_no H.out ((RowB.start 9 1 _ _ rfl).since HB1.out)
  have H := Lib.hid hokb
  have HID := Lib.hid (fun w0 hin => sIdt t.nodes t S (.slice a1 t.keys.length m1) (.slice a2 t.kids.length m2) w0 (Nat.le_refl _) hokb hnu hin)
  rw [hokb] at hok
  have HOK := Lib.hid hok
  clear hok hnu hn ht hk0 hs0 hokb
  go_enter Tryd.func28, Tryd.ntmps28
  go_wp2_with (go_at_call 58; refine (HOK.out).mono ?_; rintro e w1 ⟨rfl, hb1⟩; have HS1 := Lib.hid (HS0.out.keep hb1); have HB1 := Lib.hid (bnext HB0.out hb1); have HI1 := Lib.hid (HIN.out.keep hb1); obtain ⟨q0, q1, q2, q3, q4, q5⟩ := HS1.out.cells)
  refine (HID.out _ HI1.out).mono ?_
  rintro e w2 ⟨v, rfl, hrow⟩
  go_wp2
  go_ret
  exact idtV_yes H.out (hrow.since HB1.out)

set_option maxRecDepth 100000 in
set_option maxHeartbeats 4000000 in
theorem iIndentedLines (t : Tr) (S : Nat → Prop) (vk vs : Value) (w : World) (hn : t.nodes ≤ 2000000) (hnu : t.nums) (ht : TreeIn w S t vk vs) (hT : Tabs w) (hP : Pows w) :
    Calls Tryd.prog 30 #[.agg #[.int .i64 t.kind, .bool t.flag, .int .i64 t.num, .string t.text, vk, vs]] w (IdtV t w) := by
  have HT := Lib.hid (And.intro hT hP); clear hT hP
  obtain ⟨hk0, hs0⟩ := treeIn_iff.1 ht
  obtain ⟨a1, m1, rfl⟩ := hk0.len
  obtain ⟨a2, m2, rfl⟩ := hs0.len
  have HB0 := Lib.hid (alloc_below w #[.int .i64 t.kind, .bool t.flag, .int .i64 t.num, .string t.text, .slice a1 t.keys.length m1, .slice a2 t.kids.length m2] 50)
  have HS0 := Lib.hid (Spill.new w t (.slice a1 t.keys.length m1) (.slice a2 t.kids.length m2) 50)
  obtain ⟨p0, p1, p2, p3, p4, p5⟩ := HS0.out.cells
  have HIN := Lib.hid (ht.keep HB0.out)
  have hok := iTreeOk t S _ _ _ hn HIN.out (tabs_keep HT.out.1 HB0.out)
  cases hokb : treeOkB t
  · have H := Lib.hid hokb
    rw [hokb] at hok
    have HOK := Lib.hid hok
    clear hok hnu hn ht hk0 hs0 hokb
    go_enter Tryd.func30, Tryd.ntmps30
    go_wp2_with (go_at_call 51; refine (HOK.out).mono ?_; rintro e w1 ⟨rfl, hb1⟩; have HS1 := Lib.hid (HS0.out.keep hb1); have HB1 := Lib.hid (bnext HB0.out hb1); have HI1 := Lib.hid (HIN.out.keep hb1); obtain ⟨q0, q1, q2, q3, q4, q5⟩ := HS1.out.cells)
    go_ret
    exact idtV_no H.out ⟨World.ownsRow_nil _ _ _ _, HB1.out⟩
  have H := Lib.hid hokb
  have HID := Lib.hid (fun w0 hin hT hP => iIdt t.nodes t S (.slice a1 t.keys.length m1) (.slice a2 t.kids.length m2) w0 (Nat.le_refl _) hokb hnu hin hT hP)
  rw [hokb] at hok
  have HOK := Lib.hid hok
  clear hok hnu hn ht hk0 hs0 hokb
  go_enter Tryd.func30, Tryd.ntmps30
  go_wp2_with (go_at_call 51; refine (HOK.out).mono ?_; rintro e w1 ⟨rfl, hb1⟩; have HS1 := Lib.hid (HS0.out.keep hb1); have HB1 := Lib.hid (bnext HB0.out hb1); have HI1 := Lib.hid (HIN.out.keep hb1); obtain ⟨q0, q1, q2, q3, q4, q5⟩ := HS1.out.cells)
  refine (HID.out _ HI1.out (tabs_keep HT.out.1 HB1.out) (pows_keep HT.out.2 HB1.out)).mono ?_
  rintro e w2 ⟨v, rfl, hrow⟩
  go_wp2
  go_ret
  exact idtV_yes H.out (hrow.since HB1.out)

theorem Buf.sl9 {W0 w : World} {v : Value} {l : List UInt8} (h : Buf W0 w v l) : ∃ a c, v = .slice a l.length c := by
  rcases h.own.2 with ⟨hv, hl⟩ | ⟨g, cap, cur, hv, _⟩
  · exact ⟨none, 0, by rw [hv, hl]⟩
  · exact ⟨_, cap, hv⟩
set_option maxRecDepth 100000 in
set_option maxHeartbeats 4000000 in
theorem sIndentedText (t : Tr) (S : Nat → Prop) (vk vs : Value) (w : World) (hn : t.nodes ≤ 2000000) (hnu : t.nums) (ht : TreeIn w S t vk vs) :
    Calls Tryd.prog 36 #[.agg #[.int .i64 t.kind, .bool t.flag, .int .i64 t.num, .string t.text, vk, vs]] w fun e w' => e = .returned (.string (idtB t)) ∧ Below w.heap.size w w' := by
  obtain ⟨hk0, hs0⟩ := treeIn_iff.1 ht
  obtain ⟨a1, m1, rfl⟩ := hk0.len
  obtain ⟨a2, m2, rfl⟩ := hs0.len
  have HB0 := Lib.hid (alloc_below w #[.int .i64 t.kind, .bool t.flag, .int .i64 t.num, .string t.text, .slice a1 t.keys.length m1, .slice a2 t.kids.length m2] 50)
  have HS0 := Lib.hid (Spill.new w t (.slice a1 t.keys.length m1) (.slice a2 t.kids.length m2) 50)
  obtain ⟨p0, p1, p2, p3, p4, p5⟩ := HS0.out.cells
  have HIN := Lib.hid (ht.keep HB0.out)
  have HIL := Lib.hid (sIndentedLines t S _ _ _ hn hnu HIN.out)
  obtain ⟨hz1, hz2⟩ := idt_sum hnu
  have HBR : Hid (idtB t = if (catL (idtL t)).length ≤ 20000 then ⟨(catL (idtL t)).toArray⟩ else ⟨#[]⟩) := rfl
  unfold IdtV at HIL
  generalize idtL t = L at *
  clear hn hnu ht hk0 hs0
  go_enter Tryd.func36, Tryd.ntmps36
  go_wp2_with fail
  refine HIL.out.mono ?_
  rintro e w1 ⟨lv, rfl, hrow⟩
  obtain ⟨a, cap, fp, rfl, -, -, hsl⟩ := hrow.sl (strCell L)
  have HB1 := Lib.hid (bnext HB0.out hrow.bel); have HSL := Lib.hid hsl
  clear hrow hsl p0 p1 p2 p3 p4 p5
  go_wp2_with fail
  go_loopw [4, 5] (fun v i wr => ∃ j : Nat, j ≤ L.length ∧ i = .int .i64 j ∧ Hid (Buf w1 wr v (catL (L.take j)))) (fun _ i _ => L.length - (intOf i).toNat)
  case atStart => exact ⟨0, by omega, rfl, Lib.hid (Buf.lit w1 [] _ 0 rfl rfl (by omega))⟩
  case round =>
    obtain ⟨j, hj, rfl, HBF⟩ := hrel
    have hcl := catL_len (L.take j)
    have hst := sumS_take L j
    have hln : (L.take j).length = j := by simp; omega
    rw [hln] at hcl
    by_cases hlt : j < L.length
    · obtain ⟨b, off, rfl, hcell⟩ := (HSL.out.keep HBF.out.bel).at (by omega)
      have c0 := hcell j hlt 0 (by omega)
      simp only [Nat.mul_one, Nat.add_zero, strF] at c0
      have HE := Lib.hid (show catL (L.take (j + 1)) = (catL (L.take j) ++ (strAt L j).data.toList) ++ [10] by rw [take_strI L j hlt, catL_snoc])
      have hcl2 := catL_len (L.take (j + 1))
      have hst2 := sumS_take L (j + 1)
      have hln2 : (L.take (j + 1)).length = j + 1 := by simp; omega
      rw [hln2] at hcl2
      rw [HE.out, List.length_append, List.length_append] at hcl2
      have hxs : (strAt L j).data.toList.length = (strAt L j).size := by simp
      generalize strAt L j = X at *
      generalize catL (L.take j) = AC at *
      clear hcell
      go_wp2_with (first | (at_builtin; refine wpList_bufS (by rfl) _ _ (by rfl) _ _ w1 _ (by rfl) HBF.out X (by rfl) (by omega) ?_; intro v2 w2 hb2; have HB2 := Lib.hid hb2; clear hb2) | (at_builtin; refine wpList_buf (by rfl) _ _ (by rfl) _ _ [10] w1 _ (by rfl) HB2.out _ 1 1 (by rfl) rfl (by rfl) (by rw [List.length_append]; omega) ?_; intro v3 w3 hb3))
      go_roundw
      case rel => exact ⟨j + 1, by omega, by go_num, Lib.hid (by rw [HE.out]; exact hb3)⟩
      case measure => simp [intOf] <;> omega
    · obtain rfl : j = L.length := by omega
      have ht := HBF.out.text
      rw [List.take_length] at ht hcl HBF
      by_cases hd : (catL L).length ≤ 20000
      · have H2 := Lib.hid (show idtB t = ⟨(catL L).toArray⟩ by rw [HBR.out, if_pos hd])
        obtain ⟨a9, c9, hv9⟩ := HBF.out.sl9
        have d1 : decide ((20000 : Int) < ((catL L).length : Int)) = false := decide_eq_false (by omega)
        have d2 : decide (20000 < (catL L).length) = false := decide_eq_false (by omega)
        subst hv9
        clear hcl hst hln
        go_wp2
        go_ret
        exact ⟨ret_str H2.out.symm, bnext HB1.out HBF.out.bel⟩
      · have H2 := Lib.hid (show idtB t = ⟨#[]⟩ by rw [HBR.out, if_neg hd])
        obtain ⟨a9, c9, hv9⟩ := HBF.out.sl9
        have d1 : decide ((20000 : Int) < ((catL L).length : Int)) = true := decide_eq_true (by omega)
        have d2 : decide (20000 < (catL L).length) = true := decide_eq_true (by omega)
        subst hv9
        clear hcl hst hln
        go_wp2
        go_ret
        exact ⟨ret_str H2.out.symm, bnext HB1.out HBF.out.bel⟩

set_option maxRecDepth 100000 in
set_option maxHeartbeats 4000000 in
theorem iIndentedText (t : Tr) (S : Nat → Prop) (vk vs : Value) (w : World) (hn : t.nodes ≤ 2000000) (hnu : t.nums) (ht : TreeIn w S t vk vs) (hT : Tabs w) (hP : Pows w) :
    Calls Tryd.prog 37 #[.agg #[.int .i64 t.kind, .bool t.flag, .int .i64 t.num, .string t.text, vk, vs]] w fun e w' => e = .returned (.string (idtB t)) ∧ Below w.heap.size w w' := by
  have HT := Lib.hid (And.intro hT hP); clear hT hP
  obtain ⟨hk0, hs0⟩ := treeIn_iff.1 ht
  obtain ⟨a1, m1, rfl⟩ := hk0.len
  obtain ⟨a2, m2, rfl⟩ := hs0.len
  have HB0 := Lib.hid (alloc_below w #[.int .i64 t.kind, .bool t.flag, .int .i64 t.num, .string t.text, .slice a1 t.keys.length m1, .slice a2 t.kids.length m2] 50)
  have HS0 := Lib.hid (Spill.new w t (.slice a1 t.keys.length m1) (.slice a2 t.kids.length m2) 50)
  obtain ⟨p0, p1, p2, p3, p4, p5⟩ := HS0.out.cells
  have HIN := Lib.hid (ht.keep HB0.out)
  have hok := iTreeOk t S _ _ _ hn HIN.out (tabs_keep HT.out.1 HB0.out)
  obtain ⟨hz1, hz2⟩ := idt_sum hnu
  have HBR : Hid (idtB t = if (catL (idtL t)).length ≤ 20000 then ⟨(catL (idtL t)).toArray⟩ else ⟨#[]⟩) := rfl
  have HL : Hid (idtL t = if treeOkB t = true then linesT t else []) := rfl
  cases hokb : treeOkB t
  · have H := Lib.hid (show idtB t = ⟨#[]⟩ by rw [HBR.out, HL.out, hokb]; rfl)
    rw [hokb] at hok
    have HOK := Lib.hid hok
    clear hok hnu hn ht hk0 hs0 hokb
    go_enter Tryd.func37, Tryd.ntmps37
    go_wp2_with (go_at_call 51; refine (HOK.out).mono ?_; rintro e w1 ⟨rfl, hb1⟩; have HS1 := Lib.hid (HS0.out.keep hb1); have HB1 := Lib.hid (bnext HB0.out hb1); have HI1 := Lib.hid (HIN.out.keep hb1); obtain ⟨q0, q1, q2, q3, q4, q5⟩ := HS1.out.cells)
    go_ret
    exact ⟨ret_str H.out.symm, HB1.out⟩
  have he : idtL t = linesT t := by rw [HL.out, hokb]; rfl
  have hl := (idt_len hokb hnu).2.1
  rw [he] at hz1 hz2 HBR
  have HID := Lib.hid (fun w0 hin hT hP => iIdt t.nodes t S (.slice a1 t.keys.length m1) (.slice a2 t.kids.length m2) w0 (Nat.le_refl _) hokb hnu hin hT hP)
  rw [hokb] at hok
  have HOK := Lib.hid hok
  clear hok hnu hn ht hk0 hs0 hokb HL he
  generalize linesT t = L at *
  have hcl := catL_len L
  have hj := join_cat L hl
  obtain ⟨J, hJ⟩ : ∃ J : ByteArray, J = ⟨(Lib.join (L.map (·.data.toList)) [10]).toArray⟩ := ⟨_, rfl⟩
  have hJL : (J ++ ⟨#[10]⟩).data.toList = catL L := by rw [← hj, hJ]; simp
  have hJs : (J ++ ⟨#[10]⟩).size = (catL L).length := by rw [← hJL]; exact (Array.length_toList ..).symm
  have hJ1 : J.size + 1 = (catL L).length := by rw [← hJs, ByteArray.size_append]; rfl
  have hJd : J.data.toList.length = J.size := by simp
  have HJ := Lib.hid (show (⟨(catL L).toArray⟩ : ByteArray) = J ++ ⟨#[10]⟩ by rw [← hJL])
  have HJN := Lib.hid (fun bk o c W (h1 : ∀ (j : Nat) x, L[j]? = some x → World.cell? W ⟨bk, o + j, none⟩ = some (.string x)) (h2 : bk < W.heap.size) (h3 : L.length ≤ c) => Tryd.strings_Join bk o c L ⟨#[10]⟩ W h1 h2 (by omega) h3 (by
    have e : (Lib.join (L.map (·.data.toList)) [10]).length = J.size := by rw [hJ]; exact List.size_toArray.symm
    show (Lib.join (L.map (·.data.toList)) [10]).length ≤ _
    omega))
  have HJE := Lib.hid (show (⟨(Lib.join (L.map (·.data.toList)) (⟨#[10]⟩ : ByteArray).data.toList).toArray⟩ : ByteArray) = J from hJ.symm)
  rw [HJE.out] at HJN
  have hJb : J.size ≤ 3000000 := by omega
  have HJ1 := Lib.hid hJ1
  clear hj hJ hJL hJs hJd HJE hcl hJ1
  go_enter Tryd.func37, Tryd.ntmps37
  go_wp2_with (go_at_call 51; refine (HOK.out).mono ?_; rintro e w1 ⟨rfl, hb1⟩; have HS1 := Lib.hid (HS0.out.keep hb1); have HB1 := Lib.hid (bnext HB0.out hb1); have HI1 := Lib.hid (HIN.out.keep hb1); obtain ⟨q0, q1, q2, q3, q4, q5⟩ := HS1.out.cells)
  refine (HID.out _ HI1.out (tabs_keep HT.out.1 HB1.out) (pows_keep HT.out.2 HB1.out)).mono ?_
  rintro e w2 ⟨lv, rfl, hrow⟩
  have HB2 := Lib.hid (bnext HB1.out hrow.bel)
  obtain ⟨a, cap, fp, rfl, -, -, hsl⟩ := hrow.sl (strCell L)
  have hcap := row_cap hrow.own
  obtain ⟨b, off, rfl, hcell⟩ := hsl.at hl
  have hb0 := lt_of_cell (hcell 0 hl 0 (by omega))
  have HC := Lib.hid (show ∀ (j : Nat) x, L[j]? = some x → w2.cell? ⟨b, off + j, none⟩ = some (.string x) from fun j x hx => by
    have hjl := (List.getElem?_eq_some_iff.1 hx).1
    have := hcell j hjl 0 (by omega)
    simp only [Nat.mul_one, Nat.add_zero, strF, strAt, List.getD_eq_getElem?_getD, hx, Option.getD_some] at this
    exact this)
  clear hrow hsl hcell q0 q1 q2 q3 q4 q5
  by_cases hd : (catL L).length ≤ 20000
  · have H2 := Lib.hid (show idtB t = J ++ ⟨#[10]⟩ by rw [HBR.out, if_pos hd, HJ.out])
    have d1 : decide ((20000 : Int) < (J.size : Int) + 1) = false := decide_eq_false (by have := HJ1.out; omega)
    have d2 : decide (20000 < J.size + 1) = false := decide_eq_false (by have := HJ1.out; omega)
    clear hd
    go_wp2_with (go_at_call 98; refine (HJN.out b off cap _ HC.out hb0 hcap).mono ?_; rintro e w3 ⟨rfl, hb3⟩)
    go_ret
    exact ⟨ret_str H2.out.symm, bnext HB2.out hb3⟩
  · have H2 := Lib.hid (show idtB t = ⟨#[]⟩ by rw [HBR.out, if_neg hd])
    have d1 : decide ((20000 : Int) < (J.size : Int) + 1) = true := decide_eq_true (by have := HJ1.out; omega)
    have d2 : decide (20000 < J.size + 1) = true := decide_eq_true (by have := HJ1.out; omega)
    clear hd
    go_wp2_with (go_at_call 98; refine (HJN.out b off cap _ HC.out hb0 hcap).mono ?_; rintro e w3 ⟨rfl, hb3⟩)
    go_ret
    exact ⟨ret_str H2.out.symm, bnext HB2.out hb3⟩

end Go.Proofs.YtpcojfcbomkgpaaDoor
namespace Go.Proofs.YtpcojfcbomkgpaaDoor
open Go.RowKit

/-- The strings l at v, with their block, from lo on and below hi. -/
structure GStr (w : World) (lo hi : Nat) (l : List ByteArray) (v : Value) (fp : List Nat) : Prop where
  own : StrOwn w v l fp
  fb : ∀ x, x ∈ fp → lo ≤ x ∧ x < hi
theorem GStr.keep {w w' : World} {lo hi : Nat} {l : List ByteArray} {v : Value} {fp : List Nat} (h : GStr w lo hi l v fp) (hb : Below w.heap.size w w') : GStr w' lo hi l v fp := ⟨h.own.keep hb, h.fb⟩
theorem GStr.far {w w' : World} {lo hi : Nat} {l : List ByteArray} {v : Value} {fp L : List Nat} (h : GStr w lo hi l v fp) (ha : Apart L w w') (hd : ∀ x, x ∈ L → x < lo ∨ hi ≤ x) : GStr w' lo hi l v fp :=
  ⟨h.own.same fun x hx hl => ha.block x hl fun hy => by have := hd _ hy; have := h.fb x hx; omega, h.fb⟩
theorem GStr.tin {w : World} {lo hi : Nat} {l : List ByteArray} {v : Value} {fp : List Nat} (h : GStr w lo hi l v fp) : StrsIn w Any v l := h.own.toIn (fun _ _ => trivial)
def IdtG (l : List ByteArray) (w : World) (e : Ending) (w' : World) : Prop := ∃ a n fp, e = .returned (.slice a l.length n) ∧ GStr w' w.heap.size w'.heap.size l (.slice a l.length n) fp ∧ Below w.heap.size w w'
theorem IdtV.toG {t : Tr} {w w' : World} {e : Ending} (h : IdtV t w e w') : IdtG (idtL t) w e w' := by
  obtain ⟨v, rfl, hr⟩ := h
  obtain ⟨fp, h1, -, h3⟩ := strOwn_of_row hr.own
  obtain ⟨a, n, rfl⟩ := str_shape h1
  exact ⟨a, n, fp, rfl, ⟨h1, fun x hx => ⟨h3 x hx, h1.lt x hx⟩⟩, hr.bel⟩
theorem markStr1 (l : List ByteArray) (a : Option Addr) (cap : Nat) (fp : List Nat) (w : World) (m : Int) (hn : l.length ≤ 1000000) (hm : m = 1 + (l.length : Int)) (ho : StrOwn w (.slice a l.length cap) l fp) :
    Calls Tryd.prog 34 #[.slice a l.length cap, .int .i64 1] w fun e w' => e = .returned (.int .i64 m) ∧ StrOwn w' (.slice a l.length cap) (markStrs 1 l.length) fp ∧ Apart fp w w' := by
  have := markStringS_own l a cap fp 1 w (by omega) ho
  rw [hm]; exact this
theorem heldStr1 (n : Nat) (S : Nat → Prop) (a : Option Addr) (cap : Nat) (w : World) (m : Int) (hn : n ≤ 1000000) (hm : m = 1 + (n : Int)) (hc : StrsIn w S (.slice a n cap) (markStrs 1 n)) :
    Calls Tryd.prog 35 #[.slice a n cap, .int .i64 1] w fun e w' => e = .returned (.int .i64 m) ∧ Below w.heap.size w w' := by
  have := heldStringS_in n S a cap 1 w (by omega) hc
  rw [hm]; exact this

set_option maxRecDepth 100000 in
set_option maxHeartbeats 4000000 in
theorem lawIndentedLines {H : Type} {enc : TypeId × Value → H} {W : World} {base : Nat} {v : Value} {d : DataW H} {p : List MemPlace} (hval : Value.okWide Tryd.prog W .any base 45 v)
    (h : DataW.Trod enc Tryd.prog W 0 (fun _ => true) true 45 v d p) (_h1 : Lib.VarReads Tryd.prog W "math/bits.deBruijn32tab" Rows.laid_math_bits_deBruijn32tab) (_h2 : Lib.VarReads Tryd.prog W "math/bits.deBruijn64tab" Rows.laid_math_bits_deBruijn64tab) (hp : Lib.VarReads Tryd.prog W "internal/strconv.uint64pow10" Rows.laid_internal_strconv_uint64pow10) (ha : Lib.VarReads Tryd.prog W "unicode/utf8.acceptRanges" Rows.laid_unicode_utf8_acceptRanges) (hf : Lib.VarReads Tryd.prog W "unicode/utf8.first" Rows.laid_unicode_utf8_first) :
    Calls Tryd.prog 6 #[v] W fun e w' => e = .returned (.bool true) ∧ Below W.heap.size W w' := by
  have HTV := Lib.hid (And.intro (tabs_of ha hf) (pows_of hp)); clear ha hf hp
  obtain ⟨t, vk, vs, rfl, ht, hfit, hnum⟩ := openTreeN hval h
  clear h hval
  obtain ⟨hk, hs⟩ := treeIn_iff.1 ht
  obtain ⟨aK, mK, rfl⟩ := hk.len
  obtain ⟨aS, mS, rfl⟩ := hs.len
  clear hk hs
  by_cases hs : (1048576 : Int) < (t.wt : Nat)
  · have hy := lessZ_neg hs
    go_enter Tryd.func6, Tryd.ntmps6
    go_wp2_with fail
    refine (szTree_any t _ _ _ _ _ hfit (ht.keep (alloc_below _ _ _)) (by omega) (by omega)).mono ?_; rintro e w1 ⟨rfl, hb1⟩
    go_wp2
    go_ret
    exact ⟨rfl, bnext (alloc_below _ _ _) hb1⟩
  have hy := lessZ_pos hs
  have hz : (0 : Int) ≤ 1048576 - (t.wt : Nat) := by omega
  have HW := Lib.hid (show t.wt ≤ 1048576 by omega)
  have hnn : t.nodes ≤ 2000000 := by have := nodes_wt t; omega
  have hll : (idtL t).length ≤ 600 := (idt_sum hnum).2
  have hS := fun vk vs w (h : TreeIn w Any t vk vs) => (sIndentedLines t Any vk vs w hnn hnum h).mono fun _ _ => IdtV.toG
  have hI := fun vk vs w (h : TreeIn w Any t vk vs) (hb : Below W.heap.size W w) => (iIndentedLines t Any vk vs w hnn hnum h (tabs_keep HTV.out.1 hb) (pows_keep HTV.out.2 hb)).mono fun _ _ => IdtV.toG
  clear hnn hnum HTV
  generalize idtL t = l at hS hI hll
  have HS := Lib.hid hS; have HI := Lib.hid hI; clear hS hI
  have HLL := Lib.hid hll; clear hll
  have hll : l.length ≤ 1000000 := by have := HLL.out; omega
  obtain ⟨kk, hkk⟩ : ∃ m : Int, m = 1 + (t.cnt : Int) := ⟨_, rfl⟩
  have hk1 := mark_pos hkk
  have HKK := Lib.hid hkk; clear hkk
  obtain ⟨mm, hmm⟩ : ∃ m : Int, m = 1 + (l.length : Int) := ⟨_, rfl⟩
  have hm1 := mark_pos hmm
  have HMM := Lib.hid hmm; clear hmm
  have HT := Lib.hid ht; clear ht
  have hb0 := alloc_below W #[.int .i64 t.kind, .bool t.flag, .int .i64 t.num, .string t.text, .slice aK t.keys.length mK, .slice aS t.kids.length mS] 45
  have Hp := Lib.hid (Spill.new W t (.slice aK t.keys.length mK) (.slice aS t.kids.length mS) 45)
  have hz0 := hb0.size
  try simp only [World.size_alloc] at hz0
  have HB := Lib.hid hb0; clear hb0
  go_enter Tryd.func6, Tryd.ntmps6
  go_wp2_with fail
  refine (szTree_any t _ _ _ _ _ hfit (HT.out.keep HB.out) (by omega) (by omega)).mono ?_
  rintro e w1 ⟨rfl, hb1⟩
  have HB := Lib.hid (bnext HB.out (hb1))
  have Hp := Lib.hid (Hp.out.keep (hb1))
  have hz1 := hb1.size; (try simp only [World.size_alloc] at hz1); clear hb1
  obtain ⟨c1_0, c1_1, c1_2, c1_3, c1_4, c1_5⟩ := (Hp.out).cells
  go_wp2_with fail
  clear c1_0 c1_1 c1_2 c1_3 c1_4 c1_5
  refine (toTree_any t Any _ _ _ HW.out (HT.out.keep HB.out)).mono ?_
  rintro e w2 ⟨⟨vk2, vs2, f2, rfl, ho2, hn2, hg2⟩, hb2⟩
  obtain ⟨a2, n2, b2, m2, rfl, rfl⟩ := ho2.shape
  have HB := Lib.hid (bnext HB.out (hb2))
  have Hp := Lib.hid (Hp.out.keep (hb2))
  have hz2 := hb2.size; (try simp only [World.size_alloc] at hz2); clear hb2
  go_wp2_with fail
  refine (HS.out _ _ _ (TreeOwn.toIn _ _ _ _ ho2 (fun _ _ => trivial))).mono ?_
  rintro e w3 ⟨a3, n3, f3, rfl, hs3, hb3⟩
  have HB := Lib.hid (bnext HB.out (hb3))
  have Hp := Lib.hid (Hp.out.keep (hb3))
  have hz3 := hb3.size; (try simp only [World.size_alloc] at hz3); clear hb3
  have Hw := Lib.hid hs3; clear hs3
  clear ho2 hn2 hg2
  obtain ⟨c2_0, c2_1, c2_2, c2_3, c2_4, c2_5⟩ := (Hp.out).cells
  go_wp2_with fail
  clear c2_0 c2_1 c2_2 c2_3 c2_4 c2_5
  refine (toTree_any t Any _ _ _ HW.out (HT.out.keep HB.out)).mono ?_
  rintro e w4 ⟨⟨vk4, vs4, f4, rfl, ho4, hn4, hg4⟩, hb4⟩
  obtain ⟨a4, n4, b4, m4, rfl, rfl⟩ := ho4.shape
  have HB := Lib.hid (bnext HB.out (hb4))
  have Hp := Lib.hid (Hp.out.keep (hb4))
  have Hw := Lib.hid (Hw.out.keep (hb4))
  have hz4 := hb4.size; (try simp only [World.size_alloc] at hz4); clear hb4
  have hal := alloc_below w4 #[.int .i64 (t).kind, .bool (t).flag, .int .i64 (t).num, .string (t).text, .slice a4 (t).keys.length n4, .slice b4 (t).kids.length m4] 50
  have HB := Lib.hid (bnext HB.out (hal))
  have Hp := Lib.hid (Hp.out.keep (hal))
  have Hw := Lib.hid (Hw.out.keep (hal))
  clear hal
  try simp only [World.size_alloc] at hg4
  have Hx := Lib.hid (GTree.new ho4 hn4 hg4 (by first | omega | (simp only [World.size_alloc]; omega)) 50); clear ho4 hn4 hg4
  obtain ⟨c3_0, c3_1, c3_2, c3_3, c3_4, c3_5⟩ := (Hx.out.sp).cells
  go_wp2_with fail
  clear c3_0 c3_1 c3_2 c3_3 c3_4 c3_5
  refine (HI.out _ _ _ Hx.out.tin HB.out).mono ?_
  rintro e w5 ⟨a5, n5, f5, rfl, hs5, hb5⟩
  have HB := Lib.hid (bnext HB.out (hb5))
  have Hp := Lib.hid (Hp.out.keep (hb5))
  have Hw := Lib.hid (Hw.out.keep (hb5))
  have Hx := Lib.hid (Hx.out.keep (hb5))
  have hz5 := hb5.size; (try simp only [World.size_alloc] at hz5); clear hb5
  have Hg := Lib.hid hs5; clear hs5
  go_wp2_with fail
  refine (eqStringS_same l Any Any a5 a3 n5 n3 _ (by omega) Hg.out.tin Hw.out.tin).mono ?_
  rintro e w6 ⟨rfl, hb6⟩
  have HB := Lib.hid (bnext HB.out (hb6))
  have Hp := Lib.hid (Hp.out.keep (hb6))
  have Hw := Lib.hid (Hw.out.keep (hb6))
  have Hx := Lib.hid (Hx.out.keep (hb6))
  have Hg := Lib.hid (Hg.out.keep (hb6))
  have hz6 := hb6.size; clear hb6
  (try simp only [World.size_alloc] at Hg Hw Hx)
  go_upto_region 10 with fail
  go_cut [31] (fun s31 wx => s31 = .bool false ∧ w6.heap.size ≤ wx.heap.size ∧ Below W.heap.size W wx ∧ Spill wx W.heap.size t (.slice aK t.keys.length mK) (.slice aS t.kids.length mS) ∧ GStr wx w2.heap.size w3.heap.size l (.slice a3 l.length n3) f3 ∧ GTree wx w3.heap.size (w4.heap.size + 1) w4.heap.size t t (.slice a4 t.keys.length n4) (.slice b4 t.kids.length m4) f4 ∧ GStr wx (w4.heap.size + 1) w5.heap.size l (.slice a5 l.length n5) f5)
  case first =>
    have HB := Lib.hid (bnext HB.out ((Below.refl _ _).drew))
    have Hp := Lib.hid (Hp.out.keep ((Below.refl _ _).drew))
    have Hw := Lib.hid (Hw.out.keep ((Below.refl _ _).drew))
    have Hx := Lib.hid (Hx.out.keep ((Below.refl _ _).drew))
    have Hg := Lib.hid (Hg.out.keep ((Below.refl _ _).drew))
    obtain ⟨p0, p1, p2, p3, p4, p5⟩ := Hp.out.cells
    obtain ⟨q0, q1, q2, q3, q4, q5⟩ := Hx.out.sp.cells
    go_region_with (first
      | (go_at_call 29; refine (toTree_any t Any _ _ _ HW.out (HT.out.keep HB.out)).mono ?_; rintro e w7 ⟨⟨vk7, vs7, f7, rfl, ho7, hn7, hg7⟩, hb7⟩; obtain ⟨a7, n7, b7, m7, rfl, rfl⟩ := ho7.shape; have hT7 := TreeOwn.toIn (S := Any) _ _ _ _ ho7 (fun _ _ => trivial); clear ho7 hn7 hg7; have HB := Lib.hid (bnext HB.out (hb7)); have Hp := Lib.hid (Hp.out.keep (hb7)); have Hw := Lib.hid (Hw.out.keep (hb7)); have Hx := Lib.hid (Hx.out.keep (hb7)); have Hg := Lib.hid (Hg.out.keep (hb7)); have hz7 := hb7.size; clear hb7; obtain ⟨q0, q1, q2, q3, q4, q5⟩ := Hx.out.sp.cells)
      | (go_at_call 32; refine (eqTree_any t Any Any _ _ _ _ _ HW.out Hx.out.tin hT7).mono ?_; rintro e w8 ⟨rfl, hb8⟩; have HB := Lib.hid (bnext HB.out (hb8)); have Hp := Lib.hid (Hp.out.keep (hb8)); have Hw := Lib.hid (Hw.out.keep (hb8)); have Hx := Lib.hid (Hx.out.keep (hb8)); have Hg := Lib.hid (Hg.out.keep (hb8)); have hz8 := hb8.size; clear hb8))
    all_goals (go_wp2_with fail; go_meet; exact ⟨rfl, Nat.le_trans hz7 hz8, HB.out, Hp.out, Hw.out, Hx.out, Hg.out⟩)
  case rest =>
    clear HB Hp Hw Hx Hg
    rename_i wx _
    obtain ⟨rfl, hz8, hB, hp, hw, hx, hg⟩ := hcut
    have HB := Lib.hid hB; have Hp := Lib.hid hp; have Hw := Lib.hid hw; have Hx := Lib.hid hx; have Hg := Lib.hid hg
    clear hB hp hw hx hg
    obtain ⟨c4_0, c4_1, c4_2, c4_3, c4_4, c4_5⟩ := (Hx.out.sp).cells
    go_wp2_with fail
    clear c4_0 c4_1 c4_2 c4_3 c4_4 c4_5
    refine (mark1 t _ _ f4 _ kk HKK.out HW.out Hx.out.nd Hx.out.own).mono ?_
    rintro e w9 ⟨rfl, ho9, ha9⟩
    have HB' := Lib.hid (below_apart HB.out ha9 (fun x hx => (Hx.out.fb x hx).1) (by omega))
    have Hp' := Lib.hid (Hp.out.far ha9 (fun hx => by have := Hx.out.fb _ hx; omega))
    have Hw' := Lib.hid (Hw.out.far ha9 (fun x hx => by have := Hx.out.fb x hx; omega))
    have Hg' := Lib.hid (Hg.out.far ha9 (fun x hx => by have := Hx.out.fb x hx; omega))
    clear Hx
    have HB := Lib.hid HB'.out
    clear HB'
    have Hp := Lib.hid Hp'.out
    clear Hp'
    have Hw := Lib.hid Hw'.out
    clear Hw'
    have Hg := Lib.hid Hg'.out
    clear Hg'
    have hz9 := ha9.size; clear ha9 ho9
    go_wp2_with fail
    refine (eqStringS_same l Any Any a5 a3 n5 n3 _ (by omega) Hg.out.tin Hw.out.tin).mono ?_
    rintro e w10 ⟨rfl, hb10⟩
    have HB := Lib.hid (bnext HB.out (hb10))
    have Hp := Lib.hid (Hp.out.keep (hb10))
    have Hw := Lib.hid (Hw.out.keep (hb10))
    have Hg := Lib.hid (Hg.out.keep (hb10))
    have hz10 := hb10.size; clear hb10
    go_wp2_with fail
    refine (markStr1 l a5 n5 f5 _ mm hll HMM.out Hg.out.own).mono ?_
    rintro e w11 ⟨rfl, ho11, ha11⟩
    have HB' := Lib.hid (below_apart HB.out ha11 (fun x hx => (Hg.out.fb x hx).1) (by omega))
    have Hp' := Lib.hid (Hp.out.far ha11 (fun hx => by have := Hg.out.fb _ hx; omega))
    have Hw' := Lib.hid (Hw.out.far ha11 (fun x hx => by have := Hg.out.fb x hx; omega))
    have Hg' : Hid (GStr _ _ _ (markStrs 1 l.length) _ f5) := Lib.hid (GStr.mk ho11 Hg.out.fb)
    have HB := Lib.hid HB'.out
    clear HB'
    have Hp := Lib.hid Hp'.out
    clear Hp'
    have Hw := Lib.hid Hw'.out
    clear Hw'
    have Hg := Lib.hid Hg'.out
    clear Hg'
    have hz11 := ha11.size; clear ha11 ho11
    go_wp2_with fail
    refine (heldStr1 l.length Any a5 n5 _ mm hll HMM.out Hg.out.tin).mono ?_
    rintro e w12 ⟨rfl, hb12⟩
    have HB := Lib.hid (bnext HB.out (hb12))
    have Hp := Lib.hid (Hp.out.keep (hb12))
    have Hw := Lib.hid (Hw.out.keep (hb12))
    have Hg := Lib.hid (Hg.out.keep (hb12))
    have hz12 := hb12.size; clear hb12
    obtain ⟨c5_0, c5_1, c5_2, c5_3, c5_4, c5_5⟩ := (Hp.out).cells
    go_wp2_with fail
    clear c5_0 c5_1 c5_2 c5_3 c5_4 c5_5
    refine (toTree_any t Any _ _ _ HW.out (HT.out.keep HB.out)).mono ?_
    rintro e w13 ⟨⟨vk13, vs13, f13, rfl, ho13, hn13, hg13⟩, hb13⟩
    obtain ⟨a13, n13, b13, m13, rfl, rfl⟩ := ho13.shape
    have HB := Lib.hid (bnext HB.out (hb13))
    have Hp := Lib.hid (Hp.out.keep (hb13))
    have Hw := Lib.hid (Hw.out.keep (hb13))
    have Hg := Lib.hid (Hg.out.keep (hb13))
    have hz13 := hb13.size; (try simp only [World.size_alloc] at hz13); clear hb13
    go_wp2_with fail
    refine (HI.out _ _ _ (TreeOwn.toIn _ _ _ _ ho13 (fun _ _ => trivial)) HB.out).mono ?_
    rintro e w14 ⟨a14, n14, f14, rfl, hs14, hb14⟩
    have HB := Lib.hid (bnext HB.out (hb14))
    have Hp := Lib.hid (Hp.out.keep (hb14))
    have Hw := Lib.hid (Hw.out.keep (hb14))
    have Hg := Lib.hid (Hg.out.keep (hb14))
    have hz14 := hb14.size; (try simp only [World.size_alloc] at hz14); clear hb14
    have Hh := Lib.hid hs14; clear hs14
    clear ho13 hn13 hg13
    go_wp2_with fail
    refine (eqStringS_same l Any Any a14 a3 n14 n3 _ (by omega) Hh.out.tin Hw.out.tin).mono ?_
    rintro e w15 ⟨rfl, hb15⟩
    have HB := Lib.hid (bnext HB.out (hb15))
    have Hp := Lib.hid (Hp.out.keep (hb15))
    have Hw := Lib.hid (Hw.out.keep (hb15))
    have Hg := Lib.hid (Hg.out.keep (hb15))
    have Hh := Lib.hid (Hh.out.keep (hb15))
    have hz15 := hb15.size; clear hb15
    go_wp2_with fail
    refine (heldStr1 l.length Any a5 n5 _ mm hll HMM.out Hg.out.tin).mono ?_
    rintro e w16 ⟨rfl, hb16⟩
    have HB := Lib.hid (bnext HB.out (hb16))
    have Hp := Lib.hid (Hp.out.keep (hb16))
    have Hw := Lib.hid (Hw.out.keep (hb16))
    have Hg := Lib.hid (Hg.out.keep (hb16))
    have Hh := Lib.hid (Hh.out.keep (hb16))
    have hz16 := hb16.size; clear hb16
    go_wp2
    go_ret
    exact ⟨rfl, HB.out⟩

end Go.Proofs.YtpcojfcbomkgpaaDoor
