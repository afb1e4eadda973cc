/- BracedText: contracts of both texts; the law (printed by wip/gen/treelaw1.py). -/
import Derived.Test.YtclffhejoneiaaaDoorRTreeOk
import Derived.Test.YtclffhejoneiaaaDoorRSayI
namespace Go.Proofs.YtclffhejoneiaaaDoorR
open Go.RowKit

def bracedB (t : Tr) : ByteArray := if treeOkB t = true then (if (sayB t).length ≤ 20000 then ⟨(sayB t).toArray⟩ else ⟨#[]⟩) else ⟨#[]⟩

set_option maxRecDepth 100000 in
set_option maxHeartbeats 4000000 in
theorem sBracedText (t : Tr) (S : Nat → Prop) (vk vs : Value) (w : World) (hn : t.nodes ≤ 2000000) (hnu : t.nums) (ht : TreeIn w S t vk vs) :
    Calls Tryd.prog 38 #[.agg #[.int .i64 t.kind, .bool t.flag, .int .i64 t.num, .string t.text, vk, vs]] w fun e w' => e = .returned (.string (bracedB t)) ∧ Below w.heap.size w w' := by
  obtain ⟨hk0, hs0⟩ := treeIn_iff.1 ht
  obtain ⟨a1, m1, rfl⟩ := hk0.len
  obtain ⟨a2, m2, rfl⟩ := hs0.len
  have HB0 := Lib.hid (alloc_below w #[.int .i64 t.kind, .bool t.flag, .int .i64 t.num, .string t.text, .slice a1 t.keys.length m1, .slice a2 t.kids.length m2] 46)
  have HS0 := Lib.hid (Spill.new w t (.slice a1 t.keys.length m1) (.slice a2 t.kids.length m2) 46)
  obtain ⟨p0, p1, p2, p3, p4, p5⟩ := HS0.out.cells
  have HIN := Lib.hid (ht.keep HB0.out)
  have hok := sTreeOk t S _ _ _ hn HIN.out
  have HBR : Hid (bracedB t = if treeOkB t = true then (if (sayB t).length ≤ 20000 then ⟨(sayB t).toArray⟩ else ⟨#[]⟩) else ⟨#[]⟩) := rfl
  cases hokb : treeOkB t
  · have H := Lib.hid (show bracedB t = ⟨#[]⟩ by rw [HBR.out, hokb]; rfl)
    rw [hokb] at hok
    have HOK := Lib.hid hok
    clear hok hnu hn ht hk0 hs0 hokb
    go_enter Tryd.func38, Tryd.ntmps38
    go_wp2_with (go_at_call 33; refine (HOK.out).mono ?_; rintro e w1 ⟨rfl, hb1⟩; have HS1 := Lib.hid (HS0.out.keep hb1); have HB1 := Lib.hid (bnext HB0.out hb1); have HI1 := Lib.hid (HIN.out.keep hb1); obtain ⟨q0, q1, q2, q3, q4, q5⟩ := HS1.out.cells)
    go_ret
    exact ⟨ret_str H.out.symm, HB1.out⟩
  have hsh : shapeB t = true := by
    simp only [treeOkB, Bool.and_eq_true] at hokb; exact hokb.2.2
  have hn3 : t.nodes ≤ 300 := by
    simp only [treeOkB, Bool.and_eq_true, decide_eq_true_eq] at hokb; exact hokb.2.1
  have hln := sayB_len t hsh hnu
  have hl1 : (sayB t).length ≤ 100000000 := by omega
  obtain ⟨D, hD⟩ : ∃ D : ByteArray, D = ⟨(sayB t).toArray⟩ := ⟨_, rfl⟩
  have hDs : D.size = (sayB t).length := by rw [hD]; show (List.toArray _).size = _; rw [List.size_toArray]
  have HDE := Lib.hid hD.symm
  have H := Lib.hid (show bracedB t = if D.size ≤ 20000 then D else ⟨#[]⟩ by rw [HBR.out, hokb, hDs, hD]; rfl)
  have HSY := Lib.hid (fun w0 (hi : TreeIn w0 S t (.slice a1 t.keys.length m1) (.slice a2 t.kids.length m2)) w9 v9 (hb : Buf w0 w9 v9 []) => sSay _ t S _ _ w0 w9 v9 [] (Nat.le_refl _) hn hsh hnu hi hb (by simpa using hl1))
  rw [hokb] at hok
  have HOK := Lib.hid hok
  clear hok hsh hnu hn ht hk0 hs0 hokb hn3 hln hl1 hD hDs HBR
  by_cases hd : D.size ≤ 20000
  · have H2 := Lib.hid (show bracedB t = D by rw [H.out, if_pos hd])
    have d1 : decide ((20000 : Int) < (D.size : Int)) = false := decide_eq_false (by omega)
    have d2 : decide (20000 < D.size) = false := decide_eq_false (by omega)
    clear hd
    go_enter Tryd.func38, Tryd.ntmps38
    go_wp2_with (first | (go_at_call 33; refine (HOK.out).mono ?_; rintro e w1 ⟨rfl, hb1⟩; have HS1 := Lib.hid (HS0.out.keep hb1); have HB1 := Lib.hid (bnext HB0.out hb1); have HI1 := Lib.hid (HIN.out.keep hb1); obtain ⟨q0, q1, q2, q3, q4, q5⟩ := HS1.out.cells) | (go_at_call 86; refine (HSY.out w1 HI1.out _ _ (Buf.lit w1 [] _ 0 rfl rfl (by omega))).mono ?_; rintro e w2 ⟨v2, rfl, hb2⟩; have hcv := hb2.buf.text; have hbel := hb2.buf.bel; rw [List.nil_append, HDE.out] at hcv))
    go_ret
    exact ⟨ret_str H2.out.symm, bnext HB1.out hbel⟩
  · have H2 := Lib.hid (show bracedB t = ⟨#[]⟩ by rw [H.out, if_neg hd])
    have d1 : decide ((20000 : Int) < (D.size : Int)) = true := decide_eq_true (by omega)
    have d2 : decide (20000 < D.size) = true := decide_eq_true (by omega)
    clear hd
    go_enter Tryd.func38, Tryd.ntmps38
    go_wp2_with (first | (go_at_call 33; refine (HOK.out).mono ?_; rintro e w1 ⟨rfl, hb1⟩; have HS1 := Lib.hid (HS0.out.keep hb1); have HB1 := Lib.hid (bnext HB0.out hb1); have HI1 := Lib.hid (HIN.out.keep hb1); obtain ⟨q0, q1, q2, q3, q4, q5⟩ := HS1.out.cells) | (go_at_call 86; refine (HSY.out w1 HI1.out _ _ (Buf.lit w1 [] _ 0 rfl rfl (by omega))).mono ?_; rintro e w2 ⟨v2, rfl, hb2⟩; have hcv := hb2.buf.text; have hbel := hb2.buf.bel; rw [List.nil_append, HDE.out] at hcv))
    go_ret
    exact ⟨ret_str H2.out.symm, bnext HB1.out hbel⟩

set_option maxRecDepth 100000 in
set_option maxHeartbeats 4000000 in
theorem iBracedText (t : Tr) (S : Nat → Prop) (vk vs : Value) (w : World) (hn : t.nodes ≤ 2000000) (hnu : t.nums) (ht : TreeIn w S t vk vs) (hT : Tabs w) (hP : Pows w) :
    Calls Tryd.prog 39 #[.agg #[.int .i64 t.kind, .bool t.flag, .int .i64 t.num, .string t.text, vk, vs]] w fun e w' => e = .returned (.string (bracedB t)) ∧ Below w.heap.size w w' := by
  have HT := Lib.hid (And.intro hT hP); clear hT hP
  obtain ⟨hk0, hs0⟩ := treeIn_iff.1 ht
  obtain ⟨a1, m1, rfl⟩ := hk0.len
  obtain ⟨a2, m2, rfl⟩ := hs0.len
  have HB0 := Lib.hid (alloc_below w #[.int .i64 t.kind, .bool t.flag, .int .i64 t.num, .string t.text, .slice a1 t.keys.length m1, .slice a2 t.kids.length m2] 46)
  have HS0 := Lib.hid (Spill.new w t (.slice a1 t.keys.length m1) (.slice a2 t.kids.length m2) 46)
  obtain ⟨p0, p1, p2, p3, p4, p5⟩ := HS0.out.cells
  have HIN := Lib.hid (ht.keep HB0.out)
  have hok := iTreeOk t S _ _ _ hn HIN.out (tabs_keep HT.out.1 HB0.out)
  have HBR : Hid (bracedB t = if treeOkB t = true then (if (sayB t).length ≤ 20000 then ⟨(sayB t).toArray⟩ else ⟨#[]⟩) else ⟨#[]⟩) := rfl
  cases hokb : treeOkB t
  · have H := Lib.hid (show bracedB t = ⟨#[]⟩ by rw [HBR.out, hokb]; rfl)
    rw [hokb] at hok
    have HOK := Lib.hid hok
    clear hok hnu hn ht hk0 hs0 hokb
    go_enter Tryd.func39, Tryd.ntmps39
    go_wp2_with (go_at_call 34; refine (HOK.out).mono ?_; rintro e w1 ⟨rfl, hb1⟩; have HS1 := Lib.hid (HS0.out.keep hb1); have HB1 := Lib.hid (bnext HB0.out hb1); have HI1 := Lib.hid (HIN.out.keep hb1); obtain ⟨q0, q1, q2, q3, q4, q5⟩ := HS1.out.cells)
    go_ret
    exact ⟨ret_str H.out.symm, HB1.out⟩
  have hsh : shapeB t = true := by
    simp only [treeOkB, Bool.and_eq_true] at hokb; exact hokb.2.2
  have hn3 : t.nodes ≤ 300 := by
    simp only [treeOkB, Bool.and_eq_true, decide_eq_true_eq] at hokb; exact hokb.2.1
  have hln := sayB_len t hsh hnu
  have hl1 : (sayB t).length ≤ 100000000 := by omega
  obtain ⟨D, hD⟩ : ∃ D : ByteArray, D = ⟨(sayB t).toArray⟩ := ⟨_, rfl⟩
  have hDs : D.size = (sayB t).length := by rw [hD]; show (List.toArray _).size = _; rw [List.size_toArray]
  have HDE := Lib.hid hD.symm
  have H := Lib.hid (show bracedB t = if D.size ≤ 20000 then D else ⟨#[]⟩ by rw [HBR.out, hokb, hDs, hD]; rfl)
  have HSY := Lib.hid (fun w0 (hw : Below w.heap.size w w0) (hi : TreeIn w0 S t (.slice a1 t.keys.length m1) (.slice a2 t.kids.length m2)) w9 v9 (hb : Buf w0 w9 v9 []) => iSay _ t S _ _ w0 w9 v9 [] (Nat.le_refl _) hn hsh hnu hi hb (by simpa using hl1) (tabs_keep HT.out.1 hw) (pows_keep HT.out.2 hw))
  rw [hokb] at hok
  have HOK := Lib.hid hok
  clear hok hsh hnu hn ht hk0 hs0 hokb hn3 hln hl1 hD hDs HBR
  by_cases hd : D.size ≤ 20000
  · have H2 := Lib.hid (show bracedB t = D by rw [H.out, if_pos hd])
    have d1 : decide ((20000 : Int) < (D.size : Int)) = false := decide_eq_false (by omega)
    have d2 : decide (20000 < D.size) = false := decide_eq_false (by omega)
    clear hd
    go_enter Tryd.func39, Tryd.ntmps39
    go_wp2_with (first | (go_at_call 34; refine (HOK.out).mono ?_; rintro e w1 ⟨rfl, hb1⟩; have HS1 := Lib.hid (HS0.out.keep hb1); have HB1 := Lib.hid (bnext HB0.out hb1); have HI1 := Lib.hid (HIN.out.keep hb1); obtain ⟨q0, q1, q2, q3, q4, q5⟩ := HS1.out.cells) | (go_at_call 68; refine (HSY.out w1 HB1.out HI1.out _ _ (Buf.nil w1)).mono ?_; rintro e w2 ⟨v2, rfl, hb2⟩; have hcv := hb2.buf.text; have hbel := hb2.buf.bel; rw [List.nil_append, HDE.out] at hcv))
    go_ret
    exact ⟨ret_str H2.out.symm, bnext HB1.out hbel⟩
  · have H2 := Lib.hid (show bracedB t = ⟨#[]⟩ by rw [H.out, if_neg hd])
    have d1 : decide ((20000 : Int) < (D.size : Int)) = true := decide_eq_true (by omega)
    have d2 : decide (20000 < D.size) = true := decide_eq_true (by omega)
    clear hd
    go_enter Tryd.func39, Tryd.ntmps39
    go_wp2_with (first | (go_at_call 34; refine (HOK.out).mono ?_; rintro e w1 ⟨rfl, hb1⟩; have HS1 := Lib.hid (HS0.out.keep hb1); have HB1 := Lib.hid (bnext HB0.out hb1); have HI1 := Lib.hid (HIN.out.keep hb1); obtain ⟨q0, q1, q2, q3, q4, q5⟩ := HS1.out.cells) | (go_at_call 68; refine (HSY.out w1 HB1.out HI1.out _ _ (Buf.nil w1)).mono ?_; rintro e w2 ⟨v2, rfl, hb2⟩; have hcv := hb2.buf.text; have hbel := hb2.buf.bel; rw [List.nil_append, HDE.out] at hcv))
    go_ret
    exact ⟨ret_str H2.out.symm, bnext HB1.out hbel⟩

set_option maxRecDepth 100000 in
set_option maxHeartbeats 4000000 in
theorem lawBracedText {H : Type} {enc : TypeId × Value → H} {W : World} {base : Nat} {v : Value} {d : DataW H} {p : List MemPlace} (hval : Value.okWide Tryd.prog W .any base 40 v)
    (h : DataW.Trod enc Tryd.prog W 0 (fun _ => true) true 40 v d p) (_h1 : Lib.VarReads Tryd.prog W "math/bits.deBruijn32tab" Rows.laid_math_bits_deBruijn32tab) (_h2 : Lib.VarReads Tryd.prog W "math/bits.deBruijn64tab" Rows.laid_math_bits_deBruijn64tab) (hp : Lib.VarReads Tryd.prog W "internal/strconv.uint64pow10" Rows.laid_internal_strconv_uint64pow10) (ha : Lib.VarReads Tryd.prog W "unicode/utf8.acceptRanges" Rows.laid_unicode_utf8_acceptRanges) (hf : Lib.VarReads Tryd.prog W "unicode/utf8.first" Rows.laid_unicode_utf8_first) :
    Calls Tryd.prog 10 #[v] W fun e w' => e = .returned (.bool true) ∧ Below W.heap.size W w' := by
  have HTV := Lib.hid (And.intro (tabs_of ha hf) (pows_of hp)); clear ha hf hp
  obtain ⟨t, vk, vs, rfl, ht, hfit, hnum⟩ := openTreeN hval h
  clear h hval
  obtain ⟨hk, hs⟩ := treeIn_iff.1 ht
  obtain ⟨a1, m1, rfl⟩ := hk.len
  obtain ⟨a2, m2, rfl⟩ := hs.len
  clear hk hs
  by_cases hs : (1048576 : Int) < (t.wt : Nat)
  · have hy := lessZ_neg hs
    go_enter Tryd.func10, Tryd.ntmps10
    go_wp2_with fail
    refine (szTree_any t _ _ _ _ _ hfit (ht.keep (alloc_below _ _ _)) (by omega) (by omega)).mono ?_; rintro e w1 ⟨rfl, hb1⟩
    go_wp2
    go_ret
    exact ⟨rfl, bnext (alloc_below _ _ _) hb1⟩
  have hy := lessZ_pos hs
  have hz : (0 : Int) ≤ 1048576 - (t.wt : Nat) := by omega
  have HW := Lib.hid (show t.wt ≤ 1048576 by omega)
  have HN := Lib.hid (show t.nodes ≤ 2000000 by have := nodes_wt t; omega)
  have HNU := Lib.hid hnum; clear hnum
  go_enter Tryd.func10, Tryd.ntmps10
  go_wp2_with fail
  refine (szTree_any t _ _ _ _ _ hfit (ht.keep (alloc_below _ _ _)) (by omega) (by omega)).mono ?_; rintro e w1 ⟨rfl, hb1⟩
  have hs1 := (Spill.new W t (.slice a1 t.keys.length m1) (.slice a2 t.kids.length m2) _).keep hb1
  have hbw1 := bnext (alloc_below _ _ _) hb1
  have HB1 := Lib.hid hb1; clear hb1
  obtain ⟨p0, p1, p2, p3, p4, p5⟩ := hs1.cells
  go_wp2_with fail
  clear p0 p1 p2 p3 p4 p5
  refine (toTree_any t _ _ _ _ HW.out (ht.keep hbw1)).mono ?_; rintro e w2 ⟨⟨k2, s2, f2, rfl, ho2, -, -⟩, hb2⟩
  have hT2 := TreeOwn.toIn (S := Any) _ _ _ _ ho2 (fun _ _ => trivial)
  obtain ⟨c1, n1, rfl⟩ := (treeIn_iff.1 hT2).1.len
  obtain ⟨c2, n2, rfl⟩ := (treeIn_iff.1 hT2).2.len
  have hs2 := hs1.keep hb2
  have hbw2 := bnext hbw1 hb2
  clear ho2
  go_wp2_with fail
  refine (sBracedText t _ _ _ _ HN.out HNU.out hT2).mono ?_; rintro e w3 ⟨rfl, hb3⟩
  have hs3 := hs2.keep hb3
  have hbw3 := bnext hbw2 hb3
  obtain ⟨p0, p1, p2, p3, p4, p5⟩ := hs3.cells
  go_wp2_with fail
  clear p0 p1 p2 p3 p4 p5
  refine (toTree_any t _ _ _ _ HW.out (ht.keep hbw3)).mono ?_; rintro e w4 ⟨⟨k4, s4, f4, rfl, ho4, -, -⟩, hb4⟩
  have hT4 := TreeOwn.toIn (S := Any) _ _ _ _ ho4 (fun _ _ => trivial)
  obtain ⟨c3, n3, rfl⟩ := (treeIn_iff.1 hT4).1.len
  obtain ⟨c4, n4, rfl⟩ := (treeIn_iff.1 hT4).2.len
  have hs4 := hs3.keep hb4
  have hbw4 := bnext hbw3 hb4
  have hbx4 := bnext hbw4 (alloc_below w4 #[.int .i64 t.kind, .bool t.flag, .int .i64 t.num, .string t.text, .slice c3 t.keys.length n3, .slice c4 t.kids.length n4] 46)
  clear ho4
  go_wp2_with fail
  refine (iBracedText t _ _ _ _ HN.out HNU.out (hT4.keep (alloc_below _ _ _)) (tabs_keep HTV.out.1 hbx4) (pows_keep HTV.out.2 hbx4)).mono ?_; rintro e w5 ⟨rfl, hb5⟩
  have hx5 := (Spill.new w4 t (.slice c3 t.keys.length n3) (.slice c4 t.kids.length n4) _).keep hb5
  have hs5 := (hs4.keep (alloc_below w4 _ _)).keep hb5
  have hbx5 := bnext (alloc_below w4 _ _) hb5
  have hbw5 := bnext hbw4 hbx5
  have HB5 := Lib.hid hb5; clear hb5
  obtain ⟨p0, p1, p2, p3, p4, p5⟩ := hs5.cells
  obtain ⟨q0, q1, q2, q3, q4, q5⟩ := hx5.cells
  have e1 := beq_self_eq_true (bracedB t).toList
  go_wp2_with fail
  have hd5 : Below w5.heap.size w5 w5.drew := (Below.refl _ _).drew
  have hx5d := Lib.hid (hx5.keep hd5)
  go_region_with (first
    | (go_at_call 22; refine (toTree_any t _ _ _ _ HW.out (ht.keep hbw5.drew)).mono ?_; rintro e w6 ⟨⟨k6, s6, f6, rfl, ho6, -, -⟩, hb6⟩; have hT6 := TreeOwn.toIn (S := Any) _ _ _ _ ho6 (fun _ _ => trivial); obtain ⟨c5, n5, rfl⟩ := (treeIn_iff.1 hT6).1.len; obtain ⟨c6, n6, rfl⟩ := (treeIn_iff.1 hT6).2.len; clear ho6; obtain ⟨r0, r1, r2, r3, r4, r5⟩ := (hx5d.out.keep hb6).cells)
    | (go_at_call 24; refine (eqTree_any t _ _ _ _ _ _ _ HW.out ((hT4.keep hbx5.drew).keep hb6) hT6).mono ?_; rintro e w7 ⟨rfl, hb7⟩))
  all_goals (go_wp2; go_ret; exact ⟨rfl, bnext (bnext hbw5.drew hb6) hb7⟩)

end Go.Proofs.YtclffhejoneiaaaDoorR
