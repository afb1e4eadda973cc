/- ScaR, ScF, merged. -/
import Derived.Test.YtomhbbchflblpaaGreatDoorVG
import Derived.Test.YtomhbbchflblpaaGreatDoorVH
import Derived.Test.YtomhbbchflblpaaGreatDoorVI
import Derived.Test.YtomhbbchflblpaaGreatDoorVP
namespace Go.Proofs.YtomhbbchflblpaaGreatDoor
open Go.RowKit

theorem head_leaf {t : Tr} (h : headB t = true) : (t.kind ≠ 2 → t.flag = false) ∧ (t.kind ≠ 3 → t.num = 0) ∧ (t.kind ≠ 4 → t.text = noB) := by
  simp only [headB, betweenB, Bool.and_eq_true, decide_eq_true_eq, Bool.not_eq_true', Bool.and_eq_false_iff, beq_eq_false_iff_ne, bne_eq_false_iff_eq, decide_eq_false_iff_not, ne_eq, Bool.not_eq_false'] at h
  obtain ⟨-, h3, h4, h5, -⟩ := h
  refine ⟨fun e => ?_, fun e => ?_, fun e => ?_⟩
  · rcases h3 with h3 | h3
    · exact h3
    · exact absurd h3 e
  · rcases h4 with h4 | h4
    · exact h4
    · exact absurd h4 e
  · rcases h5 with h5 | h5
    · apply bytes_ext
      rw [List.isEmpty_iff, ByteArray.toList_eq] at h5
      rw [h5]; rfl
    · exact absurd h5 e
theorem same_leaf (k : Int) (f : Bool) (n : Int) (s : ByteArray) : sameTr (.mk k f n s [] []) (.mk k f n s [] []) = true := by simp [sameTr, sameStrs, sameKids]
theorem sameSc_self {k : Int} {f : Bool} {n : Int} {s : ByteArray} {o : Option Sc} (h : o = some ⟨k, f, n, s⟩) : sameSc o o = true := by
  subst h
  rw [sameSc, same_leaf]; rfl
def lineSc (S : ByteArray) : ByteArray := (⟨#[32, 32]⟩ : ByteArray) ++ S ++ ⟨#[32, 35, 32, 115, 97, 105, 100]⟩
/-- What the law asks of a right tree without children. -/
structure ScOk (t : Tr) (S : ByteArray) : Prop where
  back : scalO S = some ⟨t.kind, t.flag, t.num, t.text⟩
  line : scalO (inlB (lineSc S)) = some ⟨t.kind, t.flag, t.num, t.text⟩
  size : S.size ≤ 100000
  self : sameSc (scalO S) (scalO S) = true
  leaf : t.keys = [] ∧ t.kids = []
  text : t.kind = 4 → plainAll t.text = true → S = t.text
theorem scalTB_size {k : Int} {f : Bool} {n : Int} {s : ByteArray} (hn : -9223372036854775808 ≤ n ∧ n ≤ 9223372036854775807) (hs : s.size ≤ 400) : (scalTB k f n s).size ≤ 100000 := by
  unfold scalTB
  split
  · exact (by decide : (⟨#[110, 117, 108, 108]⟩ : ByteArray).size ≤ 100000)
  split
  · split
    · exact (by decide : (⟨#[116, 114, 117, 101]⟩ : ByteArray).size ≤ 100000)
    · exact (by decide : (⟨#[102, 97, 108, 115, 101]⟩ : ByteArray).size ≤ 100000)
  split
  · have := itoa_len n hn
    show Array.size _ ≤ _
    rw [List.size_toArray]; omega
  split
  · unfold keyTextB
    split
    · omega
    · have := qL_len s
      have e : (qL s).length = (quotedB s).size := by simp [qL]
      omega
  split
  · exact (by decide : (⟨#[91, 93]⟩ : ByteArray).size ≤ 100000)
  · exact (by decide : (⟨#[123, 125]⟩ : ByteArray).size ≤ 100000)
theorem sc_all {t : Tr} (h : scalR t = true) (hnu : t.nums) : ScOk t (scalTB t.kind t.flag t.num t.text) := by
  rw [scalR, Bool.and_eq_true, decide_eq_true_eq] at h
  obtain ⟨h0, h1⟩ := h
  have hsh : shapeB t = true := by
    simp only [treeOkB, Bool.and_eq_true] at h1; exact h1.2.2
  have hh := (shape_parts hsh).1
  obtain ⟨k1, k2, k3, k4, -, k6⟩ := head_kind hh
  obtain ⟨l2, l3, l4⟩ := head_leaf hh
  have hnb := nums_bd hnu
  have hv : (runesO t.text).isSome = true := by
    simp only [textOkB, Bool.and_eq_true] at k3; exact k3.2
  have hs := text_size k3
  have hb : scalO (scalTB t.kind t.flag t.num t.text) = some ⟨t.kind, t.flag, t.num, t.text⟩ := sc_back ⟨k1, k2⟩ hnb hv hs l2 l3 l4
  have hk : t.kids = [] := List.eq_nil_of_length_eq_zero h0
  refine ⟨hb, ?_, scalTB_size hnb hs, sameSc_self hb, ⟨?_, hk⟩, fun e hp => ?_⟩
  · obtain ⟨b, r, e1, e2⟩ := first_scal (k := t.kind) (f := t.flag) (n := t.num) (s := t.text) hnb.1 hv
    obtain ⟨e3, e4⟩ := ind_two e1 e2
    rw [inlB, lineSc, line_cmt (LOk.scal hnb.1 hv), e3, e4]
    exact hb
  · by_cases e : t.kind = 6
    · exact List.eq_nil_of_length_eq_zero ((k4 e).trans h0)
    · exact List.eq_nil_of_length_eq_zero (k6 e)
  · rw [scal_text e, keyTextB, if_pos hp]

end Go.Proofs.YtomhbbchflblpaaGreatDoor
namespace Go.Proofs.YtomhbbchflblpaaGreatDoor
open Go.RowKit

theorem plain_a : plainAll ⟨#[97]⟩ = true := by decide +kernel
theorem key_a : keyTextB ⟨#[97]⟩ = ⟨#[97]⟩ := by rw [keyTextB, if_pos plain_a]
theorem emp_s : (⟨#[]⟩ : ByteArray).toList.isEmpty = true := by rw [ByteArray.toList_eq]; rfl
/-- A tree without children, as ReadScalar gives it back. -/
def leafT (t : Tr) : Tr := .mk t.kind t.flag t.num t.text [] []
theorem leafT_eq {t : Tr} (h : t.keys = [] ∧ t.kids = []) : leafT t = t := by
  cases t with
  | mk k f n s ks kids =>
    obtain ⟨h1, h2⟩ := h
    simp only [Tr.keys, Tr.kids] at h1 h2
    subst h1; subst h2; rfl
theorem leafT_same {t : Tr} (h : t.keys = [] ∧ t.kids = []) : sameTr (leafT t) t = true := by
  have := same_leaf t.kind t.flag t.num t.text
  rw [show Tr.mk t.kind t.flag t.num t.text [] [] = t from leafT_eq h] at this
  rw [leafT_eq h]; exact this
/-- What stands through the law: the drawn tree in its local. -/
structure SF (W w : World) (b : Nat) (t : Tr) (vk vs : Value) : Prop where
  sp : Spill w b t vk vs
  bel : Below W.heap.size W w
  ti : TreeIn w Any t vk vs
theorem SF.keep {W w w' : World} {b : Nat} {t : Tr} {vk vs : Value} (h : SF W w b t vk vs) (hb : Below w.heap.size w w') : SF W w' b t vk vs := ⟨h.sp.keep hb, bnext h.bel hb, h.ti.keep hb⟩
structure SF3 (W w : World) (b b6 b8 : Nat) (t : Tr) (vk vs : Value) : Prop where
  one : SF W w b t vk vs
  two : Spill w b6 (leafT t) (.slice none 0 0) (.slice none 0 0)
  thr : Spill w b8 (leafT t) (.slice none 0 0) (.slice none 0 0)
theorem SF3.keep {W w w' : World} {b b6 b8 : Nat} {t : Tr} {vk vs : Value} (h : SF3 W w b b6 b8 t vk vs) (hb : Below w.heap.size w w') : SF3 W w' b b6 b8 t vk vs := ⟨h.one.keep hb, h.two.keep hb, h.thr.keep hb⟩

set_option maxRecDepth 100000 in
set_option maxHeartbeats 8000000 in
theorem lawScalars {H : Type} {enc : TypeId × Value → H} {W : World} {base : Nat} {v : Value} {d : DataW H} {p : List MemPlace} (hval : Value.okWide Tryz.prog W .any base 22 v)
    (h : DataW.Trod enc Tryz.prog W 0 (fun _ => true) true 22 v d p) (_h1 : Lib.VarReads Tryz.prog W "math/bits.deBruijn32tab" Rows.laid_math_bits_deBruijn32tab) (_h2 : Lib.VarReads Tryz.prog W "math/bits.deBruijn64tab" Rows.laid_math_bits_deBruijn64tab) (hp : Lib.VarReads Tryz.prog W "internal/strconv.uint64pow10" Rows.laid_internal_strconv_uint64pow10) (ha : Lib.VarReads Tryz.prog W "unicode/utf8.acceptRanges" Rows.laid_unicode_utf8_acceptRanges) (he0 : Lib.VarReads Tryz.prog W "strconv.ErrRange" Rows.laid_strconv_ErrRange) (_h6 : Lib.VarReads Tryz.prog W "strconv.ErrSyntax" Rows.laid_strconv_ErrSyntax) (hc : Lib.VarReads Tryz.prog W "unicode.CaseRanges" Rows.laid_unicode_CaseRanges) (hf : Lib.VarReads Tryz.prog W "unicode/utf8.first" Rows.laid_unicode_utf8_first) :
    Calls Tryz.prog 4 #[v] W fun e w' => e = .returned (.bool true) ∧ Below W.heap.size W w' := by
  obtain ⟨a, n, cap, rfl, hnm, hcode⟩ := openCode hval h
  have hTb := And.intro (tabs_of ha hf) (And.intro (cases_of hc) (And.intro (errs_of he0) (pows_of hp)))
  clear hval h ha hf hc he0 hp hnm _h1 _h2 _h6
  by_cases hn : n ≤ 1048576
  rotate_left
  · have hd : decide ((1048576 : Int) < (n : Int)) = true := decide_eq_true (by omega)
    clear hn hTb hcode
    go_enter Tryz.func4, Tryz.ntmps4
    go_wp2_with (go_at_call 5; refine (big_any _ _ _ _).mono ?_; rintro e w' ⟨rfl, rfl⟩)
    go_ret
    exact ⟨rfl, Below.refl _ _⟩
  have hd : decide ((1048576 : Int) < (n : Int)) = false := decide_eq_false (by omega)
  have HN := Lib.hid hn; have HT := Lib.hid hTb; have HC := Lib.hid hcode
  clear hn hTb hcode
  go_enter Tryz.func4, Tryz.ntmps4
  go_wp2_with (go_at_call 5; refine (big_any _ _ _ _).mono ?_; rintro e w' ⟨rfl, rfl⟩)
  clear hd
  refine (drawScalarText a n cap _ HN.out HC.out).mono ?_
  rintro e w1 ⟨t, vk, vs, fp, hdr, rfl, hto, hnd, hge, hb1⟩
  obtain ⟨fk9, fs9, hfe9, hso9, hko9⟩ := treeOwn_iff.1 hto
  obtain ⟨a1, m1, rfl⟩ := str_shape hso9
  obtain ⟨a2, m2, rfl⟩ := kids_shape hko9
  clear hfe9 hso9 hko9
  have hti := hto.toIn (S := Any) _ _ _ _ (fun _ _ => trivial)
  have hal := alloc_below w1 #[.int .i64 t.kind, .bool t.flag, .int .i64 t.num, .string t.text, .slice a1 t.keys.length m1, .slice a2 t.kids.length m2] 28
  have H1 := Lib.hid (show SF W (w1.alloc (.cells #[.int .i64 t.kind, .bool t.flag, .int .i64 t.num, .string t.text, .slice a1 t.keys.length m1, .slice a2 t.kids.length m2] 28)) w1.heap.size t (.slice a1 t.keys.length m1) (.slice a2 t.kids.length m2) from ⟨Spill.new w1 t _ _ _, bnext hb1 hal, hti.keep hal⟩)
  obtain ⟨p0, p1, p2, p3, p4, p5⟩ := H1.out.sp.cells
  have hsz : t.wt ≤ 1048576 ∧ t.nodes ≤ 2000000 := ⟨by have := hdr.1; omega, by have := hdr.2.1; omega⟩
  have HNB := Lib.hid (And.intro hsz hdr.2.2)
  have HTX := Lib.hid (show t.text.size ≤ 10000 from by have := wt_eq t; have := hdr.1; omega)
  clear hto hnd hge hdr hb1 hti hal hsz HN HC
  have HIS := Lib.hid (fun (w0 : World) (h0 : TreeIn w0 Any t (.slice a1 t.keys.length m1) (.slice a2 t.kids.length m2)) (hb : Below W.heap.size W w0) => iScalarText t Any _ _ w0 HNB.out.1.2 HNB.out.2 h0 (tabs_keep HT.out.1 hb) (pows_keep HT.out.2.2.2 hb))
  have HOK := Lib.hid (fun (w0 : World) (h0 : TreeIn w0 Any t (.slice a1 t.keys.length m1) (.slice a2 t.kids.length m2)) => sTreeOk t Any _ _ w0 HNB.out.1.2 h0)
  have HRD : Hid (scalR t = (decide (t.kids.length = 0) && treeOkB t)) := rfl
  have HSD : Hid (scalS t = if scalR t = true then scalTB t.kind t.flag t.num t.text else ⟨#[]⟩) := rfl
  cases hR : scalR t
  · -- a tree that is wrong, or has children
    have HKA := Lib.hid (fun (w0 : World) (hb : Below W.heap.size W w0) => (show Calls Tryz.prog 15 #[.string ⟨#[97]⟩] w0 fun e w' => e = .returned (.string ⟨#[97]⟩) ∧ Below w0.heap.size w0 w' from by
      have := iKeyText ⟨#[97]⟩ w0 (by decide) (tabs_keep HT.out.1 hb)
      rw [key_a] at this; exact this))
    have hS : scalS t = ⟨#[]⟩ := by rw [HSD.out, hR]; rfl
    have hI2 := HIS.out
    unfold ScalTV at hI2
    rw [hS, hR] at hI2
    have HI2 := Lib.hid hI2
    have hE1 := emp_s
    have hE2 : ((⟨#[97]⟩ : ByteArray).toList == (⟨#[97]⟩ : ByteArray).toList) = true := beq_self_eq_true _
    rw [hR] at HRD
    clear hI2 hS HSD HIS hR HTX
    go_wp2_with fail
    generalize w1.alloc (.cells #[.int .i64 t.kind, .bool t.flag, .int .i64 t.num, .string t.text, .slice a1 t.keys.length m1, .slice a2 t.kids.length m2] 28) = w2 at H1 p0 p1 p2 p3 p4 p5 ⊢
    clear p0 p1 p2 p3 p4 p5
    refine (HI2.out _ H1.out.ti H1.out.bel).mono ?_
    rintro e w3 ⟨rfl, hb3⟩
    have H3 := Lib.hid (H1.out.keep hb3); clear hb3 H1
    obtain ⟨p0, p1, p2, p3, p4, p5⟩ := H3.out.sp.cells
    go_wp2_with fail
    clear p0 p1 p2 p3 p4 p5
    have hO := HOK.out _ H3.out.ti
    cases hok : treeOkB t
    · rw [hok] at hO
      have HO := Lib.hid hO; clear hO hok
      refine HO.out.mono ?_
      rintro e w4 ⟨rfl, hb4⟩
      have H4 := Lib.hid (H3.out.keep hb4); clear hb4 H3
      go_wp2_with fail
      refine (HKA.out _ H4.out.bel).mono ?_
      rintro e w5 ⟨rfl, hb5⟩
      go_wp2
      go_ret
      exact ⟨rfl, bnext H4.out.bel hb5⟩
    · have hk : 0 < t.kids.length := by
        have := HRD.out
        rw [hok, Bool.and_true] at this
        have := of_decide_eq_false this.symm
        omega
      rw [hok] at hO
      have HO := Lib.hid hO; clear hO hok
      have z1 : decide ((0 : Int) < (t.kids.length : Int)) = true := decide_eq_true (by omega)
      have z2 : decide (0 < t.kids.length) = true := decide_eq_true hk
      refine HO.out.mono ?_
      rintro e w4 ⟨rfl, hb4⟩
      have H4 := Lib.hid (H3.out.keep hb4); clear hb4 H3 hk
      obtain ⟨p0, p1, p2, p3, p4, p5⟩ := H4.out.sp.cells
      go_wp2_with fail
      refine (HKA.out _ H4.out.bel).mono ?_
      rintro e w5 ⟨rfl, hb5⟩
      go_wp2
      go_ret
      exact ⟨rfl, bnext H4.out.bel hb5⟩
  -- a right tree without children
  have hQ := sc_all hR HNB.out.2
  have hS : scalS t = scalTB t.kind t.flag t.num t.text := by rw [HSD.out, if_pos hR]
  have hoks : treeOkB t = true ∧ t.kids.length = 0 := by
    have h := HRD.out
    rw [hR] at h
    have h := h.symm
    rw [Bool.and_eq_true, decide_eq_true_eq] at h
    exact ⟨h.2, h.1⟩
  have hI2 := HIS.out
  unfold ScalTV at hI2
  rw [hS, hR] at hI2
  have hO := HOK.out
  rw [hoks.1] at hO
  have HO := Lib.hid hO
  have z1 : decide ((0 : Int) < (t.kids.length : Int)) = false := decide_eq_false (by have := hoks.2; omega)
  have z2 : decide (0 < t.kids.length) = false := decide_eq_false (by have := hoks.2; omega)
  clear hS hR hO hoks HSD HRD HIS HOK
  generalize scalTB t.kind t.flag t.num t.text = S at hQ hI2
  have HI2 := Lib.hid hI2
  have hSz := hQ.size
  have HQ := Lib.hid hQ
  have HRS := Lib.hid (fun (w0 : World) (hb : Below W.heap.size W w0) => (show Calls Tryz.prog 16 #[.string S] w0 fun e w' => e = .returned (.tuple #[.agg #[.int .i64 t.kind, .bool t.flag, .int .i64 t.num, .string t.text, .slice none 0 0, .slice none 0 0], .bool true]) ∧ Below w0.heap.size w0 w' from by
    have h := iReadScalar S w0 (by omega) (tabs_keep HT.out.1 hb) (cases_keep HT.out.2.1 hb) (errs_keep HT.out.2.2.1 hb)
    unfold ScalP ScalV at h
    rw [HQ.out.back] at h; exact h))
  have hLs : (lineSc S).size ≤ 1048576 := by
    rw [lineSc, ByteArray.size_append, ByteArray.size_append]
    have e1 : (⟨#[32, 32]⟩ : ByteArray).size = 2 := rfl
    have e2 : (⟨#[32, 35, 32, 115, 97, 105, 100]⟩ : ByteArray).size = 7 := rfl
    omega
  have HIL := Lib.hid (fun (w0 : World) (hb : Below W.heap.size W w0) => (show Calls Tryz.prog 17 #[.string ((⟨#[32, 32]⟩ : ByteArray) ++ S ++ ⟨#[32, 35, 32, 115, 97, 105, 100]⟩)] w0 fun e w' => e = .returned (.tuple #[.agg #[.int .i64 t.kind, .bool t.flag, .int .i64 t.num, .string t.text, .slice none 0 0, .slice none 0 0], .bool true]) ∧ Below w0.heap.size w0 w' from by
    have h := iInline (lineSc S) w0 hLs (tabs_keep HT.out.1 hb) (cases_keep HT.out.2.1 hb) (errs_keep HT.out.2.2.1 hb)
    unfold ScalV at h
    rw [HQ.out.line] at h; exact h))
  have HSS := Lib.hid (fun (w0 : World) (hb : Below W.heap.size W w0) => (show Calls Tryz.prog 19 #[.string S, .string S] w0 fun e w' => e = .returned (.bool true) ∧ Below w0.heap.size w0 w' from by
    have h := iScalarSame S S w0 (by omega) (by omega) (tabs_keep HT.out.1 hb) (cases_keep HT.out.2.1 hb) (errs_keep HT.out.2.2.1 hb)
    rw [HQ.out.self] at h; exact h))
  have HST := Lib.hid (fun (w0 : World) (h0 : TreeIn w0 Any t (.slice a1 t.keys.length m1) (.slice a2 t.kids.length m2)) => (show Calls Tryz.prog 18 #[.agg #[.int .i64 t.kind, .bool t.flag, .int .i64 t.num, .string t.text, .slice none 0 0, .slice none 0 0], .agg #[.int .i64 t.kind, .bool t.flag, .int .i64 t.num, .string t.text, .slice a1 t.keys.length m1, .slice a2 t.kids.length m2]] w0 fun e w' => e = .returned (.bool true) ∧ Below w0.heap.size w0 w' from by
    have h := sameTS 1 (leafT t) t Any Any (.slice none 0 0) (.slice none 0 0) (.slice a1 t.keys.length m1) (.slice a2 t.kids.length m2) w0 (by simp [leafT, Tr.nodes, nodesL]) (by have := HTX.out; simp [leafT, Tr.wt, strWt, wtL]; omega) (leaf_in _ _ _ _ _) h0
    rw [leafT_same HQ.out.leaf] at h; exact h))
  have HPL := Lib.hid (fun (w0 : World) => sPlainAll t.text w0 (by have := HTX.out; omega))
  clear hI2 hLs hQ
  go_wp2_with fail
  generalize w1.alloc (.cells #[.int .i64 t.kind, .bool t.flag, .int .i64 t.num, .string t.text, .slice a1 t.keys.length m1, .slice a2 t.kids.length m2] 28) = w2 at H1 p0 p1 p2 p3 p4 p5 ⊢
  clear p0 p1 p2 p3 p4 p5
  refine (HI2.out _ H1.out.ti H1.out.bel).mono ?_
  rintro e w3 ⟨rfl, hb3⟩
  have H3 := Lib.hid (H1.out.keep hb3); clear hb3 H1
  obtain ⟨p0, p1, p2, p3, p4, p5⟩ := H3.out.sp.cells
  go_wp2_with fail
  clear p0 p1 p2 p3 p4 p5
  refine (HO.out _ H3.out.ti).mono ?_
  rintro e w4 ⟨rfl, hb4⟩
  have H4 := Lib.hid (H3.out.keep hb4); clear hb4 H3
  obtain ⟨p0, p1, p2, p3, p4, p5⟩ := H4.out.sp.cells
  go_wp2_with fail
  clear p0 p1 p2 p3 p4 p5 z1 z2
  refine (HRS.out _ H4.out.bel).mono ?_
  rintro e w5 ⟨rfl, hb5⟩
  have hal := alloc_below w5 #[.int .i64 t.kind, .bool t.flag, .int .i64 t.num, .string t.text, .slice none 0 0, .slice none 0 0] 28
  have H5 := Lib.hid ((H4.out.keep hb5).keep hal)
  have hsp := Spill.new w5 (leafT t) (.slice none 0 0) (.slice none 0 0) 28
  simp only [leafT, kind_mk, flag_mk, num_mk, text_mk] at hsp
  have HSP := Lib.hid hsp
  clear hb5 hal H4 hsp
  go_wp2_with fail
  generalize w5.alloc (.cells #[.int .i64 t.kind, .bool t.flag, .int .i64 t.num, .string t.text, .slice none 0 0, .slice none 0 0] 28) = w6 at H5 HSP ⊢
  refine (HIL.out _ H5.out.bel).mono ?_
  rintro e w7 ⟨rfl, hb7⟩
  have hal := alloc_below w7 #[.int .i64 t.kind, .bool t.flag, .int .i64 t.num, .string t.text, .slice none 0 0, .slice none 0 0] 28
  have hsp := Spill.new w7 (leafT t) (.slice none 0 0) (.slice none 0 0) 28
  simp only [leafT, kind_mk, flag_mk, num_mk, text_mk] at hsp
  have H7 := Lib.hid (show SF3 W (w7.alloc (.cells #[.int .i64 t.kind, .bool t.flag, .int .i64 t.num, .string t.text, .slice none 0 0, .slice none 0 0] 28)) w1.heap.size w5.heap.size w7.heap.size t (.slice a1 t.keys.length m1) (.slice a2 t.kids.length m2) from ⟨(H5.out.keep hb7).keep hal, (HSP.out.keep hb7).keep hal, hsp⟩)
  clear hb7 hal H5 hsp HSP
  obtain ⟨p0, p1, p2, p3, p4, p5⟩ := H7.out.one.sp.cells
  obtain ⟨q0, q1, q2, q3, q4, q5⟩ := H7.out.two.cells
  simp only [leafT, kind_mk, flag_mk, num_mk, text_mk] at q0 q1 q2 q3
  go_wp2_with fail
  generalize w7.alloc (.cells #[.int .i64 t.kind, .bool t.flag, .int .i64 t.num, .string t.text, .slice none 0 0, .slice none 0 0] 28) = w8 at H7 p0 p1 p2 p3 p4 p5 q0 q1 q2 q3 q4 q5 ⊢
  clear p0 p1 p2 p3 p4 p5 q0 q1 q2 q3 q4 q5
  refine (HST.out _ H7.out.one.ti).mono ?_
  rintro e w9 ⟨rfl, hb9⟩
  have H9 := Lib.hid (H7.out.keep hb9); clear hb9 H7
  obtain ⟨p0, p1, p2, p3, p4, p5⟩ := H9.out.one.sp.cells
  obtain ⟨q0, q1, q2, q3, q4, q5⟩ := H9.out.thr.cells
  simp only [leafT, kind_mk, flag_mk, num_mk, text_mk] at q0 q1 q2 q3
  go_wp2_with fail
  clear p0 p1 p2 p3 p4 p5 q0 q1 q2 q3 q4 q5
  refine (HST.out _ H9.out.one.ti).mono ?_
  rintro e wa ⟨rfl, hba⟩
  have Ha := Lib.hid (H9.out.one.keep hba); clear hba H9
  go_wp2_with fail
  refine (HSS.out _ Ha.out.bel).mono ?_
  rintro e wb ⟨rfl, hbb⟩
  have Hb := Lib.hid (Ha.out.keep hbb); clear hbb Ha
  obtain ⟨p0, p1, p2, p3, p4, p5⟩ := Hb.out.sp.cells
  have HTE := Lib.hid (show t.kind = 4 → plainAll t.text = true → (S.toList == t.text.toList) = true from fun h1 h2 => by rw [HQ.out.text h1 h2]; exact beq_self_eq_true _)
  by_cases hk : t.kind = 4
  rotate_left
  · have k4 : (t.kind == 4) = false := by rw [beq_eq_false_iff_ne]; exact hk
    have k5 : (t.kind != 4) = true := by rw [bne_iff_ne]; exact hk
    clear hk
    go_wp2
    go_ret
    exact ⟨rfl, Hb.out.bel⟩
  have k4 : (t.kind == 4) = true := by rw [beq_iff_eq]; exact hk
  have k5 : (t.kind != 4) = false := by rw [bne_eq_false_iff_eq]; exact hk
  have HTE2 := Lib.hid (HTE.out hk)
  clear hk HTE
  have hP := HPL.out
  cases hpl : plainAll t.text
  · rw [hpl] at hP
    have HP := Lib.hid hP
    clear hP hpl HTE2
    go_wp2_with fail
    refine (HP.out _).mono ?_
    rintro e wc ⟨rfl, hbc⟩
    have Hc := Lib.hid (Hb.out.keep hbc); clear hbc Hb
    obtain ⟨p0, p1, p2, p3, p4, p5⟩ := Hc.out.sp.cells
    go_wp2
    go_ret
    exact ⟨rfl, Hc.out.bel⟩
  · rw [hpl] at hP
    have HP := Lib.hid hP
    have hte := HTE2.out hpl
    clear hP hpl HTE2
    go_wp2_with fail
    refine (HP.out _).mono ?_
    rintro e wc ⟨rfl, hbc⟩
    have Hc := Lib.hid (Hb.out.keep hbc); clear hbc Hb
    obtain ⟨p0, p1, p2, p3, p4, p5⟩ := Hc.out.sp.cells
    go_wp2
    go_ret
    exact ⟨rfl, Hc.out.bel⟩

end Go.Proofs.YtomhbbchflblpaaGreatDoor
