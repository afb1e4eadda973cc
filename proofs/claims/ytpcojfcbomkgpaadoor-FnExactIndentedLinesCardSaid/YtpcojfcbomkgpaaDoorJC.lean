/- LayC, DecI, SayL, merged. -/
import Derived.Test.YtpcojfcbomkgpaaDoorLay
import Derived.Shelf.Strings.Trim
import Derived.Test.YtpcojfcbomkgpaaDoorJB
import Derived.Lib.LaidTab
import Derived.Lib.AppendIntMem
import Derived.Test.YtpcojfcbomkgpaaDoorJA
namespace Go.Proofs.YtpcojfcbomkgpaaDoor
open Go.RowKit

theorem Tryd.strings_TrimLeft_one (s : ByteArray) (c : UInt8) (hc : c.toNat < 128) (w : World) : Calls Tryd.prog 118 #[.string s, .string ⟨#[c]⟩] w fun e w' => e = .returned (.string ⟨(Lib.trimLeftB s.data.toList c).toArray⟩) ∧ w' = w := Any.strings_TrimLeft_one Tryd.laysTL s c hc w
theorem Tryd.strings_TrimRight_one (s : ByteArray) (c : UInt8) (hc : c.toNat < 128) (w : World) (hs : s.size ≤ 9223372036854775807) : Calls Tryd.prog 120 #[.string s, .string ⟨#[c]⟩] w fun e w' => e = .returned (.string ⟨(Lib.trimRightB s.data.toList c).toArray⟩) ∧ w' = w := Any.strings_TrimRight_one Tryd.laysTR s c hc w hs

end Go.Proofs.YtpcojfcbomkgpaaDoor
namespace Go.Proofs.YtpcojfcbomkgpaaDoor
open Go.RowKit

/-- The table of strconv lies where the library reads it. -/
def Pows (w : World) : Prop := Lib.TabIs Tryd.prog w "internal/strconv.uint64pow10" .u64 Lib.pow10Tab
theorem pows_keep {w w' : World} (h : Pows w) (hb : Below w.heap.size w w') : Pows w' := Lib.tabBelow_of_tabIs h w' hb
theorem pows_eq : (Rows.laid_internal_strconv_uint64pow10 : DataW Unit) = Lib.tabData .u64 Lib.pow10Tab := by kernel_rfl
theorem pows_of {W : World} (h : Lib.VarReads Tryd.prog W "internal/strconv.uint64pow10" Rows.laid_internal_strconv_uint64pow10) : Pows W := by
  rw [pows_eq] at h
  obtain ⟨g, t, cs, fuel, p, hg, ht, hv, hd⟩ := h
  have hg2 : Tryd.prog.globalNamed "internal/strconv.uint64pow10" = some 6 := by kernel_rfl
  have ht2 : (Tryd.prog.globals[6]?).map (·.type) = some 240 := by kernel_rfl
  obtain rfl := Option.some.inj (hg2.symm.trans hg)
  obtain rfl := Option.some.inj (ht2.symm.trans ht)
  unfold Pows Lib.TabIs
  rw [hv, ← Lib.cells_of_tab Tryd.underlying240 Tryd.underlying204 (by kernel_rfl) (by kernel_rfl) hd]
theorem iDecimal (n : Int) (w : World) (h1 : -9223372036854775808 ≤ n) (h2 : n ≤ 9223372036854775807) (hP : Pows w) : Calls Tryd.prog 235 #[.int .i64 n] w fun e w' => e = .returned (.string ⟨(Lib.itoa n).toArray⟩) ∧ Below w.heap.size w w' := by
  have c : Calls Tryd.prog 255 #[.int .i64 n] w fun e w' => e = .returned (.string ⟨(Lib.itoa n).toArray⟩) ∧ Below w.heap.size w w' :=
    (Tryd.strconv_Itoa n h1 h2 w hP).mono fun e w' ⟨h1, k, os, h2⟩ => ⟨h1, by rw [h2]; exact Lib.below_grow _ _ (Nat.le_refl _) _ _⟩
  have HC := Lib.hid c; clear c hP
  go_enter Tryd.func235, Tryd.ntmps235
  go_wp2_with (go_at_call 255; refine HC.out.mono ?_; rintro e w1 ⟨rfl, hb1⟩)
  go_ret
  exact ⟨rfl, hb1⟩

theorem appBoolTIn {W0 wa w : World} {u v : Value} {l : List UInt8} (hb : BufG W0 wa u w v l) (hl : l.length ≤ 100000000) : Calls Tryd.prog 256 #[v, .bool true] w fun e w' => ∃ v', e = .returned v' ∧ BufG W0 wa u w' v' (l ++ trueL) := by
  have HB := Lib.hid hb; clear hb
  go_enter Tryd.func256, Tryd.ntmps256
  go_wp2_with (at_builtin; refine wpList_bufGS (by rfl) _ _ (by rfl) _ _ W0 wa u _ (by rfl) HB.out _ (by rfl) (by show l.length + 4 ≤ _; omega) ?_; intro v2 w2 hb2 hg2)
  go_ret
  exact ⟨_, rfl, hb2⟩
theorem appBoolT {W0 wa w : World} {u v : Value} {l : List UInt8} (hb : BufG W0 wa u w v l) (hl : l.length ≤ 100000000) : Calls Tryd.prog 234 #[v, .bool true] w fun e w' => ∃ v', e = .returned v' ∧ BufG W0 wa u w' v' (l ++ trueL) := by
  have HB := Lib.hid (appBoolTIn hb hl); clear hb
  go_enter Tryd.func234, Tryd.ntmps234
  go_wp2_with (go_at_call 256; refine HB.out.mono ?_; rintro e w2 ⟨v2, rfl, hb2⟩)
  go_ret
  exact ⟨_, rfl, hb2⟩

theorem appBoolFIn {W0 wa w : World} {u v : Value} {l : List UInt8} (hb : BufG W0 wa u w v l) (hl : l.length ≤ 100000000) : Calls Tryd.prog 256 #[v, .bool false] w fun e w' => ∃ v', e = .returned v' ∧ BufG W0 wa u w' v' (l ++ falseL) := by
  have HB := Lib.hid hb; clear hb
  go_enter Tryd.func256, Tryd.ntmps256
  go_wp2_with (at_builtin; refine wpList_bufGS (by rfl) _ _ (by rfl) _ _ W0 wa u _ (by rfl) HB.out _ (by rfl) (by show l.length + 5 ≤ _; omega) ?_; intro v2 w2 hb2 hg2)
  go_ret
  exact ⟨_, rfl, hb2⟩
theorem appBoolF {W0 wa w : World} {u v : Value} {l : List UInt8} (hb : BufG W0 wa u w v l) (hl : l.length ≤ 100000000) : Calls Tryd.prog 234 #[v, .bool false] w fun e w' => ∃ v', e = .returned v' ∧ BufG W0 wa u w' v' (l ++ falseL) := by
  have HB := Lib.hid (appBoolFIn hb hl); clear hb
  go_enter Tryd.func234, Tryd.ntmps234
  go_wp2_with (go_at_call 256; refine HB.out.mono ?_; rintro e w2 ⟨v2, rfl, hb2⟩)
  go_ret
  exact ⟨_, rfl, hb2⟩

end Go.Proofs.YtpcojfcbomkgpaaDoor
namespace Go.Proofs.YtpcojfcbomkgpaaDoor
open Go.RowKit

def SayI (N : Nat) : Prop := ∀ (t : Tr) (S : Nat → Prop) (vk vs : Value) (W0 w : World) (v : Value) (l : List UInt8), t.nodes ≤ N → t.nodes ≤ 2000000 → shapeB t = true → t.nums → TreeIn W0 S t vk vs → Buf W0 w v l → l.length + (sayB t).length ≤ 100000000 → Tabs W0 → Pows W0 →
    Calls Tryd.prog 199 #[v, .agg #[.int .i64 t.kind, .bool t.flag, .int .i64 t.num, .string t.text, vk, vs]] w fun e w' => ∃ v', e = .returned v' ∧ BufG W0 w v w' v' (l ++ sayB t)

set_option maxRecDepth 100000 in
set_option maxHeartbeats 4000000 in
theorem iSay_1  (t : Tr) (hk : t.kind = 1) (S : Nat → Prop) (vk vs : Value) (W0 w : World) (v : Value) (l : List UInt8) (hnn : t.nodes ≤ 2000000) (hsh : shapeB t = true) (hnu : t.nums) (ht : TreeIn W0 S t vk vs) (hb : Buf W0 w v l) (hlen : l.length + (sayB t).length ≤ 100000000) (hTab : Tabs W0) (hPow : Pows W0) :
    Calls Tryd.prog 199 #[v, .agg #[.int .i64 t.kind, .bool t.flag, .int .i64 t.num, .string t.text, vk, vs]] w fun e w' => ∃ v', e = .returned v' ∧ BufG W0 w v w' v' (l ++ sayB t) := by
    obtain ⟨hk0, hs0⟩ := treeIn_iff.1 ht
    obtain ⟨a1, m1, rfl⟩ := hk0.len
    obtain ⟨a2, m2, rfl⟩ := hs0.len
    obtain ⟨hd, hky, hkd⟩ := shape_parts hsh
    obtain ⟨k1, k2, k3, k4, k5, k6⟩ := head_kind hd
    have hts := text_size k3
    have hks := key_size hky
    have hnb := nums_bd hnu
    have HKS := Lib.hid (And.intro hk0 hs0)
    have HSH := Lib.hid hkd
    have HNU := Lib.hid ((nums_iff t).1 hnu).2
    have hnl := len_nodes t.kids
    have HBX := Lib.hid (show BoxS (w.alloc (.cells #[.int .i64 t.kind, .bool t.flag, .int .i64 t.num, .string t.text, .slice a1 t.keys.length m1, .slice a2 t.kids.length m2] 50)) w.heap.size t (.slice a1 t.keys.length m1) (.slice a2 t.kids.length m2) v from ⟨Spill.new w t (.slice a1 t.keys.length m1) (.slice a2 t.kids.length m2) 50, hb.lt (Nat.le_refl _)⟩)
    have HB := Lib.hid ((BufG.start hb).alloc (.cells #[.int .i64 t.kind, .bool t.flag, .int .i64 t.num, .string t.text, .slice a1 t.keys.length m1, .slice a2 t.kids.length m2] 50))
    have hkl2 : t.kids.length ≤ 2000000 := by have := nodes_eq t; omega
    have HNN := Lib.hid (show nodesL t.kids ≤ 2000000 by have := nodes_eq t; omega)
    have HKEYS := Lib.hid hks
    have HTP := Lib.hid (And.intro hTab hPow); clear hTab hPow
    have K4 := Lib.hid k4
    clear hnn hnl hsh hnu ht hb hky hkd hk0 hs0 hd k3 hks k4 k5 k6 k1 k2
    obtain ⟨p0, p1, p2, p3, p4, p5⟩ := HBX.out.1.cells
    · have q1 : (t.kind == 1) = true := kind_eqs t.kind 1 hk 1
      have q2 : (t.kind == 2) = false := kind_eqs t.kind 1 hk 2
      have q3 : (t.kind == 3) = false := kind_eqs t.kind 1 hk 3
      have q4 : (t.kind == 4) = false := kind_eqs t.kind 1 hk 4
      have q5 : (t.kind == 5) = false := kind_eqs t.kind 1 hk 5
      have q6 : (t.kind == 6) = false := kind_eqs t.kind 1 hk 6
      have HL := Lib.hid (say_null hk)
      clear hk
      go_enter Tryd.func199, Tryd.ntmps199
      go_wp2_with (at_builtin; refine wpList_bufGS (by rfl) _ _ (by rfl) _ _ W0 w v _ (by rfl) HB.out _ (by rfl) (by show l.length + 4 ≤ _; omega) ?_; intro v2 w2 hb2 hg2)
      go_ret
      exact ⟨_, rfl, by rw [HL.out]; exact hb2⟩
set_option maxRecDepth 100000 in
set_option maxHeartbeats 4000000 in
theorem iSay_2  (t : Tr) (hk : t.kind = 2) (S : Nat → Prop) (vk vs : Value) (W0 w : World) (v : Value) (l : List UInt8) (hnn : t.nodes ≤ 2000000) (hsh : shapeB t = true) (hnu : t.nums) (ht : TreeIn W0 S t vk vs) (hb : Buf W0 w v l) (hlen : l.length + (sayB t).length ≤ 100000000) (hTab : Tabs W0) (hPow : Pows W0) :
    Calls Tryd.prog 199 #[v, .agg #[.int .i64 t.kind, .bool t.flag, .int .i64 t.num, .string t.text, vk, vs]] w fun e w' => ∃ v', e = .returned v' ∧ BufG W0 w v w' v' (l ++ sayB t) := by
    obtain ⟨hk0, hs0⟩ := treeIn_iff.1 ht
    obtain ⟨a1, m1, rfl⟩ := hk0.len
    obtain ⟨a2, m2, rfl⟩ := hs0.len
    obtain ⟨hd, hky, hkd⟩ := shape_parts hsh
    obtain ⟨k1, k2, k3, k4, k5, k6⟩ := head_kind hd
    have hts := text_size k3
    have hks := key_size hky
    have hnb := nums_bd hnu
    have HKS := Lib.hid (And.intro hk0 hs0)
    have HSH := Lib.hid hkd
    have HNU := Lib.hid ((nums_iff t).1 hnu).2
    have hnl := len_nodes t.kids
    have HBX := Lib.hid (show BoxS (w.alloc (.cells #[.int .i64 t.kind, .bool t.flag, .int .i64 t.num, .string t.text, .slice a1 t.keys.length m1, .slice a2 t.kids.length m2] 50)) w.heap.size t (.slice a1 t.keys.length m1) (.slice a2 t.kids.length m2) v from ⟨Spill.new w t (.slice a1 t.keys.length m1) (.slice a2 t.kids.length m2) 50, hb.lt (Nat.le_refl _)⟩)
    have HB := Lib.hid ((BufG.start hb).alloc (.cells #[.int .i64 t.kind, .bool t.flag, .int .i64 t.num, .string t.text, .slice a1 t.keys.length m1, .slice a2 t.kids.length m2] 50))
    have hkl2 : t.kids.length ≤ 2000000 := by have := nodes_eq t; omega
    have HNN := Lib.hid (show nodesL t.kids ≤ 2000000 by have := nodes_eq t; omega)
    have HKEYS := Lib.hid hks
    have HTP := Lib.hid (And.intro hTab hPow); clear hTab hPow
    have K4 := Lib.hid k4
    clear hnn hnl hsh hnu ht hb hky hkd hk0 hs0 hd k3 hks k4 k5 k6 k1 k2
    obtain ⟨p0, p1, p2, p3, p4, p5⟩ := HBX.out.1.cells
    · have q1 : (t.kind == 1) = false := kind_eqs t.kind 2 hk 1
      have q2 : (t.kind == 2) = true := kind_eqs t.kind 2 hk 2
      have q3 : (t.kind == 3) = false := kind_eqs t.kind 2 hk 3
      have q4 : (t.kind == 4) = false := kind_eqs t.kind 2 hk 4
      have q5 : (t.kind == 5) = false := kind_eqs t.kind 2 hk 5
      have q6 : (t.kind == 6) = false := kind_eqs t.kind 2 hk 6
      rcases Bool.eq_false_or_eq_true t.flag with hf | hf
      · have HL := Lib.hid (say_true hk hf)
        clear hk
        simp only [hf] at HB p0 p1 p2 p3 p4 p5
        go_enter Tryd.func199, Tryd.ntmps199
        go_wp2_with (go_at_call 234; refine (appBoolT HB.out (by omega)).mono ?_; rintro e w2 ⟨v2, rfl, hb2⟩)
        go_ret
        exact ⟨_, rfl, by rw [HL.out]; exact hb2⟩
      · have HL := Lib.hid (say_false hk hf)
        clear hk
        simp only [hf] at HB p0 p1 p2 p3 p4 p5
        go_enter Tryd.func199, Tryd.ntmps199
        go_wp2_with (go_at_call 234; refine (appBoolF HB.out (by omega)).mono ?_; rintro e w2 ⟨v2, rfl, hb2⟩)
        go_ret
        exact ⟨_, rfl, by rw [HL.out]; exact hb2⟩
set_option maxRecDepth 100000 in
set_option maxHeartbeats 4000000 in
theorem iSay_3  (t : Tr) (hk : t.kind = 3) (S : Nat → Prop) (vk vs : Value) (W0 w : World) (v : Value) (l : List UInt8) (hnn : t.nodes ≤ 2000000) (hsh : shapeB t = true) (hnu : t.nums) (ht : TreeIn W0 S t vk vs) (hb : Buf W0 w v l) (hlen : l.length + (sayB t).length ≤ 100000000) (hTab : Tabs W0) (hPow : Pows W0) :
    Calls Tryd.prog 199 #[v, .agg #[.int .i64 t.kind, .bool t.flag, .int .i64 t.num, .string t.text, vk, vs]] w fun e w' => ∃ v', e = .returned v' ∧ BufG W0 w v w' v' (l ++ sayB t) := by
    obtain ⟨hk0, hs0⟩ := treeIn_iff.1 ht
    obtain ⟨a1, m1, rfl⟩ := hk0.len
    obtain ⟨a2, m2, rfl⟩ := hs0.len
    obtain ⟨hd, hky, hkd⟩ := shape_parts hsh
    obtain ⟨k1, k2, k3, k4, k5, k6⟩ := head_kind hd
    have hts := text_size k3
    have hks := key_size hky
    have hnb := nums_bd hnu
    have HKS := Lib.hid (And.intro hk0 hs0)
    have HSH := Lib.hid hkd
    have HNU := Lib.hid ((nums_iff t).1 hnu).2
    have hnl := len_nodes t.kids
    have HBX := Lib.hid (show BoxS (w.alloc (.cells #[.int .i64 t.kind, .bool t.flag, .int .i64 t.num, .string t.text, .slice a1 t.keys.length m1, .slice a2 t.kids.length m2] 50)) w.heap.size t (.slice a1 t.keys.length m1) (.slice a2 t.kids.length m2) v from ⟨Spill.new w t (.slice a1 t.keys.length m1) (.slice a2 t.kids.length m2) 50, hb.lt (Nat.le_refl _)⟩)
    have HB := Lib.hid ((BufG.start hb).alloc (.cells #[.int .i64 t.kind, .bool t.flag, .int .i64 t.num, .string t.text, .slice a1 t.keys.length m1, .slice a2 t.kids.length m2] 50))
    have hkl2 : t.kids.length ≤ 2000000 := by have := nodes_eq t; omega
    have HNN := Lib.hid (show nodesL t.kids ≤ 2000000 by have := nodes_eq t; omega)
    have HKEYS := Lib.hid hks
    have HTP := Lib.hid (And.intro hTab hPow); clear hTab hPow
    have K4 := Lib.hid k4
    clear hnn hnl hsh hnu ht hb hky hkd hk0 hs0 hd k3 hks k4 k5 k6 k1 k2
    obtain ⟨p0, p1, p2, p3, p4, p5⟩ := HBX.out.1.cells
    · have q1 : (t.kind == 1) = false := kind_eqs t.kind 3 hk 1
      have q2 : (t.kind == 2) = false := kind_eqs t.kind 3 hk 2
      have q3 : (t.kind == 3) = true := kind_eqs t.kind 3 hk 3
      have q4 : (t.kind == 4) = false := kind_eqs t.kind 3 hk 4
      have q5 : (t.kind == 5) = false := kind_eqs t.kind 3 hk 5
      have q6 : (t.kind == 6) = false := kind_eqs t.kind 3 hk 6
      have HL := Lib.hid (say_int hk)
      clear hk
      obtain ⟨D, hD⟩ : ∃ D : ByteArray, D = ⟨(Lib.itoa t.num).toArray⟩ := ⟨_, rfl⟩
      have hDs : l.length + D.size ≤ 100000000 := by
        rw [hD]; show l.length + (Lib.itoa t.num).toArray.size ≤ _
        rw [List.size_toArray, ← HL.out]; exact hlen
      have HDL := Lib.hid (show D.data.toList = sayB t by rw [hD, HL.out])
      have HD := Lib.hid (fun w0 hP => iDecimal t.num w0 hnb.1 hnb.2 hP)
      rw [← hD] at HD
      clear hD
      go_enter Tryd.func199, Tryd.ntmps199
      go_wp2_with (first | (go_at_call 235; refine (HD.out _ (pows_keep HTP.out.2 HB.out.buf.bel)).mono ?_; rintro e w1 ⟨rfl, hb1⟩; have HB1 := Lib.hid (HB.out.keep hb1)) | (at_builtin; refine wpList_bufGS (by rfl) _ _ (by rfl) _ _ W0 w v _ (by rfl) HB1.out _ (by rfl) (by omega) ?_; intro v2 w2 hb2 hg2))
      go_ret
      exact ⟨_, rfl, by rw [← HDL.out]; exact hb2⟩
set_option maxRecDepth 100000 in
set_option maxHeartbeats 4000000 in
theorem iSay_4  (t : Tr) (hk : t.kind = 4) (S : Nat → Prop) (vk vs : Value) (W0 w : World) (v : Value) (l : List UInt8) (hnn : t.nodes ≤ 2000000) (hsh : shapeB t = true) (hnu : t.nums) (ht : TreeIn W0 S t vk vs) (hb : Buf W0 w v l) (hlen : l.length + (sayB t).length ≤ 100000000) (hTab : Tabs W0) (hPow : Pows W0) :
    Calls Tryd.prog 199 #[v, .agg #[.int .i64 t.kind, .bool t.flag, .int .i64 t.num, .string t.text, vk, vs]] w fun e w' => ∃ v', e = .returned v' ∧ BufG W0 w v w' v' (l ++ sayB t) := by
    obtain ⟨hk0, hs0⟩ := treeIn_iff.1 ht
    obtain ⟨a1, m1, rfl⟩ := hk0.len
    obtain ⟨a2, m2, rfl⟩ := hs0.len
    obtain ⟨hd, hky, hkd⟩ := shape_parts hsh
    obtain ⟨k1, k2, k3, k4, k5, k6⟩ := head_kind hd
    have hts := text_size k3
    have hks := key_size hky
    have hnb := nums_bd hnu
    have HKS := Lib.hid (And.intro hk0 hs0)
    have HSH := Lib.hid hkd
    have HNU := Lib.hid ((nums_iff t).1 hnu).2
    have hnl := len_nodes t.kids
    have HBX := Lib.hid (show BoxS (w.alloc (.cells #[.int .i64 t.kind, .bool t.flag, .int .i64 t.num, .string t.text, .slice a1 t.keys.length m1, .slice a2 t.kids.length m2] 50)) w.heap.size t (.slice a1 t.keys.length m1) (.slice a2 t.kids.length m2) v from ⟨Spill.new w t (.slice a1 t.keys.length m1) (.slice a2 t.kids.length m2) 50, hb.lt (Nat.le_refl _)⟩)
    have HB := Lib.hid ((BufG.start hb).alloc (.cells #[.int .i64 t.kind, .bool t.flag, .int .i64 t.num, .string t.text, .slice a1 t.keys.length m1, .slice a2 t.kids.length m2] 50))
    have hkl2 : t.kids.length ≤ 2000000 := by have := nodes_eq t; omega
    have HNN := Lib.hid (show nodesL t.kids ≤ 2000000 by have := nodes_eq t; omega)
    have HKEYS := Lib.hid hks
    have HTP := Lib.hid (And.intro hTab hPow); clear hTab hPow
    have K4 := Lib.hid k4
    clear hnn hnl hsh hnu ht hb hky hkd hk0 hs0 hd k3 hks k4 k5 k6 k1 k2
    obtain ⟨p0, p1, p2, p3, p4, p5⟩ := HBX.out.1.cells
    · have q1 : (t.kind == 1) = false := kind_eqs t.kind 4 hk 1
      have q2 : (t.kind == 2) = false := kind_eqs t.kind 4 hk 2
      have q3 : (t.kind == 3) = false := kind_eqs t.kind 4 hk 3
      have q4 : (t.kind == 4) = true := kind_eqs t.kind 4 hk 4
      have q5 : (t.kind == 5) = false := kind_eqs t.kind 4 hk 5
      have q6 : (t.kind == 6) = false := kind_eqs t.kind 4 hk 6
      have HL := Lib.hid (say_text hk)
      clear hk
      have HD := Lib.hid (fun w0 hT => iQuoted t.text w0 (by omega) hT)
      have hDs : l.length + (quotedB t.text).size ≤ 100000000 := by
        have h1 : (qL t.text).length = (quotedB t.text).size := by unfold qL; simp
        rw [← h1, ← HL.out]; exact hlen
      have HDL := Lib.hid (show (quotedB t.text).data.toList = sayB t by rw [HL.out]; rfl)
      generalize quotedB t.text = D at HD hDs HDL
      go_enter Tryd.func199, Tryd.ntmps199
      go_wp2_with (first | (go_at_call 201; refine (HD.out _ (tabs_keep HTP.out.1 HB.out.buf.bel)).mono ?_; rintro e w1 ⟨rfl, hb1⟩; have HB1 := Lib.hid (HB.out.keep hb1)) | (at_builtin; refine wpList_bufGS (by rfl) _ _ (by rfl) _ _ W0 w v _ (by rfl) HB1.out _ (by rfl) (by omega) ?_; intro v2 w2 hb2 hg2))
      go_ret
      exact ⟨_, rfl, by rw [← HDL.out]; exact hb2⟩

end Go.Proofs.YtpcojfcbomkgpaaDoor
