/- impl.appendBraced: the contract (printed by wip/gen/saygen.py). -/
import Derived.Test.YtclffhejoneiaaaDoorRSayP
import Derived.Test.YtclffhejoneiaaaDoorRBufG
import Derived.Test.YtclffhejoneiaaaDoorRSayS
import Derived.Test.YtclffhejoneiaaaDoorRDecI
import Derived.Test.YtclffhejoneiaaaDoorRQuoI
namespace Go.Proofs.YtclffhejoneiaaaDoorR
open Go.RowKit

def SayI (N : Nat) : Prop := ∀ (t : Tr) (S : Nat → Prop) (vk vs : Value) (W0 w : World) (v : Value) (l : List UInt8), t.nodes ≤ N → t.nodes ≤ 2000000 → shapeB t = true → t.nums → TreeIn W0 S t vk vs → Buf W0 w v l → l.length + (sayB t).length ≤ 100000000 → Tabs W0 → Pows W0 →
    Calls Tryd.prog 68 #[v, .agg #[.int .i64 t.kind, .bool t.flag, .int .i64 t.num, .string t.text, vk, vs]] w fun e w' => ∃ v', e = .returned v' ∧ BufG W0 w v w' v' (l ++ sayB t)

set_option maxRecDepth 100000 in
set_option maxHeartbeats 4000000 in
theorem iSay_1  (t : Tr) (hk : t.kind = 1) (S : Nat → Prop) (vk vs : Value) (W0 w : World) (v : Value) (l : List UInt8) (hnn : t.nodes ≤ 2000000) (hsh : shapeB t = true) (hnu : t.nums) (ht : TreeIn W0 S t vk vs) (hb : Buf W0 w v l) (hlen : l.length + (sayB t).length ≤ 100000000) (hTab : Tabs W0) (hPow : Pows W0) :
    Calls Tryd.prog 68 #[v, .agg #[.int .i64 t.kind, .bool t.flag, .int .i64 t.num, .string t.text, vk, vs]] w fun e w' => ∃ v', e = .returned v' ∧ BufG W0 w v w' v' (l ++ sayB t) := by
    obtain ⟨hk0, hs0⟩ := treeIn_iff.1 ht
    obtain ⟨a1, m1, rfl⟩ := hk0.len
    obtain ⟨a2, m2, rfl⟩ := hs0.len
    obtain ⟨hd, hky, hkd⟩ := shape_parts hsh
    obtain ⟨k1, k2, k3, k4, k5, k6⟩ := head_kind hd
    have hts := text_size k3
    have hks := key_size hky
    have hnb := nums_bd hnu
    have HKS := Lib.hid (And.intro hk0 hs0)
    have HSH := Lib.hid hkd
    have HNU := Lib.hid ((nums_iff t).1 hnu).2
    have hnl := len_nodes t.kids
    have HBX := Lib.hid (show BoxS (w.alloc (.cells #[.int .i64 t.kind, .bool t.flag, .int .i64 t.num, .string t.text, .slice a1 t.keys.length m1, .slice a2 t.kids.length m2] 46)) w.heap.size t (.slice a1 t.keys.length m1) (.slice a2 t.kids.length m2) v from ⟨Spill.new w t (.slice a1 t.keys.length m1) (.slice a2 t.kids.length m2) 46, hb.lt (Nat.le_refl _)⟩)
    have HB := Lib.hid ((BufG.start hb).alloc (.cells #[.int .i64 t.kind, .bool t.flag, .int .i64 t.num, .string t.text, .slice a1 t.keys.length m1, .slice a2 t.kids.length m2] 46))
    have hkl2 : t.kids.length ≤ 2000000 := by have := nodes_eq t; omega
    have HNN := Lib.hid (show nodesL t.kids ≤ 2000000 by have := nodes_eq t; omega)
    have HKEYS := Lib.hid hks
    have HTP := Lib.hid (And.intro hTab hPow); clear hTab hPow
    have K4 := Lib.hid k4
    clear hnn hnl hsh hnu ht hb hky hkd hk0 hs0 hd k3 hks k4 k5 k6 k1 k2
    obtain ⟨p0, p1, p2, p3, p4, p5⟩ := HBX.out.1.cells
    · have q1 : (t.kind == 1) = true := kind_eqs t.kind 1 hk 1
      have q2 : (t.kind == 2) = false := kind_eqs t.kind 1 hk 2
      have q3 : (t.kind == 3) = false := kind_eqs t.kind 1 hk 3
      have q4 : (t.kind == 4) = false := kind_eqs t.kind 1 hk 4
      have q5 : (t.kind == 5) = false := kind_eqs t.kind 1 hk 5
      have q6 : (t.kind == 6) = false := kind_eqs t.kind 1 hk 6
      have HL := Lib.hid (say_null hk)
      clear hk
      go_enter Tryd.func68, Tryd.ntmps68
      go_wp2_with (at_builtin; refine wpList_bufGS (by rfl) _ _ (by rfl) _ _ W0 w v _ (by rfl) HB.out _ (by rfl) (by show l.length + 4 ≤ _; omega) ?_; intro v2 w2 hb2 hg2)
      go_ret
      exact ⟨_, rfl, by rw [HL.out]; exact hb2⟩
set_option maxRecDepth 100000 in
set_option maxHeartbeats 4000000 in
theorem iSay_2  (t : Tr) (hk : t.kind = 2) (S : Nat → Prop) (vk vs : Value) (W0 w : World) (v : Value) (l : List UInt8) (hnn : t.nodes ≤ 2000000) (hsh : shapeB t = true) (hnu : t.nums) (ht : TreeIn W0 S t vk vs) (hb : Buf W0 w v l) (hlen : l.length + (sayB t).length ≤ 100000000) (hTab : Tabs W0) (hPow : Pows W0) :
    Calls Tryd.prog 68 #[v, .agg #[.int .i64 t.kind, .bool t.flag, .int .i64 t.num, .string t.text, vk, vs]] w fun e w' => ∃ v', e = .returned v' ∧ BufG W0 w v w' v' (l ++ sayB t) := by
    obtain ⟨hk0, hs0⟩ := treeIn_iff.1 ht
    obtain ⟨a1, m1, rfl⟩ := hk0.len
    obtain ⟨a2, m2, rfl⟩ := hs0.len
    obtain ⟨hd, hky, hkd⟩ := shape_parts hsh
    obtain ⟨k1, k2, k3, k4, k5, k6⟩ := head_kind hd
    have hts := text_size k3
    have hks := key_size hky
    have hnb := nums_bd hnu
    have HKS := Lib.hid (And.intro hk0 hs0)
    have HSH := Lib.hid hkd
    have HNU := Lib.hid ((nums_iff t).1 hnu).2
    have hnl := len_nodes t.kids
    have HBX := Lib.hid (show BoxS (w.alloc (.cells #[.int .i64 t.kind, .bool t.flag, .int .i64 t.num, .string t.text, .slice a1 t.keys.length m1, .slice a2 t.kids.length m2] 46)) w.heap.size t (.slice a1 t.keys.length m1) (.slice a2 t.kids.length m2) v from ⟨Spill.new w t (.slice a1 t.keys.length m1) (.slice a2 t.kids.length m2) 46, hb.lt (Nat.le_refl _)⟩)
    have HB := Lib.hid ((BufG.start hb).alloc (.cells #[.int .i64 t.kind, .bool t.flag, .int .i64 t.num, .string t.text, .slice a1 t.keys.length m1, .slice a2 t.kids.length m2] 46))
    have hkl2 : t.kids.length ≤ 2000000 := by have := nodes_eq t; omega
    have HNN := Lib.hid (show nodesL t.kids ≤ 2000000 by have := nodes_eq t; omega)
    have HKEYS := Lib.hid hks
    have HTP := Lib.hid (And.intro hTab hPow); clear hTab hPow
    have K4 := Lib.hid k4
    clear hnn hnl hsh hnu ht hb hky hkd hk0 hs0 hd k3 hks k4 k5 k6 k1 k2
    obtain ⟨p0, p1, p2, p3, p4, p5⟩ := HBX.out.1.cells
    · have q1 : (t.kind == 1) = false := kind_eqs t.kind 2 hk 1
      have q2 : (t.kind == 2) = true := kind_eqs t.kind 2 hk 2
      have q3 : (t.kind == 3) = false := kind_eqs t.kind 2 hk 3
      have q4 : (t.kind == 4) = false := kind_eqs t.kind 2 hk 4
      have q5 : (t.kind == 5) = false := kind_eqs t.kind 2 hk 5
      have q6 : (t.kind == 6) = false := kind_eqs t.kind 2 hk 6
      rcases Bool.eq_false_or_eq_true t.flag with hf | hf
      · have HL := Lib.hid (say_true hk hf)
        clear hk
        simp only [hf] at HB p0 p1 p2 p3 p4 p5
        go_enter Tryd.func68, Tryd.ntmps68
        go_wp2_with (go_at_call 107; refine (appBoolT HB.out (by omega)).mono ?_; rintro e w2 ⟨v2, rfl, hb2⟩)
        go_ret
        exact ⟨_, rfl, by rw [HL.out]; exact hb2⟩
      · have HL := Lib.hid (say_false hk hf)
        clear hk
        simp only [hf] at HB p0 p1 p2 p3 p4 p5
        go_enter Tryd.func68, Tryd.ntmps68
        go_wp2_with (go_at_call 107; refine (appBoolF HB.out (by omega)).mono ?_; rintro e w2 ⟨v2, rfl, hb2⟩)
        go_ret
        exact ⟨_, rfl, by rw [HL.out]; exact hb2⟩
set_option maxRecDepth 100000 in
set_option maxHeartbeats 4000000 in
theorem iSay_3  (t : Tr) (hk : t.kind = 3) (S : Nat → Prop) (vk vs : Value) (W0 w : World) (v : Value) (l : List UInt8) (hnn : t.nodes ≤ 2000000) (hsh : shapeB t = true) (hnu : t.nums) (ht : TreeIn W0 S t vk vs) (hb : Buf W0 w v l) (hlen : l.length + (sayB t).length ≤ 100000000) (hTab : Tabs W0) (hPow : Pows W0) :
    Calls Tryd.prog 68 #[v, .agg #[.int .i64 t.kind, .bool t.flag, .int .i64 t.num, .string t.text, vk, vs]] w fun e w' => ∃ v', e = .returned v' ∧ BufG W0 w v w' v' (l ++ sayB t) := by
    obtain ⟨hk0, hs0⟩ := treeIn_iff.1 ht
    obtain ⟨a1, m1, rfl⟩ := hk0.len
    obtain ⟨a2, m2, rfl⟩ := hs0.len
    obtain ⟨hd, hky, hkd⟩ := shape_parts hsh
    obtain ⟨k1, k2, k3, k4, k5, k6⟩ := head_kind hd
    have hts := text_size k3
    have hks := key_size hky
    have hnb := nums_bd hnu
    have HKS := Lib.hid (And.intro hk0 hs0)
    have HSH := Lib.hid hkd
    have HNU := Lib.hid ((nums_iff t).1 hnu).2
    have hnl := len_nodes t.kids
    have HBX := Lib.hid (show BoxS (w.alloc (.cells #[.int .i64 t.kind, .bool t.flag, .int .i64 t.num, .string t.text, .slice a1 t.keys.length m1, .slice a2 t.kids.length m2] 46)) w.heap.size t (.slice a1 t.keys.length m1) (.slice a2 t.kids.length m2) v from ⟨Spill.new w t (.slice a1 t.keys.length m1) (.slice a2 t.kids.length m2) 46, hb.lt (Nat.le_refl _)⟩)
    have HB := Lib.hid ((BufG.start hb).alloc (.cells #[.int .i64 t.kind, .bool t.flag, .int .i64 t.num, .string t.text, .slice a1 t.keys.length m1, .slice a2 t.kids.length m2] 46))
    have hkl2 : t.kids.length ≤ 2000000 := by have := nodes_eq t; omega
    have HNN := Lib.hid (show nodesL t.kids ≤ 2000000 by have := nodes_eq t; omega)
    have HKEYS := Lib.hid hks
    have HTP := Lib.hid (And.intro hTab hPow); clear hTab hPow
    have K4 := Lib.hid k4
    clear hnn hnl hsh hnu ht hb hky hkd hk0 hs0 hd k3 hks k4 k5 k6 k1 k2
    obtain ⟨p0, p1, p2, p3, p4, p5⟩ := HBX.out.1.cells
    · have q1 : (t.kind == 1) = false := kind_eqs t.kind 3 hk 1
      have q2 : (t.kind == 2) = false := kind_eqs t.kind 3 hk 2
      have q3 : (t.kind == 3) = true := kind_eqs t.kind 3 hk 3
      have q4 : (t.kind == 4) = false := kind_eqs t.kind 3 hk 4
      have q5 : (t.kind == 5) = false := kind_eqs t.kind 3 hk 5
      have q6 : (t.kind == 6) = false := kind_eqs t.kind 3 hk 6
      have HL := Lib.hid (say_int hk)
      clear hk
      obtain ⟨D, hD⟩ : ∃ D : ByteArray, D = ⟨(Lib.itoa t.num).toArray⟩ := ⟨_, rfl⟩
      have hDs : l.length + D.size ≤ 100000000 := by
        rw [hD]; show l.length + (Lib.itoa t.num).toArray.size ≤ _
        rw [List.size_toArray, ← HL.out]; exact hlen
      have HDL := Lib.hid (show D.data.toList = sayB t by rw [hD, HL.out])
      have HD := Lib.hid (fun w0 hP => iDecimal t.num w0 hnb.1 hnb.2 hP)
      rw [← hD] at HD
      clear hD
      go_enter Tryd.func68, Tryd.ntmps68
      go_wp2_with (first | (go_at_call 108; refine (HD.out _ (pows_keep HTP.out.2 HB.out.buf.bel)).mono ?_; rintro e w1 ⟨rfl, hb1⟩; have HB1 := Lib.hid (HB.out.keep hb1)) | (at_builtin; refine wpList_bufGS (by rfl) _ _ (by rfl) _ _ W0 w v _ (by rfl) HB1.out _ (by rfl) (by omega) ?_; intro v2 w2 hb2 hg2))
      go_ret
      exact ⟨_, rfl, by rw [← HDL.out]; exact hb2⟩
set_option maxRecDepth 100000 in
set_option maxHeartbeats 4000000 in
theorem iSay_4  (t : Tr) (hk : t.kind = 4) (S : Nat → Prop) (vk vs : Value) (W0 w : World) (v : Value) (l : List UInt8) (hnn : t.nodes ≤ 2000000) (hsh : shapeB t = true) (hnu : t.nums) (ht : TreeIn W0 S t vk vs) (hb : Buf W0 w v l) (hlen : l.length + (sayB t).length ≤ 100000000) (hTab : Tabs W0) (hPow : Pows W0) :
    Calls Tryd.prog 68 #[v, .agg #[.int .i64 t.kind, .bool t.flag, .int .i64 t.num, .string t.text, vk, vs]] w fun e w' => ∃ v', e = .returned v' ∧ BufG W0 w v w' v' (l ++ sayB t) := by
    obtain ⟨hk0, hs0⟩ := treeIn_iff.1 ht
    obtain ⟨a1, m1, rfl⟩ := hk0.len
    obtain ⟨a2, m2, rfl⟩ := hs0.len
    obtain ⟨hd, hky, hkd⟩ := shape_parts hsh
    obtain ⟨k1, k2, k3, k4, k5, k6⟩ := head_kind hd
    have hts := text_size k3
    have hks := key_size hky
    have hnb := nums_bd hnu
    have HKS := Lib.hid (And.intro hk0 hs0)
    have HSH := Lib.hid hkd
    have HNU := Lib.hid ((nums_iff t).1 hnu).2
    have hnl := len_nodes t.kids
    have HBX := Lib.hid (show BoxS (w.alloc (.cells #[.int .i64 t.kind, .bool t.flag, .int .i64 t.num, .string t.text, .slice a1 t.keys.length m1, .slice a2 t.kids.length m2] 46)) w.heap.size t (.slice a1 t.keys.length m1) (.slice a2 t.kids.length m2) v from ⟨Spill.new w t (.slice a1 t.keys.length m1) (.slice a2 t.kids.length m2) 46, hb.lt (Nat.le_refl _)⟩)
    have HB := Lib.hid ((BufG.start hb).alloc (.cells #[.int .i64 t.kind, .bool t.flag, .int .i64 t.num, .string t.text, .slice a1 t.keys.length m1, .slice a2 t.kids.length m2] 46))
    have hkl2 : t.kids.length ≤ 2000000 := by have := nodes_eq t; omega
    have HNN := Lib.hid (show nodesL t.kids ≤ 2000000 by have := nodes_eq t; omega)
    have HKEYS := Lib.hid hks
    have HTP := Lib.hid (And.intro hTab hPow); clear hTab hPow
    have K4 := Lib.hid k4
    clear hnn hnl hsh hnu ht hb hky hkd hk0 hs0 hd k3 hks k4 k5 k6 k1 k2
    obtain ⟨p0, p1, p2, p3, p4, p5⟩ := HBX.out.1.cells
    · have q1 : (t.kind == 1) = false := kind_eqs t.kind 4 hk 1
      have q2 : (t.kind == 2) = false := kind_eqs t.kind 4 hk 2
      have q3 : (t.kind == 3) = false := kind_eqs t.kind 4 hk 3
      have q4 : (t.kind == 4) = true := kind_eqs t.kind 4 hk 4
      have q5 : (t.kind == 5) = false := kind_eqs t.kind 4 hk 5
      have q6 : (t.kind == 6) = false := kind_eqs t.kind 4 hk 6
      have HL := Lib.hid (say_text hk)
      clear hk
      have HD := Lib.hid (fun w0 hT => iQuoted t.text w0 (by omega) hT)
      have hDs : l.length + (quotedB t.text).size ≤ 100000000 := by
        have h1 : (qL t.text).length = (quotedB t.text).size := by unfold qL; simp
        rw [← h1, ← HL.out]; exact hlen
      have HDL := Lib.hid (show (quotedB t.text).data.toList = sayB t by rw [HL.out]; rfl)
      generalize quotedB t.text = D at HD hDs HDL
      go_enter Tryd.func68, Tryd.ntmps68
      go_wp2_with (first | (go_at_call 106; refine (HD.out _ (tabs_keep HTP.out.1 HB.out.buf.bel)).mono ?_; rintro e w1 ⟨rfl, hb1⟩; have HB1 := Lib.hid (HB.out.keep hb1)) | (at_builtin; refine wpList_bufGS (by rfl) _ _ (by rfl) _ _ W0 w v _ (by rfl) HB1.out _ (by rfl) (by omega) ?_; intro v2 w2 hb2 hg2))
      go_ret
      exact ⟨_, rfl, by rw [← HDL.out]; exact hb2⟩
set_option maxRecDepth 100000 in
set_option maxHeartbeats 4000000 in
theorem iSay_5 (N : Nat) (hIH : SayI N) (t : Tr) (hk : t.kind = 5) (S : Nat → Prop) (vk vs : Value) (W0 w : World) (v : Value) (l : List UInt8) (h : t.nodes ≤ N + 1) (hnn : t.nodes ≤ 2000000) (hsh : shapeB t = true) (hnu : t.nums) (ht : TreeIn W0 S t vk vs) (hb : Buf W0 w v l) (hlen : l.length + (sayB t).length ≤ 100000000) (hTab : Tabs W0) (hPow : Pows W0) :
    Calls Tryd.prog 68 #[v, .agg #[.int .i64 t.kind, .bool t.flag, .int .i64 t.num, .string t.text, vk, vs]] w fun e w' => ∃ v', e = .returned v' ∧ BufG W0 w v w' v' (l ++ sayB t) := by
    have IH := Lib.hid hIH; clear hIH
    obtain ⟨hk0, hs0⟩ := treeIn_iff.1 ht
    obtain ⟨a1, m1, rfl⟩ := hk0.len
    obtain ⟨a2, m2, rfl⟩ := hs0.len
    obtain ⟨hd, hky, hkd⟩ := shape_parts hsh
    obtain ⟨k1, k2, k3, k4, k5, k6⟩ := head_kind hd
    have hts := text_size k3
    have hks := key_size hky
    have hnb := nums_bd hnu
    have HKS := Lib.hid (And.intro hk0 hs0)
    have HSH := Lib.hid hkd
    have HNU := Lib.hid ((nums_iff t).1 hnu).2
    have HN := Lib.hid (show nodesL t.kids ≤ N by have := nodes_eq t; omega)
    have hnl := len_nodes t.kids
    have HBX := Lib.hid (show BoxS (w.alloc (.cells #[.int .i64 t.kind, .bool t.flag, .int .i64 t.num, .string t.text, .slice a1 t.keys.length m1, .slice a2 t.kids.length m2] 46)) w.heap.size t (.slice a1 t.keys.length m1) (.slice a2 t.kids.length m2) v from ⟨Spill.new w t (.slice a1 t.keys.length m1) (.slice a2 t.kids.length m2) 46, hb.lt (Nat.le_refl _)⟩)
    have HB := Lib.hid ((BufG.start hb).alloc (.cells #[.int .i64 t.kind, .bool t.flag, .int .i64 t.num, .string t.text, .slice a1 t.keys.length m1, .slice a2 t.kids.length m2] 46))
    have hkl2 : t.kids.length ≤ 2000000 := by have := nodes_eq t; omega
    have HNN := Lib.hid (show nodesL t.kids ≤ 2000000 by have := nodes_eq t; omega)
    have HKEYS := Lib.hid hks
    have HTP := Lib.hid (And.intro hTab hPow); clear hTab hPow
    have K4 := Lib.hid k4
    clear hnn hnl hsh hnu ht hb hky hkd hk0 hs0 h hd k3 hks k4 k5 k6 k1 k2
    obtain ⟨p0, p1, p2, p3, p4, p5⟩ := HBX.out.1.cells
    · have q1 : (t.kind == 1) = false := kind_eqs t.kind 5 hk 1
      have q2 : (t.kind == 2) = false := kind_eqs t.kind 5 hk 2
      have q3 : (t.kind == 3) = false := kind_eqs t.kind 5 hk 3
      have q4 : (t.kind == 4) = false := kind_eqs t.kind 5 hk 4
      have q5 : (t.kind == 5) = true := kind_eqs t.kind 5 hk 5
      have q6 : (t.kind == 6) = false := kind_eqs t.kind 5 hk 6
      have HST := Lib.hid (say_start5 hk l)
      clear hk
      go_enter Tryd.func68, Tryd.ntmps68
      go_wp2_with (at_builtin; refine wpList_bufG (by rfl) _ _ (by rfl) _ _ [91] W0 w v _ (by rfl) HB.out _ 1 1 (by rfl) rfl (by first | rfl | (rw [World.size_alloc]; rfl)) (by first | omega | (simp; omega)) ?_; intro v2 w2 hb2 hg2; have HBX3 := Lib.hid ((HBX.out.keep (Below.refl _ _)).gr hg2); have HB2 := Lib.hid hb2; clear hb2 hg2 HBX p0 p1 p2 p3 p4 p5; obtain ⟨p0, p1, p2, p3, p4, p5⟩ := HBX3.out.1.cells)
      clear HB p0 p1 p2 p3 p4 p5
      go_loopw [0, 45] (fun u i wr => ∃ (k : Nat) (acc : List UInt8), k ≤ t.kids.length ∧ i = .int .i64 k ∧ Hid (BufG W0 w v wr u acc) ∧ Hid (BoxS wr w.heap.size t (.slice a1 t.keys.length m1) (.slice a2 t.kids.length m2) u) ∧ Hid (SayAt false t.keys t.kids k acc [93] (l ++ sayB t))) (fun _ i _ => t.kids.length - (intOf i).toNat)
      case atStart => exact ⟨0, l ++ [91], by omega, rfl, HB2, HBX3, HST⟩
      case round =>
        obtain ⟨k, acc, hk, rfl, HB, HBX, HS⟩ := hrel
        obtain ⟨p0, p1, p2, p3, p4, p5⟩ := HBX.out.1.cells
        clear p1 p2 p3
        by_cases hlt : k < t.kids.length
        · have hLE := sayAt_len HS.out
          have hstep := sayAt_step HS.out hlt
          have hL := sayAt_len hstep
          simp only [List.length_append, List.length_cons, List.length_nil] at hLE hL
          obtain ⟨b, o, vk', vs', rfl, ⟨c0, c1, c2, c3, c4, c5⟩, hin⟩ := HKS.out.2.at hlt
          obtain ⟨hk', hs'⟩ := treeIn_iff.1 hin
          obtain ⟨b1, n1, rfl⟩ := hk'.len
          obtain ⟨b2, n2, rfl⟩ := hs'.len
          clear hk' hs'
          have c00 := c0; have c10 := c1; have c20 := c2; have c30 := c3; have c40 := c4; have c50 := c5
          have c0 := bkeep HB.out.buf.bel c0; have c1 := bkeep HB.out.buf.bel c1; have c2 := bkeep HB.out.buf.bel c2; have c3 := bkeep HB.out.buf.bel c3; have c4 := bkeep HB.out.buf.bel c4; have c5 := bkeep HB.out.buf.bel c5
          have h1 := nodes_kid t.kids k hlt
          have HIN := Lib.hid hin; clear hin
          have HKN := Lib.hid (show (kidAt t.kids k).nodes ≤ N by have := HN.out; omega)
          have HKM := Lib.hid (show (kidAt t.kids k).nodes ≤ 2000000 by have := HNN.out; omega)
          have HK1 := Lib.hid (shapeL_kid HSH.out hlt)
          have HK2 := Lib.hid (nums_kid t.kids k hlt HNU.out)
          clear h1
          have hlb := HBX.out.1.lt
          have hlc := lt_of_cell c0
          by_cases hk0 : 0 < k
          rotate_left
          · have z1 : decide ((0 : Int) < (k : Int)) = false := decide_eq_false (by omega)
            have z2 : decide (0 < k) = false := decide_eq_false hk0
            rw [head_f0 hk0] at hstep hL
            simp only [List.length_nil, List.append_nil] at hstep hL
            have HSTEP := Lib.hid hstep; clear hstep hk0
            go_wp2_with (go_at_call 68; refine (IH.out (kidAt t.kids k) S _ _ W0 _ _ _ HKN.out HKM.out HK1.out HK2.out HIN.out (HB.out.keep (by repeat (first | with_reducible exact Below.refl _ _ | (refine Below.alloc ?_ (by first | omega | (simp; done) | (simp; omega)) _) | (refine Below.setCell ?_ (by first | omega | (simp; done) | (simp; omega)) _)))).buf (by first | omega | (simp; omega)) HTP.out.1 HTP.out.2).mono ?_; rintro e w9 ⟨v9, rfl, hb9⟩)
            go_roundw
            case rel => exact ⟨k + 1, _, by omega, by go_num, Lib.hid (BufG.trans (HB.out.keep (by repeat (first | with_reducible exact Below.refl _ _ | (refine Below.alloc ?_ (by first | omega | (simp; done) | (simp; omega)) _) | (refine Below.setCell ?_ (by first | omega | (simp; done) | (simp; omega)) _)))) hb9), Lib.hid (BoxS.gr (HBX.out.keep (by repeat (first | with_reducible exact Below.refl _ _ | (refine Below.alloc ?_ (by first | omega | (simp; done) | (simp; omega)) _) | (refine Below.setCell ?_ (by first | omega | (simp; done) | (simp; omega)) _)))) hb9.gr), HSTEP⟩
            case measure => simp [intOf]; omega
          · rw [head_f hk0] at hstep hL
            simp only [List.length_singleton] at hL
            have HSTEP := Lib.hid hstep; clear hstep
            have z1 : decide ((0 : Int) < (k : Int)) = true := decide_eq_true (by omega)
            have z2 : decide (0 < k) = true := decide_eq_true hk0
            go_wp2_with (first | (at_builtin; refine wpList_bufG (by rfl) _ _ (by rfl) _ _ [44] W0 w v _ (by rfl) (HB.out.keep (by repeat (first | with_reducible exact Below.refl _ _ | (refine Below.alloc ?_ (by first | omega | (simp; done) | (simp; omega)) _) | (refine Below.setCell ?_ (by first | omega | (simp; done) | (simp; omega)) _)))) _ 1 1 (by rfl) rfl (by first | rfl | (rw [World.size_alloc]; rfl)) (by first | omega | (simp; omega)) ?_; intro v3 w3 hb3 hg3; have HBXn := Lib.hid (BoxS.gr (HBX.out.keep (by repeat (first | with_reducible exact Below.refl _ _ | (refine Below.alloc ?_ (by first | omega | (simp; done) | (simp; omega)) _) | (refine Below.setCell ?_ (by first | omega | (simp; done) | (simp; omega)) _)))) hg3); have HB3 := Lib.hid hb3; have e0 := hg3.hg.cell (a := ⟨wr.heap.size, 0, none⟩) (v := .int .i64 (kidAt t.kids k).kind) (by go_simp) (HB.out.buf.lt (Nat.le_refl _)); have e1 := hg3.hg.cell (a := ⟨wr.heap.size, 1, none⟩) (v := .bool (kidAt t.kids k).flag) (by go_simp) (HB.out.buf.lt (Nat.le_refl _)); have e2 := hg3.hg.cell (a := ⟨wr.heap.size, 2, none⟩) (v := .int .i64 (kidAt t.kids k).num) (by go_simp) (HB.out.buf.lt (Nat.le_refl _)); have e3 := hg3.hg.cell (a := ⟨wr.heap.size, 3, none⟩) (v := .string (kidAt t.kids k).text) (by go_simp) (HB.out.buf.lt (Nat.le_refl _)); have e4 := hg3.hg.cell (a := ⟨wr.heap.size, 4, none⟩) (v := .slice b1 (kidAt t.kids k).keys.length n1) (by go_simp) (HB.out.buf.lt (Nat.le_refl _)); have e5 := hg3.hg.cell (a := ⟨wr.heap.size, 5, none⟩) (v := .slice b2 (kidAt t.kids k).kids.length n2) (by go_simp) (HB.out.buf.lt (Nat.le_refl _)); clear hg3 hb3; clear p0 p4 p5; obtain ⟨p0, p1, p2, p3, p4, p5⟩ := HBXn.out.1.cells; clear p1 p2 p3) | (go_at_call 68; refine (IH.out (kidAt t.kids k) S _ _ W0 _ _ _ HKN.out HKM.out HK1.out HK2.out HIN.out HB3.out.buf (by first | omega | (simp; omega)) HTP.out.1 HTP.out.2).mono ?_; rintro e w9 ⟨v9, rfl, hb9⟩))
            go_roundw
            case rel => exact ⟨k + 1, _, by omega, by go_num, Lib.hid (HB3.out.trans hb9), Lib.hid (HBXn.out.gr hb9.gr), HSTEP⟩
            case measure => simp [intOf]; omega
        · obtain rfl : k = t.kids.length := by omega
          have hLE := sayAt_len HS.out
          simp only [List.length_append, List.length_singleton] at hLE
          have HE := Lib.hid (sayAt_end HS.out (Nat.le_refl _))
          go_wp2_with (at_builtin; refine wpList_bufG (by rfl) _ _ (by rfl) _ _ [93] W0 w v _ (by rfl) HB.out _ 1 1 (by rfl) rfl (by first | rfl | (rw [World.size_alloc]; rfl)) (by first | omega | (simp; omega)) ?_; intro v4 w4 hb4 hg4)
          go_ret
          exact ⟨_, rfl, by rw [← HE.out]; exact hb4⟩
set_option maxRecDepth 100000 in
set_option maxHeartbeats 4000000 in
theorem iSay_6 (N : Nat) (hIH : SayI N) (t : Tr) (hk : t.kind = 6) (S : Nat → Prop) (vk vs : Value) (W0 w : World) (v : Value) (l : List UInt8) (h : t.nodes ≤ N + 1) (hnn : t.nodes ≤ 2000000) (hsh : shapeB t = true) (hnu : t.nums) (ht : TreeIn W0 S t vk vs) (hb : Buf W0 w v l) (hlen : l.length + (sayB t).length ≤ 100000000) (hTab : Tabs W0) (hPow : Pows W0) :
    Calls Tryd.prog 68 #[v, .agg #[.int .i64 t.kind, .bool t.flag, .int .i64 t.num, .string t.text, vk, vs]] w fun e w' => ∃ v', e = .returned v' ∧ BufG W0 w v w' v' (l ++ sayB t) := by
    have IH := Lib.hid hIH; clear hIH
    obtain ⟨hk0, hs0⟩ := treeIn_iff.1 ht
    obtain ⟨a1, m1, rfl⟩ := hk0.len
    obtain ⟨a2, m2, rfl⟩ := hs0.len
    obtain ⟨hd, hky, hkd⟩ := shape_parts hsh
    obtain ⟨k1, k2, k3, k4, k5, k6⟩ := head_kind hd
    have hts := text_size k3
    have hks := key_size hky
    have hnb := nums_bd hnu
    have HKS := Lib.hid (And.intro hk0 hs0)
    have HSH := Lib.hid hkd
    have HNU := Lib.hid ((nums_iff t).1 hnu).2
    have HN := Lib.hid (show nodesL t.kids ≤ N by have := nodes_eq t; omega)
    have hnl := len_nodes t.kids
    have HBX := Lib.hid (show BoxS (w.alloc (.cells #[.int .i64 t.kind, .bool t.flag, .int .i64 t.num, .string t.text, .slice a1 t.keys.length m1, .slice a2 t.kids.length m2] 46)) w.heap.size t (.slice a1 t.keys.length m1) (.slice a2 t.kids.length m2) v from ⟨Spill.new w t (.slice a1 t.keys.length m1) (.slice a2 t.kids.length m2) 46, hb.lt (Nat.le_refl _)⟩)
    have HB := Lib.hid ((BufG.start hb).alloc (.cells #[.int .i64 t.kind, .bool t.flag, .int .i64 t.num, .string t.text, .slice a1 t.keys.length m1, .slice a2 t.kids.length m2] 46))
    have hkl2 : t.kids.length ≤ 2000000 := by have := nodes_eq t; omega
    have HNN := Lib.hid (show nodesL t.kids ≤ 2000000 by have := nodes_eq t; omega)
    have HKEYS := Lib.hid hks
    have HTP := Lib.hid (And.intro hTab hPow); clear hTab hPow
    have K4 := Lib.hid k4
    clear hnn hnl hsh hnu ht hb hky hkd hk0 hs0 h hd k3 hks k4 k5 k6 k1 k2
    obtain ⟨p0, p1, p2, p3, p4, p5⟩ := HBX.out.1.cells
    · have q1 : (t.kind == 1) = false := kind_eqs t.kind 6 hk 1
      have q2 : (t.kind == 2) = false := kind_eqs t.kind 6 hk 2
      have q3 : (t.kind == 3) = false := kind_eqs t.kind 6 hk 3
      have q4 : (t.kind == 4) = false := kind_eqs t.kind 6 hk 4
      have q5 : (t.kind == 5) = false := kind_eqs t.kind 6 hk 5
      have q6 : (t.kind == 6) = true := kind_eqs t.kind 6 hk 6
      have HST := Lib.hid (say_start6 hk l)
      have HKEQ := Lib.hid (K4.out hk)
      clear hk
      go_enter Tryd.func68, Tryd.ntmps68
      go_wp2_with (at_builtin; refine wpList_bufG (by rfl) _ _ (by rfl) _ _ [123] W0 w v _ (by rfl) HB.out _ 1 1 (by rfl) rfl (by first | rfl | (rw [World.size_alloc]; rfl)) (by first | omega | (simp; omega)) ?_; intro v2 w2 hb2 hg2; have HBX3 := Lib.hid ((HBX.out.keep (Below.refl _ _)).gr hg2); have HB2 := Lib.hid hb2; clear hb2 hg2 HBX p0 p1 p2 p3 p4 p5; obtain ⟨p0, p1, p2, p3, p4, p5⟩ := HBX3.out.1.cells)
      clear HB p0 p1 p2 p3 p4 p5
      go_loopw [0, 45] (fun u i wr => ∃ (k : Nat) (acc : List UInt8), k ≤ t.kids.length ∧ i = .int .i64 k ∧ Hid (BufG W0 w v wr u acc) ∧ Hid (BoxS wr w.heap.size t (.slice a1 t.keys.length m1) (.slice a2 t.kids.length m2) u) ∧ Hid (SayAt true t.keys t.kids k acc [125] (l ++ sayB t))) (fun _ i _ => t.kids.length - (intOf i).toNat)
      case atStart => exact ⟨0, l ++ [123], by omega, rfl, HB2, HBX3, HST⟩
      case round =>
        obtain ⟨k, acc, hk, rfl, HB, HBX, HS⟩ := hrel
        obtain ⟨p0, p1, p2, p3, p4, p5⟩ := HBX.out.1.cells
        clear p1 p2 p3
        by_cases hlt : k < t.kids.length
        · have hLE := sayAt_len HS.out
          have hstep := sayAt_step HS.out hlt
          have hL := sayAt_len hstep
          simp only [List.length_append, List.length_cons, List.length_nil] at hLE hL
          obtain ⟨b, o, vk', vs', rfl, ⟨c0, c1, c2, c3, c4, c5⟩, hin⟩ := HKS.out.2.at hlt
          obtain ⟨hk', hs'⟩ := treeIn_iff.1 hin
          obtain ⟨b1, n1, rfl⟩ := hk'.len
          obtain ⟨b2, n2, rfl⟩ := hs'.len
          clear hk' hs'
          have c00 := c0; have c10 := c1; have c20 := c2; have c30 := c3; have c40 := c4; have c50 := c5
          have c0 := bkeep HB.out.buf.bel c0; have c1 := bkeep HB.out.buf.bel c1; have c2 := bkeep HB.out.buf.bel c2; have c3 := bkeep HB.out.buf.bel c3; have c4 := bkeep HB.out.buf.bel c4; have c5 := bkeep HB.out.buf.bel c5
          have h1 := nodes_kid t.kids k hlt
          have HIN := Lib.hid hin; clear hin
          have HKN := Lib.hid (show (kidAt t.kids k).nodes ≤ N by have := HN.out; omega)
          have HKM := Lib.hid (show (kidAt t.kids k).nodes ≤ 2000000 by have := HNN.out; omega)
          have HK1 := Lib.hid (shapeL_kid HSH.out hlt)
          have HK2 := Lib.hid (nums_kid t.kids k hlt HNU.out)
          clear h1
          obtain ⟨bk, ok, rfl, hcell⟩ := HKS.out.1.at (show k < t.keys.length by have := HKEQ.out; omega)
          have hkl4 : k < t.keys.length := by have := HKEQ.out; omega
          have hkl3 : (k : Int) < (t.keys.length : Int) := by omega
          have d0 := hcell k hkl4
          have d00 := bkeep HB.out.buf.bel d0
          clear hcell
          have hlb := HBX.out.1.lt
          have hlc := lt_of_cell c0
          have hld := lt_of_cell d00
          have hksz := HKEYS.out k
          have HQ := Lib.hid (fun w0 hT => iQuoted (strAt t.keys k) w0 (by omega) hT)
          by_cases hk0 : 0 < k
          rotate_left
          · have z1 : decide ((0 : Int) < (k : Int)) = false := decide_eq_false (by omega)
            have z2 : decide (0 < k) = false := decide_eq_false hk0
            rw [head_t0 hk0] at hstep hL
            simp only [List.length_append, List.length_singleton] at hL
            have HSTEP := Lib.hid hstep; clear hstep
            have hqs : (quotedB (strAt t.keys k)).data.toList.length = (quotedB (strAt t.keys k)).size := by simp
            generalize quotedB (strAt t.keys k) = Q at HQ hqs hL HSTEP
            have HQE := Lib.hid (show (Q ++ ⟨#[58]⟩).data.toList = Q.data.toList ++ [58] by simp)
            have hqz : (Q ++ ⟨#[58]⟩).size = Q.size + 1 := by rw [ByteArray.size_append]; rfl
            go_wp2_with (first | (go_at_call 106; refine (HQ.out _ (tabs_keep HTP.out.1 (HB.out.keep (by repeat (first | with_reducible exact Below.refl _ _ | (refine Below.alloc ?_ (by first | omega | (simp; done) | (simp; omega)) _) | (refine Below.setCell ?_ (by first | omega | (simp; done) | (simp; omega)) _)))).buf.bel)).mono ?_; rintro e w5 ⟨rfl, hb5⟩; have HBXb := Lib.hid (BoxS.keep (HBX.out.keep (by repeat (first | with_reducible exact Below.refl _ _ | (refine Below.alloc ?_ (by first | omega | (simp; done) | (simp; omega)) _) | (refine Below.setCell ?_ (by first | omega | (simp; done) | (simp; omega)) _)))) hb5); have e0 := bkeep hb5 (show World.cell? _ ⟨wr.heap.size, 0, none⟩ = some (.int .i64 (kidAt t.kids k).kind) by go_simp); have e1 := bkeep hb5 (show World.cell? _ ⟨wr.heap.size, 1, none⟩ = some (.bool (kidAt t.kids k).flag) by go_simp); have e2 := bkeep hb5 (show World.cell? _ ⟨wr.heap.size, 2, none⟩ = some (.int .i64 (kidAt t.kids k).num) by go_simp); have e3 := bkeep hb5 (show World.cell? _ ⟨wr.heap.size, 3, none⟩ = some (.string (kidAt t.kids k).text) by go_simp); have e4 := bkeep hb5 (show World.cell? _ ⟨wr.heap.size, 4, none⟩ = some (.slice b1 (kidAt t.kids k).keys.length n1) by go_simp); have e5 := bkeep hb5 (show World.cell? _ ⟨wr.heap.size, 5, none⟩ = some (.slice b2 (kidAt t.kids k).kids.length n2) by go_simp); have HA5 := Lib.hid (BufG.keep (HB.out.keep (by repeat (first | with_reducible exact Below.refl _ _ | (refine Below.alloc ?_ (by first | omega | (simp; done) | (simp; omega)) _) | (refine Below.setCell ?_ (by first | omega | (simp; done) | (simp; omega)) _)))) hb5); clear hb5) | (at_builtin; refine wpList_bufGS (by rfl) _ _ (by rfl) _ _ W0 w v _ (by rfl) HA5.out _ (by rfl) (by first | omega | (rw [hqz]; simp; omega) | (simp; omega)) ?_; intro v7 w7 hb7 hg7; have HBXn := Lib.hid (HBXb.out.gr hg7); have e0 := hg7.hg.cell e0 (HB.out.buf.lt (Nat.le_refl _)); have e1 := hg7.hg.cell e1 (HB.out.buf.lt (Nat.le_refl _)); have e2 := hg7.hg.cell e2 (HB.out.buf.lt (Nat.le_refl _)); have e3 := hg7.hg.cell e3 (HB.out.buf.lt (Nat.le_refl _)); have e4 := hg7.hg.cell e4 (HB.out.buf.lt (Nat.le_refl _)); have e5 := hg7.hg.cell e5 (HB.out.buf.lt (Nat.le_refl _)); rw [HQE.out] at hb7; have HB7 := Lib.hid hb7; clear hg7 hb7; clear p0 p4 p5; obtain ⟨p0, p1, p2, p3, p4, p5⟩ := HBXn.out.1.cells; clear p1 p2 p3) | (go_at_call 68; refine (IH.out (kidAt t.kids k) S _ _ W0 _ _ _ HKN.out HKM.out HK1.out HK2.out HIN.out HB7.out.buf (by first | omega | (simp; omega)) HTP.out.1 HTP.out.2).mono ?_; rintro e w9 ⟨v9, rfl, hb9⟩))
            go_roundw
            case rel => exact ⟨k + 1, _, by omega, by go_num, Lib.hid (HB7.out.trans hb9), Lib.hid (HBXn.out.gr hb9.gr), Lib.hid (by have := HSTEP.out; simpa using this)⟩
            case measure => simp [intOf]; omega
          · rw [head_t hk0] at hstep hL
            have z1 : decide ((0 : Int) < (k : Int)) = true := decide_eq_true (by omega)
            have z2 : decide (0 < k) = true := decide_eq_true hk0
            simp only [List.length_append, List.length_singleton] at hL
            have HSTEP := Lib.hid hstep; clear hstep
            have hqs : (quotedB (strAt t.keys k)).data.toList.length = (quotedB (strAt t.keys k)).size := by simp
            generalize quotedB (strAt t.keys k) = Q at HQ hqs hL HSTEP
            have HQE := Lib.hid (show (Q ++ ⟨#[58]⟩).data.toList = Q.data.toList ++ [58] by simp)
            have hqz : (Q ++ ⟨#[58]⟩).size = Q.size + 1 := by rw [ByteArray.size_append]; rfl
            go_wp2_with (first | (at_builtin; refine wpList_bufG (by rfl) _ _ (by rfl) _ _ [44] W0 w v _ (by rfl) (HB.out.keep (by repeat (first | with_reducible exact Below.refl _ _ | (refine Below.alloc ?_ (by first | omega | (simp; done) | (simp; omega)) _) | (refine Below.setCell ?_ (by first | omega | (simp; done) | (simp; omega)) _)))) _ 1 1 (by rfl) rfl (by first | rfl | (rw [World.size_alloc]; rfl)) (by first | omega | (simp; omega)) ?_; intro v3 w3 hb3 hg3; have HBXa := Lib.hid (BoxS.gr (HBX.out.keep (by repeat (first | with_reducible exact Below.refl _ _ | (refine Below.alloc ?_ (by first | omega | (simp; done) | (simp; omega)) _) | (refine Below.setCell ?_ (by first | omega | (simp; done) | (simp; omega)) _)))) hg3); have e0 := hg3.hg.cell (a := ⟨wr.heap.size, 0, none⟩) (v := .int .i64 (kidAt t.kids k).kind) (by go_simp) (HB.out.buf.lt (Nat.le_refl _)); have e1 := hg3.hg.cell (a := ⟨wr.heap.size, 1, none⟩) (v := .bool (kidAt t.kids k).flag) (by go_simp) (HB.out.buf.lt (Nat.le_refl _)); have e2 := hg3.hg.cell (a := ⟨wr.heap.size, 2, none⟩) (v := .int .i64 (kidAt t.kids k).num) (by go_simp) (HB.out.buf.lt (Nat.le_refl _)); have e3 := hg3.hg.cell (a := ⟨wr.heap.size, 3, none⟩) (v := .string (kidAt t.kids k).text) (by go_simp) (HB.out.buf.lt (Nat.le_refl _)); have e4 := hg3.hg.cell (a := ⟨wr.heap.size, 4, none⟩) (v := .slice b1 (kidAt t.kids k).keys.length n1) (by go_simp) (HB.out.buf.lt (Nat.le_refl _)); have e5 := hg3.hg.cell (a := ⟨wr.heap.size, 5, none⟩) (v := .slice b2 (kidAt t.kids k).kids.length n2) (by go_simp) (HB.out.buf.lt (Nat.le_refl _)); have HNE3 := Lib.hid (Gr.ne hg3 (k := wr.heap.size) (by first | omega | (simp; done) | (simp; omega)) (HB.out.buf.lt (Nat.le_refl _))); have HA := Lib.hid hb3; have d1 := bkeep HA.out.buf.bel d0; clear hg3 hb3; clear p0 p4 p5; obtain ⟨p0, p1, p2, p3, p4, p5⟩ := HBXa.out.1.cells; clear p1 p2 p3) | (go_at_call 106; refine (HQ.out _ (tabs_keep HTP.out.1 HA.out.buf.bel)).mono ?_; rintro e w5 ⟨rfl, hb5⟩; have HBXb := Lib.hid (BoxS.keep HBXa.out hb5); have e0 := bkeep hb5 e0; have e1 := bkeep hb5 e1; have e2 := bkeep hb5 e2; have e3 := bkeep hb5 e3; have e4 := bkeep hb5 e4; have e5 := bkeep hb5 e5; have HA5 := Lib.hid (BufG.keep HA.out hb5); clear hb5) | (at_builtin; refine wpList_bufGS (by rfl) _ _ (by rfl) _ _ W0 w v _ (by rfl) HA5.out _ (by rfl) (by first | omega | (rw [hqz]; simp; omega) | (simp; omega)) ?_; intro v7 w7 hb7 hg7; have HBXn := Lib.hid (HBXb.out.gr hg7); have e0 := hg7.hg.cell e0 HNE3.out; have e1 := hg7.hg.cell e1 HNE3.out; have e2 := hg7.hg.cell e2 HNE3.out; have e3 := hg7.hg.cell e3 HNE3.out; have e4 := hg7.hg.cell e4 HNE3.out; have e5 := hg7.hg.cell e5 HNE3.out; rw [HQE.out] at hb7; have HB7 := Lib.hid hb7; clear hg7 hb7; clear p0 p4 p5; obtain ⟨p0, p1, p2, p3, p4, p5⟩ := HBXn.out.1.cells; clear p1 p2 p3) | (go_at_call 68; refine (IH.out (kidAt t.kids k) S _ _ W0 _ _ _ HKN.out HKM.out HK1.out HK2.out HIN.out HB7.out.buf (by first | omega | (simp; omega)) HTP.out.1 HTP.out.2).mono ?_; rintro e w9 ⟨v9, rfl, hb9⟩))
            go_roundw
            case rel => exact ⟨k + 1, _, by omega, by go_num, Lib.hid (HB7.out.trans hb9), Lib.hid (HBXn.out.gr hb9.gr), Lib.hid (by have := HSTEP.out; simpa using this)⟩
            case measure => simp [intOf]; omega
        · obtain rfl : k = t.kids.length := by omega
          have hLE := sayAt_len HS.out
          simp only [List.length_append, List.length_singleton] at hLE
          have HE := Lib.hid (sayAt_end HS.out (Nat.le_refl _))
          go_wp2_with (at_builtin; refine wpList_bufG (by rfl) _ _ (by rfl) _ _ [125] W0 w v _ (by rfl) HB.out _ 1 1 (by rfl) rfl (by first | rfl | (rw [World.size_alloc]; rfl)) (by first | omega | (simp; omega)) ?_; intro v4 w4 hb4 hg4)
          go_ret
          exact ⟨_, rfl, by rw [← HE.out]; exact hb4⟩
theorem iSay : ∀ N, SayI N
  | 0 => fun t S vk vs W0 w v l h _ _ _ _ _ _ _ _ => by have := nodes_pos t; omega
  | N + 1 => fun t S vk vs W0 w v l h hnn hsh hnu ht hb hlen hT hP => by
    obtain ⟨k1, k2, -⟩ := head_kind (shape_parts hsh).1
    have hkk : t.kind = 1 ∨ t.kind = 2 ∨ t.kind = 3 ∨ t.kind = 4 ∨ t.kind = 5 ∨ t.kind = 6 := by omega
    rcases hkk with hk | hk | hk | hk | hk | hk
    · exact iSay_1 t hk S vk vs W0 w v l hnn hsh hnu ht hb hlen hT hP
    · exact iSay_2 t hk S vk vs W0 w v l hnn hsh hnu ht hb hlen hT hP
    · exact iSay_3 t hk S vk vs W0 w v l hnn hsh hnu ht hb hlen hT hP
    · exact iSay_4 t hk S vk vs W0 w v l hnn hsh hnu ht hb hlen hT hP
    · exact iSay_5 N (iSay N) t hk S vk vs W0 w v l h hnn hsh hnu ht hb hlen hT hP
    · exact iSay_6 N (iSay N) t hk S vk vs W0 w v l h hnn hsh hnu ht hb hlen hT hP

end Go.Proofs.YtclffhejoneiaaaDoorR
