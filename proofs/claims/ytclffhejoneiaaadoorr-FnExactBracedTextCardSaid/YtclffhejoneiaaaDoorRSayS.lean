/- spec.l10Say: the contract (printed by wip/gen/saygen.py). -/
import Derived.Test.YtclffhejoneiaaaDoorRSayP
import Derived.Test.YtclffhejoneiaaaDoorRBufG
namespace Go.Proofs.YtclffhejoneiaaaDoorR
open Go.RowKit

theorem Gr.ne {a b : World} {u v : Value} (h : Gr a b u v) {k : Nat} (hk : k < a.heap.size) (hn : some k ≠ u.ownBlock) : some k ≠ v.ownBlock := by
  rcases h.hs with e | ⟨g, e, hge⟩
  · rw [e]; exact hn
  · rw [e]; intro he; cases he; omega
/-- A box that the bytes do not lie in. -/
def BoxS (w : World) (b : Nat) (t : Tr) (vk vs : Value) (u : Value) : Prop := Spill w b t vk vs ∧ some b ≠ u.ownBlock
theorem BoxS.gr {a b : World} {k : Nat} {t : Tr} {vk vs u v : Value} (h : BoxS a k t vk vs u) (g : Gr a b u v) : BoxS b k t vk vs v := ⟨h.1.of_block (g.block h.1.lt h.2), g.ne h.1.lt h.2⟩
theorem BoxS.keep {a b : World} {k : Nat} {t : Tr} {vk vs u : Value} (h : BoxS a k t vk vs u) (g : Below a.heap.size a b) : BoxS b k t vk vs u := ⟨h.1.keep g, h.2⟩
theorem say_start5 {t : Tr} (h : t.kind = 5) (l : List UInt8) : SayAt false t.keys t.kids 0 (l ++ [91]) [93] (l ++ sayB t) := by
  have := sayAt_start false t.keys t.kids (l ++ [91]) [93]
  rw [say_list h]; simpa using this
theorem say_start6 {t : Tr} (h : t.kind = 6) (l : List UInt8) : SayAt true t.keys t.kids 0 (l ++ [123]) [125] (l ++ sayB t) := by
  have := sayAt_start true t.keys t.kids (l ++ [123]) [125]
  rw [say_map h]; simpa using this
theorem head_f0 {keys : List ByteArray} {k : Nat} (h : ¬ 0 < k) : headK false keys k = [] := by simp [headK, h]
theorem head_f {keys : List ByteArray} {k : Nat} (h : 0 < k) : headK false keys k = [44] := by simp [headK, h]
theorem head_t0 {keys : List ByteArray} {k : Nat} (h : ¬ 0 < k) : headK true keys k = (quotedB (strAt keys k)).data.toList ++ [58] := by simp [headK, qL, h]
theorem head_t {keys : List ByteArray} {k : Nat} (h : 0 < k) : headK true keys k = [44] ++ ((quotedB (strAt keys k)).data.toList ++ [58]) := by simp [headK, qL, h]
theorem kind_eqs (k : Int) (c : Int) (h : k = c) (d : Int) : (k == d) = decide (c = d) := by subst h; exact Bool.eq_iff_iff.2 (by simp)

def SayS (N : Nat) : Prop := ∀ (t : Tr) (S : Nat → Prop) (vk vs : Value) (W0 w : World) (v : Value) (l : List UInt8), t.nodes ≤ N → t.nodes ≤ 2000000 → shapeB t = true → t.nums → TreeIn W0 S t vk vs → Buf W0 w v l → l.length + (sayB t).length ≤ 100000000 →
    Calls Tryd.prog 86 #[.agg #[.int .i64 t.kind, .bool t.flag, .int .i64 t.num, .string t.text, vk, vs], v] w fun e w' => ∃ v', e = .returned v' ∧ BufG W0 w v w' v' (l ++ sayB t)

set_option maxRecDepth 100000 in
set_option maxHeartbeats 4000000 in
theorem sSay_1 (N : Nat) (hIH : SayS N) (t : Tr) (hk : t.kind = 1) (S : Nat → Prop) (vk vs : Value) (W0 w : World) (v : Value) (l : List UInt8) (h : t.nodes ≤ N + 1) (hnn : t.nodes ≤ 2000000) (hsh : shapeB t = true) (hnu : t.nums) (ht : TreeIn W0 S t vk vs) (hb : Buf W0 w v l) (hlen : l.length + (sayB t).length ≤ 100000000) :
    Calls Tryd.prog 86 #[.agg #[.int .i64 t.kind, .bool t.flag, .int .i64 t.num, .string t.text, vk, vs], v] w fun e w' => ∃ v', e = .returned v' ∧ BufG W0 w v w' v' (l ++ sayB t) := by
    have IH := Lib.hid hIH; clear hIH
    obtain ⟨hk0, hs0⟩ := treeIn_iff.1 ht
    obtain ⟨a1, m1, rfl⟩ := hk0.len
    obtain ⟨a2, m2, rfl⟩ := hs0.len
    obtain ⟨hd, hky, hkd⟩ := shape_parts hsh
    obtain ⟨k1, k2, k3, k4, k5, k6⟩ := head_kind hd
    have hts := text_size k3
    have hks := key_size hky
    have hnb := nums_bd hnu
    have HKS := Lib.hid (And.intro hk0 hs0)
    have HSH := Lib.hid hkd
    have HNU := Lib.hid ((nums_iff t).1 hnu).2
    have HN := Lib.hid (show nodesL t.kids ≤ N by have := nodes_eq t; omega)
    have hnl := len_nodes t.kids
    have HBX := Lib.hid (show BoxS (w.alloc (.cells #[.int .i64 t.kind, .bool t.flag, .int .i64 t.num, .string t.text, .slice a1 t.keys.length m1, .slice a2 t.kids.length m2] 46)) w.heap.size t (.slice a1 t.keys.length m1) (.slice a2 t.kids.length m2) v from ⟨Spill.new w t (.slice a1 t.keys.length m1) (.slice a2 t.kids.length m2) 46, hb.lt (Nat.le_refl _)⟩)
    have HB := Lib.hid ((BufG.start hb).alloc (.cells #[.int .i64 t.kind, .bool t.flag, .int .i64 t.num, .string t.text, .slice a1 t.keys.length m1, .slice a2 t.kids.length m2] 46))
    have hkl2 : t.kids.length ≤ 2000000 := by have := nodes_eq t; omega
    have HNN := Lib.hid (show nodesL t.kids ≤ 2000000 by have := nodes_eq t; omega)
    have HKEYS := Lib.hid hks
    have K4 := Lib.hid k4
    clear hnn hnl hsh hnu ht hb hky hkd hk0 hs0 h hd k3 hks k4 k5 k6 k1 k2
    obtain ⟨p0, p1, p2, p3, p4, p5⟩ := HBX.out.1.cells
    · have q1 : (t.kind == 1) = true := kind_eqs t.kind 1 hk 1
      have q2 : (t.kind == 2) = false := kind_eqs t.kind 1 hk 2
      have q3 : (t.kind == 3) = false := kind_eqs t.kind 1 hk 3
      have q4 : (t.kind == 4) = false := kind_eqs t.kind 1 hk 4
      have q5 : (t.kind == 5) = false := kind_eqs t.kind 1 hk 5
      have q6 : (t.kind == 6) = false := kind_eqs t.kind 1 hk 6
      have HL := Lib.hid (say_null hk)
      clear hk
      go_enter Tryd.func86, Tryd.ntmps86
      go_wp2_with (at_builtin; refine wpList_bufGS (by rfl) _ _ (by rfl) _ _ W0 w v _ (by rfl) HB.out _ (by rfl) (by show l.length + 4 ≤ _; omega) ?_; intro v2 w2 hb2 hg2)
      go_ret
      exact ⟨_, rfl, by rw [HL.out]; exact hb2⟩
set_option maxRecDepth 100000 in
set_option maxHeartbeats 4000000 in
theorem sSay_2 (N : Nat) (hIH : SayS N) (t : Tr) (hk : t.kind = 2) (S : Nat → Prop) (vk vs : Value) (W0 w : World) (v : Value) (l : List UInt8) (h : t.nodes ≤ N + 1) (hnn : t.nodes ≤ 2000000) (hsh : shapeB t = true) (hnu : t.nums) (ht : TreeIn W0 S t vk vs) (hb : Buf W0 w v l) (hlen : l.length + (sayB t).length ≤ 100000000) :
    Calls Tryd.prog 86 #[.agg #[.int .i64 t.kind, .bool t.flag, .int .i64 t.num, .string t.text, vk, vs], v] w fun e w' => ∃ v', e = .returned v' ∧ BufG W0 w v w' v' (l ++ sayB t) := by
    have IH := Lib.hid hIH; clear hIH
    obtain ⟨hk0, hs0⟩ := treeIn_iff.1 ht
    obtain ⟨a1, m1, rfl⟩ := hk0.len
    obtain ⟨a2, m2, rfl⟩ := hs0.len
    obtain ⟨hd, hky, hkd⟩ := shape_parts hsh
    obtain ⟨k1, k2, k3, k4, k5, k6⟩ := head_kind hd
    have hts := text_size k3
    have hks := key_size hky
    have hnb := nums_bd hnu
    have HKS := Lib.hid (And.intro hk0 hs0)
    have HSH := Lib.hid hkd
    have HNU := Lib.hid ((nums_iff t).1 hnu).2
    have HN := Lib.hid (show nodesL t.kids ≤ N by have := nodes_eq t; omega)
    have hnl := len_nodes t.kids
    have HBX := Lib.hid (show BoxS (w.alloc (.cells #[.int .i64 t.kind, .bool t.flag, .int .i64 t.num, .string t.text, .slice a1 t.keys.length m1, .slice a2 t.kids.length m2] 46)) w.heap.size t (.slice a1 t.keys.length m1) (.slice a2 t.kids.length m2) v from ⟨Spill.new w t (.slice a1 t.keys.length m1) (.slice a2 t.kids.length m2) 46, hb.lt (Nat.le_refl _)⟩)
    have HB := Lib.hid ((BufG.start hb).alloc (.cells #[.int .i64 t.kind, .bool t.flag, .int .i64 t.num, .string t.text, .slice a1 t.keys.length m1, .slice a2 t.kids.length m2] 46))
    have hkl2 : t.kids.length ≤ 2000000 := by have := nodes_eq t; omega
    have HNN := Lib.hid (show nodesL t.kids ≤ 2000000 by have := nodes_eq t; omega)
    have HKEYS := Lib.hid hks
    have K4 := Lib.hid k4
    clear hnn hnl hsh hnu ht hb hky hkd hk0 hs0 h hd k3 hks k4 k5 k6 k1 k2
    obtain ⟨p0, p1, p2, p3, p4, p5⟩ := HBX.out.1.cells
    · have q1 : (t.kind == 1) = false := kind_eqs t.kind 2 hk 1
      have q2 : (t.kind == 2) = true := kind_eqs t.kind 2 hk 2
      have q3 : (t.kind == 3) = false := kind_eqs t.kind 2 hk 3
      have q4 : (t.kind == 4) = false := kind_eqs t.kind 2 hk 4
      have q5 : (t.kind == 5) = false := kind_eqs t.kind 2 hk 5
      have q6 : (t.kind == 6) = false := kind_eqs t.kind 2 hk 6
      rcases Bool.eq_false_or_eq_true t.flag with hf | hf
      · have HL := Lib.hid (say_true hk hf)
        clear hk
        simp only [hf] at HB p0 p1 p2 p3 p4 p5
        go_enter Tryd.func86, Tryd.ntmps86
        go_wp2_with (at_builtin; refine wpList_bufGS (by rfl) _ _ (by rfl) _ _ W0 w v _ (by rfl) HB.out _ (by rfl) (by show l.length + 4 ≤ _; omega) ?_; intro v2 w2 hb2 hg2)
        go_ret
        exact ⟨_, rfl, by rw [HL.out]; exact hb2⟩
      · have HL := Lib.hid (say_false hk hf)
        clear hk
        simp only [hf] at HB p0 p1 p2 p3 p4 p5
        go_enter Tryd.func86, Tryd.ntmps86
        go_wp2_with (at_builtin; refine wpList_bufGS (by rfl) _ _ (by rfl) _ _ W0 w v _ (by rfl) HB.out _ (by rfl) (by show l.length + 5 ≤ _; omega) ?_; intro v2 w2 hb2 hg2)
        go_ret
        exact ⟨_, rfl, by rw [HL.out]; exact hb2⟩
set_option maxRecDepth 100000 in
set_option maxHeartbeats 4000000 in
theorem sSay_3 (N : Nat) (hIH : SayS N) (t : Tr) (hk : t.kind = 3) (S : Nat → Prop) (vk vs : Value) (W0 w : World) (v : Value) (l : List UInt8) (h : t.nodes ≤ N + 1) (hnn : t.nodes ≤ 2000000) (hsh : shapeB t = true) (hnu : t.nums) (ht : TreeIn W0 S t vk vs) (hb : Buf W0 w v l) (hlen : l.length + (sayB t).length ≤ 100000000) :
    Calls Tryd.prog 86 #[.agg #[.int .i64 t.kind, .bool t.flag, .int .i64 t.num, .string t.text, vk, vs], v] w fun e w' => ∃ v', e = .returned v' ∧ BufG W0 w v w' v' (l ++ sayB t) := by
    have IH := Lib.hid hIH; clear hIH
    obtain ⟨hk0, hs0⟩ := treeIn_iff.1 ht
    obtain ⟨a1, m1, rfl⟩ := hk0.len
    obtain ⟨a2, m2, rfl⟩ := hs0.len
    obtain ⟨hd, hky, hkd⟩ := shape_parts hsh
    obtain ⟨k1, k2, k3, k4, k5, k6⟩ := head_kind hd
    have hts := text_size k3
    have hks := key_size hky
    have hnb := nums_bd hnu
    have HKS := Lib.hid (And.intro hk0 hs0)
    have HSH := Lib.hid hkd
    have HNU := Lib.hid ((nums_iff t).1 hnu).2
    have HN := Lib.hid (show nodesL t.kids ≤ N by have := nodes_eq t; omega)
    have hnl := len_nodes t.kids
    have HBX := Lib.hid (show BoxS (w.alloc (.cells #[.int .i64 t.kind, .bool t.flag, .int .i64 t.num, .string t.text, .slice a1 t.keys.length m1, .slice a2 t.kids.length m2] 46)) w.heap.size t (.slice a1 t.keys.length m1) (.slice a2 t.kids.length m2) v from ⟨Spill.new w t (.slice a1 t.keys.length m1) (.slice a2 t.kids.length m2) 46, hb.lt (Nat.le_refl _)⟩)
    have HB := Lib.hid ((BufG.start hb).alloc (.cells #[.int .i64 t.kind, .bool t.flag, .int .i64 t.num, .string t.text, .slice a1 t.keys.length m1, .slice a2 t.kids.length m2] 46))
    have hkl2 : t.kids.length ≤ 2000000 := by have := nodes_eq t; omega
    have HNN := Lib.hid (show nodesL t.kids ≤ 2000000 by have := nodes_eq t; omega)
    have HKEYS := Lib.hid hks
    have K4 := Lib.hid k4
    clear hnn hnl hsh hnu ht hb hky hkd hk0 hs0 h hd k3 hks k4 k5 k6 k1 k2
    obtain ⟨p0, p1, p2, p3, p4, p5⟩ := HBX.out.1.cells
    · have q1 : (t.kind == 1) = false := kind_eqs t.kind 3 hk 1
      have q2 : (t.kind == 2) = false := kind_eqs t.kind 3 hk 2
      have q3 : (t.kind == 3) = true := kind_eqs t.kind 3 hk 3
      have q4 : (t.kind == 4) = false := kind_eqs t.kind 3 hk 4
      have q5 : (t.kind == 5) = false := kind_eqs t.kind 3 hk 5
      have q6 : (t.kind == 6) = false := kind_eqs t.kind 3 hk 6
      have HL := Lib.hid (say_int hk)
      clear hk
      obtain ⟨D, hD⟩ : ∃ D : ByteArray, D = ⟨(Lib.itoa t.num).toArray⟩ := ⟨_, rfl⟩
      have hDs : l.length + D.size ≤ 100000000 := by
        rw [hD]; show l.length + (Lib.itoa t.num).toArray.size ≤ _
        rw [List.size_toArray, ← HL.out]; exact hlen
      have HDL := Lib.hid (show D.data.toList = sayB t by rw [hD, HL.out])
      have HD := Lib.hid (fun w0 => sDecimal t.num w0 hnb.1 hnb.2)
      rw [← hD] at HD
      clear hD
      go_enter Tryd.func86, Tryd.ntmps86
      go_wp2_with (first | (go_at_call 63; refine (HD.out _).mono ?_; rintro e w1 ⟨rfl, hb1⟩; have HB1 := Lib.hid (HB.out.keep hb1)) | (at_builtin; refine wpList_bufGS (by rfl) _ _ (by rfl) _ _ W0 w v _ (by rfl) HB1.out _ (by rfl) (by omega) ?_; intro v2 w2 hb2 hg2))
      go_ret
      exact ⟨_, rfl, by rw [← HDL.out]; exact hb2⟩
set_option maxRecDepth 100000 in
set_option maxHeartbeats 4000000 in
theorem sSay_4 (N : Nat) (hIH : SayS N) (t : Tr) (hk : t.kind = 4) (S : Nat → Prop) (vk vs : Value) (W0 w : World) (v : Value) (l : List UInt8) (h : t.nodes ≤ N + 1) (hnn : t.nodes ≤ 2000000) (hsh : shapeB t = true) (hnu : t.nums) (ht : TreeIn W0 S t vk vs) (hb : Buf W0 w v l) (hlen : l.length + (sayB t).length ≤ 100000000) :
    Calls Tryd.prog 86 #[.agg #[.int .i64 t.kind, .bool t.flag, .int .i64 t.num, .string t.text, vk, vs], v] w fun e w' => ∃ v', e = .returned v' ∧ BufG W0 w v w' v' (l ++ sayB t) := by
    have IH := Lib.hid hIH; clear hIH
    obtain ⟨hk0, hs0⟩ := treeIn_iff.1 ht
    obtain ⟨a1, m1, rfl⟩ := hk0.len
    obtain ⟨a2, m2, rfl⟩ := hs0.len
    obtain ⟨hd, hky, hkd⟩ := shape_parts hsh
    obtain ⟨k1, k2, k3, k4, k5, k6⟩ := head_kind hd
    have hts := text_size k3
    have hks := key_size hky
    have hnb := nums_bd hnu
    have HKS := Lib.hid (And.intro hk0 hs0)
    have HSH := Lib.hid hkd
    have HNU := Lib.hid ((nums_iff t).1 hnu).2
    have HN := Lib.hid (show nodesL t.kids ≤ N by have := nodes_eq t; omega)
    have hnl := len_nodes t.kids
    have HBX := Lib.hid (show BoxS (w.alloc (.cells #[.int .i64 t.kind, .bool t.flag, .int .i64 t.num, .string t.text, .slice a1 t.keys.length m1, .slice a2 t.kids.length m2] 46)) w.heap.size t (.slice a1 t.keys.length m1) (.slice a2 t.kids.length m2) v from ⟨Spill.new w t (.slice a1 t.keys.length m1) (.slice a2 t.kids.length m2) 46, hb.lt (Nat.le_refl _)⟩)
    have HB := Lib.hid ((BufG.start hb).alloc (.cells #[.int .i64 t.kind, .bool t.flag, .int .i64 t.num, .string t.text, .slice a1 t.keys.length m1, .slice a2 t.kids.length m2] 46))
    have hkl2 : t.kids.length ≤ 2000000 := by have := nodes_eq t; omega
    have HNN := Lib.hid (show nodesL t.kids ≤ 2000000 by have := nodes_eq t; omega)
    have HKEYS := Lib.hid hks
    have K4 := Lib.hid k4
    clear hnn hnl hsh hnu ht hb hky hkd hk0 hs0 h hd k3 hks k4 k5 k6 k1 k2
    obtain ⟨p0, p1, p2, p3, p4, p5⟩ := HBX.out.1.cells
    · have q1 : (t.kind == 1) = false := kind_eqs t.kind 4 hk 1
      have q2 : (t.kind == 2) = false := kind_eqs t.kind 4 hk 2
      have q3 : (t.kind == 3) = false := kind_eqs t.kind 4 hk 3
      have q4 : (t.kind == 4) = true := kind_eqs t.kind 4 hk 4
      have q5 : (t.kind == 5) = false := kind_eqs t.kind 4 hk 5
      have q6 : (t.kind == 6) = false := kind_eqs t.kind 4 hk 6
      have HL := Lib.hid (say_text hk)
      clear hk
      have HD := Lib.hid (fun w0 => sQuoted t.text w0 (by omega))
      have hDs : l.length + (quotedB t.text).size ≤ 100000000 := by
        have h1 : (qL t.text).length = (quotedB t.text).size := by unfold qL; simp
        rw [← h1, ← HL.out]; exact hlen
      have HDL := Lib.hid (show (quotedB t.text).data.toList = sayB t by rw [HL.out]; rfl)
      generalize quotedB t.text = D at HD hDs HDL
      go_enter Tryd.func86, Tryd.ntmps86
      go_wp2_with (first | (go_at_call 104; refine (HD.out _).mono ?_; rintro e w1 ⟨rfl, hb1⟩; have HB1 := Lib.hid (HB.out.keep hb1)) | (at_builtin; refine wpList_bufGS (by rfl) _ _ (by rfl) _ _ W0 w v _ (by rfl) HB1.out _ (by rfl) (by omega) ?_; intro v2 w2 hb2 hg2))
      go_ret
      exact ⟨_, rfl, by rw [← HDL.out]; exact hb2⟩
set_option maxRecDepth 100000 in
set_option maxHeartbeats 4000000 in
theorem sSay_5 (N : Nat) (hIH : SayS N) (t : Tr) (hk : t.kind = 5) (S : Nat → Prop) (vk vs : Value) (W0 w : World) (v : Value) (l : List UInt8) (h : t.nodes ≤ N + 1) (hnn : t.nodes ≤ 2000000) (hsh : shapeB t = true) (hnu : t.nums) (ht : TreeIn W0 S t vk vs) (hb : Buf W0 w v l) (hlen : l.length + (sayB t).length ≤ 100000000) :
    Calls Tryd.prog 86 #[.agg #[.int .i64 t.kind, .bool t.flag, .int .i64 t.num, .string t.text, vk, vs], v] w fun e w' => ∃ v', e = .returned v' ∧ BufG W0 w v w' v' (l ++ sayB t) := by
    have IH := Lib.hid hIH; clear hIH
    obtain ⟨hk0, hs0⟩ := treeIn_iff.1 ht
    obtain ⟨a1, m1, rfl⟩ := hk0.len
    obtain ⟨a2, m2, rfl⟩ := hs0.len
    obtain ⟨hd, hky, hkd⟩ := shape_parts hsh
    obtain ⟨k1, k2, k3, k4, k5, k6⟩ := head_kind hd
    have hts := text_size k3
    have hks := key_size hky
    have hnb := nums_bd hnu
    have HKS := Lib.hid (And.intro hk0 hs0)
    have HSH := Lib.hid hkd
    have HNU := Lib.hid ((nums_iff t).1 hnu).2
    have HN := Lib.hid (show nodesL t.kids ≤ N by have := nodes_eq t; omega)
    have hnl := len_nodes t.kids
    have HBX := Lib.hid (show BoxS (w.alloc (.cells #[.int .i64 t.kind, .bool t.flag, .int .i64 t.num, .string t.text, .slice a1 t.keys.length m1, .slice a2 t.kids.length m2] 46)) w.heap.size t (.slice a1 t.keys.length m1) (.slice a2 t.kids.length m2) v from ⟨Spill.new w t (.slice a1 t.keys.length m1) (.slice a2 t.kids.length m2) 46, hb.lt (Nat.le_refl _)⟩)
    have HB := Lib.hid ((BufG.start hb).alloc (.cells #[.int .i64 t.kind, .bool t.flag, .int .i64 t.num, .string t.text, .slice a1 t.keys.length m1, .slice a2 t.kids.length m2] 46))
    have hkl2 : t.kids.length ≤ 2000000 := by have := nodes_eq t; omega
    have HNN := Lib.hid (show nodesL t.kids ≤ 2000000 by have := nodes_eq t; omega)
    have HKEYS := Lib.hid hks
    have K4 := Lib.hid k4
    clear hnn hnl hsh hnu ht hb hky hkd hk0 hs0 h hd k3 hks k4 k5 k6 k1 k2
    obtain ⟨p0, p1, p2, p3, p4, p5⟩ := HBX.out.1.cells
    · have q1 : (t.kind == 1) = false := kind_eqs t.kind 5 hk 1
      have q2 : (t.kind == 2) = false := kind_eqs t.kind 5 hk 2
      have q3 : (t.kind == 3) = false := kind_eqs t.kind 5 hk 3
      have q4 : (t.kind == 4) = false := kind_eqs t.kind 5 hk 4
      have q5 : (t.kind == 5) = true := kind_eqs t.kind 5 hk 5
      have q6 : (t.kind == 6) = false := kind_eqs t.kind 5 hk 6
      have HST := Lib.hid (say_start5 hk l)
      clear hk
      go_enter Tryd.func86, Tryd.ntmps86
      go_wp2_with (at_builtin; refine wpList_bufG (by rfl) _ _ (by rfl) _ _ [91] W0 w v _ (by rfl) HB.out _ 1 1 (by rfl) rfl (by first | rfl | (rw [World.size_alloc]; rfl)) (by first | omega | (simp; omega)) ?_; intro v2 w2 hb2 hg2)
      have HBX2 := Lib.hid (HBX.out.keep (Below.refl _ _)); have HBX3 := Lib.hid (HBX2.out.gr hg2); have HB2 := Lib.hid hb2
      clear hb2 hg2 HBX2 HBX HB p0 p1 p2 p3 p4 p5
      go_loopw [1, 5] (fun u i wr => ∃ (k : Nat) (acc : List UInt8), k ≤ t.kids.length ∧ i = .int .i64 k ∧ Hid (BufG W0 w v wr u acc) ∧ Hid (BoxS wr w.heap.size t (.slice a1 t.keys.length m1) (.slice a2 t.kids.length m2) u) ∧ Hid (SayAt false t.keys t.kids k acc [93] (l ++ sayB t))) (fun _ i _ => t.kids.length - (intOf i).toNat)
      case atStart => exact ⟨0, l ++ [91], by omega, rfl, HB2, HBX3, HST⟩
      case round =>
        obtain ⟨k, acc, hk, rfl, HB, HBX, HS⟩ := hrel
        obtain ⟨p0, p1, p2, p3, p4, p5⟩ := HBX.out.1.cells
        clear p1 p2 p3
        by_cases hlt : k < t.kids.length
        · have hLE := sayAt_len HS.out
          have hstep := sayAt_step HS.out hlt
          have hL := sayAt_len hstep
          simp only [List.length_append, List.length_cons, List.length_nil] at hLE hL
          obtain ⟨b, o, vk', vs', rfl, ⟨c0, c1, c2, c3, c4, c5⟩, hin⟩ := HKS.out.2.at hlt
          obtain ⟨hk', hs'⟩ := treeIn_iff.1 hin
          obtain ⟨b1, n1, rfl⟩ := hk'.len
          obtain ⟨b2, n2, rfl⟩ := hs'.len
          clear hk' hs'
          have c00 := c0; have c10 := c1; have c20 := c2; have c30 := c3; have c40 := c4; have c50 := c5
          have c0 := bkeep HB.out.buf.bel c0; have c1 := bkeep HB.out.buf.bel c1; have c2 := bkeep HB.out.buf.bel c2; have c3 := bkeep HB.out.buf.bel c3; have c4 := bkeep HB.out.buf.bel c4; have c5 := bkeep HB.out.buf.bel c5
          have h1 := nodes_kid t.kids k hlt
          have HIN := Lib.hid hin; clear hin
          have HKN := Lib.hid (show (kidAt t.kids k).nodes ≤ N by have := HN.out; omega)
          have HKM := Lib.hid (show (kidAt t.kids k).nodes ≤ 2000000 by have := HNN.out; omega)
          have HK1 := Lib.hid (shapeL_kid HSH.out hlt)
          have HK2 := Lib.hid (nums_kid t.kids k hlt HNU.out)
          clear h1
          by_cases hk0 : 0 < k
          rotate_left
          · have z1 : decide ((0 : Int) < (k : Int)) = false := decide_eq_false (by omega)
            have z2 : decide (0 < k) = false := decide_eq_false hk0
            rw [head_f0 hk0] at hstep hL
            simp only [List.length_nil, List.append_nil] at hstep hL
            have HSTEP := Lib.hid hstep; clear hstep hk0
            go_wp2_with (go_at_call 86; refine (IH.out (kidAt t.kids k) S _ _ W0 _ _ _ HKN.out HKM.out HK1.out HK2.out HIN.out HB.out.buf (by first | omega | (simp; omega))).mono ?_; rintro e w9 ⟨v9, rfl, hb9⟩)
            go_roundw
            case rel => exact ⟨k + 1, _, by omega, by go_num, Lib.hid (HB.out.trans hb9), Lib.hid (HBX.out.gr hb9.gr), HSTEP⟩
            case measure => simp [intOf]; omega
          · rw [head_f hk0] at hstep hL
            simp only [List.length_singleton] at hL
            have HSTEP := Lib.hid hstep; clear hstep
            have z1 : decide ((0 : Int) < (k : Int)) = true := decide_eq_true (by omega)
            have z2 : decide (0 < k) = true := decide_eq_true hk0
            go_wp2_with (first | (at_builtin; refine wpList_bufG (by rfl) _ _ (by rfl) _ _ [44] W0 w v _ (by rfl) HB.out _ 1 1 (by rfl) rfl (by first | rfl | (rw [World.size_alloc]; rfl)) (by first | omega | (simp; omega)) ?_; intro v3 w3 hb3 hg3; have HBXn := Lib.hid (HBX.out.gr hg3); have HB3 := Lib.hid hb3; have c0 := bkeep HB3.out.buf.bel c00; have c1 := bkeep HB3.out.buf.bel c10; have c2 := bkeep HB3.out.buf.bel c20; have c3 := bkeep HB3.out.buf.bel c30; have c4 := bkeep HB3.out.buf.bel c40; have c5 := bkeep HB3.out.buf.bel c50; clear hg3 hb3; clear p0 p4 p5; obtain ⟨p0, p1, p2, p3, p4, p5⟩ := HBXn.out.1.cells; clear p1 p2 p3) | (go_at_call 86; refine (IH.out (kidAt t.kids k) S _ _ W0 _ _ _ HKN.out HKM.out HK1.out HK2.out HIN.out HB3.out.buf (by first | omega | (simp; omega))).mono ?_; rintro e w9 ⟨v9, rfl, hb9⟩))
            go_roundw
            case rel => exact ⟨k + 1, _, by omega, by go_num, Lib.hid (HB3.out.trans hb9), Lib.hid (HBXn.out.gr hb9.gr), HSTEP⟩
            case measure => simp [intOf]; omega
        · obtain rfl : k = t.kids.length := by omega
          have hLE := sayAt_len HS.out
          simp only [List.length_append, List.length_singleton] at hLE
          have HE := Lib.hid (sayAt_end HS.out (Nat.le_refl _))
          go_wp2_with (at_builtin; refine wpList_bufG (by rfl) _ _ (by rfl) _ _ [93] W0 w v _ (by rfl) HB.out _ 1 1 (by rfl) rfl (by first | rfl | (rw [World.size_alloc]; rfl)) (by first | omega | (simp; omega)) ?_; intro v4 w4 hb4 hg4)
          go_ret
          exact ⟨_, rfl, by rw [← HE.out]; exact hb4⟩
set_option maxRecDepth 100000 in
set_option maxHeartbeats 4000000 in
theorem sSay_6 (N : Nat) (hIH : SayS N) (t : Tr) (hk : t.kind = 6) (S : Nat → Prop) (vk vs : Value) (W0 w : World) (v : Value) (l : List UInt8) (h : t.nodes ≤ N + 1) (hnn : t.nodes ≤ 2000000) (hsh : shapeB t = true) (hnu : t.nums) (ht : TreeIn W0 S t vk vs) (hb : Buf W0 w v l) (hlen : l.length + (sayB t).length ≤ 100000000) :
    Calls Tryd.prog 86 #[.agg #[.int .i64 t.kind, .bool t.flag, .int .i64 t.num, .string t.text, vk, vs], v] w fun e w' => ∃ v', e = .returned v' ∧ BufG W0 w v w' v' (l ++ sayB t) := by
    have IH := Lib.hid hIH; clear hIH
    obtain ⟨hk0, hs0⟩ := treeIn_iff.1 ht
    obtain ⟨a1, m1, rfl⟩ := hk0.len
    obtain ⟨a2, m2, rfl⟩ := hs0.len
    obtain ⟨hd, hky, hkd⟩ := shape_parts hsh
    obtain ⟨k1, k2, k3, k4, k5, k6⟩ := head_kind hd
    have hts := text_size k3
    have hks := key_size hky
    have hnb := nums_bd hnu
    have HKS := Lib.hid (And.intro hk0 hs0)
    have HSH := Lib.hid hkd
    have HNU := Lib.hid ((nums_iff t).1 hnu).2
    have HN := Lib.hid (show nodesL t.kids ≤ N by have := nodes_eq t; omega)
    have hnl := len_nodes t.kids
    have HBX := Lib.hid (show BoxS (w.alloc (.cells #[.int .i64 t.kind, .bool t.flag, .int .i64 t.num, .string t.text, .slice a1 t.keys.length m1, .slice a2 t.kids.length m2] 46)) w.heap.size t (.slice a1 t.keys.length m1) (.slice a2 t.kids.length m2) v from ⟨Spill.new w t (.slice a1 t.keys.length m1) (.slice a2 t.kids.length m2) 46, hb.lt (Nat.le_refl _)⟩)
    have HB := Lib.hid ((BufG.start hb).alloc (.cells #[.int .i64 t.kind, .bool t.flag, .int .i64 t.num, .string t.text, .slice a1 t.keys.length m1, .slice a2 t.kids.length m2] 46))
    have hkl2 : t.kids.length ≤ 2000000 := by have := nodes_eq t; omega
    have HNN := Lib.hid (show nodesL t.kids ≤ 2000000 by have := nodes_eq t; omega)
    have HKEYS := Lib.hid hks
    have K4 := Lib.hid k4
    clear hnn hnl hsh hnu ht hb hky hkd hk0 hs0 h hd k3 hks k4 k5 k6 k1 k2
    obtain ⟨p0, p1, p2, p3, p4, p5⟩ := HBX.out.1.cells
    · have q1 : (t.kind == 1) = false := kind_eqs t.kind 6 hk 1
      have q2 : (t.kind == 2) = false := kind_eqs t.kind 6 hk 2
      have q3 : (t.kind == 3) = false := kind_eqs t.kind 6 hk 3
      have q4 : (t.kind == 4) = false := kind_eqs t.kind 6 hk 4
      have q5 : (t.kind == 5) = false := kind_eqs t.kind 6 hk 5
      have q6 : (t.kind == 6) = true := kind_eqs t.kind 6 hk 6
      have HST := Lib.hid (say_start6 hk l)
      have HKEQ := Lib.hid (K4.out hk)
      clear hk
      go_enter Tryd.func86, Tryd.ntmps86
      go_wp2_with (at_builtin; refine wpList_bufG (by rfl) _ _ (by rfl) _ _ [123] W0 w v _ (by rfl) HB.out _ 1 1 (by rfl) rfl (by first | rfl | (rw [World.size_alloc]; rfl)) (by first | omega | (simp; omega)) ?_; intro v2 w2 hb2 hg2)
      have HBX2 := Lib.hid (HBX.out.keep (Below.refl _ _)); have HBX3 := Lib.hid (HBX2.out.gr hg2); have HB2 := Lib.hid hb2
      clear hb2 hg2 HBX2 HBX HB p0 p1 p2 p3 p4 p5
      go_loopw [1, 6] (fun u i wr => ∃ (k : Nat) (acc : List UInt8), k ≤ t.kids.length ∧ i = .int .i64 k ∧ Hid (BufG W0 w v wr u acc) ∧ Hid (BoxS wr w.heap.size t (.slice a1 t.keys.length m1) (.slice a2 t.kids.length m2) u) ∧ Hid (SayAt true t.keys t.kids k acc [125] (l ++ sayB t))) (fun _ i _ => t.kids.length - (intOf i).toNat)
      case atStart => exact ⟨0, l ++ [123], by omega, rfl, HB2, HBX3, HST⟩
      case round =>
        obtain ⟨k, acc, hk, rfl, HB, HBX, HS⟩ := hrel
        obtain ⟨p0, p1, p2, p3, p4, p5⟩ := HBX.out.1.cells
        clear p1 p2 p3
        by_cases hlt : k < t.kids.length
        · have hLE := sayAt_len HS.out
          have hstep := sayAt_step HS.out hlt
          have hL := sayAt_len hstep
          simp only [List.length_append, List.length_cons, List.length_nil] at hLE hL
          obtain ⟨b, o, vk', vs', rfl, ⟨c0, c1, c2, c3, c4, c5⟩, hin⟩ := HKS.out.2.at hlt
          obtain ⟨hk', hs'⟩ := treeIn_iff.1 hin
          obtain ⟨b1, n1, rfl⟩ := hk'.len
          obtain ⟨b2, n2, rfl⟩ := hs'.len
          clear hk' hs'
          have c00 := c0; have c10 := c1; have c20 := c2; have c30 := c3; have c40 := c4; have c50 := c5
          have c0 := bkeep HB.out.buf.bel c0; have c1 := bkeep HB.out.buf.bel c1; have c2 := bkeep HB.out.buf.bel c2; have c3 := bkeep HB.out.buf.bel c3; have c4 := bkeep HB.out.buf.bel c4; have c5 := bkeep HB.out.buf.bel c5
          have h1 := nodes_kid t.kids k hlt
          have HIN := Lib.hid hin; clear hin
          have HKN := Lib.hid (show (kidAt t.kids k).nodes ≤ N by have := HN.out; omega)
          have HKM := Lib.hid (show (kidAt t.kids k).nodes ≤ 2000000 by have := HNN.out; omega)
          have HK1 := Lib.hid (shapeL_kid HSH.out hlt)
          have HK2 := Lib.hid (nums_kid t.kids k hlt HNU.out)
          clear h1
          obtain ⟨bk, ok, rfl, hcell⟩ := HKS.out.1.at (show k < t.keys.length by have := HKEQ.out; omega)
          have hkl4 : k < t.keys.length := by have := HKEQ.out; omega
          have hkl3 : (k : Int) < (t.keys.length : Int) := by omega
          have d0 := hcell k hkl4
          have d00 := bkeep HB.out.buf.bel d0
          clear hcell
          have hksz := HKEYS.out k
          have HQ := Lib.hid (fun w0 => sQuoted (strAt t.keys k) w0 (by omega))
          by_cases hk0 : 0 < k
          rotate_left
          · have z1 : decide ((0 : Int) < (k : Int)) = false := decide_eq_false (by omega)
            have z2 : decide (0 < k) = false := decide_eq_false hk0
            rw [head_t0 hk0] at hstep hL
            simp only [List.length_append, List.length_singleton] at hL
            have HSTEP := Lib.hid hstep; clear hstep hk0
            have HA := HB; have HBXa := HBX
            have hqs : (quotedB (strAt t.keys k)).data.toList.length = (quotedB (strAt t.keys k)).size := by simp
            generalize quotedB (strAt t.keys k) = Q at HQ hqs hL HSTEP
            go_wp2_with (first | (go_at_call 104; refine (HQ.out _).mono ?_; rintro e w5 ⟨rfl, hb5⟩; have HBXb := Lib.hid (HBXa.out.keep hb5); have HA5 := Lib.hid (HA.out.keep hb5); clear hb5) | (at_builtin; refine wpList_bufGS (by rfl) _ _ (by rfl) _ _ W0 w v _ (by rfl) HA5.out _ (by rfl) (by first | omega | (simp; omega)) ?_; intro v6 w6 hb6 hg6; have HBXc := Lib.hid (HBXb.out.gr hg6); have HA6 := Lib.hid hb6; clear hg6 hb6) | (at_builtin; refine wpList_bufG (by rfl) _ _ (by rfl) _ _ [58] W0 w v _ (by rfl) HA6.out _ 1 1 (by rfl) rfl (by first | rfl | (rw [World.size_alloc]; rfl)) (by first | omega | (simp; omega)) ?_; intro v7 w7 hb7 hg7; have HBXn := Lib.hid (HBXc.out.gr hg7); have HB7 := Lib.hid hb7; clear hg7 hb7; have c0 := bkeep HB7.out.buf.bel c00; have c1 := bkeep HB7.out.buf.bel c10; have c2 := bkeep HB7.out.buf.bel c20; have c3 := bkeep HB7.out.buf.bel c30; have c4 := bkeep HB7.out.buf.bel c40; have c5 := bkeep HB7.out.buf.bel c50; clear p0 p4 p5; obtain ⟨p0, p1, p2, p3, p4, p5⟩ := HBXn.out.1.cells; clear p1 p2 p3) | (go_at_call 86; refine (IH.out (kidAt t.kids k) S _ _ W0 _ _ _ HKN.out HKM.out HK1.out HK2.out HIN.out HB7.out.buf (by first | omega | (simp; omega))).mono ?_; rintro e w9 ⟨v9, rfl, hb9⟩))
            go_roundw
            case rel => exact ⟨k + 1, _, by omega, by go_num, Lib.hid (HB7.out.trans hb9), Lib.hid (HBXn.out.gr hb9.gr), Lib.hid (by have := HSTEP.out; simpa using this)⟩
            case measure => simp [intOf]; omega
          · rw [head_t hk0] at hstep hL
            simp only [List.length_append, List.length_singleton] at hL
            have HSTEP := Lib.hid hstep; clear hstep
            have z1 : decide ((0 : Int) < (k : Int)) = true := decide_eq_true (by omega)
            have z2 : decide (0 < k) = true := decide_eq_true hk0
            have hqs : (quotedB (strAt t.keys k)).data.toList.length = (quotedB (strAt t.keys k)).size := by simp
            generalize quotedB (strAt t.keys k) = Q at HQ hqs hL HSTEP
            go_wp2_with (first | (at_builtin; refine wpList_bufG (by rfl) _ _ (by rfl) _ _ [44] W0 w v _ (by rfl) HB.out _ 1 1 (by rfl) rfl (by first | rfl | (rw [World.size_alloc]; rfl)) (by first | omega | (simp; omega)) ?_; intro v3 w3 hb3 hg3; have HBXa := Lib.hid (HBX.out.gr hg3); have HA := Lib.hid hb3; have d1 := bkeep HA.out.buf.bel d0; clear hg3 hb3; clear p0 p4 p5; obtain ⟨p0, p1, p2, p3, p4, p5⟩ := HBXa.out.1.cells; clear p1 p2 p3) | (go_at_call 104; refine (HQ.out _).mono ?_; rintro e w5 ⟨rfl, hb5⟩; have HBXb := Lib.hid (HBXa.out.keep hb5); have HA5 := Lib.hid (HA.out.keep hb5); clear hb5) | (at_builtin; refine wpList_bufGS (by rfl) _ _ (by rfl) _ _ W0 w v _ (by rfl) HA5.out _ (by rfl) (by first | omega | (simp; omega)) ?_; intro v6 w6 hb6 hg6; have HBXc := Lib.hid (HBXb.out.gr hg6); have HA6 := Lib.hid hb6; clear hg6 hb6) | (at_builtin; refine wpList_bufG (by rfl) _ _ (by rfl) _ _ [58] W0 w v _ (by rfl) HA6.out _ 1 1 (by rfl) rfl (by first | rfl | (rw [World.size_alloc]; rfl)) (by first | omega | (simp; omega)) ?_; intro v7 w7 hb7 hg7; have HBXn := Lib.hid (HBXc.out.gr hg7); have HB7 := Lib.hid hb7; clear hg7 hb7; have c0 := bkeep HB7.out.buf.bel c00; have c1 := bkeep HB7.out.buf.bel c10; have c2 := bkeep HB7.out.buf.bel c20; have c3 := bkeep HB7.out.buf.bel c30; have c4 := bkeep HB7.out.buf.bel c40; have c5 := bkeep HB7.out.buf.bel c50; clear p0 p4 p5; obtain ⟨p0, p1, p2, p3, p4, p5⟩ := HBXn.out.1.cells; clear p1 p2 p3) | (go_at_call 86; refine (IH.out (kidAt t.kids k) S _ _ W0 _ _ _ HKN.out HKM.out HK1.out HK2.out HIN.out HB7.out.buf (by first | omega | (simp; omega))).mono ?_; rintro e w9 ⟨v9, rfl, hb9⟩))
            go_roundw
            case rel => exact ⟨k + 1, _, by omega, by go_num, Lib.hid (HB7.out.trans hb9), Lib.hid (HBXn.out.gr hb9.gr), Lib.hid (by have := HSTEP.out; simpa using this)⟩
            case measure => simp [intOf]; omega
        · obtain rfl : k = t.kids.length := by omega
          have hLE := sayAt_len HS.out
          simp only [List.length_append, List.length_singleton] at hLE
          have HE := Lib.hid (sayAt_end HS.out (Nat.le_refl _))
          go_wp2_with (at_builtin; refine wpList_bufG (by rfl) _ _ (by rfl) _ _ [125] W0 w v _ (by rfl) HB.out _ 1 1 (by rfl) rfl (by first | rfl | (rw [World.size_alloc]; rfl)) (by first | omega | (simp; omega)) ?_; intro v4 w4 hb4 hg4)
          go_ret
          exact ⟨_, rfl, by rw [← HE.out]; exact hb4⟩
theorem sSay : ∀ N, SayS N
  | 0 => fun t S vk vs W0 w v l h _ _ _ _ _ _ => by have := nodes_pos t; omega
  | N + 1 => fun t S vk vs W0 w v l h hnn hsh hnu ht hb hlen => by
    obtain ⟨k1, k2, -⟩ := head_kind (shape_parts hsh).1
    have hkk : t.kind = 1 ∨ t.kind = 2 ∨ t.kind = 3 ∨ t.kind = 4 ∨ t.kind = 5 ∨ t.kind = 6 := by omega
    rcases hkk with hk | hk | hk | hk | hk | hk
    · exact sSay_1 N (sSay N) t hk S vk vs W0 w v l h hnn hsh hnu ht hb hlen
    · exact sSay_2 N (sSay N) t hk S vk vs W0 w v l h hnn hsh hnu ht hb hlen
    · exact sSay_3 N (sSay N) t hk S vk vs W0 w v l h hnn hsh hnu ht hb hlen
    · exact sSay_4 N (sSay N) t hk S vk vs W0 w v l h hnn hsh hnu ht hb hlen
    · exact sSay_5 N (sSay N) t hk S vk vs W0 w v l h hnn hsh hnu ht hb hlen
    · exact sSay_6 N (sSay N) t hk S vk vs W0 w v l h hnn hsh hnu ht hb hlen

end Go.Proofs.YtclffhejoneiaaaDoorR
