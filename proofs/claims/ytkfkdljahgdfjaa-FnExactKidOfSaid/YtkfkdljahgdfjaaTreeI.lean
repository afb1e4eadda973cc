/- IntTree, TextTree: contracts of both texts; the laws' walks. -/
import Derived.Test.YtkfkdljahgdfjaaMarkD
import Derived.Test.YtkfkdljahgdfjaaTreeW
namespace Go.Proofs.Ytkfkdljahgdfjaa
open Go.RowKit

/-- A tree without keys and children lies anywhere. -/
theorem leaf_own (w : World) (k : Int) (f : Bool) (n : Int) (s : ByteArray) : TreeOwn w (.mk k f n s [] []) (.slice none 0 0) (.slice none 0 0) [] :=
  treeOwn_iff.2 ⟨[], [], rfl, .inl ⟨rfl, rfl, none, 0, rfl⟩, .inl ⟨rfl, rfl, none, 0, rfl⟩⟩
theorem leaf_in (w : World) (k : Int) (f : Bool) (n : Int) (s : ByteArray) : TreeIn w Any (.mk k f n s [] []) (.slice none 0 0) (.slice none 0 0) :=
  TreeOwn.toIn _ _ _ _ (leaf_own w k f n s) (fun _ _ => trivial)
theorem leaf_mark (k : Int) (f : Bool) (n : Int) (s : ByteArray) (j : Nat) : markTr j (.mk k f n s [] []) = .mk k f n s [] [] := by simp only [markTr, markStrs, markKids]; rfl
theorem leaf_cnt (k : Int) (f : Bool) (n : Int) (s : ByteArray) : (Tr.mk k f n s [] []).cnt = 0 := rfl
theorem apart_nil {w w' : World} (h : Apart [] w w') : Below w.heap.size w w' := h.below (Nat.le_refl _) fun x hx => by simp at hx

/-- eqTree, markTree, heldTree at a tree without keys and children. -/
theorem eqLeaf (k : Int) (f : Bool) (n : Int) (s : ByteArray) (w : World) (hs : s.size ≤ 1048576) :
    Calls Try.prog 16 #[.agg #[.int .i64 k, .bool f, .int .i64 n, .string s, .slice none 0 0, .slice none 0 0], .agg #[.int .i64 k, .bool f, .int .i64 n, .string s, .slice none 0 0, .slice none 0 0]] w fun e w' => e = .returned (.bool true) ∧ Below w.heap.size w w' :=
  eqTree_any (.mk k f n s [] []) Any Any _ _ _ _ w (by simp [Tr.wt, strWt, wtL]; omega) (leaf_in _ _ _ _ _) (leaf_in _ _ _ _ _)
theorem markLeaf (k : Int) (f : Bool) (n : Int) (s : ByteArray) (w : World) :
    Calls Try.prog 25 #[.agg #[.int .i64 k, .bool f, .int .i64 n, .string s, .slice none 0 0, .slice none 0 0], .int .i64 1] w fun e w' => e = .returned (.int .i64 1) ∧ Below w.heap.size w w' :=
  (markTree_own (.mk k f n s [] []) _ _ [] 1 w (by rw [leaf_cnt]; omega) List.nodup_nil (leaf_own _ _ _ _ _)).mono fun _ _ h => ⟨h.1, apart_nil h.2.2⟩
theorem heldLeaf (k : Int) (f : Bool) (n : Int) (s : ByteArray) (w : World) :
    Calls Try.prog 26 #[.agg #[.int .i64 k, .bool f, .int .i64 n, .string s, .slice none 0 0, .slice none 0 0], .int .i64 1] w fun e w' => e = .returned (.int .i64 1) ∧ Below w.heap.size w w' :=
  heldTree_in (.mk k f n s [] []) Any _ _ 1 w (by rw [leaf_cnt]; omega) (by rw [leaf_mark]; exact leaf_in _ _ _ _ _)

theorem sIntTree (n : Int) (w : World) : Calls Try.prog 23 #[.int .i64 n] w fun e w' => e = .returned (.agg #[.int .i64 3, .bool false, .int .i64 n, .string ⟨#[]⟩, .slice none 0 0, .slice none 0 0]) ∧ Below w.heap.size w w' := by
  go_enter Try.func23, Try.ntmps23
  go_wp2
  refine bodyPost_ret (v := .agg #[.int .i64 3, .bool false, .int .i64 n, .string ⟨#[]⟩, .slice none 0 0, .slice none 0 0]) (by simp [results, Try.results23, go_sem]) rfl ⟨rfl, alloc_below _ _ _⟩

theorem iIntTree (n : Int) (w : World) : Calls Try.prog 24 #[.int .i64 n] w fun e w' => e = .returned (.agg #[.int .i64 3, .bool false, .int .i64 n, .string ⟨#[]⟩, .slice none 0 0, .slice none 0 0]) ∧ Below w.heap.size w w' := by
  go_enter Try.func24, Try.ntmps24
  go_wp2
  refine bodyPost_ret (v := .agg #[.int .i64 3, .bool false, .int .i64 n, .string ⟨#[]⟩, .slice none 0 0, .slice none 0 0]) (by simp [results, Try.results24, go_sem]) rfl ⟨rfl, alloc_below _ _ _⟩

theorem sTextTree (s : ByteArray) (w : World) : Calls Try.prog 27 #[.string s] w fun e w' => e = .returned (.agg #[.int .i64 4, .bool false, .int .i64 0, .string s, .slice none 0 0, .slice none 0 0]) ∧ Below w.heap.size w w' := by
  go_enter Try.func27, Try.ntmps27
  go_wp2
  refine bodyPost_ret (v := .agg #[.int .i64 4, .bool false, .int .i64 0, .string s, .slice none 0 0, .slice none 0 0]) (by simp [results, Try.results27, go_sem]) rfl ⟨rfl, alloc_below _ _ _⟩

theorem iTextTree (s : ByteArray) (w : World) : Calls Try.prog 28 #[.string s] w fun e w' => e = .returned (.agg #[.int .i64 4, .bool false, .int .i64 0, .string s, .slice none 0 0, .slice none 0 0]) ∧ Below w.heap.size w w' := by
  go_enter Try.func28, Try.ntmps28
  go_wp2
  refine bodyPost_ret (v := .agg #[.int .i64 4, .bool false, .int .i64 0, .string s, .slice none 0 0, .slice none 0 0]) (by simp [results, Try.results28, go_sem]) rfl ⟨rfl, alloc_below _ _ _⟩

set_option maxRecDepth 100000 in
set_option maxHeartbeats 1000000 in
theorem lawIntTree (n : Int) (_hwf : (Lit.int .i64 n).wf = true) {W : World} : Calls Try.prog 7 #[.int .i64 n] W fun e w' => e = .returned (.bool true) ∧ Below W.heap.size W w' := by
  have HS := Lib.hid (show (⟨#[]⟩ : ByteArray).size ≤ 1048576 by show 0 ≤ 1048576; omega)
  go_enter Try.func7, Try.ntmps7
  go_wp2_with fail
  refine (sIntTree n _).mono ?_; rintro e w1 ⟨rfl, hb1⟩
  have hsp1 := Spill.new w1 (.mk 3 false n ⟨#[]⟩ [] []) (.slice none 0 0) (.slice none 0 0) 30
  have hbw1 := hb1.trans ((alloc_below w1 #[.int .i64 3, .bool false, .int .i64 n, .string ⟨#[]⟩, .slice none 0 0, .slice none 0 0] 30).mono hb1.size)
  obtain ⟨b3, hb3⟩ : ∃ b3, b3 = w1.heap.size := ⟨_, rfl⟩
  go_wp2_with fail
  refine (iIntTree n _).mono ?_; rintro e w2 ⟨rfl, hb2⟩
  have hsp1 := hsp1.keep hb2
  have hbw2 := bnext hbw1 hb2
  have hsp2 := Spill.new w2 (.mk 3 false n ⟨#[]⟩ [] []) (.slice none 0 0) (.slice none 0 0) 30
  have hal := alloc_below w2 #[.int .i64 3, .bool false, .int .i64 n, .string ⟨#[]⟩, .slice none 0 0, .slice none 0 0] 30
  have hsp1 := hsp1.keep hal
  have hbw2 := bnext hbw2 hal
  clear hal hb1 hb2 hbw1
  obtain ⟨b4, hb4⟩ : ∃ b4, b4 = w2.heap.size := ⟨_, rfl⟩
  rw [← hb3] at hsp1
  rw [← hb4] at hsp2
  have HI := Lib.hid (And.intro hsp1 (And.intro hsp2 hbw2)); clear hsp1 hsp2 hbw2
  have HB := Lib.hid (And.intro hb3 hb4)
  clear hb3 hb4
  obtain ⟨p0, p1, p2, p3, p4, p5⟩ := HI.out.1.cells
  obtain ⟨q0, q1, q2, q3, q4, q5⟩ := HI.out.2.1.cells
  simp only [kind_mk, flag_mk, num_mk, text_mk] at p0 p1 p2 p3 q0 q1 q2 q3
  rw [HB.out.1] at p0 p1 p2 p3 p4 p5
  rw [HB.out.2] at q0 q1 q2 q3 q4 q5
  go_wp2_with fail
  clear p0 p1 p2 p3 p4 p5 q0 q1 q2 q3 q4 q5
  refine (eqLeaf 3 false n ⟨#[]⟩ _ HS.out).mono ?_; rintro e w9 ⟨rfl, hb9⟩
  have HI := Lib.hid (And.intro (HI.out.1.keep hb9) (And.intro (HI.out.2.1.keep hb9) (bnext HI.out.2.2 hb9))); clear hb9
  obtain ⟨p0, p1, p2, p3, p4, p5⟩ := HI.out.1.cells
  obtain ⟨q0, q1, q2, q3, q4, q5⟩ := HI.out.2.1.cells
  simp only [kind_mk, flag_mk, num_mk, text_mk] at p0 p1 p2 p3 q0 q1 q2 q3
  rw [HB.out.1] at p0 p1 p2 p3 p4 p5
  rw [HB.out.2] at q0 q1 q2 q3 q4 q5
  go_wp2_with fail
  clear p0 p1 p2 p3 p4 p5 q0 q1 q2 q3 q4 q5
  refine (markLeaf 3 false n ⟨#[]⟩ _).mono ?_; rintro e w9 ⟨rfl, hb9⟩
  have HI := Lib.hid (And.intro (HI.out.1.keep hb9) (And.intro (HI.out.2.1.keep hb9) (bnext HI.out.2.2 hb9))); clear hb9
  obtain ⟨p0, p1, p2, p3, p4, p5⟩ := HI.out.1.cells
  obtain ⟨q0, q1, q2, q3, q4, q5⟩ := HI.out.2.1.cells
  simp only [kind_mk, flag_mk, num_mk, text_mk] at p0 p1 p2 p3 q0 q1 q2 q3
  rw [HB.out.1] at p0 p1 p2 p3 p4 p5
  rw [HB.out.2] at q0 q1 q2 q3 q4 q5
  go_wp2_with fail
  clear p0 p1 p2 p3 p4 p5 q0 q1 q2 q3 q4 q5
  refine (heldLeaf 3 false n ⟨#[]⟩ _).mono ?_; rintro e w9 ⟨rfl, hb9⟩
  have HI := Lib.hid (And.intro (HI.out.1.keep hb9) (And.intro (HI.out.2.1.keep hb9) (bnext HI.out.2.2 hb9))); clear hb9
  go_wp2_with fail
  refine (iIntTree n _).mono ?_; rintro e w5 ⟨rfl, hb5⟩
  have hal := alloc_below w5 #[.int .i64 3, .bool false, .int .i64 n, .string ⟨#[]⟩, .slice none 0 0, .slice none 0 0] 30
  have hsp5 := (Spill.new w5 (.mk 3 false n ⟨#[]⟩ [] []) (.slice none 0 0) (.slice none 0 0) 30).cells
  have HI := Lib.hid (And.intro ((HI.out.1.keep hb5).keep hal) (And.intro ((HI.out.2.1.keep hb5).keep hal) (bnext (bnext HI.out.2.2 hb5) hal))); clear hb5 hal
  obtain ⟨r0, r1, r2, r3, r4, r5⟩ := hsp5
  simp only [kind_mk, flag_mk, num_mk, text_mk] at r0 r1 r2 r3
  obtain ⟨p0, p1, p2, p3, p4, p5⟩ := HI.out.1.cells
  obtain ⟨q0, q1, q2, q3, q4, q5⟩ := HI.out.2.1.cells
  simp only [kind_mk, flag_mk, num_mk, text_mk] at p0 p1 p2 p3 q0 q1 q2 q3
  rw [HB.out.1] at p0 p1 p2 p3 p4 p5
  rw [HB.out.2] at q0 q1 q2 q3 q4 q5
  go_wp2_with fail
  clear r0 r1 r2 r3 r4 r5
  clear p0 p1 p2 p3 p4 p5 q0 q1 q2 q3 q4 q5
  refine (eqLeaf 3 false n ⟨#[]⟩ _ HS.out).mono ?_; rintro e w9 ⟨rfl, hb9⟩
  have HI := Lib.hid (And.intro (HI.out.1.keep hb9) (And.intro (HI.out.2.1.keep hb9) (bnext HI.out.2.2 hb9))); clear hb9
  obtain ⟨p0, p1, p2, p3, p4, p5⟩ := HI.out.1.cells
  obtain ⟨q0, q1, q2, q3, q4, q5⟩ := HI.out.2.1.cells
  simp only [kind_mk, flag_mk, num_mk, text_mk] at p0 p1 p2 p3 q0 q1 q2 q3
  rw [HB.out.1] at p0 p1 p2 p3 p4 p5
  rw [HB.out.2] at q0 q1 q2 q3 q4 q5
  go_wp2_with fail
  clear p0 p1 p2 p3 p4 p5 q0 q1 q2 q3 q4 q5
  refine (heldLeaf 3 false n ⟨#[]⟩ _).mono ?_; rintro e w9 ⟨rfl, hb9⟩
  have HI := Lib.hid (And.intro (HI.out.1.keep hb9) (And.intro (HI.out.2.1.keep hb9) (bnext HI.out.2.2 hb9))); clear hb9
  go_wp2
  go_ret
  exact ⟨rfl, HI.out.2.2⟩

set_option maxRecDepth 100000 in
set_option maxHeartbeats 1000000 in
theorem lawTextTree (s : ByteArray) (_hwf : s.size ≤ maxLen) {W : World} : Calls Try.prog 8 #[.string s] W fun e w' => e = .returned (.bool true) ∧ Below W.heap.size W w' := by
  by_cases hkl : (1048576 : Int) < (s.size : Nat)
  · go_enter Try.func8, Try.ntmps8
    go_wp2
    go_ret
    exact ⟨rfl, Below.refl _ _⟩
  have HS := Lib.hid (show (s : ByteArray).size ≤ 1048576 by omega)
  go_enter Try.func8, Try.ntmps8
  go_wp2_with fail
  refine (sTextTree s _).mono ?_; rintro e w1 ⟨rfl, hb1⟩
  have hsp1 := Spill.new w1 (.mk 4 false 0 s [] []) (.slice none 0 0) (.slice none 0 0) 30
  have hbw1 := hb1.trans ((alloc_below w1 #[.int .i64 4, .bool false, .int .i64 0, .string s, .slice none 0 0, .slice none 0 0] 30).mono hb1.size)
  obtain ⟨b3, hb3⟩ : ∃ b3, b3 = w1.heap.size := ⟨_, rfl⟩
  go_wp2_with fail
  refine (iTextTree s _).mono ?_; rintro e w2 ⟨rfl, hb2⟩
  have hsp1 := hsp1.keep hb2
  have hbw2 := bnext hbw1 hb2
  have hsp2 := Spill.new w2 (.mk 4 false 0 s [] []) (.slice none 0 0) (.slice none 0 0) 30
  have hal := alloc_below w2 #[.int .i64 4, .bool false, .int .i64 0, .string s, .slice none 0 0, .slice none 0 0] 30
  have hsp1 := hsp1.keep hal
  have hbw2 := bnext hbw2 hal
  clear hal hb1 hb2 hbw1
  obtain ⟨b4, hb4⟩ : ∃ b4, b4 = w2.heap.size := ⟨_, rfl⟩
  rw [← hb3] at hsp1
  rw [← hb4] at hsp2
  have HI := Lib.hid (And.intro hsp1 (And.intro hsp2 hbw2)); clear hsp1 hsp2 hbw2
  have HB := Lib.hid (And.intro hb3 hb4)
  clear hb3 hb4
  obtain ⟨p0, p1, p2, p3, p4, p5⟩ := HI.out.1.cells
  obtain ⟨q0, q1, q2, q3, q4, q5⟩ := HI.out.2.1.cells
  simp only [kind_mk, flag_mk, num_mk, text_mk] at p0 p1 p2 p3 q0 q1 q2 q3
  rw [HB.out.1] at p0 p1 p2 p3 p4 p5
  rw [HB.out.2] at q0 q1 q2 q3 q4 q5
  go_wp2_with fail
  clear p0 p1 p2 p3 p4 p5 q0 q1 q2 q3 q4 q5
  refine (eqLeaf 4 false 0 s _ HS.out).mono ?_; rintro e w9 ⟨rfl, hb9⟩
  have HI := Lib.hid (And.intro (HI.out.1.keep hb9) (And.intro (HI.out.2.1.keep hb9) (bnext HI.out.2.2 hb9))); clear hb9
  obtain ⟨p0, p1, p2, p3, p4, p5⟩ := HI.out.1.cells
  obtain ⟨q0, q1, q2, q3, q4, q5⟩ := HI.out.2.1.cells
  simp only [kind_mk, flag_mk, num_mk, text_mk] at p0 p1 p2 p3 q0 q1 q2 q3
  rw [HB.out.1] at p0 p1 p2 p3 p4 p5
  rw [HB.out.2] at q0 q1 q2 q3 q4 q5
  go_wp2_with fail
  clear p0 p1 p2 p3 p4 p5 q0 q1 q2 q3 q4 q5
  refine (markLeaf 4 false 0 s _).mono ?_; rintro e w9 ⟨rfl, hb9⟩
  have HI := Lib.hid (And.intro (HI.out.1.keep hb9) (And.intro (HI.out.2.1.keep hb9) (bnext HI.out.2.2 hb9))); clear hb9
  obtain ⟨p0, p1, p2, p3, p4, p5⟩ := HI.out.1.cells
  obtain ⟨q0, q1, q2, q3, q4, q5⟩ := HI.out.2.1.cells
  simp only [kind_mk, flag_mk, num_mk, text_mk] at p0 p1 p2 p3 q0 q1 q2 q3
  rw [HB.out.1] at p0 p1 p2 p3 p4 p5
  rw [HB.out.2] at q0 q1 q2 q3 q4 q5
  go_wp2_with fail
  clear p0 p1 p2 p3 p4 p5 q0 q1 q2 q3 q4 q5
  refine (heldLeaf 4 false 0 s _).mono ?_; rintro e w9 ⟨rfl, hb9⟩
  have HI := Lib.hid (And.intro (HI.out.1.keep hb9) (And.intro (HI.out.2.1.keep hb9) (bnext HI.out.2.2 hb9))); clear hb9
  go_wp2_with fail
  refine (iTextTree s _).mono ?_; rintro e w5 ⟨rfl, hb5⟩
  have hal := alloc_below w5 #[.int .i64 4, .bool false, .int .i64 0, .string s, .slice none 0 0, .slice none 0 0] 30
  have hsp5 := (Spill.new w5 (.mk 4 false 0 s [] []) (.slice none 0 0) (.slice none 0 0) 30).cells
  have HI := Lib.hid (And.intro ((HI.out.1.keep hb5).keep hal) (And.intro ((HI.out.2.1.keep hb5).keep hal) (bnext (bnext HI.out.2.2 hb5) hal))); clear hb5 hal
  obtain ⟨r0, r1, r2, r3, r4, r5⟩ := hsp5
  simp only [kind_mk, flag_mk, num_mk, text_mk] at r0 r1 r2 r3
  obtain ⟨p0, p1, p2, p3, p4, p5⟩ := HI.out.1.cells
  obtain ⟨q0, q1, q2, q3, q4, q5⟩ := HI.out.2.1.cells
  simp only [kind_mk, flag_mk, num_mk, text_mk] at p0 p1 p2 p3 q0 q1 q2 q3
  rw [HB.out.1] at p0 p1 p2 p3 p4 p5
  rw [HB.out.2] at q0 q1 q2 q3 q4 q5
  go_wp2_with fail
  clear r0 r1 r2 r3 r4 r5
  clear p0 p1 p2 p3 p4 p5 q0 q1 q2 q3 q4 q5
  refine (eqLeaf 4 false 0 s _ HS.out).mono ?_; rintro e w9 ⟨rfl, hb9⟩
  have HI := Lib.hid (And.intro (HI.out.1.keep hb9) (And.intro (HI.out.2.1.keep hb9) (bnext HI.out.2.2 hb9))); clear hb9
  obtain ⟨p0, p1, p2, p3, p4, p5⟩ := HI.out.1.cells
  obtain ⟨q0, q1, q2, q3, q4, q5⟩ := HI.out.2.1.cells
  simp only [kind_mk, flag_mk, num_mk, text_mk] at p0 p1 p2 p3 q0 q1 q2 q3
  rw [HB.out.1] at p0 p1 p2 p3 p4 p5
  rw [HB.out.2] at q0 q1 q2 q3 q4 q5
  go_wp2_with fail
  clear p0 p1 p2 p3 p4 p5 q0 q1 q2 q3 q4 q5
  refine (heldLeaf 4 false 0 s _).mono ?_; rintro e w9 ⟨rfl, hb9⟩
  have HI := Lib.hid (And.intro (HI.out.1.keep hb9) (And.intro (HI.out.2.1.keep hb9) (bnext HI.out.2.2 hb9))); clear hb9
  go_wp2
  go_ret
  exact ⟨rfl, HI.out.2.2⟩

end Go.Proofs.Ytkfkdljahgdfjaa
