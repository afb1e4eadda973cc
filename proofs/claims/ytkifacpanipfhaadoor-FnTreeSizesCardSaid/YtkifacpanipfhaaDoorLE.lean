/- DrawT, TszF, merged. -/
import Derived.Test.YtkifacpanipfhaaDoorLA
import Derived.OpenShut
import Derived.Test.YtkifacpanipfhaaDoorLD
import Derived.Test.YtkifacpanipfhaaDoorTreeQ
import Derived.Test.YtkifacpanipfhaaDoorTreeV
namespace Go.Proofs.YtkifacpanipfhaaDoor
open Go.RowKit Go.ChangeShapes Go.WideShapes

theorem Tryd.cellsU8 : Tryd.prog.cellsOf 5 = 1 := by kernel_rfl
set_option maxRecDepth 100000 in
theorem openCode {H : Type} {enc : TypeId × Value → H} {W : World} {base : Nat} {v : Value} {d : DataW H} {p : List MemPlace} (hval : Value.okWide Tryd.prog W .any base 22 v)
    (h : DataW.Trod enc Tryd.prog W 0 (fun _ => true) true 22 v d p) :
    ∃ (a : Option Addr) (n cap : Nat), v = .slice a n cap ∧ n ≤ maxLen ∧ CodeAt W W.heap.size a n := by
  obtain ⟨a, len, cap, rfl⟩ := okWide_slice Tryd.underlying22 hval
  obtain ⟨fuel, hf⟩ := h
  rcases open_ints Tryd.underlying22 Tryd.underlying5 Tryd.cellsU8 hf with ⟨hcs, _⟩ | ⟨x, l, c, zs, hcs, _, hl, hm, hz, _, hx, hw⟩
  · simp [Value.cells] at hcs
    obtain ⟨rfl, rfl, rfl⟩ := hcs
    exact ⟨none, 0, 0, rfl, Nat.zero_le _, fun _ => 0, fun _ => ⟨Int.le_refl _, (by decide : (0 : Int) ≤ 255)⟩, .inl rfl⟩
  · simp [Value.cells] at hcs
    obtain ⟨rfl, rfl, rfl⟩ := hcs
    have hzl : len ≤ zs.length := by rw [hz]; split <;> omega
    refine ⟨some x, len, cap, rfl, Nat.le_trans hl hm, fun i => zs[i]?.getD 0, fun i => range_u8 hw i, ?_⟩
    rcases Nat.eq_zero_or_pos len with h0 | h0
    · exact .inl h0
    · obtain ⟨b, o, spot⟩ := x
      have hs : spot = none := by simpa [Addr.add] using World.cell?_spot (hx 0 (by omega))
      subst hs
      refine .inr ⟨b, o, rfl, ?_, fun i hi => ?_⟩
      · have := hx 0 (by omega)
        rw [addr_add] at this
        exact lt_of_cell this
      · have := hx i (by omega)
        rw [addr_add, List.getD_eq_getElem?_getD] at this
        exact this
theorem CodeAt.keep {w w' : World} {a : Option Addr} {n : Nat} (h : CodeAt w w.heap.size a n) (hb : Below w.heap.size w w') : CodeAt w' w'.heap.size a n :=
  (h.same fun k hk _ => hb.block k hk).mono hb.size

theorem big_any (a : Option Addr) (n cap : Nat) (w : World) : Calls Tryd.prog 7 #[.slice a n cap] w fun e w' => e = .returned (.bool (decide (1048576 < (n : Int)))) ∧ w = w' := by
  go_enter Tryd.func7, Tryd.ntmps7
  go_wp2
  go_ret
  exact ⟨rfl, rfl⟩

def IntQ (w : World) (e : Ending) (w' : World) : Prop := ∃ x : Int, e = .returned (.int .i64 x) ∧ Below w.heap.size w w'
def ListQ (m : Nat) (w : World) (e : Ending) (w' : World) : Prop := ∃ (l : List Int) (a : Option Addr) (cap : Nat), e = .returned (.slice a l.length cap) ∧ l.length ≤ m ∧ SlAt w' a l.length 1 (intF l) ∧ Below w.heap.size w w'
def StrQ (Q : ByteArray → Prop) (w : World) (e : Ending) (w' : World) : Prop := ∃ s : ByteArray, Q s ∧ e = .returned (.string s) ∧ Below w.heap.size w w'

end Go.Proofs.YtkifacpanipfhaaDoor
namespace Go.Proofs.YtkifacpanipfhaaDoor
open Go.RowKit

/-- A drawn tree of depth at most 4, all of it new. -/
def TrQ (w : World) (e : Ending) (w' : World) : Prop :=
  ∃ t vk vs fp, Drn 3 t ∧ e = .returned (.agg #[.int .i64 t.kind, .bool t.flag, .int .i64 t.num, .string t.text, vk, vs]) ∧ TreeOwn w' t vk vs fp ∧ fp.Nodup ∧ (∀ b, b ∈ fp → w.heap.size ≤ b) ∧ Below w.heap.size w w'
set_option maxRecDepth 100000 in
set_option maxHeartbeats 1000000 in
theorem drawTree (a : Option Addr) (n cap : Nat) (w : World) (hn : n ≤ 1048576) (hc : CodeAt w w.heap.size a n) : Calls Tryd.prog 8 #[.slice a n cap] w (TrQ w) := by
  have hz := ZeroAt.new w
  have hal := alloc_below w #[.int .i64 0, .bool false, .int .i64 0, .string ⟨#[]⟩, .slice none 0 0, .slice none 0 0] 27
  have HZ := Lib.hid (And.intro hz hal)
  have HC := Lib.hid (hc.keep hal)
  have HT := Lib.hid (show ∀ (g : Nat) (w : World), Cur w g → Calls Tryd.prog 36 #[.pointer (some ⟨g, 0, none⟩), .int .i64 4] w (TrP g 3 w) from fun g w hC => by
    have := tree_any 3 (by omega) g w hC
    simpa using this)
  clear hz hal hc
  go_enter Tryd.func8, Tryd.ntmps8
  go_wp2_with fail
  refine (l01New_any a n cap _ hn HC.out).mono ?_
  rintro e w1 ⟨g, rfl, hg, hc1, hb1⟩
  have H1 := Lib.hid (And.intro hg (And.intro hc1 (And.intro (bnext HZ.out.2 hb1) (HZ.out.1.keep hb1))))
  clear hg hc1 hb1 HC
  go_wp2_with fail
  refine (HT.out g _ H1.out.2.1).mono ?_
  rintro e w2 ⟨t, vk, vs, fp, hdr, rfl, hto, hnd, hge, hc2, ha2⟩
  obtain ⟨fk9, fs9, hfe9, hso9, hko9⟩ := treeOwn_iff.1 hto
  obtain ⟨a1, m1, rfl⟩ := str_shape hso9
  obtain ⟨a2, m2, rfl⟩ := kids_shape hko9
  clear hfe9 hso9 hko9
  have hgw : w.heap.size + 1 ≤ g := by have := H1.out.1; simpa using this
  have hs1 := H1.out.2.2.1.size
  have hz2 : ZeroAt w2 w.heap.size := ha2.row H1.out.2.2.2 (by simp; omega)
  obtain ⟨r0, r1, r2, r3, r4, r5⟩ := hz2.cells
  obtain ⟨g0, g1, g2, g3, g4, g5⟩ := hz2.frozen
  have H2 := Lib.hid (And.intro hdr (And.intro hto (And.intro hnd (And.intro hge (H1.out.2.2.1.trans (ha2.below hs1 (fun x hx => by simp at hx; omega)))))))
  have HLZ := Lib.hid H1.out.2.2.2.lt
  clear hdr hto hnd hge hc2 ha2 hz2
  go_wp2
  refine bodyPost_ret (v := .agg #[.int .i64 t.kind, .bool t.flag, .int .i64 t.num, .string t.text, .slice a1 t.keys.length m1, .slice a2 t.kids.length m2]) (by simp [results, Tryd.results8, go_sem, r0, r1, r2, r3, r4, r5]) rfl ?_
  obtain ⟨hdr, hto, hnd, hge, hb⟩ := H2.out
  have hlz := HLZ.out
  exact ⟨t, _, _, fp, hdr, rfl, TreeOwn.same _ _ _ _ hto fun x hx _ => put6w_heap _ _ _ _ _ _ _ _ _ (by have := hge x hx; omega), hnd, fun b hb' => by have := hge b hb'; omega, put6w_below hb _ (Nat.le_refl _) _ _ _ _ _ _⟩

/-! ### Plain laws -/
theorem sameStrs_refl : ∀ l : List ByteArray, sameStrs l l = true
  | [] => rfl
  | x :: xs => by simp [sameStrs, sameStrs_refl xs]
mutual
theorem sameTr_refl : ∀ t : Tr, sameTr t t = true
  | .mk k f n s ks kids => by simp [sameTr, sameStrs_refl ks, sameKids_refl kids]
theorem sameKids_refl : ∀ l : List Tr, sameKids l l = true
  | [] => rfl
  | t :: ts => by simp [sameKids, sameTr_refl t, sameKids_refl ts]
end
mutual
theorem same_nodes : ∀ t u : Tr, sameTr t u = true → t.nodes = u.nodes
  | .mk k f n s ks kids, .mk k' f' n' s' ks' kids', h => by
    simp only [sameTr, Bool.and_eq_true] at h
    have := same_nodesL kids kids' h.2.2.2.2.2
    simp only [Tr.nodes]; omega
theorem same_nodesL : ∀ l m : List Tr, sameKids l m = true → nodesL l = nodesL m
  | [], [], _ => rfl
  | [], _ :: _, h => by simp [sameKids] at h
  | _ :: _, [], h => by simp [sameKids] at h
  | t :: ts, u :: us, h => by
    simp only [sameKids, Bool.and_eq_true] at h
    have a := same_nodes t u h.1
    have b := same_nodesL ts us h.2
    simp only [nodesL]; omega
end
theorem two_nodes (t : Tr) : (listTr [t, t]).nodes = 1 + 2 * t.nodes := by simp only [listTr, Tr.nodes, nodesL]; omega
theorem two_depth (t : Tr) : (listTr [t, t]).depth = 1 + t.depth := by simp only [listTr, Tr.depth, depthL]; omega
theorem two_leaves (t : Tr) : (listTr [t, t]).leaves = 2 * t.leaves := by simp only [listTr, Tr.leaves, leavesL, List.isEmpty_cons]; simp; omega
theorem two_same (t : Tr) : sameTr t (listTr [t, t]) = false := by
  cases h : sameTr t (listTr [t, t])
  · rfl
  · have h1 := same_nodes _ _ h
    rw [two_nodes] at h1; have := nodes_pos t; omega
/-- Twice the same tree in one new block. -/
theorem two_in {w : World} {t : Tr} {vk vs : Value} (h : TreeIn w Any t vk vs) : KidsIn (w.alloc (.cells #[.int .i64 t.kind, .bool t.flag, .int .i64 t.num, .string t.text, vk, vs, .int .i64 t.kind, .bool t.flag, .int .i64 t.num, .string t.text, vk, vs] 27)) Any (.slice (some ⟨w.heap.size, 0, none⟩) 2 2) [t, t] := by
  have hr := World.rowIs_alloc w #[.int .i64 t.kind, .bool t.flag, .int .i64 t.num, .string t.text, vk, vs, .int .i64 t.kind, .bool t.flag, .int .i64 t.num, .string t.text, vk, vs] 27 (fun j => (#[.int .i64 t.kind, .bool t.flag, .int .i64 t.num, .string t.text, vk, vs, .int .i64 t.kind, .bool t.flag, .int .i64 t.num, .string t.text, vk, vs] : Array Value).getD j undef) (fun i hi => by
    rw [Array.getD_eq_getD_getElem?, Array.getElem?_eq_getElem hi]; rfl)
  have hk := h.keep (alloc_below w #[.int .i64 t.kind, .bool t.flag, .int .i64 t.num, .string t.text, vk, vs, .int .i64 t.kind, .bool t.flag, .int .i64 t.num, .string t.text, vk, vs] 27)
  refine ⟨some ⟨w.heap.size, 0, none⟩, 2, rfl, .inr ⟨w.heap.size, 0, rfl, trivial, ?_⟩⟩
  simp only [KidsAt, and_true]
  exact ⟨⟨vk, vs, ⟨hr.cell (i := 0) (by simp), hr.cell (i := 1) (by simp), hr.cell (i := 2) (by simp), hr.cell (i := 3) (by simp), hr.cell (i := 4) (by simp), hr.cell (i := 5) (by simp)⟩, hk⟩,
    ⟨vk, vs, ⟨hr.cell (i := 6) (by simp), hr.cell (i := 7) (by simp), hr.cell (i := 8) (by simp), hr.cell (i := 9) (by simp), hr.cell (i := 10) (by simp), hr.cell (i := 11) (by simp)⟩, hk⟩⟩

set_option maxRecDepth 100000 in
set_option maxHeartbeats 4000000 in
theorem lawTreeSizes {H : Type} {enc : TypeId × Value → H} {W : World} {base : Nat} {v : Value} {d : DataW H} {p : List MemPlace} (hval : Value.okWide Tryd.prog W .any base 22 v)
    (h : DataW.Trod enc Tryd.prog W 0 (fun _ => true) true 22 v d p) (ha : Lib.VarReads Tryd.prog W "unicode/utf8.acceptRanges" Rows.laid_unicode_utf8_acceptRanges) (hf : Lib.VarReads Tryd.prog W "unicode/utf8.first" Rows.laid_unicode_utf8_first) :
    Calls Tryd.prog 3 #[v] W fun e w' => e = .returned (.bool true) ∧ Below W.heap.size W w' := by
  obtain ⟨a, n, cap, rfl, hnm, hcode⟩ := openCode hval h
  have hT := tabs_of ha hf
  clear hval h ha hf hnm
  by_cases hn : n ≤ 1048576
  rotate_left
  · have hd : decide ((1048576 : Int) < (n : Int)) = true := decide_eq_true (by omega)
    clear hn hT hcode
    go_enter Tryd.func3, Tryd.ntmps3
    go_wp2_with (go_at_call 7; refine (big_any _ _ _ _).mono ?_; rintro e w' ⟨rfl, rfl⟩)
    go_ret
    exact ⟨rfl, Below.refl _ _⟩
  have hd : decide ((1048576 : Int) < (n : Int)) = false := decide_eq_false (by omega)
  have HN := Lib.hid hn; have HT := Lib.hid hT; have HC := Lib.hid hcode
  clear hn hT hcode
  go_enter Tryd.func3, Tryd.ntmps3
  go_wp2_with (go_at_call 7; refine (big_any _ _ _ _).mono ?_; rintro e w' ⟨rfl, rfl⟩)
  clear hd
  refine (drawTree a n cap _ HN.out HC.out).mono ?_
  rintro e w1 ⟨t, vk, vs, fp, hdr, rfl, hto, hnd, hge, hb1⟩
  obtain ⟨fk9, fs9, hfe9, hso9, hko9⟩ := treeOwn_iff.1 hto
  obtain ⟨a1, m1, rfl⟩ := str_shape hso9
  obtain ⟨a2, m2, rfl⟩ := kids_shape hko9
  clear hfe9 hso9 hko9
  have hti := hto.toIn (S := Any) _ _ _ _ (fun _ _ => trivial)
  have HD := Lib.hid (And.intro (drn_ok hdr) (drn_wt3 hdr))
  have HI := Lib.hid hti
  have HB1 := Lib.hid hb1
  clear hto hnd hge hdr hb1 HC HN
  have hs3 := Spill.new w1 t (.slice a1 t.keys.length m1) (.slice a2 t.kids.length m2) 27
  have hal3 := alloc_below w1 #[.int .i64 t.kind, .bool t.flag, .int .i64 t.num, .string t.text, .slice a1 t.keys.length m1, .slice a2 t.kids.length m2] 27
  obtain ⟨p0, p1, p2, p3, p4, p5⟩ := hs3.cells
  have H3 := Lib.hid (And.intro hs3 (And.intro (bnext HB1.out hal3) (HI.out.keep hal3)))
  have HTW := Lib.hid (two_in H3.out.2.2)
  have HAL4 := Lib.hid (alloc_below (w1.alloc (.cells #[.int .i64 t.kind, .bool t.flag, .int .i64 t.num, .string t.text, .slice a1 t.keys.length m1, .slice a2 t.kids.length m2] 27)) #[.int .i64 t.kind, .bool t.flag, .int .i64 t.num, .string t.text, .slice a1 t.keys.length m1, .slice a2 t.kids.length m2, .int .i64 t.kind, .bool t.flag, .int .i64 t.num, .string t.text, .slice a1 t.keys.length m1, .slice a2 t.kids.length m2] 27)
  have HLT := Lib.hid (show Calls Tryd.prog 9 #[.slice (some ⟨w1.heap.size + 1, 0, none⟩) 2 2] ((w1.alloc (.cells #[.int .i64 t.kind, .bool t.flag, .int .i64 t.num, .string t.text, .slice a1 t.keys.length m1, .slice a2 t.kids.length m2] 27)).alloc (.cells #[.int .i64 t.kind, .bool t.flag, .int .i64 t.num, .string t.text, .slice a1 t.keys.length m1, .slice a2 t.kids.length m2, .int .i64 t.kind, .bool t.flag, .int .i64 t.num, .string t.text, .slice a1 t.keys.length m1, .slice a2 t.kids.length m2] 27)) fun e w' => TreeNew (w1.heap.size + 1 + 1) (listTr [t, t]) e w' ∧ Below ((w1.alloc (.cells #[.int .i64 t.kind, .bool t.flag, .int .i64 t.num, .string t.text, .slice a1 t.keys.length m1, .slice a2 t.kids.length m2] 27)).alloc (.cells #[.int .i64 t.kind, .bool t.flag, .int .i64 t.num, .string t.text, .slice a1 t.keys.length m1, .slice a2 t.kids.length m2, .int .i64 t.kind, .bool t.flag, .int .i64 t.num, .string t.text, .slice a1 t.keys.length m1, .slice a2 t.kids.length m2] 27)).heap.size ((w1.alloc (.cells #[.int .i64 t.kind, .bool t.flag, .int .i64 t.num, .string t.text, .slice a1 t.keys.length m1, .slice a2 t.kids.length m2] 27)).alloc (.cells #[.int .i64 t.kind, .bool t.flag, .int .i64 t.num, .string t.text, .slice a1 t.keys.length m1, .slice a2 t.kids.length m2, .int .i64 t.kind, .bool t.flag, .int .i64 t.num, .string t.text, .slice a1 t.keys.length m1, .slice a2 t.kids.length m2] 27)) w' from by
    have h := iListTree [t, t] Any _ 2 _ (by have := HD.out.2; simp only [wtL, List.length_cons, List.length_nil]; omega) HTW.out
    simp only [World.size_alloc] at h
    simp only [World.size_alloc]
    exact h)
  clear hs3 hal3 hti
  go_wp2_with fail
  refine HLT.out.mono ?_
  rintro e w2 ⟨⟨lk, lsv, fq, rfl, hlo, hln, hlg⟩, hb2⟩
  obtain ⟨fk9, fs9, hfe9, hso9, hko9⟩ := treeOwn_iff.1 hlo
  obtain ⟨a3, m3, rfl⟩ := str_shape hso9
  obtain ⟨a4, m4, rfl⟩ := kids_shape hko9
  clear hfe9 hso9 hko9
  have hul := hlo.toIn (S := Any) _ _ _ _ (fun _ _ => trivial)
  have hb4 := bnext HAL4.out hb2
  have hal5 := alloc_below w2 #[.int .i64 (listTr [t, t]).kind, .bool (listTr [t, t]).flag, .int .i64 (listTr [t, t]).num, .string (listTr [t, t]).text, .slice a3 (listTr [t, t]).keys.length m3, .slice a4 (listTr [t, t]).kids.length m4] 27
  have hb5 := bnext hb4 hal5
  have hs5 := Spill.new w2 (listTr [t, t]) (.slice a3 (listTr [t, t]).keys.length m3) (.slice a4 (listTr [t, t]).kids.length m4) 27
  have H5 := Lib.hid (And.intro (H3.out.1.keep hb5) (And.intro hs5 (And.intro (bnext H3.out.2.1 hb5) (And.intro (H3.out.2.2.keep hb5) (hul.keep hal5)))))
  have HT5 := Lib.hid (tabs_keep HT.out (bnext H3.out.2.1 hb5))
  clear hlo hln hlg hb2 hul hb4 hal5 hb5 hs5 p0 p1 p2 p3 p4 p5 HTW HAL4 H3 HI HB1 HT
  go_upto_region 5 with fail
  generalize w2.alloc (.cells #[.int .i64 (listTr [t, t]).kind, .bool (listTr [t, t]).flag, .int .i64 (listTr [t, t]).num, .string (listTr [t, t]).text, .slice a3 (listTr [t, t]).keys.length m3, .slice a4 (listTr [t, t]).kids.length m4] 27) = w3 at H5 HT5 ⊢
  obtain ⟨p0, p1, p2, p3, p4, p5⟩ := H5.out.1.cells
  obtain ⟨q0, q1, q2, q3, q4, q5⟩ := H5.out.2.1.cells
  have p0a := aft_cell p0
  have p1a := aft_cell p1
  have p2a := aft_cell p2
  have p3a := aft_cell p3
  have p4a := aft_cell p4
  have p5a := aft_cell p5
  have q0a := aft_cell q0
  have q1a := aft_cell q1
  have q2a := aft_cell q2
  have q3a := aft_cell q3
  have q4a := aft_cell q4
  have q5a := aft_cell q5
  have hnn := HD.out.1.2
  have hdd : t.depth ≤ 100 := by have := depth_nodes t; omega
  have hll : t.leaves ≤ 100 := by have := leaves_nodes t; omega
  have HB5 := Lib.hid H5.out.2.2.1
  have C1 := Lib.hid (show ∀ x : Aft w3, Calls Tryd.prog 10 #[.agg #[.int .i64 (listTr [t, t]).kind, .bool (listTr [t, t]).flag, .int .i64 (listTr [t, t]).num, .string (listTr [t, t]).text, .slice a3 (listTr [t, t]).keys.length m3, .slice a4 (listTr [t, t]).kids.length m4]] x.now fun e w' => e = .returned (.int .i64 (1 + 2 * (t.nodes : Int))) ∧ Below x.now.heap.size x.now w' from fun x => by
    have := iTreeSize _ (listTr [t, t]) Any (.slice a3 (listTr [t, t]).keys.length m3) (.slice a4 (listTr [t, t]).kids.length m4) x.now (Nat.le_refl _) (by rw [two_nodes]; omega) (H5.out.2.2.2.2.keep x.bel)
    rw [two_nodes] at this
    simpa using this)
  have C2 := Lib.hid (fun x : Aft w3 => sTreeSize _ t Any (.slice a1 t.keys.length m1) (.slice a2 t.kids.length m2) x.now (Nat.le_refl _) (by omega) (H5.out.2.2.2.1.keep x.bel))
  have C3 := Lib.hid (show ∀ x : Aft w3, Calls Tryd.prog 12 #[.agg #[.int .i64 (listTr [t, t]).kind, .bool (listTr [t, t]).flag, .int .i64 (listTr [t, t]).num, .string (listTr [t, t]).text, .slice a3 (listTr [t, t]).keys.length m3, .slice a4 (listTr [t, t]).kids.length m4]] x.now fun e w' => e = .returned (.int .i64 (1 + (t.depth : Int))) ∧ Below x.now.heap.size x.now w' from fun x => by
    have := iTreeDepth _ (listTr [t, t]) Any (.slice a3 (listTr [t, t]).keys.length m3) (.slice a4 (listTr [t, t]).kids.length m4) x.now (Nat.le_refl _) (by rw [two_nodes]; omega) (H5.out.2.2.2.2.keep x.bel)
    rw [two_depth] at this
    simpa using this)
  have C4 := Lib.hid (fun x : Aft w3 => sTreeDepth _ t Any (.slice a1 t.keys.length m1) (.slice a2 t.kids.length m2) x.now (Nat.le_refl _) (by omega) (H5.out.2.2.2.1.keep x.bel))
  have C5 := Lib.hid (show ∀ x : Aft w3, Calls Tryd.prog 14 #[.agg #[.int .i64 (listTr [t, t]).kind, .bool (listTr [t, t]).flag, .int .i64 (listTr [t, t]).num, .string (listTr [t, t]).text, .slice a3 (listTr [t, t]).keys.length m3, .slice a4 (listTr [t, t]).kids.length m4]] x.now fun e w' => e = .returned (.int .i64 (2 * (t.leaves : Int))) ∧ Below x.now.heap.size x.now w' from fun x => by
    have := iLeavesOf _ (listTr [t, t]) Any (.slice a3 (listTr [t, t]).keys.length m3) (.slice a4 (listTr [t, t]).kids.length m4) x.now (Nat.le_refl _) (by rw [two_nodes]; omega) (H5.out.2.2.2.2.keep x.bel)
    rw [two_leaves] at this
    simpa using this)
  have C6 := Lib.hid (fun x : Aft w3 => sLeavesOf _ t Any (.slice a1 t.keys.length m1) (.slice a2 t.kids.length m2) x.now (Nat.le_refl _) (by omega) (H5.out.2.2.2.1.keep x.bel))
  have C7 := Lib.hid (fun x : Aft w3 => by
    have := sameT _ t t Any Any (.slice a1 t.keys.length m1) (.slice a2 t.kids.length m2) (.slice a1 t.keys.length m1) (.slice a2 t.kids.length m2) x.now (Nat.le_refl _) (by have := HD.out.2; omega) (H5.out.2.2.2.1.keep x.bel) (H5.out.2.2.2.1.keep x.bel)
    rw [sameTr_refl] at this; exact this)
  have C8 := Lib.hid (fun x : Aft w3 => by
    have := sameT _ t (listTr [t, t]) Any Any (.slice a1 t.keys.length m1) (.slice a2 t.kids.length m2) (.slice a3 (listTr [t, t]).keys.length m3) (.slice a4 (listTr [t, t]).kids.length m4) x.now (Nat.le_refl _) (by have := HD.out.2; omega) (H5.out.2.2.2.1.keep x.bel) (H5.out.2.2.2.2.keep x.bel)
    rw [two_same] at this; exact this)
  have C9 := Lib.hid (fun x : Aft w3 => by
    have := iTreeOk t Any (.slice a1 t.keys.length m1) (.slice a2 t.kids.length m2) x.now (by omega) (H5.out.2.2.2.1.keep x.bel) (tabs_keep HT5.out x.bel)
    rw [HD.out.1.1] at this; exact this)
  have CA := Lib.hid (fun x : Aft w3 => iTextTree ⟨#[97]⟩ x.now)
  have CB := Lib.hid (show ∀ x : Aft w3, Calls Tryd.prog 10 #[.agg #[.int .i64 4, .bool false, .int .i64 0, .string ⟨#[97]⟩, .slice none 0 0, .slice none 0 0]] x.now fun e w' => e = .returned (.int .i64 1) ∧ Below x.now.heap.size x.now w' from fun x => by
    have := iTreeSize 1 (.mk 4 false 0 ⟨#[97]⟩ [] []) Any (.slice none 0 0) (.slice none 0 0) x.now (by simp [Tr.nodes, nodesL]) (by simp [Tr.nodes, nodesL]) (leaf_in _ _ _ _ _)
    simpa [Tr.kind, Tr.flag, Tr.num, Tr.text, Tr.nodes, nodesL] using this)
  have CC := Lib.hid (fun x : Aft w3 => iIntTree 5 x.now)
  clear H5 HT5 HD p0 p1 p2 p3 p4 p5 q0 q1 q2 q3 q4 q5
  generalize t.nodes = N1 at C1 C2 hnn
  generalize t.depth = N2 at C3 C4 hdd
  generalize t.leaves = N3 at C5 C6 hll
  have u1 : IntKind.i64.wrap (2 * (N1 : Int)) = 2 * (N1 : Int) := IntWalk.i64_in _ (by omega)
  have u2 : IntKind.i64.wrap (1 + 2 * (N1 : Int)) = 1 + 2 * (N1 : Int) := IntWalk.i64_in _ (by omega)
  have u3 : IntKind.i64.wrap (1 + (N2 : Int)) = 1 + (N2 : Int) := IntWalk.i64_in _ (by omega)
  have u4 : IntKind.i64.wrap (2 * (N3 : Int)) = 2 * (N3 : Int) := IntWalk.i64_in _ (by omega)
  refine wp_region_soft_lit (by kernel_rfl) (by kernel_rfl) ?_
  iterate 1 (go_big_quiet_step (fail))
  iterate 1 (go_big_quiet_step ((go_at_call 10; exact soft_call (C1.out _))))
  iterate 1 (go_big_quiet_step (fail))
  iterate 1 (go_big_quiet_step ((go_at_call 11; exact soft_call (C2.out _))))
  iterate 4 (go_big_quiet_step (fail))
  iterate 1 (go_big_quiet_step (fail))
  iterate 1 (go_big_quiet_step ((go_at_call 12; exact soft_call (C3.out _))))
  iterate 1 (go_big_quiet_step (fail))
  iterate 1 (go_big_quiet_step ((go_at_call 13; exact soft_call (C4.out _))))
  iterate 4 (go_big_quiet_step (fail))
  iterate 1 (go_big_quiet_step (fail))
  iterate 1 (go_big_quiet_step ((go_at_call 14; exact soft_call (C5.out _))))
  iterate 1 (go_big_quiet_step (fail))
  iterate 1 (go_big_quiet_step ((go_at_call 15; exact soft_call (C6.out _))))
  iterate 4 (go_big_quiet_step (fail))
  iterate 2 (go_big_quiet_step (fail))
  iterate 1 (go_big_quiet_step ((go_at_call 16; exact soft_call (C7.out _))))
  iterate 2 (go_big_quiet_step (fail))
  iterate 2 (go_big_quiet_step (fail))
  iterate 1 (go_big_quiet_step ((go_at_call 16; exact soft_call (C8.out _))))
  iterate 3 (go_big_quiet_step (fail))
  iterate 1 (go_big_quiet_step (fail))
  iterate 1 (go_big_quiet_step ((go_at_call 17; exact soft_call (C9.out _))))
  iterate 2 (go_big_quiet_step (fail))
  iterate 1 (go_big_quiet_step ((go_at_call 18; exact soft_call (CA.out _))))
  iterate 1 (go_big_quiet_step ((go_at_call 10; exact soft_call (CB.out _))))
  iterate 3 (go_big_quiet_step (fail))
  iterate 1 (go_big_quiet_step ((go_at_call 19; exact soft_call (CC.out _))))
  iterate 1 (go_big_quiet_step ((first | (go_simp; done) | (go_simp; exact ⟨rfl, rfl⟩) | (simp [go_sem]; done) | (simp [go_sem]; exact ⟨rfl, rfl⟩) | (trace_state; fail))))
  iterate 3 (go_big_quiet_step (fail))
  refine wpQuiet_nil ?_
  intro _ hw'
  obtain ⟨xq, hw''⟩ := hw'
  subst hw''
  go_wp2
  go_ret
  exact ⟨rfl, bnext HB5.out xq.bel⟩

end Go.Proofs.YtkifacpanipfhaaDoor
