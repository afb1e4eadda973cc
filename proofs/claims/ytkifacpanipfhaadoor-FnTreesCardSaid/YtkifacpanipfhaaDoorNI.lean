/- PutI, merged. -/
import Derived.Test.YtkifacpanipfhaaDoorNC
import Derived.Test.YtkifacpanipfhaaDoorNS
namespace Go.Proofs.YtkifacpanipfhaaDoor
open Go.RowKit

theorem putK_hit {key : ByteArray} {l : List ByteArray} (h : hitK key l = true) : putK key l = l := by
  obtain ⟨h1, h2⟩ := hit_eq h
  have hn : hitN key l = 1 := if_pos h
  rw [putK, hn]
  have e : l.drop (posK key l) = strAt l (posK key l) :: l.drop (posK key l + 1) := by
    rw [strAt, List.getD_eq_getElem?_getD, List.getElem?_eq_getElem h1]
    exact List.drop_eq_getElem_cons h1
  rw [h2] at e
  rw [← e, List.take_append_drop]
theorem putT_hit {key : ByteArray} {l : List ByteArray} {kid : Tr} {kids : List Tr} (h : hitK key l = true) : putT key l kid kids = kids.take (posK key l) ++ kid :: kids.drop (posK key l + 1) := by
  rw [putT, show hitN key l = 1 from if_pos h]
theorem putT_miss {key : ByteArray} {l : List ByteArray} {kid : Tr} {kids : List Tr} (h : hitK key l = false) : putT key l kid kids = kids.take (posK key l) ++ kid :: kids.drop (posK key l) := by
  rw [putT, show hitN key l = 0 from if_neg (by simp [h])]; rfl
theorem putK_miss {key : ByteArray} {l : List ByteArray} (h : hitK key l = false) : putK key l = l.take (posK key l) ++ key :: l.drop (posK key l) := by
  rw [putK, show hitN key l = 0 from if_neg (by simp [h])]; rfl
theorem map_put (l : List ByteArray) (key : ByteArray) (p : Nat) : (l.map Value.string).take p ++ ([Value.string key] ++ (l.map Value.string).drop p) = (l.take p ++ key :: l.drop p).map Value.string := by
  simp
theorem row_shape {w : World} {B e size : Nat} {v : Value} {n : Nat} {xs : List Value} (h : w.ownsRow B e size v n xs) : ∃ a c, v = .slice a n c := by
  rcases h.2 with ⟨rfl, rfl⟩ | ⟨g, cap, cur, rfl, _⟩
  · exact ⟨_, _, rfl⟩
  · exact ⟨_, _, rfl⟩
theorem mk_eta (t : Tr) : Tr.mk t.kind t.flag t.num t.text t.keys t.kids = t := by cases t; rfl
def mapT : Tr := .mk 6 false 0 noS [] []

set_option maxRecDepth 100000 in
set_option maxHeartbeats 16000000 in
theorem iPutKid (t kid : Tr) (S S' : Nat → Prop) (key : ByteArray) (vk vs wk ws : Value) (w : World) (hw : t.wt ≤ 1048576) (hw' : kid.wt ≤ 1048576) (hn : t.nodes + kid.nodes ≤ 1999990) (ht : TreeIn w S t vk vs) (ht' : TreeIn w S' kid wk ws) (hT : Tabs w) :
    Calls Tryd.prog 21 #[.agg #[.int .i64 t.kind, .bool t.flag, .int .i64 t.num, .string t.text, vk, vs], .string key, .agg #[.int .i64 kid.kind, .bool kid.flag, .int .i64 kid.num, .string kid.text, wk, ws]] w fun e w' => TreeNew2 w.heap.size (putR t key kid) (putOk t key kid) e w' ∧ Below w.heap.size w w' := by
  obtain ⟨hk, hs⟩ := treeIn_iff.1 ht
  obtain ⟨a1, m1, rfl⟩ := hk.len
  obtain ⟨a2, m2, rfl⟩ := hs.len
  obtain ⟨hk', hs'⟩ := treeIn_iff.1 ht'
  obtain ⟨c1, d1, rfl⟩ := hk'.len
  obtain ⟨c2, d2, rfl⟩ := hs'.len
  clear hk' hs' hk hs
  have hz := ZeroAt.new ((w.alloc (.cells #[.int .i64 t.kind, .bool t.flag, .int .i64 t.num, .string t.text, .slice a1 t.keys.length m1, .slice a2 t.kids.length m2] 27)).alloc (.cells #[.int .i64 kid.kind, .bool kid.flag, .int .i64 kid.num, .string kid.text, .slice c1 kid.keys.length d1, .slice c2 kid.kids.length d2] 27))
  have hal : Below w.heap.size w (((w.alloc (.cells #[.int .i64 t.kind, .bool t.flag, .int .i64 t.num, .string t.text, .slice a1 t.keys.length m1, .slice a2 t.kids.length m2] 27)).alloc (.cells #[.int .i64 kid.kind, .bool kid.flag, .int .i64 kid.num, .string kid.text, .slice c1 kid.keys.length d1, .slice c2 kid.kids.length d2] 27)).alloc (.cells #[.int .i64 0, .bool false, .int .i64 0, .string ⟨#[]⟩, .slice none 0 0, .slice none 0 0] 27)) := by repeat (first | exact Below.refl _ _ | (refine Below.alloc ?_ (by first | omega | (simp; done) | (simp; omega)) _) | (refine Below.setCell ?_ (by first | omega | (simp; done) | (simp; omega)) _) | (refine Below.drew ?_) | (refine below_drewN ?_ _))
  have hal2 : Below (w.alloc (.cells #[.int .i64 t.kind, .bool t.flag, .int .i64 t.num, .string t.text, .slice a1 t.keys.length m1, .slice a2 t.kids.length m2] 27)).heap.size (w.alloc (.cells #[.int .i64 t.kind, .bool t.flag, .int .i64 t.num, .string t.text, .slice a1 t.keys.length m1, .slice a2 t.kids.length m2] 27)) (((w.alloc (.cells #[.int .i64 t.kind, .bool t.flag, .int .i64 t.num, .string t.text, .slice a1 t.keys.length m1, .slice a2 t.kids.length m2] 27)).alloc (.cells #[.int .i64 kid.kind, .bool kid.flag, .int .i64 kid.num, .string kid.text, .slice c1 kid.keys.length d1, .slice c2 kid.kids.length d2] 27)).alloc (.cells #[.int .i64 0, .bool false, .int .i64 0, .string ⟨#[]⟩, .slice none 0 0, .slice none 0 0] 27)) := by repeat (first | exact Below.refl _ _ | (refine Below.alloc ?_ (by first | omega | (simp; done) | (simp; omega)) _) | (refine Below.setCell ?_ (by first | omega | (simp; done) | (simp; omega)) _) | (refine Below.drew ?_) | (refine below_drewN ?_ _))
  have hal3 : Below ((w.alloc (.cells #[.int .i64 t.kind, .bool t.flag, .int .i64 t.num, .string t.text, .slice a1 t.keys.length m1, .slice a2 t.kids.length m2] 27)).alloc (.cells #[.int .i64 kid.kind, .bool kid.flag, .int .i64 kid.num, .string kid.text, .slice c1 kid.keys.length d1, .slice c2 kid.kids.length d2] 27)).heap.size ((w.alloc (.cells #[.int .i64 t.kind, .bool t.flag, .int .i64 t.num, .string t.text, .slice a1 t.keys.length m1, .slice a2 t.kids.length m2] 27)).alloc (.cells #[.int .i64 kid.kind, .bool kid.flag, .int .i64 kid.num, .string kid.text, .slice c1 kid.keys.length d1, .slice c2 kid.kids.length d2] 27)) (((w.alloc (.cells #[.int .i64 t.kind, .bool t.flag, .int .i64 t.num, .string t.text, .slice a1 t.keys.length m1, .slice a2 t.kids.length m2] 27)).alloc (.cells #[.int .i64 kid.kind, .bool kid.flag, .int .i64 kid.num, .string kid.text, .slice c1 kid.keys.length d1, .slice c2 kid.kids.length d2] 27)).alloc (.cells #[.int .i64 0, .bool false, .int .i64 0, .string ⟨#[]⟩, .slice none 0 0, .slice none 0 0] 27)) := by repeat (first | exact Below.refl _ _ | (refine Below.alloc ?_ (by first | omega | (simp; done) | (simp; omega)) _) | (refine Below.setCell ?_ (by first | omega | (simp; done) | (simp; omega)) _) | (refine Below.drew ?_) | (refine below_drewN ?_ _))
  have hs0 := (Spill.new w t (.slice a1 t.keys.length m1) (.slice a2 t.kids.length m2) 27).keep hal2
  have hs1 := (Spill.new (w.alloc (.cells #[.int .i64 t.kind, .bool t.flag, .int .i64 t.num, .string t.text, .slice a1 t.keys.length m1, .slice a2 t.kids.length m2] 27)) kid (.slice c1 kid.keys.length d1) (.slice c2 kid.kids.length d2) 27).keep hal3
  have hsz : (((w.alloc (.cells #[.int .i64 t.kind, .bool t.flag, .int .i64 t.num, .string t.text, .slice a1 t.keys.length m1, .slice a2 t.kids.length m2] 27)).alloc (.cells #[.int .i64 kid.kind, .bool kid.flag, .int .i64 kid.num, .string kid.text, .slice c1 kid.keys.length d1, .slice c2 kid.kids.length d2] 27)).alloc (.cells #[.int .i64 0, .bool false, .int .i64 0, .string ⟨#[]⟩, .slice none 0 0, .slice none 0 0] 27)).heap.size = w.heap.size + 1 + 1 + 1 := by simp only [World.size_alloc]
  simp only [World.size_alloc] at hz hs1
  have hin := ht.keep hal
  have hin' := ht'.keep hal
  have hT3 := tabs_keep hT hal
  obtain ⟨W3, hW3⟩ : ∃ W3, W3 = (((w.alloc (.cells #[.int .i64 t.kind, .bool t.flag, .int .i64 t.num, .string t.text, .slice a1 t.keys.length m1, .slice a2 t.kids.length m2] 27)).alloc (.cells #[.int .i64 kid.kind, .bool kid.flag, .int .i64 kid.num, .string kid.text, .slice c1 kid.keys.length d1, .slice c2 kid.kids.length d2] 27)).alloc (.cells #[.int .i64 0, .bool false, .int .i64 0, .string ⟨#[]⟩, .slice none 0 0, .slice none 0 0] 27)) := ⟨_, rfl⟩
  rw [← hW3] at hz hs0 hs1 hal hsz hin hin' hT3
  have H3 := Lib.hid (And.intro hs0 (And.intro hs1 (And.intro hz (And.intro hal hsz))))
  have HIN := Lib.hid (And.intro hin (And.intro hin' hT3))
  have HW := Lib.hid (And.intro hw hw')
  have HW3 := Lib.hid hW3
  have HCP := Lib.hid (copyTop t S _ _ W3 hw hin)
  have HNN := Lib.hid hn
  clear hz hs0 hs1 hal hal2 hal3 hsz hin hin' hT3 hW3 hw hw' ht ht' hT
  by_cases h6 : t.kind = 6
  rotate_left
  · have z1 : (t.kind == 6) = false := by rw [beq_eq_false_iff_ne]; exact h6
    have z2 : (t.kind != 6) = true := by rw [bne, z1]; rfl
    have HC := Lib.hid (show putOk t key kid = false by rw [putOk, z1]; rfl)
    clear h6 hn
    go_enter Tryd.func21, Tryd.ntmps21
    go_wp2_with fail
    rw [← HW3.out]
    refine HCP.out.mono ?_
    rintro e w4 ⟨⟨ck, cs, ff, rfl, hck, hcs, hsep⟩, hb4⟩
    obtain ⟨a5, n5, rfl⟩ := row_shape hck
    obtain ⟨fs9, hko9, hnd9, hge9⟩ := hcs.own
    obtain ⟨a6, n6, rfl⟩ := kids_shape hko9
    clear hko9 hnd9 hge9
    have HP5 := Lib.hid (PI.start hck hcs hsep hb4)
    clear hck hcs hsep hb4
    obtain ⟨p0, p1, p2, p3, p4, p5⟩ := (H3.out.1.keep HP5.out.bel).cells
    obtain ⟨q0, q1, q2, q3, q4, q5⟩ := HP5.out.out.cells
    have hz9 := H3.out.2.2.1.keep HP5.out.bel
    obtain ⟨r0, r1, r2, r3, r4, r5⟩ := hz9.cells
    obtain ⟨g0, g1, g2, g3, g4, g5⟩ := hz9.frozen
    clear hz9
    go_wp2_with fail
    refine bodyPost_ret (v := .tuple #[.agg #[.int .i64 t.kind, .bool t.flag, .int .i64 t.num, .string t.text, .slice a5 t.keys.length n5, .slice a6 t.kids.length n6], .bool false]) (by first | (simp [results, Tryd.results21, go_sem]; done) | simp [results, Tryd.results21, go_sem, r0, r1, r2, r3, r4, r5]) rfl ?_
    obtain ⟨fp, hto, hnd, hge⟩ := HP5.out.tree
    rw [mk_eta] at hto
    have hsz := H3.out.2.2.2.2
    rw [HC.out, put_no HC.out]
    exact put6w_new2 (b := w.heap.size + 1 + 1) hto hnd (fun x hx => by have := hge x hx; exact ⟨by omega, by omega⟩) (bnext H3.out.2.2.2.1 HP5.out.bel) (by omega) false _ _ _ _ _ _
  have z1 : (t.kind == 6) = true := by rw [h6]; rfl
  have z2 : (t.kind != 6) = false := by rw [bne, z1]; rfl
  have HOK := Lib.hid (fun w0 (hb : Below W3.heap.size W3 w0) => iTreeOk t S (.slice a1 t.keys.length m1) (.slice a2 t.kids.length m2) w0 (by omega) (HIN.out.1.keep hb) (tabs_keep HIN.out.2.2 hb))
  have HPO : Hid (putOk t key kid = (t.kind == 6 && (treeOkB t && treeOkB (putO t key kid)))) := rfl
  cases hok : treeOkB t
  · rw [hok] at HOK
    have HC := Lib.hid (show putOk t key kid = false by rw [HPO.out, hok]; simp)
    clear h6 hn hok HPO
    go_enter Tryd.func21, Tryd.ntmps21
    go_wp2_with fail
    rw [← HW3.out]
    refine HCP.out.mono ?_
    rintro e w4 ⟨⟨ck, cs, ff, rfl, hck, hcs, hsep⟩, hb4⟩
    obtain ⟨a5, n5, rfl⟩ := row_shape hck
    obtain ⟨fs9, hko9, hnd9, hge9⟩ := hcs.own
    obtain ⟨a6, n6, rfl⟩ := kids_shape hko9
    clear hko9 hnd9 hge9
    have HP5 := Lib.hid (PI.start hck hcs hsep hb4)
    clear hck hcs hsep hb4
    obtain ⟨p0, p1, p2, p3, p4, p5⟩ := (H3.out.1.keep HP5.out.bel).cells
    go_wp2_with fail
    refine (HOK.out _ HP5.out.bel).mono ?_; rintro e w6 ⟨rfl, hb6⟩
    have HP6 := Lib.hid (HP5.out.keep hb6)
    clear hb6 p0 p1 p2 p3 p4 p5
    obtain ⟨q0, q1, q2, q3, q4, q5⟩ := HP6.out.out.cells
    have hz9 := H3.out.2.2.1.keep HP6.out.bel
    obtain ⟨r0, r1, r2, r3, r4, r5⟩ := hz9.cells
    obtain ⟨g0, g1, g2, g3, g4, g5⟩ := hz9.frozen
    clear hz9
    go_wp2_with fail
    refine bodyPost_ret (v := .tuple #[.agg #[.int .i64 t.kind, .bool t.flag, .int .i64 t.num, .string t.text, .slice a5 t.keys.length n5, .slice a6 t.kids.length n6], .bool false]) (by first | (simp [results, Tryd.results21, go_sem]; done) | simp [results, Tryd.results21, go_sem, r0, r1, r2, r3, r4, r5]) rfl ?_
    obtain ⟨fp, hto, hnd, hge⟩ := HP6.out.tree
    rw [mk_eta] at hto
    have hsz := H3.out.2.2.2.2
    rw [HC.out, put_no HC.out]
    exact put6w_new2 (b := w.heap.size + 1 + 1) hto hnd (fun x hx => by have := hge x hx; exact ⟨by omega, by omega⟩) (bnext H3.out.2.2.2.1 HP6.out.bel) (by omega) false _ _ _ _ _ _
  rw [hok] at HOK
  have hsh : shapeB t = true := by simp only [treeOkB, Bool.and_eq_true] at hok; exact hok.2.2
  have hnn : t.nodes ≤ 300 := by simp only [treeOkB, Bool.and_eq_true, decide_eq_true_eq] at hok; exact hok.2.1
  have hkl2 : t.kids.length ≤ 300 := by have := nodes_eq t; have := len_nodes t.kids; omega
  have hlk : t.keys.length = t.kids.length := (head_kind (shape_parts hsh).1).2.2.2.1 h6
  have HSO := Lib.hid (sorted_keys (shape_parts hsh).2.1)
  have HMP := Lib.hid (show t.kind = mapT.kind ∧ t.flag = mapT.flag ∧ t.num = mapT.num ∧ t.text = mapT.text from ⟨h6, (map_plain (shape_parts hsh).1 h6).1, (map_plain (shape_parts hsh).1 h6).2.1, (map_plain (shape_parts hsh).1 h6).2.2⟩)
  have HLK := Lib.hid hlk
  have HPL := Lib.hid (pos_le key t.keys)
  have HPO2 := Lib.hid (show putOk t key kid = treeOkB (putO t key kid) by rw [HPO.out, z1, hok]; simp)
  have HNP := Lib.hid (show (putO t key kid).nodes ≤ 2000000 by have := putO_nodes t key kid; omega)
  clear hok hsh hnn h6 hn hlk
  go_enter Tryd.func21, Tryd.ntmps21
  go_wp2_with fail
  rw [← HW3.out]
  refine HCP.out.mono ?_
  rintro e w4 ⟨⟨ck, cs, ff, rfl, hck, hcs, hsep⟩, hb4⟩
  obtain ⟨a5, n5, rfl⟩ := row_shape hck
  obtain ⟨fs9, hko9, hnd9, hge9⟩ := hcs.own
  obtain ⟨a6, n6, rfl⟩ := kids_shape hko9
  clear hko9 hnd9 hge9
  have HP5 := Lib.hid (PI.start hck hcs hsep hb4)
  clear hck hcs hsep hb4
  obtain ⟨p0, p1, p2, p3, p4, p5⟩ := (H3.out.1.keep HP5.out.bel).cells
  go_wp2_with fail
  refine (HOK.out _ HP5.out.bel).mono ?_; rintro e w6 ⟨rfl, hb6⟩
  have HP6 := Lib.hid ((HP5.out.keep hb6).same HMP.out)
  clear hb6 p0 p1 p2 p3 p4 p5 HP5
  have q4 := HP6.out.out.cells.2.2.2.2.1
  have hbz := HP6.out.size
  have hbh := HP6.out.hi
  have hkin : StrsIn w6 Any (.slice a5 t.keys.length n5) t.keys := by obtain ⟨fk, h1, -, -⟩ := strOwn2 HP6.out.keys; exact h1.toIn (fun _ _ => trivial)
  have HSE := Lib.hid (searchK key HSO.out (by have := HLK.out; omega) hkin)
  clear hkin
  go_wp2_with fail
  refine HSE.out.mono ?_; rintro e w7 ⟨rfl, nq, rfl⟩
  have HP7 := Lib.hid (HP6.out.keep (show Below w6.heap.size w6 (w6.drewN nq) from ⟨rfl, rfl, rfl, Nat.le_refl _, fun _ _ => rfl⟩))
  clear q4 HP6 HSE hbz
  generalize w6.drewN nq = w7 at HP7 ⊢
  generalize w4.heap.size = b8 at HP7 hbh ⊢
  go_upto_if 29 with fail
  go_cut [9, 10] from 22 to 56 (fun s9 s10 wx => ∃ (vk1 vs1 : Value) (f1 : List Nat), Hid (PI W3 b8 wx mapT (putK key t.keys) (putT key t.keys kid t.kids) vk1 vs1 f1))
  case first =>
    cases hh : hitK key t.keys
    rotate_left
    · have hpos : posK key t.keys < t.kids.length := by have := (hit_eq hh).1; have := HLK.out; omega
      obtain ⟨g, cap, hvs⟩ : ∃ g cap, (.slice a6 t.kids.length n6 : Value) = .slice (some ⟨g, 0, none⟩) t.kids.length cap := by
        obtain ⟨xs, x1, -, -, -⟩ := HP7.out.kids
        rcases x1.2 with ⟨-, h0⟩ | ⟨g, cap, cur, e, -⟩
        · omega
        · exact ⟨g, cap, e⟩
      simp only [Value.slice.injEq, true_and] at hvs
      obtain ⟨rfl, rfl⟩ := hvs
      have q5 := HP7.out.out.cells.2.2.2.2.2
      obtain ⟨k0, k1, k2, k3, k4, k5⟩ := (H3.out.2.1.keep HP7.out.bel).cells
      have hbz := HP7.out.size
      have hsz3 := H3.out.2.2.2.2
      have hwk1 : w.heap.size + 1 < w7.heap.size := by have := HP7.out.bel.size; omega
      have HHH := Lib.hid hh; clear hh
      go_wp2_with fail
      go_region_law (first
        | (go_simp; go_at_call 47; refine (copyT kid.nodes kid S' _ _ _ (Nat.le_refl _) HW.out.2 ((HIN.out.2.1.keep HP7.out.bel).keep (by repeat (first | exact Below.refl _ _ | refine Below.drew ?_)))).mono ?_
           rintro e w8 ⟨⟨kk2, s2, fp, rfl, hto, hnd, hge⟩, hb8⟩
           obtain ⟨fk2, fs2, hfe, hso2, hko2⟩ := treeOwn_iff.1 hto
           obtain ⟨a7, n7, rfl⟩ := str_shape hso2
           obtain ⟨a8, n8, rfl⟩ := kids_shape hko2
           clear hfe hso2 hko2
           have HB8 := Lib.hid (show Below w7.heap.size w7 w8 from bnext (by repeat (first | exact Below.refl _ _ | (refine Below.alloc ?_ (by first | omega | (simp; done) | (simp; omega)) _) | (refine Below.setCell ?_ (by first | omega | (simp; done) | (simp; omega)) _) | (refine Below.drew ?_) | (refine below_drewN ?_ _))) hb8)
           have HP8 := Lib.hid (HP7.out.keep HB8.out)
           have HTO := Lib.hid (And.intro hto (And.intro hnd (show ∀ b, b ∈ fp → w7.heap.size ≤ b from fun b hb => by have := hge b hb; (try simp at this); omega)))
           have q5 := HP8.out.out.cells.2.2.2.2.2
           obtain ⟨xs8, y1, y2, y3, y4⟩ := HP8.out.kids
           have hfz := fun j => y1.frozenAt (g := g) j
           have hcs := fun j (hj : j < t.kids.length * 6) => y1.cellAt j hj
           have hxl8 : xs8.length = t.kids.length * 6 := y1.1
           obtain ⟨u0, e0⟩ : ∃ u, w8.cell? ⟨g, posK key t.keys * 6, none⟩ = some u := ⟨_, (hcs (posK key t.keys * 6) (by omega)).trans (List.getElem?_eq_getElem (by omega))⟩
           obtain ⟨u1, e1⟩ : ∃ u, w8.cell? ⟨g, posK key t.keys * 6 + 1, none⟩ = some u := ⟨_, (hcs (posK key t.keys * 6 + 1) (by omega)).trans (List.getElem?_eq_getElem (by omega))⟩
           obtain ⟨u2, e2⟩ : ∃ u, w8.cell? ⟨g, posK key t.keys * 6 + 2, none⟩ = some u := ⟨_, (hcs (posK key t.keys * 6 + 2) (by omega)).trans (List.getElem?_eq_getElem (by omega))⟩
           obtain ⟨u3, e3⟩ : ∃ u, w8.cell? ⟨g, posK key t.keys * 6 + 3, none⟩ = some u := ⟨_, (hcs (posK key t.keys * 6 + 3) (by omega)).trans (List.getElem?_eq_getElem (by omega))⟩
           obtain ⟨u4, e4⟩ : ∃ u, w8.cell? ⟨g, posK key t.keys * 6 + 4, none⟩ = some u := ⟨_, (hcs (posK key t.keys * 6 + 4) (by omega)).trans (List.getElem?_eq_getElem (by omega))⟩
           obtain ⟨u5, e5⟩ : ∃ u, w8.cell? ⟨g, posK key t.keys * 6 + 5, none⟩ = some u := ⟨_, (hcs (posK key t.keys * 6 + 5) (by omega)).trans (List.getElem?_eq_getElem (by omega))⟩
           have z0 := hfz (posK key t.keys * 6)
           have z1 := hfz (posK key t.keys * 6 + 1)
           have z2 := hfz (posK key t.keys * 6 + 2)
           have z3 := hfz (posK key t.keys * 6 + 3)
           have z4 := hfz (posK key t.keys * 6 + 4)
           have z5 := hfz (posK key t.keys * 6 + 5)
           clear hto hnd hge hb8 y1 y2 y3 y4 hfz hcs hxl8)
        | fail)
      all_goals
        obtain ⟨f9, HP9⟩ := HP8.out.setKid hpos HTO.out.1 HTO.out.2.1 (fun b hb => by
          have h1 := HTO.out.2.2 b hb
          have h2 := HP7.out.kids.lt
          have h3 := HP7.out.keys.lt
          exact ⟨by have := HP7.out.hi; have := HP7.out.size; omega, fun e => by have := (h2.1 g rfl).2; omega, fun e => by have := (h2.2 b e).2; omega, by omega, fun e => by have := (h3 b e).2; omega⟩)
        have HPF := Lib.hid HP9; clear HP9
        go_wp2_with fail
        go_meet
        exact ⟨_, _, f9, Lib.hid (by rw [putK_hit HHH.out, putT_hit HHH.out]; exact HPF.out)⟩
    · have q4 := HP7.out.out.cells.2.2.2.2.1
      have hbz := HP7.out.size
      have hsz3 := H3.out.2.2.2.2
      have HHH := Lib.hid hh; clear hh
      have hpk : posK key t.keys ≤ t.keys.length := HPL.out
      have HPa := Lib.hid (HP7.out.keep (alloc_below w7 #[.string key] 9))
      have HIS := Lib.hid (insS HPa.out.keys (by have := HP7.out.hi; simp; omega) (by have := HLK.out; omega) hpk w7.heap.size #[.string key] [.string key] (heap_alloc_new _ _) (fun e => by have := (HP7.out.keys.lt _ e).2; omega) rfl rfl (fun u hu => by simp at hu; subst hu; rfl) (strs_one _))
      go_wp2_with fail
      refine HIS.out.mono ?_
      rintro e w8 ⟨v8, rfl, hown8, hg8, hs8⟩
      rw [map_put] at hown8
      have hlen8 : (t.keys.take (posK key t.keys) ++ key :: t.keys.drop (posK key t.keys)).length = t.keys.length + 1 := by simp; omega
      obtain ⟨a9, n9, rfl⟩ := row_shape hown8
      have hown9 : w8.ownsRow W3.heap.size 9 1 (.slice a9 (t.keys.length + 1) n9) (t.keys.take (posK key t.keys) ++ key :: t.keys.drop (posK key t.keys)).length ((t.keys.take (posK key t.keys) ++ key :: t.keys.drop (posK key t.keys)).map Value.string) := by rw [hlen8]; exact hown8
      have hsp8 := HPa.out.out.of_block (hg8.block _ HPa.out.size (fun e => HPa.out.farK e.symm))
      have q4 := hsp8.cells.2.2.2.2.1
      have f4 := hsp8.frozen 4
      have HP8 := Lib.hid (HPa.out.addKey hown9 hg8 hs8)
      clear hown8 hown9 hg8 hs8 hsp8 hlen8
      go_wp2_with fail
      clear q4 f4
      generalize w8.setCell ⟨b8, 4, none⟩ (.slice a9 (t.keys.length + 1) n9) = wx at HP8 ⊢
      rw [← putK_miss HHH.out] at HP8
      have q5 := HP8.out.out.cells.2.2.2.2.2
      have f5 := HP8.out.out.frozen 5
      obtain ⟨k0, k1, k2, k3, k4, k5⟩ := (H3.out.2.1.keep HP8.out.bel).cells
      have hbz := HP8.out.size
      have hwk1 : w.heap.size + 1 < wx.heap.size := by have := HP8.out.bel.size; omega
      go_region_law (first
        | (go_simp; go_at_call 47; refine (copyT kid.nodes kid S' _ _ _ (Nat.le_refl _) HW.out.2 ((HIN.out.2.1.keep HP8.out.bel).keep (by repeat (first | exact Below.refl _ _ | refine Below.drew ?_)))).mono ?_
           rintro e w9 ⟨⟨kk2, s2, fp, rfl, hto, hnd, hge⟩, hb9⟩
           obtain ⟨fk2, fs2, hfe, hso2, hko2⟩ := treeOwn_iff.1 hto
           obtain ⟨a7, n7, rfl⟩ := str_shape hso2
           obtain ⟨a8, n8, rfl⟩ := kids_shape hko2
           clear hfe hso2 hko2
           have HB9 := Lib.hid (show Below wx.heap.size wx w9 from bnext (by repeat (first | exact Below.refl _ _ | (refine Below.alloc ?_ (by first | omega | (simp; done) | (simp; omega)) _) | (refine Below.setCell ?_ (by first | omega | (simp; done) | (simp; omega)) _) | (refine Below.drew ?_) | (refine below_drewN ?_ _))) hb9)
           have HP9 := Lib.hid (HP8.out.keep HB9.out)
           have HTO := Lib.hid (And.intro hto (And.intro hnd (show ∀ b, b ∈ fp → wx.heap.size ≤ b from fun b hb => by have := hge b hb; (try simp at this); omega)))
           have q5 := HP9.out.out.cells.2.2.2.2.2
           have hbz9 := HP9.out.size
           clear hto hnd hge hb9)
        | (go_simp; go_at_call 50; go_loud (refine (insKid (HP9.out.keep (bnext (alloc_below w9 #[.int .i64 kid.kind, .bool kid.flag, .int .i64 kid.num, .string kid.text, .slice a7 kid.keys.length n7, .slice a8 kid.kids.length n8] 27) (by repeat (first | exact Below.refl _ _ | refine Below.drew ?_)))).kids (by have := HP9.out.hi; simp; omega) (by omega) (by have := HPL.out; have := HLK.out; omega) (HTO.out.1.keep (bnext (alloc_below w9 #[.int .i64 kid.kind, .bool kid.flag, .int .i64 kid.num, .string kid.text, .slice a7 kid.keys.length n7, .slice a8 kid.kids.length n8] 27) (by repeat (first | exact Below.refl _ _ | refine Below.drew ?_)))) HTO.out.2.1 (fun b hb => by
             have h1 := HTO.out.2.2 b hb
             have h2 := HP8.out.kids.lt
             exact ⟨by have := HP8.out.hi; have := HP8.out.size; omega, fun e => by have := (h2.1 b e).2; omega, fun e => by have := (h2.2 b e).2; omega⟩) w9.heap.size (heap_alloc_new _ _) (fun e => by have := (HP9.out.kids.lt.1 _ e).2; omega)).mono ?_)
           rintro e w10 ⟨v10, f10, rfl, hk10, hg10, hs10, hf10⟩
           obtain ⟨fs9, hko9, -, -⟩ := hk10.own
           obtain ⟨aA, nA, rfl⟩ := kids_shape hko9
           clear hko9
           have HPb := Lib.hid (HP9.out.keep (bnext (alloc_below w9 #[.int .i64 kid.kind, .bool kid.flag, .int .i64 kid.num, .string kid.text, .slice a7 kid.keys.length n7, .slice a8 kid.kids.length n8] 27) (by repeat (first | exact Below.refl _ _ | refine Below.drew ?_))))
           have hspA := HPb.out.out.of_block (hg10.block _ HPb.out.size (fun e => HPb.out.farS e.symm))
           have q5 := hspA.cells.2.2.2.2.2
           have f5 := hspA.frozen 5
           have HPF := Lib.hid (HPb.out.addKid hk10 hg10 hs10 hf10 (fun b hb => by
             have h1 := HTO.out.2.2 b hb
             have h2 := HP8.out.keys.lt
             exact ⟨by have := HP8.out.size; omega, fun e => by have := (h2 b e).2; omega⟩))
           clear hk10 hg10 hs10 hf10 hspA)
        | fail)
      all_goals
        go_wp2_with fail
        go_meet
        exact ⟨_, _, f10, Lib.hid (by have h := HPF.out; simp only [List.length_append, List.length_take, List.length_cons, List.length_drop] at h; rw [putT_miss HHH.out]; exact h)⟩
  case rest =>
    obtain ⟨vk1, vs1, f1, HP⟩ := hcut
    clear HP7
    obtain ⟨aK, nK, rfl⟩ := row_shape HP.out.keys
    obtain ⟨fs9, hko9, -, -⟩ := HP.out.kids.own
    obtain ⟨aS, nS, rfl⟩ := kids_shape hko9
    clear hko9
    obtain ⟨fp, hto0, hnd, hge⟩ := HP.out.tree
    have hto : TreeOwn wc (putO t key kid) (.slice aK (putO t key kid).keys.length nK) (.slice aS (putO t key kid).kids.length nS) fp := hto0
    clear hto0
    have HOK2 := Lib.hid (iTreeOk (putO t key kid) Any _ _ wc HNP.out (hto.toIn _ _ _ _ (fun _ _ => trivial)) (tabs_keep HIN.out.2.2 HP.out.bel))
    have HTO := Lib.hid (And.intro hto (And.intro hnd hge))
    clear hto hnd hge
    have q0 : wc.cell? ⟨b8, 0, none⟩ = some (.int .i64 6) := HP.out.out.cells.1
    have q1 : wc.cell? ⟨b8, 1, none⟩ = some (.bool false) := HP.out.out.cells.2.1
    have q2 : wc.cell? ⟨b8, 2, none⟩ = some (.int .i64 0) := HP.out.out.cells.2.2.1
    have q3 : wc.cell? ⟨b8, 3, none⟩ = some (.string noS) := HP.out.out.cells.2.2.2.1
    have q4 : wc.cell? ⟨b8, 4, none⟩ = some (.slice aK (putO t key kid).keys.length nK) := HP.out.out.cells.2.2.2.2.1
    have q5 : wc.cell? ⟨b8, 5, none⟩ = some (.slice aS (putO t key kid).kids.length nS) := HP.out.out.cells.2.2.2.2.2
    have hsz3 := H3.out.2.2.2.2
    cases hpo : treeOkB (putO t key kid)
    · rw [hpo] at HOK2
      have HC := Lib.hid (show putOk t key kid = false by rw [HPO2.out, hpo])
      clear hpo
      go_wp2_with fail
      refine HOK2.out.mono ?_; rintro e w9 ⟨rfl, hb9⟩
      have hbw := bnext HP.out.bel hb9
      have HI9 := Lib.hid (HIN.out.1.keep hbw)
      have HB9 := Lib.hid hbw
      clear q0 q1 q2 q3 q4 q5 hb9 hbw HOK2
      obtain ⟨p0, p1, p2, p3, p4, p5⟩ := (H3.out.1.keep HB9.out).cells
      go_wp2_with fail
      refine (copyT t.nodes t S _ _ _ (Nat.le_refl _) HW.out.1 HI9.out).mono ?_
      rintro e wA ⟨⟨k2, s2, fp2, rfl, hto, hnd, hge⟩, hbA⟩
      obtain ⟨fk, fs, -, hso, hko⟩ := treeOwn_iff.1 hto
      obtain ⟨a7, n7, rfl⟩ := str_shape hso
      obtain ⟨a8, n8, rfl⟩ := kids_shape hko
      clear hso hko
      have HBA := Lib.hid (bnext HB9.out hbA)
      have HN := Lib.hid (And.intro hto (And.intro hnd hge))
      have hz9 := H3.out.2.2.1.keep HBA.out
      obtain ⟨r0, r1, r2, r3, r4, r5⟩ := hz9.cells
      obtain ⟨g0, g1, g2, g3, g4, g5⟩ := hz9.frozen
      clear hz9
      clear hto hnd hge hbA p0 p1 p2 p3 p4 p5
      go_wp2
      refine bodyPost_ret (v := .tuple #[.agg #[.int .i64 t.kind, .bool t.flag, .int .i64 t.num, .string t.text, .slice a7 t.keys.length n7, .slice a8 t.kids.length n8], .bool false]) (by first | (simp [results, Tryd.results21, go_sem]; done) | simp [results, Tryd.results21, go_sem, r0, r1, r2, r3, r4, r5]) rfl ?_
      rw [HC.out, put_no HC.out]
      exact put6w_new2 (b := w.heap.size + 1 + 1) HN.out.1 HN.out.2.1 (fun x hx => by have := HN.out.2.2 x hx; have := HB9.out.size; exact ⟨by omega, by omega⟩) (bnext H3.out.2.2.2.1 HBA.out) (by omega) false _ _ _ _ _ _
    · rw [hpo] at HOK2
      have HC := Lib.hid (show putOk t key kid = true by rw [HPO2.out, hpo])
      clear hpo
      go_wp2_with fail
      refine HOK2.out.mono ?_; rintro e w9 ⟨rfl, hb9⟩
      have HB9 := Lib.hid (bnext HP.out.bel hb9)
      obtain ⟨x0, x1, x2, x3, x4, x5⟩ := (HP.out.out.keep hb9).cells
      have q0 : w9.cell? ⟨b8, 0, none⟩ = some (.int .i64 6) := x0
      have q1 : w9.cell? ⟨b8, 1, none⟩ = some (.bool false) := x1
      have q2 : w9.cell? ⟨b8, 2, none⟩ = some (.int .i64 0) := x2
      have q3 : w9.cell? ⟨b8, 3, none⟩ = some (.string noS) := x3
      have q4 : w9.cell? ⟨b8, 4, none⟩ = some (.slice aK (putO t key kid).keys.length nK) := x4
      have q5 : w9.cell? ⟨b8, 5, none⟩ = some (.slice aS (putO t key kid).kids.length nS) := x5
      have hz9 := H3.out.2.2.1.keep HB9.out
      obtain ⟨r0, r1, r2, r3, r4, r5⟩ := hz9.cells
      obtain ⟨g0, g1, g2, g3, g4, g5⟩ := hz9.frozen
      clear hz9
      have HN := Lib.hid (HTO.out.1.keep hb9)
      clear x0 x1 x2 x3 x4 x5 hb9 HOK2
      go_wp2
      refine bodyPost_ret (v := .tuple #[.agg #[.int .i64 6, .bool false, .int .i64 0, .string noS, .slice aK (putO t key kid).keys.length nK, .slice aS (putO t key kid).kids.length nS], .bool true]) (by first | (simp [results, Tryd.results21, go_sem]; done) | simp [results, Tryd.results21, go_sem, r0, r1, r2, r3, r4, r5]) rfl ?_
      rw [HC.out, put_yes HC.out]
      exact put6w_new2 (t := putO t key kid) (b := w.heap.size + 1 + 1) HN.out HTO.out.2.1 (fun x hx => by have := HTO.out.2.2 x hx; exact ⟨by omega, by omega⟩) (bnext H3.out.2.2.2.1 HB9.out) (by omega) true _ _ _ _ _ _

end Go.Proofs.YtkifacpanipfhaaDoor
