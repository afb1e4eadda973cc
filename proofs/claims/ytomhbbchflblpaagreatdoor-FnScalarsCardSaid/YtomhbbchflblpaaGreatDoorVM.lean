/- PutS, merged. -/
import Derived.Test.YtomhbbchflblpaaGreatDoorVL
import Derived.Test.YtomhbbchflblpaaGreatDoorVB
namespace Go.Proofs.YtomhbbchflblpaaGreatDoor
open Go.RowKit

theorem nodesL_app : ∀ a b : List Tr, nodesL (a ++ b) = nodesL a + nodesL b
  | [], b => by simp [nodesL]
  | t :: a, b => by
    have := nodesL_app a b
    simp only [List.cons_append, nodesL] at this ⊢; omega
theorem putO_nodes (t : Tr) (key : ByteArray) (kid : Tr) : (putO t key kid).nodes ≤ t.nodes + kid.nodes + 1 := by
  have h1 := nodes_eq t
  have h2 := nodes_eq (putO t key kid)
  have h3 : nodesL (putO t key kid).kids = nodesL (t.kids.take (posK key t.keys)) + (kid.nodes + nodesL (t.kids.drop (posK key t.keys + hitN key t.keys))) := by
    show nodesL (putT key t.keys kid t.kids) = _
    rw [putT, nodesL_app]; rfl
  have h4 := nodesL_app (t.kids.take (posK key t.keys)) (t.kids.drop (posK key t.keys))
  rw [List.take_append_drop] at h4
  have h5 := nodesL_app ((t.kids.drop (posK key t.keys)).take (hitN key t.keys)) ((t.kids.drop (posK key t.keys)).drop (hitN key t.keys))
  rw [List.take_append_drop, List.drop_drop] at h5
  omega
theorem neK {a b : ByteArray} (h : a ≠ b) : (a.toList == b.toList) = false := by
  rw [beq_eq_false_iff_ne]; exact fun e => h (ba_inj e)
theorem newAt (w : World) (cs : Array Value) (e : TypeId) : ((w.alloc (.cells cs e)).drew).heap[w.heap.size]? = some (.cells cs e (0, 0)) := heap_alloc_new w _
theorem put_no {t kid : Tr} {key : ByteArray} (h : putOk t key kid = false) : putR t key kid = t := by rw [putR, h]; rfl
theorem put_yes {t kid : Tr} {key : ByteArray} (h : putOk t key kid = true) : putR t key kid = putO t key kid := if_pos h

def midOk (key : ByteArray) (l : List ByteArray) (kid : Tr) (kids : List Tr) (k : Nat) (K1 : List ByteArray) (T1 : List Tr) : Prop :=
  (K1.length ≤ 302 ∧ T1.length ≤ 302) ∧ (((strAt l k).toList == key.toList) = true → stK key l (k + 1) = K1 ∧ stT key l kid kids (k + 1) = T1) ∧
    (((strAt l k).toList == key.toList) = false → stK key l (k + 1) = K1 ++ [strAt l k] ∧ stT key l kid kids (k + 1) = T1 ++ [kidAt kids k])
theorem mid_ne {key : ByteArray} {l : List ByteArray} {kid : Tr} {kids : List Tr} {k : Nat} {L : Bool} (hs : SortedK l) (hl : l.length = kids.length) (hn : l.length ≤ 300) (hk : k < l.length) (hp : k ≠ posK key l) (hL : L = decide (posK key l < k)) :
    L = decide (posK key l < k + 1) ∧ midOk key l kid kids k (stK key l k) (stT key l kid kids k) := by
  have h2 := st_len (key := key) (kid := kid) (Nat.le_of_lt hk) hl
  refine ⟨by rw [hL]; congr 1; exact propext (by omega), ⟨by omega, by omega⟩, fun h => ?_, fun _ => ?_⟩
  · exfalso
    have h3 : strAt l k = key := ba_inj (by simpa using h)
    rcases Nat.lt_or_gt_of_ne hp with h4 | h4
    · exact low_ne h4 h3
    · exact high_ne hs h4 hk h3
  · rcases Nat.lt_or_gt_of_ne hp with h4 | h4
    · exact st_low h4 hl
    · exact st_high h4 hk hl
theorem mid_at {key : ByteArray} {l : List ByteArray} {kid : Tr} {kids : List Tr} {k : Nat} (hl : l.length = kids.length) (hn : l.length ≤ 300) (hk : k < l.length) (hp : k = posK key l) :
    midOk key l kid kids k (stK key l k ++ [key]) (stT key l kid kids k ++ [kid]) := by
  have h2 := st_len (key := key) (kid := kid) (Nat.le_of_lt hk) hl
  refine ⟨⟨by rw [List.length_append]; simp; omega, by rw [List.length_append]; simp; omega⟩, fun h => ?_, fun h => ?_⟩
  · subst hp
    have h3 : hitK key l = true := by rw [hitK, h, decide_eq_true hk]; rfl
    exact st_hit h3 hl
  · subst hp
    have h3 : hitK key l = false := by rw [hitK, h, Bool.and_false]
    exact st_new h3 hk hl

set_option maxRecDepth 100000 in
set_option maxHeartbeats 8000000 in
theorem sPutKid (t kid : Tr) (S S' : Nat → Prop) (key : ByteArray) (vk vs wk ws : Value) (w : World) (hw : t.wt ≤ 1048576) (hw' : kid.wt ≤ 1048576) (hn : t.nodes + kid.nodes ≤ 1999990) (ht : TreeIn w S t vk vs) (ht' : TreeIn w S' kid wk ws) :
    Calls Tryz.prog 58 #[.agg #[.int .i64 t.kind, .bool t.flag, .int .i64 t.num, .string t.text, vk, vs], .string key, .agg #[.int .i64 kid.kind, .bool kid.flag, .int .i64 kid.num, .string kid.text, wk, ws]] w fun e w' => TreeNew2 w.heap.size (putR t key kid) (putOk t key kid) e w' ∧ Below w.heap.size w w' := by
  obtain ⟨hk, hs⟩ := treeIn_iff.1 ht
  obtain ⟨a1, m1, rfl⟩ := hk.len
  obtain ⟨a2, m2, rfl⟩ := hs.len
  obtain ⟨hk', hs'⟩ := treeIn_iff.1 ht'
  obtain ⟨c1, d1, rfl⟩ := hk'.len
  obtain ⟨c2, d2, rfl⟩ := hs'.len
  clear hk' hs'
  have hz := ZeroAt.new ((w.alloc (.cells #[.int .i64 t.kind, .bool t.flag, .int .i64 t.num, .string t.text, .slice a1 t.keys.length m1, .slice a2 t.kids.length m2] 28)).alloc (.cells #[.int .i64 kid.kind, .bool kid.flag, .int .i64 kid.num, .string kid.text, .slice c1 kid.keys.length d1, .slice c2 kid.kids.length d2] 28))
  have hal : Below w.heap.size w (((w.alloc (.cells #[.int .i64 t.kind, .bool t.flag, .int .i64 t.num, .string t.text, .slice a1 t.keys.length m1, .slice a2 t.kids.length m2] 28)).alloc (.cells #[.int .i64 kid.kind, .bool kid.flag, .int .i64 kid.num, .string kid.text, .slice c1 kid.keys.length d1, .slice c2 kid.kids.length d2] 28)).alloc (.cells #[.int .i64 0, .bool false, .int .i64 0, .string ⟨#[]⟩, .slice none 0 0, .slice none 0 0] 28)) := by repeat (first | exact Below.refl _ _ | (refine Below.alloc ?_ (by first | omega | (simp; done) | (simp; omega)) _) | (refine Below.setCell ?_ (by first | omega | (simp; done) | (simp; omega)) _) | (refine Below.drew ?_) | (refine below_drewN ?_ _))
  have hal2 : Below (w.alloc (.cells #[.int .i64 t.kind, .bool t.flag, .int .i64 t.num, .string t.text, .slice a1 t.keys.length m1, .slice a2 t.kids.length m2] 28)).heap.size (w.alloc (.cells #[.int .i64 t.kind, .bool t.flag, .int .i64 t.num, .string t.text, .slice a1 t.keys.length m1, .slice a2 t.kids.length m2] 28)) (((w.alloc (.cells #[.int .i64 t.kind, .bool t.flag, .int .i64 t.num, .string t.text, .slice a1 t.keys.length m1, .slice a2 t.kids.length m2] 28)).alloc (.cells #[.int .i64 kid.kind, .bool kid.flag, .int .i64 kid.num, .string kid.text, .slice c1 kid.keys.length d1, .slice c2 kid.kids.length d2] 28)).alloc (.cells #[.int .i64 0, .bool false, .int .i64 0, .string ⟨#[]⟩, .slice none 0 0, .slice none 0 0] 28)) := by repeat (first | exact Below.refl _ _ | (refine Below.alloc ?_ (by first | omega | (simp; done) | (simp; omega)) _) | (refine Below.setCell ?_ (by first | omega | (simp; done) | (simp; omega)) _) | (refine Below.drew ?_) | (refine below_drewN ?_ _))
  have hal3 : Below ((w.alloc (.cells #[.int .i64 t.kind, .bool t.flag, .int .i64 t.num, .string t.text, .slice a1 t.keys.length m1, .slice a2 t.kids.length m2] 28)).alloc (.cells #[.int .i64 kid.kind, .bool kid.flag, .int .i64 kid.num, .string kid.text, .slice c1 kid.keys.length d1, .slice c2 kid.kids.length d2] 28)).heap.size ((w.alloc (.cells #[.int .i64 t.kind, .bool t.flag, .int .i64 t.num, .string t.text, .slice a1 t.keys.length m1, .slice a2 t.kids.length m2] 28)).alloc (.cells #[.int .i64 kid.kind, .bool kid.flag, .int .i64 kid.num, .string kid.text, .slice c1 kid.keys.length d1, .slice c2 kid.kids.length d2] 28)) (((w.alloc (.cells #[.int .i64 t.kind, .bool t.flag, .int .i64 t.num, .string t.text, .slice a1 t.keys.length m1, .slice a2 t.kids.length m2] 28)).alloc (.cells #[.int .i64 kid.kind, .bool kid.flag, .int .i64 kid.num, .string kid.text, .slice c1 kid.keys.length d1, .slice c2 kid.kids.length d2] 28)).alloc (.cells #[.int .i64 0, .bool false, .int .i64 0, .string ⟨#[]⟩, .slice none 0 0, .slice none 0 0] 28)) := by repeat (first | exact Below.refl _ _ | (refine Below.alloc ?_ (by first | omega | (simp; done) | (simp; omega)) _) | (refine Below.setCell ?_ (by first | omega | (simp; done) | (simp; omega)) _) | (refine Below.drew ?_) | (refine below_drewN ?_ _))
  have hs0 := (Spill.new w t (.slice a1 t.keys.length m1) (.slice a2 t.kids.length m2) 28).keep hal2
  have hs1 := (Spill.new (w.alloc (.cells #[.int .i64 t.kind, .bool t.flag, .int .i64 t.num, .string t.text, .slice a1 t.keys.length m1, .slice a2 t.kids.length m2] 28)) kid (.slice c1 kid.keys.length d1) (.slice c2 kid.kids.length d2) 28).keep hal3
  simp only [World.size_alloc] at hz hs1
  have H0 := Lib.hid (And.intro hs0 (And.intro hs1 (And.intro hz hal)))
  have HIN := Lib.hid (And.intro (ht.keep hal) (ht'.keep hal))
  have HW := Lib.hid (And.intro hw hw')
  clear hz hs0 hs1 hal2 hal3 hw hw'
  by_cases h6 : t.kind = 6
  rotate_left
  · have z1 : (t.kind == 6) = false := by rw [beq_eq_false_iff_ne]; exact h6
    have z2 : (t.kind != 6) = true := by rw [bne, z1]; rfl
    have HC := Lib.hid (show putOk t key kid = false by rw [putOk, z1]; rfl)
    clear h6 hk hs ht ht' hal hn
    go_enter Tryz.func58, Tryz.ntmps58
    obtain ⟨p0, p1, p2, p3, p4, p5⟩ := H0.out.1.cells
    go_wp2_with fail
    refine (lcopyT t.nodes t S _ _ _ (Nat.le_refl _) HW.out.1 (HIN.out.1)).mono ?_
    rintro e w8 ⟨⟨k2, s2, fp, rfl, hto, hnd, hge⟩, hb8⟩
    obtain ⟨fk, fs, -, hso, hko⟩ := treeOwn_iff.1 hto
    obtain ⟨a5, n5, rfl⟩ := str_shape hso
    obtain ⟨a6, n6, rfl⟩ := kids_shape hko
    clear hso hko
    have hz8 := (H0.out).2.2.1.keep hb8
    obtain ⟨r0, r1, r2, r3, r4, r5⟩ := hz8.cells
    obtain ⟨g0, g1, g2, g3, g4, g5⟩ := hz8.frozen
    have HN := Lib.hid (And.intro hto (And.intro hnd (And.intro hge (And.intro (bnext (H0.out).2.2.2 hb8) (And.intro (H0.out).2.2.1.lt (H0.out).2.2.2.size)))))
    clear hz8 hto hnd hge hb8 p0 p1 p2 p3 p4 p5
    go_wp2
    refine bodyPost_ret (v := .tuple #[.agg #[.int .i64 t.kind, .bool t.flag, .int .i64 t.num, .string t.text, .slice a5 t.keys.length n5, .slice a6 t.kids.length n6], .bool false]) (by first | (simp [results, Tryz.results58, go_sem]; done) | simp [results, Tryz.results58, go_sem, r0, r1, r2, r3, r4, r5]) rfl ?_
    obtain ⟨hto, hnd, hge, hbw, hlz, hsz⟩ := HN.out
    rw [HC.out, put_no HC.out]
    exact put6w_new2 (b := w.heap.size + 1 + 1) hto hnd (fun x hx => by have := hge x hx; exact ⟨by omega, by omega⟩) hbw (by omega) false _ _ _ _ _ _
  have z1 : (t.kind == 6) = true := by rw [h6]; rfl
  have z2 : (t.kind != 6) = false := by rw [bne, z1]; rfl
  have HOK := Lib.hid (fun w0 (hb : Below (((w.alloc (.cells #[.int .i64 t.kind, .bool t.flag, .int .i64 t.num, .string t.text, .slice a1 t.keys.length m1, .slice a2 t.kids.length m2] 28)).alloc (.cells #[.int .i64 kid.kind, .bool kid.flag, .int .i64 kid.num, .string kid.text, .slice c1 kid.keys.length d1, .slice c2 kid.kids.length d2] 28)).alloc (.cells #[.int .i64 0, .bool false, .int .i64 0, .string ⟨#[]⟩, .slice none 0 0, .slice none 0 0] 28)).heap.size (((w.alloc (.cells #[.int .i64 t.kind, .bool t.flag, .int .i64 t.num, .string t.text, .slice a1 t.keys.length m1, .slice a2 t.kids.length m2] 28)).alloc (.cells #[.int .i64 kid.kind, .bool kid.flag, .int .i64 kid.num, .string kid.text, .slice c1 kid.keys.length d1, .slice c2 kid.kids.length d2] 28)).alloc (.cells #[.int .i64 0, .bool false, .int .i64 0, .string ⟨#[]⟩, .slice none 0 0, .slice none 0 0] 28)) w0) => sTreeOk t S (.slice a1 t.keys.length m1) (.slice a2 t.kids.length m2) w0 (by omega) (HIN.out.1.keep hb))
  have HPO : Hid (putOk t key kid = (t.kind == 6 && (treeOkB t && treeOkB (putO t key kid)))) := rfl
  cases hok : treeOkB t
  · rw [hok] at HOK
    have HC := Lib.hid (show putOk t key kid = false by rw [HPO.out, hok]; simp)
    clear h6 hk hs ht ht' hal hn hok HPO
    go_enter Tryz.func58, Tryz.ntmps58
    obtain ⟨p0, p1, p2, p3, p4, p5⟩ := H0.out.1.cells
    go_wp2_with fail
    refine (HOK.out _ (Below.refl _ _)).mono ?_; rintro e w1 ⟨rfl, hb1⟩
    have H1 := Lib.hid (And.intro (H0.out.1.keep hb1) (And.intro (H0.out.2.1.keep hb1) (And.intro (H0.out.2.2.1.keep hb1) (bnext H0.out.2.2.2 hb1))))
    have HI1 := Lib.hid (HIN.out.1.keep hb1)
    clear p0 p1 p2 p3 p4 p5 hb1 HOK
    obtain ⟨p0, p1, p2, p3, p4, p5⟩ := H1.out.1.cells
    go_wp2_with fail
    refine (lcopyT t.nodes t S _ _ _ (Nat.le_refl _) HW.out.1 (HI1.out)).mono ?_
    rintro e w8 ⟨⟨k2, s2, fp, rfl, hto, hnd, hge⟩, hb8⟩
    obtain ⟨fk, fs, -, hso, hko⟩ := treeOwn_iff.1 hto
    obtain ⟨a5, n5, rfl⟩ := str_shape hso
    obtain ⟨a6, n6, rfl⟩ := kids_shape hko
    clear hso hko
    have hz8 := (H1.out).2.2.1.keep hb8
    obtain ⟨r0, r1, r2, r3, r4, r5⟩ := hz8.cells
    obtain ⟨g0, g1, g2, g3, g4, g5⟩ := hz8.frozen
    have HN := Lib.hid (And.intro hto (And.intro hnd (And.intro hge (And.intro (bnext (H1.out).2.2.2 hb8) (And.intro (H1.out).2.2.1.lt (H1.out).2.2.2.size)))))
    clear hz8 hto hnd hge hb8 p0 p1 p2 p3 p4 p5
    go_wp2
    refine bodyPost_ret (v := .tuple #[.agg #[.int .i64 t.kind, .bool t.flag, .int .i64 t.num, .string t.text, .slice a5 t.keys.length n5, .slice a6 t.kids.length n6], .bool false]) (by first | (simp [results, Tryz.results58, go_sem]; done) | simp [results, Tryz.results58, go_sem, r0, r1, r2, r3, r4, r5]) rfl ?_
    obtain ⟨hto, hnd, hge, hbw, hlz, hsz⟩ := HN.out
    rw [HC.out, put_no HC.out]
    exact put6w_new2 (b := w.heap.size + 1 + 1) hto hnd (fun x hx => by have := hge x hx; exact ⟨by omega, by omega⟩) hbw (by omega) false _ _ _ _ _ _
  rw [hok] at HOK
  have hsh : shapeB t = true := by simp only [treeOkB, Bool.and_eq_true] at hok; exact hok.2.2
  have hnn : t.nodes ≤ 300 := by simp only [treeOkB, Bool.and_eq_true, decide_eq_true_eq] at hok; exact hok.2.1
  have hkl2 : t.kids.length ≤ 300 := by have := nodes_eq t; have := len_nodes t.kids; omega
  have hlk : t.keys.length = t.kids.length := (head_kind (shape_parts hsh).1).2.2.2.1 h6
  have HSO := Lib.hid (sorted_keys (shape_parts hsh).2.1)
  have HLK := Lib.hid hlk
  have hnl : t.keys.length ≤ 300 := by omega
  have hpl := pos_le key t.keys
  have HPO2 := Lib.hid (show putOk t key kid = treeOkB (putO t key kid) by rw [HPO.out, z1, hok]; simp)
  have HNP := Lib.hid (show (putO t key kid).nodes ≤ 2000000 by have := putO_nodes t key kid; omega)
  have HWK := Lib.hid (fun k (h : k < t.kids.length) => (show (kidAt t.kids k).wt ≤ t.wt by have := wt_kid t.kids k h; have := wt_eq t; omega))
  have HWT := Lib.hid (show t.wt = t.wt from rfl)
  have HZ0 := Lib.hid (st_zero key t.keys kid t.kids)
  clear hok hsh hnn h6 hn hlk hkl2
  go_enter Tryz.func58, Tryz.ntmps58
  obtain ⟨p0, p1, p2, p3, p4, p5⟩ := H0.out.1.cells
  go_wp2_with fail
  refine (HOK.out _ (Below.refl _ _)).mono ?_; rintro e w1 ⟨rfl, hb1⟩
  have H1 := Lib.hid (And.intro (H0.out.1.keep hb1) (And.intro (H0.out.2.1.keep hb1) (And.intro (H0.out.2.2.1.keep hb1) (bnext H0.out.2.2.2 hb1))))
  have HK1 := Lib.hid (And.intro ((hk.keep hal).keep hb1) ((hs.keep hal).keep hb1))
  have HT1 := Lib.hid (And.intro (HIN.out.1.keep hb1) (HIN.out.2.keep hb1))
  have HP := Lib.hid (PK.new w1)
  clear p0 p1 p2 p3 p4 p5 hb1 HOK hk hs ht ht' hal H0 HIN
  have hzw := H1.out.2.2.1.lt
  go_wp2_with fail
  go_loopw [9, 10] (fun ld i wr => ∃ (k : Nat) (L : Bool) (vk vs : Value) (ff : List Nat), k ≤ t.keys.length ∧ i = .int .i64 k ∧ ld = .bool L ∧ Hid (L = decide (posK key t.keys < k)) ∧ Hid (PK w1 wr (stK key t.keys k) (stT key t.keys kid t.kids k) vk vs ff)) (fun _ i _ => t.keys.length - (intOf i).toNat)
  case atStart => exact ⟨0, false, _, _, _, by omega, rfl, rfl, Lib.hid (decide_eq_false (by omega)).symm, Lib.hid (by rw [HZ0.out.1, HZ0.out.2]; exact HP.out)⟩
  case round =>
    obtain ⟨k, L, vk, vs, ff, hk, rfl, rfl, HL, HPK⟩ := hrel
    obtain ⟨p0, p1, p2, p3, p4, p5⟩ := (H1.out.1.keep HPK.out.bel).cells
    have HLE := Lib.hid (st_len (key := key) (kid := kid) hk HLK.out)
    by_cases hlt : k < t.keys.length
    rotate_left
    · obtain rfl : k = t.keys.length := by omega
      have hKl : (stK key t.keys t.keys.length).length ≤ 301 := by have := HLE.out.1; omega
      have hTl : (stT key t.keys kid t.kids t.keys.length).length ≤ 301 := by have := HLE.out; omega
      obtain ⟨-, -, -, -, q4, q5⟩ := HPK.out.out.cells
      have g4 := HPK.out.out.frozen 4
      have hgl := HPK.out.size
      have HPL := Lib.hid hpl
      clear hpl
      go_upto_if 82 with fail
      go_cut [9] from 22 to 101 (fun s9 wx => ∃ (vk1 vs1 : Value) (f1 : List Nat), Hid (PK w1 wx (putK key t.keys) (putT key t.keys kid t.kids) vk1 vs1 f1))
      case first =>
        cases L
        rotate_left
        · have hp : posK key t.keys < t.keys.length := by simpa using HL.out.symm
          go_wp2_with fail
          go_meet
          exact ⟨_, _, _, Lib.hid (by rw [← (st_end (kid := kid) hp HLK.out).1, ← (st_end hp HLK.out).2]; exact HPK.out)⟩
        have hp0 : posK key t.keys = t.keys.length := by have h1 := HL.out.symm; rw [decide_eq_false_iff_not] at h1; have := HPL.out; omega
        have HSL := Lib.hid (st_last (kid := kid) hp0 HLK.out)
        clear hp0
        generalize stK key t.keys t.keys.length = K0 at HPK HSL hKl ⊢
        generalize stT key t.keys kid t.kids t.keys.length = T0 at HPK HSL hTl ⊢
        clear HLE
        go_wp2_with (at_builtin; go_loud (refine wpList_key (by rfl) (.tmp 84) (.tmp 86) (by rfl) HPK.out key (by rfl) (by rfl) (by omega) ?_; intro gg n3 cap3 w3 q4 g4 hP3))
        have HP3 := Lib.hid hP3; clear hP3 q4 g4
        generalize w3.setCell ⟨w1.heap.size, 4, none⟩ (.slice gg n3 cap3) = wx at HP3 ⊢
        have q5 := HP3.out.out.cells.2.2.2.2.2
        have g5 := HP3.out.out.frozen 5
        obtain ⟨k0, k1, k2, k3, k4, k5⟩ := (H1.out.2.1.keep HP3.out.bel).cells
        have hgl := HP3.out.size
        have hwl1 : w.heap.size + 1 < w1.heap.size := H1.out.2.1.lt
        clear p4 hgl HPK
        go_region_law (first
          | (go_simp; go_at_call 93; refine (lcopyT kid.nodes kid S' _ _ _ (Nat.le_refl _) HW.out.2 ((HT1.out.2.keep HP3.out.bel).keep (by repeat (first | exact Below.refl _ _ | refine Below.drew ?_)))).mono ?_
             rintro e w5 ⟨⟨kk2, s2, fp, rfl, hto, hnd, hge⟩, hb5⟩
             obtain ⟨fk2, fs2, hfe, hso2, hko2⟩ := treeOwn_iff.1 hto
             obtain ⟨a5, n5, rfl⟩ := str_shape hso2
             obtain ⟨a6, n6, rfl⟩ := kids_shape hko2
             clear hfe hso2 hko2
             have HB5 := Lib.hid (show Below wx.heap.size wx w5 from bnext (by repeat (first | exact Below.refl _ _ | (refine Below.alloc ?_ (by first | omega | (simp; done) | (simp; omega)) _) | (refine Below.setCell ?_ (by first | omega | (simp; done) | (simp; omega)) _) | (refine Below.drew ?_) | (refine below_drewN ?_ _))) hb5)
             have HTO := Lib.hid (And.intro hto (And.intro hnd (show ∀ b, b ∈ fp → wx.heap.size ≤ b from fun b hb => by have := hge b hb; simp at this; omega)))
             have q5 := (HP3.out.keep HB5.out).out.cells.2.2.2.2.2
             have hgl := (HP3.out.keep HB5.out).size
             clear hto hnd hge hb5)
          | (go_loud (refine step_kid (by rfl) (.tmp 90) (.tmp 93) (by rfl) HP3.out kid HTO.out.1 HTO.out.2.1 HTO.out.2.2 (by rfl) w5.heap.size (by rfl) (by omega) HB5.out (by repeat (first | exact Below.refl _ _ | (refine Below.alloc ?_ (by first | omega | (simp; done) | (simp; omega)) _) | (refine Below.setCell ?_ (by first | omega | (simp; done) | (simp; omega)) _) | (refine Below.drew ?_) | (refine below_drewN ?_ _))) (heap_alloc_new _ _) ?_; intro gg6 cap6 ff6 w6 q5 g5 hP6)))
        all_goals
          have HP6 := Lib.hid hP6; clear hP6 q5 g5
          go_wp2_with fail
          go_meet
          exact ⟨_, _, _, Lib.hid (by rw [← HSL.out.1, ← HSL.out.2]; exact HP6.out)⟩

      case rest =>
        obtain ⟨vk1, vs1, f1, HP⟩ := hcut
        clear hKl hTl q4 q5 g4 hgl p0 p1 p2 p3 p4 p5 HPK HLE
        obtain ⟨fp, hto0, hnd, hge⟩ := HP.out.tree
        have hto : TreeOwn wc (putO t key kid) vk1 vs1 fp := hto0
        clear hto0
        obtain ⟨fk, fs, -, hso, hko⟩ := treeOwn_iff.1 hto
        obtain ⟨a5, n5, rfl⟩ := str_shape hso
        obtain ⟨a6, n6, rfl⟩ := kids_shape hko
        clear hso hko
        have HOK2 := Lib.hid (sTreeOk (putO t key kid) Any _ _ wc HNP.out (hto.toIn _ _ _ _ (fun _ _ => trivial)))
        have HTO := Lib.hid (And.intro hto (And.intro hnd hge))
        clear hto hnd hge
        have q0 : wc.cell? ⟨w1.heap.size, 0, none⟩ = some (.int .i64 6) := HP.out.out.cells.1
        have q1 : wc.cell? ⟨w1.heap.size, 1, none⟩ = some (.bool false) := HP.out.out.cells.2.1
        have q2 : wc.cell? ⟨w1.heap.size, 2, none⟩ = some (.int .i64 0) := HP.out.out.cells.2.2.1
        have q3 : wc.cell? ⟨w1.heap.size, 3, none⟩ = some (.string noS) := HP.out.out.cells.2.2.2.1
        have q4 := HP.out.out.cells.2.2.2.2.1
        have q5 := HP.out.out.cells.2.2.2.2.2
        cases hpo : treeOkB (putO t key kid)
        · rw [hpo] at HOK2
          have HC := Lib.hid (show putOk t key kid = false by rw [HPO2.out, hpo])
          clear hpo
          go_wp2_with fail
          refine HOK2.out.mono ?_; rintro e w3 ⟨rfl, hb3⟩
          have hbw := bnext HP.out.bel hb3
          have H3 := Lib.hid (And.intro (H1.out.1.keep hbw) (And.intro (H1.out.2.1.keep hbw) (And.intro (H1.out.2.2.1.keep hbw) (bnext H1.out.2.2.2 hbw))))
          have HI3 := Lib.hid (HT1.out.1.keep hbw)
          clear q0 q1 q2 q3 q4 q5 hb3 hbw HOK2
          obtain ⟨p0, p1, p2, p3, p4, p5⟩ := H3.out.1.cells
          go_wp2_with fail
          refine (lcopyT t.nodes t S _ _ _ (Nat.le_refl _) HW.out.1 (HI3.out)).mono ?_
          rintro e w8 ⟨⟨k2, s2, fp, rfl, hto, hnd, hge⟩, hb8⟩
          obtain ⟨fk, fs, -, hso, hko⟩ := treeOwn_iff.1 hto
          obtain ⟨a5, n5, rfl⟩ := str_shape hso
          obtain ⟨a6, n6, rfl⟩ := kids_shape hko
          clear hso hko
          have hz8 := (H3.out).2.2.1.keep hb8
          obtain ⟨r0, r1, r2, r3, r4, r5⟩ := hz8.cells
          obtain ⟨g0, g1, g2, g3, g4, g5⟩ := hz8.frozen
          have HN := Lib.hid (And.intro hto (And.intro hnd (And.intro hge (And.intro (bnext (H3.out).2.2.2 hb8) (And.intro (H3.out).2.2.1.lt (H3.out).2.2.2.size)))))
          clear hz8 hto hnd hge hb8 p0 p1 p2 p3 p4 p5
          go_wp2
          refine bodyPost_ret (v := .tuple #[.agg #[.int .i64 t.kind, .bool t.flag, .int .i64 t.num, .string t.text, .slice a5 t.keys.length n5, .slice a6 t.kids.length n6], .bool false]) (by first | (simp [results, Tryz.results58, go_sem]; done) | simp [results, Tryz.results58, go_sem, r0, r1, r2, r3, r4, r5]) rfl ?_
          obtain ⟨hto, hnd, hge, hbw, hlz, hsz⟩ := HN.out
          rw [HC.out, put_no HC.out]
          exact put6w_new2 (b := w.heap.size + 1 + 1) hto hnd (fun x hx => by have := hge x hx; exact ⟨by omega, by omega⟩) hbw (by omega) false _ _ _ _ _ _
        · rw [hpo] at HOK2
          have HC := Lib.hid (show putOk t key kid = true by rw [HPO2.out, hpo])
          clear hpo
          go_wp2_with fail
          refine HOK2.out.mono ?_; rintro e w3 ⟨rfl, hb3⟩
          have hbw := bnext HP.out.bel hb3
          have hz3 := H1.out.2.2.1.keep hbw
          obtain ⟨q0', q1', q2', q3', q4', q5'⟩ := (HP.out.out.keep hb3).cells
          have q0 : w3.cell? ⟨w1.heap.size, 0, none⟩ = some (.int .i64 6) := q0'
          have q1 : w3.cell? ⟨w1.heap.size, 1, none⟩ = some (.bool false) := q1'
          have q2 : w3.cell? ⟨w1.heap.size, 2, none⟩ = some (.int .i64 0) := q2'
          have q3 : w3.cell? ⟨w1.heap.size, 3, none⟩ = some (.string noS) := q3'
          have q4 := q4'
          have q5 := q5'
          obtain ⟨r0, r1, r2, r3, r4, r5⟩ := hz3.cells
          obtain ⟨g0, g1, g2, g3, g4, g5⟩ := hz3.frozen
          have HB3 := Lib.hid (And.intro (HTO.out.1.keep hb3) (bnext H1.out.2.2.2 hbw))
          clear q0' q1' q2' q3' q4' q5' hb3 hbw HOK2 hz3
          go_wp2
          refine bodyPost_ret (v := .tuple #[.agg #[.int .i64 6, .bool false, .int .i64 0, .string noS, .slice a5 (putO t key kid).keys.length n5, .slice a6 (putO t key kid).kids.length n6], .bool true]) (by first | (simp [results, Tryz.results58, go_sem]; done) | simp [results, Tryz.results58, go_sem, r0, r1, r2, r3, r4, r5]) rfl ?_
          rw [HC.out, put_yes HC.out]
          exact put6w_new2 (t := putO t key kid) (b := w.heap.size + 1 + 1) HB3.out.1 HTO.out.2.1 (fun x hx => by have := HTO.out.2.2 x hx; have := hzw; exact ⟨by omega, by omega⟩) HB3.out.2 (by omega) true _ _ _ _ _ _
    have hlt2 : k < t.kids.length := by have := HLK.out; omega
    go_upto_region 8 with fail
    go_cut [39] from 22 to 80 (fun s39 wx => ∃ c : Bool, s39 = .bool c ∧ Hid (c = decide (k = posK key t.keys)) ∧ wx = wr)
    case first =>
      obtain ⟨b, o, ho', hcell⟩ := (HK1.out.1.keep HPK.out.bel).at hlt
      cases ho'
      have c0 := hcell k hlt
      clear hcell
      have hbl := lt_of_cell c0
      have hwl : w.heap.size < w1.heap.size := H1.out.1.lt
      cases L
      · have h1 : ¬ posK key t.keys < k := by simpa using HL.out.symm
        by_cases hA : k < posK key t.keys
        · have hge : Op.bytesLess (strAt t.keys k).toList key.toList = true := pos_low key t.keys k hA
          have HR := Lib.hid (show false = decide (k = posK key t.keys) from (decide_eq_false (by omega)).symm)
          clear h1 hA
          go_wp2_with fail
          go_meet
          exact ⟨_, rfl, HR, rfl⟩
        · have hge : Op.bytesLess (strAt t.keys k).toList key.toList = false := by obtain rfl : k = posK key t.keys := by omega
                                                                                   exact pos_at key t.keys hlt
          have HR := Lib.hid (show true = decide (k = posK key t.keys) from (decide_eq_true (by omega)).symm)
          clear h1 hA
          go_wp2_with fail
          go_meet
          exact ⟨_, rfl, HR, rfl⟩
      · have h1 : posK key t.keys < k := by simpa using HL.out.symm
        have HR := Lib.hid (show false = decide (k = posK key t.keys) from (decide_eq_false (by omega)).symm)
        clear h1
        go_wp2_with fail
        go_meet
        exact ⟨_, rfl, HR, rfl⟩
    case rest =>
      obtain ⟨c, rfl, HCC, rfl⟩ := hcut
      go_upto_if 39 with fail
      go_cut [9] from 22 to 80 (fun s9 wx => ∃ (L1 : Bool) (K1 : List ByteArray) (T1 : List Tr) (vk1 vs1 : Value) (f1 : List Nat), s9 = .bool L1 ∧ Hid (L1 = decide (posK key t.keys < k + 1)) ∧ Hid (PK w1 wx K1 T1 vk1 vs1 f1) ∧ Hid (midOk key t.keys kid t.kids k K1 T1))
      case first =>
        cases c
        · have HMM := Lib.hid (mid_ne (kid := kid) HSO.out HLK.out hnl hlt (by have := HCC.out; simpa using this.symm) HL.out)
          go_wp2_with fail
          go_meet
          exact ⟨_, _, _, _, _, _, rfl, Lib.hid HMM.out.1, HPK, Lib.hid HMM.out.2⟩
        · have hA : k = posK key t.keys := by have := HCC.out; simpa using this.symm
          have HMM := Lib.hid (mid_at (kid := kid) HLK.out hnl hlt hA)
          have HL1 := Lib.hid (show true = decide (posK key t.keys < k + 1) from (decide_eq_true (by omega)).symm)
          have hKl : (stK key t.keys k).length ≤ 301 := by have := HLE.out.1; omega
          have hTl : (stT key t.keys kid t.kids k).length ≤ 301 := by have := HLE.out; omega
          clear hA HCC
          generalize stK key t.keys k = K0 at HPK HMM hKl ⊢
          generalize stT key t.keys kid t.kids k = T0 at HPK HMM hTl ⊢
          clear HLE
          obtain ⟨-, -, -, -, q4, q5⟩ := HPK.out.out.cells
          have g4 := HPK.out.out.frozen 4
          have hgl := HPK.out.size
          go_wp2_with (at_builtin; go_loud (refine wpList_key (by rfl) (.tmp 41) (.tmp 43) (by rfl) HPK.out key (by rfl) (by rfl) (by omega) ?_; intro gg n3 cap3 w3 q4 g4 hP3))
          have HP3 := Lib.hid hP3; clear hP3 q4 g4
          generalize w3.setCell ⟨w1.heap.size, 4, none⟩ (.slice gg n3 cap3) = wx at HP3 ⊢
          have q5 := HP3.out.out.cells.2.2.2.2.2
          have g5 := HP3.out.out.frozen 5
          obtain ⟨k0, k1, k2, k3, k4, k5⟩ := (H1.out.2.1.keep HP3.out.bel).cells
          have hgl := HP3.out.size
          have hwl1 : w.heap.size + 1 < w1.heap.size := H1.out.2.1.lt
          clear HPK
          go_region_law (first
            | (go_simp; go_at_call 93; refine (lcopyT kid.nodes kid S' _ _ _ (Nat.le_refl _) HW.out.2 ((HT1.out.2.keep HP3.out.bel).keep (by repeat (first | exact Below.refl _ _ | refine Below.drew ?_)))).mono ?_
               rintro e w5 ⟨⟨kk2, s2, fp, rfl, hto, hnd, hge⟩, hb5⟩
               obtain ⟨fk2, fs2, hfe, hso2, hko2⟩ := treeOwn_iff.1 hto
               obtain ⟨a5, n5, rfl⟩ := str_shape hso2
               obtain ⟨a6, n6, rfl⟩ := kids_shape hko2
               clear hfe hso2 hko2
               have HB5 := Lib.hid (show Below wx.heap.size wx w5 from bnext (by repeat (first | exact Below.refl _ _ | (refine Below.alloc ?_ (by first | omega | (simp; done) | (simp; omega)) _) | (refine Below.setCell ?_ (by first | omega | (simp; done) | (simp; omega)) _) | (refine Below.drew ?_) | (refine below_drewN ?_ _))) hb5)
               have HTO := Lib.hid (And.intro hto (And.intro hnd (show ∀ b, b ∈ fp → wx.heap.size ≤ b from fun b hb => by have := hge b hb; simp at this; omega)))
               have q5 := (HP3.out.keep HB5.out).out.cells.2.2.2.2.2
               have hgl := (HP3.out.keep HB5.out).size
               clear hto hnd hge hb5)
            | (go_loud (refine step_kid (by rfl) (.tmp 47) (.tmp 50) (by rfl) HP3.out kid HTO.out.1 HTO.out.2.1 HTO.out.2.2 (by rfl) w5.heap.size (by rfl) (by omega) HB5.out (by repeat (first | exact Below.refl _ _ | (refine Below.alloc ?_ (by first | omega | (simp; done) | (simp; omega)) _) | (refine Below.setCell ?_ (by first | omega | (simp; done) | (simp; omega)) _) | (refine Below.drew ?_) | (refine below_drewN ?_ _))) (heap_alloc_new _ _) ?_; intro gg6 cap6 ff6 w6 q5 g5 hP6)))
          all_goals
            have HP6 := Lib.hid hP6; clear hP6 q5 g5
            go_wp2_with fail
            go_meet
            exact ⟨_, _, _, _, _, _, rfl, HL1, HP6, HMM⟩
      case rest =>
        obtain ⟨L1, K1, T1, vk1, vs1, f1, rfl, HL1, HP1, HM⟩ := hcut
        clear HPK HLE HL HCC p0 p1 p2 p3 p4 p5
        obtain ⟨-, -, -, -, q4, q5⟩ := HP1.out.out.cells
        have g4 := HP1.out.out.frozen 4
        have hgl := HP1.out.size
        obtain ⟨p0, p1, p2, p3, p4, p5⟩ := (H1.out.1.keep HP1.out.bel).cells
        obtain ⟨b, o, ho1, hcell⟩ := (HK1.out.1.keep HP1.out.bel).at hlt
        cases ho1
        have c0 := hcell k hlt
        clear hcell
        have hbl := lt_of_cell c0
        have hwl : w.heap.size < w1.heap.size := H1.out.1.lt
        have hKl := HM.out.1.1
        have hTl := HM.out.1.2
        cases hne : ((strAt t.keys k).toList == key.toList)
        rotate_left
        · have HST := Lib.hid (HM.out.2.1 hne)
          clear p5 q5
          go_wp2_with fail
          go_roundw
          case rel => exact ⟨k + 1, L1, _, _, _, by omega, by go_num, rfl, HL1, Lib.hid (by rw [HST.out.1, HST.out.2]; exact HP1.out)⟩
          case measure => simp [intOf]; omega
        have HST := Lib.hid (HM.out.2.2 hne)
        go_wp2_with fail
        go_region_law (go_loud (refine step_key (by rfl) (.tmp 61) (.tmp 67) (by rfl) HP1.out (strAt t.keys k) (by rfl) wc.heap.size (by rfl) (by omega) (by repeat (first | exact Below.refl _ _ | (refine Below.alloc ?_ (by first | omega | (simp; done) | (simp; omega)) _) | (refine Below.setCell ?_ (by first | omega | (simp; done) | (simp; omega)) _) | (refine Below.drew ?_) | (refine below_drewN ?_ _))) (heap_alloc_new _ _) ?_; intro gg cap3 w3 q4 g4 hP3))
        all_goals
          have HP3 := Lib.hid hP3; clear hP3 q4 g4 p4 c0 hgl hbl
          clear HP1
          generalize w3.setCell ⟨w1.heap.size, 4, none⟩ (.slice (some ⟨gg, 0, none⟩) (K1.length + 1) cap3) = wx at HP3 ⊢
          generalize (.slice (some ⟨gg, 0, none⟩) (K1.length + 1) cap3 : Value) = vk3 at HP3 ⊢
          obtain ⟨b9, o9, kk9, ks9, hv9, ⟨e0, e1, e2, e3, e4, e5⟩, hin⟩ := (HK1.out.2.keep HP3.out.bel).at hlt2
          cases hv9
          obtain ⟨hk9, hs9⟩ := treeIn_iff.1 hin
          obtain ⟨a7, n7, rfl⟩ := hk9.len
          obtain ⟨a8, n8, rfl⟩ := hs9.len
          clear hk9 hs9
          have q5 := HP3.out.out.cells.2.2.2.2.2
          have g5 := HP3.out.out.frozen 5
          have p5 := (H1.out.1.keep HP3.out.bel).cells.2.2.2.2.2
          have hgl := HP3.out.size
          have hbl := lt_of_cell e0
          have hwk := HWK.out k hlt2
          go_wp2_with fail
          go_region_law (first
            | (go_simp; go_at_call 93; refine (lcopyT (kidAt t.kids k).nodes (kidAt t.kids k) S _ _ _ (Nat.le_refl _) (by have := HW.out.1; omega) (hin.keep (by repeat (first | exact Below.refl _ _ | refine Below.drew ?_)))).mono ?_
               rintro e w5 ⟨⟨k2, s2, fp, rfl, hto, hnd, hge⟩, hb5⟩
               obtain ⟨fk2, fs2, hfe, hso2, hko2⟩ := treeOwn_iff.1 hto
               obtain ⟨a5, n5, rfl⟩ := str_shape hso2
               obtain ⟨a6, n6, rfl⟩ := kids_shape hko2
               clear hfe hso2 hko2
               have HB5 := Lib.hid (show Below wx.heap.size wx w5 from bnext (by repeat (first | exact Below.refl _ _ | (refine Below.alloc ?_ (by first | omega | (simp; done) | (simp; omega)) _) | (refine Below.setCell ?_ (by first | omega | (simp; done) | (simp; omega)) _) | (refine Below.drew ?_) | (refine below_drewN ?_ _))) hb5)
               have HTO := Lib.hid (And.intro hto (And.intro hnd (show ∀ b, b ∈ fp → wx.heap.size ≤ b from fun b hb => by have := hge b hb; simp at this; omega)))
               have q5 := (HP3.out.keep HB5.out).out.cells.2.2.2.2.2
               have hgl := (HP3.out.keep HB5.out).size
               clear hto hnd hge hb5)
            | (go_loud (refine step_kid (by rfl) (.tmp 71) (.tmp 78) (by rfl) HP3.out (kidAt t.kids k) HTO.out.1 HTO.out.2.1 HTO.out.2.2 (by rfl) w5.heap.size (by rfl) (by omega) HB5.out (by repeat (first | exact Below.refl _ _ | (refine Below.alloc ?_ (by first | omega | (simp; done) | (simp; omega)) _) | (refine Below.setCell ?_ (by first | omega | (simp; done) | (simp; omega)) _) | (refine Below.drew ?_) | (refine below_drewN ?_ _))) (heap_alloc_new _ _) ?_; intro gg6 cap6 ff6 w6 q5 g5 hP6)))
          all_goals
            go_wp2
            go_roundw
            case rel => exact ⟨k + 1, L1, _, _, _, by omega, by go_num, rfl, HL1, Lib.hid (by rw [HST.out.1, HST.out.2]; exact hP6)⟩
            case measure => simp [intOf]; omega

end Go.Proofs.YtomhbbchflblpaaGreatDoor
