/- TrW, TrD, merged. -/
import Derived.Test.YtomhbbchflblpaaGreatDoorVJ
import Derived.Test.YtomhbbchflblpaaGreatDoorVL
import Derived.Test.YtomhbbchflblpaaGreatDoorDraw
import Derived.Test.YtomhbbchflblpaaGreatDoorVM
import Derived.Test.YtomhbbchflblpaaGreatDoorVN
namespace Go.Proofs.YtomhbbchflblpaaGreatDoor
open Go.RowKit

/-- A drawn tree comes back, on blocks of its own; only the cursor has turned. -/
def TrP (g d : Nat) (W0 : World) (e : Ending) (w' : World) : Prop :=
  ∃ t vk vs fp, Drn d t ∧ e = .returned (.agg #[.int .i64 t.kind, .bool t.flag, .int .i64 t.num, .string t.text, vk, vs]) ∧ TreeOwn w' t vk vs fp ∧ fp.Nodup ∧ (∀ b, b ∈ fp → W0.heap.size ≤ b) ∧ Cur w' g ∧ Apart [g] W0 w'
/-- The cursor, the fresh result local made in W0. -/
structure DT (W0 : World) (g : Nat) (w : World) : Prop where
  cur : Cur w g
  z : ZeroAt w W0.heap.size
  ap : Apart [g] W0 w
  hg : g < W0.heap.size
theorem DT.start {w : World} {g : Nat} (h : Cur w g) : DT w g (w.alloc (.cells #[.int .i64 0, .bool false, .int .i64 0, .string ⟨#[]⟩, .slice none 0 0, .slice none 0 0] 28)) :=
  ⟨h.keep (alloc_below _ _ _), ZeroAt.new w, Apart.of_below (alloc_below _ _ _) _, h.lt⟩
theorem DT.go {W0 w w' : World} {g : Nat} (h : DT W0 g w) (hc : Cur w' g) (ha : Apart [g] w w') : DT W0 g w' :=
  ⟨hc, ha.row h.z (by have := h.hg; simp; omega), h.ap.trans ha, h.hg⟩
theorem Apart.above {W0 w w' : World} {L : List Nat} (h : Apart L W0 w) {B : Nat} (hb : Below B w w') (hB : W0.heap.size ≤ B) : Apart L W0 w' :=
  ⟨hb.os.trans h.os, hb.tape.trans h.tape, hb.output.trans h.output, Nat.le_trans h.size hb.size, fun k hk hn => (hb.block k (by omega)).trans (h.block k hk hn)⟩
theorem DT.above {W0 w w' : World} {g : Nat} (h : DT W0 g w) {B : Nat} (hb : Below B w w') (hB : W0.heap.size < B) : DT W0 g w' :=
  ⟨h.cur.same fun k hk _ => hb.block k (by have := h.hg; omega), World.rowIs.of_block h.z (hb.block _ hB), h.ap.above hb (by omega), h.hg⟩
theorem DT.size {W0 w : World} {g : Nat} (h : DT W0 g w) : W0.heap.size < w.heap.size := h.z.lt
theorem DT.keep {W0 w w' : World} {g : Nat} (h : DT W0 g w) (hb : Below w.heap.size w w') : DT W0 g w' := h.above hb h.size
theorem DT.ret {W0 w : World} {g d : Nat} {t : Tr} {vk vs : Value} {fp : List Nat} (h : DT W0 g w) (hd : Drn d t) (ho : TreeOwn w t vk vs fp) (hn : fp.Nodup) (hb : ∀ b, b ∈ fp → W0.heap.size < b) (v0 v1 v2 v3 v4 v5 : Value) :
    TrP g d W0 (.returned (.agg #[.int .i64 t.kind, .bool t.flag, .int .i64 t.num, .string t.text, vk, vs])) (put6w w W0.heap.size v0 v1 v2 v3 v4 v5) := by
  have hw : Below W0.heap.size w (put6w w W0.heap.size v0 v1 v2 v3 v4 v5) := put6w_below (Below.refl _ _) _ (Nat.le_refl _) _ _ _ _ _ _
  exact ⟨t, vk, vs, fp, hd, rfl, TreeOwn.same _ _ _ _ ho fun x hx _ => put6w_heap _ _ _ _ _ _ _ _ _ (by have := hb x hx; omega), hn, fun b hb' => by have := hb b hb'; omega,
    h.cur.same fun k hk _ => put6w_heap _ _ _ _ _ _ _ _ _ (by have := h.hg; omega), h.ap.above hw (Nat.le_refl _)⟩

/-! ### Leaves and lists -/
theorem textOk_no : textOkB noS = true := by decide +kernel
theorem noS_nil : noS.toList = [] := by rw [ByteArray.toList_eq]; rfl
theorem nums_leaf {k : Int} {f : Bool} {n : Int} {s : ByteArray} (h : -9223372036854775808 ≤ n ∧ n ≤ 9223372036854775807) : (Tr.mk k f n s [] []).nums := by
  rw [nums_iff]; exact ⟨(Lit.wf_int_iff .i64 n).2 h, by simp [Tr.kids, numsL]⟩
theorem no_keys (i : Nat) : (strAt [] i).size ≤ 20 := by simp [strAt]
theorem sm_null : Sm (.mk 1 false 0 noS [] []) := ⟨by decide +kernel, nums_leaf (by omega), Nat.zero_le _, no_keys⟩
theorem sm_flag (b : Bool) : Sm (.mk 2 b 0 noS [] []) := ⟨by cases b <;> decide +kernel, nums_leaf (by omega), Nat.zero_le _, no_keys⟩
theorem sm_int (n : Int) (h : -9223372036854775808 ≤ n ∧ n ≤ 9223372036854775807) : Sm (.mk 3 false n noS [] []) := by
  refine ⟨?_, nums_leaf h, Nat.zero_le _, no_keys⟩
  have hk : keysOkB [] = true := rfl
  simp [shapeB, shapeL, headB, betweenB, Tr.kind, Tr.flag, Tr.num, Tr.text, Tr.keys, Tr.kids, textOk_no, noS_nil, hk]
theorem sm_text (s : ByteArray) (h : s.size ≤ 20) (hu : (runesO s).isSome = true) : Sm (.mk 4 false 0 s [] []) := by
  refine ⟨?_, nums_leaf (by omega), h, no_keys⟩
  have hk : keysOkB [] = true := rfl
  have ht : textOkB s = true := by rw [textOkB, decide_eq_true (by omega), hu]; rfl
  simp [shapeB, shapeL, headB, betweenB, Tr.kind, Tr.flag, Tr.num, Tr.text, Tr.keys, Tr.kids, ht, hk]
theorem sm_list {l : List Tr} (h : ∀ i, i < l.length → Sm (kidAt l i)) : Sm (listTr l) := by
  refine ⟨?_, ?_, Nat.zero_le _, no_keys⟩
  · have hk : keysOkB [] = true := rfl
    have hl : shapeL l = true := shapeL_at l fun i hi => (h i hi).shape
    have h0 : textOkB ⟨#[]⟩ = true := textOk_no
    have h1 : (⟨#[]⟩ : ByteArray).toList = [] := noS_nil
    simp [listTr, shapeB, headB, betweenB, Tr.kind, Tr.flag, Tr.num, Tr.text, Tr.keys, Tr.kids, h0, h1, hk, hl]
  · rw [nums_iff]
    exact ⟨show (Lit.int .i64 0).wf = true by decide, numsL_of _ fun i hi => (h i hi).nums⟩
theorem drn_list {d : Nat} {l : List Tr} (hl : l.length ≤ 4) (h : ∀ i, i < l.length → Drn d (kidAt l i)) : Drn (d + 1) (listTr l) := ⟨sm_list fun i hi => (h i hi).sm, hl, h⟩
theorem drn_wt3' {d : Nat} (hd : d ≤ 3) {t : Tr} (h : Drn d t) : t.wt ≤ 4000 ∧ t.nodes ≤ 100 := by
  have h3 : Drn 3 t := by
    match d, hd, h with
    | 0, _, h => exact h.succ.succ.succ
    | 1, _, h => exact h.succ.succ
    | 2, _, h => exact h.succ
    | 3, _, h => exact h
  have := drn_wt 3 t h3
  have e : wtD 3 = 3548 := by decide
  have := (drn_ok h3).2
  omega
theorem pick7 (z : Int) (hz : -9223372036854775808 ≤ z ∧ z ≤ 9223372036854775807) : ∀ i, i < 7 → (-9223372036854775808 ≤ ([0, 1, -1, 42, 9223372036854775807, -9223372036854775808, z] : List Int).getD i 0 ∧ ([0, 1, -1, 42, 9223372036854775807, -9223372036854775808, z] : List Int).getD i 0 ≤ 9223372036854775807)
  | 0, _ | 1, _ | 2, _ | 3, _ | 4, _ | 5, _ => by simp
  | 6, _ => hz
  | i + 7, h => by omega

/-! ### A list that is drawn -/
structure LD (W0 : World) (g base : Nat) (w : World) (v : Value) (l : List Tr) (ff : List Nat) (d k : Nat) : Prop where
  dt : DT W0 g w
  kids : KidsGrow w base 28 v l ff
  len : l.length = k
  all : ∀ i, i < l.length → Drn d (kidAt l i)
  lt : W0.heap.size < base
  le : base ≤ w.heap.size
theorem LD.go {W0 w w' : World} {g base : Nat} {v : Value} {l : List Tr} {ff : List Nat} {d k : Nat} (h : LD W0 g base w v l ff d k) (hc : Cur w' g) (ha : Apart [g] w w') : LD W0 g base w' v l ff d k :=
  ⟨h.dt.go hc ha, h.kids.same fun b hb hl => ha.block b hl (by
    have := h.kids.lt; have := h.lt; have := h.dt.hg
    have hB : base ≤ b := by rcases hb with hb | hb; (· exact (h.kids.lt.1 b hb).1); exact (h.kids.lt.2 b hb).1
    simp; omega), h.len, h.all, h.lt, Nat.le_trans h.le ha.size⟩
theorem LD.start {W0 w : World} {g d : Nat} (h : DT W0 g w) (o : Array Value) (ho : o = #[]) : LD W0 g w.heap.size (w.alloc (.cells o 28)) (.slice (some ⟨w.heap.size, 0, none⟩) 0 0) [] [] d 0 := by
  subst ho
  refine ⟨h.keep (alloc_below _ _ _), ⟨[], ?_, by simp only [KidsRow], List.nodup_nil, fun b hb => by simp at hb⟩, rfl, fun i hi => by simp at hi, h.size, by simp⟩
  have := World.ownsRow_made (base := w.heap.size) (e := 28) (size := 6) w #[] 0 (by simp) (by unfold maxLen; omega) rfl
  simpa using this
theorem kid_snoc {d : Nat} {l : List Tr} {t : Tr} (h : ∀ i, i < l.length → Drn d (kidAt l i)) (ht : Drn d t) : ∀ i, i < (l ++ [t]).length → Drn d (kidAt (l ++ [t]) i) := by
  intro i hi
  rw [List.length_append] at hi
  simp at hi
  rcases Nat.lt_or_ge i l.length with hl | hl
  · have e : kidAt (l ++ [t]) i = kidAt l i := by simp only [kidAt, List.getD_eq_getElem?_getD, List.getElem?_append_left hl]
    rw [e]; exact h i hl
  · obtain rfl : i = l.length := by omega
    have e : kidAt (l ++ [t]) l.length = t := by simp [kidAt]
    rw [e]; exact ht
/-- A drawn tree is appended: a step of the walk. -/
theorem wpList_kidG {ops : Array Oper} {rest : List Oper} {o : Oper} {a : Act} {Q : Exit → Act → World → Prop} (hgd : o.guard = none) (s x : Operand)
    (ho : o.op = .call { callee := .builtin .append, args := #[s, x], argTypes := #[26, 26] }) {W0 w0 w : World} {g base : Nat} {v : Value} {l : List Tr} {ff fp : List Nat} {d k : Nat} (he : LD W0 g base w v l ff d k) (h0 : LD W0 g base w0 v l ff d k) (t : Tr) (hd : Drn d t)
    {a5 a6 : Option Addr} {l5 l6 n5 n6 : Nat} (ht : TreeOwn w t (.slice a5 l5 n5) (.slice a6 l6 n6) fp) (hfn : fp.Nodup) (hfp : ∀ b, b ∈ fp → w0.heap.size ≤ b)
    (hs : a.eval s = v) (hx : a.eval x = .slice (some ⟨w.heap.size, 0, none⟩) 1 1) (hk : k ≤ 1000)
    (hq : ∀ v' ff' w', LD W0 g base w' v' (l ++ [t]) ff' d (k + 1) → wpList Tryz.prog ops Q rest (a.put o.dst v') w') :
    wpList Tryz.prog ops Q (o :: rest) a (w.alloc (.cells #[.int .i64 t.kind, .bool t.flag, .int .i64 t.num, .string t.text, .slice a5 l5 n5, .slice a6 l6 n6] 28)) := by
  obtain ⟨i1, hi, hz0, hz1, hz2⟩ := info_parts Tryz.infoTree
  have hb := alloc_below w #[.int .i64 t.kind, .bool t.flag, .int .i64 t.num, .string t.text, .slice a5 l5 n5, .slice a6 l6 n6] 28
  have hle := he.le
  have hlen := he.len
  have hls := h0.kids.lt
  obtain ⟨xs, hx1, hx2, hx3, hx4⟩ := he.kids.keep hb
  refine wpList_append_spotK hgd s x 26 ho base 28 i1 _ 6 88 Tryz.underlying26 hi hz0 hz1 hz2 rfl (by decide) v l.length xs hs hx1 ⟨w.heap.size, 0, none⟩ 1 1 (six t (.slice a5 l5 n5) (.slice a6 l6 n6)) hx rfl (six_src _ _ _ _ _) six_one (by unfold maxLen; omega) (by omega) (by have := hb.size; omega) ?_
  intro v' w' hown hg hsp
  have hbw : Below base w w' := (hb.mono hle).grown hg (by have := hb.size; omega) (fun q hq' => (hx1.lt q hq').1)
  refine hq v' (ff ++ fp) w' ⟨he.dt.above hbw he.lt, KidsGrow.step hx1 hx2 hx3 hx4 (ht.keep hb) hfn (fun b hb' => ?_) hown hg hsp, by rw [List.length_append, hlen]; rfl, kid_snoc he.all hd, he.lt, Nat.le_trans hle hbw.size⟩
  have := hfp b hb'
  have := h0.le
  exact ⟨by omega, fun e => by have := (hls.1 b e).2; omega, fun e => by have := (hls.2 b e).2; omega⟩

/-! ### A map that is drawn -/
structure MD (W0 : World) (g B : Nat) (w : World) (m : Tr) (vk vs : Value) (fp : List Nat) (d k : Nat) : Prop where
  dt : DT W0 g w
  sp : Spill w B m vk vs
  own : TreeOwn w m vk vs fp
  nd : fp.Nodup
  ge : ∀ b, b ∈ fp → B < b
  lt : W0.heap.size < B
  md : MapD d k m
theorem MD.go {W0 w w' : World} {g B : Nat} {m : Tr} {vk vs : Value} {fp : List Nat} {d k : Nat} (h : MD W0 g B w m vk vs fp d k) (hc : Cur w' g) (ha : Apart [g] w w') : MD W0 g B w' m vk vs fp d k := by
  have h1 := h.dt.hg
  have h2 := h.lt
  exact ⟨h.dt.go hc ha, h.sp.of_block (ha.block _ h.sp.lt (by simp; omega)), TreeOwn.same _ _ _ _ h.own fun b hb hl => ha.block b hl (by have := h.ge b hb; simp; omega), h.nd, h.ge, h.lt, h.md⟩
theorem MD.keep {W0 w w' : World} {g B : Nat} {m : Tr} {vk vs : Value} {fp : List Nat} {d k : Nat} (h : MD W0 g B w m vk vs fp d k) (hb : Below w.heap.size w w') : MD W0 g B w' m vk vs fp d k :=
  h.go (h.dt.cur.keep hb) (Apart.of_below hb _)
theorem MD.start {W0 w : World} {g d : Nat} (h : DT W0 g w) : MD W0 g w.heap.size (w.alloc (.cells #[.int .i64 6, .bool false, .int .i64 0, .string noS, .slice none 0 0, .slice none 0 0] 28)) emptyMap (.slice none 0 0) (.slice none 0 0) [] d 0 :=
  ⟨h.keep (alloc_below _ _ _), Spill.new w emptyMap _ _ _, leaf_own _ _ _ _ _, List.nodup_nil, fun b hb => by simp at hb, h.size, mapD_start d⟩
theorem Spill.put6 {w : World} {b : Nat} {t u : Tr} {vk vs uk us : Value} (h : Spill w b t vk vs) : Spill (put6w w b (.int .i64 u.kind) (.bool u.flag) (.int .i64 u.num) (.string u.text) uk us) b u uk us := by
  obtain ⟨e, F, hr, -⟩ := h
  exact ⟨e, _, (((((hr.set 0 _).set 1 _).set 2 _).set 3 _).set 4 _).set 5 _, rfl, rfl, rfl, rfl, rfl, rfl⟩
theorem MD.next {W0 w w' : World} {g B : Nat} {m kid : Tr} {key : ByteArray} {vk vs uk us : Value} {fp fu : List Nat} {d k : Nat} (h : MD W0 g B w m vk vs fp d k) (hb : Below w.heap.size w w') (hkid : Drn d kid) (hkey : key.size ≤ 20)
    (ho : TreeOwn w' (putR m key kid) uk us fu) (hn : fu.Nodup) (hge : ∀ b, b ∈ fu → w.heap.size ≤ b) :
    MD W0 g B (put6w w' B (.int .i64 (putR m key kid).kind) (.bool (putR m key kid).flag) (.int .i64 (putR m key kid).num) (.string (putR m key kid).text) uk us) (putR m key kid) uk us fu d (k + 1) := by
  have hB := h.sp.lt
  have hp : Below B w' (put6w w' B (.int .i64 (putR m key kid).kind) (.bool (putR m key kid).flag) (.int .i64 (putR m key kid).num) (.string (putR m key kid).text) uk us) := put6w_below (Below.refl _ _) _ (Nat.le_refl _) _ _ _ _ _ _
  exact ⟨(h.dt.keep hb).above hp h.lt, (h.sp.keep hb).put6, TreeOwn.same _ _ _ _ ho fun x hx _ => put6w_heap _ _ _ _ _ _ _ _ _ (by have := hge x hx; omega), hn, fun b hb' => by have := hge b hb'; omega, h.lt, mapD_put h.md hkid hkey⟩

end Go.Proofs.YtomhbbchflblpaaGreatDoor
namespace Go.Proofs.YtomhbbchflblpaaGreatDoor
open Go.RowKit

def TreeAny (d : Nat) : Prop := ∀ (g : Nat) (w : World), Cur w g → Calls Tryz.prog 22 #[.pointer (some ⟨g, 0, none⟩), .int .i64 ((d : Int) + 1)] w (TrP g d w)

set_option maxRecDepth 100000 in
set_option maxHeartbeats 40000000 in
theorem tree_step (d : Nat) (D : Int) (hD : D = (d : Int) + 1) (hd : d ≤ 3) (ih : ∀ d', d = d' + 1 → TreeAny d') (g : Nat) (w : World) (hC : Cur w g) :
    Calls Tryz.prog 22 #[.pointer (some ⟨g, 0, none⟩), .int .i64 D] w (TrP g d w) := by
  have hD1 : 1 ≤ D := by omega
  have hD4 : D ≤ 4 := by omega
  have HIH := Lib.hid (show 2 ≤ D → ∃ d', d = d' + 1 ∧ ∀ (g : Nat) (w : World), Cur w g → Calls Tryz.prog 22 #[.pointer (some ⟨g, 0, none⟩), .int .i64 (D - 1)] w (TrP g d' w) from fun h2 => ⟨d - 1, by omega, fun g w hC => by
    have h := ih (d - 1) (by omega) g w hC
    rw [show ((d - 1 : Nat) : Int) + 1 = D - 1 by omega] at h; exact h⟩)
  have HD := Lib.hid hd
  have H0 := Lib.hid (DT.start hC)
  clear hC ih hD hd
  go_enter Tryz.func22, Tryz.ntmps22
  go_wp2_with fail
  refine (l01Below_any g 9 _ (by omega) (by omega) H0.out.cur).mono ?_
  rintro e w1 ⟨x, hx0, hx1, rfl, hc1, ha1⟩
  have H1 := Lib.hid (H0.out.go hc1 ha1); clear hc1 ha1 H0
  go_upto_region 2 with fail
  go_cut [17] from 10 to 80 (fun s17 wx => ∃ c : Bool, s17 = .bool c ∧ Hid (c = true ↔ (D ≤ 1 ∧ 5 < x)) ∧ w1 = wx)
  case first =>
    by_cases h1 : D ≤ 1
    · by_cases h2 : 5 < x
      · have HX := Lib.hid (show true = true ↔ (D ≤ 1 ∧ 5 < x) from ⟨fun _ => ⟨h1, h2⟩, fun _ => rfl⟩)
        go_wp2_with fail
        go_meet
        exact ⟨_, rfl, Lib.hid (by simpa using HX.out), rfl⟩
      · have HX := Lib.hid (show false = true ↔ (D ≤ 1 ∧ 5 < x) from ⟨fun h => by simp at h, fun h => absurd h.2 h2⟩)
        go_wp2_with fail
        go_meet
        exact ⟨_, rfl, HX, rfl⟩
    · have HX := Lib.hid (show false = true ↔ (D ≤ 1 ∧ 5 < x) from ⟨fun h => by simp at h, fun h => absurd h.1 h1⟩)
      go_wp2_with fail
      go_meet
      exact ⟨_, rfl, HX, rfl⟩
  case rest =>
    obtain ⟨c, rfl, HX, rfl⟩ := hcut
    go_upto_if 17 with fail
    go_cut [5] from 10 to 80 (fun s5 wx => ∃ y : Int, s5 = .int .i64 y ∧ Hid (0 ≤ y ∧ y ≤ 8 ∧ (5 < y → 2 ≤ D)) ∧ w1 = wx)
    case first =>
      cases c
      · have HY := Lib.hid (show 0 ≤ x ∧ x ≤ 8 ∧ (5 < x → 2 ≤ D) from ⟨hx0, by omega, fun h => by
          have h2 := HX.out
          by_cases h1 : D ≤ 1
          · have := h2.2 ⟨h1, h⟩; simp at this
          · omega⟩)
        go_wp2_with fail
        go_meet
        exact ⟨_, rfl, HY, rfl⟩
      · have h2 := HX.out.1 rfl
        have hx5 : 5 < x := h2.2
        have HY := Lib.hid (show 0 ≤ x - 6 ∧ x - 6 ≤ 8 ∧ (5 < x - 6 → 2 ≤ D) from ⟨by omega, by omega, fun h => by omega⟩)
        clear h2
        go_wp2_with fail
        go_meet
        exact ⟨_, rfl, HY, rfl⟩
    case rest =>
      obtain ⟨y, rfl, HY, rfl⟩ := hcut
      clear hx0 hx1 HX
      have hy : y = 0 ∨ y = 1 ∨ (y = 2 ∨ y = 3) ∨ (y = 4 ∨ y = 5) ∨ y = 6 ∨ (y = 7 ∨ y = 8) := by have := HY.out; omega
      rcases hy with rfl | rfl | hy | hy | rfl | hy
      · obtain ⟨r0, r1, r2, r3, r4, r5⟩ := H1.out.z.cells
        obtain ⟨g0, g1, g2, g3, g4, g5⟩ := H1.out.z.frozen
        go_wp2
        refine bodyPost_ret (v := .agg #[.int .i64 1, .bool false, .int .i64 0, .string ⟨#[]⟩, .slice none 0 0, .slice none 0 0]) (by simp [results, Tryz.results22, go_sem, r0, r1, r2, r3, r4, r5]) rfl ?_
        exact H1.out.ret (t := .mk 1 false 0 noS [] []) (Drn.leaf (sm_null) rfl _) (leaf_own _ _ _ _ _) List.nodup_nil (fun b hb => by simp at hb) _ _ _ _ _ _
      · go_wp2_with fail
        refine (l01Once_any g 2 _ (by omega) (by omega) H1.out.cur).mono ?_
        rintro e w2 ⟨bo, rfl, hc2, ha2⟩
        have H2 := Lib.hid (H1.out.go hc2 ha2); clear hc2 ha2
        obtain ⟨r0, r1, r2, r3, r4, r5⟩ := H2.out.z.cells
        obtain ⟨g0, g1, g2, g3, g4, g5⟩ := H2.out.z.frozen
        go_wp2
        refine bodyPost_ret (v := .agg #[.int .i64 2, .bool bo, .int .i64 0, .string ⟨#[]⟩, .slice none 0 0, .slice none 0 0]) (by simp [results, Tryz.results22, go_sem, r0, r1, r2, r3, r4, r5]) rfl ?_
        exact H2.out.ret (t := .mk 2 bo 0 noS [] []) (Drn.leaf (sm_flag bo) rfl _) (leaf_own _ _ _ _ _) List.nodup_nil (fun b hb => by simp at hb) _ _ _ _ _ _
      · rcases hy with rfl | rfl
        all_goals
          go_wp2_with fail
          refine (l02Num_any g _ H1.out.cur).mono ?_
          rintro e w2 ⟨z, hz, rfl, hc2, ha2⟩
          have H2 := Lib.hid (H1.out.go hc2 ha2)
          have HZ := Lib.hid (pick7 z hz)
          clear hz hc2 ha2
          go_wp2_with fail
          refine (l01PickInt_any g _ 7 7 (fun i => ([0, 1, -1, 42, 9223372036854775807, -9223372036854775808, z] : List Int).getD i 0) _ (fun x => -9223372036854775808 ≤ x ∧ x ≤ 9223372036854775807) (by omega) (by omega) (H2.out.cur.alloc _) (lit_ints w2 ([0, 1, -1, 42, 9223372036854775807, -9223372036854775808, z] : List Int) _ rfl) (fun b o h => by cases h; have := H2.out.cur.lt; omega) HZ.out).mono ?_
          rintro e w3 ⟨n, hn, rfl, hc3, ha3⟩
          have H3 := Lib.hid ((H2.out.keep (alloc_below _ _ _)).go hc3 ha3)
          have HN := Lib.hid hn
          clear hn hc3 ha3 HZ
          go_wp2_with fail
          refine (sIntTree n _).mono ?_
          rintro e w4 ⟨rfl, hb4⟩
          have H4 := Lib.hid (H3.out.keep hb4); clear hb4
          obtain ⟨r0, r1, r2, r3, r4, r5⟩ := H4.out.z.cells
          obtain ⟨g0, g1, g2, g3, g4, g5⟩ := H4.out.z.frozen
          go_wp2
          refine bodyPost_ret (v := .agg #[.int .i64 3, .bool false, .int .i64 n, .string ⟨#[]⟩, .slice none 0 0, .slice none 0 0]) (by simp [results, Tryz.results22, go_sem, r0, r1, r2, r3, r4, r5]) rfl ?_
          exact H4.out.ret (t := .mk 3 false n noS [] []) (Drn.leaf (sm_int n HN.out) rfl _) (leaf_own _ _ _ _ _) List.nodup_nil (fun b hb => by simp at hb) _ _ _ _ _ _
      · rcases hy with rfl | rfl
        all_goals
          go_wp2_with fail
          refine (l08Word_ok g _ H1.out.cur).mono ?_
          rintro e w2 ⟨s, hs, rfl, hc2, ha2⟩
          have H2 := Lib.hid (H1.out.go hc2 ha2)
          have HS := Lib.hid hs
          clear hs hc2 ha2
          go_wp2_with fail
          refine (sTextTree s _).mono ?_
          rintro e w4 ⟨rfl, hb4⟩
          have H4 := Lib.hid (H2.out.keep hb4); clear hb4
          obtain ⟨r0, r1, r2, r3, r4, r5⟩ := H4.out.z.cells
          obtain ⟨g0, g1, g2, g3, g4, g5⟩ := H4.out.z.frozen
          go_wp2
          refine bodyPost_ret (v := .agg #[.int .i64 4, .bool false, .int .i64 0, .string s, .slice none 0 0, .slice none 0 0]) (by simp [results, Tryz.results22, go_sem, r0, r1, r2, r3, r4, r5]) rfl ?_
          exact H4.out.ret (t := .mk 4 false 0 s [] []) (Drn.leaf (sm_text s HS.out.1 HS.out.2) rfl _) (leaf_own _ _ _ _ _) List.nodup_nil (fun b hb => by simp at hb) _ _ _ _ _ _
      · obtain ⟨d1, rfl, IH⟩ := HIH.out (HY.out.2.2 (by omega))
        have hD2 : 2 ≤ D := HY.out.2.2 (by omega)
        have HI := Lib.hid IH; clear IH HIH
        have HL := Lib.hid (LD.start (d := d1) H1.out #[] rfl)
        go_wp2_with fail
        go_loopw [6, 7] (fun s6 s7 wr => ∃ (k : Nat) (l : List Tr) (ff : List Nat), k ≤ 3 ∧ s7 = .int .i64 k ∧ Hid (LD w g w1.heap.size wr s6 l ff d1 k)) (fun _ s7 _ => 3 - (intOf s7).toNat)
        case atStart => exact ⟨0, [], [], by omega, rfl, HL⟩
        case round =>
          obtain ⟨k, l, ff, hk, rfl, HLK⟩ := hrel
          clear HL
          go_wp2_with fail
          refine (l01Below_any g 4 _ (by omega) (by omega) HLK.out.dt.cur).mono ?_
          rintro e w2 ⟨x2, hx0, hx1, rfl, hc2, ha2⟩
          have H2 := Lib.hid (HLK.out.go hc2 ha2); clear hc2 ha2 HLK
          cases hlt : decide ((k : Int) < x2)
          · obtain ⟨fs, hko, hnd, hge⟩ := H2.out.kids.own
            obtain ⟨a2, n2, rfl⟩ := kids_shape hko
            have HDR := Lib.hid (drn_list (d := d1) (by have := H2.out.len; omega) H2.out.all)
            have HW := Lib.hid (drn_wt3' HD.out HDR.out)
            have HKI := Lib.hid (hko.toIn (S := Any) (fun _ _ => trivial))
            clear hko hnd hge
            go_wp2_with fail
            refine (sListTree l Any a2 n2 _ (by have h := HW.out.1; rw [listTr_wt] at h; omega) HKI.out).mono ?_
            rintro e w3 ⟨⟨vk, vs, fp, rfl, hto, hnd, hge⟩, hb3⟩
            obtain ⟨fk9, fs9, hfe9, hso9, hko9⟩ := treeOwn_iff.1 hto
            obtain ⟨a5, n5, rfl⟩ := str_shape hso9
            obtain ⟨a6, n6, rfl⟩ := kids_shape hko9
            clear hfe9 hso9 hko9
            have H3 := Lib.hid (H2.out.dt.keep hb3)
            have HTO := Lib.hid (And.intro hto (And.intro hnd (show ∀ b, b ∈ fp → w.heap.size < b from fun b hb => by have := hge b hb; have := H2.out.dt.size; omega)))
            clear hto hnd hge hb3
            obtain ⟨r0, r1, r2, r3, r4, r5⟩ := H3.out.z.cells
            obtain ⟨g0, g1, g2, g3, g4, g5⟩ := H3.out.z.frozen
            go_wp2
            refine bodyPost_ret (v := .agg #[.int .i64 (listTr l).kind, .bool (listTr l).flag, .int .i64 (listTr l).num, .string (listTr l).text, .slice a5 (listTr l).keys.length n5, .slice a6 (listTr l).kids.length n6]) (by simp [results, Tryz.results22, go_sem, r0, r1, r2, r3, r4, r5]) rfl ?_
            exact H3.out.ret (t := listTr l) HDR.out HTO.out.1 HTO.out.2.1 HTO.out.2.2 _ _ _ _ _ _
          · have hlt1 : (k : Int) < x2 := by simpa using hlt
            go_wp2_with fail
            refine (HI.out g _ H2.out.dt.cur).mono ?_
            rintro e w3 ⟨t, vk, vs, fp, hd, rfl, hto, hnd, hge, hc3, ha3⟩
            obtain ⟨fk9, fs9, hfe9, hso9, hko9⟩ := treeOwn_iff.1 hto
            obtain ⟨a5, n5, rfl⟩ := str_shape hso9
            obtain ⟨a6, n6, rfl⟩ := kids_shape hko9
            clear hfe9 hso9 hko9
            have H3 := Lib.hid (H2.out.go hc3 ha3)
            have HTO := Lib.hid (And.intro hd (And.intro hto (And.intro hnd hge)))
            clear hd hto hnd hge hc3 ha3
            go_wp2_with (at_builtin; go_loud (refine wpList_kidG (by rfl) _ _ (by rfl) H3.out H2.out t HTO.out.1 HTO.out.2.1 HTO.out.2.2.1 HTO.out.2.2.2 (by rfl) (by rfl) (by omega) ?_; intro v4 ff4 w4 hL4))
            go_roundw
            case rel => exact ⟨k + 1, l ++ [t], ff4, by omega, by go_num, Lib.hid hL4⟩
            case measure => simp [intOf]; omega
      · obtain ⟨d1, rfl, IH⟩ := HIH.out (HY.out.2.2 (by omega))
        have hD2 : 2 ≤ D := HY.out.2.2 (by omega)
        have HI := Lib.hid IH; clear IH HIH
        have HM := Lib.hid (MD.start (d := d1) H1.out)
        have n0 : (y == 0) = false := by rw [beq_eq_false_iff_ne]; omega
        have n1 : (y == 1) = false := by rw [beq_eq_false_iff_ne]; omega
        have n2 : (y == 2) = false := by rw [beq_eq_false_iff_ne]; omega
        have n3 : (y == 3) = false := by rw [beq_eq_false_iff_ne]; omega
        have n4 : (y == 4) = false := by rw [beq_eq_false_iff_ne]; omega
        have n5 : (y == 5) = false := by rw [beq_eq_false_iff_ne]; omega
        have n6 : (y == 6) = false := by rw [beq_eq_false_iff_ne]; omega
        clear hy HY
        go_wp2_with fail
        clear n0 n1 n2 n3 n4 n5 n6
        go_loopw [9] (fun s9 wr => ∃ (k : Nat) (m : Tr) (vk vs : Value) (fp : List Nat), k ≤ 4 ∧ s9 = .int .i64 k ∧ Hid (MD w g w1.heap.size wr m vk vs fp d1 k)) (fun s9 _ => 4 - (intOf s9).toNat)
        case atStart => exact ⟨0, emptyMap, _, _, [], by omega, rfl, HM⟩
        case round =>
          obtain ⟨k, m, vk, vs, fp, hk, rfl, HMK⟩ := hrel
          clear HM
          have hto := HMK.out.own
          obtain ⟨fk9, fs9, hfe9, hso9, hko9⟩ := treeOwn_iff.1 hto
          obtain ⟨a1, m1, rfl⟩ := str_shape hso9
          obtain ⟨a2, m2, rfl⟩ := kids_shape hko9
          clear hfe9 hso9 hko9
          clear hto
          go_wp2_with fail
          refine (l01Below_any g 5 _ (by omega) (by omega) HMK.out.dt.cur).mono ?_
          rintro e w2 ⟨x2, hx0, hx1, rfl, hc2, ha2⟩
          have H2 := Lib.hid (HMK.out.go hc2 ha2); clear hc2 ha2 HMK
          obtain ⟨p0, p1, p2, p3, p4, p5⟩ := H2.out.sp.cells
          have HDR := Lib.hid (mapD_end H2.out.md hk)
          have HWM := Lib.hid (drn_wt3' HD.out HDR.out)
          have hw1l : w.heap.size < w1.heap.size := H2.out.lt
          have hw2l : w1.heap.size < w2.heap.size := H2.out.sp.lt
          cases hlt : decide ((k : Int) < x2)
          · obtain ⟨r0, r1, r2, r3, r4, r5⟩ := H2.out.dt.z.cells
            obtain ⟨g0, g1, g2, g3, g4, g5⟩ := H2.out.dt.z.frozen
            go_wp2
            refine bodyPost_ret (v := .agg #[.int .i64 m.kind, .bool m.flag, .int .i64 m.num, .string m.text, .slice a1 m.keys.length m1, .slice a2 m.kids.length m2]) (by simp [results, Tryz.results22, go_sem, r0, r1, r2, r3, r4, r5]) rfl ?_
            exact H2.out.dt.ret HDR.out H2.out.own H2.out.nd (fun b hb => by have := H2.out.ge b hb; have := H2.out.lt; omega) _ _ _ _ _ _
          · have hlt1 : (k : Int) < x2 := by simpa using hlt
            have hwr : IntKind.i64.wrap (D - 1) = D - 1 := IntWalk.i64_in _ (by omega)
            go_wp2_with fail
            go_region_law (first
              | (go_simp; go_at_call 56; refine (l08Word_ok g _ (H2.out.dt.cur.keep (by repeat (first | exact Below.refl _ _ | refine Below.drew ?_)))).mono ?_; rintro e w3 ⟨ks, hks, rfl, hc3, ha3⟩; have HM3 := Lib.hid ((H2.out.keep (by repeat (first | exact Below.refl _ _ | refine Below.drew ?_))).go hc3 ha3); have HKS := Lib.hid hks; clear hks hc3 ha3; obtain ⟨p0, p1, p2, p3, p4, p5⟩ := HM3.out.sp.cells)
              | (go_simp; go_at_call 22; (try rw [hwr]); go_loud (refine (HI.out g _ (HM3.out.dt.cur.keep (by repeat (first | exact Below.refl _ _ | refine Below.drew ?_)))).mono ?_); rintro e w4 ⟨kid, uk, us, fq, hd, rfl, hto, hnd, hge, hc4, ha4⟩; obtain ⟨fk9, fs9, hfe9, hso9, hko9⟩ := treeOwn_iff.1 hto; obtain ⟨a5, n5, rfl⟩ := str_shape hso9; obtain ⟨a6, n6, rfl⟩ := kids_shape hko9; clear hfe9 hso9 hko9; have HM4 := Lib.hid ((HM3.out.keep (by repeat (first | exact Below.refl _ _ | refine Below.drew ?_))).go hc4 ha4); have HKT := Lib.hid (And.intro hd (And.intro (drn_wt3' (by have := HD.out; omega) hd) hto)); clear hd hto hnd hge hc4 ha4; obtain ⟨p0, p1, p2, p3, p4, p5⟩ := HM4.out.sp.cells)
              | (go_simp; go_at_call 58; refine (sPutKid m kid Any Any ks _ _ _ _ _ (by have := HWM.out; omega) (by have := HKT.out.2.1; omega) (by have := HWM.out; have := HKT.out.2.1; omega) ((HM4.out.own.toIn _ _ _ _ (fun _ _ => trivial)).keep (by repeat (first | exact Below.refl _ _ | refine Below.drew ?_))) ((HKT.out.2.2.toIn _ _ _ _ (fun _ _ => trivial)).keep (by repeat (first | exact Below.refl _ _ | refine Below.drew ?_)))).mono ?_; rintro e w5 ⟨⟨k2, s2, fp2, rfl, hto, hnd, hge⟩, hb5⟩; obtain ⟨fk9, fs9, hfe9, hso9, hko9⟩ := treeOwn_iff.1 hto; obtain ⟨a7, n7, rfl⟩ := str_shape hso9; obtain ⟨a8, n8, rfl⟩ := kids_shape hko9; clear hfe9 hso9 hko9; have HB5 := Lib.hid (show Below w4.heap.size w4 w5 from bnext (by repeat (first | exact Below.refl _ _ | (refine Below.alloc ?_ (by first | omega | (simp; done) | (simp; omega)) _) | (refine Below.setCell ?_ (by first | omega | (simp; done) | (simp; omega)) _) | (refine Below.drew ?_) | (refine below_drewN ?_ _))) hb5); have HTO := Lib.hid (And.intro hto (And.intro hnd (show ∀ b, b ∈ fp2 → w4.heap.size ≤ b from fun b hb => by have := hge b hb; (try simp at this); omega))); have f5 := (HM4.out.sp.keep HB5.out).frozen; have f50 := f5 0; have f51 := f5 1; have f52 := f5 2; have f53 := f5 3; have f54 := f5 4; have f55 := f5 5; obtain ⟨p0, p1, p2, p3, p4, p5⟩ := (HM4.out.sp.keep HB5.out).cells; clear f5 hto hnd hge hb5))
            all_goals
              go_wp2
              go_roundw
              case rel => exact ⟨k + 1, putR m ks kid, _, _, fp2, by omega, by go_num, Lib.hid (MD.next HM4.out HB5.out HKT.out.1 HKS.out.1 HTO.out.1 HTO.out.2.1 HTO.out.2.2)⟩
              case measure => simp [intOf]; omega

theorem tree_any : ∀ d : Nat, d ≤ 3 → TreeAny d
  | 0, _ => fun g w hC => by
    have := tree_step 0 1 (by omega) (by omega) (fun d' h => by omega) g w hC
    simpa using this
  | d + 1, h => fun g w hC => tree_step (d + 1) (((d + 1 : Nat) : Int) + 1) rfl h (fun d' h' => by
    have e : d' = d := by omega
    rw [e]
    exact tree_any d (by omega)) g w hC

end Go.Proofs.YtomhbbchflblpaaGreatDoor
