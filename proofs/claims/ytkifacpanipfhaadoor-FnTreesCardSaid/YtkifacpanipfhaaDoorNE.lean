/- DrnP, TrW, TrD, DrawL, AnyW, AnyT, Pkd, merged. -/
import Derived.Test.YtkifacpanipfhaaDoorNB
import Derived.Test.YtkifacpanipfhaaDoorNA
import Derived.Test.YtkifacpanipfhaaDoorDraw
import Derived.Test.YtkifacpanipfhaaDoorNS
import Derived.Test.YtkifacpanipfhaaDoorND
import Derived.Test.YtkifacpanipfhaaDoorNG
import Derived.Deep.RegionHeld3
namespace Go.Proofs.YtkifacpanipfhaaDoor
open Go.RowKit

/-- A small node. -/
structure Sm (t : Tr) : Prop where
  shape : shapeB t = true
  nums : t.nums
  text : t.text.size ≤ 20
  keys : ∀ i, (strAt t.keys i).size ≤ 20
def Drn : Nat → Tr → Prop
  | 0, t => Sm t ∧ t.kids.length = 0
  | d + 1, t => Sm t ∧ t.kids.length ≤ 4 ∧ ∀ i, i < t.kids.length → Drn d (kidAt t.kids i)
theorem Drn.sm : ∀ {d : Nat} {t : Tr}, Drn d t → Sm t
  | 0, _, h => h.1
  | _ + 1, _, h => h.1
theorem Drn.succ : ∀ {d : Nat} {t : Tr}, Drn d t → Drn (d + 1) t
  | 0, t, h => ⟨h.1, by have := h.2; omega, fun i hi => by have := h.2; omega⟩
  | d + 1, t, h => ⟨h.1, h.2.1, fun i hi => (h.2.2 i hi).succ⟩
theorem Drn.leaf {t : Tr} (h : Sm t) (hk : t.kids.length = 0) : ∀ d : Nat, Drn d t
  | 0 => ⟨h, hk⟩
  | d + 1 => ⟨h, by omega, fun i hi => by omega⟩
theorem sumL (g : List Tr → Nat) (f : Tr → Nat) (h0 : g [] = 0) (hc : ∀ t ts, g (t :: ts) = f t + g ts) (B : Nat) : ∀ l : List Tr, (∀ i, i < l.length → f (kidAt l i) ≤ B) → g l ≤ B * l.length
  | [], _ => by rw [h0]; exact Nat.zero_le _
  | t :: ts, h => by
    have a := h 0 (by simp)
    have b := sumL g f h0 hc B ts (fun i hi => h (i + 1) (by simpa using hi))
    rw [hc, List.length_cons, Nat.mul_succ]
    have e : kidAt (t :: ts) 0 = t := rfl
    rw [e] at a
    omega
theorem maxL (B : Nat) : ∀ l : List Tr, (∀ i, i < l.length → (kidAt l i).depth ≤ B) → depthL l ≤ B
  | [], _ => Nat.zero_le _
  | t :: ts, h => by
    have a := h 0 (by simp)
    have b := maxL B ts (fun i hi => h (i + 1) (by simpa using hi))
    have e : kidAt (t :: ts) 0 = t := rfl
    rw [e] at a
    rw [depthL]; omega
def nodesD : Nat → Nat | 0 => 1 | d + 1 => 1 + 4 * nodesD d
theorem drn_nodes : ∀ (d : Nat) (t : Tr), Drn d t → t.nodes ≤ nodesD d
  | 0, t, h => by
    have := sumL nodesL Tr.nodes rfl (fun _ _ => rfl) 0 t.kids (fun i hi => by have := h.2; omega)
    have := nodes_eq t
    rw [nodesD]; omega
  | d + 1, t, h => by
    have a := sumL nodesL Tr.nodes rfl (fun _ _ => rfl) (nodesD d) t.kids (fun i hi => drn_nodes d _ (h.2.2 i hi))
    have b := Nat.mul_le_mul_left (nodesD d) h.2.1
    have := nodes_eq t
    rw [nodesD]; omega
theorem drn_depth : ∀ (d : Nat) (t : Tr), Drn d t → t.depth ≤ d + 1
  | 0, t, h => by
    have a := maxL 0 t.kids (fun i hi => by have := h.2; omega)
    cases t; simp only [Tr.depth, Tr.kids] at a ⊢; omega
  | d + 1, t, h => by
    have a := maxL (d + 1) t.kids (fun i hi => drn_depth d _ (h.2.2 i hi))
    cases t; simp only [Tr.depth, Tr.kids] at a ⊢; omega
theorem drn_ok {t : Tr} (h : Drn 3 t) : treeOkB t = true ∧ t.nodes ≤ 85 := by
  have a := drn_nodes 3 t h
  have b := drn_depth 3 t h
  have e : nodesD 3 = 85 := by decide
  rw [treeOkB, decide_eq_true (by omega), decide_eq_true (by omega), h.sm.shape]
  exact ⟨rfl, by omega⟩
theorem strWt_le {l : List ByteArray} {B n : Nat} (h : ∀ i, (strAt l i).size ≤ B) (hn : l.length ≤ n) : strWt l ≤ (B + 1) * n := by
  have key : ∀ l : List ByteArray, (∀ i, (strAt l i).size ≤ B) → (l.map ByteArray.size).sum ≤ B * l.length := by
    intro l
    induction l with
    | nil => intro _; exact Nat.zero_le _
    | cons x l ih =>
      intro h
      have a := h 0
      have b := ih (fun i => h (i + 1))
      have e : strAt (x :: l) 0 = x := rfl
      rw [e] at a
      rw [List.map_cons, List.sum_cons, List.length_cons, Nat.mul_succ]; omega
  have a := key l h
  have b := Nat.mul_le_mul_left B hn
  unfold strWt
  rw [Nat.add_mul]; omega
theorem sm_keys {t : Tr} (h : Sm t) : t.keys.length ≤ t.kids.length := by
  obtain ⟨-, -, -, h4, -, h6⟩ := head_kind (shape_parts h.shape).1
  by_cases e : t.kind = 6
  · rw [h4 e]; exact Nat.le_refl _
  · rw [h6 e]; exact Nat.zero_le _
def wtD : Nat → Nat | 0 => 20 | d + 1 => 108 + 4 * wtD d
theorem drn_wt : ∀ (d : Nat) (t : Tr), Drn d t → t.wt ≤ wtD d
  | 0, t, h => by
    have a := sumL wtL Tr.wt rfl (fun _ _ => rfl) 0 t.kids (fun i hi => by have := h.2; omega)
    have b := strWt_le h.1.keys (show t.keys.length ≤ 0 by have := sm_keys h.1; have := h.2; omega)
    have c := h.1.text
    have := wt_eq t
    have := h.2
    rw [wtD]; omega
  | d + 1, t, h => by
    have a := sumL wtL Tr.wt rfl (fun _ _ => rfl) (wtD d) t.kids (fun i hi => drn_wt d _ (h.2.2 i hi))
    have b := strWt_le h.1.keys (show t.keys.length ≤ 4 by have := sm_keys h.1; have := h.2.1; omega)
    have c := h.1.text
    have e := Nat.mul_le_mul_left (wtD d) h.2.1
    have := wt_eq t
    have := h.2.1
    rw [wtD]; omega
theorem drn_wt3 {t : Tr} (h : Drn 3 t) : t.wt ≤ 20000 := by
  have := drn_wt 3 t h
  have e : wtD 3 = 3548 := by decide
  omega

/-! ### What a round of drawing a map leaves -/
theorem kidAt_take (l : List Tr) (n i : Nat) (h : i < n) : kidAt (l.take n) i = kidAt l i := by
  simp only [kidAt, List.getD_eq_getElem?_getD, List.getElem?_take_of_lt h]
theorem kidAt_put {l : List Tr} {kid : Tr} {p q : Nat} (Q : Tr → Prop) (hl : ∀ i, i < l.length → Q (kidAt l i)) (hk : Q kid) : ∀ i, i < (l.take p ++ kid :: l.drop q).length → Q (kidAt (l.take p ++ kid :: l.drop q) i) := by
  intro i hi
  have hmem : kidAt (l.take p ++ kid :: l.drop q) i ∈ l.take p ++ kid :: l.drop q := by rw [kidAt_mem hi]; exact List.getElem_mem hi
  simp only [List.mem_append, List.mem_cons] at hmem
  have hall : ∀ x ∈ l, Q x := fun x hx => by
    obtain ⟨j, hj, rfl⟩ := List.getElem_of_mem hx
    have := hl j hj
    rwa [kidAt_mem hj] at this
  rcases hmem with h | h | h
  · exact hall _ (List.mem_of_mem_take h)
  · rw [h]; exact hk
  · exact hall _ (List.mem_of_mem_drop h)
theorem strAt_put {l : List ByteArray} {key : ByteArray} {p q B : Nat} (hl : ∀ i, (strAt l i).size ≤ B) (hk : key.size ≤ B) : ∀ i, (strAt (l.take p ++ key :: l.drop q) i).size ≤ B := by
  intro i
  have hall : ∀ x ∈ l, x.size ≤ B := fun x hx => by
    obtain ⟨j, hj, rfl⟩ := List.getElem_of_mem hx
    have := hl j
    rwa [strAt, List.getD_eq_getElem?_getD, List.getElem?_eq_getElem hj] at this
  rcases Nat.lt_or_ge i (l.take p ++ key :: l.drop q).length with h | h
  · have hmem : strAt (l.take p ++ key :: l.drop q) i ∈ l.take p ++ key :: l.drop q := by rw [strAt, List.getD_eq_getElem?_getD, List.getElem?_eq_getElem h]; exact List.getElem_mem h
    simp only [List.mem_append, List.mem_cons] at hmem
    rcases hmem with h | h | h
    · exact hall _ (List.mem_of_mem_take h)
    · rw [h]; exact hk
    · exact hall _ (List.mem_of_mem_drop h)
  · rw [strAt, List.getD_eq_getElem?_getD, List.getElem?_eq_none h]; exact Nat.zero_le _
def emptyMap : Tr := .mk 6 false 0 noS [] []
/-- As far as round i of drawing a map at depth d + 1. -/
structure MapD (d i : Nat) (t : Tr) : Prop where
  kind : t.kind = 6
  sm : Sm t
  few : t.kids.length ≤ i
  kids : ∀ j, j < t.kids.length → Drn d (kidAt t.kids j)
theorem mapD_start (d : Nat) : MapD d 0 emptyMap := by
  refine ⟨rfl, ⟨by decide +kernel, ?_, by decide +kernel, fun i => ?_⟩, Nat.le_refl _, fun j hj => by simp [emptyMap, Tr.kids] at hj⟩
  · rw [nums_iff]; exact ⟨by decide, by simp [emptyMap, Tr.kids, numsL]⟩
  · simp [emptyMap, Tr.keys, strAt]
theorem mapD_put {d i : Nat} {t kid : Tr} {key : ByteArray} (h : MapD d i t) (hk : Drn d kid) (hs : key.size ≤ 20) : MapD d (i + 1) (putR t key kid) := by
  unfold putR
  cases ho : putOk t key kid
  · rw [if_neg (by simp)]
    exact ⟨h.kind, h.sm, by have := h.few; omega, h.kids⟩
  · rw [if_pos rfl]
    simp only [putOk, Bool.and_eq_true, treeOkB] at ho
    have hl : t.keys.length = t.kids.length := (head_kind (shape_parts h.sm.shape).1).2.2.2.1 h.kind
    have hp := hitN_le key t.keys
    have hkids := kidAt_put (kid := kid) (p := posK key t.keys) (q := posK key t.keys + hitN key t.keys) (Drn d) h.kids hk
    refine ⟨rfl, ⟨ho.2.2.2.2, ?_, Nat.zero_le _, strAt_put h.sm.keys hs⟩, ?_, hkids⟩
    · rw [nums_iff]
      refine ⟨show (Lit.int .i64 0).wf = true by decide, ?_⟩
      exact numsL_of _ fun i hi => (hkids i hi).sm.nums
    · have := h.few
      show (putT key t.keys kid t.kids).length ≤ i + 1
      rw [putT, List.length_append, List.length_cons, List.length_take, List.length_drop]; omega
theorem mapD_end {d i : Nat} {t : Tr} (h : MapD d i t) (hi : i ≤ 4) : Drn (d + 1) t := ⟨h.sm, by have := h.few; omega, h.kids⟩

end Go.Proofs.YtkifacpanipfhaaDoor
namespace Go.Proofs.YtkifacpanipfhaaDoor
open Go.RowKit

/-- A drawn tree comes back, on blocks of its own; only the cursor has turned. -/
def TrP (g d : Nat) (W0 : World) (e : Ending) (w' : World) : Prop :=
  ∃ t vk vs fp, Drn d t ∧ e = .returned (.agg #[.int .i64 t.kind, .bool t.flag, .int .i64 t.num, .string t.text, vk, vs]) ∧ TreeOwn w' t vk vs fp ∧ fp.Nodup ∧ (∀ b, b ∈ fp → W0.heap.size ≤ b) ∧ Cur w' g ∧ Apart [g] W0 w'
/-- The cursor, the fresh result local made in W0. -/
structure DT (W0 : World) (g : Nat) (w : World) : Prop where
  cur : Cur w g
  z : ZeroAt w W0.heap.size
  ap : Apart [g] W0 w
  hg : g < W0.heap.size
theorem DT.start {w : World} {g : Nat} (h : Cur w g) : DT w g (w.alloc (.cells #[.int .i64 0, .bool false, .int .i64 0, .string ⟨#[]⟩, .slice none 0 0, .slice none 0 0] 27)) :=
  ⟨h.keep (alloc_below _ _ _), ZeroAt.new w, Apart.of_below (alloc_below _ _ _) _, h.lt⟩
theorem DT.go {W0 w w' : World} {g : Nat} (h : DT W0 g w) (hc : Cur w' g) (ha : Apart [g] w w') : DT W0 g w' :=
  ⟨hc, ha.row h.z (by have := h.hg; simp; omega), h.ap.trans ha, h.hg⟩
theorem Apart.above {W0 w w' : World} {L : List Nat} (h : Apart L W0 w) {B : Nat} (hb : Below B w w') (hB : W0.heap.size ≤ B) : Apart L W0 w' :=
  ⟨hb.os.trans h.os, hb.tape.trans h.tape, hb.output.trans h.output, Nat.le_trans h.size hb.size, fun k hk hn => (hb.block k (by omega)).trans (h.block k hk hn)⟩
theorem DT.above {W0 w w' : World} {g : Nat} (h : DT W0 g w) {B : Nat} (hb : Below B w w') (hB : W0.heap.size < B) : DT W0 g w' :=
  ⟨h.cur.same fun k hk _ => hb.block k (by have := h.hg; omega), World.rowIs.of_block h.z (hb.block _ hB), h.ap.above hb (by omega), h.hg⟩
theorem DT.size {W0 w : World} {g : Nat} (h : DT W0 g w) : W0.heap.size < w.heap.size := h.z.lt
theorem DT.keep {W0 w w' : World} {g : Nat} (h : DT W0 g w) (hb : Below w.heap.size w w') : DT W0 g w' := h.above hb h.size
theorem DT.ret {W0 w : World} {g d : Nat} {t : Tr} {vk vs : Value} {fp : List Nat} (h : DT W0 g w) (hd : Drn d t) (ho : TreeOwn w t vk vs fp) (hn : fp.Nodup) (hb : ∀ b, b ∈ fp → W0.heap.size < b) (v0 v1 v2 v3 v4 v5 : Value) :
    TrP g d W0 (.returned (.agg #[.int .i64 t.kind, .bool t.flag, .int .i64 t.num, .string t.text, vk, vs])) (put6w w W0.heap.size v0 v1 v2 v3 v4 v5) := by
  have hw : Below W0.heap.size w (put6w w W0.heap.size v0 v1 v2 v3 v4 v5) := put6w_below (Below.refl _ _) _ (Nat.le_refl _) _ _ _ _ _ _
  exact ⟨t, vk, vs, fp, hd, rfl, TreeOwn.same _ _ _ _ ho fun x hx _ => put6w_heap _ _ _ _ _ _ _ _ _ (by have := hb x hx; omega), hn, fun b hb' => by have := hb b hb'; omega,
    h.cur.same fun k hk _ => put6w_heap _ _ _ _ _ _ _ _ _ (by have := h.hg; omega), h.ap.above hw (Nat.le_refl _)⟩

/-! ### Leaves and lists -/
theorem textOk_no : textOkB noS = true := by decide +kernel
theorem noS_nil : noS.toList = [] := by rw [ByteArray.toList_eq]; rfl
theorem nums_leaf {k : Int} {f : Bool} {n : Int} {s : ByteArray} (h : -9223372036854775808 ≤ n ∧ n ≤ 9223372036854775807) : (Tr.mk k f n s [] []).nums := by
  rw [nums_iff]; exact ⟨(Lit.wf_int_iff .i64 n).2 h, by simp [Tr.kids, numsL]⟩
theorem no_keys (i : Nat) : (strAt [] i).size ≤ 20 := by simp [strAt]
theorem sm_null : Sm (.mk 1 false 0 noS [] []) := ⟨by decide +kernel, nums_leaf (by omega), Nat.zero_le _, no_keys⟩
theorem sm_flag (b : Bool) : Sm (.mk 2 b 0 noS [] []) := ⟨by cases b <;> decide +kernel, nums_leaf (by omega), Nat.zero_le _, no_keys⟩
theorem sm_int (n : Int) (h : -9223372036854775808 ≤ n ∧ n ≤ 9223372036854775807) : Sm (.mk 3 false n noS [] []) := by
  refine ⟨?_, nums_leaf h, Nat.zero_le _, no_keys⟩
  have hk : keysOkB [] = true := rfl
  simp [shapeB, shapeL, headB, betweenB, Tr.kind, Tr.flag, Tr.num, Tr.text, Tr.keys, Tr.kids, textOk_no, noS_nil, hk]
theorem sm_text (s : ByteArray) (h : s.size ≤ 20) (hu : (runesO s).isSome = true) : Sm (.mk 4 false 0 s [] []) := by
  refine ⟨?_, nums_leaf (by omega), h, no_keys⟩
  have hk : keysOkB [] = true := rfl
  have ht : textOkB s = true := by rw [textOkB, decide_eq_true (by omega), hu]; rfl
  simp [shapeB, shapeL, headB, betweenB, Tr.kind, Tr.flag, Tr.num, Tr.text, Tr.keys, Tr.kids, ht, hk]
theorem sm_list {l : List Tr} (h : ∀ i, i < l.length → Sm (kidAt l i)) : Sm (listTr l) := by
  refine ⟨?_, ?_, Nat.zero_le _, no_keys⟩
  · have hk : keysOkB [] = true := rfl
    have hl : shapeL l = true := shapeL_at l fun i hi => (h i hi).shape
    have h0 : textOkB ⟨#[]⟩ = true := textOk_no
    have h1 : (⟨#[]⟩ : ByteArray).toList = [] := noS_nil
    simp [listTr, shapeB, headB, betweenB, Tr.kind, Tr.flag, Tr.num, Tr.text, Tr.keys, Tr.kids, h0, h1, hk, hl]
  · rw [nums_iff]
    exact ⟨show (Lit.int .i64 0).wf = true by decide, numsL_of _ fun i hi => (h i hi).nums⟩
theorem drn_list {d : Nat} {l : List Tr} (hl : l.length ≤ 4) (h : ∀ i, i < l.length → Drn d (kidAt l i)) : Drn (d + 1) (listTr l) := ⟨sm_list fun i hi => (h i hi).sm, hl, h⟩
theorem drn_wt3' {d : Nat} (hd : d ≤ 3) {t : Tr} (h : Drn d t) : t.wt ≤ 4000 ∧ t.nodes ≤ 100 := by
  have h3 : Drn 3 t := by
    match d, hd, h with
    | 0, _, h => exact h.succ.succ.succ
    | 1, _, h => exact h.succ.succ
    | 2, _, h => exact h.succ
    | 3, _, h => exact h
  have := drn_wt 3 t h3
  have e : wtD 3 = 3548 := by decide
  have := (drn_ok h3).2
  omega
theorem pick7 (z : Int) (hz : -9223372036854775808 ≤ z ∧ z ≤ 9223372036854775807) : ∀ i, i < 7 → (-9223372036854775808 ≤ ([0, 1, -1, 42, 9223372036854775807, -9223372036854775808, z] : List Int).getD i 0 ∧ ([0, 1, -1, 42, 9223372036854775807, -9223372036854775808, z] : List Int).getD i 0 ≤ 9223372036854775807)
  | 0, _ | 1, _ | 2, _ | 3, _ | 4, _ | 5, _ => by simp
  | 6, _ => hz
  | i + 7, h => by omega

/-! ### A list that is drawn -/
structure LD (W0 : World) (g base : Nat) (w : World) (v : Value) (l : List Tr) (ff : List Nat) (d k : Nat) : Prop where
  dt : DT W0 g w
  kids : KidsGrow w base 27 v l ff
  len : l.length = k
  all : ∀ i, i < l.length → Drn d (kidAt l i)
  lt : W0.heap.size < base
  le : base ≤ w.heap.size
theorem LD.go {W0 w w' : World} {g base : Nat} {v : Value} {l : List Tr} {ff : List Nat} {d k : Nat} (h : LD W0 g base w v l ff d k) (hc : Cur w' g) (ha : Apart [g] w w') : LD W0 g base w' v l ff d k :=
  ⟨h.dt.go hc ha, h.kids.same fun b hb hl => ha.block b hl (by
    have := h.kids.lt; have := h.lt; have := h.dt.hg
    have hB : base ≤ b := by rcases hb with hb | hb; (· exact (h.kids.lt.1 b hb).1); exact (h.kids.lt.2 b hb).1
    simp; omega), h.len, h.all, h.lt, Nat.le_trans h.le ha.size⟩
theorem LD.start {W0 w : World} {g d : Nat} (h : DT W0 g w) (o : Array Value) (ho : o = #[]) : LD W0 g w.heap.size (w.alloc (.cells o 27)) (.slice (some ⟨w.heap.size, 0, none⟩) 0 0) [] [] d 0 := by
  subst ho
  refine ⟨h.keep (alloc_below _ _ _), ⟨[], ?_, by simp only [KidsRow], List.nodup_nil, fun b hb => by simp at hb⟩, rfl, fun i hi => by simp at hi, h.size, by simp⟩
  have := World.ownsRow_made (base := w.heap.size) (e := 27) (size := 6) w #[] 0 (by simp) (by unfold maxLen; omega) rfl
  simpa using this
theorem kid_snoc {d : Nat} {l : List Tr} {t : Tr} (h : ∀ i, i < l.length → Drn d (kidAt l i)) (ht : Drn d t) : ∀ i, i < (l ++ [t]).length → Drn d (kidAt (l ++ [t]) i) := by
  intro i hi
  rw [List.length_append] at hi
  simp at hi
  rcases Nat.lt_or_ge i l.length with hl | hl
  · have e : kidAt (l ++ [t]) i = kidAt l i := by simp only [kidAt, List.getD_eq_getElem?_getD, List.getElem?_append_left hl]
    rw [e]; exact h i hl
  · obtain rfl : i = l.length := by omega
    have e : kidAt (l ++ [t]) l.length = t := by simp [kidAt]
    rw [e]; exact ht
/-- A drawn tree is appended: a step of the walk. -/
theorem wpList_kidG {ops : Array Oper} {rest : List Oper} {o : Oper} {a : Act} {Q : Exit → Act → World → Prop} (hgd : o.guard = none) (s x : Operand)
    (ho : o.op = .call { callee := .builtin .append, args := #[s, x], argTypes := #[25, 25] }) {W0 w0 w : World} {g base : Nat} {v : Value} {l : List Tr} {ff fp : List Nat} {d k : Nat} (he : LD W0 g base w v l ff d k) (h0 : LD W0 g base w0 v l ff d k) (t : Tr) (hd : Drn d t)
    {a5 a6 : Option Addr} {l5 l6 n5 n6 : Nat} (ht : TreeOwn w t (.slice a5 l5 n5) (.slice a6 l6 n6) fp) (hfn : fp.Nodup) (hfp : ∀ b, b ∈ fp → w0.heap.size ≤ b)
    (hs : a.eval s = v) (hx : a.eval x = .slice (some ⟨w.heap.size, 0, none⟩) 1 1) (hk : k ≤ 1000)
    (hq : ∀ v' ff' w', LD W0 g base w' v' (l ++ [t]) ff' d (k + 1) → wpList Tryd.prog ops Q rest (a.put o.dst v') w') :
    wpList Tryd.prog ops Q (o :: rest) a (w.alloc (.cells #[.int .i64 t.kind, .bool t.flag, .int .i64 t.num, .string t.text, .slice a5 l5 n5, .slice a6 l6 n6] 27)) := by
  obtain ⟨i1, hi, hz0, hz1, hz2⟩ := info_parts Tryd.infoTree
  have hb := alloc_below w #[.int .i64 t.kind, .bool t.flag, .int .i64 t.num, .string t.text, .slice a5 l5 n5, .slice a6 l6 n6] 27
  have hle := he.le
  have hlen := he.len
  have hls := h0.kids.lt
  obtain ⟨xs, hx1, hx2, hx3, hx4⟩ := he.kids.keep hb
  refine wpList_append_spotK hgd s x 25 ho base 27 i1 _ 6 88 Tryd.underlying25 hi hz0 hz1 hz2 rfl (by decide) v l.length xs hs hx1 ⟨w.heap.size, 0, none⟩ 1 1 (six t (.slice a5 l5 n5) (.slice a6 l6 n6)) hx rfl (six_src _ _ _ _ _) six_one (by unfold maxLen; omega) (by omega) (by have := hb.size; omega) ?_
  intro v' w' hown hg hsp
  have hbw : Below base w w' := (hb.mono hle).grown hg (by have := hb.size; omega) (fun q hq' => (hx1.lt q hq').1)
  refine hq v' (ff ++ fp) w' ⟨he.dt.above hbw he.lt, KidsGrow.step hx1 hx2 hx3 hx4 (ht.keep hb) hfn (fun b hb' => ?_) hown hg hsp, by rw [List.length_append, hlen]; rfl, kid_snoc he.all hd, he.lt, Nat.le_trans hle hbw.size⟩
  have := hfp b hb'
  have := h0.le
  exact ⟨by omega, fun e => by have := (hls.1 b e).2; omega, fun e => by have := (hls.2 b e).2; omega⟩

/-! ### A map that is drawn -/
structure MD (W0 : World) (g B : Nat) (w : World) (m : Tr) (vk vs : Value) (fp : List Nat) (d k : Nat) : Prop where
  dt : DT W0 g w
  sp : Spill w B m vk vs
  own : TreeOwn w m vk vs fp
  nd : fp.Nodup
  ge : ∀ b, b ∈ fp → B < b
  lt : W0.heap.size < B
  md : MapD d k m
theorem MD.go {W0 w w' : World} {g B : Nat} {m : Tr} {vk vs : Value} {fp : List Nat} {d k : Nat} (h : MD W0 g B w m vk vs fp d k) (hc : Cur w' g) (ha : Apart [g] w w') : MD W0 g B w' m vk vs fp d k := by
  have h1 := h.dt.hg
  have h2 := h.lt
  exact ⟨h.dt.go hc ha, h.sp.of_block (ha.block _ h.sp.lt (by simp; omega)), TreeOwn.same _ _ _ _ h.own fun b hb hl => ha.block b hl (by have := h.ge b hb; simp; omega), h.nd, h.ge, h.lt, h.md⟩
theorem MD.keep {W0 w w' : World} {g B : Nat} {m : Tr} {vk vs : Value} {fp : List Nat} {d k : Nat} (h : MD W0 g B w m vk vs fp d k) (hb : Below w.heap.size w w') : MD W0 g B w' m vk vs fp d k :=
  h.go (h.dt.cur.keep hb) (Apart.of_below hb _)
theorem MD.start {W0 w : World} {g d : Nat} (h : DT W0 g w) : MD W0 g w.heap.size (w.alloc (.cells #[.int .i64 6, .bool false, .int .i64 0, .string noS, .slice none 0 0, .slice none 0 0] 27)) emptyMap (.slice none 0 0) (.slice none 0 0) [] d 0 :=
  ⟨h.keep (alloc_below _ _ _), Spill.new w emptyMap _ _ _, leaf_own _ _ _ _ _, List.nodup_nil, fun b hb => by simp at hb, h.size, mapD_start d⟩
theorem Spill.put6 {w : World} {b : Nat} {t u : Tr} {vk vs uk us : Value} (h : Spill w b t vk vs) : Spill (put6w w b (.int .i64 u.kind) (.bool u.flag) (.int .i64 u.num) (.string u.text) uk us) b u uk us := by
  obtain ⟨e, F, hr, -⟩ := h
  exact ⟨e, _, (((((hr.set 0 _).set 1 _).set 2 _).set 3 _).set 4 _).set 5 _, rfl, rfl, rfl, rfl, rfl, rfl⟩
theorem MD.next {W0 w w' : World} {g B : Nat} {m kid : Tr} {key : ByteArray} {vk vs uk us : Value} {fp fu : List Nat} {d k : Nat} (h : MD W0 g B w m vk vs fp d k) (hb : Below w.heap.size w w') (hkid : Drn d kid) (hkey : key.size ≤ 20)
    (ho : TreeOwn w' (putR m key kid) uk us fu) (hn : fu.Nodup) (hge : ∀ b, b ∈ fu → w.heap.size ≤ b) :
    MD W0 g B (put6w w' B (.int .i64 (putR m key kid).kind) (.bool (putR m key kid).flag) (.int .i64 (putR m key kid).num) (.string (putR m key kid).text) uk us) (putR m key kid) uk us fu d (k + 1) := by
  have hB := h.sp.lt
  have hp : Below B w' (put6w w' B (.int .i64 (putR m key kid).kind) (.bool (putR m key kid).flag) (.int .i64 (putR m key kid).num) (.string (putR m key kid).text) uk us) := put6w_below (Below.refl _ _) _ (Nat.le_refl _) _ _ _ _ _ _
  exact ⟨(h.dt.keep hb).above hp h.lt, (h.sp.keep hb).put6, TreeOwn.same _ _ _ _ ho fun x hx _ => put6w_heap _ _ _ _ _ _ _ _ _ (by have := hge x hx; omega), hn, fun b hb' => by have := hge b hb'; omega, h.lt, mapD_put h.md hkid hkey⟩

end Go.Proofs.YtkifacpanipfhaaDoor
namespace Go.Proofs.YtkifacpanipfhaaDoor
open Go.RowKit

def TreeAny (d : Nat) : Prop := ∀ (g : Nat) (w : World), Cur w g → Calls Tryd.prog 36 #[.pointer (some ⟨g, 0, none⟩), .int .i64 ((d : Int) + 1)] w (TrP g d w)

set_option maxRecDepth 100000 in
set_option maxHeartbeats 40000000 in
theorem tree_step (d : Nat) (D : Int) (hD : D = (d : Int) + 1) (hd : d ≤ 3) (ih : ∀ d', d = d' + 1 → TreeAny d') (g : Nat) (w : World) (hC : Cur w g) :
    Calls Tryd.prog 36 #[.pointer (some ⟨g, 0, none⟩), .int .i64 D] w (TrP g d w) := by
  have hD1 : 1 ≤ D := by omega
  have hD4 : D ≤ 4 := by omega
  have HIH := Lib.hid (show 2 ≤ D → ∃ d', d = d' + 1 ∧ ∀ (g : Nat) (w : World), Cur w g → Calls Tryd.prog 36 #[.pointer (some ⟨g, 0, none⟩), .int .i64 (D - 1)] w (TrP g d' w) from fun h2 => ⟨d - 1, by omega, fun g w hC => by
    have h := ih (d - 1) (by omega) g w hC
    rw [show ((d - 1 : Nat) : Int) + 1 = D - 1 by omega] at h; exact h⟩)
  have HD := Lib.hid hd
  have H0 := Lib.hid (DT.start hC)
  clear hC ih hD hd
  go_enter Tryd.func36, Tryd.ntmps36
  go_wp2_with fail
  refine (l01Below_any g 9 _ (by omega) (by omega) H0.out.cur).mono ?_
  rintro e w1 ⟨x, hx0, hx1, rfl, hc1, ha1⟩
  have H1 := Lib.hid (H0.out.go hc1 ha1); clear hc1 ha1 H0
  go_upto_region 2 with fail
  go_cut [17] from 10 to 80 (fun s17 wx => ∃ c : Bool, s17 = .bool c ∧ Hid (c = true ↔ (D ≤ 1 ∧ 5 < x)) ∧ w1 = wx)
  case first =>
    by_cases h1 : D ≤ 1
    · by_cases h2 : 5 < x
      · have HX := Lib.hid (show true = true ↔ (D ≤ 1 ∧ 5 < x) from ⟨fun _ => ⟨h1, h2⟩, fun _ => rfl⟩)
        go_wp2_with fail
        go_meet
        exact ⟨_, rfl, Lib.hid (by simpa using HX.out), rfl⟩
      · have HX := Lib.hid (show false = true ↔ (D ≤ 1 ∧ 5 < x) from ⟨fun h => by simp at h, fun h => absurd h.2 h2⟩)
        go_wp2_with fail
        go_meet
        exact ⟨_, rfl, HX, rfl⟩
    · have HX := Lib.hid (show false = true ↔ (D ≤ 1 ∧ 5 < x) from ⟨fun h => by simp at h, fun h => absurd h.1 h1⟩)
      go_wp2_with fail
      go_meet
      exact ⟨_, rfl, HX, rfl⟩
  case rest =>
    obtain ⟨c, rfl, HX, rfl⟩ := hcut
    go_upto_if 17 with fail
    go_cut [5] from 10 to 80 (fun s5 wx => ∃ y : Int, s5 = .int .i64 y ∧ Hid (0 ≤ y ∧ y ≤ 8 ∧ (5 < y → 2 ≤ D)) ∧ w1 = wx)
    case first =>
      cases c
      · have HY := Lib.hid (show 0 ≤ x ∧ x ≤ 8 ∧ (5 < x → 2 ≤ D) from ⟨hx0, by omega, fun h => by
          have h2 := HX.out
          by_cases h1 : D ≤ 1
          · have := h2.2 ⟨h1, h⟩; simp at this
          · omega⟩)
        go_wp2_with fail
        go_meet
        exact ⟨_, rfl, HY, rfl⟩
      · have h2 := HX.out.1 rfl
        have hx5 : 5 < x := h2.2
        have HY := Lib.hid (show 0 ≤ x - 6 ∧ x - 6 ≤ 8 ∧ (5 < x - 6 → 2 ≤ D) from ⟨by omega, by omega, fun h => by omega⟩)
        clear h2
        go_wp2_with fail
        go_meet
        exact ⟨_, rfl, HY, rfl⟩
    case rest =>
      obtain ⟨y, rfl, HY, rfl⟩ := hcut
      clear hx0 hx1 HX
      have hy : y = 0 ∨ y = 1 ∨ (y = 2 ∨ y = 3) ∨ (y = 4 ∨ y = 5) ∨ y = 6 ∨ (y = 7 ∨ y = 8) := by have := HY.out; omega
      rcases hy with rfl | rfl | hy | hy | rfl | hy
      · obtain ⟨r0, r1, r2, r3, r4, r5⟩ := H1.out.z.cells
        obtain ⟨g0, g1, g2, g3, g4, g5⟩ := H1.out.z.frozen
        go_wp2
        refine bodyPost_ret (v := .agg #[.int .i64 1, .bool false, .int .i64 0, .string ⟨#[]⟩, .slice none 0 0, .slice none 0 0]) (by simp [results, Tryd.results36, go_sem, r0, r1, r2, r3, r4, r5]) rfl ?_
        exact H1.out.ret (t := .mk 1 false 0 noS [] []) (Drn.leaf (sm_null) rfl _) (leaf_own _ _ _ _ _) List.nodup_nil (fun b hb => by simp at hb) _ _ _ _ _ _
      · go_wp2_with fail
        refine (l01Once_any g 2 _ (by omega) (by omega) H1.out.cur).mono ?_
        rintro e w2 ⟨bo, rfl, hc2, ha2⟩
        have H2 := Lib.hid (H1.out.go hc2 ha2); clear hc2 ha2
        obtain ⟨r0, r1, r2, r3, r4, r5⟩ := H2.out.z.cells
        obtain ⟨g0, g1, g2, g3, g4, g5⟩ := H2.out.z.frozen
        go_wp2
        refine bodyPost_ret (v := .agg #[.int .i64 2, .bool bo, .int .i64 0, .string ⟨#[]⟩, .slice none 0 0, .slice none 0 0]) (by simp [results, Tryd.results36, go_sem, r0, r1, r2, r3, r4, r5]) rfl ?_
        exact H2.out.ret (t := .mk 2 bo 0 noS [] []) (Drn.leaf (sm_flag bo) rfl _) (leaf_own _ _ _ _ _) List.nodup_nil (fun b hb => by simp at hb) _ _ _ _ _ _
      · rcases hy with rfl | rfl
        all_goals
          go_wp2_with fail
          refine (l02Num_any g _ H1.out.cur).mono ?_
          rintro e w2 ⟨z, hz, rfl, hc2, ha2⟩
          have H2 := Lib.hid (H1.out.go hc2 ha2)
          have HZ := Lib.hid (pick7 z hz)
          clear hz hc2 ha2
          go_wp2_with fail
          refine (l01PickInt_any g _ 7 7 (fun i => ([0, 1, -1, 42, 9223372036854775807, -9223372036854775808, z] : List Int).getD i 0) _ (fun x => -9223372036854775808 ≤ x ∧ x ≤ 9223372036854775807) (by omega) (by omega) (H2.out.cur.alloc _) (lit_ints w2 ([0, 1, -1, 42, 9223372036854775807, -9223372036854775808, z] : List Int) _ rfl) (fun b o h => by cases h; have := H2.out.cur.lt; omega) HZ.out).mono ?_
          rintro e w3 ⟨n, hn, rfl, hc3, ha3⟩
          have H3 := Lib.hid ((H2.out.keep (alloc_below _ _ _)).go hc3 ha3)
          have HN := Lib.hid hn
          clear hn hc3 ha3 HZ
          go_wp2_with fail
          refine (sIntTree n _).mono ?_
          rintro e w4 ⟨rfl, hb4⟩
          have H4 := Lib.hid (H3.out.keep hb4); clear hb4
          obtain ⟨r0, r1, r2, r3, r4, r5⟩ := H4.out.z.cells
          obtain ⟨g0, g1, g2, g3, g4, g5⟩ := H4.out.z.frozen
          go_wp2
          refine bodyPost_ret (v := .agg #[.int .i64 3, .bool false, .int .i64 n, .string ⟨#[]⟩, .slice none 0 0, .slice none 0 0]) (by simp [results, Tryd.results36, go_sem, r0, r1, r2, r3, r4, r5]) rfl ?_
          exact H4.out.ret (t := .mk 3 false n noS [] []) (Drn.leaf (sm_int n HN.out) rfl _) (leaf_own _ _ _ _ _) List.nodup_nil (fun b hb => by simp at hb) _ _ _ _ _ _
      · rcases hy with rfl | rfl
        all_goals
          go_wp2_with fail
          refine (l08Word_ok g _ H1.out.cur).mono ?_
          rintro e w2 ⟨s, hs, rfl, hc2, ha2⟩
          have H2 := Lib.hid (H1.out.go hc2 ha2)
          have HS := Lib.hid hs
          clear hs hc2 ha2
          go_wp2_with fail
          refine (sTextTree s _).mono ?_
          rintro e w4 ⟨rfl, hb4⟩
          have H4 := Lib.hid (H2.out.keep hb4); clear hb4
          obtain ⟨r0, r1, r2, r3, r4, r5⟩ := H4.out.z.cells
          obtain ⟨g0, g1, g2, g3, g4, g5⟩ := H4.out.z.frozen
          go_wp2
          refine bodyPost_ret (v := .agg #[.int .i64 4, .bool false, .int .i64 0, .string s, .slice none 0 0, .slice none 0 0]) (by simp [results, Tryd.results36, go_sem, r0, r1, r2, r3, r4, r5]) rfl ?_
          exact H4.out.ret (t := .mk 4 false 0 s [] []) (Drn.leaf (sm_text s HS.out.1 HS.out.2) rfl _) (leaf_own _ _ _ _ _) List.nodup_nil (fun b hb => by simp at hb) _ _ _ _ _ _
      · obtain ⟨d1, rfl, IH⟩ := HIH.out (HY.out.2.2 (by omega))
        have hD2 : 2 ≤ D := HY.out.2.2 (by omega)
        have HI := Lib.hid IH; clear IH HIH
        have HL := Lib.hid (LD.start (d := d1) H1.out #[] rfl)
        go_wp2_with fail
        go_loopw [6, 7] (fun s6 s7 wr => ∃ (k : Nat) (l : List Tr) (ff : List Nat), k ≤ 3 ∧ s7 = .int .i64 k ∧ Hid (LD w g w1.heap.size wr s6 l ff d1 k)) (fun _ s7 _ => 3 - (intOf s7).toNat)
        case atStart => exact ⟨0, [], [], by omega, rfl, HL⟩
        case round =>
          obtain ⟨k, l, ff, hk, rfl, HLK⟩ := hrel
          clear HL
          go_wp2_with fail
          refine (l01Below_any g 4 _ (by omega) (by omega) HLK.out.dt.cur).mono ?_
          rintro e w2 ⟨x2, hx0, hx1, rfl, hc2, ha2⟩
          have H2 := Lib.hid (HLK.out.go hc2 ha2); clear hc2 ha2 HLK
          cases hlt : decide ((k : Int) < x2)
          · obtain ⟨fs, hko, hnd, hge⟩ := H2.out.kids.own
            obtain ⟨a2, n2, rfl⟩ := kids_shape hko
            have HDR := Lib.hid (drn_list (d := d1) (by have := H2.out.len; omega) H2.out.all)
            have HW := Lib.hid (drn_wt3' HD.out HDR.out)
            have HKI := Lib.hid (hko.toIn (S := Any) (fun _ _ => trivial))
            clear hko hnd hge
            go_wp2_with fail
            refine (sListTree l Any a2 n2 _ (by have h := HW.out.1; rw [listTr_wt] at h; omega) HKI.out).mono ?_
            rintro e w3 ⟨⟨vk, vs, fp, rfl, hto, hnd, hge⟩, hb3⟩
            obtain ⟨fk9, fs9, hfe9, hso9, hko9⟩ := treeOwn_iff.1 hto
            obtain ⟨a5, n5, rfl⟩ := str_shape hso9
            obtain ⟨a6, n6, rfl⟩ := kids_shape hko9
            clear hfe9 hso9 hko9
            have H3 := Lib.hid (H2.out.dt.keep hb3)
            have HTO := Lib.hid (And.intro hto (And.intro hnd (show ∀ b, b ∈ fp → w.heap.size < b from fun b hb => by have := hge b hb; have := H2.out.dt.size; omega)))
            clear hto hnd hge hb3
            obtain ⟨r0, r1, r2, r3, r4, r5⟩ := H3.out.z.cells
            obtain ⟨g0, g1, g2, g3, g4, g5⟩ := H3.out.z.frozen
            go_wp2
            refine bodyPost_ret (v := .agg #[.int .i64 (listTr l).kind, .bool (listTr l).flag, .int .i64 (listTr l).num, .string (listTr l).text, .slice a5 (listTr l).keys.length n5, .slice a6 (listTr l).kids.length n6]) (by simp [results, Tryd.results36, go_sem, r0, r1, r2, r3, r4, r5]) rfl ?_
            exact H3.out.ret (t := listTr l) HDR.out HTO.out.1 HTO.out.2.1 HTO.out.2.2 _ _ _ _ _ _
          · have hlt1 : (k : Int) < x2 := by simpa using hlt
            go_wp2_with fail
            refine (HI.out g _ H2.out.dt.cur).mono ?_
            rintro e w3 ⟨t, vk, vs, fp, hd, rfl, hto, hnd, hge, hc3, ha3⟩
            obtain ⟨fk9, fs9, hfe9, hso9, hko9⟩ := treeOwn_iff.1 hto
            obtain ⟨a5, n5, rfl⟩ := str_shape hso9
            obtain ⟨a6, n6, rfl⟩ := kids_shape hko9
            clear hfe9 hso9 hko9
            have H3 := Lib.hid (H2.out.go hc3 ha3)
            have HTO := Lib.hid (And.intro hd (And.intro hto (And.intro hnd hge)))
            clear hd hto hnd hge hc3 ha3
            go_wp2_with (at_builtin; go_loud (refine wpList_kidG (by rfl) _ _ (by rfl) H3.out H2.out t HTO.out.1 HTO.out.2.1 HTO.out.2.2.1 HTO.out.2.2.2 (by rfl) (by rfl) (by omega) ?_; intro v4 ff4 w4 hL4))
            go_roundw
            case rel => exact ⟨k + 1, l ++ [t], ff4, by omega, by go_num, Lib.hid hL4⟩
            case measure => simp [intOf]; omega
      · obtain ⟨d1, rfl, IH⟩ := HIH.out (HY.out.2.2 (by omega))
        have hD2 : 2 ≤ D := HY.out.2.2 (by omega)
        have HI := Lib.hid IH; clear IH HIH
        have HM := Lib.hid (MD.start (d := d1) H1.out)
        have n0 : (y == 0) = false := by rw [beq_eq_false_iff_ne]; omega
        have n1 : (y == 1) = false := by rw [beq_eq_false_iff_ne]; omega
        have n2 : (y == 2) = false := by rw [beq_eq_false_iff_ne]; omega
        have n3 : (y == 3) = false := by rw [beq_eq_false_iff_ne]; omega
        have n4 : (y == 4) = false := by rw [beq_eq_false_iff_ne]; omega
        have n5 : (y == 5) = false := by rw [beq_eq_false_iff_ne]; omega
        have n6 : (y == 6) = false := by rw [beq_eq_false_iff_ne]; omega
        clear hy HY
        go_wp2_with fail
        clear n0 n1 n2 n3 n4 n5 n6
        go_loopw [9] (fun s9 wr => ∃ (k : Nat) (m : Tr) (vk vs : Value) (fp : List Nat), k ≤ 4 ∧ s9 = .int .i64 k ∧ Hid (MD w g w1.heap.size wr m vk vs fp d1 k)) (fun s9 _ => 4 - (intOf s9).toNat)
        case atStart => exact ⟨0, emptyMap, _, _, [], by omega, rfl, HM⟩
        case round =>
          obtain ⟨k, m, vk, vs, fp, hk, rfl, HMK⟩ := hrel
          clear HM
          have hto := HMK.out.own
          obtain ⟨fk9, fs9, hfe9, hso9, hko9⟩ := treeOwn_iff.1 hto
          obtain ⟨a1, m1, rfl⟩ := str_shape hso9
          obtain ⟨a2, m2, rfl⟩ := kids_shape hko9
          clear hfe9 hso9 hko9
          clear hto
          go_wp2_with fail
          refine (l01Below_any g 5 _ (by omega) (by omega) HMK.out.dt.cur).mono ?_
          rintro e w2 ⟨x2, hx0, hx1, rfl, hc2, ha2⟩
          have H2 := Lib.hid (HMK.out.go hc2 ha2); clear hc2 ha2 HMK
          obtain ⟨p0, p1, p2, p3, p4, p5⟩ := H2.out.sp.cells
          have HDR := Lib.hid (mapD_end H2.out.md hk)
          have HWM := Lib.hid (drn_wt3' HD.out HDR.out)
          have hw1l : w.heap.size < w1.heap.size := H2.out.lt
          have hw2l : w1.heap.size < w2.heap.size := H2.out.sp.lt
          cases hlt : decide ((k : Int) < x2)
          · obtain ⟨r0, r1, r2, r3, r4, r5⟩ := H2.out.dt.z.cells
            obtain ⟨g0, g1, g2, g3, g4, g5⟩ := H2.out.dt.z.frozen
            go_wp2
            refine bodyPost_ret (v := .agg #[.int .i64 m.kind, .bool m.flag, .int .i64 m.num, .string m.text, .slice a1 m.keys.length m1, .slice a2 m.kids.length m2]) (by simp [results, Tryd.results36, go_sem, r0, r1, r2, r3, r4, r5]) rfl ?_
            exact H2.out.dt.ret HDR.out H2.out.own H2.out.nd (fun b hb => by have := H2.out.ge b hb; have := H2.out.lt; omega) _ _ _ _ _ _
          · have hlt1 : (k : Int) < x2 := by simpa using hlt
            have hwr : IntKind.i64.wrap (D - 1) = D - 1 := IntWalk.i64_in _ (by omega)
            go_wp2_with fail
            go_region_law (first
              | (go_simp; go_at_call 45; refine (l08Word_ok g _ (H2.out.dt.cur.keep (by repeat (first | exact Below.refl _ _ | refine Below.drew ?_)))).mono ?_; rintro e w3 ⟨ks, hks, rfl, hc3, ha3⟩; have HM3 := Lib.hid ((H2.out.keep (by repeat (first | exact Below.refl _ _ | refine Below.drew ?_))).go hc3 ha3); have HKS := Lib.hid hks; clear hks hc3 ha3; obtain ⟨p0, p1, p2, p3, p4, p5⟩ := HM3.out.sp.cells)
              | (go_simp; go_at_call 36; (try rw [hwr]); go_loud (refine (HI.out g _ (HM3.out.dt.cur.keep (by repeat (first | exact Below.refl _ _ | refine Below.drew ?_)))).mono ?_); rintro e w4 ⟨kid, uk, us, fq, hd, rfl, hto, hnd, hge, hc4, ha4⟩; obtain ⟨fk9, fs9, hfe9, hso9, hko9⟩ := treeOwn_iff.1 hto; obtain ⟨a5, n5, rfl⟩ := str_shape hso9; obtain ⟨a6, n6, rfl⟩ := kids_shape hko9; clear hfe9 hso9 hko9; have HM4 := Lib.hid ((HM3.out.keep (by repeat (first | exact Below.refl _ _ | refine Below.drew ?_))).go hc4 ha4); have HKT := Lib.hid (And.intro hd (And.intro (drn_wt3' (by have := HD.out; omega) hd) hto)); clear hd hto hnd hge hc4 ha4; obtain ⟨p0, p1, p2, p3, p4, p5⟩ := HM4.out.sp.cells)
              | (go_simp; go_at_call 27; refine (sPutKid m kid Any Any ks _ _ _ _ _ (by have := HWM.out; omega) (by have := HKT.out.2.1; omega) (by have := HWM.out; have := HKT.out.2.1; omega) ((HM4.out.own.toIn _ _ _ _ (fun _ _ => trivial)).keep (by repeat (first | exact Below.refl _ _ | refine Below.drew ?_))) ((HKT.out.2.2.toIn _ _ _ _ (fun _ _ => trivial)).keep (by repeat (first | exact Below.refl _ _ | refine Below.drew ?_)))).mono ?_; rintro e w5 ⟨⟨k2, s2, fp2, rfl, hto, hnd, hge⟩, hb5⟩; obtain ⟨fk9, fs9, hfe9, hso9, hko9⟩ := treeOwn_iff.1 hto; obtain ⟨a7, n7, rfl⟩ := str_shape hso9; obtain ⟨a8, n8, rfl⟩ := kids_shape hko9; clear hfe9 hso9 hko9; have HB5 := Lib.hid (show Below w4.heap.size w4 w5 from bnext (by repeat (first | exact Below.refl _ _ | (refine Below.alloc ?_ (by first | omega | (simp; done) | (simp; omega)) _) | (refine Below.setCell ?_ (by first | omega | (simp; done) | (simp; omega)) _) | (refine Below.drew ?_) | (refine below_drewN ?_ _))) hb5); have HTO := Lib.hid (And.intro hto (And.intro hnd (show ∀ b, b ∈ fp2 → w4.heap.size ≤ b from fun b hb => by have := hge b hb; (try simp at this); omega))); have f5 := (HM4.out.sp.keep HB5.out).frozen; have f50 := f5 0; have f51 := f5 1; have f52 := f5 2; have f53 := f5 3; have f54 := f5 4; have f55 := f5 5; obtain ⟨p0, p1, p2, p3, p4, p5⟩ := (HM4.out.sp.keep HB5.out).cells; clear f5 hto hnd hge hb5))
            all_goals
              go_wp2
              go_roundw
              case rel => exact ⟨k + 1, putR m ks kid, _, _, fp2, by omega, by go_num, Lib.hid (MD.next HM4.out HB5.out HKT.out.1 HKS.out.1 HTO.out.1 HTO.out.2.1 HTO.out.2.2)⟩
              case measure => simp [intOf]; omega

theorem tree_any : ∀ d : Nat, d ≤ 3 → TreeAny d
  | 0, _ => fun g w hC => by
    have := tree_step 0 1 (by omega) (by omega) (fun d' h => by omega) g w hC
    simpa using this
  | d + 1, h => fun g w hC => tree_step (d + 1) (((d + 1 : Nat) : Int) + 1) rfl h (fun d' h' => by
    have e : d' = d := by omega
    rw [e]
    exact tree_any d (by omega)) g w hC

end Go.Proofs.YtkifacpanipfhaaDoor
namespace Go.Proofs.YtkifacpanipfhaaDoor
open Go.RowKit

theorem conv_backL (w : World) (g n cap : Nat) (l : List UInt8) (hl : l.length = n) (hc : ∀ j, j < n → w.cell? ⟨g, j, none⟩ = some (.int .u8 (l.getD j 0).toNat)) :
    (convert 22 9 (.slice (some ⟨g, 0, none⟩) n cap)).run Tryd.prog w = .ok (.string ⟨l.toArray⟩) w := by
  subst hl
  refine run_convert_bytes_back w _ _ _ _ cap l Tryd.underlying22 Tryd.underlying5 Tryd.underlying9 fun j hj => ?_
  rw [addr_add, Nat.zero_add, hc j hj, List.getD_eq_getElem?_getD, List.getElem?_eq_getElem hj]
  rfl
theorem l01LongL (n : Nat) (x : UInt8) (w : World) (hn : n ≤ 1000000) : Calls Tryd.prog 79 #[.int .i64 n, .int .u8 x.toNat] w fun e w' => e = .returned (.string ⟨(List.replicate n x).toArray⟩) ∧ Below w.heap.size w w' := by
  obtain ⟨i0, hi, hz0, hz1, hz2⟩ := info_parts Tryd.infoU8
  have hb2 : i0.bytes * n ≤ 281474976710656 := by rw [hz2]; omega
  have hb3 : n ≤ maxLen := by unfold maxLen; omega
  go_enter Tryd.func79, Tryd.ntmps79
  go_wp2_with (at_make; refine wpList_make_full _ rfl (.tmp 7) (.tmp 7) 22 rfl w.heap.size 5 i0 _ 1 Tryd.underlying22 hi hz0 hz1 .i64 .i64 _ _ n rfl rfl rfl rfl hb2 hb3 (Nat.le_refl _) ?_; intro w1 hown hgrow)
  obtain ⟨F0, hrow0, -, -, -, -⟩ := rowIs_of_owns hown
  have hbel1 : Below w.heap.size w w1 := (Below.refl _ _).grown hgrow (Nat.le_refl _) (fun k hk => by cases hk)
  obtain ⟨g, hg⟩ : ∃ g, g = w.heap.size := ⟨_, rfl⟩
  rw [← hg] at hrow0 ⊢
  have hgle : w.heap.size ≤ g := by omega
  have HG := Lib.hid hg; clear hg hown hgrow
  go_loopw [6] (fun i wr => ∃ k : Nat, k ≤ n ∧ i = .int .i64 k ∧ Below w.heap.size w wr ∧ ∃ F, wr.rowIs g 5 (n * 1) F ∧ ∀ i, i < k → F i = .int .u8 x.toNat) (fun i _ => n - (intOf i).toNat)
  case atStart => exact ⟨0, by omega, rfl, hbel1, F0, hrow0, fun i hi => by omega⟩
  case round =>
    obtain ⟨k, hk, rfl, hb, F, hrow, hF⟩ := hrel
    have HF := Lib.hid hF; clear hF hrow0
    by_cases hlt : k < n
    · have d0 := hrow.cell (i := k) (by omega)
      have f0 := hrow.frozen k
      go_wp2
      go_roundw
      case rel => exact ⟨k + 1, by omega, by go_num, hb.setCell (by omega) _, _, hrow.set k _, fun i hi => by
        show (if i = k then _ else _) = _
        by_cases hik : i = k
        · rw [if_pos hik]
        · rw [if_neg hik]; exact HF.out i (by omega)⟩
      case measure => simp [intOf] <;> omega
    · obtain rfl : k = n := by omega
      have hcv := conv_backL wr g k k (List.replicate k x) (by simp) (fun j hj => by
        have hc := hrow.cell (i := j) (by omega)
        rw [HF.out j hj] at hc
        rw [hc, List.getD_eq_getElem?_getD, List.getElem?_replicate, if_pos hj]; rfl)
      go_wp2
      go_ret
      exact ⟨rfl, hb⟩
theorem long_sz (n : Nat) (x : UInt8) (w : World) (hn : n ≤ 1000000) : Calls Tryd.prog 79 #[.int .i64 n, .int .u8 x.toNat] w fun e w' => ∃ s : ByteArray, s.size = n ∧ e = .returned (.string s) ∧ Below w.heap.size w w' :=
  (l01LongL n x w hn).mono fun _ _ ⟨h1, h2⟩ => ⟨_, by show Array.size _ = n; simp, h1, h2⟩

end Go.Proofs.YtkifacpanipfhaaDoor
namespace Go.Proofs.YtkifacpanipfhaaDoor
open Go.RowKit

/-- A tree of bounded greatness. -/
def AnyT (t : Tr) : Prop := t.wt ≤ 10000 ∧ t.nodes ≤ 1100
def AnyP (g : Nat) (W0 : World) (e : Ending) (w' : World) : Prop :=
  ∃ t vk vs fp, AnyT t ∧ e = .returned (.agg #[.int .i64 t.kind, .bool t.flag, .int .i64 t.num, .string t.text, vk, vs]) ∧ TreeOwn w' t vk vs fp ∧ fp.Nodup ∧ (∀ b, b ∈ fp → W0.heap.size ≤ b) ∧ Cur w' g ∧ Apart [g] W0 w'
/-- The tree in its local B, with all that it owns. -/
structure AD (W0 : World) (g B : Nat) (w : World) (t : Tr) (vk vs : Value) (fp : List Nat) (k : Nat) : Prop where
  dt : DT W0 g w
  sp : Spill w B t vk vs
  own : TreeOwn w t vk vs fp
  nd : fp.Nodup
  ge : ∀ b, b ∈ fp → W0.heap.size < b ∧ b ≠ B
  lt : W0.heap.size < B
  wt : t.wt ≤ 4000 + k
  nodes : t.nodes ≤ 100 + k
theorem AD.go {W0 w w' : World} {g B : Nat} {t : Tr} {vk vs : Value} {fp : List Nat} {k : Nat} (h : AD W0 g B w t vk vs fp k) (hc : Cur w' g) (ha : Apart [g] w w') : AD W0 g B w' t vk vs fp k := by
  have h1 := h.dt.hg
  have h2 := h.lt
  exact ⟨h.dt.go hc ha, h.sp.of_block (ha.block _ h.sp.lt (by simp; omega)), TreeOwn.same _ _ _ _ h.own fun b hb hl => ha.block b hl (by have := h.ge b hb; simp; omega), h.nd, h.ge, h.lt, h.wt, h.nodes⟩
theorem AD.keep {W0 w w' : World} {g B : Nat} {t : Tr} {vk vs : Value} {fp : List Nat} {k : Nat} (h : AD W0 g B w t vk vs fp k) (hb : Below w.heap.size w w') : AD W0 g B w' t vk vs fp k :=
  h.go (h.dt.cur.keep hb) (Apart.of_below hb _)
theorem AD.new {W0 w : World} {g : Nat} {t : Tr} {vk vs : Value} {fp : List Nat} (h : DT W0 g w) (ho : TreeOwn w t vk vs fp) (hn : fp.Nodup) (hge : ∀ b, b ∈ fp → W0.heap.size < b) (hd : Drn 3 t) :
    AD W0 g w.heap.size (w.alloc (.cells #[.int .i64 t.kind, .bool t.flag, .int .i64 t.num, .string t.text, vk, vs] 27)) t vk vs fp 0 := by
  have hw := drn_wt3' (Nat.le_refl _) hd
  exact ⟨h.keep (alloc_below _ _ _), Spill.new w t vk vs _, ho.keep (alloc_below _ _ _), hn, fun b hb => ⟨hge b hb, by have := TreeOwn.lt _ _ _ _ ho b hb; omega⟩, h.size, hw.1, hw.2⟩
theorem DT.retA {W0 w : World} {g : Nat} {t : Tr} {vk vs : Value} {fp : List Nat} (h : DT W0 g w) (hd : AnyT t) (ho : TreeOwn w t vk vs fp) (hn : fp.Nodup) (hb : ∀ b, b ∈ fp → W0.heap.size < b) (v0 v1 v2 v3 v4 v5 : Value) :
    AnyP g W0 (.returned (.agg #[.int .i64 t.kind, .bool t.flag, .int .i64 t.num, .string t.text, vk, vs])) (put6w w W0.heap.size v0 v1 v2 v3 v4 v5) := by
  have hw : Below W0.heap.size w (put6w w W0.heap.size v0 v1 v2 v3 v4 v5) := put6w_below (Below.refl _ _) _ (Nat.le_refl _) _ _ _ _ _ _
  exact ⟨t, vk, vs, fp, hd, rfl, TreeOwn.same _ _ _ _ ho fun x hx _ => put6w_heap _ _ _ _ _ _ _ _ _ (by have := hb x hx; omega), hn, fun b hb' => by have := hb b hb'; omega,
    h.cur.same fun k hk _ => put6w_heap _ _ _ _ _ _ _ _ _ (by have := h.hg; omega), h.ap.above hw (Nat.le_refl _)⟩
theorem AD.ret {W0 w : World} {g B : Nat} {t : Tr} {vk vs : Value} {fp : List Nat} {k : Nat} (h : AD W0 g B w t vk vs fp k) (hk : k ≤ 900) (v0 v1 v2 v3 v4 v5 : Value) :
    AnyP g W0 (.returned (.agg #[.int .i64 t.kind, .bool t.flag, .int .i64 t.num, .string t.text, vk, vs])) (put6w w W0.heap.size v0 v1 v2 v3 v4 v5) :=
  h.dt.retA ⟨by have := h.wt; omega, by have := h.nodes; omega⟩ h.own h.nd (fun b hb => (h.ge b hb).1) _ _ _ _ _ _

/-! ### A field is set -/
theorem below_set {W0 w : World} {B j : Nat} (h : W0.heap.size < B) (v : Value) : Below (W0.heap.size + 1) w (w.setCell ⟨B, j, none⟩ v) := (Below.refl _ _).setCell (by show W0.heap.size + 1 ≤ B; omega) v
theorem own_set {w : World} {B j : Nat} {t t' : Tr} {vk vs : Value} {fp : List Nat} (h : TreeOwn w t vk vs fp) (hk : t'.keys = t.keys) (hs : t'.kids = t.kids) (hB : ∀ b, b ∈ fp → b ≠ B) (v : Value) : TreeOwn (w.setCell ⟨B, j, none⟩ v) t' vk vs fp := by
  have h1 := TreeOwn.same _ _ _ _ h (w' := w.setCell ⟨B, j, none⟩ v) fun x hx _ => Below.heap_setCell _ _ _ _ (hB x hx)
  obtain ⟨fk, fs, e, h2, h3⟩ := treeOwn_iff.1 h1
  exact treeOwn_iff.2 ⟨fk, fs, e, by rw [hk]; exact h2, by rw [hs]; exact h3⟩
theorem Spill.set0 {w : World} {b : Nat} {t : Tr} {vk vs : Value} (h : Spill w b t vk vs) (y : Int) : Spill (w.setCell ⟨b, 0, none⟩ (.int .i64 y)) b (.mk y t.flag t.num t.text t.keys t.kids) vk vs := by
  obtain ⟨e, F, hr, h0, h1, h2, h3, h4, h5⟩ := h
  exact ⟨e, _, hr.set 0 _, by simp [Tr.kind], by simpa [Tr.flag] using h1, by simpa [Tr.num] using h2, by simpa [Tr.text] using h3, by simpa using h4, by simpa using h5⟩
theorem Spill.set3 {w : World} {b : Nat} {t : Tr} {vk vs : Value} (h : Spill w b t vk vs) (s : ByteArray) : Spill (w.setCell ⟨b, 3, none⟩ (.string s)) b (.mk t.kind t.flag t.num s t.keys t.kids) vk vs := by
  obtain ⟨e, F, hr, h0, h1, h2, h3, h4, h5⟩ := h
  exact ⟨e, _, hr.set 3 _, by simpa [Tr.kind] using h0, by simpa [Tr.flag] using h1, by simpa [Tr.num] using h2, by simp [Tr.text], by simpa using h4, by simpa using h5⟩
theorem AD.setKind {W0 w : World} {g B : Nat} {t : Tr} {vk vs : Value} {fp : List Nat} {k : Nat} (h : AD W0 g B w t vk vs fp k) (y : Int) : AD W0 g B (w.setCell ⟨B, 0, none⟩ (.int .i64 y)) (.mk y t.flag t.num t.text t.keys t.kids) vk vs fp k := by
  refine ⟨h.dt.above (below_set h.lt _) (Nat.lt_succ_self _), h.sp.set0 y, own_set (t' := .mk y t.flag t.num t.text t.keys t.kids) h.own rfl rfl (fun b hb => (h.ge b hb).2) _, h.nd, h.ge, h.lt, ?_, ?_⟩
  · have := h.wt; have := wt_eq t; have := wt_eq (.mk y t.flag t.num t.text t.keys t.kids); simp only [Tr.text, Tr.keys, Tr.kids] at *; omega
  · have := h.nodes; have := nodes_eq t; have := nodes_eq (.mk y t.flag t.num t.text t.keys t.kids); simp only [Tr.kids] at *; omega
theorem AD.setText {W0 w : World} {g B : Nat} {t : Tr} {vk vs : Value} {fp : List Nat} {k : Nat} (h : AD W0 g B w t vk vs fp k) (s : ByteArray) (hs : s.size ≤ 401) : AD W0 g B (w.setCell ⟨B, 3, none⟩ (.string s)) (.mk t.kind t.flag t.num s t.keys t.kids) vk vs fp (k + 401) := by
  refine ⟨h.dt.above (below_set h.lt _) (Nat.lt_succ_self _), h.sp.set3 s, own_set (t' := .mk t.kind t.flag t.num s t.keys t.kids) h.own rfl rfl (fun b hb => (h.ge b hb).2) _, h.nd, h.ge, h.lt, ?_, ?_⟩
  · have := h.wt; have := wt_eq t; have := wt_eq (.mk t.kind t.flag t.num s t.keys t.kids); simp only [Tr.text, Tr.keys, Tr.kids] at *; omega
  · have := h.nodes; have := nodes_eq t; have := nodes_eq (.mk t.kind t.flag t.num s t.keys t.kids); simp only [Tr.kids] at *; omega

/-! ### A key is appended -/
theorem row_of_own {w : World} {base : Nat} {v : Value} {l : List ByteArray} {fp : List Nat} (h : StrOwn w v l fp) (hb : ∀ b, b ∈ fp → base ≤ b) :
    w.ownsRow base 9 1 v l.length (l.map Value.string) ∧ ∀ b, v.ownBlock = some b → b ∈ fp := by
  rcases h with ⟨rfl, rfl, a, c, rfl, rfl, rfl⟩ | ⟨g, cap, e, N, F, rfl, rfl, ⟨cur, h1, h2, h3⟩, ⟨h4, rfl, rfl, h5⟩, h6⟩
  · exact ⟨⟨by simp, .inl ⟨rfl, rfl⟩⟩, fun b hb => by simp [Value.ownBlock] at hb⟩
  · refine ⟨⟨by simp, .inr ⟨g, N, cur, rfl, hb g (by simp), h1, h4, h5, by omega, ?_⟩⟩, fun b hb => by simp [Value.ownBlock] at hb; simp [hb]⟩
    apply List.ext_getElem?
    intro i
    by_cases hi : i < l.length
    · rw [List.getElem?_take_of_lt (by omega), List.getElem?_map, List.getElem?_eq_getElem hi]
      have h7 := h3 i (by omega)
      rw [h6 i hi] at h7
      rw [Array.getElem?_toList, h7, strAt, List.getD_eq_getElem?_getD, List.getElem?_eq_getElem hi]; rfl
    · rw [List.getElem?_eq_none (by simp; omega), List.getElem?_eq_none (by simp; omega)]
theorem keys_wt (t : Tr) (key : ByteArray) : strWt (t.keys ++ [key]) = strWt t.keys + (key.size + 1) := by
  simp [strWt]; omega
theorem AD.addKey {W0 w w2 : World} {g B : Nat} {t : Tr} {vk vk' vs : Value} {fp : List Nat} {k : Nat} {key : ByteArray} (h : AD W0 g B w t vk vs fp k) (hkey : key.size ≤ 20)
    (ho : w2.ownsRow (W0.heap.size + 1) 9 1 vk' (t.keys.length + 1) (t.keys.map Value.string ++ [.string key])) (hg : w.grownBy w2 vk.ownBlock) (hs : SpotK vk vk' w) :
    ∃ fp', AD W0 g B (w2.setCell ⟨B, 4, none⟩ vk') (.mk t.kind t.flag t.num t.text (t.keys ++ [key]) t.kids) vk' vs fp' (k + 21) := by
  obtain ⟨fk, fs, rfl, hsk, hks⟩ := treeOwn_iff.1 h.own
  obtain ⟨hrow, hmem⟩ := row_of_own hsk (base := W0.heap.size + 1) (fun b hb => (h.ge b (by simp [hb])).1)
  obtain ⟨hnk, hns, hdis⟩ := List.nodup_append.1 h.nd
  have hsame : ∀ b, b < w.heap.size → some b ≠ vk.ownBlock → w2.heap[b]? = w.heap[b]? := hg.block
  have hcell : ∀ b, b ≠ B → (w2.setCell ⟨B, 4, none⟩ vk').heap[b]? = w2.heap[b]? := fun b hb => Below.heap_setCell _ _ _ _ hb
  have hvk : ∀ b, vk.ownBlock = some b → W0.heap.size < b ∧ b ≠ B := fun b hb => h.ge b (by simp [hmem b hb])
  have ho' : w2.ownsRow (W0.heap.size + 1) 9 1 vk' (t.keys ++ [key]).length ((t.keys ++ [key]).map Value.string) := by rw [List.length_append, List.map_append]; exact ho
  have hvk' : ∀ b, vk'.ownBlock = some b → W0.heap.size < b ∧ b ≠ B ∧ b ∉ fs := by
    intro b hb
    rcases hs with e | ⟨q, e, hq⟩
    · rw [e] at hb
      exact ⟨(hvk b hb).1, (hvk b hb).2, fun hx => hdis b (hmem b hb) b hx rfl⟩
    · rw [e] at hb; cases hb
      have hl := h.sp.lt
      have := h.dt.size
      refine ⟨by omega, by omega, fun hx => ?_⟩
      have := TreeOwn.lt _ _ _ _ h.own b (by simp [hx])
      omega
  have ho2 : (w2.setCell ⟨B, 4, none⟩ vk').ownsRow (W0.heap.size + 1) 9 1 vk' (t.keys ++ [key]).length ((t.keys ++ [key]).map Value.string) := row_same ho' fun b hb _ => hcell b (hvk' b hb).2.1
  obtain ⟨fk', g1, g2, g3⟩ := strOwn2 ho2
  have hlt := h.lt
  have hsl := h.sp.lt
  have hbel : Below (W0.heap.size + 1) w w2 := (Below.refl _ _).grown hg (by have := h.dt.size; omega) (fun q hq => by have := (hvk q hq).1; omega)
  refine ⟨fk' ++ fs, ?_, ?_, ?_, ?_, ?_, h.lt, ?_, ?_⟩
  · exact h.dt.above (hbel.trans (below_set hlt _)) (Nat.lt_succ_self _)
  · have h1 := (h.sp.of_block (hsame B hsl fun e => (hvk B e.symm).2 rfl)).set4 vk'
    obtain ⟨e, F, hr, h0, h2, h3, h4, h5, h6⟩ := h1
    exact ⟨e, F, hr, h0, h2, h3, h4, h5, h6⟩
  · refine treeOwn_iff.2 ⟨fk', fs, rfl, g1, ?_⟩
    refine hks.same fun b hb hl => ?_
    rw [hcell b (h.ge b (by simp [hb])).2, hsame b hl fun e => hdis b (hmem b e.symm) b hb rfl]
  · rw [List.nodup_append]
    exact ⟨g2, hns, fun x hx y hy hxy => (hvk' x (g3 x hx).2).2.2 (hxy ▸ hy)⟩
  · intro b hb
    rw [List.mem_append] at hb
    rcases hb with hb | hb
    · have := hvk' b (g3 b hb).2; exact ⟨this.1, this.2.1⟩
    · exact h.ge b (by simp [hb])
  · have := h.wt; have := wt_eq t; have := wt_eq (.mk t.kind t.flag t.num t.text (t.keys ++ [key]) t.kids); have := keys_wt t key; simp only [Tr.text, Tr.keys, Tr.kids] at *; omega
  · have := h.nodes; have := nodes_eq t; have := nodes_eq (.mk t.kind t.flag t.num t.text (t.keys ++ [key]) t.kids); simp only [Tr.kids] at *; omega
/-- A key is appended inside a region that draws its order. -/
theorem step_keyA {ops : Array Oper} {o : Oper} {a : Act} {C : Act → World → Prop} {Q : Exit → Act → World → Prop} {E : Prop} (hgd : o.guard = none) (s x : Operand)
    (ho : o.op = .call { callee := .builtin .append, args := #[s, x], argTypes := #[24, 24] }) {W0 we w : World} {g B : Nat} {t : Tr} {vk vs : Value} {fp : List Nat} {k : Nat} (he : AD W0 g B we t vk vs fp k) (key : ByteArray) (hkey : key.size ≤ 20)
    (hs : a.eval s = vk) (Bk : Nat) (hx : a.eval x = .slice (some ⟨Bk, 0, none⟩) 1 1) (hk9 : k ≤ 900) (hb : Below we.heap.size we w) (hB : w.heap[Bk]? = some (.cells #[.string key] 9 (0, 0)))
    (hk : ∀ gg cap fp' w', w'.cell? ⟨B, 4, none⟩ = some vk → w'.frozen? ⟨B, 4, none⟩ = false → AD W0 g B (w'.setCell ⟨B, 4, none⟩ (.slice (some ⟨gg, 0, none⟩) (t.keys.length + 1) cap)) (.mk t.kind t.flag t.num t.text (t.keys ++ [key]) t.kids) (.slice (some ⟨gg, 0, none⟩) (t.keys.length + 1) cap) vs fp' (k + 21) → C (a.put o.dst (.slice (some ⟨gg, 0, none⟩) (t.keys.length + 1) cap)) w') :
    if Region.wanted o (yielded ops a.tmps) = true then Oper.wp Tryd.prog o a w C Q else E := by
  obtain ⟨i0, hi, hz0, hz1, hz2⟩ := info_parts Tryd.infoStr
  have hp := he.keep hb
  obtain ⟨fk, fs, hfe, hsk, hks⟩ := treeOwn_iff.1 hp.own
  obtain ⟨hrow, hmem⟩ := row_of_own hsk (base := W0.heap.size + 1) (fun b hb => (hp.ge b (by simp [hfe, hb])).1)
  have hkl : t.keys.length ≤ 1000000 := by have := he.wt; have := wt_eq t; have e : strWt t.keys = t.keys.length + sizes t.keys := strWt_eq t.keys; omega
  refine step_append_lies _ hgd s x 24 ho (W0.heap.size + 1) 9 i0 (.string ⟨#[]⟩) 1 16 Tryd.underlying24 hi hz0 hz1 hz2 rfl (by decide) vk t.keys.length (t.keys.map Value.string) hs hrow ⟨Bk, 0, none⟩ 1 1 [.string key] hx rfl (fun j u hu => World.news_of_block hB j u hu) (by simp [Value.oneCell']) (by decide) (by unfold maxLen; omega) (by omega) (by have := hp.dt.size; omega) _ rfl ?_
  intro gg cap w' hown hg hat _
  have hne : ∀ b, vk.ownBlock = some b → b ≠ B := fun b hb => (hp.ge b (by simp [hfe, hmem b hb])).2
  have hbk := hg.block _ hp.sp.lt (fun e => hne B e.symm rfl)
  obtain ⟨fp', had⟩ := hp.addKey hkey hown hg (spotK_of hat)
  refine hk gg cap fp' w' ?_ ?_ had
  · exact (hp.sp.of_block hbk).cells.2.2.2.2.1
  · exact (hp.sp.of_block hbk).frozen 4

end Go.Proofs.YtkifacpanipfhaaDoor
namespace Go.Proofs.YtkifacpanipfhaaDoor
open Go.RowKit

def keysA : List ByteArray := [⟨#[97]⟩, ⟨#[255]⟩]
theorem keysA_ok (i : Nat) (h : i < 2) : (keysA.getD i ⟨#[]⟩).size ≤ 20 := by
  rcases (show i = 0 ∨ i = 1 by omega) with rfl | rfl <;> decide
theorem texts_ok (s u : ByteArray) (hs : s.size = 400) (hu : u.size = 401) (i : Nat) (h : i < 4) : (([⟨#[97]⟩, ⟨#[255]⟩, s, u] : List ByteArray).getD i ⟨#[]⟩).size ≤ 401 := by
  rcases (show i = 0 ∨ i = 1 ∨ i = 2 ∨ i = 3 by omega) with rfl | rfl | rfl | rfl
  · show (⟨#[97]⟩ : ByteArray).size ≤ 401; decide
  · show (⟨#[255]⟩ : ByteArray).size ≤ 401; decide
  · show s.size ≤ 401; omega
  · show u.size ≤ 401; omega
theorem one_in {w : World} {t : Tr} {vk vs : Value} (h : TreeIn w Any t vk vs) : KidsIn (w.alloc (.cells #[.int .i64 t.kind, .bool t.flag, .int .i64 t.num, .string t.text, vk, vs] 27)) Any (.slice (some ⟨w.heap.size, 0, none⟩) ([t] : List Tr).length 1) [t] := by
  have hr := World.rowIs_alloc w #[.int .i64 t.kind, .bool t.flag, .int .i64 t.num, .string t.text, vk, vs] 27 (fun j => (#[.int .i64 t.kind, .bool t.flag, .int .i64 t.num, .string t.text, vk, vs] : Array Value).getD j undef) (fun i hi => by
    rw [Array.getD_eq_getD_getElem?, Array.getElem?_eq_getElem hi]; rfl)
  have hk := h.keep (alloc_below w #[.int .i64 t.kind, .bool t.flag, .int .i64 t.num, .string t.text, vk, vs] 27)
  refine ⟨some ⟨w.heap.size, 0, none⟩, 1, rfl, .inr ⟨w.heap.size, 0, rfl, trivial, ?_⟩⟩
  simp only [KidsAt, and_true]
  exact ⟨vk, vs, ⟨hr.cell (i := 0) (by simp), hr.cell (i := 1) (by simp), hr.cell (i := 2) (by simp), hr.cell (i := 3) (by simp), hr.cell (i := 4) (by simp), hr.cell (i := 5) (by simp)⟩, hk⟩
theorem AD.wrap {W0 w w' : World} {g B : Nat} {t : Tr} {vk vs uk us : Value} {fp fu : List Nat} {k : Nat} (h : AD W0 g B w t vk vs fp k) (hb : Below w.heap.size w w') (ho : TreeOwn w' (listTr [t]) uk us fu) (hn : fu.Nodup) (hge : ∀ b, b ∈ fu → w.heap.size ≤ b) :
    AD W0 g B (put6w w' B (.int .i64 (listTr [t]).kind) (.bool (listTr [t]).flag) (.int .i64 (listTr [t]).num) (.string (listTr [t]).text) uk us) (listTr [t]) uk us fu (k + 1) := by
  have hB := h.sp.lt
  have hl := h.lt
  have hp : Below B w' (put6w w' B (.int .i64 (listTr [t]).kind) (.bool (listTr [t]).flag) (.int .i64 (listTr [t]).num) (.string (listTr [t]).text) uk us) := put6w_below (Below.refl _ _) _ (Nat.le_refl _) _ _ _ _ _ _
  refine ⟨(h.dt.keep hb).above hp h.lt, (h.sp.keep hb).put6, TreeOwn.same _ _ _ _ ho fun x hx _ => put6w_heap _ _ _ _ _ _ _ _ _ (by have := hge x hx; omega), hn, fun b hb' => by have := hge b hb'; omega, h.lt, ?_, ?_⟩
  · have := h.wt; rw [listTr_wt]; simp only [List.length_cons, List.length_nil, wtL]; omega
  · have := h.nodes; have := nodes_eq (listTr [t]); simp only [listTr, Tr.kids, nodesL] at *; omega
theorem ints_any {l : List Tr} (hl : l.length ≤ 300) (h : ∀ i, i < l.length → Drn 0 (kidAt l i)) : AnyT (listTr l) ∧ l.length + wtL l ≤ 1048576 := by
  have a := sumL wtL Tr.wt rfl (fun _ _ => rfl) 20 l (fun i hi => by have := drn_wt 0 _ (h i hi); rw [wtD] at this; exact this)
  have b := sumL nodesL Tr.nodes rfl (fun _ _ => rfl) 1 l (fun i hi => by have := drn_nodes 0 _ (h i hi); rw [nodesD] at this; exact this)
  have c := nodes_eq (listTr l)
  refine ⟨⟨?_, ?_⟩, ?_⟩
  · rw [listTr_wt]; omega
  · rw [c]; show 1 + nodesL l ≤ 1100; omega
  · omega

set_option maxRecDepth 100000 in
set_option maxHeartbeats 16000000 in
theorem l08Any_any (g : Nat) (w : World) (hC : Cur w g) : Calls Tryd.prog 42 #[.pointer (some ⟨g, 0, none⟩)] w (AnyP g w) := by
  have HT := Lib.hid (show ∀ (g : Nat) (w : World), Cur w g → Calls Tryd.prog 36 #[.pointer (some ⟨g, 0, none⟩), .int .i64 4] w (TrP g 3 w) from fun g w hC => by
    have := tree_any 3 (by omega) g w hC
    simpa using this)
  have H0 := Lib.hid (DT.start hC)
  clear hC
  go_enter Tryd.func42, Tryd.ntmps42
  go_wp2_with fail
  refine (HT.out g _ H0.out.cur).mono ?_
  rintro e w1 ⟨t, vk, vs, fp, hd, rfl, hto, hnd, hge, hc1, ha1⟩
  obtain ⟨fk9, fs9, hfe9, hso9, hko9⟩ := treeOwn_iff.1 hto
  obtain ⟨a1, m1, rfl⟩ := str_shape hso9
  obtain ⟨b1, c1, rfl⟩ := kids_shape hko9
  clear hfe9 hso9 hko9
  have H1 := Lib.hid (AD.new (H0.out.go hc1 ha1) hto hnd (fun b hb => by have := hge b hb; simp at this; omega) hd)
  clear hd hto hnd hge hc1 ha1 H0 HT
  go_wp2_with fail
  refine (l01Below_any g 14 _ (by omega) (by omega) H1.out.dt.cur).mono ?_
  rintro e w2 ⟨x, hx0, hx1, rfl, hc2, ha2⟩
  have H2 := Lib.hid (H1.out.go hc2 ha2); clear hc2 ha2 H1
  have hlt := H2.out.lt
  have hlB := H2.out.sp.lt
  by_cases h0 : x = 0
  · subst h0
    go_wp2_with fail
    refine (l01Below_any g 8 _ (by omega) (by omega) H2.out.dt.cur).mono ?_
    rintro e w3 ⟨y, hy0, hy1, rfl, hc3, ha3⟩
    have H3 := Lib.hid (H2.out.go hc3 ha3); clear hc3 ha3 H2
    have f0 := H3.out.sp.frozen 0
    obtain ⟨p0, p1, p2, p3, p4, p5⟩ := H3.out.sp.cells
    obtain ⟨r0, r1, r2, r3, r4, r5⟩ := H3.out.dt.z.cells
    obtain ⟨g0, g1, g2, g3, g4, g5⟩ := H3.out.dt.z.frozen
    go_wp2
    refine bodyPost_ret (v := .agg #[.int .i64 y, .bool t.flag, .int .i64 t.num, .string t.text, .slice a1 t.keys.length m1, .slice b1 t.kids.length c1]) (by simp [results, Tryd.results42, go_sem, r0, r1, r2, r3, r4, r5]) rfl ?_
    exact (H3.out.setKind y).ret (by omega) _ _ _ _ _ _
  by_cases h1 : x = 1
  · subst h1
    clear h0
    have p4 := H2.out.sp.cells.2.2.2.2.1
    have f4 := H2.out.sp.frozen 4
    go_wp2_with fail
    go_region_law (first
      | (go_simp; go_at_call 78; refine (l01Pick_any g _ 2 2 (fun i => keysA.getD i ⟨#[]⟩) (fun s => s.size ≤ 20) _ (by omega) (by omega) ((H2.out.dt.cur.alloc _).keep (by repeat (first | exact Below.refl _ _ | refine Below.drew ?_))) ((lit_strs w2 keysA _ rfl).keep (by repeat (first | exact Below.refl _ _ | refine Below.drew ?_))) (fun b o h => by cases h; have := H2.out.dt.cur.lt; simp; omega) keysA_ok).mono ?_; rintro e w3 ⟨key, hkey, rfl, hc3, ha3⟩; have H3 := Lib.hid (((H2.out.keep (alloc_below _ _ _)).keep (by repeat (first | exact Below.refl _ _ | refine Below.drew ?_))).go hc3 ha3); have HK := Lib.hid hkey; clear hkey hc3 ha3; have p4 := H3.out.sp.cells.2.2.2.2.1; have f4 := H3.out.sp.frozen 4; have hlB := H3.out.sp.lt)
      | (go_loud (refine step_keyA (by rfl) (.tmp 19) (.tmp 23) (by rfl) H3.out key HK.out (by rfl) w3.heap.size (by rfl) (by omega) (by repeat (first | exact Below.refl _ _ | (refine Below.alloc ?_ (by first | omega | (simp; done) | (simp; omega)) _) | (refine Below.setCell ?_ (by first | omega | (simp; done) | (simp; omega)) _) | (refine Below.drew ?_) | (refine below_drewN ?_ _))) (heap_alloc_new _ _) ?_; intro gg cap3 fp3 w4 q4 g4 hA4)))
    all_goals
      have H4 := Lib.hid hA4; clear hA4 q4 g4 p4 f4 H3 H2
      generalize w4.setCell ⟨w1.heap.size, 4, none⟩ (.slice (some ⟨gg, 0, none⟩) (t.keys.length + 1) cap3) = wx at H4 ⊢
      obtain ⟨p0, p1, p2, p3, p4, p5⟩ := H4.out.sp.cells
      obtain ⟨r0, r1, r2, r3, r4, r5⟩ := H4.out.dt.z.cells
      obtain ⟨g0, g1, g2, g3, g4, g5⟩ := H4.out.dt.z.frozen
      go_wp2
      refine bodyPost_ret (v := .agg #[.int .i64 (Tr.mk t.kind t.flag t.num t.text (t.keys ++ [key]) t.kids).kind, .bool (Tr.mk t.kind t.flag t.num t.text (t.keys ++ [key]) t.kids).flag, .int .i64 (Tr.mk t.kind t.flag t.num t.text (t.keys ++ [key]) t.kids).num, .string (Tr.mk t.kind t.flag t.num t.text (t.keys ++ [key]) t.kids).text, .slice (some ⟨gg, 0, none⟩) (t.keys.length + 1) cap3, .slice b1 t.kids.length c1]) (by simp [results, Tryd.results42, go_sem, r0, r1, r2, r3, r4, r5]) rfl ?_
      exact H4.out.ret (by omega) _ _ _ _ _ _
  by_cases h2 : x = 2
  · subst h2
    clear h0 h1
    go_wp2_with fail
    refine (long_sz 400 97 _ (by omega)).mono ?_
    rintro e w3 ⟨s4, hs4, rfl, hb3⟩
    have H3 := Lib.hid (H2.out.keep hb3); clear hb3 H2
    go_wp2_with fail
    refine (long_sz 401 97 _ (by omega)).mono ?_
    rintro e w4 ⟨u4, hu4, rfl, hb4⟩
    have H4 := Lib.hid (H3.out.keep hb4); clear hb4 H3
    have HTX := Lib.hid (texts_ok s4 u4 hs4 hu4); clear hs4 hu4
    go_wp2_with fail
    refine (l01Pick_any g _ 4 4 (fun i => ([⟨#[97]⟩, ⟨#[255]⟩, s4, u4] : List ByteArray).getD i ⟨#[]⟩) (fun s => s.size ≤ 401) _ (by omega) (by omega) (H4.out.dt.cur.alloc _) (lit_strs w4 ([⟨#[97]⟩, ⟨#[255]⟩, s4, u4] : List ByteArray) _ rfl) (fun b o h => by cases h; have := H4.out.dt.cur.lt; omega) HTX.out).mono ?_
    rintro e w5 ⟨s5, hs5, rfl, hc5, ha5⟩
    have H5 := Lib.hid ((H4.out.keep (alloc_below _ _ _)).go hc5 ha5); clear hc5 ha5 H4
    have HS := Lib.hid hs5; clear hs5
    have f3 := H5.out.sp.frozen 3
    obtain ⟨p0, p1, p2, p3, p4, p5⟩ := H5.out.sp.cells
    obtain ⟨r0, r1, r2, r3, r4, r5⟩ := H5.out.dt.z.cells
    obtain ⟨g0, g1, g2, g3, g4, g5⟩ := H5.out.dt.z.frozen
    go_wp2
    refine bodyPost_ret (v := .agg #[.int .i64 t.kind, .bool t.flag, .int .i64 t.num, .string s5, .slice a1 t.keys.length m1, .slice b1 t.kids.length c1]) (by simp [results, Tryd.results42, go_sem, r0, r1, r2, r3, r4, r5]) rfl ?_
    exact (H5.out.setText s5 HS.out).ret (by omega) _ _ _ _ _ _
  by_cases h3 : x = 3
  · subst h3
    clear h0 h1 h2
    go_wp2_with fail
    go_loopw [4] (fun s4 wr => ∃ (k : Nat) (u : Tr) (vk vs : Value) (fu : List Nat), k ≤ 7 ∧ s4 = .int .i64 k ∧ Hid (AD w g w1.heap.size wr u vk vs fu k)) (fun s4 _ => 7 - (intOf s4).toNat)
    case atStart => exact ⟨0, t, _, _, fp, by omega, rfl, H2⟩
    case round =>
      obtain ⟨k, u, vk, vs, fu, hk, rfl, HK⟩ := hrel
      clear H2
      have hto := HK.out.own
      obtain ⟨fk9, fs9, hfe9, hso9, hko9⟩ := treeOwn_iff.1 hto
      obtain ⟨a2, m2, rfl⟩ := str_shape hso9
      obtain ⟨b2, c2, rfl⟩ := kids_shape hko9
      clear hfe9 hso9 hko9
      clear hto
      go_wp2_with fail
      refine (l01Below_any g 3 _ (by omega) (by omega) HK.out.dt.cur).mono ?_
      rintro e w3 ⟨y, hy0, hy1, rfl, hc3, ha3⟩
      have H3 := Lib.hid (HK.out.go hc3 ha3); clear hc3 ha3 HK
      have hl3 := H3.out.sp.lt
      obtain ⟨p0, p1, p2, p3, p4, p5⟩ := H3.out.sp.cells
      obtain ⟨r0, r1, r2, r3, r4, r5⟩ := H3.out.dt.z.cells
      obtain ⟨g0, g1, g2, g3, g4, g5⟩ := H3.out.dt.z.frozen
      by_cases hkx : (k : Int) < 5 + y
      · have hwu := H3.out.wt
        have HW := Lib.hid (show ([u] : List Tr).length + wtL [u] ≤ 1048576 by simp only [List.length_cons, List.length_nil, wtL]; omega)
        clear hwu
        have HI := Lib.hid (one_in (TreeOwn.toIn (S := Any) _ _ _ _ H3.out.own (fun _ _ => trivial)))
        go_wp2_with fail
        refine (sListTree [u] Any _ 1 _ HW.out HI.out).mono ?_
        rintro e w5 ⟨⟨uk, us, fv, rfl, hto, hnd, hge⟩, hb5⟩
        obtain ⟨fk9, fs9, hfe9, hso9, hko9⟩ := treeOwn_iff.1 hto
        obtain ⟨a3, m3, rfl⟩ := str_shape hso9
        obtain ⟨b3, c3, rfl⟩ := kids_shape hko9
        clear hfe9 hso9 hko9
        have H5 := Lib.hid (H3.out.wrap ((alloc_below _ _ _).trans (hb5.mono (by simp))) hto hnd (fun b hb => by have := hge b hb; simp at this; omega))
        have H6 := Lib.hid (H3.out.keep ((alloc_below _ _ _).trans (hb5.mono (by simp))))
        clear hto hnd hge hb5
        have f6 := fun i => H6.out.sp.frozen i
        obtain ⟨p0, p1, p2, p3, p4, p5⟩ := H6.out.sp.cells
        have j0 := f6 0; have j1 := f6 1; have j2 := f6 2; have j3 := f6 3; have j4 := f6 4; have j5 := f6 5
        clear f6
        go_wp2
        go_roundw
        case rel => exact ⟨k + 1, listTr [u], _, _, fv, by omega, by go_num, H5⟩
        case measure => simp [intOf]; omega
      · go_wp2
        refine bodyPost_ret (v := .agg #[.int .i64 u.kind, .bool u.flag, .int .i64 u.num, .string u.text, .slice a2 u.keys.length m2, .slice b2 u.kids.length c2]) (by simp [results, Tryd.results42, go_sem, r0, r1, r2, r3, r4, r5]) rfl ?_
        exact (H3.out).ret (by omega) _ _ _ _ _ _
  by_cases h4 : x = 4
  · subst h4
    clear h0 h1 h2 h3
    have HL := Lib.hid (LD.start (d := 0) H2.out.dt #[] rfl)
    clear H2
    go_wp2_with fail
    go_loopw [5, 6] (fun s5 s6 wr => ∃ (k : Nat) (l : List Tr) (ff : List Nat), k ≤ 300 ∧ s6 = .int .i64 k ∧ Hid (LD w g w2.heap.size wr s5 l ff 0 k)) (fun _ s6 _ => 300 - (intOf s6).toNat)
    case atStart => exact ⟨0, [], [], by omega, rfl, HL⟩
    case round =>
      obtain ⟨k, l, ff, hk, rfl, HLK⟩ := hrel
      clear HL
      go_wp2_with fail
      refine (l01Below_any g 3 _ (by omega) (by omega) HLK.out.dt.cur).mono ?_
      rintro e w3 ⟨y, hy0, hy1, rfl, hc3, ha3⟩
      have H3 := Lib.hid (HLK.out.go hc3 ha3); clear hc3 ha3 HLK
      by_cases hkx : (k : Int) < 298 + y
      · have HSM := Lib.hid (Drn.leaf (sm_int (k : Int) (by omega)) rfl 0)
        go_wp2_with fail
        refine (sIntTree (k : Int) _).mono ?_
        rintro e w4 ⟨rfl, hb4⟩
        have H4 := Lib.hid (H3.out.go (H3.out.dt.cur.keep hb4) (Apart.of_below hb4 _)); clear hb4
        go_wp2_with (at_builtin; go_loud (refine wpList_kidG (by rfl) _ _ (by rfl) H4.out H4.out (.mk 3 false (k : Int) noS [] []) HSM.out (leaf_own _ _ _ _ _) List.nodup_nil (fun b hb => by simp at hb) (by rfl) (by rfl) (by omega) ?_; intro v4 ff4 w5 hL5))
        go_roundw
        case rel => exact ⟨k + 1, l ++ [.mk 3 false (k : Int) noS [] []], ff4, by omega, by go_num, Lib.hid hL5⟩
        case measure => simp [intOf]; omega
      · obtain ⟨fs, hko, hnd, hge⟩ := H3.out.kids.own
        obtain ⟨a2, n2, rfl⟩ := kids_shape hko
        have HAN := Lib.hid (ints_any (by have := H3.out.len; omega) H3.out.all)
        have HKI := Lib.hid (hko.toIn (S := Any) (fun _ _ => trivial))
        clear hko hnd hge
        go_wp2_with fail
        refine (sListTree l Any a2 n2 _ HAN.out.2 HKI.out).mono ?_
        rintro e w4 ⟨⟨vk, vs, fq, rfl, hto, hnd, hge⟩, hb4⟩
        obtain ⟨fk9, fs9, hfe9, hso9, hko9⟩ := treeOwn_iff.1 hto
        obtain ⟨a3, m3, rfl⟩ := str_shape hso9
        obtain ⟨b3, c3, rfl⟩ := kids_shape hko9
        clear hfe9 hso9 hko9
        have H4 := Lib.hid (H3.out.dt.keep hb4)
        have HTO := Lib.hid (And.intro hto (And.intro hnd (show ∀ b, b ∈ fq → w.heap.size < b from fun b hb => by have := hge b hb; have := H3.out.dt.size; omega)))
        clear hto hnd hge hb4
        obtain ⟨r0, r1, r2, r3, r4, r5⟩ := H4.out.z.cells
        obtain ⟨g0, g1, g2, g3, g4, g5⟩ := H4.out.z.frozen
        go_wp2
        refine bodyPost_ret (v := .agg #[.int .i64 (listTr l).kind, .bool (listTr l).flag, .int .i64 (listTr l).num, .string (listTr l).text, .slice a3 (listTr l).keys.length m3, .slice b3 (listTr l).kids.length c3]) (by simp [results, Tryd.results42, go_sem, r0, r1, r2, r3, r4, r5]) rfl ?_
        exact H4.out.retA HAN.out.1 HTO.out.1 HTO.out.2.1 HTO.out.2.2 _ _ _ _ _ _
  have n0 : (x == 0) = false := by rw [beq_eq_false_iff_ne]; exact h0
  have n1 : (x == 1) = false := by rw [beq_eq_false_iff_ne]; exact h1
  have n2 : (x == 2) = false := by rw [beq_eq_false_iff_ne]; exact h2
  have n3 : (x == 3) = false := by rw [beq_eq_false_iff_ne]; exact h3
  have n4 : (x == 4) = false := by rw [beq_eq_false_iff_ne]; exact h4
  clear h0 h1 h2 h3 h4 hx0 hx1
  obtain ⟨p0, p1, p2, p3, p4, p5⟩ := H2.out.sp.cells
  obtain ⟨r0, r1, r2, r3, r4, r5⟩ := H2.out.dt.z.cells
  obtain ⟨g0, g1, g2, g3, g4, g5⟩ := H2.out.dt.z.frozen
  go_wp2
  refine bodyPost_ret (v := .agg #[.int .i64 t.kind, .bool t.flag, .int .i64 t.num, .string t.text, .slice a1 t.keys.length m1, .slice b1 t.kids.length c1]) (by simp [results, Tryd.results42, go_sem, r0, r1, r2, r3, r4, r5]) rfl ?_
  exact (H2.out).ret (by omega) _ _ _ _ _ _

end Go.Proofs.YtkifacpanipfhaaDoor
namespace Go.Proofs.YtkifacpanipfhaaDoor
open Go.RowKit

/-- Two trees of bounded greatness and a key, all of it new. -/
def PkQ (w : World) (e : Ending) (w' : World) : Prop :=
  ∃ t vk vs key kid uk us, AnyT t ∧ AnyT kid ∧ e = .returned (.tuple #[.agg #[.int .i64 t.kind, .bool t.flag, .int .i64 t.num, .string t.text, vk, vs], .string key, .agg #[.int .i64 kid.kind, .bool kid.flag, .int .i64 kid.num, .string kid.text, uk, us]]) ∧ TreeIn w' Any t vk vs ∧ TreeIn w' Any kid uk us ∧ Below w.heap.size w w'
/-- What stands while the two trees are drawn. -/
structure KC (W : World) (g : Nat) (w : World) : Prop where
  cur : Cur w g
  z2 : ZeroAt w W.heap.size
  z4 : ZeroAt w (W.heap.size + 1)
  bel : Below W.heap.size W w
  hg : W.heap.size + 1 < g
theorem KC.go {W w w' : World} {g : Nat} (h : KC W g w) (hc : Cur w' g) (ha : Apart [g] w w') : KC W g w' := by
  have hg := h.hg
  exact ⟨hc, ha.row h.z2 (by simp; omega), ha.row h.z4 (by simp; omega), h.bel.trans (ha.below h.bel.size fun x hx => by simp at hx; omega), hg⟩
theorem KC.keep {W w w' : World} {g : Nat} (h : KC W g w) (hb : Below w.heap.size w w') : KC W g w' := h.go (h.cur.keep hb) (Apart.of_below hb _)
theorem KC.above {W w w' : World} {g B : Nat} (h : KC W g w) (hb : Below B w w') (hB : g < B) : KC W g w' := by
  have hg := h.hg
  exact ⟨h.cur.same fun k hk _ => hb.block k (by omega), World.rowIs.of_block h.z2 (hb.block _ (by omega)), World.rowIs.of_block h.z4 (hb.block _ (by omega)), h.bel.trans (hb.mono (by omega)), hg⟩
/-- The first tree in its local B. -/
structure KD (W : World) (g B : Nat) (w : World) (t : Tr) (vk vs : Value) (fp : List Nat) : Prop where
  kc : KC W g w
  sp : Spill w B t vk vs
  own : TreeOwn w t vk vs fp
  ge : ∀ b, b ∈ fp → g < b ∧ b ≠ B
  lt : g < B
  any : AnyT t
theorem KD.go {W w w' : World} {g B : Nat} {t : Tr} {vk vs : Value} {fp : List Nat} (h : KD W g B w t vk vs fp) (hc : Cur w' g) (ha : Apart [g] w w') : KD W g B w' t vk vs fp := by
  have h2 := h.lt
  exact ⟨h.kc.go hc ha, h.sp.of_block (ha.block _ h.sp.lt (by simp; omega)), TreeOwn.same _ _ _ _ h.own fun b hb hl => ha.block b hl (by have := h.ge b hb; simp; omega), h.ge, h.lt, h.any⟩
theorem KD.keep {W w w' : World} {g B : Nat} {t : Tr} {vk vs : Value} {fp : List Nat} (h : KD W g B w t vk vs fp) (hb : Below w.heap.size w w') : KD W g B w' t vk vs fp := h.go (h.kc.cur.keep hb) (Apart.of_below hb _)
theorem KD.new {W w : World} {g : Nat} {t : Tr} {vk vs : Value} {fp : List Nat} (h : KC W g w) (ho : TreeOwn w t vk vs fp) (hge : ∀ b, b ∈ fp → g < b) (hd : AnyT t) :
    KD W g w.heap.size (w.alloc (.cells #[.int .i64 t.kind, .bool t.flag, .int .i64 t.num, .string t.text, vk, vs] 27)) t vk vs fp :=
  ⟨h.keep (alloc_below _ _ _), Spill.new w t vk vs _, ho.keep (alloc_below _ _ _), fun b hb => ⟨hge b hb, by have := TreeOwn.lt _ _ _ _ ho b hb; omega⟩, h.cur.lt, hd⟩
theorem KD.put {W w w' : World} {g B : Nat} {t u : Tr} {vk vs uk us : Value} {fp fu : List Nat} (h : KD W g B w t vk vs fp) (hb : Below w.heap.size w w') (ho : TreeOwn w' u uk us fu) (hge : ∀ b, b ∈ fu → w.heap.size ≤ b) (hd : AnyT u) :
    KD W g B (put6w w' B (.int .i64 u.kind) (.bool u.flag) (.int .i64 u.num) (.string u.text) uk us) u uk us fu := by
  have hB := h.sp.lt
  have hl := h.lt
  have hp : Below (g + 1) w' (put6w w' B (.int .i64 u.kind) (.bool u.flag) (.int .i64 u.num) (.string u.text) uk us) := put6w_below (Below.refl _ _) _ (by omega) _ _ _ _ _ _
  exact ⟨(h.kc.keep hb).above hp (Nat.lt_succ_self _), (h.sp.keep hb).put6, TreeOwn.same _ _ _ _ ho fun x hx _ => put6w_heap _ _ _ _ _ _ _ _ _ (by have := hge x hx; omega), fun b hb' => by have := hge b hb'; omega, h.lt, hd⟩
theorem int_wt (k : Int) : (Tr.mk 3 false k noS [] []).wt = 0 ∧ (Tr.mk 3 false k noS [] []).nodes = 1 := ⟨rfl, rfl⟩
theorem spill_put6 {w : World} {b c : Nat} {t : Tr} {vk vs : Value} (h : Spill w b t vk vs) (hc : b ≠ c) {v0 v1 v2 v3 v4 v5 : Value} :
    Spill ((((((w.setCell ⟨c, 0, none⟩ v0).setCell ⟨c, 1, none⟩ v1).setCell ⟨c, 2, none⟩ v2).setCell ⟨c, 3, none⟩ v3).setCell ⟨c, 4, none⟩ v4).setCell ⟨c, 5, none⟩ v5) b t vk vs :=
  h.of_block (put6w_heap w c v0 v1 v2 v3 v4 v5 b hc)
theorem any_map {k : Nat} {t : Tr} (h : MapD 0 k t) (hk : k ≤ 4) : AnyT t ∧ t.wt ≤ 1048576 := by
  have hd : Drn 1 t := mapD_end h hk
  have h1 := drn_wt3' (by omega) hd
  exact ⟨⟨by omega, by omega⟩, by omega⟩
/-- The two results are laid into their locals. -/
theorem KD.fin {W w : World} {g B c d : Nat} {t kid : Tr} {key : ByteArray} {vk vs uk us : Value} {fp fq : List Nat} (h : KD W g B w t vk vs fp) (hk : TreeOwn w kid uk us fq) (hge : ∀ b, b ∈ fq → g < b) (hd : AnyT kid)
    (hcd : (c = W.heap.size ∧ d = W.heap.size + 1) ∨ (c = W.heap.size + 1 ∧ d = W.heap.size)) {v0 v1 v2 v3 v4 v5 x0 x1 x2 x3 x4 x5 : Value} :
    PkQ W (.returned (.tuple #[.agg #[.int .i64 t.kind, .bool t.flag, .int .i64 t.num, .string t.text, vk, vs], .string key, .agg #[.int .i64 kid.kind, .bool kid.flag, .int .i64 kid.num, .string kid.text, uk, us]]))
      ((((((((((((w.setCell ⟨c, 0, none⟩ v0).setCell ⟨c, 1, none⟩ v1).setCell ⟨c, 2, none⟩ v2).setCell ⟨c, 3, none⟩ v3).setCell ⟨c, 4, none⟩ v4).setCell ⟨c, 5, none⟩ v5).setCell ⟨d, 0, none⟩ x0).setCell ⟨d, 1, none⟩ x1).setCell ⟨d, 2, none⟩ x2).setCell ⟨d, 3, none⟩ x3).setCell ⟨d, 4, none⟩ x4).setCell ⟨d, 5, none⟩ x5) := by
  have hg := h.kc.hg
  have hs : ∀ b, b ≠ c → b ≠ d → (put6w (put6w w c v0 v1 v2 v3 v4 v5) d x0 x1 x2 x3 x4 x5).heap[b]? = w.heap[b]? := fun b h1 h2 => (put6w_heap _ _ _ _ _ _ _ _ _ h2).trans (put6w_heap _ _ _ _ _ _ _ _ _ h1)
  have hbel : Below W.heap.size w (put6w (put6w w c v0 v1 v2 v3 v4 v5) d x0 x1 x2 x3 x4 x5) := put6w_below (put6w_below (Below.refl _ _) _ (by omega) _ _ _ _ _ _) _ (by omega) _ _ _ _ _ _
  show PkQ W _ (put6w (put6w w c v0 v1 v2 v3 v4 v5) d x0 x1 x2 x3 x4 x5)
  generalize put6w (put6w w c v0 v1 v2 v3 v4 v5) d x0 x1 x2 x3 x4 x5 = w' at hs hbel ⊢
  refine ⟨t, vk, vs, key, kid, uk, us, h.any, hd, rfl, ?_, ?_, h.kc.bel.trans hbel⟩
  · exact TreeOwn.toIn _ _ _ _ (TreeOwn.same _ _ _ _ h.own fun x hx _ => hs x (by have := h.ge x hx; omega) (by have := h.ge x hx; omega)) (fun _ _ => trivial)
  · exact TreeOwn.toIn _ _ _ _ (TreeOwn.same _ _ _ _ hk fun x hx _ => hs x (by have := hge x hx; omega) (by have := hge x hx; omega)) (fun _ _ => trivial)

set_option maxRecDepth 100000 in
set_option maxHeartbeats 2000000 in
theorem drawPutKid (a : Option Addr) (n cap : Nat) (w : World) (hn : n ≤ 1048576) (hc : CodeAt w w.heap.size a n) : Calls Tryd.prog 20 #[.slice a n cap] w (PkQ w) := by
  have hz := ZeroAt.new w
  have hal := alloc_below w #[.int .i64 0, .bool false, .int .i64 0, .string ⟨#[]⟩, .slice none 0 0, .slice none 0 0] 27
  have hz4 := ZeroAt.new (w.alloc (.cells #[.int .i64 0, .bool false, .int .i64 0, .string ⟨#[]⟩, .slice none 0 0, .slice none 0 0] 27))
  have hal4 := alloc_below (w.alloc (.cells #[.int .i64 0, .bool false, .int .i64 0, .string ⟨#[]⟩, .slice none 0 0, .slice none 0 0] 27)) #[.int .i64 0, .bool false, .int .i64 0, .string ⟨#[]⟩, .slice none 0 0, .slice none 0 0] 27
  simp only [World.size_alloc] at hz4
  have HZ := Lib.hid (And.intro (hz.keep hal4) (And.intro hz4 (bnext hal hal4)))
  have HC := Lib.hid ((hc.keep hal).keep hal4)
  clear hz hal hz4 hal4 hc
  go_enter Tryd.func20, Tryd.ntmps20
  go_wp2_with fail
  refine (l01New_any a n cap _ hn HC.out).mono ?_
  rintro e w1 ⟨g, rfl, hg, hc1, hb1⟩
  have H1 := Lib.hid (show KC w g w1 from ⟨hc1, HZ.out.1.keep hb1, HZ.out.2.1.keep hb1, bnext HZ.out.2.2 hb1, by simp at hg; omega⟩)
  clear hg hc1 hb1 HC HZ
  go_wp2_with fail
  refine (l08Any_any g _ H1.out.cur).mono ?_
  rintro e w2 ⟨t, vk, vs, fp, hd, rfl, hto, hnd, hge, hc2, ha2⟩
  obtain ⟨fk9, fs9, hfe9, hso9, hko9⟩ := treeOwn_iff.1 hto
  obtain ⟨a1, m1, rfl⟩ := str_shape hso9
  obtain ⟨b1, c1, rfl⟩ := kids_shape hko9
  clear hfe9 hso9 hko9
  have H2 := Lib.hid (KD.new (H1.out.go hc2 ha2) hto (fun b hb => by have := hge b hb; have := H1.out.cur.lt; omega) hd)
  clear hd hto hnd hge hc2 ha2 H1
  go_wp2_with fail
  refine (l01Once_any g 2 _ (by omega) (by omega) H2.out.kc.cur).mono ?_
  rintro e w3 ⟨bo, rfl, hc3, ha3⟩
  have H3 := Lib.hid (H2.out.go hc3 ha3); clear hc3 ha3 H2
  go_upto_if 13 with fail
  go_cut [] (fun wx => ∃ (u : Tr) (au bu : Option Addr) (mu nu : Nat) (fu : List Nat), Hid (KD w g w2.heap.size wx u (.slice au u.keys.length mu) (.slice bu u.kids.length nu) fu))
  case first =>
    cases bo
    · go_wp2_with fail
      go_meet
      exact ⟨t, _, _, _, _, fp, H3⟩
    · have H4 := Lib.hid (KD.put (u := emptyMap) H3.out (Below.refl _ _) (leaf_own w3 6 false 0 noS) (fun b hb => by simp at hb) (any_map (mapD_start 0) (by omega)).1)
      have hlB := H3.out.sp.lt
      have f0 := H3.out.sp.frozen 0
      have f1 := H3.out.sp.frozen 1
      have f2 := H3.out.sp.frozen 2
      have f3 := H3.out.sp.frozen 3
      have f4 := H3.out.sp.frozen 4
      have f5 := H3.out.sp.frozen 5
      obtain ⟨p0, p1, p2, p3, p4, p5⟩ := H3.out.sp.cells
      go_wp2_with fail
      have HM := Lib.hid (mapD_start 0)
      clear f0 f1 f2 f3 f4 f5 p0 p1 p2 p3 p4 p5 hlB
      go_loopw [7] (fun s7 wr => ∃ (k : Nat) (m : Tr) (vk vs : Value) (fu : List Nat), k ≤ 3 ∧ s7 = .int .i64 k ∧ Hid (KD w g w2.heap.size wr m vk vs fu ∧ MapD 0 k m)) (fun s7 _ => 3 - (intOf s7).toNat)
      case atStart => exact ⟨0, emptyMap, _, _, [], by omega, rfl, Lib.hid ⟨H4.out, HM.out⟩⟩
      case round =>
        obtain ⟨k, m, vk, vs, fu, hk, rfl, HK⟩ := hrel
        clear H4 H3
        have hto := HK.out.1.own
        obtain ⟨fk9, fs9, hfe9, hso9, hko9⟩ := treeOwn_iff.1 hto
        obtain ⟨a2, m2, rfl⟩ := str_shape hso9
        obtain ⟨b2, c2, rfl⟩ := kids_shape hko9
        clear hfe9 hso9 hko9
        clear hto
        go_wp2_with fail
        refine (l01Below_any g 4 _ (by omega) (by omega) HK.out.1.kc.cur).mono ?_
        rintro e w4 ⟨x, hx0, hx1, rfl, hc4, ha4⟩
        have H4 := Lib.hid (HK.out.1.go hc4 ha4)
        have HM := Lib.hid HK.out.2
        clear hc4 ha4 HK
        cases hlt : decide ((k : Int) < x)
        · go_wp2_with fail
          go_meet
          exact ⟨m, _, _, _, _, fu, H4⟩
        · have hlt1 : (k : Int) < x := by simpa using hlt
          have HWM := Lib.hid (any_map HM.out (by omega))
          have hlB := H4.out.sp.lt
          obtain ⟨p0, p1, p2, p3, p4, p5⟩ := H4.out.sp.cells
          go_wp2_with fail
          go_region_law (first
            | (go_simp; go_at_call 45; refine (l08Word_ok g _ (H4.out.kc.cur.keep (by repeat (first | exact Below.refl _ _ | refine Below.drew ?_)))).mono ?_; rintro e w5 ⟨ks, hks, rfl, hc5, ha5⟩; have H5 := Lib.hid ((H4.out.keep (by repeat (first | exact Below.refl _ _ | refine Below.drew ?_))).go hc5 ha5); have HKS := Lib.hid hks; clear hks hc5 ha5; obtain ⟨p0, p1, p2, p3, p4, p5⟩ := H5.out.sp.cells; have hlB := H5.out.sp.lt)
            | (go_simp; go_at_call 46; refine (sIntTree (k : Int) _).mono ?_; rintro e w6 ⟨rfl, hb6⟩; have H6 := Lib.hid ((H5.out.keep (by repeat (first | exact Below.refl _ _ | refine Below.drew ?_))).keep hb6); clear hb6; obtain ⟨p0, p1, p2, p3, p4, p5⟩ := H6.out.sp.cells; have hlB := H6.out.sp.lt)
            | (go_simp; go_at_call 27; refine (sPutKid m (.mk 3 false (k : Int) noS [] []) Any Any ks _ _ _ _ _ HWM.out.2 (by rw [(int_wt k).1]; omega) (by have := HWM.out.1.2; rw [(int_wt k).2]; omega) ((H6.out.own.toIn _ _ _ _ (fun _ _ => trivial)).keep (by repeat (first | exact Below.refl _ _ | refine Below.drew ?_))) ((leaf_in _ 3 false (k : Int) noS).keep (by repeat (first | exact Below.refl _ _ | refine Below.drew ?_)))).mono ?_; rintro e w7 ⟨⟨k2, s2, fp2, rfl, hto, hnd, hge⟩, hb7⟩; obtain ⟨fk9, fs9, hfe9, hso9, hko9⟩ := treeOwn_iff.1 hto; obtain ⟨a7, n7, rfl⟩ := str_shape hso9; obtain ⟨b7, c7, rfl⟩ := kids_shape hko9; clear hfe9 hso9 hko9; have HB7 := Lib.hid (show Below w6.heap.size w6 w7 from bnext (by repeat (first | exact Below.refl _ _ | (refine Below.alloc ?_ (by first | omega | (simp; done) | (simp; omega)) _) | (refine Below.setCell ?_ (by first | omega | (simp; done) | (simp; omega)) _) | (refine Below.drew ?_) | (refine below_drewN ?_ _))) hb7); have HTO := Lib.hid (And.intro hto (show ∀ b, b ∈ fp2 → w6.heap.size ≤ b from fun b hb => by have := hge b hb; (try simp at this); omega)); have f7 := (H6.out.sp.keep HB7.out).frozen; have f70 := f7 0; have f71 := f7 1; have f72 := f7 2; have f73 := f7 3; have f74 := f7 4; have f75 := f7 5; obtain ⟨p0, p1, p2, p3, p4, p5⟩ := (H6.out.sp.keep HB7.out).cells; have hlB := (H6.out.sp.keep HB7.out).lt; clear f7 hto hnd hge hb7))
          all_goals
            have HMN := Lib.hid (mapD_put (kid := .mk 3 false (k : Int) noS [] []) (key := ks) HM.out (Drn.leaf (sm_int (k : Int) (by omega)) rfl 0) HKS.out.1)
            have HN := Lib.hid (H6.out.put HB7.out HTO.out.1 HTO.out.2 (any_map HMN.out (by omega)).1)
            go_wp2
            go_roundw
            case rel => exact ⟨k + 1, putR m ks (.mk 3 false (k : Int) noS [] []), _, _, fp2, by omega, by go_num, Lib.hid ⟨HN.out, HMN.out⟩⟩
            case measure => simp [intOf]; omega
  case rest =>
    obtain ⟨wx0, rfl⟩ : ∃ x : World, x = wc := ⟨wc, rfl⟩
    obtain ⟨u, au, bu, mu, nu, fu, HU⟩ := hcut
    clear H3
    have hlB := HU.out.sp.lt
    have hlg := HU.out.lt
    have hgg := HU.out.kc.hg
    have HL := Lib.hid HU.out.sp
    go_wp2_with fail
    go_region_held3 (fun w' => w'.cell? ⟨w2.heap.size, 0, none⟩ = some (.int .i64 u.kind) ∧ w'.cell? ⟨w2.heap.size, 1, none⟩ = some (.bool u.flag) ∧ w'.cell? ⟨w2.heap.size, 2, none⟩ = some (.int .i64 u.num) ∧ w'.cell? ⟨w2.heap.size, 3, none⟩ = some (.string u.text) ∧ w'.cell? ⟨w2.heap.size, 4, none⟩ = some (.slice au u.keys.length mu) ∧ w'.cell? ⟨w2.heap.size, 5, none⟩ = some (.slice bu u.kids.length nu))
      (first | (with_reducible refine Spill.cells (spill_put6 (spill_put6 HL.out ?_) ?_); omega; omega) | (with_reducible refine Spill.cells (spill_put6 HL.out ?_); omega) | (with_reducible exact HL.out.cells) | (with_reducible exact (HL.out.keep (Below.refl _ _).drew).cells))
      (first
      | (go_at_call 45; (refine (l08Word_ok g _ (HU.out.kc.cur.keep (by repeat (first | exact Below.refl _ _ | refine Below.drew ?_)))).mono ?_; rintro e w5 ⟨ks, hks, rfl, hc5, ha5⟩; have H5 := Lib.hid ((HU.out.keep (by repeat (first | exact Below.refl _ _ | refine Below.drew ?_))).go hc5 ha5); have HKS := Lib.hid hks; clear hks hc5 ha5; have HL := Lib.hid H5.out.sp; have hlB := H5.out.sp.lt))
      | (go_at_call 42; (refine (l08Any_any g _ (H5.out.kc.cur.keep (by repeat (first | exact Below.refl _ _ | refine Below.drew ?_)))).mono ?_; rintro e w6 ⟨kid, uk, us, fq, hd, rfl, hto, hnd, hge, hc6, ha6⟩; obtain ⟨fk9, fs9, hfe9, hso9, hko9⟩ := treeOwn_iff.1 hto; obtain ⟨a6, n6, rfl⟩ := str_shape hso9; obtain ⟨b6, c6, rfl⟩ := kids_shape hko9; clear hfe9 hso9 hko9; have H6 := Lib.hid ((H5.out.keep (by repeat (first | exact Below.refl _ _ | refine Below.drew ?_))).go hc6 ha6); have HK := Lib.hid (And.intro hto (And.intro (show ∀ b, b ∈ fq → g < b from fun b hb => by have := hge b hb; (try simp at this); have := H5.out.kc.cur.lt; omega) hd)); clear hto hnd hge hd hc6 ha6; have HL := Lib.hid H6.out.sp; have hlB := H6.out.sp.lt; obtain ⟨r0, r1, r2, r3, r4, r5⟩ := H6.out.kc.z2.cells; obtain ⟨g0, g1, g2, g3, g4, g5⟩ := H6.out.kc.z2.frozen; obtain ⟨y0, y1, y2, y3, y4, y5⟩ := H6.out.kc.z4.cells; obtain ⟨j0, j1, j2, j3, j4, j5⟩ := H6.out.kc.z4.frozen)))
    all_goals
      go_wp2
      refine bodyPost_ret (v := .tuple #[.agg #[.int .i64 u.kind, .bool u.flag, .int .i64 u.num, .string u.text, .slice au u.keys.length mu, .slice bu u.kids.length nu], .string ks, .agg #[.int .i64 kid.kind, .bool kid.flag, .int .i64 kid.num, .string kid.text, .slice a6 kid.keys.length n6, .slice b6 kid.kids.length c6]]) (by simp [results, Tryd.results20, go_sem, r0, r1, r2, r3, r4, r5, y0, y1, y2, y3, y4, y5]) rfl ?_
      with_reducible refine H6.out.fin HK.out.1 HK.out.2.1 HK.out.2.2 ?_
      first | exact .inl ⟨rfl, rfl⟩ | exact .inr ⟨rfl, rfl⟩

end Go.Proofs.YtkifacpanipfhaaDoor
