/- DrnP, TrW, PutK, PutL, merged. -/
import Derived.Test.YtkifacpanipfhaaDoorNB
import Derived.Test.YtkifacpanipfhaaDoorNA
import Derived.Test.YtkifacpanipfhaaDoorDraw
import Derived.Test.YtkifacpanipfhaaDoorNS
import Derived.Test.YtkifacpanipfhaaDoorNH
import Derived.Test.YtkifacpanipfhaaDoorNI
import Derived.Deep.RegionWith
import Derived.Deep.RegionHeld3
import Derived.Deep.CutRange
namespace Go.Proofs.YtkifacpanipfhaaDoor
open Go.RowKit

/-- A small node. -/
structure Sm (t : Tr) : Prop where
  shape : shapeB t = true
  nums : t.nums
  text : t.text.size ≤ 20
  keys : ∀ i, (strAt t.keys i).size ≤ 20
def Drn : Nat → Tr → Prop
  | 0, t => Sm t ∧ t.kids.length = 0
  | d + 1, t => Sm t ∧ t.kids.length ≤ 4 ∧ ∀ i, i < t.kids.length → Drn d (kidAt t.kids i)
theorem Drn.sm : ∀ {d : Nat} {t : Tr}, Drn d t → Sm t
  | 0, _, h => h.1
  | _ + 1, _, h => h.1
theorem Drn.succ : ∀ {d : Nat} {t : Tr}, Drn d t → Drn (d + 1) t
  | 0, t, h => ⟨h.1, by have := h.2; omega, fun i hi => by have := h.2; omega⟩
  | d + 1, t, h => ⟨h.1, h.2.1, fun i hi => (h.2.2 i hi).succ⟩
theorem Drn.leaf {t : Tr} (h : Sm t) (hk : t.kids.length = 0) : ∀ d : Nat, Drn d t
  | 0 => ⟨h, hk⟩
  | d + 1 => ⟨h, by omega, fun i hi => by omega⟩
theorem sumL (g : List Tr → Nat) (f : Tr → Nat) (h0 : g [] = 0) (hc : ∀ t ts, g (t :: ts) = f t + g ts) (B : Nat) : ∀ l : List Tr, (∀ i, i < l.length → f (kidAt l i) ≤ B) → g l ≤ B * l.length
  | [], _ => by rw [h0]; exact Nat.zero_le _
  | t :: ts, h => by
    have a := h 0 (by simp)
    have b := sumL g f h0 hc B ts (fun i hi => h (i + 1) (by simpa using hi))
    rw [hc, List.length_cons, Nat.mul_succ]
    have e : kidAt (t :: ts) 0 = t := rfl
    rw [e] at a
    omega
theorem maxL (B : Nat) : ∀ l : List Tr, (∀ i, i < l.length → (kidAt l i).depth ≤ B) → depthL l ≤ B
  | [], _ => Nat.zero_le _
  | t :: ts, h => by
    have a := h 0 (by simp)
    have b := maxL B ts (fun i hi => h (i + 1) (by simpa using hi))
    have e : kidAt (t :: ts) 0 = t := rfl
    rw [e] at a
    rw [depthL]; omega
def nodesD : Nat → Nat | 0 => 1 | d + 1 => 1 + 4 * nodesD d
theorem drn_nodes : ∀ (d : Nat) (t : Tr), Drn d t → t.nodes ≤ nodesD d
  | 0, t, h => by
    have := sumL nodesL Tr.nodes rfl (fun _ _ => rfl) 0 t.kids (fun i hi => by have := h.2; omega)
    have := nodes_eq t
    rw [nodesD]; omega
  | d + 1, t, h => by
    have a := sumL nodesL Tr.nodes rfl (fun _ _ => rfl) (nodesD d) t.kids (fun i hi => drn_nodes d _ (h.2.2 i hi))
    have b := Nat.mul_le_mul_left (nodesD d) h.2.1
    have := nodes_eq t
    rw [nodesD]; omega
theorem drn_depth : ∀ (d : Nat) (t : Tr), Drn d t → t.depth ≤ d + 1
  | 0, t, h => by
    have a := maxL 0 t.kids (fun i hi => by have := h.2; omega)
    cases t; simp only [Tr.depth, Tr.kids] at a ⊢; omega
  | d + 1, t, h => by
    have a := maxL (d + 1) t.kids (fun i hi => drn_depth d _ (h.2.2 i hi))
    cases t; simp only [Tr.depth, Tr.kids] at a ⊢; omega
theorem drn_ok {t : Tr} (h : Drn 3 t) : treeOkB t = true ∧ t.nodes ≤ 85 := by
  have a := drn_nodes 3 t h
  have b := drn_depth 3 t h
  have e : nodesD 3 = 85 := by decide
  rw [treeOkB, decide_eq_true (by omega), decide_eq_true (by omega), h.sm.shape]
  exact ⟨rfl, by omega⟩
theorem strWt_le {l : List ByteArray} {B n : Nat} (h : ∀ i, (strAt l i).size ≤ B) (hn : l.length ≤ n) : strWt l ≤ (B + 1) * n := by
  have key : ∀ l : List ByteArray, (∀ i, (strAt l i).size ≤ B) → (l.map ByteArray.size).sum ≤ B * l.length := by
    intro l
    induction l with
    | nil => intro _; exact Nat.zero_le _
    | cons x l ih =>
      intro h
      have a := h 0
      have b := ih (fun i => h (i + 1))
      have e : strAt (x :: l) 0 = x := rfl
      rw [e] at a
      rw [List.map_cons, List.sum_cons, List.length_cons, Nat.mul_succ]; omega
  have a := key l h
  have b := Nat.mul_le_mul_left B hn
  unfold strWt
  rw [Nat.add_mul]; omega
theorem sm_keys {t : Tr} (h : Sm t) : t.keys.length ≤ t.kids.length := by
  obtain ⟨-, -, -, h4, -, h6⟩ := head_kind (shape_parts h.shape).1
  by_cases e : t.kind = 6
  · rw [h4 e]; exact Nat.le_refl _
  · rw [h6 e]; exact Nat.zero_le _
def wtD : Nat → Nat | 0 => 20 | d + 1 => 108 + 4 * wtD d
theorem drn_wt : ∀ (d : Nat) (t : Tr), Drn d t → t.wt ≤ wtD d
  | 0, t, h => by
    have a := sumL wtL Tr.wt rfl (fun _ _ => rfl) 0 t.kids (fun i hi => by have := h.2; omega)
    have b := strWt_le h.1.keys (show t.keys.length ≤ 0 by have := sm_keys h.1; have := h.2; omega)
    have c := h.1.text
    have := wt_eq t
    have := h.2
    rw [wtD]; omega
  | d + 1, t, h => by
    have a := sumL wtL Tr.wt rfl (fun _ _ => rfl) (wtD d) t.kids (fun i hi => drn_wt d _ (h.2.2 i hi))
    have b := strWt_le h.1.keys (show t.keys.length ≤ 4 by have := sm_keys h.1; have := h.2.1; omega)
    have c := h.1.text
    have e := Nat.mul_le_mul_left (wtD d) h.2.1
    have := wt_eq t
    have := h.2.1
    rw [wtD]; omega
theorem drn_wt3 {t : Tr} (h : Drn 3 t) : t.wt ≤ 20000 := by
  have := drn_wt 3 t h
  have e : wtD 3 = 3548 := by decide
  omega

/-! ### What a round of drawing a map leaves -/
theorem kidAt_take (l : List Tr) (n i : Nat) (h : i < n) : kidAt (l.take n) i = kidAt l i := by
  simp only [kidAt, List.getD_eq_getElem?_getD, List.getElem?_take_of_lt h]
theorem kidAt_put {l : List Tr} {kid : Tr} {p q : Nat} (Q : Tr → Prop) (hl : ∀ i, i < l.length → Q (kidAt l i)) (hk : Q kid) : ∀ i, i < (l.take p ++ kid :: l.drop q).length → Q (kidAt (l.take p ++ kid :: l.drop q) i) := by
  intro i hi
  have hmem : kidAt (l.take p ++ kid :: l.drop q) i ∈ l.take p ++ kid :: l.drop q := by rw [kidAt_mem hi]; exact List.getElem_mem hi
  simp only [List.mem_append, List.mem_cons] at hmem
  have hall : ∀ x ∈ l, Q x := fun x hx => by
    obtain ⟨j, hj, rfl⟩ := List.getElem_of_mem hx
    have := hl j hj
    rwa [kidAt_mem hj] at this
  rcases hmem with h | h | h
  · exact hall _ (List.mem_of_mem_take h)
  · rw [h]; exact hk
  · exact hall _ (List.mem_of_mem_drop h)
theorem strAt_put {l : List ByteArray} {key : ByteArray} {p q B : Nat} (hl : ∀ i, (strAt l i).size ≤ B) (hk : key.size ≤ B) : ∀ i, (strAt (l.take p ++ key :: l.drop q) i).size ≤ B := by
  intro i
  have hall : ∀ x ∈ l, x.size ≤ B := fun x hx => by
    obtain ⟨j, hj, rfl⟩ := List.getElem_of_mem hx
    have := hl j
    rwa [strAt, List.getD_eq_getElem?_getD, List.getElem?_eq_getElem hj] at this
  rcases Nat.lt_or_ge i (l.take p ++ key :: l.drop q).length with h | h
  · have hmem : strAt (l.take p ++ key :: l.drop q) i ∈ l.take p ++ key :: l.drop q := by rw [strAt, List.getD_eq_getElem?_getD, List.getElem?_eq_getElem h]; exact List.getElem_mem h
    simp only [List.mem_append, List.mem_cons] at hmem
    rcases hmem with h | h | h
    · exact hall _ (List.mem_of_mem_take h)
    · rw [h]; exact hk
    · exact hall _ (List.mem_of_mem_drop h)
  · rw [strAt, List.getD_eq_getElem?_getD, List.getElem?_eq_none h]; exact Nat.zero_le _
def emptyMap : Tr := .mk 6 false 0 noS [] []
/-- As far as round i of drawing a map at depth d + 1. -/
structure MapD (d i : Nat) (t : Tr) : Prop where
  kind : t.kind = 6
  sm : Sm t
  few : t.kids.length ≤ i
  kids : ∀ j, j < t.kids.length → Drn d (kidAt t.kids j)
theorem mapD_start (d : Nat) : MapD d 0 emptyMap := by
  refine ⟨rfl, ⟨by decide +kernel, ?_, by decide +kernel, fun i => ?_⟩, Nat.le_refl _, fun j hj => by simp [emptyMap, Tr.kids] at hj⟩
  · rw [nums_iff]; exact ⟨by decide, by simp [emptyMap, Tr.kids, numsL]⟩
  · simp [emptyMap, Tr.keys, strAt]
theorem mapD_put {d i : Nat} {t kid : Tr} {key : ByteArray} (h : MapD d i t) (hk : Drn d kid) (hs : key.size ≤ 20) : MapD d (i + 1) (putR t key kid) := by
  unfold putR
  cases ho : putOk t key kid
  · rw [if_neg (by simp)]
    exact ⟨h.kind, h.sm, by have := h.few; omega, h.kids⟩
  · rw [if_pos rfl]
    simp only [putOk, Bool.and_eq_true, treeOkB] at ho
    have hl : t.keys.length = t.kids.length := (head_kind (shape_parts h.sm.shape).1).2.2.2.1 h.kind
    have hp := hitN_le key t.keys
    have hkids := kidAt_put (kid := kid) (p := posK key t.keys) (q := posK key t.keys + hitN key t.keys) (Drn d) h.kids hk
    refine ⟨rfl, ⟨ho.2.2.2.2, ?_, Nat.zero_le _, strAt_put h.sm.keys hs⟩, ?_, hkids⟩
    · rw [nums_iff]
      refine ⟨show (Lit.int .i64 0).wf = true by decide, ?_⟩
      exact numsL_of _ fun i hi => (hkids i hi).sm.nums
    · have := h.few
      show (putT key t.keys kid t.kids).length ≤ i + 1
      rw [putT, List.length_append, List.length_cons, List.length_take, List.length_drop]; omega
theorem mapD_end {d i : Nat} {t : Tr} (h : MapD d i t) (hi : i ≤ 4) : Drn (d + 1) t := ⟨h.sm, by have := h.few; omega, h.kids⟩

end Go.Proofs.YtkifacpanipfhaaDoor
namespace Go.Proofs.YtkifacpanipfhaaDoor
open Go.RowKit

/-- A drawn tree comes back, on blocks of its own; only the cursor has turned. -/
def TrP (g d : Nat) (W0 : World) (e : Ending) (w' : World) : Prop :=
  ∃ t vk vs fp, Drn d t ∧ e = .returned (.agg #[.int .i64 t.kind, .bool t.flag, .int .i64 t.num, .string t.text, vk, vs]) ∧ TreeOwn w' t vk vs fp ∧ fp.Nodup ∧ (∀ b, b ∈ fp → W0.heap.size ≤ b) ∧ Cur w' g ∧ Apart [g] W0 w'
/-- The cursor, the fresh result local made in W0. -/
structure DT (W0 : World) (g : Nat) (w : World) : Prop where
  cur : Cur w g
  z : ZeroAt w W0.heap.size
  ap : Apart [g] W0 w
  hg : g < W0.heap.size
theorem DT.start {w : World} {g : Nat} (h : Cur w g) : DT w g (w.alloc (.cells #[.int .i64 0, .bool false, .int .i64 0, .string ⟨#[]⟩, .slice none 0 0, .slice none 0 0] 27)) :=
  ⟨h.keep (alloc_below _ _ _), ZeroAt.new w, Apart.of_below (alloc_below _ _ _) _, h.lt⟩
theorem DT.go {W0 w w' : World} {g : Nat} (h : DT W0 g w) (hc : Cur w' g) (ha : Apart [g] w w') : DT W0 g w' :=
  ⟨hc, ha.row h.z (by have := h.hg; simp; omega), h.ap.trans ha, h.hg⟩
theorem Apart.above {W0 w w' : World} {L : List Nat} (h : Apart L W0 w) {B : Nat} (hb : Below B w w') (hB : W0.heap.size ≤ B) : Apart L W0 w' :=
  ⟨hb.os.trans h.os, hb.tape.trans h.tape, hb.output.trans h.output, Nat.le_trans h.size hb.size, fun k hk hn => (hb.block k (by omega)).trans (h.block k hk hn)⟩
theorem DT.above {W0 w w' : World} {g : Nat} (h : DT W0 g w) {B : Nat} (hb : Below B w w') (hB : W0.heap.size < B) : DT W0 g w' :=
  ⟨h.cur.same fun k hk _ => hb.block k (by have := h.hg; omega), World.rowIs.of_block h.z (hb.block _ hB), h.ap.above hb (by omega), h.hg⟩
theorem DT.size {W0 w : World} {g : Nat} (h : DT W0 g w) : W0.heap.size < w.heap.size := h.z.lt
theorem DT.keep {W0 w w' : World} {g : Nat} (h : DT W0 g w) (hb : Below w.heap.size w w') : DT W0 g w' := h.above hb h.size
theorem DT.ret {W0 w : World} {g d : Nat} {t : Tr} {vk vs : Value} {fp : List Nat} (h : DT W0 g w) (hd : Drn d t) (ho : TreeOwn w t vk vs fp) (hn : fp.Nodup) (hb : ∀ b, b ∈ fp → W0.heap.size < b) (v0 v1 v2 v3 v4 v5 : Value) :
    TrP g d W0 (.returned (.agg #[.int .i64 t.kind, .bool t.flag, .int .i64 t.num, .string t.text, vk, vs])) (put6w w W0.heap.size v0 v1 v2 v3 v4 v5) := by
  have hw : Below W0.heap.size w (put6w w W0.heap.size v0 v1 v2 v3 v4 v5) := put6w_below (Below.refl _ _) _ (Nat.le_refl _) _ _ _ _ _ _
  exact ⟨t, vk, vs, fp, hd, rfl, TreeOwn.same _ _ _ _ ho fun x hx _ => put6w_heap _ _ _ _ _ _ _ _ _ (by have := hb x hx; omega), hn, fun b hb' => by have := hb b hb'; omega,
    h.cur.same fun k hk _ => put6w_heap _ _ _ _ _ _ _ _ _ (by have := h.hg; omega), h.ap.above hw (Nat.le_refl _)⟩

/-! ### Leaves and lists -/
theorem textOk_no : textOkB noS = true := by decide +kernel
theorem noS_nil : noS.toList = [] := by rw [ByteArray.toList_eq]; rfl
theorem nums_leaf {k : Int} {f : Bool} {n : Int} {s : ByteArray} (h : -9223372036854775808 ≤ n ∧ n ≤ 9223372036854775807) : (Tr.mk k f n s [] []).nums := by
  rw [nums_iff]; exact ⟨(Lit.wf_int_iff .i64 n).2 h, by simp [Tr.kids, numsL]⟩
theorem no_keys (i : Nat) : (strAt [] i).size ≤ 20 := by simp [strAt]
theorem sm_null : Sm (.mk 1 false 0 noS [] []) := ⟨by decide +kernel, nums_leaf (by omega), Nat.zero_le _, no_keys⟩
theorem sm_flag (b : Bool) : Sm (.mk 2 b 0 noS [] []) := ⟨by cases b <;> decide +kernel, nums_leaf (by omega), Nat.zero_le _, no_keys⟩
theorem sm_int (n : Int) (h : -9223372036854775808 ≤ n ∧ n ≤ 9223372036854775807) : Sm (.mk 3 false n noS [] []) := by
  refine ⟨?_, nums_leaf h, Nat.zero_le _, no_keys⟩
  have hk : keysOkB [] = true := rfl
  simp [shapeB, shapeL, headB, betweenB, Tr.kind, Tr.flag, Tr.num, Tr.text, Tr.keys, Tr.kids, textOk_no, noS_nil, hk]
theorem sm_text (s : ByteArray) (h : s.size ≤ 20) (hu : (runesO s).isSome = true) : Sm (.mk 4 false 0 s [] []) := by
  refine ⟨?_, nums_leaf (by omega), h, no_keys⟩
  have hk : keysOkB [] = true := rfl
  have ht : textOkB s = true := by rw [textOkB, decide_eq_true (by omega), hu]; rfl
  simp [shapeB, shapeL, headB, betweenB, Tr.kind, Tr.flag, Tr.num, Tr.text, Tr.keys, Tr.kids, ht, hk]
theorem sm_list {l : List Tr} (h : ∀ i, i < l.length → Sm (kidAt l i)) : Sm (listTr l) := by
  refine ⟨?_, ?_, Nat.zero_le _, no_keys⟩
  · have hk : keysOkB [] = true := rfl
    have hl : shapeL l = true := shapeL_at l fun i hi => (h i hi).shape
    have h0 : textOkB ⟨#[]⟩ = true := textOk_no
    have h1 : (⟨#[]⟩ : ByteArray).toList = [] := noS_nil
    simp [listTr, shapeB, headB, betweenB, Tr.kind, Tr.flag, Tr.num, Tr.text, Tr.keys, Tr.kids, h0, h1, hk, hl]
  · rw [nums_iff]
    exact ⟨show (Lit.int .i64 0).wf = true by decide, numsL_of _ fun i hi => (h i hi).nums⟩
theorem drn_list {d : Nat} {l : List Tr} (hl : l.length ≤ 4) (h : ∀ i, i < l.length → Drn d (kidAt l i)) : Drn (d + 1) (listTr l) := ⟨sm_list fun i hi => (h i hi).sm, hl, h⟩
theorem drn_wt3' {d : Nat} (hd : d ≤ 3) {t : Tr} (h : Drn d t) : t.wt ≤ 4000 ∧ t.nodes ≤ 100 := by
  have h3 : Drn 3 t := by
    match d, hd, h with
    | 0, _, h => exact h.succ.succ.succ
    | 1, _, h => exact h.succ.succ
    | 2, _, h => exact h.succ
    | 3, _, h => exact h
  have := drn_wt 3 t h3
  have e : wtD 3 = 3548 := by decide
  have := (drn_ok h3).2
  omega
theorem pick7 (z : Int) (hz : -9223372036854775808 ≤ z ∧ z ≤ 9223372036854775807) : ∀ i, i < 7 → (-9223372036854775808 ≤ ([0, 1, -1, 42, 9223372036854775807, -9223372036854775808, z] : List Int).getD i 0 ∧ ([0, 1, -1, 42, 9223372036854775807, -9223372036854775808, z] : List Int).getD i 0 ≤ 9223372036854775807)
  | 0, _ | 1, _ | 2, _ | 3, _ | 4, _ | 5, _ => by simp
  | 6, _ => hz
  | i + 7, h => by omega

/-! ### A list that is drawn -/
structure LD (W0 : World) (g base : Nat) (w : World) (v : Value) (l : List Tr) (ff : List Nat) (d k : Nat) : Prop where
  dt : DT W0 g w
  kids : KidsGrow w base 27 v l ff
  len : l.length = k
  all : ∀ i, i < l.length → Drn d (kidAt l i)
  lt : W0.heap.size < base
  le : base ≤ w.heap.size
theorem LD.go {W0 w w' : World} {g base : Nat} {v : Value} {l : List Tr} {ff : List Nat} {d k : Nat} (h : LD W0 g base w v l ff d k) (hc : Cur w' g) (ha : Apart [g] w w') : LD W0 g base w' v l ff d k :=
  ⟨h.dt.go hc ha, h.kids.same fun b hb hl => ha.block b hl (by
    have := h.kids.lt; have := h.lt; have := h.dt.hg
    have hB : base ≤ b := by rcases hb with hb | hb; (· exact (h.kids.lt.1 b hb).1); exact (h.kids.lt.2 b hb).1
    simp; omega), h.len, h.all, h.lt, Nat.le_trans h.le ha.size⟩
theorem LD.start {W0 w : World} {g d : Nat} (h : DT W0 g w) (o : Array Value) (ho : o = #[]) : LD W0 g w.heap.size (w.alloc (.cells o 27)) (.slice (some ⟨w.heap.size, 0, none⟩) 0 0) [] [] d 0 := by
  subst ho
  refine ⟨h.keep (alloc_below _ _ _), ⟨[], ?_, by simp only [KidsRow], List.nodup_nil, fun b hb => by simp at hb⟩, rfl, fun i hi => by simp at hi, h.size, by simp⟩
  have := World.ownsRow_made (base := w.heap.size) (e := 27) (size := 6) w #[] 0 (by simp) (by unfold maxLen; omega) rfl
  simpa using this
theorem kid_snoc {d : Nat} {l : List Tr} {t : Tr} (h : ∀ i, i < l.length → Drn d (kidAt l i)) (ht : Drn d t) : ∀ i, i < (l ++ [t]).length → Drn d (kidAt (l ++ [t]) i) := by
  intro i hi
  rw [List.length_append] at hi
  simp at hi
  rcases Nat.lt_or_ge i l.length with hl | hl
  · have e : kidAt (l ++ [t]) i = kidAt l i := by simp only [kidAt, List.getD_eq_getElem?_getD, List.getElem?_append_left hl]
    rw [e]; exact h i hl
  · obtain rfl : i = l.length := by omega
    have e : kidAt (l ++ [t]) l.length = t := by simp [kidAt]
    rw [e]; exact ht
/-- A drawn tree is appended: a step of the walk. -/
theorem wpList_kidG {ops : Array Oper} {rest : List Oper} {o : Oper} {a : Act} {Q : Exit → Act → World → Prop} (hgd : o.guard = none) (s x : Operand)
    (ho : o.op = .call { callee := .builtin .append, args := #[s, x], argTypes := #[25, 25] }) {W0 w0 w : World} {g base : Nat} {v : Value} {l : List Tr} {ff fp : List Nat} {d k : Nat} (he : LD W0 g base w v l ff d k) (h0 : LD W0 g base w0 v l ff d k) (t : Tr) (hd : Drn d t)
    {a5 a6 : Option Addr} {l5 l6 n5 n6 : Nat} (ht : TreeOwn w t (.slice a5 l5 n5) (.slice a6 l6 n6) fp) (hfn : fp.Nodup) (hfp : ∀ b, b ∈ fp → w0.heap.size ≤ b)
    (hs : a.eval s = v) (hx : a.eval x = .slice (some ⟨w.heap.size, 0, none⟩) 1 1) (hk : k ≤ 1000)
    (hq : ∀ v' ff' w', LD W0 g base w' v' (l ++ [t]) ff' d (k + 1) → wpList Tryd.prog ops Q rest (a.put o.dst v') w') :
    wpList Tryd.prog ops Q (o :: rest) a (w.alloc (.cells #[.int .i64 t.kind, .bool t.flag, .int .i64 t.num, .string t.text, .slice a5 l5 n5, .slice a6 l6 n6] 27)) := by
  obtain ⟨i1, hi, hz0, hz1, hz2⟩ := info_parts Tryd.infoTree
  have hb := alloc_below w #[.int .i64 t.kind, .bool t.flag, .int .i64 t.num, .string t.text, .slice a5 l5 n5, .slice a6 l6 n6] 27
  have hle := he.le
  have hlen := he.len
  have hls := h0.kids.lt
  obtain ⟨xs, hx1, hx2, hx3, hx4⟩ := he.kids.keep hb
  refine wpList_append_spotK hgd s x 25 ho base 27 i1 _ 6 88 Tryd.underlying25 hi hz0 hz1 hz2 rfl (by decide) v l.length xs hs hx1 ⟨w.heap.size, 0, none⟩ 1 1 (six t (.slice a5 l5 n5) (.slice a6 l6 n6)) hx rfl (six_src _ _ _ _ _) six_one (by unfold maxLen; omega) (by omega) (by have := hb.size; omega) ?_
  intro v' w' hown hg hsp
  have hbw : Below base w w' := (hb.mono hle).grown hg (by have := hb.size; omega) (fun q hq' => (hx1.lt q hq').1)
  refine hq v' (ff ++ fp) w' ⟨he.dt.above hbw he.lt, KidsGrow.step hx1 hx2 hx3 hx4 (ht.keep hb) hfn (fun b hb' => ?_) hown hg hsp, by rw [List.length_append, hlen]; rfl, kid_snoc he.all hd, he.lt, Nat.le_trans hle hbw.size⟩
  have := hfp b hb'
  have := h0.le
  exact ⟨by omega, fun e => by have := (hls.1 b e).2; omega, fun e => by have := (hls.2 b e).2; omega⟩

/-! ### A map that is drawn -/
structure MD (W0 : World) (g B : Nat) (w : World) (m : Tr) (vk vs : Value) (fp : List Nat) (d k : Nat) : Prop where
  dt : DT W0 g w
  sp : Spill w B m vk vs
  own : TreeOwn w m vk vs fp
  nd : fp.Nodup
  ge : ∀ b, b ∈ fp → B < b
  lt : W0.heap.size < B
  md : MapD d k m
theorem MD.go {W0 w w' : World} {g B : Nat} {m : Tr} {vk vs : Value} {fp : List Nat} {d k : Nat} (h : MD W0 g B w m vk vs fp d k) (hc : Cur w' g) (ha : Apart [g] w w') : MD W0 g B w' m vk vs fp d k := by
  have h1 := h.dt.hg
  have h2 := h.lt
  exact ⟨h.dt.go hc ha, h.sp.of_block (ha.block _ h.sp.lt (by simp; omega)), TreeOwn.same _ _ _ _ h.own fun b hb hl => ha.block b hl (by have := h.ge b hb; simp; omega), h.nd, h.ge, h.lt, h.md⟩
theorem MD.keep {W0 w w' : World} {g B : Nat} {m : Tr} {vk vs : Value} {fp : List Nat} {d k : Nat} (h : MD W0 g B w m vk vs fp d k) (hb : Below w.heap.size w w') : MD W0 g B w' m vk vs fp d k :=
  h.go (h.dt.cur.keep hb) (Apart.of_below hb _)
theorem MD.start {W0 w : World} {g d : Nat} (h : DT W0 g w) : MD W0 g w.heap.size (w.alloc (.cells #[.int .i64 6, .bool false, .int .i64 0, .string noS, .slice none 0 0, .slice none 0 0] 27)) emptyMap (.slice none 0 0) (.slice none 0 0) [] d 0 :=
  ⟨h.keep (alloc_below _ _ _), Spill.new w emptyMap _ _ _, leaf_own _ _ _ _ _, List.nodup_nil, fun b hb => by simp at hb, h.size, mapD_start d⟩
theorem Spill.put6 {w : World} {b : Nat} {t u : Tr} {vk vs uk us : Value} (h : Spill w b t vk vs) : Spill (put6w w b (.int .i64 u.kind) (.bool u.flag) (.int .i64 u.num) (.string u.text) uk us) b u uk us := by
  obtain ⟨e, F, hr, -⟩ := h
  exact ⟨e, _, (((((hr.set 0 _).set 1 _).set 2 _).set 3 _).set 4 _).set 5 _, rfl, rfl, rfl, rfl, rfl, rfl⟩
theorem MD.next {W0 w w' : World} {g B : Nat} {m kid : Tr} {key : ByteArray} {vk vs uk us : Value} {fp fu : List Nat} {d k : Nat} (h : MD W0 g B w m vk vs fp d k) (hb : Below w.heap.size w w') (hkid : Drn d kid) (hkey : key.size ≤ 20)
    (ho : TreeOwn w' (putR m key kid) uk us fu) (hn : fu.Nodup) (hge : ∀ b, b ∈ fu → w.heap.size ≤ b) :
    MD W0 g B (put6w w' B (.int .i64 (putR m key kid).kind) (.bool (putR m key kid).flag) (.int .i64 (putR m key kid).num) (.string (putR m key kid).text) uk us) (putR m key kid) uk us fu d (k + 1) := by
  have hB := h.sp.lt
  have hp : Below B w' (put6w w' B (.int .i64 (putR m key kid).kind) (.bool (putR m key kid).flag) (.int .i64 (putR m key kid).num) (.string (putR m key kid).text) uk us) := put6w_below (Below.refl _ _) _ (Nat.le_refl _) _ _ _ _ _ _
  exact ⟨(h.dt.keep hb).above hp h.lt, (h.sp.keep hb).put6, TreeOwn.same _ _ _ _ ho fun x hx _ => put6w_heap _ _ _ _ _ _ _ _ _ (by have := hge x hx; omega), hn, fun b hb' => by have := hge b hb'; omega, h.lt, mapD_put h.md hkid hkey⟩

end Go.Proofs.YtkifacpanipfhaaDoor
namespace Go.Proofs.YtkifacpanipfhaaDoor
open Go.RowKit

mutual
theorem shape_wt (a c : Nat) (hac : a = 802 ∧ c = 402) : ∀ t : Tr, shapeB t = true → t.wt + c ≤ a * t.nodes
  | .mk k f n s keys kids, h => by
    obtain ⟨h1, h2, h3⟩ := shape_parts h
    obtain ⟨-, -, a3, -, -, -⟩ := head_kind h1
    have hk := keys_le h1
    simp only [Tr.text, Tr.keys, Tr.kids] at a3 h2 h3 hk
    have hs : s.size ≤ 400 := by simp only [textOkB, Bool.and_eq_true, decide_eq_true_eq] at a3; exact a3.1
    have hL := shapeL_wt a c hac kids h3
    have hkw := strWt_le (B := 400) (fun i => key_size h2 i) (Nat.le_refl keys.length)
    have hck : c * kids.length = 402 * kids.length := by rw [hac.2]
    obtain ⟨ea, ec⟩ := hac
    simp only [Tr.wt, Tr.nodes]
    rw [Nat.mul_add]
    omega
theorem shapeL_wt (a c : Nat) (hac : a = 802 ∧ c = 402) : ∀ l : List Tr, shapeL l = true → wtL l + c * l.length ≤ a * nodesL l
  | [], _ => by simp [wtL]
  | t :: ts, h => by
    rw [shapeL, Bool.and_eq_true] at h
    have e1 := shape_wt a c hac t h.1
    have e2 := shapeL_wt a c hac ts h.2
    simp only [wtL, nodesL, List.length_cons]
    rw [Nat.mul_add a, Nat.mul_succ c]
    omega
end
theorem putR_wt {t kid : Tr} {key : ByteArray} (hw : t.wt ≤ 1048576) : (putR t key kid).wt ≤ 1048576 := by
  cases h : putOk t key kid
  · rw [put_no h]; exact hw
  · rw [put_yes h]
    simp only [putOk, Bool.and_eq_true, treeOkB, decide_eq_true_eq] at h
    have a := shape_wt 802 402 ⟨rfl, rfl⟩ _ h.2.2.2.2
    have b := h.2.2.2.1
    omega
end Go.Proofs.YtkifacpanipfhaaDoor
namespace Go.Proofs.YtkifacpanipfhaaDoor
open Go.RowKit

theorem zk {w w' : World} (hb : Below (w.alloc (.cells #[.int .i64 0, .bool false, .int .i64 0, .string ⟨#[]⟩, .slice none 0 0, .slice none 0 0] 27)).heap.size (w.alloc (.cells #[.int .i64 0, .bool false, .int .i64 0, .string ⟨#[]⟩, .slice none 0 0, .slice none 0 0] 27)) w') : Hid (ZeroAt w' w.heap.size) := Lib.hid ((ZeroAt.new w).keep hb)
theorem zkd {w w' : World} (hb : Below (w.alloc (.cells #[.int .i64 0, .bool false, .int .i64 0, .string ⟨#[]⟩, .slice none 0 0, .slice none 0 0] 27)).drew.heap.size (w.alloc (.cells #[.int .i64 0, .bool false, .int .i64 0, .string ⟨#[]⟩, .slice none 0 0, .slice none 0 0] 27)).drew w') : Hid (ZeroAt w' w.heap.size) := Lib.hid ((ZeroAt.new w).keep ((Below.refl _ _).drew.trans hb))
theorem cells12 {w : World} {b c : Nat} {t u : Tr} {vk vs uk us : Value} (h : Spill w b t vk vs) (k : Spill w c u uk us) :
    (w.cell? ⟨b, 0, none⟩ = some (.int .i64 t.kind) ∧ w.cell? ⟨b, 1, none⟩ = some (.bool t.flag) ∧ w.cell? ⟨b, 2, none⟩ = some (.int .i64 t.num) ∧ w.cell? ⟨b, 3, none⟩ = some (.string t.text) ∧ w.cell? ⟨b, 4, none⟩ = some vk ∧ w.cell? ⟨b, 5, none⟩ = some vs) ∧
    (w.cell? ⟨c, 0, none⟩ = some (.int .i64 u.kind) ∧ w.cell? ⟨c, 1, none⟩ = some (.bool u.flag) ∧ w.cell? ⟨c, 2, none⟩ = some (.int .i64 u.num) ∧ w.cell? ⟨c, 3, none⟩ = some (.string u.text) ∧ w.cell? ⟨c, 4, none⟩ = some uk ∧ w.cell? ⟨c, 5, none⟩ = some us) := ⟨h.cells, k.cells⟩
theorem spill_put6 {w : World} {b c : Nat} {t : Tr} {vk vs : Value} (h : Spill w b t vk vs) (hc : b ≠ c) {v0 v1 v2 v3 v4 v5 : Value} :
    Spill ((((((w.setCell ⟨c, 0, none⟩ v0).setCell ⟨c, 1, none⟩ v1).setCell ⟨c, 2, none⟩ v2).setCell ⟨c, 3, none⟩ v3).setCell ⟨c, 4, none⟩ v4).setCell ⟨c, 5, none⟩ v5) b t vk vs :=
  h.of_block (put6w_heap w c v0 v1 v2 v3 v4 v5 b hc)
theorem put6_size (w : World) (b : Nat) (v0 v1 v2 v3 v4 v5 : Value) : (put6w w b v0 v1 v2 v3 v4 v5).heap.size = w.heap.size := by simp [put6w, World.setCell]
theorem put6_apart (w : World) (b : Nat) (v0 v1 v2 v3 v4 v5 : Value) : Apart [b] w (put6w w b v0 v1 v2 v3 v4 v5) :=
  ((((((Apart.refl [b] w).setCell (p := ⟨b, 0, none⟩) (by simp) v0).setCell (p := ⟨b, 1, none⟩) (by simp) v1).setCell (p := ⟨b, 2, none⟩) (by simp) v2).setCell (p := ⟨b, 3, none⟩) (by simp) v3).setCell (p := ⟨b, 4, none⟩) (by simp) v4).setCell (p := ⟨b, 5, none⟩) (by simp) v5
theorem GTree.put {w : World} {B b : Nat} {t : Tr} {vk vs : Value} {fp : List Nat} (hz : ZeroAt w b) (ho : TreeOwn w t vk vs fp) (hn : fp.Nodup) (hge : ∀ x, x ∈ fp → B ≤ x ∧ x ≠ b) (hb : B ≤ b) :
    GTree (put6w w b (.int .i64 t.kind) (.bool t.flag) (.int .i64 t.num) (.string t.text) vk vs) B (put6w w b (.int .i64 t.kind) (.bool t.flag) (.int .i64 t.num) (.string t.text) vk vs).heap.size b t t vk vs fp := by
  have hs : Spill w b noTree (.slice none 0 0) (.slice none 0 0) := ⟨_, _, hz, rfl, rfl, rfl, rfl, rfl, rfl⟩
  rw [put6_size]
  exact ⟨hs.put6, TreeOwn.same _ _ _ _ ho fun x hx _ => put6w_heap _ _ _ _ _ _ _ _ _ (hge x hx).2, hn, ⟨hb, hz.lt⟩, fun x hx => ⟨(hge x hx).1, TreeOwn.lt _ _ _ _ ho x hx, (hge x hx).2⟩⟩
theorem mark2 (t : Tr) (n : Nat) (vk vs : Value) (fp : List Nat) (w : World) (kk m : Int) (hk : kk = 1 + (n : Int)) (hm : m = ((1 + n : Nat) : Int) + (t.cnt : Int)) {u : Tr} (hwu : u.wt ≤ 1048576) (hw : t.wt ≤ 1048576) (hn : n = u.cnt) (hnd : fp.Nodup) (ho : TreeOwn w t vk vs fp) :
    Calls Tryd.prog 30 #[.agg #[.int .i64 t.kind, .bool t.flag, .int .i64 t.num, .string t.text, vk, vs], .int .i64 kk] w fun e w' => e = .returned (.int .i64 m) ∧ TreeOwn w' (markTr (1 + n) t) vk vs fp ∧ Apart fp w w' := by
  have := markTree_own t vk vs fp (1 + n) w (by have := cnt_wt t; have := cnt_wt u; omega) hnd ho
  rw [hm, hk, show (1 : Int) + (n : Int) = ((1 + n : Nat) : Int) by omega]; exact this

set_option maxRecDepth 100000 in
set_option maxHeartbeats 16000000 in
theorem lawPutKid {H : Type} {enc : TypeId × Value → H} {W : World} {base base2 : Nat} {v v2 : Value} {d d2 : DataW H} {p p2 : List MemPlace} (hval : Value.okWide Tryd.prog W .any base 43 v)
    (h : DataW.Trod enc Tryd.prog W 0 (fun _ => true) true 43 v d p) (key : ByteArray) (_hkm : key.size ≤ maxLen) (hval2 : Value.okWide Tryd.prog W .any base2 43 v2)
    (h2 : DataW.Trod enc Tryd.prog W 0 (fun _ => true) true 43 v2 d2 p2) (ha : Lib.VarReads Tryd.prog W "unicode/utf8.acceptRanges" Rows.laid_unicode_utf8_acceptRanges) (hf : Lib.VarReads Tryd.prog W "unicode/utf8.first" Rows.laid_unicode_utf8_first) :
    Calls Tryd.prog 5 #[v, .string key, v2] W fun e w' => e = .returned (.bool true) ∧ Below W.heap.size W w' := by
  obtain ⟨t, vk, vs, rfl, ht, hfit⟩ := openTree hval h
  obtain ⟨kid, uk, us, rfl, hu, hfitu⟩ := openTree hval2 h2
  have hT := tabs_of ha hf
  clear h hval h2 hval2 ha hf
  obtain ⟨hk, hs⟩ := treeIn_iff.1 ht
  obtain ⟨aK, mK, rfl⟩ := hk.len
  obtain ⟨aS, mS, rfl⟩ := hs.len
  obtain ⟨hk', hs'⟩ := treeIn_iff.1 hu
  obtain ⟨aU, mU, rfl⟩ := hk'.len
  obtain ⟨aV, mV, rfl⟩ := hs'.len
  clear hk hs hk' hs'
  have hb0 : Below W.heap.size W ((W.alloc (.cells #[.int .i64 t.kind, .bool t.flag, .int .i64 t.num, .string t.text, .slice aK t.keys.length mK, .slice aS t.kids.length mS] 43)).alloc (.cells #[.int .i64 kid.kind, .bool kid.flag, .int .i64 kid.num, .string kid.text, .slice aU kid.keys.length mU, .slice aV kid.kids.length mV] 43)) := by repeat (first | exact Below.refl _ _ | (refine Below.alloc ?_ (by first | omega | (simp; done) | (simp; omega)) _) | (refine Below.setCell ?_ (by first | omega | (simp; done) | (simp; omega)) _) | (refine Below.drew ?_) | (refine below_drewN ?_ _))
  have hal1 := alloc_below (W.alloc (.cells #[.int .i64 t.kind, .bool t.flag, .int .i64 t.num, .string t.text, .slice aK t.keys.length mK, .slice aS t.kids.length mS] 43)) #[.int .i64 kid.kind, .bool kid.flag, .int .i64 kid.num, .string kid.text, .slice aU kid.keys.length mU, .slice aV kid.kids.length mV] 43
  have Hp := Lib.hid ((Spill.new W t (.slice aK t.keys.length mK) (.slice aS t.kids.length mS) 43).keep hal1)
  have hsc := Spill.new (W.alloc (.cells #[.int .i64 t.kind, .bool t.flag, .int .i64 t.num, .string t.text, .slice aK t.keys.length mK, .slice aS t.kids.length mS] 43)) kid (.slice aU kid.keys.length mU) (.slice aV kid.kids.length mV) 43
  simp only [World.size_alloc] at hsc
  have Hc := Lib.hid hsc
  have hz0 : ((W.alloc (.cells #[.int .i64 t.kind, .bool t.flag, .int .i64 t.num, .string t.text, .slice aK t.keys.length mK, .slice aS t.kids.length mS] 43)).alloc (.cells #[.int .i64 kid.kind, .bool kid.flag, .int .i64 kid.num, .string kid.text, .slice aU kid.keys.length mU, .slice aV kid.kids.length mV] 43)).heap.size = W.heap.size + 1 + 1 := by simp only [World.size_alloc]
  have HB := Lib.hid hb0
  have HT := Lib.hid ht
  have HU := Lib.hid hu
  have HTB := Lib.hid hT
  have HZ0 := Lib.hid hz0
  clear hb0 hal1 hsc ht hu hT hz0
  by_cases hkl : (1048576 : Int) < (key.size : Nat)
  · go_enter Tryd.func5, Tryd.ntmps5
    go_wp2
    go_ret
    exact ⟨rfl, HB.out⟩
  by_cases hs1 : (1048576 : Int) < (t.wt : Nat)
  · have hy := lessZ_neg hs1
    obtain ⟨p0, p1, p2, p3, p4, p5⟩ := Hp.out.cells
    go_enter Tryd.func5, Tryd.ntmps5
    go_wp2_with fail
    refine (szTree_any t _ _ _ _ _ hfit (HT.out.keep HB.out) (by omega) (by omega)).mono ?_; rintro e w1 ⟨rfl, hb1⟩
    go_wp2
    go_ret
    exact ⟨rfl, bnext HB.out hb1⟩
  have hy := lessZ_pos hs1
  by_cases hs2 : (1048576 - (t.wt : Nat) : Int) < (kid.wt : Nat)
  · have hy2 := lessZ_neg hs2
    obtain ⟨p0, p1, p2, p3, p4, p5⟩ := Hp.out.cells
    go_enter Tryd.func5, Tryd.ntmps5
    go_wp2_with fail
    refine (szTree_any t _ _ _ _ _ hfit (HT.out.keep HB.out) (by omega) (by omega)).mono ?_; rintro e w1 ⟨rfl, hb1⟩
    rw [hy]
    have HB1 := Lib.hid (bnext HB.out hb1)
    obtain ⟨c0, c1, c2, c3, c4, c5⟩ := (Hc.out.keep hb1).cells
    have hge : (0 : Int) ≤ 1048576 - (t.wt : Nat) := by omega
    clear hb1
    go_wp2_with fail
    refine (szTree_any kid _ _ _ _ _ hfitu (HU.out.keep HB1.out) (by omega) (by omega)).mono ?_; rintro e w2 ⟨rfl, hb2⟩
    go_wp2
    go_ret
    exact ⟨rfl, bnext HB1.out hb2⟩
  have hy2 := lessZ_pos hs2
  have HW := Lib.hid (show t.wt ≤ 1048576 by omega)
  have HWU := Lib.hid (show kid.wt ≤ 1048576 by omega)
  have HNN := Lib.hid (show t.nodes + kid.nodes ≤ 1999990 by have := nodes_wt t; have := nodes_wt kid; omega)
  have HWT := Lib.hid (show (putR t key kid).wt ≤ 1048576 from putR_wt (by omega))
  have HPS := Lib.hid (fun (w : World) (S S' : Nat → Prop) (vk vs wk ws : Value) (ht : TreeIn w S t vk vs) (ht' : TreeIn w S' kid wk ws) => sPutKid t kid S S' key vk vs wk ws w HW.out HWU.out HNN.out ht ht')
  have HPI := Lib.hid (fun (w : World) (S S' : Nat → Prop) (vk vs wk ws : Value) (ht : TreeIn w S t vk vs) (ht' : TreeIn w S' kid wk ws) (hT : Tabs w) => iPutKid t kid S S' key vk vs wk ws w HW.out HWU.out HNN.out ht ht' hT)
  have H1T := Lib.hid (fun (w0 : World) (h : TreeIn w0 Any t (.slice aK t.keys.length mK) (.slice aS t.kids.length mS)) => toTree_any t Any _ _ w0 HW.out h)
  have H1K := Lib.hid (fun (w0 : World) (h : TreeIn w0 Any kid (.slice aU kid.keys.length mU) (.slice aV kid.kids.length mV)) => toTree_any kid Any _ _ w0 HWU.out h)
  obtain ⟨kk, hkk⟩ : ∃ m : Int, m = 1 + (t.cnt : Int) := ⟨_, rfl⟩
  have hk1 := mark_pos hkk
  have HKK := Lib.hid hkk; clear hkk
  obtain ⟨k2, hk2⟩ : ∃ m : Int, m = ((1 + t.cnt : Nat) : Int) + (kid.cnt : Int) := ⟨_, rfl⟩
  have hk21 : 1 ≤ k2 := by omega
  have HK2 := Lib.hid hk2; clear hk2
  obtain ⟨mm, hmm⟩ : ∃ m : Int, m = 1 + ((putR t key kid).cnt : Int) := ⟨_, rfl⟩
  have hm1 := mark_pos hmm
  have HMM := Lib.hid hmm; clear hmm
  obtain ⟨ok, hokd⟩ : ∃ b, b = putOk t key kid := ⟨_, rfl⟩
  rw [← hokd] at HPS HPI
  clear hokd
  have hge : (0 : Int) ≤ 1048576 - (t.wt : Nat) := by omega
  have hge2 : (0 : Int) ≤ 1048576 - (t.wt : Nat) - (kid.wt : Nat) := by omega
  go_enter Tryd.func5, Tryd.ntmps5
  obtain ⟨c1_0, c1_1, c1_2, c1_3, c1_4, c1_5⟩ := (Hp.out).cells
  go_wp2_with fail
  clear c1_0 c1_1 c1_2 c1_3 c1_4 c1_5
  refine (szTree_any t _ _ _ _ _ hfit (HT.out.keep HB.out) (by omega) (by omega)).mono ?_
  rintro e w1 ⟨rfl, hb1⟩
  rw [hy]
  have HB := Lib.hid (bnext HB.out (hb1))
  have Hp := Lib.hid (Hp.out.keep (hb1))
  have Hc := Lib.hid (Hc.out.keep (hb1))
  have hz1 := hb1.size; rw [HZ0.out] at hz1; clear hb1
  obtain ⟨c2_0, c2_1, c2_2, c2_3, c2_4, c2_5⟩ := (Hc.out).cells
  go_wp2_with fail
  clear c2_0 c2_1 c2_2 c2_3 c2_4 c2_5
  refine (szTree_any kid _ _ _ _ _ hfitu (HU.out.keep HB.out) (by omega) (by omega)).mono ?_
  rintro e w2 ⟨rfl, hb2⟩
  rw [hy2]
  have HB := Lib.hid (bnext HB.out (hb2))
  have Hp := Lib.hid (Hp.out.keep (hb2))
  have Hc := Lib.hid (Hc.out.keep (hb2))
  have hz2 := hb2.size; clear hb2
  clear hy hy2 hs1 hs2 hfit hfitu
  go_upto_region 10 with fail
  go_cut [8, 9] (fun sp sb wx => ∃ (br : Nat) (ar av : Option Addr) (nr nv : Nat) (fr : List Nat), sp = .pointer (some ⟨br, 0, none⟩) ∧ sb = .bool ok ∧ Hid (GTree wx w2.heap.size wx.heap.size br (putR t key kid) (putR t key kid) (.slice ar (putR t key kid).keys.length nr) (.slice av (putR t key kid).kids.length nv) fr) ∧ Hid (Below w2.heap.size w2 wx))
  case first =>
    have HBL := Lib.hid (Below.refl w2.heap.size w2)
    obtain ⟨p0, p1, p2, p3, p4, p5⟩ := (Hp.out.keep HBL.out.drew).cells; obtain ⟨c0, c1, c2, c3, c4, c5⟩ := (Hc.out.keep HBL.out.drew).cells; have hlp := (Hp.out.keep HBL.out.drew).lt; have hlc := (Hc.out.keep HBL.out.drew).lt; (try (change W.heap.size < _ at hlp))
    obtain ⟨p0, p1, p2, p3, p4, p5⟩ := (Hp.out.keep HBL.out).cells; obtain ⟨c0, c1, c2, c3, c4, c5⟩ := (Hc.out.keep HBL.out).cells; have hlp := (Hp.out.keep HBL.out).lt; have hlc := (Hc.out.keep HBL.out).lt; (try (change W.heap.size < _ at hlp))
    go_region_held3 (fun w' => (w'.cell? ⟨W.heap.size, 0, none⟩ = some (.int .i64 t.kind) ∧ w'.cell? ⟨W.heap.size, 1, none⟩ = some (.bool t.flag) ∧ w'.cell? ⟨W.heap.size, 2, none⟩ = some (.int .i64 t.num) ∧ w'.cell? ⟨W.heap.size, 3, none⟩ = some (.string t.text) ∧ w'.cell? ⟨W.heap.size, 4, none⟩ = some (.slice aK t.keys.length mK) ∧ w'.cell? ⟨W.heap.size, 5, none⟩ = some (.slice aS t.kids.length mS)) ∧ (w'.cell? ⟨W.heap.size + 1, 0, none⟩ = some (.int .i64 kid.kind) ∧ w'.cell? ⟨W.heap.size + 1, 1, none⟩ = some (.bool kid.flag) ∧ w'.cell? ⟨W.heap.size + 1, 2, none⟩ = some (.int .i64 kid.num) ∧ w'.cell? ⟨W.heap.size + 1, 3, none⟩ = some (.string kid.text) ∧ w'.cell? ⟨W.heap.size + 1, 4, none⟩ = some (.slice aU kid.keys.length mU) ∧ w'.cell? ⟨W.heap.size + 1, 5, none⟩ = some (.slice aV kid.kids.length mV))) ((first | (with_reducible refine cells12 (spill_put6 (Hp.out.keep HBL.out) ?_) (spill_put6 (Hc.out.keep HBL.out) ?_); omega; omega) | (with_reducible exact cells12 (Hp.out.keep HBL.out) (Hc.out.keep HBL.out)) | (with_reducible exact cells12 (Hp.out.keep HBL.out.drew) (Hc.out.keep HBL.out.drew)) | (with_reducible exact cells12 (Hp.out.keep (bnext HBL.out (alloc_below _ _ _))) (Hc.out.keep (bnext HBL.out (alloc_below _ _ _)))) | (with_reducible exact cells12 (Hp.out.keep (bnext HBL.out (alloc_below _ _ _)).drew) (Hc.out.keep (bnext HBL.out (alloc_below _ _ _)).drew)) | (with_reducible exact cells12 (Hp.out.keep (bnext HBL.out.drew (alloc_below _ _ _))) (Hc.out.keep (bnext HBL.out.drew (alloc_below _ _ _)))) | (with_reducible exact cells12 (Hp.out.keep (bnext HBL.out (alloc_below _ _ _).drew)) (Hc.out.keep (bnext HBL.out (alloc_below _ _ _).drew))))) (first
      | (go_at_call 28; ((with_reducible refine (H1T.out _ ?_).mono ?_); exact HT.out.keep (bnext HB.out (bnext HBL.out (by repeat (first | exact Below.refl _ _ | (refine Below.alloc ?_ (by first | omega | (simp; done) | (simp; omega)) _) | (refine Below.setCell ?_ (by first | omega | (simp; done) | (simp; omega)) _) | (refine Below.drew ?_) | (refine below_drewN ?_ _))))); rintro e wa ⟨⟨vka, vsa, fa, rfl, hoa, hna, hga⟩, hba⟩; obtain ⟨aa, na, ab, nb, rfl, rfl⟩ := hoa.shape; have hIa := TreeOwn.toIn (S := Any) _ _ _ _ hoa (fun _ _ => trivial); clear hoa hna hga; have HBL := Lib.hid (show Below w2.heap.size w2 wa from bnext HBL.out (show Below w2.heap.size w2 wa from bnext (by repeat (first | exact Below.refl _ _ | (refine Below.alloc ?_ (by first | omega | (simp; done) | (simp; omega)) _) | (refine Below.setCell ?_ (by first | omega | (simp; done) | (simp; omega)) _) | (refine Below.drew ?_) | (refine below_drewN ?_ _))) hba)); have hza2 : w2.heap.size ≤ wa.heap.size := HBL.out.size; (first | (have HZL : Hid (ZeroAt wa w2.heap.size) := by with_reducible exact zk hba) | (have HZL : Hid (ZeroAt wa w2.heap.size) := by with_reducible exact zkd hba) | (have HZL : Hid (ZeroAt wa w2.heap.size) := (show Hid (ZeroAt wa w2.drew.heap.size) by with_reducible exact zk hba)) | skip); (try have hzlL := HZL.out.lt); clear hba; obtain ⟨p0, p1, p2, p3, p4, p5⟩ := (Hp.out.keep HBL.out).cells; obtain ⟨c0, c1, c2, c3, c4, c5⟩ := (Hc.out.keep HBL.out).cells; have hlp := (Hp.out.keep HBL.out).lt; have hlc := (Hc.out.keep HBL.out).lt; (try (change W.heap.size < _ at hlp))))
      | (go_at_call 28; ((with_reducible refine (H1K.out _ ?_).mono ?_); exact HU.out.keep (bnext HB.out (bnext HBL.out (by repeat (first | exact Below.refl _ _ | (refine Below.alloc ?_ (by first | omega | (simp; done) | (simp; omega)) _) | (refine Below.setCell ?_ (by first | omega | (simp; done) | (simp; omega)) _) | (refine Below.drew ?_) | (refine below_drewN ?_ _))))); rintro e wb ⟨⟨vkb, vsb, fb, rfl, hob, hnb, hgb⟩, hbb⟩; obtain ⟨ba, ma, bb, mb, rfl, rfl⟩ := hob.shape; have hIb := TreeOwn.toIn (S := Any) _ _ _ _ hob (fun _ _ => trivial); have hIa := hIa.keep (show Below wa.heap.size wa wb from bnext (by repeat (first | exact Below.refl _ _ | (refine Below.alloc ?_ (by first | omega | (simp; done) | (simp; omega)) _) | (refine Below.setCell ?_ (by first | omega | (simp; done) | (simp; omega)) _) | (refine Below.drew ?_) | (refine below_drewN ?_ _))) hbb); clear hob hnb hgb; have hzb2 : wa.heap.size ≤ wb.heap.size := (show Below wa.heap.size wa wb from bnext (by repeat (first | exact Below.refl _ _ | (refine Below.alloc ?_ (by first | omega | (simp; done) | (simp; omega)) _) | (refine Below.setCell ?_ (by first | omega | (simp; done) | (simp; omega)) _) | (refine Below.drew ?_) | (refine below_drewN ?_ _))) hbb).size; have HBL := Lib.hid (show Below w2.heap.size w2 wb from bnext HBL.out (show Below wa.heap.size wa wb from bnext (by repeat (first | exact Below.refl _ _ | (refine Below.alloc ?_ (by first | omega | (simp; done) | (simp; omega)) _) | (refine Below.setCell ?_ (by first | omega | (simp; done) | (simp; omega)) _) | (refine Below.drew ?_) | (refine below_drewN ?_ _))) hbb)); (first | (have HZL := Lib.hid (HZL.out.keep (show Below wa.heap.size wa wb from bnext (by repeat (first | exact Below.refl _ _ | (refine Below.alloc ?_ (by first | omega | (simp; done) | (simp; omega)) _) | (refine Below.setCell ?_ (by first | omega | (simp; done) | (simp; omega)) _) | (refine Below.drew ?_) | (refine below_drewN ?_ _))) hbb))) | (have HZL : Hid (ZeroAt wb wa.heap.size) := by with_reducible exact zk hbb) | (have HZL : Hid (ZeroAt wb wa.heap.size) := by with_reducible exact zkd hbb) | (have HZL : Hid (ZeroAt wb wa.heap.size) := (show Hid (ZeroAt wb wa.drew.heap.size) by with_reducible exact zk hbb)) | skip); (try have hzlM := HZL.out.lt); clear hbb; obtain ⟨p0, p1, p2, p3, p4, p5⟩ := (Hp.out.keep HBL.out).cells; obtain ⟨c0, c1, c2, c3, c4, c5⟩ := (Hc.out.keep HBL.out).cells; have hlp := (Hp.out.keep HBL.out).lt; have hlc := (Hc.out.keep HBL.out).lt; (try (change W.heap.size < _ at hlp))))
      | (go_at_call 27; (refine (HPS.out _ Any Any _ _ _ _ (hIa.keep (by repeat (first | exact Below.refl _ _ | (refine Below.alloc ?_ (by first | omega | (simp; done) | (simp; omega)) _) | (refine Below.setCell ?_ (by first | omega | (simp; done) | (simp; omega)) _) | (refine Below.drew ?_) | (refine below_drewN ?_ _)))) (hIb.keep (by repeat (first | exact Below.refl _ _ | (refine Below.alloc ?_ (by first | omega | (simp; done) | (simp; omega)) _) | (refine Below.setCell ?_ (by first | omega | (simp; done) | (simp; omega)) _) | (refine Below.drew ?_) | (refine below_drewN ?_ _))))).mono ?_; rintro e wr ⟨⟨vkr, vsr, fr, rfl, hor, hnr, hgr⟩, hbr⟩; obtain ⟨ar, nr, av, nv, rfl, rfl⟩ := hor.shape; have HBL := Lib.hid (show Below w2.heap.size w2 wr from bnext HBL.out (show Below wb.heap.size wb wr from bnext (by repeat (first | exact Below.refl _ _ | (refine Below.alloc ?_ (by first | omega | (simp; done) | (simp; omega)) _) | (refine Below.setCell ?_ (by first | omega | (simp; done) | (simp; omega)) _) | (refine Below.drew ?_) | (refine below_drewN ?_ _))) hbr)); (first | (have HZL := Lib.hid (HZL.out.keep (show Below wb.heap.size wb wr from bnext (by repeat (first | exact Below.refl _ _ | (refine Below.alloc ?_ (by first | omega | (simp; done) | (simp; omega)) _) | (refine Below.setCell ?_ (by first | omega | (simp; done) | (simp; omega)) _) | (refine Below.drew ?_) | (refine below_drewN ?_ _))) hbr))) | (have HZL : Hid (ZeroAt wr wb.heap.size) := by with_reducible exact zk hbr) | (have HZL : Hid (ZeroAt wr wb.heap.size) := by with_reducible exact zkd hbr) | (have HZL : Hid (ZeroAt wr wb.heap.size) := (show Hid (ZeroAt wr wb.drew.heap.size) by with_reducible exact zk hbr)) | skip); have hzr2 : wb.heap.size ≤ wr.heap.size := (show Below wb.heap.size wb wr from bnext (by repeat (first | exact Below.refl _ _ | (refine Below.alloc ?_ (by first | omega | (simp; done) | (simp; omega)) _) | (refine Below.setCell ?_ (by first | omega | (simp; done) | (simp; omega)) _) | (refine Below.drew ?_) | (refine below_drewN ?_ _))) hbr).size; have HOR := Lib.hid (And.intro hor (And.intro hnr hgr)); clear hor hnr hgr hbr; (try obtain ⟨r0, r1, r2, r3, r4, r5⟩ := HZL.out.cells); (try obtain ⟨g0, g1, g2, g3, g4, g5⟩ := HZL.out.frozen))))
    all_goals (first | (have HZQ := HZL; have hlz := HBL.out.size; have hlz2 := HOR.out.2.2; (try simp at hlz2); go_wp2_with fail; go_meet; exact ⟨_, _, _, _, _, _, rfl, rfl, Lib.hid (GTree.put HZL.out HOR.out.1 HOR.out.2.1 (fun x hx => by have := hlz2 x hx; exact ⟨by omega, by omega⟩) (by omega)), Lib.hid (put6w_below HBL.out _ (by omega) _ _ _ _ _ _)⟩) | (have HRR := Lib.hid (alloc_below wr #[.int .i64 (putR t key kid).kind, .bool (putR t key kid).flag, .int .i64 (putR t key kid).num, .string (putR t key kid).text, .slice ar (putR t key kid).keys.length nr, .slice av (putR t key kid).kids.length nv] 27); have hlz := HBL.out.size; have hlz2 := HOR.out.2.2; (try simp at hlz2); have HGR := Lib.hid (GTree.new HOR.out.1 HOR.out.2.1 (B := w2.heap.size) (fun x hx => by have := hlz2 x hx; omega) (by omega) 27); go_wp2_with fail; go_meet; exact ⟨_, _, _, _, _, _, rfl, rfl, (by simpa using HGR), Lib.hid (bnext HBL.out HRR.out)⟩))
  case rest =>
    obtain ⟨wx_w, rfl⟩ : ∃ x : World, x = wc := ⟨wc, rfl⟩
    obtain ⟨bw, arw, avw, nrw, nvw, frw, rfl, rfl, Hw, hall⟩ := hcut
    have HB := Lib.hid (bnext HB.out (hall.out))
    have Hp := Lib.hid (Hp.out.keep (hall.out))
    have Hc := Lib.hid (Hc.out.keep (hall.out))
    have hzw := hall.out.size; clear hall
    obtain ⟨c3_0, c3_1, c3_2, c3_3, c3_4, c3_5⟩ := (Hp.out).cells
    go_wp2_with fail
    clear c3_0 c3_1 c3_2 c3_3 c3_4 c3_5
    refine (toTree_any t Any _ _ _ HW.out (HT.out.keep HB.out)).mono ?_
    rintro e w4 ⟨⟨vk4, vs4, f4, rfl, ho4, hn4, hg4⟩, hb4⟩
    obtain ⟨a4, n4, b4, m4, rfl, rfl⟩ := ho4.shape
    have HB := Lib.hid (bnext HB.out (hb4))
    have Hp := Lib.hid (Hp.out.keep (hb4))
    have Hc := Lib.hid (Hc.out.keep (hb4))
    have Hw := Lib.hid (Hw.out.keep (hb4))
    have hz4 := hb4.size; (try simp only [World.size_alloc] at hz4); clear hb4
    have hal := alloc_below w4 #[.int .i64 (t).kind, .bool (t).flag, .int .i64 (t).num, .string (t).text, .slice a4 (t).keys.length n4, .slice b4 (t).kids.length m4] 27
    have HB := Lib.hid (bnext HB.out (hal))
    have Hp := Lib.hid (Hp.out.keep (hal))
    have Hc := Lib.hid (Hc.out.keep (hal))
    have Hw := Lib.hid (Hw.out.keep (hal))
    clear hal
    try simp only [World.size_alloc] at hg4
    have Hx := Lib.hid (GTree.new ho4 hn4 hg4 (by first | omega | (simp only [World.size_alloc]; omega)) 27); clear ho4 hn4 hg4
    obtain ⟨c4_0, c4_1, c4_2, c4_3, c4_4, c4_5⟩ := (Hc.out).cells
    go_wp2_with fail
    clear c4_0 c4_1 c4_2 c4_3 c4_4 c4_5
    refine (toTree_any kid Any _ _ _ HWU.out (HU.out.keep HB.out)).mono ?_
    rintro e w5 ⟨⟨vk5, vs5, f5, rfl, ho5, hn5, hg5⟩, hb5⟩
    obtain ⟨a5, n5, b5, m5, rfl, rfl⟩ := ho5.shape
    have HB := Lib.hid (bnext HB.out (hb5))
    have Hp := Lib.hid (Hp.out.keep (hb5))
    have Hc := Lib.hid (Hc.out.keep (hb5))
    have Hw := Lib.hid (Hw.out.keep (hb5))
    have Hx := Lib.hid (Hx.out.keep (hb5))
    have hz5 := hb5.size; (try simp only [World.size_alloc] at hz5); clear hb5
    have hal := alloc_below w5 #[.int .i64 (kid).kind, .bool (kid).flag, .int .i64 (kid).num, .string (kid).text, .slice a5 (kid).keys.length n5, .slice b5 (kid).kids.length m5] 27
    have HB := Lib.hid (bnext HB.out (hal))
    have Hp := Lib.hid (Hp.out.keep (hal))
    have Hc := Lib.hid (Hc.out.keep (hal))
    have Hw := Lib.hid (Hw.out.keep (hal))
    have Hx := Lib.hid (Hx.out.keep (hal))
    clear hal
    try simp only [World.size_alloc] at hg5
    have Hy := Lib.hid (GTree.new ho5 hn5 hg5 (by first | omega | (simp only [World.size_alloc]; omega)) 27); clear ho5 hn5 hg5
    obtain ⟨c5_0, c5_1, c5_2, c5_3, c5_4, c5_5⟩ := (Hx.out.sp).cells
    obtain ⟨c6_0, c6_1, c6_2, c6_3, c6_4, c6_5⟩ := (Hy.out.sp).cells
    go_wp2_with fail
    clear c5_0 c5_1 c5_2 c5_3 c5_4 c5_5 c6_0 c6_1 c6_2 c6_3 c6_4 c6_5
    refine (HPI.out _ Any Any _ _ _ _ Hx.out.tin Hy.out.tin (tabs_keep HTB.out HB.out)).mono ?_
    rintro e w6 ⟨⟨vk6, vs6, f6, rfl, ho6, hn6, hg6⟩, hb6⟩
    obtain ⟨a6, n6, b6, m6, rfl, rfl⟩ := ho6.shape
    have HB := Lib.hid (bnext HB.out (hb6))
    have Hp := Lib.hid (Hp.out.keep (hb6))
    have Hc := Lib.hid (Hc.out.keep (hb6))
    have Hw := Lib.hid (Hw.out.keep (hb6))
    have Hx := Lib.hid (Hx.out.keep (hb6))
    have Hy := Lib.hid (Hy.out.keep (hb6))
    have hz6 := hb6.size; (try simp only [World.size_alloc] at hz6); clear hb6
    have hal := alloc_below w6 #[.int .i64 (putR t key kid).kind, .bool (putR t key kid).flag, .int .i64 (putR t key kid).num, .string (putR t key kid).text, .slice a6 (putR t key kid).keys.length n6, .slice b6 (putR t key kid).kids.length m6] 27
    have HB := Lib.hid (bnext HB.out (hal))
    have Hp := Lib.hid (Hp.out.keep (hal))
    have Hc := Lib.hid (Hc.out.keep (hal))
    have Hw := Lib.hid (Hw.out.keep (hal))
    have Hx := Lib.hid (Hx.out.keep (hal))
    have Hy := Lib.hid (Hy.out.keep (hal))
    clear hal
    try simp only [World.size_alloc] at hg6
    have Hg := Lib.hid (GTree.new ho6 hn6 hg6 (by first | omega | (simp only [World.size_alloc]; omega)) 27); clear ho6 hn6 hg6
    obtain ⟨c7_0, c7_1, c7_2, c7_3, c7_4, c7_5⟩ := (Hg.out.sp).cells
    obtain ⟨c8_0, c8_1, c8_2, c8_3, c8_4, c8_5⟩ := (Hw.out.sp).cells
    go_wp2_with fail
    clear c7_0 c7_1 c7_2 c7_3 c7_4 c7_5 c8_0 c8_1 c8_2 c8_3 c8_4 c8_5
    refine (eqTree_any (putR t key kid) Any Any _ _ _ _ _ HWT.out Hg.out.tin Hw.out.tin).mono ?_
    rintro e w7 ⟨rfl, hb7⟩
    have HB := Lib.hid (bnext HB.out (hb7))
    have Hp := Lib.hid (Hp.out.keep (hb7))
    have Hc := Lib.hid (Hc.out.keep (hb7))
    have Hw := Lib.hid (Hw.out.keep (hb7))
    have Hx := Lib.hid (Hx.out.keep (hb7))
    have Hy := Lib.hid (Hy.out.keep (hb7))
    have Hg := Lib.hid (Hg.out.keep (hb7))
    have hz7 := hb7.size; (try simp only [World.size_alloc] at hz7); clear hb7
    go_upto_region 16 with fail
    go_cut [65] (fun sc wx => sc = .bool false ∧ w7.heap.size ≤ wx.heap.size ∧ Hid (Below W.heap.size W wx ∧ Spill wx W.heap.size t (.slice aK t.keys.length mK) (.slice aS t.kids.length mS) ∧ Spill wx (W.heap.size + 1) kid (.slice aU kid.keys.length mU) (.slice aV kid.kids.length mV) ∧ GTree wx w2.heap.size wx_w.heap.size bw (putR t key kid) (putR t key kid) (.slice arw (putR t key kid).keys.length nrw) (.slice avw (putR t key kid).kids.length nvw) frw ∧ GTree wx wx_w.heap.size (w4.heap.size + 1) w4.heap.size t t (.slice a4 t.keys.length n4) (.slice b4 t.kids.length m4) f4 ∧ GTree wx (w4.heap.size + 1) (w5.heap.size + 1) w5.heap.size kid kid (.slice a5 kid.keys.length n5) (.slice b5 kid.kids.length m5) f5 ∧ GTree wx (w5.heap.size + 1) (w6.heap.size + 1) w6.heap.size (putR t key kid) (putR t key kid) (.slice a6 (putR t key kid).keys.length n6) (.slice b6 (putR t key kid).kids.length m6) f6))
    case first =>
      have HB := Lib.hid (bnext HB.out ((Below.refl _ _).drew))
      have Hp := Lib.hid (Hp.out.keep ((Below.refl _ _).drew))
      have Hc := Lib.hid (Hc.out.keep ((Below.refl _ _).drew))
      have Hw := Lib.hid (Hw.out.keep ((Below.refl _ _).drew))
      have Hx := Lib.hid (Hx.out.keep ((Below.refl _ _).drew))
      have Hy := Lib.hid (Hy.out.keep ((Below.refl _ _).drew))
      have Hg := Lib.hid (Hg.out.keep ((Below.refl _ _).drew))
      obtain ⟨p0, p1, p2, p3, p4, p5⟩ := Hp.out.cells; obtain ⟨q0, q1, q2, q3, q4, q5⟩ := Hx.out.sp.cells
      go_region_with (first
        | (go_at_call 28; refine (toTree_any t Any _ _ _ HW.out (HT.out.keep HB.out)).mono ?_; rintro e wa ⟨⟨vk7, vs7, f7, rfl, ho7, hn7, hg7⟩, hb7⟩; obtain ⟨a7, n7, b7, m7, rfl, rfl⟩ := ho7.shape; have hT7 := TreeOwn.toIn (S := Any) _ _ _ _ ho7 (fun _ _ => trivial); clear ho7 hn7 hg7; have HB := Lib.hid (bnext HB.out (hb7)); have Hp := Lib.hid (Hp.out.keep (hb7)); have Hc := Lib.hid (Hc.out.keep (hb7)); have Hw := Lib.hid (Hw.out.keep (hb7)); have Hx := Lib.hid (Hx.out.keep (hb7)); have Hy := Lib.hid (Hy.out.keep (hb7)); have Hg := Lib.hid (Hg.out.keep (hb7)); have hza := hb7.size; clear hb7; obtain ⟨q0, q1, q2, q3, q4, q5⟩ := Hx.out.sp.cells)
        | (go_at_call 29; refine (eqTree_any t Any Any _ _ _ _ _ HW.out Hx.out.tin hT7).mono ?_; rintro e wb ⟨rfl, hb8⟩; have HB := Lib.hid (bnext HB.out (hb8)); have Hp := Lib.hid (Hp.out.keep (hb8)); have Hc := Lib.hid (Hc.out.keep (hb8)); have Hw := Lib.hid (Hw.out.keep (hb8)); have Hx := Lib.hid (Hx.out.keep (hb8)); have Hy := Lib.hid (Hy.out.keep (hb8)); have Hg := Lib.hid (Hg.out.keep (hb8)); have hzb := hb8.size; clear hb8))
      all_goals (go_wp2_with fail; go_meet; exact ⟨rfl, Nat.le_trans hza hzb, Lib.hid ⟨HB.out, Hp.out, Hc.out, Hw.out, Hx.out, Hy.out, Hg.out⟩⟩)
    case rest =>
      clear HB Hp Hc Hw Hx Hy Hg
      obtain ⟨wx_x, rfl⟩ : ∃ x : World, x = wc := ⟨wc, rfl⟩
      obtain ⟨rfl, hz_x, hall⟩ := hcut
      obtain ⟨hB, hp, hc, hw, hx, hy, hg⟩ := hall.out
      have HB := Lib.hid hB; have Hp := Lib.hid hp; have Hc := Lib.hid hc; have Hw := Lib.hid hw; have Hx := Lib.hid hx; have Hy := Lib.hid hy; have Hg := Lib.hid hg; clear hall hB hp hc hw hx hy hg
      go_upto_region 18 with fail
      go_cut [70] (fun sc wx => sc = .bool false ∧ wx_x.heap.size ≤ wx.heap.size ∧ Hid (Below W.heap.size W wx ∧ Spill wx W.heap.size t (.slice aK t.keys.length mK) (.slice aS t.kids.length mS) ∧ Spill wx (W.heap.size + 1) kid (.slice aU kid.keys.length mU) (.slice aV kid.kids.length mV) ∧ GTree wx w2.heap.size wx_w.heap.size bw (putR t key kid) (putR t key kid) (.slice arw (putR t key kid).keys.length nrw) (.slice avw (putR t key kid).kids.length nvw) frw ∧ GTree wx wx_w.heap.size (w4.heap.size + 1) w4.heap.size t t (.slice a4 t.keys.length n4) (.slice b4 t.kids.length m4) f4 ∧ GTree wx (w4.heap.size + 1) (w5.heap.size + 1) w5.heap.size kid kid (.slice a5 kid.keys.length n5) (.slice b5 kid.kids.length m5) f5 ∧ GTree wx (w5.heap.size + 1) (w6.heap.size + 1) w6.heap.size (putR t key kid) (putR t key kid) (.slice a6 (putR t key kid).keys.length n6) (.slice b6 (putR t key kid).kids.length m6) f6))
      case first =>
        have HB := Lib.hid (bnext HB.out ((Below.refl _ _).drew))
        have Hp := Lib.hid (Hp.out.keep ((Below.refl _ _).drew))
        have Hc := Lib.hid (Hc.out.keep ((Below.refl _ _).drew))
        have Hw := Lib.hid (Hw.out.keep ((Below.refl _ _).drew))
        have Hx := Lib.hid (Hx.out.keep ((Below.refl _ _).drew))
        have Hy := Lib.hid (Hy.out.keep ((Below.refl _ _).drew))
        have Hg := Lib.hid (Hg.out.keep ((Below.refl _ _).drew))
        obtain ⟨p0, p1, p2, p3, p4, p5⟩ := Hc.out.cells; obtain ⟨q0, q1, q2, q3, q4, q5⟩ := Hy.out.sp.cells
        go_region_with (first
          | (go_at_call 28; refine (toTree_any kid Any _ _ _ HWU.out (HU.out.keep HB.out)).mono ?_; rintro e wa ⟨⟨vk7, vs7, f7, rfl, ho7, hn7, hg7⟩, hb7⟩; obtain ⟨a7, n7, b7, m7, rfl, rfl⟩ := ho7.shape; have hT7 := TreeOwn.toIn (S := Any) _ _ _ _ ho7 (fun _ _ => trivial); clear ho7 hn7 hg7; have HB := Lib.hid (bnext HB.out (hb7)); have Hp := Lib.hid (Hp.out.keep (hb7)); have Hc := Lib.hid (Hc.out.keep (hb7)); have Hw := Lib.hid (Hw.out.keep (hb7)); have Hx := Lib.hid (Hx.out.keep (hb7)); have Hy := Lib.hid (Hy.out.keep (hb7)); have Hg := Lib.hid (Hg.out.keep (hb7)); have hza := hb7.size; clear hb7; obtain ⟨q0, q1, q2, q3, q4, q5⟩ := Hy.out.sp.cells)
          | (go_at_call 29; refine (eqTree_any kid Any Any _ _ _ _ _ HWU.out Hy.out.tin hT7).mono ?_; rintro e wb ⟨rfl, hb8⟩; have HB := Lib.hid (bnext HB.out (hb8)); have Hp := Lib.hid (Hp.out.keep (hb8)); have Hc := Lib.hid (Hc.out.keep (hb8)); have Hw := Lib.hid (Hw.out.keep (hb8)); have Hx := Lib.hid (Hx.out.keep (hb8)); have Hy := Lib.hid (Hy.out.keep (hb8)); have Hg := Lib.hid (Hg.out.keep (hb8)); have hzb := hb8.size; clear hb8))
        all_goals (go_wp2_with fail; go_meet; exact ⟨rfl, Nat.le_trans hza hzb, Lib.hid ⟨HB.out, Hp.out, Hc.out, Hw.out, Hx.out, Hy.out, Hg.out⟩⟩)
      case rest =>
        clear HB Hp Hc Hw Hx Hy Hg
        obtain ⟨wx_y, rfl⟩ : ∃ x : World, x = wc := ⟨wc, rfl⟩
        obtain ⟨rfl, hz_y, hall⟩ := hcut
        obtain ⟨hB, hp, hc, hw, hx, hy, hg⟩ := hall.out
        have HB := Lib.hid hB; have Hp := Lib.hid hp; have Hc := Lib.hid hc; have Hw := Lib.hid hw; have Hx := Lib.hid hx; have Hy := Lib.hid hy; have Hg := Lib.hid hg; clear hall hB hp hc hw hx hy hg
        obtain ⟨c9_0, c9_1, c9_2, c9_3, c9_4, c9_5⟩ := (Hx.out.sp).cells
        go_wp2_with fail
        clear c9_0 c9_1 c9_2 c9_3 c9_4 c9_5
        refine (mark1 t _ _ f4 _ kk HKK.out HW.out Hx.out.nd Hx.out.own).mono ?_
        rintro e w9 ⟨rfl, ho9, ha9⟩
        have HB' := Lib.hid (below_apart HB.out ha9 (fun x hx => (Hx.out.fb x hx).1) (by omega))
        have Hp' := Lib.hid (Hp.out.far ha9 (fun hx => by have := Hx.out.fb _ hx; omega))
        have Hc' := Lib.hid (Hc.out.far ha9 (fun hx => by have := Hx.out.fb _ hx; omega))
        have Hw' := Lib.hid (Hw.out.far ha9 (fun x hx => by have := Hx.out.fb x hx; omega))
        have Hy' := Lib.hid (Hy.out.far ha9 (fun x hx => by have := Hx.out.fb x hx; omega))
        have Hg' := Lib.hid (Hg.out.far ha9 (fun x hx => by have := Hx.out.fb x hx; omega))
        clear Hx
        have HB := Lib.hid HB'.out
        clear HB'
        have Hp := Lib.hid Hp'.out
        clear Hp'
        have Hc := Lib.hid Hc'.out
        clear Hc'
        have Hw := Lib.hid Hw'.out
        clear Hw'
        have Hy := Lib.hid Hy'.out
        clear Hy'
        have Hg := Lib.hid Hg'.out
        clear Hg'
        have hz9 := ha9.size; clear ha9 ho9
        obtain ⟨c10_0, c10_1, c10_2, c10_3, c10_4, c10_5⟩ := (Hy.out.sp).cells
        go_wp2_with fail
        clear c10_0 c10_1 c10_2 c10_3 c10_4 c10_5
        refine (mark2 kid t.cnt _ _ f5 _ kk k2 HKK.out HK2.out HW.out HWU.out rfl Hy.out.nd Hy.out.own).mono ?_
        rintro e w10 ⟨rfl, ho10, ha10⟩
        have HB' := Lib.hid (below_apart HB.out ha10 (fun x hx => (Hy.out.fb x hx).1) (by omega))
        have Hp' := Lib.hid (Hp.out.far ha10 (fun hx => by have := Hy.out.fb _ hx; omega))
        have Hc' := Lib.hid (Hc.out.far ha10 (fun hx => by have := Hy.out.fb _ hx; omega))
        have Hw' := Lib.hid (Hw.out.far ha10 (fun x hx => by have := Hy.out.fb x hx; omega))
        have Hg' := Lib.hid (Hg.out.far ha10 (fun x hx => by have := Hy.out.fb x hx; omega))
        clear Hy
        have HB := Lib.hid HB'.out
        clear HB'
        have Hp := Lib.hid Hp'.out
        clear Hp'
        have Hc := Lib.hid Hc'.out
        clear Hc'
        have Hw := Lib.hid Hw'.out
        clear Hw'
        have Hg := Lib.hid Hg'.out
        clear Hg'
        have hz10 := ha10.size; clear ha10 ho10
        obtain ⟨c11_0, c11_1, c11_2, c11_3, c11_4, c11_5⟩ := (Hg.out.sp).cells
        obtain ⟨c12_0, c12_1, c12_2, c12_3, c12_4, c12_5⟩ := (Hw.out.sp).cells
        go_wp2_with fail
        clear c11_0 c11_1 c11_2 c11_3 c11_4 c11_5 c12_0 c12_1 c12_2 c12_3 c12_4 c12_5
        refine (eqTree_any (putR t key kid) Any Any _ _ _ _ _ HWT.out Hg.out.tin Hw.out.tin).mono ?_
        rintro e w11 ⟨rfl, hb11⟩
        have HB := Lib.hid (bnext HB.out (hb11))
        have Hp := Lib.hid (Hp.out.keep (hb11))
        have Hc := Lib.hid (Hc.out.keep (hb11))
        have Hw := Lib.hid (Hw.out.keep (hb11))
        have Hg := Lib.hid (Hg.out.keep (hb11))
        have hz11 := hb11.size; (try simp only [World.size_alloc] at hz11); clear hb11
        obtain ⟨c13_0, c13_1, c13_2, c13_3, c13_4, c13_5⟩ := (Hg.out.sp).cells
        go_wp2_with fail
        clear c13_0 c13_1 c13_2 c13_3 c13_4 c13_5
        refine (mark1 (putR t key kid) _ _ f6 _ mm HMM.out HWT.out Hg.out.nd Hg.out.own).mono ?_
        rintro e w12 ⟨rfl, ho12, ha12⟩
        have HB' := Lib.hid (below_apart HB.out ha12 (fun x hx => (Hg.out.fb x hx).1) (by omega))
        have Hp' := Lib.hid (Hp.out.far ha12 (fun hx => by have := Hg.out.fb _ hx; omega))
        have Hc' := Lib.hid (Hc.out.far ha12 (fun hx => by have := Hg.out.fb _ hx; omega))
        have Hw' := Lib.hid (Hw.out.far ha12 (fun x hx => by have := Hg.out.fb x hx; omega))
        have Hg' := Lib.hid (Hg.out.marked ha12 ho12)
        have HB := Lib.hid HB'.out
        clear HB'
        have Hp := Lib.hid Hp'.out
        clear Hp'
        have Hc := Lib.hid Hc'.out
        clear Hc'
        have Hw := Lib.hid Hw'.out
        clear Hw'
        have Hg := Lib.hid Hg'.out
        clear Hg'
        have hz12 := ha12.size; clear ha12 ho12
        obtain ⟨c14_0, c14_1, c14_2, c14_3, c14_4, c14_5⟩ := (Hg.out.sp).cells
        go_wp2_with fail
        clear c14_0 c14_1 c14_2 c14_3 c14_4 c14_5
        refine (held1 (putR t key kid) Any _ _ _ mm HMM.out HWT.out Hg.out.tin).mono ?_
        rintro e w13 ⟨rfl, hb13⟩
        have HB := Lib.hid (bnext HB.out (hb13))
        have Hp := Lib.hid (Hp.out.keep (hb13))
        have Hc := Lib.hid (Hc.out.keep (hb13))
        have Hw := Lib.hid (Hw.out.keep (hb13))
        have Hg := Lib.hid (Hg.out.keep (hb13))
        have hz13 := hb13.size; clear hb13
        go_upto_region 33 with fail
        go_cut [17, 18] (fun sp sb wx => ∃ (br : Nat) (ar av : Option Addr) (nr nv : Nat) (fr : List Nat), sp = .pointer (some ⟨br, 0, none⟩) ∧ sb = .bool ok ∧ Hid (GTree wx w13.heap.size wx.heap.size br (putR t key kid) (putR t key kid) (.slice ar (putR t key kid).keys.length nr) (.slice av (putR t key kid).kids.length nv) fr) ∧ Hid (Below w13.heap.size w13 wx))
        case first =>
          have HBL := Lib.hid (Below.refl w13.heap.size w13)
          obtain ⟨p0, p1, p2, p3, p4, p5⟩ := (Hp.out.keep HBL.out.drew).cells; obtain ⟨c0, c1, c2, c3, c4, c5⟩ := (Hc.out.keep HBL.out.drew).cells; have hlp := (Hp.out.keep HBL.out.drew).lt; have hlc := (Hc.out.keep HBL.out.drew).lt; (try (change W.heap.size < _ at hlp))
          obtain ⟨p0, p1, p2, p3, p4, p5⟩ := (Hp.out.keep HBL.out).cells; obtain ⟨c0, c1, c2, c3, c4, c5⟩ := (Hc.out.keep HBL.out).cells; have hlp := (Hp.out.keep HBL.out).lt; have hlc := (Hc.out.keep HBL.out).lt; (try (change W.heap.size < _ at hlp))
          go_region_held3 (fun w' => (w'.cell? ⟨W.heap.size, 0, none⟩ = some (.int .i64 t.kind) ∧ w'.cell? ⟨W.heap.size, 1, none⟩ = some (.bool t.flag) ∧ w'.cell? ⟨W.heap.size, 2, none⟩ = some (.int .i64 t.num) ∧ w'.cell? ⟨W.heap.size, 3, none⟩ = some (.string t.text) ∧ w'.cell? ⟨W.heap.size, 4, none⟩ = some (.slice aK t.keys.length mK) ∧ w'.cell? ⟨W.heap.size, 5, none⟩ = some (.slice aS t.kids.length mS)) ∧ (w'.cell? ⟨W.heap.size + 1, 0, none⟩ = some (.int .i64 kid.kind) ∧ w'.cell? ⟨W.heap.size + 1, 1, none⟩ = some (.bool kid.flag) ∧ w'.cell? ⟨W.heap.size + 1, 2, none⟩ = some (.int .i64 kid.num) ∧ w'.cell? ⟨W.heap.size + 1, 3, none⟩ = some (.string kid.text) ∧ w'.cell? ⟨W.heap.size + 1, 4, none⟩ = some (.slice aU kid.keys.length mU) ∧ w'.cell? ⟨W.heap.size + 1, 5, none⟩ = some (.slice aV kid.kids.length mV))) ((first | (with_reducible refine cells12 (spill_put6 (Hp.out.keep HBL.out) ?_) (spill_put6 (Hc.out.keep HBL.out) ?_); omega; omega) | (with_reducible exact cells12 (Hp.out.keep HBL.out) (Hc.out.keep HBL.out)) | (with_reducible exact cells12 (Hp.out.keep HBL.out.drew) (Hc.out.keep HBL.out.drew)) | (with_reducible exact cells12 (Hp.out.keep (bnext HBL.out (alloc_below _ _ _))) (Hc.out.keep (bnext HBL.out (alloc_below _ _ _)))) | (with_reducible exact cells12 (Hp.out.keep (bnext HBL.out (alloc_below _ _ _)).drew) (Hc.out.keep (bnext HBL.out (alloc_below _ _ _)).drew)) | (with_reducible exact cells12 (Hp.out.keep (bnext HBL.out.drew (alloc_below _ _ _))) (Hc.out.keep (bnext HBL.out.drew (alloc_below _ _ _)))) | (with_reducible exact cells12 (Hp.out.keep (bnext HBL.out (alloc_below _ _ _).drew)) (Hc.out.keep (bnext HBL.out (alloc_below _ _ _).drew))))) (first
            | (go_at_call 28; ((with_reducible refine (H1T.out _ ?_).mono ?_); exact HT.out.keep (bnext HB.out (bnext HBL.out (by repeat (first | exact Below.refl _ _ | (refine Below.alloc ?_ (by first | omega | (simp; done) | (simp; omega)) _) | (refine Below.setCell ?_ (by first | omega | (simp; done) | (simp; omega)) _) | (refine Below.drew ?_) | (refine below_drewN ?_ _))))); rintro e wa ⟨⟨vka, vsa, fa, rfl, hoa, hna, hga⟩, hba⟩; obtain ⟨aa, na, ab, nb, rfl, rfl⟩ := hoa.shape; have hIa := TreeOwn.toIn (S := Any) _ _ _ _ hoa (fun _ _ => trivial); clear hoa hna hga; have HBL := Lib.hid (show Below w13.heap.size w13 wa from bnext HBL.out (show Below w13.heap.size w13 wa from bnext (by repeat (first | exact Below.refl _ _ | (refine Below.alloc ?_ (by first | omega | (simp; done) | (simp; omega)) _) | (refine Below.setCell ?_ (by first | omega | (simp; done) | (simp; omega)) _) | (refine Below.drew ?_) | (refine below_drewN ?_ _))) hba)); have hza2 : w13.heap.size ≤ wa.heap.size := HBL.out.size; (first | (have HZL : Hid (ZeroAt wa w13.heap.size) := by with_reducible exact zk hba) | (have HZL : Hid (ZeroAt wa w13.heap.size) := by with_reducible exact zkd hba) | (have HZL : Hid (ZeroAt wa w13.heap.size) := (show Hid (ZeroAt wa w13.drew.heap.size) by with_reducible exact zk hba)) | skip); (try have hzlL := HZL.out.lt); clear hba; obtain ⟨p0, p1, p2, p3, p4, p5⟩ := (Hp.out.keep HBL.out).cells; obtain ⟨c0, c1, c2, c3, c4, c5⟩ := (Hc.out.keep HBL.out).cells; have hlp := (Hp.out.keep HBL.out).lt; have hlc := (Hc.out.keep HBL.out).lt; (try (change W.heap.size < _ at hlp))))
            | (go_at_call 28; ((with_reducible refine (H1K.out _ ?_).mono ?_); exact HU.out.keep (bnext HB.out (bnext HBL.out (by repeat (first | exact Below.refl _ _ | (refine Below.alloc ?_ (by first | omega | (simp; done) | (simp; omega)) _) | (refine Below.setCell ?_ (by first | omega | (simp; done) | (simp; omega)) _) | (refine Below.drew ?_) | (refine below_drewN ?_ _))))); rintro e wb ⟨⟨vkb, vsb, fb, rfl, hob, hnb, hgb⟩, hbb⟩; obtain ⟨ba, ma, bb, mb, rfl, rfl⟩ := hob.shape; have hIb := TreeOwn.toIn (S := Any) _ _ _ _ hob (fun _ _ => trivial); have hIa := hIa.keep (show Below wa.heap.size wa wb from bnext (by repeat (first | exact Below.refl _ _ | (refine Below.alloc ?_ (by first | omega | (simp; done) | (simp; omega)) _) | (refine Below.setCell ?_ (by first | omega | (simp; done) | (simp; omega)) _) | (refine Below.drew ?_) | (refine below_drewN ?_ _))) hbb); clear hob hnb hgb; have hzb2 : wa.heap.size ≤ wb.heap.size := (show Below wa.heap.size wa wb from bnext (by repeat (first | exact Below.refl _ _ | (refine Below.alloc ?_ (by first | omega | (simp; done) | (simp; omega)) _) | (refine Below.setCell ?_ (by first | omega | (simp; done) | (simp; omega)) _) | (refine Below.drew ?_) | (refine below_drewN ?_ _))) hbb).size; have HBL := Lib.hid (show Below w13.heap.size w13 wb from bnext HBL.out (show Below wa.heap.size wa wb from bnext (by repeat (first | exact Below.refl _ _ | (refine Below.alloc ?_ (by first | omega | (simp; done) | (simp; omega)) _) | (refine Below.setCell ?_ (by first | omega | (simp; done) | (simp; omega)) _) | (refine Below.drew ?_) | (refine below_drewN ?_ _))) hbb)); (first | (have HZL := Lib.hid (HZL.out.keep (show Below wa.heap.size wa wb from bnext (by repeat (first | exact Below.refl _ _ | (refine Below.alloc ?_ (by first | omega | (simp; done) | (simp; omega)) _) | (refine Below.setCell ?_ (by first | omega | (simp; done) | (simp; omega)) _) | (refine Below.drew ?_) | (refine below_drewN ?_ _))) hbb))) | (have HZL : Hid (ZeroAt wb wa.heap.size) := by with_reducible exact zk hbb) | (have HZL : Hid (ZeroAt wb wa.heap.size) := by with_reducible exact zkd hbb) | (have HZL : Hid (ZeroAt wb wa.heap.size) := (show Hid (ZeroAt wb wa.drew.heap.size) by with_reducible exact zk hbb)) | skip); (try have hzlM := HZL.out.lt); clear hbb; obtain ⟨p0, p1, p2, p3, p4, p5⟩ := (Hp.out.keep HBL.out).cells; obtain ⟨c0, c1, c2, c3, c4, c5⟩ := (Hc.out.keep HBL.out).cells; have hlp := (Hp.out.keep HBL.out).lt; have hlc := (Hc.out.keep HBL.out).lt; (try (change W.heap.size < _ at hlp))))
            | (go_at_call 21; (refine (HPI.out _ Any Any _ _ _ _ (hIa.keep (by repeat (first | exact Below.refl _ _ | (refine Below.alloc ?_ (by first | omega | (simp; done) | (simp; omega)) _) | (refine Below.setCell ?_ (by first | omega | (simp; done) | (simp; omega)) _) | (refine Below.drew ?_) | (refine below_drewN ?_ _)))) (hIb.keep (by repeat (first | exact Below.refl _ _ | (refine Below.alloc ?_ (by first | omega | (simp; done) | (simp; omega)) _) | (refine Below.setCell ?_ (by first | omega | (simp; done) | (simp; omega)) _) | (refine Below.drew ?_) | (refine below_drewN ?_ _)))) (tabs_keep HTB.out (bnext HB.out (bnext HBL.out (by repeat (first | exact Below.refl _ _ | (refine Below.alloc ?_ (by first | omega | (simp; done) | (simp; omega)) _) | (refine Below.setCell ?_ (by first | omega | (simp; done) | (simp; omega)) _) | (refine Below.drew ?_) | (refine below_drewN ?_ _))))))).mono ?_; rintro e wr ⟨⟨vkr, vsr, fr, rfl, hor, hnr, hgr⟩, hbr⟩; obtain ⟨ar, nr, av, nv, rfl, rfl⟩ := hor.shape; have HBL := Lib.hid (show Below w13.heap.size w13 wr from bnext HBL.out (show Below wb.heap.size wb wr from bnext (by repeat (first | exact Below.refl _ _ | (refine Below.alloc ?_ (by first | omega | (simp; done) | (simp; omega)) _) | (refine Below.setCell ?_ (by first | omega | (simp; done) | (simp; omega)) _) | (refine Below.drew ?_) | (refine below_drewN ?_ _))) hbr)); (first | (have HZL := Lib.hid (HZL.out.keep (show Below wb.heap.size wb wr from bnext (by repeat (first | exact Below.refl _ _ | (refine Below.alloc ?_ (by first | omega | (simp; done) | (simp; omega)) _) | (refine Below.setCell ?_ (by first | omega | (simp; done) | (simp; omega)) _) | (refine Below.drew ?_) | (refine below_drewN ?_ _))) hbr))) | (have HZL : Hid (ZeroAt wr wb.heap.size) := by with_reducible exact zk hbr) | (have HZL : Hid (ZeroAt wr wb.heap.size) := by with_reducible exact zkd hbr) | (have HZL : Hid (ZeroAt wr wb.heap.size) := (show Hid (ZeroAt wr wb.drew.heap.size) by with_reducible exact zk hbr)) | skip); have hzr2 : wb.heap.size ≤ wr.heap.size := (show Below wb.heap.size wb wr from bnext (by repeat (first | exact Below.refl _ _ | (refine Below.alloc ?_ (by first | omega | (simp; done) | (simp; omega)) _) | (refine Below.setCell ?_ (by first | omega | (simp; done) | (simp; omega)) _) | (refine Below.drew ?_) | (refine below_drewN ?_ _))) hbr).size; have HOR := Lib.hid (And.intro hor (And.intro hnr hgr)); clear hor hnr hgr hbr; (try obtain ⟨r0, r1, r2, r3, r4, r5⟩ := HZL.out.cells); (try obtain ⟨g0, g1, g2, g3, g4, g5⟩ := HZL.out.frozen))))
          all_goals (first | (have HZQ := HZL; have hlz := HBL.out.size; have hlz2 := HOR.out.2.2; (try simp at hlz2); go_wp2_with fail; go_meet; exact ⟨_, _, _, _, _, _, rfl, rfl, Lib.hid (GTree.put HZL.out HOR.out.1 HOR.out.2.1 (fun x hx => by have := hlz2 x hx; exact ⟨by omega, by omega⟩) (by omega)), Lib.hid (put6w_below HBL.out _ (by omega) _ _ _ _ _ _)⟩) | (have HRR := Lib.hid (alloc_below wr #[.int .i64 (putR t key kid).kind, .bool (putR t key kid).flag, .int .i64 (putR t key kid).num, .string (putR t key kid).text, .slice ar (putR t key kid).keys.length nr, .slice av (putR t key kid).kids.length nv] 27); have hlz := HBL.out.size; have hlz2 := HOR.out.2.2; (try simp at hlz2); have HGR := Lib.hid (GTree.new HOR.out.1 HOR.out.2.1 (B := w13.heap.size) (fun x hx => by have := hlz2 x hx; omega) (by omega) 27); go_wp2_with fail; go_meet; exact ⟨_, _, _, _, _, _, rfl, rfl, (by simpa using HGR), Lib.hid (bnext HBL.out HRR.out)⟩))
        case rest =>
          obtain ⟨wx_h, rfl⟩ : ∃ x : World, x = wc := ⟨wc, rfl⟩
          obtain ⟨bh, arh, avh, nrh, nvh, frh, rfl, rfl, Hh, hall⟩ := hcut
          have HB := Lib.hid (bnext HB.out (hall.out))
          have Hp := Lib.hid (Hp.out.keep (hall.out))
          have Hc := Lib.hid (Hc.out.keep (hall.out))
          have Hw := Lib.hid (Hw.out.keep (hall.out))
          have Hg := Lib.hid (Hg.out.keep (hall.out))
          have hzh := hall.out.size; clear hall
          obtain ⟨c15_0, c15_1, c15_2, c15_3, c15_4, c15_5⟩ := (Hh.out.sp).cells
          obtain ⟨c16_0, c16_1, c16_2, c16_3, c16_4, c16_5⟩ := (Hw.out.sp).cells
          go_wp2_with fail
          clear c15_0 c15_1 c15_2 c15_3 c15_4 c15_5 c16_0 c16_1 c16_2 c16_3 c16_4 c16_5
          refine (eqTree_any (putR t key kid) Any Any _ _ _ _ _ HWT.out Hh.out.tin Hw.out.tin).mono ?_
          rintro e w15 ⟨rfl, hb15⟩
          have HB := Lib.hid (bnext HB.out (hb15))
          have Hp := Lib.hid (Hp.out.keep (hb15))
          have Hc := Lib.hid (Hc.out.keep (hb15))
          have Hw := Lib.hid (Hw.out.keep (hb15))
          have Hg := Lib.hid (Hg.out.keep (hb15))
          have Hh := Lib.hid (Hh.out.keep (hb15))
          have hz15 := hb15.size; (try simp only [World.size_alloc] at hz15); clear hb15
          obtain ⟨c17_0, c17_1, c17_2, c17_3, c17_4, c17_5⟩ := (Hg.out.sp).cells
          go_wp2_with fail
          clear c17_0 c17_1 c17_2 c17_3 c17_4 c17_5
          refine (held1 (putR t key kid) Any _ _ _ mm HMM.out HWT.out Hg.out.tin).mono ?_
          rintro e w16 ⟨rfl, hb16⟩
          have HB := Lib.hid (bnext HB.out (hb16))
          have Hp := Lib.hid (Hp.out.keep (hb16))
          have Hc := Lib.hid (Hc.out.keep (hb16))
          have Hw := Lib.hid (Hw.out.keep (hb16))
          have Hg := Lib.hid (Hg.out.keep (hb16))
          have Hh := Lib.hid (Hh.out.keep (hb16))
          have hz16 := hb16.size; clear hb16
          go_wp2
          go_ret
          exact ⟨rfl, HB.out⟩

end Go.Proofs.YtkifacpanipfhaaDoor
