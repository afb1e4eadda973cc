/- MarkB, MarkC, MarkD, TreeI, TreeK, TreeM, Law, merged. -/
import Derived.Test.YtpcojfcbomkgpaaDoorMarkA
import Derived.Test.YtpcojfcbomkgpaaDoorTreeT
import Derived.Test.YtpcojfcbomkgpaaDoorTreeW
import Derived.Test.YtpcojfcbomkgpaaDoorTreeA
import Derived.Test.YtpcojfcbomkgpaaDoorJF
import Derived.Deep.DeepCutAuto
namespace Go.Proofs.YtpcojfcbomkgpaaDoor
open Go.RowKit

mutual
/-- How many marks a tree takes below its top. -/
def Tr.cnt : Tr → Nat | .mk _ _ _ _ keys kids => keys.length + cntL kids
def cntL : List Tr → Nat | [] => 0 | t :: ts => 4 + t.cnt + cntL ts
end
def topped (k : Nat) : Tr → Tr | .mk _ _ _ _ keys kids => .mk (k : Nat) (decide ((k + 1) % 3 = 0)) ((k + 2 : Nat) : Int) (mtext (k + 3)) keys kids
mutual
def markTr : Nat → Tr → Tr | k, .mk kd f n s keys kids => .mk kd f n s (markStrs k keys.length) (markKids (k + keys.length) kids)
def markKids : Nat → List Tr → List Tr | _, [] => [] | k, t :: ts => topped k (markTr (k + 4) t) :: markKids (k + 4 + t.cnt) ts
end
theorem kind_mk (k : Int) (f : Bool) (n : Int) (s : ByteArray) (l : List ByteArray) (m : List Tr) : (Tr.mk k f n s l m).kind = k := rfl
theorem flag_mk (k : Int) (f : Bool) (n : Int) (s : ByteArray) (l : List ByteArray) (m : List Tr) : (Tr.mk k f n s l m).flag = f := rfl
theorem num_mk (k : Int) (f : Bool) (n : Int) (s : ByteArray) (l : List ByteArray) (m : List Tr) : (Tr.mk k f n s l m).num = n := rfl
theorem text_mk (k : Int) (f : Bool) (n : Int) (s : ByteArray) (l : List ByteArray) (m : List Tr) : (Tr.mk k f n s l m).text = s := rfl
theorem keys_mk (k : Int) (f : Bool) (n : Int) (s : ByteArray) (l : List ByteArray) (m : List Tr) : (Tr.mk k f n s l m).keys = l := rfl
theorem kids_mk (k : Int) (f : Bool) (n : Int) (s : ByteArray) (l : List ByteArray) (m : List Tr) : (Tr.mk k f n s l m).kids = m := rfl
theorem cnt_eq (t : Tr) : t.cnt = t.keys.length + cntL t.kids := by cases t; simp only [Tr.cnt, Tr.keys, Tr.kids]
theorem markTr_eq (k : Nat) (t : Tr) : markTr k t = .mk t.kind t.flag t.num t.text (markStrs k t.keys.length) (markKids (k + t.keys.length) t.kids) := by
  cases t; simp only [markTr, Tr.kind, Tr.flag, Tr.num, Tr.text, Tr.keys, Tr.kids]
theorem topped_markTr (k : Nat) (t : Tr) : topped k (markTr (k + 4) t) = .mk (k : Nat) (decide ((k + 1) % 3 = 0)) ((k + 2 : Nat) : Int) (mtext (k + 3)) (markStrs (k + 4) t.keys.length) (markKids (k + 4 + t.keys.length) t.kids) := by
  rw [markTr_eq]; rfl
theorem markKids_len : ∀ (k : Nat) (l : List Tr), (markKids k l).length = l.length
  | _, [] => by simp only [markKids]
  | k, t :: ts => by simp only [markKids, List.length_cons, markKids_len _ ts]
theorem cntL_take (l : List Tr) (k : Nat) (h : k < l.length) : cntL (l.take (k + 1)) = cntL (l.take k) + (4 + (kidAt l k).cnt) :=
  sum_take (fun t => 4 + t.cnt) cntL rfl (fun _ _ => rfl) l k h
theorem cntL_le (l : List Tr) (k : Nat) : cntL (l.take k) ≤ cntL l := take_le_sum (fun t => 4 + t.cnt) cntL rfl (fun _ _ => rfl) l k
theorem markKids_at : ∀ (l : List Tr) (k j : Nat), j < l.length → kidAt (markKids k l) j = topped (k + cntL (l.take j)) (markTr (k + cntL (l.take j) + 4) (kidAt l j))
  | [], _, _, h => by simp at h
  | t :: ts, k, 0, _ => by simp only [markKids, List.take_zero, cntL, Nat.add_zero, kidAt, List.getD_cons_zero]
  | t :: ts, k, j + 1, h => by
    have := markKids_at ts (k + 4 + t.cnt) j (by simpa using h)
    simp only [markKids, List.take_succ_cons, cntL]
    rw [show k + (4 + t.cnt + cntL (ts.take j)) = k + 4 + t.cnt + cntL (ts.take j) by omega]
    exact this
theorem kidAt_app (l m : List Tr) (j : Nat) (h : l.length = j) : kidAt (l ++ m) j = kidAt m 0 := by
  subst h; simp only [kidAt, List.getD_eq_getElem?_getD]; rw [List.getElem?_append_right (Nat.le_refl _), Nat.sub_self]
theorem kidAt_drop (l : List Tr) (j : Nat) : kidAt (l.drop j) 0 = kidAt l j := by simp [kidAt, List.getD_eq_getElem?_getD]
/-- The first j marked, the others as they were. -/
def partMarked (k j : Nat) (l : List Tr) : List Tr := markKids k (l.take j) ++ l.drop j
theorem partMarked_len (k j : Nat) (l : List Tr) (h : j ≤ l.length) : (partMarked k j l).length = l.length := by simp [partMarked, markKids_len]; omega
theorem partMarked_at (k j : Nat) (l : List Tr) (h : j < l.length) : kidAt (partMarked k j l) j = kidAt l j := by
  unfold partMarked
  rw [kidAt_app _ _ _ (by rw [markKids_len, List.length_take]; omega), kidAt_drop]
theorem partMarked_zero (k : Nat) (l : List Tr) : partMarked k 0 l = l := by simp [partMarked, markKids]
theorem partMarked_end (k : Nat) (l : List Tr) : partMarked k l.length l = markKids k l := by simp [partMarked]
theorem markKids_snoc : ∀ (l : List Tr) (k : Nat) (t : Tr), markKids k (l ++ [t]) = markKids k l ++ [topped (k + cntL l) (markTr (k + cntL l + 4) t)]
  | [], k, t => by simp only [List.nil_append, markKids, cntL, Nat.add_zero]
  | x :: xs, k, t => by
    simp only [List.cons_append, markKids, cntL, markKids_snoc xs]
    rw [show k + 4 + x.cnt + cntL xs = k + (4 + x.cnt + cntL xs) by omega]
theorem partMarked_succ (k j : Nat) (l : List Tr) (h : j < l.length) :
    (partMarked k j l).set j (topped (k + cntL (l.take j)) (markTr (k + cntL (l.take j) + 4) (kidAt l j))) = partMarked k (j + 1) l := by
  unfold partMarked
  rw [kids_take_succ l j h, markKids_snoc]
  have hlen : (markKids k (l.take j)).length = j := by rw [markKids_len, List.length_take]; omega
  rw [List.set_append_right _ _ (by omega), hlen, Nat.sub_self, List.append_assoc, List.drop_eq_getElem_cons h]
  rfl

/-- The six values of element i of a row. -/
def Cells6 (F : Nat → Value) (i : Nat) (t : Tr) (vk vs : Value) : Prop :=
  F (i * 6) = .int .i64 t.kind ∧ F (i * 6 + 1) = .bool t.flag ∧ F (i * 6 + 2) = .int .i64 t.num ∧ F (i * 6 + 3) = .string t.text ∧ F (i * 6 + 4) = vk ∧ F (i * 6 + 5) = vs
theorem KidsRow.turn {w w' : World} {F F' : Nat → Value} : ∀ (l : List Tr) (i : Nat) (ff : List Nat), KidsRow w F l i ff → (∀ b, b ∈ ff → b < w.heap.size → w'.heap[b]? = w.heap[b]?) → (∀ m, i * 6 ≤ m → F' m = F m) → KidsRow w' F' l i ff
  | [], _, ff, h, _, _ => by simp only [KidsRow] at h ⊢; exact h
  | t :: ts, i, ff, h, hs, hF => by
    simp only [KidsRow] at h ⊢
    obtain ⟨vk, vs, f1, f2, rfl, ⟨c0, c1, c2, c3, c4, c5⟩, h1, h2⟩ := h
    exact ⟨vk, vs, f1, f2, rfl, ⟨by rw [hF _ (by omega), c0], by rw [hF _ (by omega), c1], by rw [hF _ (by omega), c2], by rw [hF _ (by omega), c3], by rw [hF _ (by omega), c4], by rw [hF _ (by omega), c5]⟩,
      TreeOwn.same t vk vs f1 h1 fun b hb => hs b (by simp [hb]), KidsRow.turn ts (i + 1) f2 h2 (fun b hb => hs b (by simp [hb])) fun m hm => hF m (by omega)⟩
/-- One element of an owned list of trees, and how the list is put together again when this element has turned. -/
theorem KidsRow.split {w : World} {F : Nat → Value} : ∀ (l : List Tr) (i : Nat) (ff : List Nat) (j : Nat), j < l.length → KidsRow w F l i ff →
    ∃ f1 fj f3 vk vs, ff = f1 ++ (fj ++ f3) ∧ Cells6 F (i + j) (kidAt l j) vk vs ∧ TreeOwn w (kidAt l j) vk vs fj ∧
      ∀ (w' : World) (F' : Nat → Value) (t' : Tr), (∀ b, b ∈ f1 ++ f3 → b < w.heap.size → w'.heap[b]? = w.heap[b]?) → (∀ m, m / 6 ≠ i + j → F' m = F m) → Cells6 F' (i + j) t' vk vs → TreeOwn w' t' vk vs fj → KidsRow w' F' (l.set j t') i ff
  | [], _, _, j, h, _ => by simp at h
  | t :: ts, i, ff, 0, _, h => by
    simp only [KidsRow] at h
    obtain ⟨vk, vs, f1, f2, rfl, hc, h1, h2⟩ := h
    refine ⟨[], f1, f2, vk, vs, by simp, hc, h1, fun w' F' t' hs hF hc' ht' => ?_⟩
    simp only [List.set_cons_zero, KidsRow]
    exact ⟨vk, vs, f1, f2, rfl, hc', ht', KidsRow.turn ts (i + 1) f2 h2 (fun b hb => hs b (by simp [hb])) fun m hm => hF m (by omega)⟩
  | t :: ts, i, ff, j + 1, hj, h => by
    simp only [KidsRow] at h
    obtain ⟨vk, vs, g1, g2, rfl, ⟨c0, c1, c2, c3, c4, c5⟩, h1, h2⟩ := h
    obtain ⟨f1, fj, f3, vk', vs', rfl, hc', ht', hall⟩ := KidsRow.split ts (i + 1) g2 j (by simpa using hj) h2
    rw [show i + 1 + j = i + (j + 1) by omega] at hc' hall
    refine ⟨g1 ++ f1, fj, f3, vk', vs', by simp, hc', ht', fun w' F' t' hs hF hc'' ht'' => ?_⟩
    simp only [List.set_cons_succ, KidsRow]
    have e : ∀ m, m / 6 = i → F' m = F m := fun m hm => hF m (by omega)
    exact ⟨vk, vs, g1, f1 ++ (fj ++ f3), rfl, ⟨by rw [e _ (by omega), c0], by rw [e _ (by omega), c1], by rw [e _ (by omega), c2], by rw [e _ (by omega), c3], by rw [e _ (by omega), c4], by rw [e _ (by omega), c5]⟩,
      TreeOwn.same t vk vs g1 h1 fun b hb => hs b (by simp [hb]), hall w' F' t' (fun b hb => hs b (by simp at hb ⊢; rcases hb with hb | hb <;> simp [hb])) hF hc'' ht''⟩

end Go.Proofs.YtpcojfcbomkgpaaDoor
namespace Go.Proofs.YtpcojfcbomkgpaaDoor
open Go.RowKit

def put4 (F : Nat → Value) (i : Nat) (v0 v1 v2 v3 : Value) : Nat → Value := fun j =>
  if j = i + 3 then v3 else if j = i + 2 then v2 else if j = i + 1 then v1 else if j = i then v0 else F j
theorem put4_new (F : Nat → Value) (i : Nat) (v0 v1 v2 v3 : Value) :
    put4 F i v0 v1 v2 v3 i = v0 ∧ put4 F i v0 v1 v2 v3 (i + 1) = v1 ∧ put4 F i v0 v1 v2 v3 (i + 2) = v2 ∧ put4 F i v0 v1 v2 v3 (i + 3) = v3 := by
  unfold put4
  refine ⟨?_, ?_, ?_, ?_⟩
  · rw [if_neg (by omega), if_neg (by omega), if_neg (by omega), if_pos rfl]
  · rw [if_neg (by omega), if_neg (by omega), if_pos rfl]
  · rw [if_neg (by omega), if_pos rfl]
  · rw [if_pos rfl]
theorem put4_old (F : Nat → Value) (i : Nat) (v0 v1 v2 v3 : Value) (m : Nat) (h : m < i ∨ i + 3 < m) : put4 F i v0 v1 v2 v3 m = F m := by
  unfold put4
  rw [if_neg (by omega), if_neg (by omega), if_neg (by omega), if_neg (by omega)]
theorem len_cnt : ∀ l : List Tr, l.length ≤ cntL l
  | [] => by simp [cntL]
  | t :: ts => by have := len_cnt ts; simp only [cntL, List.length_cons]; omega

def MarkT (N : Nat) : Prop := ∀ (l : List Tr) (a : Option Addr) (cap : Nat) (fp : List Nat) (k : Nat) (w : World), nodesL l < N → k + cntL l ≤ 1073741824 → fp.Nodup → KidsOwn w (.slice a l.length cap) l fp →
    Calls Tryd.prog 97 #[.slice a l.length cap, .int .i64 k] w fun e w' => e = .returned (.int .i64 ((k : Int) + (cntL l : Int))) ∧ KidsOwn w' (.slice a l.length cap) (markKids k l) fp ∧ Apart fp w w'

set_option maxRecDepth 100000 in
set_option maxHeartbeats 4000000 in
theorem markT : ∀ N, MarkT N
  | 0 => fun l a cap fp k w h _ _ _ => by omega
  | N + 1 => fun l a cap fp k w h hk hnd ho => by
    have HIH := Lib.hid (markT N)
    have hlc := len_cnt l
    have hq1 : l.length ≤ 1073741824 := by omega
    have HND := Lib.hid hnd; clear hnd
    go_enter Tryd.func97, Tryd.ntmps97
    go_wp2
    go_loopw [1, 5] (fun s1 s5 wr => ∃ j kk : Nat, j ≤ l.length ∧ s5 = .int .i64 j ∧ s1 = .int .i64 kk ∧ Hid (kk = k + cntL (l.take j)) ∧ Hid (KidsOwn wr (.slice a l.length cap) (partMarked k j l) fp) ∧ Apart fp w wr) (fun _ s5 _ => l.length - (intOf s5).toNat)
    case atStart => exact ⟨0, k, by omega, rfl, rfl, by simp [Hid, cntL], by unfold Hid; rw [partMarked_zero]; exact ho, Apart.refl _ _⟩
    case round =>
      obtain ⟨j, kk, hj, rfl, rfl, HKK, HO, hap⟩ := hrel
      clear ho
      by_cases hlt : j < l.length
      · have HPL := Lib.hid (partMarked_len k j l hj)
        rcases HO.out with ⟨e, _⟩ | ⟨g, cap', e, M, F, ff, hv, hfp, hrow, hM, hkr⟩
        · have := HPL.out; rw [e] at this; simp at this; omega
        simp only [Value.slice.injEq] at hv
        obtain ⟨rfl, -, rfl⟩ := hv
        obtain ⟨f1, fj, f3, vk, vs, hff, ⟨c0, c1, c2, c3, c4, c5⟩, hto, hall⟩ := KidsRow.split _ 0 ff j (by rw [HPL.out]; exact hlt) hkr
        rw [Nat.zero_add] at c0 c1 c2 c3 c4 c5
        rw [partMarked_at k j l hlt] at c0 c1 c2 c3 hto
        obtain ⟨fk, fs, hfj, hso, hko⟩ := treeOwn_iff.1 hto
        obtain ⟨a1, n1, rfl⟩ := str_shape hso
        obtain ⟨a2, n2, rfl⟩ := kids_shape hko
        have HALL := Lib.hid hall; clear hall hto hkr HO
        have HFP := Lib.hid (And.intro hfp (And.intro hff hfj)); clear hfp hff hfj
        have hcj := cntL_take l j hlt
        have hce := cnt_eq (kidAt l j)
        have hcl := cntL_le l (j + 1)
        have hnk := nodes_kid l j hlt
        have hne := nodes_eq (kidAt l j)
        have hkk := HKK.out
        have hM' : l.length * 6 ≤ M := by have := HPL.out; omega
        have HB := Lib.hid (show nodesL (kidAt l j).kids < N ∧ kk + 4 + (kidAt l j).keys.length + cntL (kidAt l j).kids ≤ 1073741824 ∧ kk + 4 + (kidAt l j).cnt = k + cntL (l.take (j + 1)) ∧ (kidAt l j).cnt = (kidAt l j).keys.length + cntL (kidAt l j).kids by omega)
        have hq2 : kk + 4 + (kidAt l j).keys.length ≤ 1073741824 := by have := HB.out; omega
        have hq3 : kk + 4 + (kidAt l j).keys.length + cntL (kidAt l j).kids ≤ 1073741824 := by have := HB.out; omega
        clear hcj hce hcl hnk hne hkk hM
        obtain ⟨fl, hfl⟩ : ∃ fl : Bool, fl = ((((kk : Int) + 1) % 3) == 0) := ⟨_, rfl⟩
        have hflN : decide ((kk + 1) % 3 = 0) = fl := by rw [hfl, Bool.eq_iff_iff]; simp; omega
        have HFL := Lib.hid hflN; clear hflN
        have d0 := hrow.cell (i := j * 6) (by omega)
        have d1 := hrow.cell (i := j * 6 + 1) (by omega)
        have d2 := hrow.cell (i := j * 6 + 2) (by omega)
        have f0 := hrow.frozen (j * 6)
        have g1 := hrow.frozen (j * 6 + 1)
        have g2 := hrow.frozen (j * 6 + 2)
        rw [c0] at d0; rw [c1] at d1; rw [c2] at d2
        have hfl' := hfl.symm
        clear hfl
        have C4 := Lib.hid c4; have C5 := Lib.hid c5
        clear c0 c1 c2 c3 c4 c5
        obtain ⟨ks, hks⟩ : ∃ ks : List ByteArray, ks = (kidAt l j).keys := ⟨_, rfl⟩
        obtain ⟨cs, hcs⟩ : ∃ cs : List Tr, cs = (kidAt l j).kids := ⟨_, rfl⟩
        have HKS := Lib.hid (And.intro hks hcs)
        rw [← hks] at hso C4 hq2 hq3; rw [← hcs] at hko C5 hq3
        clear hks hcs
        have hmt : ∀ w0 : World, Calls Tryd.prog 82 #[.int .i64 ((kk : Int) + 1 + 1 + 1)] w0 fun e w' => e = .returned (.string (mtext (kk + 3))) ∧ Below w0.heap.size w0 w' := fun w0 => by
          have := markText_any (kk + 3) w0 (by omega)
          rw [show ((kk : Int) + 1 + 1 + 1) = ((kk + 3 : Nat) : Int) by omega]; exact this
        have hms : ∀ w0 : World, StrOwn w0 (.slice a1 ks.length n1) ks fk → Calls Tryd.prog 34 #[.slice a1 ks.length n1, .int .i64 ((kk : Int) + 1 + 1 + 1 + 1)] w0 fun e w' =>
            e = .returned (.int .i64 ((kk : Int) + 4 + (ks.length : Int))) ∧ StrOwn w' (.slice a1 ks.length n1) (markStrs (kk + 4) ks.length) fk ∧ Apart fk w0 w' := fun w0 h0 => by
          have := markStringS_own ks a1 n1 fk (kk + 4) w0 (by omega) h0
          rw [show ((kk + 4 : Nat) : Int) = (kk : Int) + 4 by omega] at this
          rw [show ((kk : Int) + 1 + 1 + 1 + 1) = (kk : Int) + 4 by omega]; exact this
        have hmk : ∀ w0 : World, KidsOwn w0 (.slice a2 cs.length n2) cs fs → fs.Nodup → Calls Tryd.prog 97 #[.slice a2 cs.length n2, .int .i64 ((kk : Int) + 4 + (ks.length : Int))] w0 fun e w' =>
            e = .returned (.int .i64 ((kk : Int) + 4 + (ks.length : Int) + (cntL cs : Int))) ∧ KidsOwn w' (.slice a2 cs.length n2) (markKids (kk + 4 + ks.length) cs) fs ∧ Apart fs w0 w' := fun w0 h0 hf => by
          have := HIH.out cs a2 n2 fs (kk + 4 + ks.length) w0 (by have := HB.out.1; rw [← HKS.out.2] at this; exact this) hq3 hf h0
          rw [show ((kk + 4 + ks.length : Nat) : Int) = (kk : Int) + 4 + (ks.length : Int) by omega] at this
          exact this
        have hnd := HND.out
        rw [HFP.out.1, HFP.out.2.1, HFP.out.2.2] at hnd
        have hnd1 : g ∉ fk ∧ g ∉ fs ∧ fs.Nodup ∧ (∀ x, x ∈ fk → x ∉ fs) ∧ (∀ x, x ∈ f1 ++ f3 → x ≠ g ∧ x ∉ fk ∧ x ∉ fs) := by
          simp only [List.nodup_cons, List.nodup_append, List.mem_append, not_or] at hnd
          obtain ⟨⟨n1, ⟨⟨n2, n3⟩, n4⟩⟩, m1, ⟨⟨m2, m3, m4⟩, m5, m6⟩, m7⟩ := hnd
          refine ⟨n2, n3, m3, fun x hx hy => m4 x hx x hy rfl, fun x hx => ?_⟩
          rw [List.mem_append] at hx
          rcases hx with hx | hx
          · exact ⟨fun e => n1 (e ▸ hx), fun hy => m7 x hx x (.inl (.inl hy)) rfl, fun hy => m7 x hx x (.inl (.inr hy)) rfl⟩
          · exact ⟨fun e => n4 (e ▸ hx), fun hy => m6 x (.inl hy) x hx rfl, fun hy => m6 x (.inr hy) x hx rfl⟩
        have HN1 := Lib.hid hnd1; clear hnd hnd1
        have HMT := Lib.hid hmt; have HMS := Lib.hid hms; have HMK := Lib.hid hmk
        clear hmt hms hmk
        go_wp2_with fail
        refine (HMT.out _).mono ?_
        rintro e w2 ⟨rfl, hb2⟩
        have hrow2 := rowIs_keep (((hrow.set (j * 6) (.int .i64 kk)).set (j * 6 + 1) (.bool fl)).set (j * 6 + 2) (.int .i64 ((kk : Int) + 1 + 1))) hb2
        have hap2 : Apart [g] wr w2 := ((((Apart.refl [g] wr).setCell (p := ⟨g, j * 6, none⟩) (by simp) _).setCell (p := ⟨g, j * 6 + 1, none⟩) (by simp) _).setCell (p := ⟨g, j * 6 + 2, none⟩) (by simp) _).trans (Apart.of_below hb2 _)
        clear hb2 d0 d1 d2 f0 g1 g2
        have d3 : w2.cell? ⟨g, j * 6 + 3, none⟩ = some (F (j * 6 + 3)) := by rw [hrow2.cell (by omega)]; simp
        have d4 : w2.cell? ⟨g, j * 6 + 4, none⟩ = some (.slice a1 ks.length n1) := by rw [hrow2.cell (by omega)]; simp [C4.out]
        have f3' := hrow2.frozen (j * 6 + 3)
        have HR2 := Lib.hid hrow2
        go_wp2_with fail
        clear d3 d4 f3'
        have hrow3 := HR2.out.set (j * 6 + 3) (.string (mtext (kk + 3)))
        have hap3 : Apart [g] wr (w2.setCell ⟨g, j * 6 + 3, none⟩ (.string (mtext (kk + 3)))) := hap2.setCell (by simp) _
        refine (HMS.out _ (hso.same fun b hb hl => hap3.block b hl (by simp; intro e; subst e; exact HN1.out.1 hb))).mono ?_
        rintro e w4 ⟨rfl, hso4, hap4⟩
        have hrow4 := hap4.row hrow3 HN1.out.1
        have d5 : w4.cell? ⟨g, j * 6 + 5, none⟩ = some (.slice a2 cs.length n2) := by rw [hrow4.cell (by omega)]; simp [C5.out]
        have HR4 := Lib.hid hrow4
        have hko4 : KidsOwn w4 (.slice a2 cs.length n2) cs fs := (hko.same fun b hb hl => hap3.block b hl (by simp; intro e; subst e; exact HN1.out.2.1 hb)).same fun b hb hl => hap4.block b hl fun hx => HN1.out.2.2.2.1 b hx hb
        have HA := Lib.hid (And.intro hap3 hap4)
        have HK4 := Lib.hid (And.intro hso4 hko4)
        clear hap3 hap4 hso4 hko4 hrow3 hrow4 hap2 hrow2
        go_wp2_with fail
        refine (HMK.out _ HK4.out.2 HN1.out.2.2.1).mono ?_
        rintro e w5 ⟨rfl, hko5, hap5⟩
        go_wp2
        go_roundw
        case rel =>
          have hapl : ∀ x, x ∈ fk ++ fs → x ∈ fp := fun x hx => by rw [HFP.out.1, HFP.out.2.1, HFP.out.2.2]; simp only [List.mem_append, List.mem_cons] at hx ⊢; rcases hx with hx | hx <;> simp [hx]
          have hgf : g ∈ fp := by rw [HFP.out.1]; simp
          refine ⟨j + 1, kk + 4 + ks.length + cntL cs, by omega, by go_num, by go_num, ?_, ?_, ?_⟩
          · have := HB.out.2.2; rw [← HKS.out.1, ← HKS.out.2] at this; unfold Hid; omega
          · have hr5 := hap5.row HR4.out HN1.out.2.1
            have e5 := partMarked_succ k j l hlt
            rw [← HKK.out, topped_markTr, ← HKS.out.1, ← HKS.out.2, HFL.out] at e5
            refine .inr ⟨g, cap, e, M, _, f1 ++ ((fk ++ fs) ++ f3), by rw [partMarked_len k (j + 1) l (by omega)], by rw [HFP.out.1, HFP.out.2.1, HFP.out.2.2], hr5, by rw [partMarked_len k (j + 1) l (by omega)]; exact hM', ?_⟩
            rw [← e5]
            have := HALL.out w5 (fun i => if i = j * 6 + 3 then .string (mtext (kk + 3)) else if i = j * 6 + 2 then .int .i64 ((kk : Int) + 1 + 1) else if i = j * 6 + 1 then .bool fl else if i = j * 6 then .int .i64 kk else F i)
              (.mk (kk : Nat) fl ((kk + 2 : Nat) : Int) (mtext (kk + 3)) (markStrs (kk + 4) ks.length) (markKids (kk + 4 + ks.length) cs))
            rw [HFP.out.2.1, HFP.out.2.2] at this
            rw [← HKS.out.1, ← HKS.out.2] at this
            refine this (fun b hb hl => ?_) (fun m hm => ?_) ?_ ?_
            · obtain ⟨h1, h2, h3⟩ := HN1.out.2.2.2.2 b hb
              have l3 := HA.out.1.size
              have l4 := HA.out.2.size
              rw [hap5.block b (by omega) h3, HA.out.2.block b (by omega) h2, HA.out.1.block b hl (by simpa using h1)]
            · rw [if_neg (by omega), if_neg (by omega), if_neg (by omega), if_neg (by omega)]
            · rw [Nat.zero_add]
              refine ⟨by simp [Tr.kind], by simp [Tr.flag], ?_, by simp [Tr.text], by simp [C4.out], by simp [C5.out]⟩
              simp [Tr.num]; omega
            · refine treeOwn_iff.2 ⟨fk, fs, rfl, ?_, hko5⟩
              exact HK4.out.1.same fun b hb hl => hap5.block b hl (HN1.out.2.2.2.1 b hb)
          · exact (((hap.trans (HA.out.1.mono fun x hx => by simp at hx; rw [hx]; exact hgf)).trans (HA.out.2.mono fun x hx => hapl x (by simp [hx]))).trans (hap5.mono fun x hx => hapl x (by simp [hx])))
        case measure => simp [intOf]; omega
      · obtain rfl : j = l.length := by omega
        go_wp2
        go_ret
        refine ⟨ret_int (by have := HKK.out; rw [List.take_length] at this; omega), ?_, hap⟩
        have := HO.out
        rw [partMarked_end] at this; exact this

/-- markTree at a tree that the call has made. -/
theorem markTree_own (t : Tr) (vk vs : Value) (fp : List Nat) (k : Nat) (w : World) (hk : k + t.cnt ≤ 1073741824) (hnd : fp.Nodup) (ho : TreeOwn w t vk vs fp) :
    Calls Tryd.prog 33 #[.agg #[.int .i64 t.kind, .bool t.flag, .int .i64 t.num, .string t.text, vk, vs], .int .i64 k] w fun e w' => e = .returned (.int .i64 ((k : Int) + (t.cnt : Int))) ∧ TreeOwn w' (markTr k t) vk vs fp ∧ Apart fp w w' := by
  obtain ⟨fk, fs, rfl, hso, hko⟩ := treeOwn_iff.1 ho
  obtain ⟨a1, n1, rfl⟩ := str_shape hso
  obtain ⟨a2, n2, rfl⟩ := kids_shape hko
  clear ho
  have hc := cnt_eq t
  rw [hc] at hk
  have HC := Lib.hid hc; clear hc
  rw [List.nodup_append] at hnd
  have HND := Lib.hid hnd; clear hnd
  have hlf := hso.lt
  have hlg : ∀ b, b ∈ fs → b < w.heap.size := by
    rcases hko with ⟨_, rfl, _⟩ | ⟨g, cap, e, N, F, ff, h2, rfl, h3, h4, h5⟩
    · intro b hb; simp at hb
    · intro b hb
      rw [List.mem_cons] at hb
      rcases hb with rfl | hb
      · exact h3.lt
      · exact KidsRow.lt F _ 0 ff h5 b hb
  have HLF := Lib.hid (And.intro hlf hlg); clear hlf hlg
  have hal : Below w.heap.size w (w.alloc (.cells #[.int .i64 t.kind, .bool t.flag, .int .i64 t.num, .string t.text, .slice a1 t.keys.length n1, .slice a2 t.kids.length n2] 50)) := by repeat (first | exact Below.refl _ _ | (refine Below.alloc ?_ (by first | omega | (simp; done) | (simp; omega)) _) | (refine Below.setCell ?_ (by first | omega | (simp; done) | (simp; omega)) _) | (refine Below.drew ?_) | (refine below_drewN ?_ _))
  have hrow := World.rowIs_alloc w #[.int .i64 t.kind, .bool t.flag, .int .i64 t.num, .string t.text, .slice a1 t.keys.length n1, .slice a2 t.kids.length n2] 50 (lit6 (.int .i64 t.kind) (.bool t.flag) (.int .i64 t.num) (.string t.text) (.slice a1 t.keys.length n1) (.slice a2 t.kids.length n2)) (lit6_get _ _ _ _ _ _)
  have HAL := Lib.hid hal; clear hal
  have HR := Lib.hid hrow; clear hrow
  go_enter Tryd.func33, Tryd.ntmps33
  go_wp2_with fail
  refine (markStringS_own t.keys a1 n1 fk k _ (by omega) (hso.keep HAL.out)).mono ?_
  rintro e w2 ⟨rfl, hso2, hap2⟩
  have hrow2 := hap2.row HR.out (fun h => by have := HLF.out.1 _ h; omega)
  have d5 : w2.cell? ⟨w.heap.size, 5, none⟩ = some (.slice a2 t.kids.length n2) := hrow2.cell (by simp)
  have hko2 : KidsOwn w2 (.slice a2 t.kids.length n2) t.kids fs := (hko.keep HAL.out).same fun b hb hl => hap2.block b hl fun hx => HND.out.2.2 b hx b hb rfl
  have HS2 := Lib.hid (And.intro hso2 (And.intro hap2 hko2))
  clear hso2 hap2 hko2 hrow2
  go_wp2_with fail
  have hmk : ∀ w0 : World, KidsOwn w0 (.slice a2 t.kids.length n2) t.kids fs → Calls Tryd.prog 97 #[.slice a2 t.kids.length n2, .int .i64 ((k : Int) + (t.keys.length : Int))] w0 fun e w' =>
      e = .returned (.int .i64 ((k : Int) + (t.keys.length : Int) + (cntL t.kids : Int))) ∧ KidsOwn w' (.slice a2 t.kids.length n2) (markKids (k + t.keys.length) t.kids) fs ∧ Apart fs w0 w' := fun w0 h0 => by
    have := markT (nodesL t.kids + 1) t.kids a2 n2 fs (k + t.keys.length) w0 (by omega) (by omega) HND.out.2.1 h0
    rw [show ((k + t.keys.length : Nat) : Int) = (k : Int) + (t.keys.length : Int) by omega] at this
    exact this
  refine (hmk _ HS2.out.2.2).mono ?_
  rintro e w3 ⟨rfl, hko3, hap3⟩
  clear hmk
  go_wp2
  go_ret
  refine ⟨ret_int (by have := HC.out; omega), ?_, ?_⟩
  · rw [markTr_eq]
    exact treeOwn_iff.2 ⟨fk, fs, rfl, HS2.out.1.same fun b hb hl => hap3.block b hl fun hx => HND.out.2.2 b hb b hx rfl, hko3⟩
  · exact ((Apart.of_below HAL.out _).trans (HS2.out.2.1.mono fun x hx => by simp [hx])).trans (hap3.mono fun x hx => by simp [hx])

end Go.Proofs.YtpcojfcbomkgpaaDoor
namespace Go.Proofs.YtpcojfcbomkgpaaDoor
open Go.RowKit

def HeldT (N : Nat) : Prop := ∀ (l : List Tr) (S : Nat → Prop) (a : Option Addr) (cap : Nat) (k : Nat) (w : World), nodesL l < N → k + cntL l ≤ 1073741824 → KidsIn w S (.slice a l.length cap) (markKids k l) →
    Calls Tryd.prog 104 #[.slice a l.length cap, .int .i64 k] w fun e w' => e = .returned (.int .i64 ((k : Int) + (cntL l : Int))) ∧ Below w.heap.size w w'

set_option maxRecDepth 100000 in
set_option maxHeartbeats 4000000 in
theorem heldT : ∀ N, HeldT N
  | 0 => fun l S a cap k w h _ _ => by omega
  | N + 1 => fun l S a cap k w h hk hc => by
    have HIH := Lib.hid (heldT N)
    have hlc := len_cnt l
    have hq1 : l.length ≤ 1073741824 := by omega
    have HLN := Lib.hid (markKids_len k l)
    go_enter Tryd.func104, Tryd.ntmps104
    go_wp2
    go_loopw [1, 5] (fun s1 s5 wr => ∃ j kk : Nat, j ≤ l.length ∧ s5 = .int .i64 j ∧ s1 = .int .i64 kk ∧ Hid (kk = k + cntL (l.take j)) ∧ Below w.heap.size w wr) (fun _ s5 _ => l.length - (intOf s5).toNat)
    case atStart => exact ⟨0, k, by omega, rfl, rfl, by simp [Hid, cntL], Below.refl _ _⟩
    case round =>
      obtain ⟨j, kk, hj, rfl, rfl, HKK, hb⟩ := hrel
      by_cases hlt : j < l.length
      · obtain ⟨b, o, vk, vs, rfl, ⟨c0, c1, c2, c3, c4, c5⟩, hin⟩ := (hc.keep hb).at (j := j) (by rw [HLN.out]; exact hlt)
        rw [markKids_at l k j hlt, ← HKK.out, topped_markTr] at c0 c1 c2 c3 hin
        rw [kind_mk] at c0; rw [flag_mk] at c1; rw [num_mk] at c2; rw [text_mk] at c3
        obtain ⟨hk1, hs1⟩ := treeIn_iff.1 hin
        rw [keys_mk] at hk1; rw [kids_mk] at hs1
        obtain ⟨a1, n1, rfl⟩ := hk1.len
        obtain ⟨a2, n2, rfl⟩ := hs1.len
        rw [markStrs_len] at c4 hk1
        rw [markKids_len] at c5 hs1
        clear hc hin
        have hcj := cntL_take l j hlt
        have hce := cnt_eq (kidAt l j)
        have hcl := cntL_le l (j + 1)
        have hnk := nodes_kid l j hlt
        have hne := nodes_eq (kidAt l j)
        have hkk := HKK.out
        have HB := Lib.hid (show nodesL (kidAt l j).kids < N ∧ kk + 4 + (kidAt l j).keys.length + cntL (kidAt l j).kids ≤ 1073741824 ∧ kk + 4 + (kidAt l j).cnt = k + cntL (l.take (j + 1)) ∧ (kidAt l j).cnt = (kidAt l j).keys.length + cntL (kidAt l j).kids by omega)
        have hq2 : kk + 4 + (kidAt l j).keys.length ≤ 1073741824 := by have := HB.out; omega
        have hq3 : kk + 4 + (kidAt l j).keys.length + cntL (kidAt l j).kids ≤ 1073741824 := by have := HB.out; omega
        clear hcj hce hcl hnk hne hkk
        obtain ⟨fl, hfl⟩ : ∃ fl : Bool, fl = ((((kk : Int) + 1) % 3) == 0) := ⟨_, rfl⟩
        have hflN : decide ((kk + 1) % 3 = 0) = fl := by rw [hfl, Bool.eq_iff_iff]; simp; omega
        rw [hflN] at c1
        have hfl' := hfl.symm
        clear hfl hflN
        obtain ⟨ks, hks⟩ : ∃ ks : List ByteArray, ks = (kidAt l j).keys := ⟨_, rfl⟩
        obtain ⟨cs, hcs⟩ : ∃ cs : List Tr, cs = (kidAt l j).kids := ⟨_, rfl⟩
        have HKS := Lib.hid (And.intro hks hcs)
        rw [← hks] at hk1 c4 hq2 hq3; rw [← hcs, ← hks] at hs1; rw [← hcs] at c5 hq3
        clear hks hcs
        have hmt : ∀ w0 : World, Calls Tryd.prog 82 #[.int .i64 ((kk : Int) + 1 + 1 + 1)] w0 fun e w' => e = .returned (.string (mtext (kk + 3))) ∧ Below w0.heap.size w0 w' := fun w0 => by
          have := markText_any (kk + 3) w0 (by omega)
          rw [show ((kk : Int) + 1 + 1 + 1) = ((kk + 3 : Nat) : Int) by omega]; exact this
        have hms : ∀ w0 : World, StrsIn w0 S (.slice a1 ks.length n1) (markStrs (kk + 4) ks.length) → Calls Tryd.prog 35 #[.slice a1 ks.length n1, .int .i64 ((kk : Int) + 1 + 1 + 1 + 1)] w0 fun e w' =>
            e = .returned (.int .i64 ((kk : Int) + 4 + (ks.length : Int))) ∧ Below w0.heap.size w0 w' := fun w0 h0 => by
          have := heldStringS_in ks.length S a1 n1 (kk + 4) w0 (by omega) h0
          rw [show ((kk + 4 : Nat) : Int) = (kk : Int) + 4 by omega] at this
          rw [show ((kk : Int) + 1 + 1 + 1 + 1) = (kk : Int) + 4 by omega]; exact this
        have hmk : ∀ w0 : World, KidsIn w0 S (.slice a2 cs.length n2) (markKids (kk + 4 + ks.length) cs) → Calls Tryd.prog 104 #[.slice a2 cs.length n2, .int .i64 ((kk : Int) + 4 + (ks.length : Int))] w0 fun e w' =>
            e = .returned (.int .i64 ((kk : Int) + 4 + (ks.length : Int) + (cntL cs : Int))) ∧ Below w0.heap.size w0 w' := fun w0 h0 => by
          have := HIH.out cs S a2 n2 (kk + 4 + ks.length) w0 (by have := HB.out.1; rw [← HKS.out.2] at this; exact this) hq3 h0
          rw [show ((kk + 4 + ks.length : Nat) : Int) = (kk : Int) + 4 + (ks.length : Int) by omega] at this
          exact this
        have HMT := Lib.hid hmt; have HMS := Lib.hid hms; have HMK := Lib.hid hmk
        clear hmt hms hmk
        have he : ((mtext (kk + 3)).toList != (mtext (kk + 3)).toList) = false := by simp [bne]
        have hz1 : (0 : Int) ≤ (kk : Int) + 4 + (ks.length : Int) := by omega
        have hz2 : (0 : Int) ≤ (kk : Int) + 4 + (ks.length : Int) + (cntL cs : Int) := by omega
        go_wp2_with fail
        have c3d : wr.drew.cell? ⟨b, o + j * 6 + 3, none⟩ = some (.string (mtext (kk + 3))) := c3
        have C4 := Lib.hid c4; have C5 := Lib.hid c5
        have HB0 := Lib.hid hb
        clear c0 c1 c2 c4 c5
        go_region_with (go_at_call 82; refine (HMT.out _).mono ?_; rintro e w1 ⟨rfl, hb1⟩; have c31 := bkeep hb1 c3d)
        all_goals
          have hbw : Below w.heap.size w w1 := bnext HB0.out.drew hb1
          have hbd : Below wr.heap.size wr w1 := ((Below.refl _ _).drew).trans hb1
          have c4 := bkeep hbd C4.out
          have c5 := bkeep hbd C5.out
          have HBW := Lib.hid (And.intro hbw hbd)
          clear hb1 hbw hbd
          go_wp2_with fail
          refine (HMS.out _ (hk1.keep HBW.out.2)).mono ?_
          rintro e w2 ⟨rfl, hb2⟩
          have c52 := bkeep hb2 c5
          have HB2 := Lib.hid hb2
          clear hb2 c4 c5
          go_wp2_with fail
          refine (HMK.out _ ((hs1.keep HBW.out.2).keep HB2.out)).mono ?_
          rintro e w3 ⟨rfl, hb3⟩
          go_wp2
          go_roundw
          case rel => exact ⟨j + 1, kk + 4 + ks.length + cntL cs, by omega, by go_num, by go_num, by have := HB.out.2.2; rw [← HKS.out.1, ← HKS.out.2] at this; unfold Hid; omega, bnext (bnext HBW.out.1 HB2.out) hb3⟩
          case measure => simp [intOf]; omega
      · obtain rfl : j = l.length := by omega
        go_wp2
        go_ret
        refine ⟨ret_int (by have := HKK.out; rw [List.take_length] at this; omega), hb⟩

/-- heldTree at a tree that bears its marks. -/
theorem heldTree_in (t : Tr) (S : Nat → Prop) (vk vs : Value) (k : Nat) (w : World) (hk : k + t.cnt ≤ 1073741824) (ht : TreeIn w S (markTr k t) vk vs) :
    Calls Tryd.prog 40 #[.agg #[.int .i64 t.kind, .bool t.flag, .int .i64 t.num, .string t.text, vk, vs], .int .i64 k] w fun e w' => e = .returned (.int .i64 ((k : Int) + (t.cnt : Int))) ∧ Below w.heap.size w w' := by
  rw [markTr_eq] at ht
  obtain ⟨hk1, hs1⟩ := treeIn_iff.1 ht
  rw [keys_mk] at hk1; rw [kids_mk] at hs1
  obtain ⟨a1, n1, rfl⟩ := hk1.len
  obtain ⟨a2, n2, rfl⟩ := hs1.len
  rw [markStrs_len] at hk1
  rw [markKids_len] at hs1
  clear ht
  have hc := cnt_eq t
  rw [hc] at hk
  have HC := Lib.hid hc; clear hc
  have HLK := Lib.hid (markStrs_len k t.keys.length)
  have HLS := Lib.hid (markKids_len (k + t.keys.length) t.kids)
  rw [HLK.out, HLS.out]
  have hz1 : (0 : Int) ≤ (k : Int) + (t.keys.length : Int) := by omega
  have hz2 : (0 : Int) ≤ (k : Int) + (t.keys.length : Int) + (cntL t.kids : Int) := by omega
  have hmk : ∀ w0 : World, KidsIn w0 S (.slice a2 t.kids.length n2) (markKids (k + t.keys.length) t.kids) → Calls Tryd.prog 104 #[.slice a2 t.kids.length n2, .int .i64 ((k : Int) + (t.keys.length : Int))] w0 fun e w' =>
      e = .returned (.int .i64 ((k : Int) + (t.keys.length : Int) + (cntL t.kids : Int))) ∧ Below w0.heap.size w0 w' := fun w0 h0 => by
    have := heldT (nodesL t.kids + 1) t.kids S a2 n2 (k + t.keys.length) w0 (by omega) (by omega) h0
    rw [show ((k + t.keys.length : Nat) : Int) = (k : Int) + (t.keys.length : Int) by omega] at this
    exact this
  have HMK := Lib.hid hmk; clear hmk
  go_enter Tryd.func40, Tryd.ntmps40
  go_wp2_with fail
  refine (heldStringS_in t.keys.length S a1 n1 k _ (by omega) (hk1.keep (by repeat (first | exact Below.refl _ _ | (refine Below.alloc ?_ (by first | omega | (simp; done) | (simp; omega)) _) | (refine Below.setCell ?_ (by first | omega | (simp; done) | (simp; omega)) _) | (refine Below.drew ?_) | (refine below_drewN ?_ _))))).mono ?_
  rintro e w2 ⟨rfl, hb2⟩
  have hbw2 : Below w.heap.size w w2 := bnext (by repeat (first | exact Below.refl _ _ | (refine Below.alloc ?_ (by first | omega | (simp; done) | (simp; omega)) _) | (refine Below.setCell ?_ (by first | omega | (simp; done) | (simp; omega)) _) | (refine Below.drew ?_) | (refine below_drewN ?_ _))) hb2
  obtain ⟨hc1, hf1⟩ := bcell hb2
  have hz3 := hb2.size
  simp at hz3
  clear hb2
  go_wp2_with fail
  refine (HMK.out _ (hs1.keep hbw2)).mono ?_
  rintro e w3 ⟨rfl, hb3⟩
  go_wp2
  go_ret
  exact ⟨ret_int (by have := HC.out; omega), bnext hbw2 hb3⟩

end Go.Proofs.YtpcojfcbomkgpaaDoor
namespace Go.Proofs.YtpcojfcbomkgpaaDoor
open Go.RowKit

/-- A tree without keys and children lies anywhere. -/
theorem leaf_own (w : World) (k : Int) (f : Bool) (n : Int) (s : ByteArray) : TreeOwn w (.mk k f n s [] []) (.slice none 0 0) (.slice none 0 0) [] :=
  treeOwn_iff.2 ⟨[], [], rfl, .inl ⟨rfl, rfl, none, 0, rfl⟩, .inl ⟨rfl, rfl, none, 0, rfl⟩⟩
theorem leaf_in (w : World) (k : Int) (f : Bool) (n : Int) (s : ByteArray) : TreeIn w Any (.mk k f n s [] []) (.slice none 0 0) (.slice none 0 0) :=
  TreeOwn.toIn _ _ _ _ (leaf_own w k f n s) (fun _ _ => trivial)
theorem leaf_mark (k : Int) (f : Bool) (n : Int) (s : ByteArray) (j : Nat) : markTr j (.mk k f n s [] []) = .mk k f n s [] [] := by simp only [markTr, markStrs, markKids]; rfl
theorem leaf_cnt (k : Int) (f : Bool) (n : Int) (s : ByteArray) : (Tr.mk k f n s [] []).cnt = 0 := rfl
theorem apart_nil {w w' : World} (h : Apart [] w w') : Below w.heap.size w w' := h.below (Nat.le_refl _) fun x hx => by simp at hx

/-- eqTree, markTree, heldTree at a tree without keys and children. -/
theorem eqLeaf (k : Int) (f : Bool) (n : Int) (s : ByteArray) (w : World) (hs : s.size ≤ 1048576) :
    Calls Tryd.prog 32 #[.agg #[.int .i64 k, .bool f, .int .i64 n, .string s, .slice none 0 0, .slice none 0 0], .agg #[.int .i64 k, .bool f, .int .i64 n, .string s, .slice none 0 0, .slice none 0 0]] w fun e w' => e = .returned (.bool true) ∧ Below w.heap.size w w' :=
  eqTree_any (.mk k f n s [] []) Any Any _ _ _ _ w (by simp [Tr.wt, strWt, wtL]; omega) (leaf_in _ _ _ _ _) (leaf_in _ _ _ _ _)
theorem markLeaf (k : Int) (f : Bool) (n : Int) (s : ByteArray) (w : World) :
    Calls Tryd.prog 33 #[.agg #[.int .i64 k, .bool f, .int .i64 n, .string s, .slice none 0 0, .slice none 0 0], .int .i64 1] w fun e w' => e = .returned (.int .i64 1) ∧ Below w.heap.size w w' :=
  (markTree_own (.mk k f n s [] []) _ _ [] 1 w (by rw [leaf_cnt]; omega) List.nodup_nil (leaf_own _ _ _ _ _)).mono fun _ _ h => ⟨h.1, apart_nil h.2.2⟩
theorem heldLeaf (k : Int) (f : Bool) (n : Int) (s : ByteArray) (w : World) :
    Calls Tryd.prog 40 #[.agg #[.int .i64 k, .bool f, .int .i64 n, .string s, .slice none 0 0, .slice none 0 0], .int .i64 1] w fun e w' => e = .returned (.int .i64 1) ∧ Below w.heap.size w w' :=
  heldTree_in (.mk k f n s [] []) Any _ _ 1 w (by rw [leaf_cnt]; omega) (by rw [leaf_mark]; exact leaf_in _ _ _ _ _)

theorem sIntTree (n : Int) (w : World) : Calls Tryd.prog 115 #[.int .i64 n] w fun e w' => e = .returned (.agg #[.int .i64 3, .bool false, .int .i64 n, .string ⟨#[]⟩, .slice none 0 0, .slice none 0 0]) ∧ Below w.heap.size w w' := by
  go_enter Tryd.func115, Tryd.ntmps115
  go_wp2
  refine bodyPost_ret (v := .agg #[.int .i64 3, .bool false, .int .i64 n, .string ⟨#[]⟩, .slice none 0 0, .slice none 0 0]) (by simp [results, Tryd.results115, go_sem]) rfl ⟨rfl, alloc_below _ _ _⟩

theorem iIntTree (n : Int) (w : World) : Calls Tryd.prog 53 #[.int .i64 n] w fun e w' => e = .returned (.agg #[.int .i64 3, .bool false, .int .i64 n, .string ⟨#[]⟩, .slice none 0 0, .slice none 0 0]) ∧ Below w.heap.size w w' := by
  go_enter Tryd.func53, Tryd.ntmps53
  go_wp2
  refine bodyPost_ret (v := .agg #[.int .i64 3, .bool false, .int .i64 n, .string ⟨#[]⟩, .slice none 0 0, .slice none 0 0]) (by simp [results, Tryd.results53, go_sem]) rfl ⟨rfl, alloc_below _ _ _⟩

theorem sTextTree (s : ByteArray) (w : World) : Calls Tryd.prog 161 #[.string s] w fun e w' => e = .returned (.agg #[.int .i64 4, .bool false, .int .i64 0, .string s, .slice none 0 0, .slice none 0 0]) ∧ Below w.heap.size w w' := by
  go_enter Tryd.func161, Tryd.ntmps161
  go_wp2
  refine bodyPost_ret (v := .agg #[.int .i64 4, .bool false, .int .i64 0, .string s, .slice none 0 0, .slice none 0 0]) (by simp [results, Tryd.results161, go_sem]) rfl ⟨rfl, alloc_below _ _ _⟩

theorem iTextTree (s : ByteArray) (w : World) : Calls Tryd.prog 52 #[.string s] w fun e w' => e = .returned (.agg #[.int .i64 4, .bool false, .int .i64 0, .string s, .slice none 0 0, .slice none 0 0]) ∧ Below w.heap.size w w' := by
  go_enter Tryd.func52, Tryd.ntmps52
  go_wp2
  refine bodyPost_ret (v := .agg #[.int .i64 4, .bool false, .int .i64 0, .string s, .slice none 0 0, .slice none 0 0]) (by simp [results, Tryd.results52, go_sem]) rfl ⟨rfl, alloc_below _ _ _⟩

end Go.Proofs.YtpcojfcbomkgpaaDoor
namespace Go.Proofs.YtpcojfcbomkgpaaDoor
open Go.RowKit

/-- The first place of a string in a list, counted from i; -1. -/
def findIx (key : ByteArray) : List ByteArray → Nat → Int
  | [], _ => -1
  | x :: xs, i => if (x.toList == key.toList) = true then (i : Int) else findIx key xs (i + 1)
theorem findIx_at (key : ByteArray) : ∀ (l : List ByteArray) (k i : Nat), k < l.length → findIx key (l.drop k) i = if ((strAt l k).toList == key.toList) = true then (i : Int) else findIx key (l.drop (k + 1)) (i + 1)
  | [], k, _, h => by simp at h
  | x :: xs, 0, i, _ => by simp [findIx, strAt]
  | x :: xs, k + 1, i, h => by
    have := findIx_at key xs k i (by simpa using h)
    simpa [strAt] using this
theorem findIx_end (key : ByteArray) (l : List ByteArray) (i : Nat) : findIx key (l.drop l.length) i = -1 := by simp [findIx]
theorem findIx_bd (key : ByteArray) : ∀ (l : List ByteArray) (i : Nat), -1 ≤ findIx key l i ∧ findIx key l i < i + l.length
  | [], i => by simp [findIx]; omega
  | x :: xs, i => by
    have := findIx_bd key xs (i + 1)
    simp only [findIx, List.length_cons]
    split <;> omega
def keyIx (key : ByteArray) (t : Tr) : Int := if (t.kind == 6) = true then findIx key t.keys 0 else -1

theorem slicesIndexS (l : List ByteArray) (S : Nat → Prop) (a : Option Addr) (cap : Nat) (key : ByteArray) (w : World) (hn : l.length ≤ 1048576) (hc : StrsIn w S (.slice a l.length cap) l) :
    Calls Tryd.prog 116 #[.slice a l.length cap, .string key] w fun e w' => e = .returned (.int .i64 (findIx key l 0)) ∧ Below w.heap.size w w' := by
  go_enter Tryd.func116, Tryd.ntmps116
  go_wp2
  go_loopw [8] (fun i wr => ∃ k : Nat, k ≤ l.length ∧ i = .int .i64 k ∧ Hid (findIx key l 0 = findIx key (l.drop k) k) ∧ Below w.heap.size w wr) (fun i _ => l.length - (intOf i).toNat)
  case atStart => exact ⟨0, by omega, rfl, by simp [Hid], Below.refl _ _⟩
  case round =>
    obtain ⟨k, hk, rfl, HI, hb⟩ := hrel
    by_cases hlt : k < l.length
    · obtain ⟨b, o, rfl, hcell⟩ := (hc.keep hb).at hlt
      have c0 := hcell k hlt
      clear hcell hc
      have HS := Lib.hid (findIx_at key l k k hlt)
      cases he : (key.toList == (strAt l k).toList)
      · have he2 : ((strAt l k).toList == key.toList) = false := by rw [← he]; exact Bool.beq_comm
        go_wp2
        go_roundw
        case rel => exact ⟨k + 1, by omega, by go_num, by unfold Hid; rw [HI.out, HS.out, he2]; simp, hb⟩
        case measure => simp [intOf]; omega
      · have he2 : ((strAt l k).toList == key.toList) = true := by rw [← he]; exact Bool.beq_comm
        go_wp2
        go_ret
        exact ⟨ret_int (by rw [HI.out, HS.out, he2]; simp), hb⟩
    · obtain rfl : k = l.length := by omega
      go_wp2
      go_ret
      exact ⟨ret_int (by rw [HI.out, findIx_end]), hb⟩

theorem iKeyAt (t : Tr) (S : Nat → Prop) (vk vs : Value) (key : ByteArray) (w : World) (hn : t.keys.length ≤ 1048576) (ht : TreeIn w S t vk vs) :
    Calls Tryd.prog 57 #[.agg #[.int .i64 t.kind, .bool t.flag, .int .i64 t.num, .string t.text, vk, vs], .string key] w fun e w' => e = .returned (.int .i64 (keyIx key t)) ∧ Below w.heap.size w w' := by
  obtain ⟨hk, hs⟩ := treeIn_iff.1 ht
  obtain ⟨a1, m1, rfl⟩ := hk.len
  obtain ⟨a2, m2, rfl⟩ := hs.len
  clear ht hs
  have HK : Hid (keyIx key t = if (t.kind == 6) = true then findIx key t.keys 0 else -1) := rfl
  cases h6 : (t.kind == 6)
  · have h6' : (t.kind != 6) = true := by simp [bne, h6]
    go_enter Tryd.func57, Tryd.ntmps57
    go_wp2
    go_ret
    exact ⟨ret_int (by rw [HK.out, h6]; rfl), by repeat (first | exact Below.refl _ _ | (refine Below.alloc ?_ (by first | omega | (simp; done) | (simp; omega)) _) | (refine Below.setCell ?_ (by first | omega | (simp; done) | (simp; omega)) _) | (refine Below.drew ?_) | (refine below_drewN ?_ _))⟩
  · have h6' : (t.kind != 6) = false := by simp [bne, h6]
    go_enter Tryd.func57, Tryd.ntmps57
    go_wp2_with fail
    refine (slicesIndexS t.keys S _ _ key _ hn (hk.keep (by repeat (first | exact Below.refl _ _ | (refine Below.alloc ?_ (by first | omega | (simp; done) | (simp; omega)) _) | (refine Below.setCell ?_ (by first | omega | (simp; done) | (simp; omega)) _) | (refine Below.drew ?_) | (refine below_drewN ?_ _))))).mono ?_
    rintro e w1 ⟨rfl, hb1⟩
    go_wp2
    go_ret
    exact ⟨ret_int (by rw [HK.out, h6]; rfl), bnext (by repeat (first | exact Below.refl _ _ | (refine Below.alloc ?_ (by first | omega | (simp; done) | (simp; omega)) _) | (refine Below.setCell ?_ (by first | omega | (simp; done) | (simp; omega)) _) | (refine Below.drew ?_) | (refine below_drewN ?_ _))) hb1⟩

end Go.Proofs.YtpcojfcbomkgpaaDoor
namespace Go.Proofs.YtpcojfcbomkgpaaDoor
open Go.RowKit

/-- A fresh local of type Tree. -/
def ZeroAt (w : World) (b : Nat) : Prop := w.rowIs b 50 6 (lit6 (.int .i64 0) (.bool false) (.int .i64 0) (.string ⟨#[]⟩) (.slice none 0 0) (.slice none 0 0))
theorem ZeroAt.new (w : World) : ZeroAt (w.alloc (.cells #[.int .i64 0, .bool false, .int .i64 0, .string ⟨#[]⟩, .slice none 0 0, .slice none 0 0] 50)) w.heap.size := World.rowIs_alloc w #[.int .i64 0, .bool false, .int .i64 0, .string ⟨#[]⟩, .slice none 0 0, .slice none 0 0] 50 (lit6 (.int .i64 0) (.bool false) (.int .i64 0) (.string ⟨#[]⟩) (.slice none 0 0) (.slice none 0 0)) (lit6_get _ _ _ _ _ _)
theorem ZeroAt.keep {w w' : World} {b : Nat} (h : ZeroAt w b) (hb : Below w.heap.size w w') : ZeroAt w' b := rowIs_keep h hb
theorem ZeroAt.lt {w : World} {b : Nat} (h : ZeroAt w b) : b < w.heap.size := World.rowIs.lt h
theorem ZeroAt.cells {w : World} {b : Nat} (h : ZeroAt w b) : w.cell? ⟨b, 0, none⟩ = some (.int .i64 0) ∧ w.cell? ⟨b, 1, none⟩ = some (.bool false) ∧ w.cell? ⟨b, 2, none⟩ = some (.int .i64 0) ∧
    w.cell? ⟨b, 3, none⟩ = some (.string ⟨#[]⟩) ∧ w.cell? ⟨b, 4, none⟩ = some (.slice none 0 0) ∧ w.cell? ⟨b, 5, none⟩ = some (.slice none 0 0) := by
  unfold ZeroAt at h
  exact ⟨h.cell (by omega), h.cell (by omega), h.cell (by omega), h.cell (by omega), h.cell (by omega), h.cell (by omega)⟩
theorem ZeroAt.frozen {w : World} {b : Nat} (h : ZeroAt w b) : w.frozen? ⟨b, 0, none⟩ = false ∧ w.frozen? ⟨b, 1, none⟩ = false ∧ w.frozen? ⟨b, 2, none⟩ = false ∧
    w.frozen? ⟨b, 3, none⟩ = false ∧ w.frozen? ⟨b, 4, none⟩ = false ∧ w.frozen? ⟨b, 5, none⟩ = false := by
  unfold ZeroAt at h
  exact ⟨h.frozen 0, h.frozen 1, h.frozen 2, h.frozen 3, h.frozen 4, h.frozen 5⟩
/-- The world behind six stores into one block. -/
def put6w (w : World) (b : Nat) (v0 v1 v2 v3 v4 v5 : Value) : World :=
  (((((w.setCell ⟨b, 0, none⟩ v0).setCell ⟨b, 1, none⟩ v1).setCell ⟨b, 2, none⟩ v2).setCell ⟨b, 3, none⟩ v3).setCell ⟨b, 4, none⟩ v4).setCell ⟨b, 5, none⟩ v5
theorem put6w_heap (w : World) (b : Nat) (v0 v1 v2 v3 v4 v5 : Value) (k : Nat) (h : k ≠ b) : (put6w w b v0 v1 v2 v3 v4 v5).heap[k]? = w.heap[k]? := by
  unfold put6w
  rw [Below.heap_setCell _ _ _ _ h, Below.heap_setCell _ _ _ _ h, Below.heap_setCell _ _ _ _ h, Below.heap_setCell _ _ _ _ h, Below.heap_setCell _ _ _ _ h, Below.heap_setCell _ _ _ _ h]
theorem put6w_below {w0 w : World} {B : Nat} (hb : Below B w0 w) (b : Nat) (h : B ≤ b) (v0 v1 v2 v3 v4 v5 : Value) : Below B w0 (put6w w b v0 v1 v2 v3 v4 v5) :=
  (((((hb.setCell (p := ⟨b, 0, none⟩) h _).setCell (p := ⟨b, 1, none⟩) h _).setCell (p := ⟨b, 2, none⟩) h _).setCell (p := ⟨b, 3, none⟩) h _).setCell (p := ⟨b, 4, none⟩) h _).setCell (p := ⟨b, 5, none⟩) h _
theorem put6w_new {w0 w : World} {B b : Nat} {t : Tr} {vk vs : Value} {fp : List Nat} (ho : TreeOwn w t vk vs fp) (hn : fp.Nodup) (hge : ∀ x, x ∈ fp → B ≤ x ∧ x ≠ b) (hb : Below B w0 w) (h : B ≤ b) (v0 v1 v2 v3 v4 v5 : Value) :
    TreeNew B t (.returned (.agg #[.int .i64 t.kind, .bool t.flag, .int .i64 t.num, .string t.text, vk, vs])) (put6w w b v0 v1 v2 v3 v4 v5) ∧ Below B w0 (put6w w b v0 v1 v2 v3 v4 v5) :=
  ⟨⟨vk, vs, fp, rfl, TreeOwn.same _ _ _ _ ho fun x hx _ => put6w_heap _ _ _ _ _ _ _ _ _ (hge x hx).2, hn, fun x hx => (hge x hx).1⟩, put6w_below hb b h _ _ _ _ _ _⟩

/-- The list l as a tree. -/
def listTr (l : List Tr) : Tr := .mk 5 false 0 ⟨#[]⟩ [] l

set_option maxHeartbeats 1000000 in
theorem iListTree (l : List Tr) (S : Nat → Prop) (a : Option Addr) (cap : Nat) (w : World) (hw : l.length + wtL l ≤ 1048576) (hc : KidsIn w S (.slice a l.length cap) l) :
    Calls Tryd.prog 43 #[.slice a l.length cap] w fun e w' => TreeNew w.heap.size (listTr l) e w' ∧ Below w.heap.size w w' := by
  have hz := ZeroAt.new w
  have hal := alloc_below w #[.int .i64 0, .bool false, .int .i64 0, .string ⟨#[]⟩, .slice none 0 0, .slice none 0 0] 50
  have HZ := Lib.hid (And.intro hz hal); clear hz hal
  go_enter Tryd.func43, Tryd.ntmps43
  go_wp2_with fail
  refine (copyTrees_of (copyT (nodesL l)) l S a cap _ (Nat.le_refl _) hw (hc.keep HZ.out.2)).mono ?_
  rintro e w1 ⟨⟨v1, fs, rfl, hko, hnd, hge⟩, hb1⟩
  obtain ⟨a1, n1, rfl⟩ := kids_shape hko
  have hz1 := HZ.out.1.keep hb1
  obtain ⟨r0, r1, r2, r3, r4, r5⟩ := hz1.cells
  obtain ⟨g0, g1, g2, g3, g4, g5⟩ := hz1.frozen
  have HN := Lib.hid (And.intro hko (And.intro hnd (And.intro hge (bnext HZ.out.2 hb1))))
  clear hz1 hko hnd hge hb1
  go_wp2
  refine bodyPost_ret (v := .agg #[.int .i64 5, .bool false, .int .i64 0, .string ⟨#[]⟩, .slice none 0 0, .slice a1 l.length n1]) (by simp [results, Tryd.results43, go_sem, r0, r1, r2, r3, r4, r5]) rfl ?_
  obtain ⟨hko, hnd, hge, hbw⟩ := HN.out
  refine put6w_new (t := listTr l) (vk := .slice none 0 0) (treeOwn_iff.2 ⟨[], fs, rfl, .inl ⟨rfl, rfl, none, 0, rfl⟩, hko⟩) hnd (fun x hx => ?_) hbw (Nat.le_refl _) _ _ _ _ _ _
  have := hge x hx
  simp at this
  omega

theorem listTr_wt (l : List Tr) : (listTr l).wt = l.length + wtL l := by
  simp only [listTr, Tr.wt]
  have h1 : strWt [] = 0 := rfl
  have h2 : ByteArray.size ⟨#[]⟩ = 0 := rfl
  omega

set_option maxHeartbeats 1000000 in
theorem sListTree (l : List Tr) (S : Nat → Prop) (a : Option Addr) (cap : Nat) (w : World) (hw : l.length + wtL l ≤ 1048576) (hc : KidsIn w S (.slice a l.length cap) l) :
    Calls Tryd.prog 162 #[.slice a l.length cap] w fun e w' => TreeNew w.heap.size (listTr l) e w' ∧ Below w.heap.size w w' := by
  have hz := ZeroAt.new w
  have hal := alloc_below w #[.int .i64 0, .bool false, .int .i64 0, .string ⟨#[]⟩, .slice none 0 0, .slice none 0 0] 50
  have HZ := Lib.hid (And.intro hz hal); clear hz hal
  have HW := Lib.hid (listTr_wt l)
  go_enter Tryd.func162, Tryd.ntmps162
  go_wp2_with fail
  refine (lcopyT (listTr l).nodes (listTr l) S (.slice none 0 0) (.slice a l.length cap) _ (Nat.le_refl _) (by rw [HW.out]; exact hw) (treeIn_iff.2 ⟨⟨none, 0, rfl, .inl rfl⟩, hc.keep HZ.out.2⟩)).mono ?_
  rintro e w1 ⟨⟨vk, vs, fp, rfl, hto, hnd, hge⟩, hb1⟩
  obtain ⟨fk, fs, -, hso, hko⟩ := treeOwn_iff.1 hto
  obtain ⟨a1, n1, rfl⟩ := str_shape hso
  obtain ⟨a2, n2, rfl⟩ := kids_shape hko
  clear hso hko
  have hz1 := HZ.out.1.keep hb1
  obtain ⟨r0, r1, r2, r3, r4, r5⟩ := hz1.cells
  obtain ⟨g0, g1, g2, g3, g4, g5⟩ := hz1.frozen
  have HN := Lib.hid (And.intro hto (And.intro hnd (And.intro hge (bnext HZ.out.2 hb1))))
  clear hz1 hto hnd hge hb1
  go_wp2
  refine bodyPost_ret (v := .agg #[.int .i64 (listTr l).kind, .bool (listTr l).flag, .int .i64 (listTr l).num, .string (listTr l).text, .slice a1 (listTr l).keys.length n1, .slice a2 (listTr l).kids.length n2]) (by simp [results, Tryd.results162, go_sem, r0, r1, r2, r3, r4, r5]) rfl ?_
  obtain ⟨hto, hnd, hge, hbw⟩ := HN.out
  refine put6w_new (t := listTr l) hto hnd (fun x hx => ?_) hbw (Nat.le_refl _) _ _ _ _ _ _
  have := hge x hx
  simp at this
  omega

/-- Does KidOf find a child? -/
def kidHit (key : ByteArray) (t : Tr) : Bool := decide (0 ≤ keyIx key t) && decide (t.keys.length = t.kids.length)
def kidTr (key : ByteArray) (t : Tr) : Tr := if kidHit key t = true then kidAt t.kids (keyIx key t).toNat else noTree
/-- A tree and a bool come back, the tree on blocks of its own. -/
def TreeNew2 (B : Nat) (t : Tr) (c : Bool) (e : Ending) (w' : World) : Prop :=
  ∃ vk vs fp, e = .returned (.tuple #[.agg #[.int .i64 t.kind, .bool t.flag, .int .i64 t.num, .string t.text, vk, vs], .bool c]) ∧ TreeOwn w' t vk vs fp ∧ fp.Nodup ∧ ∀ b, b ∈ fp → B ≤ b
theorem keyIx_lt (key : ByteArray) (t : Tr) : keyIx key t < t.keys.length := by
  unfold keyIx
  split
  · have := (findIx_bd key t.keys 0).2; omega
  · omega
theorem noTree_own (w : World) : TreeOwn w noTree (.slice none 0 0) (.slice none 0 0) [] := treeOwn_iff.2 ⟨[], [], rfl, .inl ⟨rfl, rfl, none, 0, rfl⟩, .inl ⟨rfl, rfl, none, 0, rfl⟩⟩
theorem noTree_new (w : World) (B : Nat) : TreeNew2 B noTree false (.returned (.tuple #[.agg #[.int .i64 0, .bool false, .int .i64 0, .string ⟨#[]⟩, .slice none 0 0, .slice none 0 0], .bool false])) w :=
  ⟨_, _, [], rfl, noTree_own w, List.nodup_nil, fun b hb => by simp at hb⟩

set_option maxHeartbeats 1000000 in
theorem iKidOf (t : Tr) (S : Nat → Prop) (vk vs : Value) (key : ByteArray) (w : World) (hw : t.wt ≤ 1048576) (ht : TreeIn w S t vk vs) :
    Calls Tryd.prog 56 #[.agg #[.int .i64 t.kind, .bool t.flag, .int .i64 t.num, .string t.text, vk, vs], .string key] w fun e w' => TreeNew2 w.heap.size (kidTr key t) (kidHit key t) e w' ∧ Below w.heap.size w w' := by
  have hwt := wt_eq t
  have hkw := strWt_eq t.keys
  have hn : t.keys.length ≤ 1048576 := by omega
  have hn2 : t.kids.length ≤ 1048576 := by omega
  have HWK := Lib.hid (show wtL t.kids ≤ 1048576 by omega)
  clear hwt hkw hw
  obtain ⟨hk, hs⟩ := treeIn_iff.1 ht
  obtain ⟨a1, m1, rfl⟩ := hk.len
  obtain ⟨a2, m2, rfl⟩ := hs.len
  have hz := ZeroAt.new (w.alloc (.cells #[.int .i64 t.kind, .bool t.flag, .int .i64 t.num, .string t.text, .slice a1 t.keys.length m1, .slice a2 t.kids.length m2] 50))
  have hsp := (Spill.new w t (.slice a1 t.keys.length m1) (.slice a2 t.kids.length m2) 50).keep (alloc_below _ #[.int .i64 0, .bool false, .int .i64 0, .string ⟨#[]⟩, .slice none 0 0, .slice none 0 0] 50)
  rw [World.size_alloc] at hz
  have hal : Below w.heap.size w ((w.alloc (.cells #[.int .i64 t.kind, .bool t.flag, .int .i64 t.num, .string t.text, .slice a1 t.keys.length m1, .slice a2 t.kids.length m2] 50)).alloc (.cells #[.int .i64 0, .bool false, .int .i64 0, .string ⟨#[]⟩, .slice none 0 0, .slice none 0 0] 50)) := by repeat (first | exact Below.refl _ _ | (refine Below.alloc ?_ (by first | omega | (simp; done) | (simp; omega)) _) | (refine Below.setCell ?_ (by first | omega | (simp; done) | (simp; omega)) _) | (refine Below.drew ?_) | (refine below_drewN ?_ _))
  have HZ := Lib.hid (And.intro hz (And.intro hsp hal)); clear hz hsp hal
  have HK1 : Hid (kidHit key t = (decide (0 ≤ keyIx key t) && decide (t.keys.length = t.kids.length))) := rfl
  have HK2 : Hid (kidTr key t = if kidHit key t = true then kidAt t.kids (keyIx key t).toNat else noTree) := rfl
  by_cases hhit : 0 ≤ keyIx key t ∧ t.keys.length = t.kids.length
  · obtain ⟨h0, hl⟩ := hhit
    have HE := Lib.hid (show kidHit key t = true by rw [HK1.out]; simp [h0, hl])
    obtain ⟨i, hi⟩ : ∃ i : Nat, keyIx key t = i := ⟨(keyIx key t).toNat, by omega⟩
    have HT := Lib.hid (show kidTr key t = kidAt t.kids i by rw [HK2.out, HE.out, if_pos rfl, hi]; rfl)
    have hlt : i < t.kids.length := by have := keyIx_lt key t; omega
    have hne : ((t.keys.length : Int) != (t.kids.length : Int)) = false := by simp [hl]
    have HKI := Lib.hid (show ∀ W : World, TreeIn W S t (.slice a1 t.keys.length m1) (.slice a2 t.kids.length m2) → Calls Tryd.prog 57 #[.agg #[.int .i64 t.kind, .bool t.flag, .int .i64 t.num, .string t.text, .slice a1 t.keys.length m1, .slice a2 t.kids.length m2], .string key] W fun e w' => e = .returned (.int .i64 (i : Int)) ∧ Below W.heap.size W w' from fun W hW => by
      have := iKeyAt t S _ _ key W hn hW
      rw [hi] at this; exact this)
    clear hi h0 hl HK1 HK2
    obtain ⟨b, o, vk, vs, rfl, hcs, hin⟩ := hs.at hlt
    obtain ⟨hk1, hs1⟩ := treeIn_iff.1 hin
    obtain ⟨a3, n3, rfl⟩ := hk1.len
    obtain ⟨a4, n4, rfl⟩ := hs1.len
    clear hk1 hs1 hk hs
    have hwk := wt_kid t.kids i hlt
    go_enter Tryd.func56, Tryd.ntmps56
    go_wp2_with fail
    refine (HKI.out _ (ht.keep HZ.out.2.2)).mono ?_
    rintro e w1 ⟨rfl, hb1⟩
    have hbw1 := bnext HZ.out.2.2 hb1
    have hsp1 := HZ.out.2.1.keep hb1
    have hz1 := HZ.out.1.keep hb1
    obtain ⟨p0, p1, p2, p3, p4, p5⟩ := hsp1.cells
    obtain ⟨c0, c1, c2, c3, c4, c5⟩ := TrCells.same (S := Any) (SameOn.of_below hbw1) trivial hcs
    have HB1 := Lib.hid (And.intro hbw1 hz1)
    clear hb1 hsp1 hz1 hbw1 hcs
    go_wp2_with fail
    refine (copyT (kidAt t.kids i).nodes (kidAt t.kids i) S _ _ _ (Nat.le_refl _) (by have := HWK.out; omega) (hin.keep HB1.out.1)).mono ?_
    rintro e w2 ⟨⟨k2, s2, fp, rfl, hto, hnd, hge⟩, hb2⟩
    obtain ⟨fk, fs, -, hso, hko⟩ := treeOwn_iff.1 hto
    obtain ⟨a5, n5, rfl⟩ := str_shape hso
    obtain ⟨a6, n6, rfl⟩ := kids_shape hko
    clear hso hko
    have hz2 := HB1.out.2.keep hb2
    obtain ⟨r0, r1, r2, r3, r4, r5⟩ := hz2.cells
    obtain ⟨g0, g1, g2, g3, g4, g5⟩ := hz2.frozen
    have hlz := HB1.out.2.lt
    have HN := Lib.hid (And.intro hto (And.intro hnd (And.intro hge (And.intro (bnext HB1.out.1 hb2) (And.intro hlz HB1.out.1.size)))))
    clear hz2 hto hnd hge hb2 hlz p0 p1 p2 p3 p4 p5
    go_wp2
    refine bodyPost_ret (v := .tuple #[.agg #[.int .i64 (kidAt t.kids i).kind, .bool (kidAt t.kids i).flag, .int .i64 (kidAt t.kids i).num, .string (kidAt t.kids i).text, .slice a5 (kidAt t.kids i).keys.length n5, .slice a6 (kidAt t.kids i).kids.length n6], .bool true]) (by simp [results, Tryd.results56, go_sem, r0, r1, r2, r3, r4, r5]) rfl ?_
    obtain ⟨hto, hnd, hge, hbw, hlz, hsz⟩ := HN.out
    rw [HT.out, HE.out]
    obtain ⟨⟨k3, s3, f3, e3, ho3, hn3, hg3⟩, hbl⟩ := put6w_new (b := w.heap.size + 1) hto hnd (fun x hx => by have := hge x hx; exact ⟨by omega, by omega⟩) hbw (by omega) (.int .i64 (kidAt t.kids i).kind) (.bool (kidAt t.kids i).flag) (.int .i64 (kidAt t.kids i).num) (.string (kidAt t.kids i).text) (.slice a5 (kidAt t.kids i).keys.length n5) (.slice a6 (kidAt t.kids i).kids.length n6)
    injection e3 with e3
    exact ⟨⟨k3, s3, f3, by rw [e3], ho3, hn3, hg3⟩, hbl⟩
  · have HE := Lib.hid (show kidHit key t = false by rw [HK1.out, ← Bool.decide_and, decide_eq_false_iff_not]; exact hhit)
    have HT := Lib.hid (show kidTr key t = noTree by rw [HK2.out, HE.out]; rfl)
    clear HK1 HK2
    by_cases h0 : keyIx key t < 0
    rotate_left
    · have hne : ((t.keys.length : Int) != (t.kids.length : Int)) = true := by simp [bne]; omega
      clear hhit
      go_enter Tryd.func56, Tryd.ntmps56
      go_wp2_with fail
      refine (iKeyAt t S _ _ key _ hn (ht.keep HZ.out.2.2)).mono ?_
      rintro e w1 ⟨rfl, hb1⟩
      have hbw1 := bnext HZ.out.2.2 hb1
      have hsp1 := HZ.out.2.1.keep hb1
      have hz1 := HZ.out.1.keep hb1
      obtain ⟨p0, p1, p2, p3, p4, p5⟩ := hsp1.cells
      obtain ⟨r0, r1, r2, r3, r4, r5⟩ := hz1.cells
      obtain ⟨g0, g1, g2, g3, g4, g5⟩ := hz1.frozen
      clear hsp1 hz1 hb1
      go_wp2
      refine bodyPost_ret (v := .tuple #[.agg #[.int .i64 0, .bool false, .int .i64 0, .string ⟨#[]⟩, .slice none 0 0, .slice none 0 0], .bool false]) (by simp [results, Tryd.results56, go_sem, r0, r1, r2, r3, r4, r5]) rfl ?_
      rw [HT.out, HE.out]
      exact ⟨noTree_new _ _, put6w_below hbw1 (w.heap.size + 1) (by omega) _ _ _ _ _ _⟩
    · clear hhit
      go_enter Tryd.func56, Tryd.ntmps56
      go_wp2_with fail
      refine (iKeyAt t S _ _ key _ hn (ht.keep HZ.out.2.2)).mono ?_
      rintro e w1 ⟨rfl, hb1⟩
      have hbw1 := bnext HZ.out.2.2 hb1
      have hz1 := HZ.out.1.keep hb1
      obtain ⟨r0, r1, r2, r3, r4, r5⟩ := hz1.cells
      obtain ⟨g0, g1, g2, g3, g4, g5⟩ := hz1.frozen
      clear hz1 hb1
      go_wp2
      refine bodyPost_ret (v := .tuple #[.agg #[.int .i64 0, .bool false, .int .i64 0, .string ⟨#[]⟩, .slice none 0 0, .slice none 0 0], .bool false]) (by simp [results, Tryd.results56, go_sem, r0, r1, r2, r3, r4, r5]) rfl ?_
      rw [HT.out, HE.out]
      exact ⟨noTree_new _ _, put6w_below hbw1 (w.heap.size + 1) (by omega) _ _ _ _ _ _⟩

end Go.Proofs.YtpcojfcbomkgpaaDoor
namespace Go.Proofs.YtpcojfcbomkgpaaDoor
open Go.RowKit Go.Deep Go.ChangeShapes Go.WideShapes

/-- The tree t in the local b, its slices holding what u has, with all that it owns, in blocks from lo on and below hi. -/
structure GTree (w : World) (lo hi b : Nat) (t u : Tr) (vk vs : Value) (fp : List Nat) : Prop where
  sp : Spill w b t vk vs
  own : TreeOwn w u vk vs fp
  nd : fp.Nodup
  bb : lo ≤ b ∧ b < hi
  fb : ∀ x, x ∈ fp → lo ≤ x ∧ x < hi ∧ x ≠ b
theorem GTree.keep {w w' : World} {lo hi b : Nat} {t u : Tr} {vk vs : Value} {fp : List Nat} (h : GTree w lo hi b t u vk vs fp) (hb : Below w.heap.size w w') : GTree w' lo hi b t u vk vs fp :=
  ⟨h.sp.keep hb, h.own.keep hb, h.nd, h.bb, h.fb⟩
theorem GTree.far {w w' : World} {lo hi b : Nat} {t u : Tr} {vk vs : Value} {fp L : List Nat} (h : GTree w lo hi b t u vk vs fp) (ha : Apart L w w') (hd : ∀ x, x ∈ L → x < lo ∨ hi ≤ x) : GTree w' lo hi b t u vk vs fp := by
  refine ⟨h.sp.of_block (ha.block _ h.sp.lt fun hx => ?_), TreeOwn.same _ _ _ _ h.own fun x hx hl => ha.block x hl fun hy => ?_, h.nd, h.bb, h.fb⟩
  · have := hd _ hx; have := h.bb; omega
  · have := hd _ hy; have := h.fb x hx; omega
theorem GTree.marked {w w' : World} {lo hi b : Nat} {t u u' : Tr} {vk vs : Value} {fp : List Nat} (h : GTree w lo hi b t u vk vs fp) (ha : Apart fp w w') (ho : TreeOwn w' u' vk vs fp) : GTree w' lo hi b t u' vk vs fp :=
  ⟨h.sp.of_block (ha.block _ h.sp.lt fun hx => (h.fb _ hx).2.2 rfl), ho, h.nd, h.bb, h.fb⟩
theorem GTree.tin {w : World} {lo hi b : Nat} {t u : Tr} {vk vs : Value} {fp : List Nat} (h : GTree w lo hi b t u vk vs fp) : TreeIn w Any u vk vs := TreeOwn.toIn _ _ _ _ h.own (fun _ _ => trivial)
theorem GTree.new {w : World} {B : Nat} {t : Tr} {vk vs : Value} {fp : List Nat} (ho : TreeOwn w t vk vs fp) (hn : fp.Nodup) (hge : ∀ x, x ∈ fp → B ≤ x) (hB : B ≤ w.heap.size) (e : TypeId) :
    GTree (w.alloc (.cells #[.int .i64 t.kind, .bool t.flag, .int .i64 t.num, .string t.text, vk, vs] e)) B (w.heap.size + 1) w.heap.size t t vk vs fp :=
  ⟨Spill.new w t vk vs e, ho.keep (alloc_below _ _ _), hn, ⟨hB, by omega⟩, fun x hx => by have := TreeOwn.lt _ _ _ _ ho x hx; exact ⟨hge x hx, by omega, by omega⟩⟩
theorem TreeOwn.shape {w : World} {t : Tr} {vk vs : Value} {fp : List Nat} (h : TreeOwn w t vk vs fp) : ∃ a n b m, vk = .slice a t.keys.length n ∧ vs = .slice b t.kids.length m := by
  obtain ⟨fk, fs, -, h1, h2⟩ := treeOwn_iff.1 h
  obtain ⟨a, n, rfl⟩ := str_shape h1
  obtain ⟨b, m, rfl⟩ := kids_shape h2
  exact ⟨a, n, b, m, rfl, rfl⟩

/-- The list l of trees at v, with all that it owns. -/
structure GKids (w : World) (lo hi : Nat) (l : List Tr) (v : Value) (fp : List Nat) : Prop where
  own : KidsOwn w v l fp
  nd : fp.Nodup
  fb : ∀ x, x ∈ fp → lo ≤ x ∧ x < hi
theorem KidsOwn.lt {w : World} {v : Value} {l : List Tr} {fp : List Nat} (h : KidsOwn w v l fp) : ∀ b, b ∈ fp → b < w.heap.size := by
  rcases h with ⟨_, rfl, _⟩ | ⟨g, cap, e, N, F, ff, h2, rfl, h3, h4, h5⟩
  · intro b hb; simp at hb
  · intro b hb
    rw [List.mem_cons] at hb
    rcases hb with rfl | hb
    · exact h3.lt
    · exact KidsRow.lt F _ 0 ff h5 b hb
theorem GKids.keep {w w' : World} {lo hi : Nat} {l : List Tr} {v : Value} {fp : List Nat} (h : GKids w lo hi l v fp) (hb : Below w.heap.size w w') : GKids w' lo hi l v fp := ⟨h.own.keep hb, h.nd, h.fb⟩
theorem GKids.far {w w' : World} {lo hi : Nat} {l : List Tr} {v : Value} {fp L : List Nat} (h : GKids w lo hi l v fp) (ha : Apart L w w') (hd : ∀ x, x ∈ L → x < lo ∨ hi ≤ x) : GKids w' lo hi l v fp :=
  ⟨h.own.same fun x hx hl => ha.block x hl fun hy => by have := hd _ hy; have := h.fb x hx; omega, h.nd, h.fb⟩
theorem GKids.tin {w : World} {lo hi : Nat} {l : List Tr} {v : Value} {fp : List Nat} (h : GKids w lo hi l v fp) : KidsIn w Any v l := h.own.toIn (fun _ _ => trivial)
theorem GKids.new {w : World} {B : Nat} {l : List Tr} {v : Value} {fp : List Nat} (ho : KidsOwn w v l fp) (hn : fp.Nodup) (hge : ∀ x, x ∈ fp → B ≤ x) : GKids w B w.heap.size l v fp :=
  ⟨ho, hn, fun x hx => ⟨hge x hx, ho.lt x hx⟩⟩

theorem Spill.far {w w' : World} {b : Nat} {t : Tr} {vk vs : Value} {L : List Nat} (h : Spill w b t vk vs) (ha : Apart L w w') (hd : b ∉ L) : Spill w' b t vk vs := h.of_block (ha.block _ h.lt hd)
theorem below_apart {W w w' : World} {L : List Nat} {lo : Nat} (h : Below W.heap.size W w) (ha : Apart L w w') (hd : ∀ x, x ∈ L → lo ≤ x) (hl : W.heap.size ≤ lo) : Below W.heap.size W w' :=
  h.trans (ha.below h.size fun x hx => Nat.le_trans hl (hd x hx))

mutual
theorem cnt_wt : ∀ t : Tr, t.cnt ≤ 4 * t.wt
  | .mk _ _ _ s keys kids => by
    have := cntL_wt kids
    have h : strWt keys = keys.length + sizes keys := strWt_eq keys
    simp only [Tr.cnt, Tr.wt]; omega
theorem cntL_wt : ∀ l : List Tr, cntL l ≤ 4 * (l.length + wtL l)
  | [] => by simp [cntL]
  | t :: ts => by
    have := cnt_wt t
    have := cntL_wt ts
    simp only [cntL, wtL, List.length_cons]; omega
end

set_option maxRecDepth 100000 in
/-- A list of trees that came in. -/
theorem openTrees {H : Type} {enc : TypeId × Value → H} {W : World} {base : Nat} {v : Value} {d : DataW H} {p : List MemPlace} (hval : Value.okWide Tryd.prog W .any base 43 v)
    (h : DataW.Trod enc Tryd.prog W 0 (fun _ => true) true 43 v d p) :
    ∃ (a : Option Addr) (cap : Nat) (l : List Tr), v = .slice a l.length cap ∧ KidsIn W Any (.slice a l.length cap) l ∧ fitsL l ∧ l.length ≤ maxLen := by
  obtain ⟨a, len, cap, rfl⟩ := okWide_slice Tryd.underlying43 hval
  obtain ⟨fuel, hf⟩ := h
  obtain ⟨l, h1, h2, h3⟩ := openKids (N := fuel) (fun f hfl cs x hx => openTreeC f f (Nat.le_refl _) cs x hx) (Nat.le_succ _) hf
  obtain ⟨a', cap', e⟩ := h1.len
  rw [e] at h1
  exact ⟨a', cap', l, e, h1, h2, h3.1⟩

theorem mark1 (t : Tr) (vk vs : Value) (fp : List Nat) (w : World) (m : Int) (hm : m = 1 + (t.cnt : Int)) (hw : t.wt ≤ 1048576) (hnd : fp.Nodup) (ho : TreeOwn w t vk vs fp) :
    Calls Tryd.prog 33 #[.agg #[.int .i64 t.kind, .bool t.flag, .int .i64 t.num, .string t.text, vk, vs], .int .i64 1] w fun e w' => e = .returned (.int .i64 m) ∧ TreeOwn w' (markTr 1 t) vk vs fp ∧ Apart fp w w' := by
  have := markTree_own t vk vs fp 1 w (by have := cnt_wt t; omega) hnd ho
  rw [hm]; exact this
theorem held1 (t : Tr) (S : Nat → Prop) (vk vs : Value) (w : World) (m : Int) (hm : m = 1 + (t.cnt : Int)) (hw : t.wt ≤ 1048576) (ht : TreeIn w S (markTr 1 t) vk vs) :
    Calls Tryd.prog 40 #[.agg #[.int .i64 t.kind, .bool t.flag, .int .i64 t.num, .string t.text, vk, vs], .int .i64 1] w fun e w' => e = .returned (.int .i64 m) ∧ Below w.heap.size w w' := by
  have := heldTree_in t S vk vs 1 w (by have := cnt_wt t; omega) ht
  rw [hm]; exact this
theorem markS1 (l : List Tr) (a : Option Addr) (cap : Nat) (fp : List Nat) (w : World) (m : Int) (hm : m = 1 + (cntL l : Int)) (hw : l.length + wtL l ≤ 1048576) (hnd : fp.Nodup) (ho : KidsOwn w (.slice a l.length cap) l fp) :
    Calls Tryd.prog 97 #[.slice a l.length cap, .int .i64 1] w fun e w' => e = .returned (.int .i64 m) ∧ KidsOwn w' (.slice a l.length cap) (markKids 1 l) fp ∧ Apart fp w w' := by
  have := markT (nodesL l + 1) l a cap fp 1 w (by omega) (by have := cntL_wt l; omega) hnd ho
  rw [hm]; exact this
theorem kidTr_wt (key : ByteArray) (t : Tr) : (kidTr key t).wt ≤ t.wt := by
  unfold kidTr
  split
  · rename_i h
    unfold kidHit at h
    simp only [Bool.and_eq_true, decide_eq_true_eq] at h
    have := keyIx_lt key t
    have h2 := wt_kid t.kids (keyIx key t).toNat (by omega)
    have := wt_eq t
    omega
  · have : noTree.wt = 0 := rfl
    omega

theorem mark_pos {m : Int} {n : Nat} (h : m = 1 + (n : Int)) : 1 ≤ m := by omega

end Go.Proofs.YtpcojfcbomkgpaaDoor
