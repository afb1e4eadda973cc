/- What a law keeps while it marks its results: trees and lists of trees with all that they own, between two block numbers. -/
import Derived.Test.YtkfkdljahgdfjaaTreeM
import Derived.Deep.DeepCutAuto
namespace Go.Proofs.Ytkfkdljahgdfjaa
open Go.RowKit Go.Deep Go.ChangeShapes Go.WideShapes

/-- The tree t in the local b, its slices holding what u has, with all that it owns, in blocks from lo on and below hi. -/
structure GTree (w : World) (lo hi b : Nat) (t u : Tr) (vk vs : Value) (fp : List Nat) : Prop where
  sp : Spill w b t vk vs
  own : TreeOwn w u vk vs fp
  nd : fp.Nodup
  bb : lo ≤ b ∧ b < hi
  fb : ∀ x, x ∈ fp → lo ≤ x ∧ x < hi ∧ x ≠ b
theorem GTree.keep {w w' : World} {lo hi b : Nat} {t u : Tr} {vk vs : Value} {fp : List Nat} (h : GTree w lo hi b t u vk vs fp) (hb : Below w.heap.size w w') : GTree w' lo hi b t u vk vs fp :=
  ⟨h.sp.keep hb, h.own.keep hb, h.nd, h.bb, h.fb⟩
theorem GTree.far {w w' : World} {lo hi b : Nat} {t u : Tr} {vk vs : Value} {fp L : List Nat} (h : GTree w lo hi b t u vk vs fp) (ha : Apart L w w') (hd : ∀ x, x ∈ L → x < lo ∨ hi ≤ x) : GTree w' lo hi b t u vk vs fp := by
  refine ⟨h.sp.of_block (ha.block _ h.sp.lt fun hx => ?_), TreeOwn.same _ _ _ _ h.own fun x hx hl => ha.block x hl fun hy => ?_, h.nd, h.bb, h.fb⟩
  · have := hd _ hx; have := h.bb; omega
  · have := hd _ hy; have := h.fb x hx; omega
theorem GTree.marked {w w' : World} {lo hi b : Nat} {t u u' : Tr} {vk vs : Value} {fp : List Nat} (h : GTree w lo hi b t u vk vs fp) (ha : Apart fp w w') (ho : TreeOwn w' u' vk vs fp) : GTree w' lo hi b t u' vk vs fp :=
  ⟨h.sp.of_block (ha.block _ h.sp.lt fun hx => (h.fb _ hx).2.2 rfl), ho, h.nd, h.bb, h.fb⟩
theorem GTree.tin {w : World} {lo hi b : Nat} {t u : Tr} {vk vs : Value} {fp : List Nat} (h : GTree w lo hi b t u vk vs fp) : TreeIn w Any u vk vs := TreeOwn.toIn _ _ _ _ h.own (fun _ _ => trivial)
theorem GTree.new {w : World} {B : Nat} {t : Tr} {vk vs : Value} {fp : List Nat} (ho : TreeOwn w t vk vs fp) (hn : fp.Nodup) (hge : ∀ x, x ∈ fp → B ≤ x) (hB : B ≤ w.heap.size) (e : TypeId) :
    GTree (w.alloc (.cells #[.int .i64 t.kind, .bool t.flag, .int .i64 t.num, .string t.text, vk, vs] e)) B (w.heap.size + 1) w.heap.size t t vk vs fp :=
  ⟨Spill.new w t vk vs e, ho.keep (alloc_below _ _ _), hn, ⟨hB, by omega⟩, fun x hx => by have := TreeOwn.lt _ _ _ _ ho x hx; exact ⟨hge x hx, by omega, by omega⟩⟩
theorem TreeOwn.shape {w : World} {t : Tr} {vk vs : Value} {fp : List Nat} (h : TreeOwn w t vk vs fp) : ∃ a n b m, vk = .slice a t.keys.length n ∧ vs = .slice b t.kids.length m := by
  obtain ⟨fk, fs, -, h1, h2⟩ := treeOwn_iff.1 h
  obtain ⟨a, n, rfl⟩ := str_shape h1
  obtain ⟨b, m, rfl⟩ := kids_shape h2
  exact ⟨a, n, b, m, rfl, rfl⟩

/-- The list l of trees at v, with all that it owns. -/
structure GKids (w : World) (lo hi : Nat) (l : List Tr) (v : Value) (fp : List Nat) : Prop where
  own : KidsOwn w v l fp
  nd : fp.Nodup
  fb : ∀ x, x ∈ fp → lo ≤ x ∧ x < hi
theorem KidsOwn.lt {w : World} {v : Value} {l : List Tr} {fp : List Nat} (h : KidsOwn w v l fp) : ∀ b, b ∈ fp → b < w.heap.size := by
  rcases h with ⟨_, rfl, _⟩ | ⟨g, cap, e, N, F, ff, h2, rfl, h3, h4, h5⟩
  · intro b hb; simp at hb
  · intro b hb
    rw [List.mem_cons] at hb
    rcases hb with rfl | hb
    · exact h3.lt
    · exact KidsRow.lt F _ 0 ff h5 b hb
theorem GKids.keep {w w' : World} {lo hi : Nat} {l : List Tr} {v : Value} {fp : List Nat} (h : GKids w lo hi l v fp) (hb : Below w.heap.size w w') : GKids w' lo hi l v fp := ⟨h.own.keep hb, h.nd, h.fb⟩
theorem GKids.far {w w' : World} {lo hi : Nat} {l : List Tr} {v : Value} {fp L : List Nat} (h : GKids w lo hi l v fp) (ha : Apart L w w') (hd : ∀ x, x ∈ L → x < lo ∨ hi ≤ x) : GKids w' lo hi l v fp :=
  ⟨h.own.same fun x hx hl => ha.block x hl fun hy => by have := hd _ hy; have := h.fb x hx; omega, h.nd, h.fb⟩
theorem GKids.tin {w : World} {lo hi : Nat} {l : List Tr} {v : Value} {fp : List Nat} (h : GKids w lo hi l v fp) : KidsIn w Any v l := h.own.toIn (fun _ _ => trivial)
theorem GKids.new {w : World} {B : Nat} {l : List Tr} {v : Value} {fp : List Nat} (ho : KidsOwn w v l fp) (hn : fp.Nodup) (hge : ∀ x, x ∈ fp → B ≤ x) : GKids w B w.heap.size l v fp :=
  ⟨ho, hn, fun x hx => ⟨hge x hx, ho.lt x hx⟩⟩

theorem Spill.far {w w' : World} {b : Nat} {t : Tr} {vk vs : Value} {L : List Nat} (h : Spill w b t vk vs) (ha : Apart L w w') (hd : b ∉ L) : Spill w' b t vk vs := h.of_block (ha.block _ h.lt hd)
theorem below_apart {W w w' : World} {L : List Nat} {lo : Nat} (h : Below W.heap.size W w) (ha : Apart L w w') (hd : ∀ x, x ∈ L → lo ≤ x) (hl : W.heap.size ≤ lo) : Below W.heap.size W w' :=
  h.trans (ha.below h.size fun x hx => Nat.le_trans hl (hd x hx))

mutual
theorem cnt_wt : ∀ t : Tr, t.cnt ≤ 4 * t.wt
  | .mk _ _ _ s keys kids => by
    have := cntL_wt kids
    have h : strWt keys = keys.length + sizes keys := strWt_eq keys
    simp only [Tr.cnt, Tr.wt]; omega
theorem cntL_wt : ∀ l : List Tr, cntL l ≤ 4 * (l.length + wtL l)
  | [] => by simp [cntL]
  | t :: ts => by
    have := cnt_wt t
    have := cntL_wt ts
    simp only [cntL, wtL, List.length_cons]; omega
end

/-- A list of trees that came in. -/
theorem openTrees {H : Type} {enc : TypeId × Value → H} {W : World} {base : Nat} {v : Value} {d : DataW H} {p : List MemPlace} (hval : Value.okWide Try.prog W .any base 23 v)
    (h : DataW.Trod enc Try.prog W 0 (fun _ => true) true 23 v d p) :
    ∃ (a : Option Addr) (cap : Nat) (l : List Tr), v = .slice a l.length cap ∧ KidsIn W Any (.slice a l.length cap) l ∧ fitsL l ∧ l.length ≤ maxLen := by
  obtain ⟨a, len, cap, rfl⟩ := okWide_slice Try.underlying23 hval
  obtain ⟨fuel, hf⟩ := h
  obtain ⟨l, h1, h2, h3⟩ := openKids (N := fuel) (fun f hfl cs x hx => openTreeC f f (Nat.le_refl _) cs x hx) (Nat.le_succ _) hf
  obtain ⟨a', cap', e⟩ := h1.len
  rw [e] at h1
  exact ⟨a', cap', l, e, h1, h2, h3⟩

theorem mark1 (t : Tr) (vk vs : Value) (fp : List Nat) (w : World) (m : Int) (hm : m = 1 + (t.cnt : Int)) (hw : t.wt ≤ 1048576) (hnd : fp.Nodup) (ho : TreeOwn w t vk vs fp) :
    Calls Try.prog 25 #[.agg #[.int .i64 t.kind, .bool t.flag, .int .i64 t.num, .string t.text, vk, vs], .int .i64 1] w fun e w' => e = .returned (.int .i64 m) ∧ TreeOwn w' (markTr 1 t) vk vs fp ∧ Apart fp w w' := by
  have := markTree_own t vk vs fp 1 w (by have := cnt_wt t; omega) hnd ho
  rw [hm]; exact this
theorem held1 (t : Tr) (S : Nat → Prop) (vk vs : Value) (w : World) (m : Int) (hm : m = 1 + (t.cnt : Int)) (hw : t.wt ≤ 1048576) (ht : TreeIn w S (markTr 1 t) vk vs) :
    Calls Try.prog 26 #[.agg #[.int .i64 t.kind, .bool t.flag, .int .i64 t.num, .string t.text, vk, vs], .int .i64 1] w fun e w' => e = .returned (.int .i64 m) ∧ Below w.heap.size w w' := by
  have := heldTree_in t S vk vs 1 w (by have := cnt_wt t; omega) ht
  rw [hm]; exact this
theorem markS1 (l : List Tr) (a : Option Addr) (cap : Nat) (fp : List Nat) (w : World) (m : Int) (hm : m = 1 + (cntL l : Int)) (hw : l.length + wtL l ≤ 1048576) (hnd : fp.Nodup) (ho : KidsOwn w (.slice a l.length cap) l fp) :
    Calls Try.prog 36 #[.slice a l.length cap, .int .i64 1] w fun e w' => e = .returned (.int .i64 m) ∧ KidsOwn w' (.slice a l.length cap) (markKids 1 l) fp ∧ Apart fp w w' := by
  have := markT (nodesL l + 1) l a cap fp 1 w (by omega) (by have := cntL_wt l; omega) hnd ho
  rw [hm]; exact this
theorem kidTr_wt (key : ByteArray) (t : Tr) : (kidTr key t).wt ≤ t.wt := by
  unfold kidTr
  split
  · rename_i h
    unfold kidHit at h
    simp only [Bool.and_eq_true, decide_eq_true_eq] at h
    have := keyIx_lt key t
    have h2 := wt_kid t.kids (keyIx key t).toNat (by omega)
    have := wt_eq t
    omega
  · have : noTree.wt = 0 := rfl
    omega

theorem mark_pos {m : Int} {n : Nat} (h : m = 1 + (n : Int)) : 1 ≤ m := by omega

end Go.Proofs.Ytkfkdljahgdfjaa
