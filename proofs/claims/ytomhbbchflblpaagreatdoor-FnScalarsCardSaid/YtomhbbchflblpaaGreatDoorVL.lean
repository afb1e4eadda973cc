/- TreeI, TreeK, TreeM, PutW, PutX, merged. -/
import Derived.Test.YtomhbbchflblpaaGreatDoorVR
import Derived.Test.YtomhbbchflblpaaGreatDoorTreeW
import Derived.Test.YtomhbbchflblpaaGreatDoorTreeA
import Derived.Test.YtomhbbchflblpaaGreatDoorVK
import Derived.Test.YtomhbbchflblpaaGreatDoorVJ
import Derived.Test.YtomhbbchflblpaaGreatDoorMarkA
import Derived.Test.YtomhbbchflblpaaGreatDoorRuneB
import Derived.Test.YtomhbbchflblpaaGreatDoorTreeOk
import Derived.Deep.RegionHeld3
import Derived.Deep.AppendLies
import Derived.Deep.RegionLaw
namespace Go.Proofs.YtomhbbchflblpaaGreatDoor
open Go.RowKit

/-- A tree without keys and children lies anywhere. -/
theorem leaf_own (w : World) (k : Int) (f : Bool) (n : Int) (s : ByteArray) : TreeOwn w (.mk k f n s [] []) (.slice none 0 0) (.slice none 0 0) [] :=
  treeOwn_iff.2 ⟨[], [], rfl, .inl ⟨rfl, rfl, none, 0, rfl, rfl, rfl⟩, .inl ⟨rfl, rfl, none, 0, rfl⟩⟩
theorem leaf_in (w : World) (k : Int) (f : Bool) (n : Int) (s : ByteArray) : TreeIn w Any (.mk k f n s [] []) (.slice none 0 0) (.slice none 0 0) :=
  TreeOwn.toIn _ _ _ _ (leaf_own w k f n s) (fun _ _ => trivial)
theorem leaf_mark (k : Int) (f : Bool) (n : Int) (s : ByteArray) (j : Nat) : markTr j (.mk k f n s [] []) = .mk k f n s [] [] := by simp only [markTr, markStrs, markKids]; rfl
theorem leaf_cnt (k : Int) (f : Bool) (n : Int) (s : ByteArray) : (Tr.mk k f n s [] []).cnt = 0 := rfl
theorem apart_nil {w w' : World} (h : Apart [] w w') : Below w.heap.size w w' := h.below (Nat.le_refl _) fun x hx => by simp at hx

theorem sIntTree (n : Int) (w : World) : Calls Tryz.prog 52 #[.int .i64 n] w fun e w' => e = .returned (.agg #[.int .i64 3, .bool false, .int .i64 n, .string ⟨#[]⟩, .slice none 0 0, .slice none 0 0]) ∧ Below w.heap.size w w' := by
  go_enter Tryz.func52, Tryz.ntmps52
  go_wp2
  refine bodyPost_ret (v := .agg #[.int .i64 3, .bool false, .int .i64 n, .string ⟨#[]⟩, .slice none 0 0, .slice none 0 0]) (by simp [results, Tryz.results52, go_sem]) rfl ⟨rfl, alloc_below _ _ _⟩

theorem iIntTree (n : Int) (w : World) : Calls Tryz.prog 42 #[.int .i64 n] w fun e w' => e = .returned (.agg #[.int .i64 3, .bool false, .int .i64 n, .string ⟨#[]⟩, .slice none 0 0, .slice none 0 0]) ∧ Below w.heap.size w w' := by
  go_enter Tryz.func42, Tryz.ntmps42
  go_wp2
  refine bodyPost_ret (v := .agg #[.int .i64 3, .bool false, .int .i64 n, .string ⟨#[]⟩, .slice none 0 0, .slice none 0 0]) (by simp [results, Tryz.results42, go_sem]) rfl ⟨rfl, alloc_below _ _ _⟩

theorem sTextTree (s : ByteArray) (w : World) : Calls Tryz.prog 55 #[.string s] w fun e w' => e = .returned (.agg #[.int .i64 4, .bool false, .int .i64 0, .string s, .slice none 0 0, .slice none 0 0]) ∧ Below w.heap.size w w' := by
  go_enter Tryz.func55, Tryz.ntmps55
  go_wp2
  refine bodyPost_ret (v := .agg #[.int .i64 4, .bool false, .int .i64 0, .string s, .slice none 0 0, .slice none 0 0]) (by simp [results, Tryz.results55, go_sem]) rfl ⟨rfl, alloc_below _ _ _⟩

theorem iTextTree (s : ByteArray) (w : World) : Calls Tryz.prog 41 #[.string s] w fun e w' => e = .returned (.agg #[.int .i64 4, .bool false, .int .i64 0, .string s, .slice none 0 0, .slice none 0 0]) ∧ Below w.heap.size w w' := by
  go_enter Tryz.func41, Tryz.ntmps41
  go_wp2
  refine bodyPost_ret (v := .agg #[.int .i64 4, .bool false, .int .i64 0, .string s, .slice none 0 0, .slice none 0 0]) (by simp [results, Tryz.results41, go_sem]) rfl ⟨rfl, alloc_below _ _ _⟩

end Go.Proofs.YtomhbbchflblpaaGreatDoor
namespace Go.Proofs.YtomhbbchflblpaaGreatDoor
open Go.RowKit

/-- The first place of a string in a list, counted from i; -1. -/
def findIx (key : ByteArray) : List ByteArray → Nat → Int
  | [], _ => -1
  | x :: xs, i => if (x.toList == key.toList) = true then (i : Int) else findIx key xs (i + 1)
theorem findIx_at (key : ByteArray) : ∀ (l : List ByteArray) (k i : Nat), k < l.length → findIx key (l.drop k) i = if ((strAt l k).toList == key.toList) = true then (i : Int) else findIx key (l.drop (k + 1)) (i + 1)
  | [], k, _, h => by simp at h
  | x :: xs, 0, i, _ => by simp [findIx, strAt]
  | x :: xs, k + 1, i, h => by
    have := findIx_at key xs k i (by simpa using h)
    simpa [strAt] using this
theorem findIx_end (key : ByteArray) (l : List ByteArray) (i : Nat) : findIx key (l.drop l.length) i = -1 := by simp [findIx]
theorem findIx_bd (key : ByteArray) : ∀ (l : List ByteArray) (i : Nat), -1 ≤ findIx key l i ∧ findIx key l i < i + l.length
  | [], i => by simp [findIx]; omega
  | x :: xs, i => by
    have := findIx_bd key xs (i + 1)
    simp only [findIx, List.length_cons]
    split <;> omega
def keyIx (key : ByteArray) (t : Tr) : Int := if (t.kind == 6) = true then findIx key t.keys 0 else -1

end Go.Proofs.YtomhbbchflblpaaGreatDoor
namespace Go.Proofs.YtomhbbchflblpaaGreatDoor
open Go.RowKit

/-- A fresh local of type Tree. -/
def ZeroAt (w : World) (b : Nat) : Prop := w.rowIs b 28 6 (lit6 (.int .i64 0) (.bool false) (.int .i64 0) (.string ⟨#[]⟩) (.slice none 0 0) (.slice none 0 0))

theorem ZeroAt.new (w : World) : ZeroAt (w.alloc (.cells #[.int .i64 0, .bool false, .int .i64 0, .string ⟨#[]⟩, .slice none 0 0, .slice none 0 0] 28)) w.heap.size := World.rowIs_alloc w #[.int .i64 0, .bool false, .int .i64 0, .string ⟨#[]⟩, .slice none 0 0, .slice none 0 0] 28 (lit6 (.int .i64 0) (.bool false) (.int .i64 0) (.string ⟨#[]⟩) (.slice none 0 0) (.slice none 0 0)) (lit6_get _ _ _ _ _ _)

theorem ZeroAt.keep {w w' : World} {b : Nat} (h : ZeroAt w b) (hb : Below w.heap.size w w') : ZeroAt w' b := rowIs_keep h hb

theorem ZeroAt.lt {w : World} {b : Nat} (h : ZeroAt w b) : b < w.heap.size := World.rowIs.lt h

theorem ZeroAt.cells {w : World} {b : Nat} (h : ZeroAt w b) : w.cell? ⟨b, 0, none⟩ = some (.int .i64 0) ∧ w.cell? ⟨b, 1, none⟩ = some (.bool false) ∧ w.cell? ⟨b, 2, none⟩ = some (.int .i64 0) ∧
    w.cell? ⟨b, 3, none⟩ = some (.string ⟨#[]⟩) ∧ w.cell? ⟨b, 4, none⟩ = some (.slice none 0 0) ∧ w.cell? ⟨b, 5, none⟩ = some (.slice none 0 0) := by
  unfold ZeroAt at h
  exact ⟨h.cell (by omega), h.cell (by omega), h.cell (by omega), h.cell (by omega), h.cell (by omega), h.cell (by omega)⟩

theorem ZeroAt.frozen {w : World} {b : Nat} (h : ZeroAt w b) : w.frozen? ⟨b, 0, none⟩ = false ∧ w.frozen? ⟨b, 1, none⟩ = false ∧ w.frozen? ⟨b, 2, none⟩ = false ∧
    w.frozen? ⟨b, 3, none⟩ = false ∧ w.frozen? ⟨b, 4, none⟩ = false ∧ w.frozen? ⟨b, 5, none⟩ = false := by
  unfold ZeroAt at h
  exact ⟨h.frozen 0, h.frozen 1, h.frozen 2, h.frozen 3, h.frozen 4, h.frozen 5⟩

/-- The world behind six stores into one block. -/
def put6w (w : World) (b : Nat) (v0 v1 v2 v3 v4 v5 : Value) : World :=
  (((((w.setCell ⟨b, 0, none⟩ v0).setCell ⟨b, 1, none⟩ v1).setCell ⟨b, 2, none⟩ v2).setCell ⟨b, 3, none⟩ v3).setCell ⟨b, 4, none⟩ v4).setCell ⟨b, 5, none⟩ v5

theorem put6w_heap (w : World) (b : Nat) (v0 v1 v2 v3 v4 v5 : Value) (k : Nat) (h : k ≠ b) : (put6w w b v0 v1 v2 v3 v4 v5).heap[k]? = w.heap[k]? := by
  unfold put6w
  rw [Below.heap_setCell _ _ _ _ h, Below.heap_setCell _ _ _ _ h, Below.heap_setCell _ _ _ _ h, Below.heap_setCell _ _ _ _ h, Below.heap_setCell _ _ _ _ h, Below.heap_setCell _ _ _ _ h]

theorem put6w_below {w0 w : World} {B : Nat} (hb : Below B w0 w) (b : Nat) (h : B ≤ b) (v0 v1 v2 v3 v4 v5 : Value) : Below B w0 (put6w w b v0 v1 v2 v3 v4 v5) :=
  (((((hb.setCell (p := ⟨b, 0, none⟩) h _).setCell (p := ⟨b, 1, none⟩) h _).setCell (p := ⟨b, 2, none⟩) h _).setCell (p := ⟨b, 3, none⟩) h _).setCell (p := ⟨b, 4, none⟩) h _).setCell (p := ⟨b, 5, none⟩) h _

theorem put6w_new {w0 w : World} {B b : Nat} {t : Tr} {vk vs : Value} {fp : List Nat} (ho : TreeOwn w t vk vs fp) (hn : fp.Nodup) (hge : ∀ x, x ∈ fp → B ≤ x ∧ x ≠ b) (hb : Below B w0 w) (h : B ≤ b) (v0 v1 v2 v3 v4 v5 : Value) :
    TreeNew B t (.returned (.agg #[.int .i64 t.kind, .bool t.flag, .int .i64 t.num, .string t.text, vk, vs])) (put6w w b v0 v1 v2 v3 v4 v5) ∧ Below B w0 (put6w w b v0 v1 v2 v3 v4 v5) :=
  ⟨⟨vk, vs, fp, rfl, TreeOwn.same _ _ _ _ ho fun x hx _ => put6w_heap _ _ _ _ _ _ _ _ _ (hge x hx).2, hn, fun x hx => (hge x hx).1⟩, put6w_below hb b h _ _ _ _ _ _⟩

/-- The list l as a tree. -/
def listTr (l : List Tr) : Tr := .mk 5 false 0 ⟨#[]⟩ [] l

theorem listTr_wt (l : List Tr) : (listTr l).wt = l.length + wtL l := by
  simp only [listTr, Tr.wt]
  have h1 : strWt [] = 0 := rfl
  have h2 : ByteArray.size ⟨#[]⟩ = 0 := rfl
  omega

set_option maxHeartbeats 1000000 in
theorem sListTree (l : List Tr) (S : Nat → Prop) (a : Option Addr) (cap : Nat) (w : World) (hw : l.length + wtL l ≤ 1048576) (hc : KidsIn w S (.slice a l.length cap) l) :
    Calls Tryz.prog 57 #[.slice a l.length cap] w fun e w' => TreeNew w.heap.size (listTr l) e w' ∧ Below w.heap.size w w' := by
  have hz := ZeroAt.new w
  have hal := alloc_below w #[.int .i64 0, .bool false, .int .i64 0, .string ⟨#[]⟩, .slice none 0 0, .slice none 0 0] 28
  have HZ := Lib.hid (And.intro hz hal); clear hz hal
  have HW := Lib.hid (listTr_wt l)
  go_enter Tryz.func57, Tryz.ntmps57
  go_wp2_with fail
  refine (lcopyT (listTr l).nodes (listTr l) S (.slice none 0 0) (.slice a l.length cap) _ (Nat.le_refl _) (by rw [HW.out]; exact hw) (treeIn_iff.2 ⟨⟨none, 0, rfl, .inl rfl⟩, hc.keep HZ.out.2⟩)).mono ?_
  rintro e w1 ⟨⟨vk, vs, fp, rfl, hto, hnd, hge⟩, hb1⟩
  obtain ⟨fk, fs, -, hso, hko⟩ := treeOwn_iff.1 hto
  obtain ⟨a1, n1, rfl⟩ := str_shape hso
  obtain ⟨a2, n2, rfl⟩ := kids_shape hko
  clear hso hko
  have hz1 := HZ.out.1.keep hb1
  obtain ⟨r0, r1, r2, r3, r4, r5⟩ := hz1.cells
  obtain ⟨g0, g1, g2, g3, g4, g5⟩ := hz1.frozen
  have HN := Lib.hid (And.intro hto (And.intro hnd (And.intro hge (bnext HZ.out.2 hb1))))
  clear hz1 hto hnd hge hb1
  go_wp2
  refine bodyPost_ret (v := .agg #[.int .i64 (listTr l).kind, .bool (listTr l).flag, .int .i64 (listTr l).num, .string (listTr l).text, .slice a1 (listTr l).keys.length n1, .slice a2 (listTr l).kids.length n2]) (by simp [results, Tryz.results57, go_sem, r0, r1, r2, r3, r4, r5]) rfl ?_
  obtain ⟨hto, hnd, hge, hbw⟩ := HN.out
  refine put6w_new (t := listTr l) hto hnd (fun x hx => ?_) hbw (Nat.le_refl _) _ _ _ _ _ _
  have := hge x hx
  simp at this
  omega

/-- A tree and a bool come back, the tree on blocks of its own. -/
def TreeNew2 (B : Nat) (t : Tr) (c : Bool) (e : Ending) (w' : World) : Prop :=
  ∃ vk vs fp, e = .returned (.tuple #[.agg #[.int .i64 t.kind, .bool t.flag, .int .i64 t.num, .string t.text, vk, vs], .bool c]) ∧ TreeOwn w' t vk vs fp ∧ fp.Nodup ∧ ∀ b, b ∈ fp → B ≤ b

theorem noTree_own (w : World) : TreeOwn w noTree (.slice none 0 0) (.slice none 0 0) [] := treeOwn_iff.2 ⟨[], [], rfl, .inl ⟨rfl, rfl, none, 0, rfl, rfl, rfl⟩, .inl ⟨rfl, rfl, none, 0, rfl⟩⟩

theorem noTree_new (w : World) (B : Nat) : TreeNew2 B noTree false (.returned (.tuple #[.agg #[.int .i64 0, .bool false, .int .i64 0, .string ⟨#[]⟩, .slice none 0 0, .slice none 0 0], .bool false])) w :=
  ⟨_, _, [], rfl, noTree_own w, List.nodup_nil, fun b hb => by simp at hb⟩

end Go.Proofs.YtomhbbchflblpaaGreatDoor
namespace Go.Proofs.YtomhbbchflblpaaGreatDoor
open Go.RowKit

/-- The tree that is being put together, in a local that was made in W0: its keys, its kids. -/
structure PK (W0 w : World) (K : List ByteArray) (T : List Tr) (vk vs : Value) (ff : List Nat) : Prop where
  out : Spill w W0.heap.size (.mk 6 false 0 noS [] []) vk vs
  keys : w.ownsRow (W0.heap.size + 1) 9 1 vk K.length (K.map Value.string)
  kids : KidsGrow w (W0.heap.size + 1) 28 vs T ff
  sep : ∀ b, vk.ownBlock = some b → vs.ownBlock ≠ some b ∧ b ∉ ff
  bel : Below W0.heap.size W0 w
theorem PK.new (w : World) : PK w (w.alloc (.cells #[.int .i64 6, .bool false, .int .i64 0, .string ⟨#[]⟩, .slice none 0 0, .slice none 0 0] 28)) [] [] (.slice none 0 0) (.slice none 0 0) [] :=
  ⟨Spill.new w (.mk 6 false 0 noS [] []) _ _ _, World.ownsRow_nil _ _ _ _, KidsGrow.nil _ _ _, fun b hb => by simp [Value.ownBlock] at hb, (Below.refl _ _).alloc (Nat.le_refl _) _⟩
theorem PK.keep {W0 w w' : World} {K : List ByteArray} {T : List Tr} {vk vs : Value} {ff : List Nat} (h : PK W0 w K T vk vs ff) (hb : Below w.heap.size w w') : PK W0 w' K T vk vs ff :=
  ⟨h.out.keep hb, ownsRow_keep h.keys hb, h.kids.keep hb, h.sep, bnext h.bel hb⟩
theorem PK.size {W0 w : World} {K : List ByteArray} {T : List Tr} {vk vs : Value} {ff : List Nat} (h : PK W0 w K T vk vs ff) : W0.heap.size < w.heap.size := h.out.lt
theorem row_same {w w' : World} {base e size : Nat} {v : Value} {n : Nat} {xs : List Value} (h : w.ownsRow base e size v n xs) (hs : ∀ b, v.ownBlock = some b → b < w.heap.size → w'.heap[b]? = w.heap[b]?) : w'.ownsRow base e size v n xs := by
  obtain ⟨h1, h2⟩ := h
  refine ⟨h1, ?_⟩
  rcases h2 with h2 | ⟨b, cap, cur, rfl, hb, hh, r⟩
  · exact .inl h2
  · exact .inr ⟨b, cap, cur, rfl, hb, by rw [hs b rfl (Array.getElem?_eq_some_iff.1 hh).1]; exact hh, r⟩
theorem KidsGrow.same {w w' : World} {B : Nat} {e : TypeId} {v : Value} {l : List Tr} {ff : List Nat} (h : KidsGrow w B e v l ff) (hs : ∀ b, (v.ownBlock = some b ∨ b ∈ ff) → b < w.heap.size → w'.heap[b]? = w.heap[b]?) : KidsGrow w' B e v l ff := by
  obtain ⟨xs, h1, h2, h3, h4⟩ := h
  exact ⟨xs, row_same h1 fun b hb hl => hs b (.inl hb) hl, KidsRow.same _ _ 0 ff h2 fun b hb hl => hs b (.inr hb) hl, h3, h4⟩
theorem KidsGrow.lt {w : World} {B : Nat} {e : TypeId} {v : Value} {l : List Tr} {ff : List Nat} (h : KidsGrow w B e v l ff) : (∀ b, v.ownBlock = some b → B ≤ b ∧ b < w.heap.size) ∧ ∀ b, b ∈ ff → B ≤ b ∧ b < w.heap.size := by
  obtain ⟨xs, h1, h2, h3, h4⟩ := h
  exact ⟨h1.lt, fun b hb => ⟨(h4 b hb).1, KidsRow.lt _ _ 0 ff h2 b hb⟩⟩
/-- A key is laid behind the others. -/
theorem PK.addKey {W0 w w2 : World} {K : List ByteArray} {T : List Tr} {vk vk' vs : Value} {ff : List Nat} {key : ByteArray} (h : PK W0 w K T vk vs ff)
    (ho : w2.ownsRow (W0.heap.size + 1) 9 1 vk' (K.length + 1) (K.map Value.string ++ [.string key])) (hg : w.grownBy w2 vk.ownBlock) (hs : SpotK vk vk' w) :
    PK W0 (w2.setCell ⟨W0.heap.size, 4, none⟩ vk') (K ++ [key]) T vk' vs ff := by
  have hk := h.keys.lt
  have ht := h.kids.lt
  have hsame : ∀ b, b < w.heap.size → some b ≠ vk.ownBlock → w2.heap[b]? = w.heap[b]? := hg.block
  have hcell : ∀ b, b ≠ W0.heap.size → (w2.setCell ⟨W0.heap.size, 4, none⟩ vk').heap[b]? = w2.heap[b]? := fun b hb => Below.heap_setCell _ _ _ _ hb
  refine ⟨(h.out.of_block (hsame _ h.size fun e => by have := (hk _ e.symm).1; omega)).set4 _, ?_, ?_, ?_, ?_⟩
  · rw [List.length_append, List.map_append]
    exact row_same ho fun b hb _ => hcell b (by have := (ho.lt b hb).1; omega)
  · refine h.kids.same fun b hb hl => ?_
    have hB : W0.heap.size + 1 ≤ b := by rcases hb with hb | hb; (· exact (ht.1 b hb).1); exact (ht.2 b hb).1
    rw [hcell b (by omega), hsame b hl fun e => ?_]
    rcases hb with hb | hb
    · exact (h.sep b e.symm).1 hb
    · exact (h.sep b e.symm).2 hb
  · intro b hb
    rcases hs with hs | ⟨q, hs, hq⟩
    · rw [hs] at hb; exact h.sep b hb
    · rw [hs] at hb
      cases hb
      exact ⟨fun e => by have := (ht.1 _ e).2; omega, fun e => by have := (ht.2 _ e).2; omega⟩
  · exact (h.bel.grown hg (by have := h.size; omega) (fun q hq => by have := (hk q hq).1; omega)).setCell (p := ⟨W0.heap.size, 4, none⟩) (Nat.le_refl _) _
/-- A kid is laid behind the others. -/
theorem PK.addKid {W0 w w2 : World} {K : List ByteArray} {T : List Tr} {vk vs vs' : Value} {ff fp : List Nat} {t : Tr} {kk ks : Value} {xs : List Value} (h : PK W0 w K T vk vs ff)
    (ho0 : w.ownsRow (W0.heap.size + 1) 28 6 vs T.length xs) (hr : KidsRow w (fun i => xs.getD i undef) T 0 ff) (hnd : ff.Nodup) (hff : ∀ b, b ∈ ff → W0.heap.size + 1 ≤ b ∧ vs.ownBlock ≠ some b)
    (ht : TreeOwn w t kk ks fp) (hfn : fp.Nodup) (hfp : ∀ b, b ∈ fp → W0.heap.size + 1 ≤ b ∧ vs.ownBlock ≠ some b ∧ b ∉ ff ∧ vk.ownBlock ≠ some b)
    (ho : w2.ownsRow (W0.heap.size + 1) 28 6 vs' (T.length + 1) (xs ++ six t kk ks)) (hg : w.grownBy w2 vs.ownBlock) (hs : SpotK vs vs' w) :
    PK W0 (w2.setCell ⟨W0.heap.size, 5, none⟩ vs') K (T ++ [t]) vk vs' (ff ++ fp) := by
  have hk := h.keys.lt
  have hl := h.kids.lt
  have hsame : ∀ b, b < w.heap.size → some b ≠ vs.ownBlock → w2.heap[b]? = w.heap[b]? := hg.block
  have hcell : ∀ b, b ≠ W0.heap.size → (w2.setCell ⟨W0.heap.size, 5, none⟩ vs').heap[b]? = w2.heap[b]? := fun b hb => Below.heap_setCell _ _ _ _ hb
  have hstep := KidsGrow.step ho0 hr hnd hff ht hfn (fun b hb => ⟨(hfp b hb).1, (hfp b hb).2.1, (hfp b hb).2.2.1⟩) ho hg hs
  have hsl := hstep.lt
  refine ⟨(h.out.of_block (hsame _ h.size fun e => by have := (hl.1 _ e.symm).1; omega)).set5 _, ?_, ?_, ?_, ?_⟩
  · refine row_same h.keys fun b hb hl' => ?_
    rw [hcell b (by have := (hk b hb).1; omega), hsame b hl' fun e => (h.sep b hb).1 e.symm]
  · refine hstep.same fun b hb _ => hcell b ?_
    have hB : W0.heap.size + 1 ≤ b := by rcases hb with hb | hb; (· exact (hsl.1 b hb).1); exact (hsl.2 b hb).1
    omega
  · intro b hb
    refine ⟨fun e => ?_, fun e => ?_⟩
    · rcases hs with hs | ⟨q, hs, hq⟩
      · rw [hs] at e; exact (h.sep b hb).1 e
      · rw [hs] at e; cases e; have := (hk _ hb).2; omega
    · rw [List.mem_append] at e
      rcases e with e | e
      · exact (h.sep b hb).2 e
      · exact (hfp b e).2.2.2 hb
  · exact (h.bel.grown hg (by have := h.size; omega) (fun q hq => by have := (hl.1 q hq).1; omega)).setCell (p := ⟨W0.heap.size, 5, none⟩) (Nat.le_refl _) _
theorem KidsGrow.own2 {w : World} {B : Nat} {e : TypeId} {v : Value} {l : List Tr} {ff : List Nat} (h : KidsGrow w B e v l ff) : ∃ fs, KidsOwn w v l fs ∧ fs.Nodup ∧ ∀ b, b ∈ fs → B ≤ b ∧ (v.ownBlock = some b ∨ b ∈ ff) := by
  obtain ⟨xs, h1, h2, h3, h4⟩ := h
  rcases h1.2 with ⟨rfl, hl⟩ | ⟨g, cap, cur, rfl, hbg, hg, hnc, hcm, hcs, htake⟩
  · have : l = [] := List.eq_nil_of_length_eq_zero hl
    subst this
    exact ⟨[], .inl ⟨rfl, rfl, none, 0, rfl⟩, List.nodup_nil, fun b hb => by simp at hb⟩
  · obtain ⟨F, hrow, hn, hm, hb, hF⟩ := rowIs_of_owns h1
    refine ⟨g :: ff, .inr ⟨g, cap, e, cap * 6, F, ff, rfl, rfl, hrow, by omega, ?_⟩, ?_, fun b hb => ?_⟩
    · refine KidsRow.congr _ _ _ 0 ff h2 fun j hj => ?_
      simp only [List.getD_eq_getElem?_getD]
      rw [hF j (by omega)]; rfl
    · rw [List.nodup_cons]
      exact ⟨fun hgf => (h4 g hgf).2 rfl, h3⟩
    · rw [List.mem_cons] at hb
      rcases hb with rfl | hb
      · exact ⟨hbg, .inl rfl⟩
      · exact ⟨(h4 b hb).1, .inr hb⟩
theorem strOwn2 {w : World} {B : Nat} {v : Value} {l : List ByteArray} (h : w.ownsRow B 9 1 v l.length (l.map Value.string)) :
    ∃ fp, StrOwn w v l fp ∧ fp.Nodup ∧ ∀ b, b ∈ fp → B ≤ b ∧ v.ownBlock = some b := by
  rcases h.2 with ⟨rfl, hl⟩ | ⟨g, cap, cur, rfl, hbg, hg, hnc, hcm, hcs, htake⟩
  · have : l = [] := List.eq_nil_of_length_eq_zero hl
    subst this
    exact ⟨[], .inl ⟨rfl, rfl, none, 0, rfl, rfl, rfl⟩, List.nodup_nil, fun b hb => by simp at hb⟩
  · obtain ⟨F, hrow, hn, hm, hb, hF⟩ := rowIs_of_owns h
    refine ⟨[g], .inr ⟨g, cap, _, cap * 1, F, rfl, rfl, hrow, ⟨by omega, by omega, rfl, by omega⟩, fun i hi => ?_⟩, by simp, fun b hb => by simp at hb; subst hb; exact ⟨hbg, rfl⟩⟩
    have h2 := hF i (by omega)
    rw [List.getElem?_map, List.getElem?_eq_getElem hi] at h2
    simp only [Option.map_some, Option.some.injEq] at h2
    rw [← h2, strAt, List.getD_eq_getElem?_getD, List.getElem?_eq_getElem hi]; rfl
/-- What has been put together is a tree of the call's own. -/
theorem PK.tree {W0 w : World} {K : List ByteArray} {T : List Tr} {vk vs : Value} {ff : List Nat} (h : PK W0 w K T vk vs ff) : ∃ fp, TreeOwn w (.mk 6 false 0 noS K T) vk vs fp ∧ fp.Nodup ∧ ∀ b, b ∈ fp → W0.heap.size + 1 ≤ b := by
  obtain ⟨fk, h1, h2, h3⟩ := strOwn2 h.keys
  obtain ⟨fs, g1, g2, g3⟩ := h.kids.own2
  refine ⟨fk ++ fs, treeOwn_iff.2 ⟨fk, fs, rfl, h1, g1⟩, ?_, fun b hb => ?_⟩
  · rw [List.nodup_append]
    refine ⟨h2, g2, fun x hx y hy hxy => ?_⟩
    subst hxy
    have hs := h.sep x (h3 x hx).2
    rcases (g3 x hy).2 with e | e
    · exact hs.1 e
    · exact hs.2 e
  · rw [List.mem_append] at hb
    rcases hb with hb | hb
    · exact (h3 b hb).1
    · exact (g3 b hb).1

end Go.Proofs.YtomhbbchflblpaaGreatDoor
namespace Go.Proofs.YtomhbbchflblpaaGreatDoor
open Go.RowKit

theorem put6w_new2 {w0 w : World} {B b : Nat} {t : Tr} {vk vs : Value} {fp : List Nat} (ho : TreeOwn w t vk vs fp) (hn : fp.Nodup) (hge : ∀ x, x ∈ fp → B ≤ x ∧ x ≠ b) (hb : Below B w0 w) (h : B ≤ b) (c : Bool) (v0 v1 v2 v3 v4 v5 : Value) :
    TreeNew2 B t c (.returned (.tuple #[.agg #[.int .i64 t.kind, .bool t.flag, .int .i64 t.num, .string t.text, vk, vs], .bool c])) (put6w w b v0 v1 v2 v3 v4 v5) ∧ Below B w0 (put6w w b v0 v1 v2 v3 v4 v5) :=
  ⟨⟨vk, vs, fp, rfl, TreeOwn.same _ _ _ _ ho fun x hx _ => put6w_heap _ _ _ _ _ _ _ _ _ (hge x hx).2, hn, fun x hx => (hge x hx).1⟩, put6w_below hb b h _ _ _ _ _ _⟩
theorem str_src (w : World) (x : ByteArray) (e : TypeId) : ∀ (j : Nat) (u : Value), ([Value.string x] : List Value)[j]? = some u → (w.alloc (.cells #[.string x] e)).cell? ((⟨w.heap.size, 0, none⟩ : Addr).add j) = some u := by
  intro j u hu
  have hj : j < 1 := (List.getElem?_eq_some_iff.1 hu).1
  obtain rfl : j = 0 := by omega
  rw [addr_add, Nat.zero_add]
  have hr := World.rowIs_alloc w #[.string x] e (fun _ => .string x) (fun i hi => by simp at hi; subst hi; rfl)
  rw [hr.cell (by simp)]
  simpa using hu
/-- A key is appended: a step of the walk. -/
theorem wpList_key {ops : Array Oper} {rest : List Oper} {o : Oper} {a : Act} {Q : Exit → Act → World → Prop} (hgd : o.guard = none) (s x : Operand)
    (ho : o.op = .call { callee := .builtin .append, args := #[s, x], argTypes := #[25, 25] }) {W0 w : World} {K : List ByteArray} {T : List Tr} {vk vs : Value} {ff : List Nat} (h : PK W0 w K T vk vs ff) (key : ByteArray)
    (hs : a.eval s = vk) (hx : a.eval x = .slice (some ⟨w.heap.size, 0, none⟩) 1 1) (hK : K.length ≤ 1000000)
    (hk : ∀ g n cap w', w'.cell? ⟨W0.heap.size, 4, none⟩ = some vk → w'.frozen? ⟨W0.heap.size, 4, none⟩ = false → PK W0 (w'.setCell ⟨W0.heap.size, 4, none⟩ (.slice g n cap)) (K ++ [key]) T (.slice g n cap) vs ff → wpList Tryz.prog ops Q rest (a.put o.dst (.slice g n cap)) w') :
    wpList Tryz.prog ops Q (o :: rest) a (w.alloc (.cells #[.string key] 9)) := by
  obtain ⟨i0, hi, hz0, hz1, hz2⟩ := info_parts Tryz.infoStr
  have hp := h.keep (alloc_below w #[.string key] 9)
  refine wpList_append_spotK hgd s x 25 ho (W0.heap.size + 1) 9 i0 (.string ⟨#[]⟩) 1 16 Tryz.underlying25 hi hz0 hz1 hz2 rfl (by decide) vk K.length (K.map Value.string) hs hp.keys ⟨w.heap.size, 0, none⟩ 1 1 [.string key] hx rfl (str_src w key 9) (by simp [Value.oneCell']) (by unfold maxLen; omega) (by omega) hp.size ?_
  intro vk' w' hown hg hsp
  have hbk := hg.block _ hp.size (fun e => by have := (hp.keys.lt _ e.symm).1; omega)
  obtain ⟨g, n, cap, rfl⟩ : ∃ g n cap, vk' = .slice g n cap := by
    rcases hown.2 with ⟨e, _⟩ | ⟨g, cap, _, e, _⟩
    · exact ⟨_, _, _, e⟩
    · exact ⟨_, _, _, e⟩
  refine hk g n cap w' ?_ ?_ (hp.addKey hown hg hsp)
  · exact (hp.out.of_block hbk).cells.2.2.2.2.1
  · exact (hp.out.of_block hbk).frozen 4
theorem spotK_of {v : Value} {w : World} {g n cap : Nat} (h : v.ownBlock = some g ∨ g = w.heap.size) : SpotK v (.slice (some ⟨g, 0, none⟩) n cap) w := by
  rcases h with h | h
  · exact .inl (by rw [h]; rfl)
  · exact .inr ⟨g, rfl, by rw [h]; exact Nat.le_refl _⟩
/-- The same inside a region that draws its order. -/
theorem step_key {ops : Array Oper} {o : Oper} {a : Act} {C : Act → World → Prop} {Q : Exit → Act → World → Prop} {E : Prop} (hgd : o.guard = none) (s x : Operand)
    (ho : o.op = .call { callee := .builtin .append, args := #[s, x], argTypes := #[25, 25] }) {W0 we w : World} {K : List ByteArray} {T : List Tr} {vk vs : Value} {ff : List Nat} (he : PK W0 we K T vk vs ff) (key : ByteArray)
    (hs : a.eval s = vk) (B : Nat) (hx : a.eval x = .slice (some ⟨B, 0, none⟩) 1 1) (hK : K.length ≤ 1000000) (hb : Below we.heap.size we w) (hB : w.heap[B]? = some (.cells #[.string key] 9 (0, 0)))
    (hk : ∀ g cap w', w'.cell? ⟨W0.heap.size, 4, none⟩ = some vk → w'.frozen? ⟨W0.heap.size, 4, none⟩ = false → PK W0 (w'.setCell ⟨W0.heap.size, 4, none⟩ (.slice (some ⟨g, 0, none⟩) (K.length + 1) cap)) (K ++ [key]) T (.slice (some ⟨g, 0, none⟩) (K.length + 1) cap) vs ff → C (a.put o.dst (.slice (some ⟨g, 0, none⟩) (K.length + 1) cap)) w') :
    if Region.wanted o (yielded ops a.tmps) = true then Oper.wp Tryz.prog o a w C Q else E := by
  obtain ⟨i0, hi, hz0, hz1, hz2⟩ := info_parts Tryz.infoStr
  have hp := he.keep hb
  refine step_append_lies _ hgd s x 25 ho (W0.heap.size + 1) 9 i0 (.string ⟨#[]⟩) 1 16 Tryz.underlying25 hi hz0 hz1 hz2 rfl (by decide) vk K.length (K.map Value.string) hs hp.keys ⟨B, 0, none⟩ 1 1 [.string key] hx rfl (fun j u hu => World.news_of_block hB j u hu) (by simp [Value.oneCell']) (by decide) (by unfold maxLen; omega) (by omega) hp.size _ rfl ?_
  intro g cap w' hown hg hat _
  have hbk := hg.block _ hp.size (fun e => by have := (hp.keys.lt _ e.symm).1; omega)
  refine hk g cap w' ?_ ?_ (hp.addKey hown hg (spotK_of hat))
  · exact (hp.out.of_block hbk).cells.2.2.2.2.1
  · exact (hp.out.of_block hbk).frozen 4
theorem step_kid {ops : Array Oper} {o : Oper} {a : Act} {C : Act → World → Prop} {Q : Exit → Act → World → Prop} {E : Prop} (hgd : o.guard = none) (s x : Operand)
    (ho : o.op = .call { callee := .builtin .append, args := #[s, x], argTypes := #[26, 26] }) {W0 we w1 w : World} {K : List ByteArray} {T : List Tr} {vk vs : Value} {ff fp : List Nat} (he : PK W0 we K T vk vs ff) (t : Tr)
    {a5 a6 : Option Addr} {l5 l6 n5 n6 : Nat} (ht : TreeOwn w1 t (.slice a5 l5 n5) (.slice a6 l6 n6) fp) (hfn : fp.Nodup) (hfp : ∀ b, b ∈ fp → we.heap.size ≤ b)
    (hs : a.eval s = vs) (B : Nat) (hx : a.eval x = .slice (some ⟨B, 0, none⟩) 1 1) (hT : T.length ≤ 1000000) (hb1 : Below we.heap.size we w1) (hb : Below w1.heap.size w1 w)
    (hB : w.heap[B]? = some (.cells #[.int .i64 t.kind, .bool t.flag, .int .i64 t.num, .string t.text, .slice a5 l5 n5, .slice a6 l6 n6] 28 (0, 0)))
    (hk : ∀ g cap ff' w', w'.cell? ⟨W0.heap.size, 5, none⟩ = some vs → w'.frozen? ⟨W0.heap.size, 5, none⟩ = false → PK W0 (w'.setCell ⟨W0.heap.size, 5, none⟩ (.slice (some ⟨g, 0, none⟩) (T.length + 1) cap)) K (T ++ [t]) vk (.slice (some ⟨g, 0, none⟩) (T.length + 1) cap) ff' → C (a.put o.dst (.slice (some ⟨g, 0, none⟩) (T.length + 1) cap)) w') :
    if Region.wanted o (yielded ops a.tmps) = true then Oper.wp Tryz.prog o a w C Q else E := by
  obtain ⟨i1, hi, hz0, hz1, hz2⟩ := info_parts Tryz.infoTree
  have hp := (he.keep hb1).keep hb
  have hlk := he.keys.lt
  have hls := he.kids.lt
  obtain ⟨xs, hx1, hx2, hx3, hx4⟩ := hp.kids
  refine step_append_lies _ hgd s x 26 ho (W0.heap.size + 1) 28 i1 _ 6 88 Tryz.underlying26 hi hz0 hz1 hz2 rfl (by decide) vs T.length xs hs hx1 ⟨B, 0, none⟩ 1 1 (six t (.slice a5 l5 n5) (.slice a6 l6 n6)) hx rfl (fun j u hu => World.news_of_block hB j u hu) six_one (by decide) (by unfold maxLen; omega) (by omega) hp.size _ rfl ?_
  intro g cap w' hown hg hat _
  have hbk := hg.block _ hp.size (fun e => by have := (hx1.lt _ e.symm).1; omega)
  have hsz := he.size
  refine hk g cap (ff ++ fp) w' ?_ ?_ (hp.addKid hx1 hx2 hx3 hx4 (ht.keep hb) hfn (fun b hb' => ?_) hown hg (spotK_of hat))
  · exact (hp.out.of_block hbk).cells.2.2.2.2.2
  · exact (hp.out.of_block hbk).frozen 5
  · have := hfp b hb'
    exact ⟨by omega, fun e => by have := (hls.1 b e).2; omega, fun e => by have := (hls.2 b e).2; omega, fun e => by have := (hlk b e).2; omega⟩

end Go.Proofs.YtomhbbchflblpaaGreatDoor
