/- TreeI, TreeK, TreeM, merged. -/
import Derived.Test.YtkifacpanipfhaaDoorMarkD
import Derived.Test.YtkifacpanipfhaaDoorTreeW
import Derived.Test.YtkifacpanipfhaaDoorTreeA
import Derived.Test.YtkifacpanipfhaaDoorNL
namespace Go.Proofs.YtkifacpanipfhaaDoor
open Go.RowKit

/-- A tree without keys and children lies anywhere. -/
theorem leaf_own (w : World) (k : Int) (f : Bool) (n : Int) (s : ByteArray) : TreeOwn w (.mk k f n s [] []) (.slice none 0 0) (.slice none 0 0) [] :=
  treeOwn_iff.2 ⟨[], [], rfl, .inl ⟨rfl, rfl, none, 0, rfl, rfl, rfl⟩, .inl ⟨rfl, rfl, none, 0, rfl⟩⟩
theorem leaf_in (w : World) (k : Int) (f : Bool) (n : Int) (s : ByteArray) : TreeIn w Any (.mk k f n s [] []) (.slice none 0 0) (.slice none 0 0) :=
  TreeOwn.toIn _ _ _ _ (leaf_own w k f n s) (fun _ _ => trivial)
theorem leaf_mark (k : Int) (f : Bool) (n : Int) (s : ByteArray) (j : Nat) : markTr j (.mk k f n s [] []) = .mk k f n s [] [] := by simp only [markTr, markStrs, markKids]; rfl
theorem leaf_cnt (k : Int) (f : Bool) (n : Int) (s : ByteArray) : (Tr.mk k f n s [] []).cnt = 0 := rfl
theorem apart_nil {w w' : World} (h : Apart [] w w') : Below w.heap.size w w' := h.below (Nat.le_refl _) fun x hx => by simp at hx

/-- eqTree, markTree, heldTree at a tree without keys and children. -/
theorem eqLeaf (k : Int) (f : Bool) (n : Int) (s : ByteArray) (w : World) (hs : s.size ≤ 1048576) :
    Calls Tryd.prog 29 #[.agg #[.int .i64 k, .bool f, .int .i64 n, .string s, .slice none 0 0, .slice none 0 0], .agg #[.int .i64 k, .bool f, .int .i64 n, .string s, .slice none 0 0, .slice none 0 0]] w fun e w' => e = .returned (.bool true) ∧ Below w.heap.size w w' :=
  eqTree_any (.mk k f n s [] []) Any Any _ _ _ _ w (by simp [Tr.wt, strWt, wtL]; omega) (leaf_in _ _ _ _ _) (leaf_in _ _ _ _ _)
theorem markLeaf (k : Int) (f : Bool) (n : Int) (s : ByteArray) (w : World) :
    Calls Tryd.prog 30 #[.agg #[.int .i64 k, .bool f, .int .i64 n, .string s, .slice none 0 0, .slice none 0 0], .int .i64 1] w fun e w' => e = .returned (.int .i64 1) ∧ Below w.heap.size w w' :=
  (markTree_own (.mk k f n s [] []) _ _ [] 1 w (by rw [leaf_cnt]; omega) List.nodup_nil (leaf_own _ _ _ _ _)).mono fun _ _ h => ⟨h.1, apart_nil h.2.2⟩
theorem heldLeaf (k : Int) (f : Bool) (n : Int) (s : ByteArray) (w : World) :
    Calls Tryd.prog 31 #[.agg #[.int .i64 k, .bool f, .int .i64 n, .string s, .slice none 0 0, .slice none 0 0], .int .i64 1] w fun e w' => e = .returned (.int .i64 1) ∧ Below w.heap.size w w' :=
  heldTree_in (.mk k f n s [] []) Any _ _ 1 w (by rw [leaf_cnt]; omega) (by rw [leaf_mark]; exact leaf_in _ _ _ _ _)

theorem sIntTree (n : Int) (w : World) : Calls Tryd.prog 46 #[.int .i64 n] w fun e w' => e = .returned (.agg #[.int .i64 3, .bool false, .int .i64 n, .string ⟨#[]⟩, .slice none 0 0, .slice none 0 0]) ∧ Below w.heap.size w w' := by
  go_enter Tryd.func46, Tryd.ntmps46
  go_wp2
  refine bodyPost_ret (v := .agg #[.int .i64 3, .bool false, .int .i64 n, .string ⟨#[]⟩, .slice none 0 0, .slice none 0 0]) (by simp [results, Tryd.results46, go_sem]) rfl ⟨rfl, alloc_below _ _ _⟩

theorem iIntTree (n : Int) (w : World) : Calls Tryd.prog 19 #[.int .i64 n] w fun e w' => e = .returned (.agg #[.int .i64 3, .bool false, .int .i64 n, .string ⟨#[]⟩, .slice none 0 0, .slice none 0 0]) ∧ Below w.heap.size w w' := by
  go_enter Tryd.func19, Tryd.ntmps19
  go_wp2
  refine bodyPost_ret (v := .agg #[.int .i64 3, .bool false, .int .i64 n, .string ⟨#[]⟩, .slice none 0 0, .slice none 0 0]) (by simp [results, Tryd.results19, go_sem]) rfl ⟨rfl, alloc_below _ _ _⟩

theorem sTextTree (s : ByteArray) (w : World) : Calls Tryd.prog 74 #[.string s] w fun e w' => e = .returned (.agg #[.int .i64 4, .bool false, .int .i64 0, .string s, .slice none 0 0, .slice none 0 0]) ∧ Below w.heap.size w w' := by
  go_enter Tryd.func74, Tryd.ntmps74
  go_wp2
  refine bodyPost_ret (v := .agg #[.int .i64 4, .bool false, .int .i64 0, .string s, .slice none 0 0, .slice none 0 0]) (by simp [results, Tryd.results74, go_sem]) rfl ⟨rfl, alloc_below _ _ _⟩

theorem iTextTree (s : ByteArray) (w : World) : Calls Tryd.prog 18 #[.string s] w fun e w' => e = .returned (.agg #[.int .i64 4, .bool false, .int .i64 0, .string s, .slice none 0 0, .slice none 0 0]) ∧ Below w.heap.size w w' := by
  go_enter Tryd.func18, Tryd.ntmps18
  go_wp2
  refine bodyPost_ret (v := .agg #[.int .i64 4, .bool false, .int .i64 0, .string s, .slice none 0 0, .slice none 0 0]) (by simp [results, Tryd.results18, go_sem]) rfl ⟨rfl, alloc_below _ _ _⟩

end Go.Proofs.YtkifacpanipfhaaDoor
namespace Go.Proofs.YtkifacpanipfhaaDoor
open Go.RowKit

/-- The first place of a string in a list, counted from i; -1. -/
def findIx (key : ByteArray) : List ByteArray → Nat → Int
  | [], _ => -1
  | x :: xs, i => if (x.toList == key.toList) = true then (i : Int) else findIx key xs (i + 1)
theorem findIx_at (key : ByteArray) : ∀ (l : List ByteArray) (k i : Nat), k < l.length → findIx key (l.drop k) i = if ((strAt l k).toList == key.toList) = true then (i : Int) else findIx key (l.drop (k + 1)) (i + 1)
  | [], k, _, h => by simp at h
  | x :: xs, 0, i, _ => by simp [findIx, strAt]
  | x :: xs, k + 1, i, h => by
    have := findIx_at key xs k i (by simpa using h)
    simpa [strAt] using this
theorem findIx_end (key : ByteArray) (l : List ByteArray) (i : Nat) : findIx key (l.drop l.length) i = -1 := by simp [findIx]
theorem findIx_bd (key : ByteArray) : ∀ (l : List ByteArray) (i : Nat), -1 ≤ findIx key l i ∧ findIx key l i < i + l.length
  | [], i => by simp [findIx]; omega
  | x :: xs, i => by
    have := findIx_bd key xs (i + 1)
    simp only [findIx, List.length_cons]
    split <;> omega
def keyIx (key : ByteArray) (t : Tr) : Int := if (t.kind == 6) = true then findIx key t.keys 0 else -1

theorem slicesIndexS (l : List ByteArray) (S : Nat → Prop) (a : Option Addr) (cap : Nat) (key : ByteArray) (w : World) (hn : l.length ≤ 1048576) (hc : StrsIn w S (.slice a l.length cap) l) :
    Calls Tryd.prog 51 #[.slice a l.length cap, .string key] w fun e w' => e = .returned (.int .i64 (findIx key l 0)) ∧ Below w.heap.size w w' := by
  go_enter Tryd.func51, Tryd.ntmps51
  go_wp2
  go_loopw [8] (fun i wr => ∃ k : Nat, k ≤ l.length ∧ i = .int .i64 k ∧ Hid (findIx key l 0 = findIx key (l.drop k) k) ∧ Below w.heap.size w wr) (fun i _ => l.length - (intOf i).toNat)
  case atStart => exact ⟨0, by omega, rfl, by simp [Hid], Below.refl _ _⟩
  case round =>
    obtain ⟨k, hk, rfl, HI, hb⟩ := hrel
    by_cases hlt : k < l.length
    · obtain ⟨b, o, rfl, hcell⟩ := (hc.keep hb).at hlt
      have c0 := hcell k hlt
      clear hcell hc
      have HS := Lib.hid (findIx_at key l k k hlt)
      cases he : (key.toList == (strAt l k).toList)
      · have he2 : ((strAt l k).toList == key.toList) = false := by rw [← he]; exact Bool.beq_comm
        go_wp2
        go_roundw
        case rel => exact ⟨k + 1, by omega, by go_num, by unfold Hid; rw [HI.out, HS.out, he2]; simp, hb⟩
        case measure => simp [intOf]; omega
      · have he2 : ((strAt l k).toList == key.toList) = true := by rw [← he]; exact Bool.beq_comm
        go_wp2
        go_ret
        exact ⟨ret_int (by rw [HI.out, HS.out, he2]; simp), hb⟩
    · obtain rfl : k = l.length := by omega
      go_wp2
      go_ret
      exact ⟨ret_int (by rw [HI.out, findIx_end]), hb⟩

theorem iKeyAt (t : Tr) (S : Nat → Prop) (vk vs : Value) (key : ByteArray) (w : World) (hn : t.keys.length ≤ 1048576) (ht : TreeIn w S t vk vs) :
    Calls Tryd.prog 24 #[.agg #[.int .i64 t.kind, .bool t.flag, .int .i64 t.num, .string t.text, vk, vs], .string key] w fun e w' => e = .returned (.int .i64 (keyIx key t)) ∧ Below w.heap.size w w' := by
  obtain ⟨hk, hs⟩ := treeIn_iff.1 ht
  obtain ⟨a1, m1, rfl⟩ := hk.len
  obtain ⟨a2, m2, rfl⟩ := hs.len
  clear ht hs
  have HK : Hid (keyIx key t = if (t.kind == 6) = true then findIx key t.keys 0 else -1) := rfl
  cases h6 : (t.kind == 6)
  · have h6' : (t.kind != 6) = true := by simp [bne, h6]
    go_enter Tryd.func24, Tryd.ntmps24
    go_wp2
    go_ret
    exact ⟨ret_int (by rw [HK.out, h6]; rfl), by repeat (first | exact Below.refl _ _ | (refine Below.alloc ?_ (by first | omega | (simp; done) | (simp; omega)) _) | (refine Below.setCell ?_ (by first | omega | (simp; done) | (simp; omega)) _) | (refine Below.drew ?_) | (refine below_drewN ?_ _))⟩
  · have h6' : (t.kind != 6) = false := by simp [bne, h6]
    go_enter Tryd.func24, Tryd.ntmps24
    go_wp2_with fail
    refine (slicesIndexS t.keys S _ _ key _ hn (hk.keep (by repeat (first | exact Below.refl _ _ | (refine Below.alloc ?_ (by first | omega | (simp; done) | (simp; omega)) _) | (refine Below.setCell ?_ (by first | omega | (simp; done) | (simp; omega)) _) | (refine Below.drew ?_) | (refine below_drewN ?_ _))))).mono ?_
    rintro e w1 ⟨rfl, hb1⟩
    go_wp2
    go_ret
    exact ⟨ret_int (by rw [HK.out, h6]; rfl), bnext (by repeat (first | exact Below.refl _ _ | (refine Below.alloc ?_ (by first | omega | (simp; done) | (simp; omega)) _) | (refine Below.setCell ?_ (by first | omega | (simp; done) | (simp; omega)) _) | (refine Below.drew ?_) | (refine below_drewN ?_ _))) hb1⟩

end Go.Proofs.YtkifacpanipfhaaDoor
namespace Go.Proofs.YtkifacpanipfhaaDoor
open Go.RowKit

/-- A fresh local of type Tree. -/
def ZeroAt (w : World) (b : Nat) : Prop := w.rowIs b 27 6 (lit6 (.int .i64 0) (.bool false) (.int .i64 0) (.string ⟨#[]⟩) (.slice none 0 0) (.slice none 0 0))
theorem ZeroAt.new (w : World) : ZeroAt (w.alloc (.cells #[.int .i64 0, .bool false, .int .i64 0, .string ⟨#[]⟩, .slice none 0 0, .slice none 0 0] 27)) w.heap.size := World.rowIs_alloc w #[.int .i64 0, .bool false, .int .i64 0, .string ⟨#[]⟩, .slice none 0 0, .slice none 0 0] 27 (lit6 (.int .i64 0) (.bool false) (.int .i64 0) (.string ⟨#[]⟩) (.slice none 0 0) (.slice none 0 0)) (lit6_get _ _ _ _ _ _)
theorem ZeroAt.keep {w w' : World} {b : Nat} (h : ZeroAt w b) (hb : Below w.heap.size w w') : ZeroAt w' b := rowIs_keep h hb
theorem ZeroAt.lt {w : World} {b : Nat} (h : ZeroAt w b) : b < w.heap.size := World.rowIs.lt h
theorem ZeroAt.cells {w : World} {b : Nat} (h : ZeroAt w b) : w.cell? ⟨b, 0, none⟩ = some (.int .i64 0) ∧ w.cell? ⟨b, 1, none⟩ = some (.bool false) ∧ w.cell? ⟨b, 2, none⟩ = some (.int .i64 0) ∧
    w.cell? ⟨b, 3, none⟩ = some (.string ⟨#[]⟩) ∧ w.cell? ⟨b, 4, none⟩ = some (.slice none 0 0) ∧ w.cell? ⟨b, 5, none⟩ = some (.slice none 0 0) := by
  unfold ZeroAt at h
  exact ⟨h.cell (by omega), h.cell (by omega), h.cell (by omega), h.cell (by omega), h.cell (by omega), h.cell (by omega)⟩
theorem ZeroAt.frozen {w : World} {b : Nat} (h : ZeroAt w b) : w.frozen? ⟨b, 0, none⟩ = false ∧ w.frozen? ⟨b, 1, none⟩ = false ∧ w.frozen? ⟨b, 2, none⟩ = false ∧
    w.frozen? ⟨b, 3, none⟩ = false ∧ w.frozen? ⟨b, 4, none⟩ = false ∧ w.frozen? ⟨b, 5, none⟩ = false := by
  unfold ZeroAt at h
  exact ⟨h.frozen 0, h.frozen 1, h.frozen 2, h.frozen 3, h.frozen 4, h.frozen 5⟩
/-- The world behind six stores into one block. -/
def put6w (w : World) (b : Nat) (v0 v1 v2 v3 v4 v5 : Value) : World :=
  (((((w.setCell ⟨b, 0, none⟩ v0).setCell ⟨b, 1, none⟩ v1).setCell ⟨b, 2, none⟩ v2).setCell ⟨b, 3, none⟩ v3).setCell ⟨b, 4, none⟩ v4).setCell ⟨b, 5, none⟩ v5
theorem put6w_heap (w : World) (b : Nat) (v0 v1 v2 v3 v4 v5 : Value) (k : Nat) (h : k ≠ b) : (put6w w b v0 v1 v2 v3 v4 v5).heap[k]? = w.heap[k]? := by
  unfold put6w
  rw [Below.heap_setCell _ _ _ _ h, Below.heap_setCell _ _ _ _ h, Below.heap_setCell _ _ _ _ h, Below.heap_setCell _ _ _ _ h, Below.heap_setCell _ _ _ _ h, Below.heap_setCell _ _ _ _ h]
theorem put6w_below {w0 w : World} {B : Nat} (hb : Below B w0 w) (b : Nat) (h : B ≤ b) (v0 v1 v2 v3 v4 v5 : Value) : Below B w0 (put6w w b v0 v1 v2 v3 v4 v5) :=
  (((((hb.setCell (p := ⟨b, 0, none⟩) h _).setCell (p := ⟨b, 1, none⟩) h _).setCell (p := ⟨b, 2, none⟩) h _).setCell (p := ⟨b, 3, none⟩) h _).setCell (p := ⟨b, 4, none⟩) h _).setCell (p := ⟨b, 5, none⟩) h _
theorem put6w_new {w0 w : World} {B b : Nat} {t : Tr} {vk vs : Value} {fp : List Nat} (ho : TreeOwn w t vk vs fp) (hn : fp.Nodup) (hge : ∀ x, x ∈ fp → B ≤ x ∧ x ≠ b) (hb : Below B w0 w) (h : B ≤ b) (v0 v1 v2 v3 v4 v5 : Value) :
    TreeNew B t (.returned (.agg #[.int .i64 t.kind, .bool t.flag, .int .i64 t.num, .string t.text, vk, vs])) (put6w w b v0 v1 v2 v3 v4 v5) ∧ Below B w0 (put6w w b v0 v1 v2 v3 v4 v5) :=
  ⟨⟨vk, vs, fp, rfl, TreeOwn.same _ _ _ _ ho fun x hx _ => put6w_heap _ _ _ _ _ _ _ _ _ (hge x hx).2, hn, fun x hx => (hge x hx).1⟩, put6w_below hb b h _ _ _ _ _ _⟩

/-- The list l as a tree. -/
def listTr (l : List Tr) : Tr := .mk 5 false 0 ⟨#[]⟩ [] l

set_option maxHeartbeats 1000000 in
theorem iListTree (l : List Tr) (S : Nat → Prop) (a : Option Addr) (cap : Nat) (w : World) (hw : l.length + wtL l ≤ 1048576) (hc : KidsIn w S (.slice a l.length cap) l) :
    Calls Tryd.prog 9 #[.slice a l.length cap] w fun e w' => TreeNew w.heap.size (listTr l) e w' ∧ Below w.heap.size w w' := by
  have hz := ZeroAt.new w
  have hal := alloc_below w #[.int .i64 0, .bool false, .int .i64 0, .string ⟨#[]⟩, .slice none 0 0, .slice none 0 0] 27
  have HZ := Lib.hid (And.intro hz hal); clear hz hal
  go_enter Tryd.func9, Tryd.ntmps9
  go_wp2_with fail
  refine (copyTrees_of (copyT (nodesL l)) l S a cap _ (Nat.le_refl _) hw (hc.keep HZ.out.2)).mono ?_
  rintro e w1 ⟨⟨v1, fs, rfl, hko, hnd, hge⟩, hb1⟩
  obtain ⟨a1, n1, rfl⟩ := kids_shape hko
  have hz1 := HZ.out.1.keep hb1
  obtain ⟨r0, r1, r2, r3, r4, r5⟩ := hz1.cells
  obtain ⟨g0, g1, g2, g3, g4, g5⟩ := hz1.frozen
  have HN := Lib.hid (And.intro hko (And.intro hnd (And.intro hge (bnext HZ.out.2 hb1))))
  clear hz1 hko hnd hge hb1
  go_wp2
  refine bodyPost_ret (v := .agg #[.int .i64 5, .bool false, .int .i64 0, .string ⟨#[]⟩, .slice none 0 0, .slice a1 l.length n1]) (by simp [results, Tryd.results9, go_sem, r0, r1, r2, r3, r4, r5]) rfl ?_
  obtain ⟨hko, hnd, hge, hbw⟩ := HN.out
  refine put6w_new (t := listTr l) (vk := .slice none 0 0) (treeOwn_iff.2 ⟨[], fs, rfl, .inl ⟨rfl, rfl, none, 0, rfl, rfl, rfl⟩, hko⟩) hnd (fun x hx => ?_) hbw (Nat.le_refl _) _ _ _ _ _ _
  have := hge x hx
  simp at this
  omega

theorem listTr_wt (l : List Tr) : (listTr l).wt = l.length + wtL l := by
  simp only [listTr, Tr.wt]
  have h1 : strWt [] = 0 := rfl
  have h2 : ByteArray.size ⟨#[]⟩ = 0 := rfl
  omega

set_option maxHeartbeats 1000000 in
theorem sListTree (l : List Tr) (S : Nat → Prop) (a : Option Addr) (cap : Nat) (w : World) (hw : l.length + wtL l ≤ 1048576) (hc : KidsIn w S (.slice a l.length cap) l) :
    Calls Tryd.prog 75 #[.slice a l.length cap] w fun e w' => TreeNew w.heap.size (listTr l) e w' ∧ Below w.heap.size w w' := by
  have hz := ZeroAt.new w
  have hal := alloc_below w #[.int .i64 0, .bool false, .int .i64 0, .string ⟨#[]⟩, .slice none 0 0, .slice none 0 0] 27
  have HZ := Lib.hid (And.intro hz hal); clear hz hal
  have HW := Lib.hid (listTr_wt l)
  go_enter Tryd.func75, Tryd.ntmps75
  go_wp2_with fail
  refine (lcopyT (listTr l).nodes (listTr l) S (.slice none 0 0) (.slice a l.length cap) _ (Nat.le_refl _) (by rw [HW.out]; exact hw) (treeIn_iff.2 ⟨⟨none, 0, rfl, .inl rfl⟩, hc.keep HZ.out.2⟩)).mono ?_
  rintro e w1 ⟨⟨vk, vs, fp, rfl, hto, hnd, hge⟩, hb1⟩
  obtain ⟨fk, fs, -, hso, hko⟩ := treeOwn_iff.1 hto
  obtain ⟨a1, n1, rfl⟩ := str_shape hso
  obtain ⟨a2, n2, rfl⟩ := kids_shape hko
  clear hso hko
  have hz1 := HZ.out.1.keep hb1
  obtain ⟨r0, r1, r2, r3, r4, r5⟩ := hz1.cells
  obtain ⟨g0, g1, g2, g3, g4, g5⟩ := hz1.frozen
  have HN := Lib.hid (And.intro hto (And.intro hnd (And.intro hge (bnext HZ.out.2 hb1))))
  clear hz1 hto hnd hge hb1
  go_wp2
  refine bodyPost_ret (v := .agg #[.int .i64 (listTr l).kind, .bool (listTr l).flag, .int .i64 (listTr l).num, .string (listTr l).text, .slice a1 (listTr l).keys.length n1, .slice a2 (listTr l).kids.length n2]) (by simp [results, Tryd.results75, go_sem, r0, r1, r2, r3, r4, r5]) rfl ?_
  obtain ⟨hto, hnd, hge, hbw⟩ := HN.out
  refine put6w_new (t := listTr l) hto hnd (fun x hx => ?_) hbw (Nat.le_refl _) _ _ _ _ _ _
  have := hge x hx
  simp at this
  omega

/-- Does KidOf find a child? -/
def kidHit (key : ByteArray) (t : Tr) : Bool := decide (0 ≤ keyIx key t) && decide (t.keys.length = t.kids.length)
def kidTr (key : ByteArray) (t : Tr) : Tr := if kidHit key t = true then kidAt t.kids (keyIx key t).toNat else noTree
/-- A tree and a bool come back, the tree on blocks of its own. -/
def TreeNew2 (B : Nat) (t : Tr) (c : Bool) (e : Ending) (w' : World) : Prop :=
  ∃ vk vs fp, e = .returned (.tuple #[.agg #[.int .i64 t.kind, .bool t.flag, .int .i64 t.num, .string t.text, vk, vs], .bool c]) ∧ TreeOwn w' t vk vs fp ∧ fp.Nodup ∧ ∀ b, b ∈ fp → B ≤ b
theorem keyIx_lt (key : ByteArray) (t : Tr) : keyIx key t < t.keys.length := by
  unfold keyIx
  split
  · have := (findIx_bd key t.keys 0).2; omega
  · omega
theorem noTree_own (w : World) : TreeOwn w noTree (.slice none 0 0) (.slice none 0 0) [] := treeOwn_iff.2 ⟨[], [], rfl, .inl ⟨rfl, rfl, none, 0, rfl, rfl, rfl⟩, .inl ⟨rfl, rfl, none, 0, rfl⟩⟩
theorem noTree_new (w : World) (B : Nat) : TreeNew2 B noTree false (.returned (.tuple #[.agg #[.int .i64 0, .bool false, .int .i64 0, .string ⟨#[]⟩, .slice none 0 0, .slice none 0 0], .bool false])) w :=
  ⟨_, _, [], rfl, noTree_own w, List.nodup_nil, fun b hb => by simp at hb⟩

set_option maxHeartbeats 1000000 in
theorem iKidOf (t : Tr) (S : Nat → Prop) (vk vs : Value) (key : ByteArray) (w : World) (hw : t.wt ≤ 1048576) (ht : TreeIn w S t vk vs) :
    Calls Tryd.prog 23 #[.agg #[.int .i64 t.kind, .bool t.flag, .int .i64 t.num, .string t.text, vk, vs], .string key] w fun e w' => TreeNew2 w.heap.size (kidTr key t) (kidHit key t) e w' ∧ Below w.heap.size w w' := by
  have hwt := wt_eq t
  have hkw := strWt_eq t.keys
  have hn : t.keys.length ≤ 1048576 := by omega
  have hn2 : t.kids.length ≤ 1048576 := by omega
  have HWK := Lib.hid (show wtL t.kids ≤ 1048576 by omega)
  clear hwt hkw hw
  obtain ⟨hk, hs⟩ := treeIn_iff.1 ht
  obtain ⟨a1, m1, rfl⟩ := hk.len
  obtain ⟨a2, m2, rfl⟩ := hs.len
  have hz := ZeroAt.new (w.alloc (.cells #[.int .i64 t.kind, .bool t.flag, .int .i64 t.num, .string t.text, .slice a1 t.keys.length m1, .slice a2 t.kids.length m2] 27))
  have hsp := (Spill.new w t (.slice a1 t.keys.length m1) (.slice a2 t.kids.length m2) 27).keep (alloc_below _ #[.int .i64 0, .bool false, .int .i64 0, .string ⟨#[]⟩, .slice none 0 0, .slice none 0 0] 27)
  rw [World.size_alloc] at hz
  have hal : Below w.heap.size w ((w.alloc (.cells #[.int .i64 t.kind, .bool t.flag, .int .i64 t.num, .string t.text, .slice a1 t.keys.length m1, .slice a2 t.kids.length m2] 27)).alloc (.cells #[.int .i64 0, .bool false, .int .i64 0, .string ⟨#[]⟩, .slice none 0 0, .slice none 0 0] 27)) := by repeat (first | exact Below.refl _ _ | (refine Below.alloc ?_ (by first | omega | (simp; done) | (simp; omega)) _) | (refine Below.setCell ?_ (by first | omega | (simp; done) | (simp; omega)) _) | (refine Below.drew ?_) | (refine below_drewN ?_ _))
  have HZ := Lib.hid (And.intro hz (And.intro hsp hal)); clear hz hsp hal
  have HK1 : Hid (kidHit key t = (decide (0 ≤ keyIx key t) && decide (t.keys.length = t.kids.length))) := rfl
  have HK2 : Hid (kidTr key t = if kidHit key t = true then kidAt t.kids (keyIx key t).toNat else noTree) := rfl
  by_cases hhit : 0 ≤ keyIx key t ∧ t.keys.length = t.kids.length
  · obtain ⟨h0, hl⟩ := hhit
    have HE := Lib.hid (show kidHit key t = true by rw [HK1.out]; simp [h0, hl])
    obtain ⟨i, hi⟩ : ∃ i : Nat, keyIx key t = i := ⟨(keyIx key t).toNat, by omega⟩
    have HT := Lib.hid (show kidTr key t = kidAt t.kids i by rw [HK2.out, HE.out, if_pos rfl, hi]; rfl)
    have hlt : i < t.kids.length := by have := keyIx_lt key t; omega
    have hne : ((t.keys.length : Int) != (t.kids.length : Int)) = false := by simp [hl]
    have HKI := Lib.hid (show ∀ W : World, TreeIn W S t (.slice a1 t.keys.length m1) (.slice a2 t.kids.length m2) → Calls Tryd.prog 24 #[.agg #[.int .i64 t.kind, .bool t.flag, .int .i64 t.num, .string t.text, .slice a1 t.keys.length m1, .slice a2 t.kids.length m2], .string key] W fun e w' => e = .returned (.int .i64 (i : Int)) ∧ Below W.heap.size W w' from fun W hW => by
      have := iKeyAt t S _ _ key W hn hW
      rw [hi] at this; exact this)
    clear hi h0 hl HK1 HK2
    obtain ⟨b, o, vk, vs, rfl, hcs, hin⟩ := hs.at hlt
    obtain ⟨hk1, hs1⟩ := treeIn_iff.1 hin
    obtain ⟨a3, n3, rfl⟩ := hk1.len
    obtain ⟨a4, n4, rfl⟩ := hs1.len
    clear hk1 hs1 hk hs
    have hwk := wt_kid t.kids i hlt
    go_enter Tryd.func23, Tryd.ntmps23
    go_wp2_with fail
    refine (HKI.out _ (ht.keep HZ.out.2.2)).mono ?_
    rintro e w1 ⟨rfl, hb1⟩
    have hbw1 := bnext HZ.out.2.2 hb1
    have hsp1 := HZ.out.2.1.keep hb1
    have hz1 := HZ.out.1.keep hb1
    obtain ⟨p0, p1, p2, p3, p4, p5⟩ := hsp1.cells
    obtain ⟨c0, c1, c2, c3, c4, c5⟩ := TrCells.same (S := Any) (SameOn.of_below hbw1) trivial hcs
    have HB1 := Lib.hid (And.intro hbw1 hz1)
    clear hb1 hsp1 hz1 hbw1 hcs
    go_wp2_with fail
    refine (copyT (kidAt t.kids i).nodes (kidAt t.kids i) S _ _ _ (Nat.le_refl _) (by have := HWK.out; omega) (hin.keep HB1.out.1)).mono ?_
    rintro e w2 ⟨⟨k2, s2, fp, rfl, hto, hnd, hge⟩, hb2⟩
    obtain ⟨fk, fs, -, hso, hko⟩ := treeOwn_iff.1 hto
    obtain ⟨a5, n5, rfl⟩ := str_shape hso
    obtain ⟨a6, n6, rfl⟩ := kids_shape hko
    clear hso hko
    have hz2 := HB1.out.2.keep hb2
    obtain ⟨r0, r1, r2, r3, r4, r5⟩ := hz2.cells
    obtain ⟨g0, g1, g2, g3, g4, g5⟩ := hz2.frozen
    have hlz := HB1.out.2.lt
    have HN := Lib.hid (And.intro hto (And.intro hnd (And.intro hge (And.intro (bnext HB1.out.1 hb2) (And.intro hlz HB1.out.1.size)))))
    clear hz2 hto hnd hge hb2 hlz p0 p1 p2 p3 p4 p5
    go_wp2
    refine bodyPost_ret (v := .tuple #[.agg #[.int .i64 (kidAt t.kids i).kind, .bool (kidAt t.kids i).flag, .int .i64 (kidAt t.kids i).num, .string (kidAt t.kids i).text, .slice a5 (kidAt t.kids i).keys.length n5, .slice a6 (kidAt t.kids i).kids.length n6], .bool true]) (by simp [results, Tryd.results23, go_sem, r0, r1, r2, r3, r4, r5]) rfl ?_
    obtain ⟨hto, hnd, hge, hbw, hlz, hsz⟩ := HN.out
    rw [HT.out, HE.out]
    obtain ⟨⟨k3, s3, f3, e3, ho3, hn3, hg3⟩, hbl⟩ := put6w_new (b := w.heap.size + 1) hto hnd (fun x hx => by have := hge x hx; exact ⟨by omega, by omega⟩) hbw (by omega) (.int .i64 (kidAt t.kids i).kind) (.bool (kidAt t.kids i).flag) (.int .i64 (kidAt t.kids i).num) (.string (kidAt t.kids i).text) (.slice a5 (kidAt t.kids i).keys.length n5) (.slice a6 (kidAt t.kids i).kids.length n6)
    injection e3 with e3
    exact ⟨⟨k3, s3, f3, by rw [e3], ho3, hn3, hg3⟩, hbl⟩
  · have HE := Lib.hid (show kidHit key t = false by rw [HK1.out, ← Bool.decide_and, decide_eq_false_iff_not]; exact hhit)
    have HT := Lib.hid (show kidTr key t = noTree by rw [HK2.out, HE.out]; rfl)
    clear HK1 HK2
    by_cases h0 : keyIx key t < 0
    rotate_left
    · have hne : ((t.keys.length : Int) != (t.kids.length : Int)) = true := by simp [bne]; omega
      clear hhit
      go_enter Tryd.func23, Tryd.ntmps23
      go_wp2_with fail
      refine (iKeyAt t S _ _ key _ hn (ht.keep HZ.out.2.2)).mono ?_
      rintro e w1 ⟨rfl, hb1⟩
      have hbw1 := bnext HZ.out.2.2 hb1
      have hsp1 := HZ.out.2.1.keep hb1
      have hz1 := HZ.out.1.keep hb1
      obtain ⟨p0, p1, p2, p3, p4, p5⟩ := hsp1.cells
      obtain ⟨r0, r1, r2, r3, r4, r5⟩ := hz1.cells
      obtain ⟨g0, g1, g2, g3, g4, g5⟩ := hz1.frozen
      clear hsp1 hz1 hb1
      go_wp2
      refine bodyPost_ret (v := .tuple #[.agg #[.int .i64 0, .bool false, .int .i64 0, .string ⟨#[]⟩, .slice none 0 0, .slice none 0 0], .bool false]) (by simp [results, Tryd.results23, go_sem, r0, r1, r2, r3, r4, r5]) rfl ?_
      rw [HT.out, HE.out]
      exact ⟨noTree_new _ _, put6w_below hbw1 (w.heap.size + 1) (by omega) _ _ _ _ _ _⟩
    · clear hhit
      go_enter Tryd.func23, Tryd.ntmps23
      go_wp2_with fail
      refine (iKeyAt t S _ _ key _ hn (ht.keep HZ.out.2.2)).mono ?_
      rintro e w1 ⟨rfl, hb1⟩
      have hbw1 := bnext HZ.out.2.2 hb1
      have hz1 := HZ.out.1.keep hb1
      obtain ⟨r0, r1, r2, r3, r4, r5⟩ := hz1.cells
      obtain ⟨g0, g1, g2, g3, g4, g5⟩ := hz1.frozen
      clear hz1 hb1
      go_wp2
      refine bodyPost_ret (v := .tuple #[.agg #[.int .i64 0, .bool false, .int .i64 0, .string ⟨#[]⟩, .slice none 0 0, .slice none 0 0], .bool false]) (by simp [results, Tryd.results23, go_sem, r0, r1, r2, r3, r4, r5]) rfl ?_
      rw [HT.out, HE.out]
      exact ⟨noTree_new _ _, put6w_below hbw1 (w.heap.size + 1) (by omega) _ _ _ _ _ _⟩

end Go.Proofs.YtkifacpanipfhaaDoor
