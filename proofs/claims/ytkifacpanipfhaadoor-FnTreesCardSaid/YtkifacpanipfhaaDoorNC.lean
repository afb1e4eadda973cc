/- CopyT, InsT, InsS, PutN, PutJ, merged. -/
import Derived.Test.YtkifacpanipfhaaDoorNB
import Derived.Test.YtkifacpanipfhaaDoorNL
import Derived.Shelf.Spec.SlicesInsert
import Derived.Lib.AppendZerosOnto
import Derived.Deep.AppendLies
import Derived.Laws.CopyOwn
import Derived.Shelf.Spec.SearchS
namespace Go.Proofs.YtkifacpanipfhaaDoor
open Go.RowKit

def StrRow (B : Nat) (l : List ByteArray) (e : Ending) (w' : World) : Prop := ∃ v, e = .returned v ∧ w'.ownsRow B 9 1 v l.length (l.map Value.string)
def KidsGr (B : Nat) (l : List Tr) (e : Ending) (w' : World) : Prop := ∃ v ff, e = .returned v ∧ KidsGrow w' B 27 v l ff
def CopyR (B : Nat) (t : Tr) (e : Ending) (w' : World) : Prop :=
  ∃ vk vs ff, e = .returned (.agg #[.int .i64 t.kind, .bool t.flag, .int .i64 t.num, .string t.text, vk, vs]) ∧ w'.ownsRow B 9 1 vk t.keys.length (t.keys.map Value.string) ∧ KidsGrow w' B 27 vs t.kids ff ∧
    ∀ b, vk.ownBlock = some b → vs.ownBlock ≠ some b ∧ b ∉ ff
theorem ownsMono {w : World} {B B' e size : Nat} {v : Value} {n : Nat} {xs : List Value} (h : w.ownsRow B e size v n xs) (hB : B' ≤ B) : w.ownsRow B' e size v n xs := by
  obtain ⟨h1, h2⟩ := h
  refine ⟨h1, ?_⟩
  rcases h2 with h2 | ⟨g, cap, cur, hv, hb, r⟩
  · exact .inl h2
  · exact .inr ⟨g, cap, cur, hv, Nat.le_trans hB hb, r⟩
theorem kidsMono {w : World} {B B' : Nat} {e : TypeId} {v : Value} {l : List Tr} {ff : List Nat} (h : KidsGrow w B e v l ff) (hB : B' ≤ B) : KidsGrow w B' e v l ff := by
  obtain ⟨xs, h1, h2, h3, h4⟩ := h
  exact ⟨xs, ownsMono h1 hB, h2, h3, fun b hb => ⟨Nat.le_trans hB (h4 b hb).1, (h4 b hb).2⟩⟩

set_option maxHeartbeats 1000000 in
theorem slicesCloneR (l : List ByteArray) (S : Nat → Prop) (a : Option Addr) (cap : Nat) (w : World) (hn : l.length ≤ 1048576) (hc : StrsIn w S (.slice a l.length cap) l) :
    Calls Tryd.prog 82 #[.slice a l.length cap] w fun e w' => StrRow w.heap.size l e w' ∧ Below w.heap.size w w' := by
  obtain ⟨i0, hi, hz0, hz1, hz2⟩ := info_parts Tryd.infoStr
  have hq := fun (w : World) (a : Option Addr) (n c n' c' : Nat) => Lib.run_eql_slice_nil (P := Tryd.prog) w 24 9 a n c n' c' Tryd.underlying24
  cases a with
  | none =>
    have hl : l = [] := by
      obtain ⟨a', cap', e, h⟩ := hc
      simp only [Value.slice.injEq] at e
      obtain ⟨rfl, _, _⟩ := e
      rcases h with h | ⟨b, o, h, _⟩
      · exact h
      · simp at h
    subst hl
    go_enter Tryd.func82, Tryd.ntmps82
    go_wp2
    go_ret
    exact ⟨⟨_, rfl, World.ownsRow_nil _ _ _ _⟩, Below.refl _ _⟩
  | some ad =>
    have hal : Below w.heap.size w (w.alloc (.cells #[] 9)) := alloc_below w #[] 9
    have hsrc := strs_src (hc.keep hal)
    have hown0 : (w.alloc (.cells #[] 9)).ownsRow w.heap.size 9 1 (.slice (some ⟨w.heap.size, 0, none⟩) 0 0) 0 [] := World.ownsRow_made w #[] 0 (Nat.le_refl _) (by unfold maxLen; omega) rfl
    go_enter Tryd.func82, Tryd.ntmps82
    go_wp2_with (at_builtin; refine wpList_append_in rfl (.tmp 5) (.tmp 6) 24 rfl w.heap.size 9 i0 (.string ⟨#[]⟩) 1 16 Tryd.underlying24 hi hz0 hz1 hz2 rfl (by decide) (.slice (some ⟨w.heap.size, 0, none⟩) 0 0) 0 [] rfl hown0 (some ad) l.length cap (l.map Value.string) rfl (by simp) hsrc (strs_one l) (by unfold maxLen; omega) (by omega) (by simp) ?_; intro v' w1 hown1 hgrow1 _)
    simp only [Nat.zero_add, List.nil_append] at hown1
    go_ret
    exact ⟨⟨_, rfl, hown1⟩, hal.grown hgrow1 (by simp) (fun k hk => by simp [Value.ownBlock] at hk; omega)⟩

set_option maxHeartbeats 1000000 in
theorem copyTreesR {N : Nat} (IH : CopyT N) (l : List Tr) (S : Nat → Prop) (a : Option Addr) (cap : Nat) (w : World) (hN : nodesL l ≤ N) (hw : l.length + wtL l ≤ 1048576) (hc : KidsIn w S (.slice a l.length cap) l) :
    Calls Tryd.prog 38 #[.slice a l.length cap] w fun e w' => KidsGr w.heap.size l e w' ∧ Below w.heap.size w w' := by
  have HIH := Lib.hid IH; clear IH
  obtain ⟨i0, hi, hz0, hz1, hz2⟩ := info_parts Tryd.infoTree
  go_enter Tryd.func38, Tryd.ntmps38
  go_wp2
  go_loopw [3, 8] (fun s3 s8 wr => ∃ (k : Nat) (v : Value), k ≤ l.length ∧ s8 = .int .i64 k ∧ v = s3 ∧ Hid (∃ ff, KidsGrow wr w.heap.size 27 v (l.take k) ff) ∧ Below w.heap.size w wr) (fun _ s8 _ => l.length - (intOf s8).toNat)
  case atStart => exact ⟨0, _, by omega, rfl, rfl, ⟨[], by rw [List.take_zero]; exact KidsGrow.nil _ _ _⟩, Below.refl _ _⟩
  case round =>
    obtain ⟨k, v, hk, rfl, rfl, HO, hb⟩ := hrel
    by_cases hlt : k < l.length
    · obtain ⟨b, o, vk, vs, rfl, ⟨c0, c1, c2, c3, c4, c5⟩, hin⟩ := (hc.keep hb).at hlt
      obtain ⟨hk1, hs1⟩ := treeIn_iff.1 hin
      obtain ⟨a1, n1, rfl⟩ := hk1.len
      obtain ⟨a2, n2, rfl⟩ := hs1.len
      clear hk1 hs1 hc
      have hnk := nodes_kid l k hlt
      have hwk := wt_kid l k hlt
      have hz := hb.size
      have hlb := lt_of_cell c0
      go_wp2_with fail
      refine (HIH.out (kidAt l k) S _ _ _ (by omega) (by omega) (hin.keep (by repeat (first | exact Below.refl _ _ | (refine Below.alloc ?_ (by first | omega | (simp; done) | (simp; omega)) _) | (refine Below.setCell ?_ (by first | omega | (simp; done) | (simp; omega)) _) | (refine Below.drew ?_) | (refine below_drewN ?_ _))))).mono ?_
      rintro e w2 ⟨⟨k2, s2, fp, rfl, hto, hnd, hge⟩, hb2⟩
      obtain ⟨fk, fs, hfe, hso, hko⟩ := treeOwn_iff.1 hto
      obtain ⟨a3, n3, rfl⟩ := str_shape hso
      obtain ⟨a4, n4, rfl⟩ := kids_shape hko
      clear hfe hso hko
      obtain ⟨ff, hg⟩ := HO.out
      have hbw2 : Below wr.heap.size wr w2 := bnext (by repeat (first | exact Below.refl _ _ | (refine Below.alloc ?_ (by first | omega | (simp; done) | (simp; omega)) _) | (refine Below.setCell ?_ (by first | omega | (simp; done) | (simp; omega)) _) | (refine Below.drew ?_) | (refine below_drewN ?_ _))) hb2
      have hal := alloc_below w2 #[.int .i64 (kidAt l k).kind, .bool (kidAt l k).flag, .int .i64 (kidAt l k).num, .string (kidAt l k).text, .slice a3 (kidAt l k).keys.length n3, .slice a4 (kidAt l k).kids.length n4] 27
      have hg3 := hg.keep (bnext hbw2 hal)
      have hzw := hbw2.size
      obtain ⟨xs0, ho0, hr0, -, -⟩ := hg
      obtain ⟨xs, ho, hr, hndf, hff⟩ := hg3
      have hto3 := hto.keep hal
      have hfp : ∀ b, b ∈ fp → w.heap.size ≤ b ∧ v.ownBlock ≠ some b ∧ b ∉ ff := fun b hb' => by
        have h1 := hge b hb'
        simp at h1
        refine ⟨by omega, fun h => ?_, fun h => ?_⟩
        · have := (ho0.lt b h).2; omega
        · have := KidsRow.lt _ _ 0 ff hr0 b h; omega
      have hlen : (l.take k).length = k := by simp; omega
      have HST := Lib.hid (And.intro hr (And.intro hndf (And.intro hff (And.intro hto3 (And.intro hnd hfp)))))
      have HLEN := Lib.hid hlen
      have hbw := bnext hb (bnext hbw2 hal)
      clear hr0 ho0 hr hndf hff hto3 hnd hfp hge hto hlen hb2 HO
      have hq1 : (l.take k).length + 1 ≤ 1048577 := by have := HLEN.out; omega
      have hbs := hbw.size
      go_wp2_with (at_builtin; refine wpList_append_spotK rfl (.tmp 12) (.tmp 15) 25 rfl w.heap.size 27 i0 _ 6 88 Tryd.underlying25 hi hz0 hz1 hz2 rfl (by decide) v (l.take k).length xs rfl ho ⟨w2.heap.size, 0, none⟩ 1 1 (six (kidAt l k) (.slice a3 (kidAt l k).keys.length n3) (.slice a4 (kidAt l k).kids.length n4)) rfl rfl (six_src _ _ _ _ _) six_one (by unfold maxLen; omega) (by omega) hbs ?_; intro v' w3 hown3 hgrow3 hspot3)
      go_roundw
      case rel =>
        obtain ⟨hr, hndf, hff, hto3, hnd, hfp⟩ := HST.out
        refine ⟨k + 1, v', by omega, by go_num, rfl, ⟨ff ++ fp, ?_⟩, ?_⟩
        · rw [kids_take_succ l k hlt]
          exact KidsGrow.step ho hr hndf hff hto3 hnd hfp hown3 hgrow3 hspot3
        · exact hbw.grown hgrow3 (by simp; omega) (fun k hk => (ho.lt k hk).1)
      case measure => simp [intOf]; omega
    · obtain rfl : k = l.length := by omega
      go_wp2
      go_ret
      obtain ⟨ff, hg⟩ := HO.out
      rw [List.take_length] at hg
      exact ⟨⟨_, ff, rfl, hg⟩, hb⟩

set_option maxHeartbeats 4000000 in
theorem copyTop (t : Tr) (S : Nat → Prop) (vk vs : Value) (w : World) (hw : t.wt ≤ 1048576) (ht : TreeIn w S t vk vs) :
    Calls Tryd.prog 47 #[.agg #[.int .i64 t.kind, .bool t.flag, .int .i64 t.num, .string t.text, vk, vs]] w fun e w' => CopyR w.heap.size t e w' ∧ Below w.heap.size w w' := by
  have HIH := Lib.hid (copyT (nodesL t.kids))
  have HK := Lib.hid (Nat.le_refl (nodesL t.kids))
  have hwt := wt_eq t
  have hs1 : t.keys.length ≤ 1048576 := by have := strWt_eq t.keys; omega
  have HW := Lib.hid (show t.kids.length + wtL t.kids ≤ 1048576 by omega)
  clear hwt
  obtain ⟨hk, hs⟩ := treeIn_iff.1 ht
  obtain ⟨a1, m1, rfl⟩ := hk.len
  obtain ⟨a2, m2, rfl⟩ := hs.len
  clear ht
  go_enter Tryd.func47, Tryd.ntmps47
  go_wp2_with fail
  refine (slicesCloneR t.keys S a1 m1 _ hs1 (hk.keep (by repeat (first | exact Below.refl _ _ | (refine Below.alloc ?_ (by first | omega | (simp; done) | (simp; omega)) _) | (refine Below.setCell ?_ (by first | omega | (simp; done) | (simp; omega)) _) | (refine Below.drew ?_) | (refine below_drewN ?_ _))))).mono ?_
  rintro e w1 ⟨⟨v1, rfl, hown⟩, hb1⟩
  obtain ⟨fk, hso, hnd1, hge1⟩ := strOwn_of_row hown
  obtain ⟨c1, c2, rfl⟩ := str_shape hso
  have rowL0 := (World.rowIs_alloc w #[.int .i64 t.kind, .bool t.flag, .int .i64 t.num, .string t.text, .slice a1 t.keys.length m1, .slice a2 t.kids.length m2] 27 (lit6 (.int .i64 t.kind) (.bool t.flag) (.int .i64 t.num) (.string t.text) (.slice a1 t.keys.length m1) (.slice a2 t.kids.length m2)) (lit6_get _ _ _ _ _ _)).alloc
    (.cells #[.int .i64 0, .bool false, .int .i64 0, .string ⟨#[]⟩, .slice none 0 0, .slice none 0 0] 27)
  have rowR0 := World.rowIs_alloc (w.alloc (.cells #[.int .i64 t.kind, .bool t.flag, .int .i64 t.num, .string t.text, .slice a1 t.keys.length m1, .slice a2 t.kids.length m2] 27))
    #[.int .i64 0, .bool false, .int .i64 0, .string ⟨#[]⟩, .slice none 0 0, .slice none 0 0] 27 (lit6 (.int .i64 0) (.bool false) (.int .i64 0) (.string ⟨#[]⟩) (.slice none 0 0) (.slice none 0 0)) (lit6_get _ _ _ _ _ _)
  have rowL1 := rowIs_keep rowL0 hb1
  have rowR1 := rowIs_keep rowR0 hb1
  simp only [World.size_alloc] at rowL1 rowR1
  have l4 := rowL1.cell (i := 4) (by simp)
  have l5 : w1.cell? ⟨w.heap.size, 5, none⟩ = some (.slice a2 t.kids.length m2) := rowL1.cell (i := 5) (by simp)
  have lf4 := rowL1.frozen 4
  have ROWS := Lib.hid (And.intro rowL1 rowR1)
  obtain ⟨hc1, hf1⟩ := bcell hb1
  clear rowL0 rowR0 rowL1 rowR1
  have hz1 := hb1.size
  simp at hz1
  have HSO := Lib.hid hown
  clear hso hnd1 hge1 hown
  have hbw1 : Below w.heap.size w w1 := bnext (by repeat (first | exact Below.refl _ _ | (refine Below.alloc ?_ (by first | omega | (simp; done) | (simp; omega)) _) | (refine Below.setCell ?_ (by first | omega | (simp; done) | (simp; omega)) _) | (refine Below.drew ?_) | (refine below_drewN ?_ _))) hb1
  have HB1 := Lib.hid hb1; clear hb1
  go_wp2_with fail
  clear hc1 hf1 l4 l5 lf4
  have hbw2 : Below w.heap.size w (w1.setCell ⟨w.heap.size, 4, none⟩ (.slice c1 t.keys.length c2)) := hbw1.setCell (by show _ ≤ w.heap.size; omega) _
  refine (copyTreesR HIH.out t.kids S a2 m2 _ HK.out HW.out (hs.keep hbw2)).mono ?_
  rintro e w3 ⟨⟨v3, ff, rfl, hgr⟩, hb3⟩
  obtain ⟨fs, hko, hnd3, hge3⟩ := hgr.own
  obtain ⟨c3, c4, rfl⟩ := kids_shape hko
  obtain ⟨rowL1, rowR1⟩ := ROWS.out
  have rowL3 := rowIs_keep (rowL1.set 4 (.slice c1 t.keys.length c2)) hb3
  have rowR3 := rowIs_keep (rowR1.setOther (a := ⟨w.heap.size, 4, none⟩) (by simp) (.slice c1 t.keys.length c2)) hb3
  clear rowL1 rowR1
  have l0 : w3.cell? ⟨w.heap.size, 0, none⟩ = some (.int .i64 t.kind) := rowL3.cell (by simp)
  have l1 : w3.cell? ⟨w.heap.size, 1, none⟩ = some (.bool t.flag) := rowL3.cell (by simp)
  have l2 : w3.cell? ⟨w.heap.size, 2, none⟩ = some (.int .i64 t.num) := rowL3.cell (by simp)
  have l3 : w3.cell? ⟨w.heap.size, 3, none⟩ = some (.string t.text) := rowL3.cell (by simp)
  have l4 : w3.cell? ⟨w.heap.size, 4, none⟩ = some (.slice c1 t.keys.length c2) := rowL3.cell (by simp)
  have l5 : w3.cell? ⟨w.heap.size, 5, none⟩ = some (.slice a2 t.kids.length m2) := rowL3.cell (by simp)
  have lf5 := rowL3.frozen 5
  have r0 : w3.cell? ⟨w.heap.size + 1, 0, none⟩ = some (.int .i64 0) := rowR3.cell (by simp)
  have r1 : w3.cell? ⟨w.heap.size + 1, 1, none⟩ = some (.bool false) := rowR3.cell (by simp)
  have r2 : w3.cell? ⟨w.heap.size + 1, 2, none⟩ = some (.int .i64 0) := rowR3.cell (by simp)
  have r3 : w3.cell? ⟨w.heap.size + 1, 3, none⟩ = some (.string ⟨#[]⟩) := rowR3.cell (by simp)
  have r4 : w3.cell? ⟨w.heap.size + 1, 4, none⟩ = some (.slice none 0 0) := rowR3.cell (by simp)
  have r5 : w3.cell? ⟨w.heap.size + 1, 5, none⟩ = some (.slice none 0 0) := rowR3.cell (by simp)
  have rf0 := rowR3.frozen 0
  have rf1 := rowR3.frozen 1
  have rf2 := rowR3.frozen 2
  have rf3 := rowR3.frozen 3
  have rf4 := rowR3.frozen 4
  have rf5 := rowR3.frozen 5
  clear rowL3 rowR3
  have hz3 := hb3.size
  simp at hz3
  have HKO := Lib.hid hgr
  clear hko hnd3 hge3 hgr
  have hbw3 : Below w.heap.size w w3 := bnext hbw2 hb3
  have HB3 := Lib.hid hb3; clear hb3
  go_wp2
  refine bodyPost_ret (v := .agg #[.int .i64 t.kind, .bool t.flag, .int .i64 t.num, .string t.text, .slice c1 t.keys.length c2, .slice c3 t.kids.length c4]) (by simp [results, Tryd.results47, go_sem, r0, r1, r2, r3, r4, r5]) rfl ?_
  have hown := HSO.out
  have hgr := HKO.out
  have hkl := hown.lt
  have hgl := hgr.lt
  simp only [World.size_alloc] at hkl hgl hown
  have hfin : ∀ (b : Nat), b ≠ w.heap.size + 1 → b ≠ w.heap.size → ∀ (v v0 v1 v2 v3 v4 v5 : Value), (((((((w3.setCell ⟨w.heap.size, 5, none⟩ v).setCell ⟨w.heap.size + 1, 0, none⟩ v0).setCell ⟨w.heap.size + 1, 1, none⟩ v1).setCell ⟨w.heap.size + 1, 2, none⟩ v2).setCell ⟨w.heap.size + 1, 3, none⟩ v3).setCell ⟨w.heap.size + 1, 4, none⟩ v4).setCell ⟨w.heap.size + 1, 5, none⟩ v5).heap[b]? = w3.heap[b]? := fun b h1 h2 v v0 v1 v2 v3 v4 v5 => by
    rw [Below.heap_setCell _ _ _ _ h1, Below.heap_setCell _ _ _ _ h1, Below.heap_setCell _ _ _ _ h1, Below.heap_setCell _ _ _ _ h1, Below.heap_setCell _ _ _ _ h1, Below.heap_setCell _ _ _ _ h1, Below.heap_setCell _ _ _ _ h2]
  have hown3 : w3.ownsRow (w.heap.size + 1 + 1) 9 1 (.slice c1 t.keys.length c2) t.keys.length (t.keys.map Value.string) :=
    ownsRow_keep (row_same (w' := w1.setCell ⟨w.heap.size, 4, none⟩ (.slice c1 t.keys.length c2)) hown fun b hb _ => Below.heap_setCell _ _ _ _ (by have := (hkl b hb).1; show b ≠ w.heap.size; omega)) HB3.out
  have hsz3 := HB3.out.size
  simp at hsz3 hgl
  refine ⟨⟨_, _, ff, rfl, ownsMono (row_same hown3 fun b hb _ => hfin b (by have := (hkl b hb).1; omega) (by have := (hkl b hb).1; omega) _ _ _ _ _ _ _) (by omega),
    kidsMono (hgr.same fun b hb _ => ?_) (by simp; omega), fun b hb => ?_⟩, ?_⟩
  · have hB : w1.heap.size ≤ b := by rcases hb with hb | hb; (· exact (hgl.1 b hb).1); exact (hgl.2 b hb).1
    exact hfin b (by omega) (by omega) _ _ _ _ _ _ _
  · have h1 := (hkl b hb).2
    exact ⟨fun e => by have := (hgl.1 b e).1; omega, fun e => by have := (hgl.2 b e).1; omega⟩
  · exact ((((((hbw3.setCell (p := ⟨w.heap.size, 5, none⟩) (show w.heap.size ≤ w.heap.size by omega) _).setCell (p := ⟨w.heap.size + 1, 0, none⟩) (show w.heap.size ≤ w.heap.size + 1 by omega) _).setCell (p := ⟨w.heap.size + 1, 1, none⟩) (show w.heap.size ≤ w.heap.size + 1 by omega) _).setCell (p := ⟨w.heap.size + 1, 2, none⟩) (show w.heap.size ≤ w.heap.size + 1 by omega) _).setCell (p := ⟨w.heap.size + 1, 3, none⟩) (show w.heap.size ≤ w.heap.size + 1 by omega) _).setCell (p := ⟨w.heap.size + 1, 4, none⟩) (show w.heap.size ≤ w.heap.size + 1 by omega) _).setCell (p := ⟨w.heap.size + 1, 5, none⟩) (show w.heap.size ≤ w.heap.size + 1 by omega) _

end Go.Proofs.YtkifacpanipfhaaDoor
namespace Go.Proofs.YtkifacpanipfhaaDoor
open Go.RowKit

/-- copy at elements of k cells. -/
theorem run_copy_rowK {P : Program} (w : World) (dT sT ty elem : TypeId) (g o dLen dCap : Nat) (a : Addr) (sLen sCap n k : Nat) (cur : Array Value) (t : TypeId) (cs : List Value)
    (hu : P.underlying dT = some (.slice elem)) (hs : (P.info? elem).map (·.size) = some k) (hg : w.heap[g]? = some (.cells cur t (0, 0))) (hm : Nat.min sLen dLen = n) (hn : cs.length = n * k)
    (hsrc : ∀ j v, cs[j]? = some v → w.cell? (a.add j) = some v) (hfit : o + cs.length ≤ cur.size) (h1 : ∀ v ∈ cs, v.oneCell' = true) :
    (Builtin.copy_ #[dT, sT] ty #[.slice (some ⟨g, o, none⟩) dLen dCap, .slice (some a) sLen sCap]).run P w = .ok (.int .i64 n) (w.setRow g (cur.toList.take o ++ cs ++ cur.toList.drop (o + cs.length)).toArray) := by
  have hl := run_loadCells_list (P := P) w a cs hsrc
  have hst := run_storeCells_at P g o t cs 0 cur w hg (by simpa using hfit) h1
  rw [hn] at hl
  cases hq : P.info? elem with
  | none => simp [hq] at hs
  | some i =>
    have hi : i.size = k := by simpa [hq] using hs
    simp [Builtin.copy_, run_underlying hu, Builtin.lenOf, Builtin.firstCells, sizeOf, typeInfo, hq, hi, hm, hl, hst, goInt]

/-! ### Lists of cells -/
def putL (R : List Value) (o : Nat) (cs : List Value) : List Value := R.take o ++ cs ++ R.drop (o + cs.length)
theorem putL_seg {A M Z cs : List Value} {o : Nat} (ho : A.length = o) (h : M.length = cs.length) : putL (A ++ (M ++ Z)) o cs = A ++ (cs ++ Z) := by
  subst ho
  have e1 : (A ++ (M ++ Z)).take A.length = A := by simp
  have e2 : (A ++ (M ++ Z)).drop (A.length + cs.length) = Z := by
    rw [← List.drop_drop, List.drop_left, ← h, List.drop_left]
  rw [putL, e1, e2, List.append_assoc]
theorem split3 {S : List Value} {k l : Nat} (h : k + l ≤ S.length) : ∃ M N Z, S = M ++ (N ++ Z) ∧ M.length = k ∧ N.length = l :=
  ⟨S.take k, (S.drop k).take l, (S.drop k).drop l, by rw [List.take_append_drop, List.take_append_drop], by simp; omega, by simp; omega⟩
theorem shiftL {R a b news : List Value} (hR : R.take (a.length + b.length) = a ++ b) (hl : a.length + (6 + b.length) ≤ R.length) (hn : news.length = 6) :
    ∃ Z, putL (putL R (a.length + 6) b) a.length news = a ++ (news ++ (b ++ Z)) := by
  have h0 : R.take a.length = a := by
    have := congrArg (List.take a.length) hR
    rw [List.take_take, List.take_left, Nat.min_eq_left (by omega)] at this
    exact this
  obtain ⟨M, N, Z, hS, h1, h2⟩ := split3 (S := R.drop a.length) (k := 6) (l := b.length) (by simp; omega)
  have e : R = (a ++ M) ++ (N ++ Z) := by
    rw [List.append_assoc, ← hS]
    conv => lhs; rw [← List.take_append_drop a.length R, h0]
  refine ⟨Z, ?_⟩
  rw [e, putL_seg (by rw [List.length_append, h1]) h2, List.append_assoc, putL_seg rfl (by rw [h1, hn])]
theorem growL {a b news Z0 : List Value} (hl : 6 + b.length ≤ Z0.length) (hn : news.length = 6) :
    ∃ Z, putL (putL (a ++ Z0) a.length news) (a.length + 6) b = a ++ (news ++ (b ++ Z)) := by
  obtain ⟨M, N, Z, hS, h1, h2⟩ := split3 (S := Z0) (k := 6) (l := b.length) hl
  refine ⟨Z, ?_⟩
  rw [hS, putL_seg rfl (by rw [h1, hn]), ← List.append_assoc, putL_seg (by rw [List.length_append, hn]) h2, List.append_assoc]

/-! ### The walk -/
/-- What an insert leaves: the row with the new element in it. -/
def InsR (B : Nat) (v : Value) (n : Nat) (ys : List Value) (w : World) (e : Ending) (w' : World) : Prop :=
  ∃ v', e = .returned v' ∧ w'.ownsRow B 27 6 v' (n + 1) ys ∧ w.grownBy w' v.ownBlock ∧ SpotK v v' w

set_option maxRecDepth 100000 in
set_option maxHeartbeats 4000000 in
theorem insEnd (w : World) (B : Nat) (v : Value) (n : Nat) (xs : List Value) (hown : w.ownsRow B 27 6 v n xs) (hB : B ≤ w.heap.size) (hn : n ≤ 1000000) (bx : Nat) (news : List Value) (hl : news.length = 1 * 6)
    (hnews : ∀ j u, news[j]? = some u → w.cell? ((⟨bx, 0, none⟩ : Addr).add j) = some u) (h1 : ∀ u ∈ news, u.oneCell' = true) :
    Calls Tryd.prog 50 #[v, .int .i64 n, .slice (some ⟨bx, 0, none⟩) 1 1] w (InsR B v n (xs ++ news) w) := by
  obtain ⟨i1, hi, hz0, hz1, hz2⟩ := info_parts Tryd.infoTree
  have HO := Lib.hid hown
  rcases hown.2 with ⟨rfl, rfl⟩ | ⟨g, cap, cur, rfl, hbg, hg, hnc, hcm, hcs, htake⟩
  · clear hown
    go_enter Tryd.func50, Tryd.ntmps50
    go_wp2_with (at_builtin; go_loud (refine wpList_append_spotK (by rfl) (.tmp 23) (.tmp 24) 25 (by rfl) B 27 i1 _ 6 88 Tryd.underlying25 hi hz0 hz1 hz2 rfl (by decide) (.slice none 0 0) 0 xs (by rfl) HO.out ⟨bx, 0, none⟩ 1 1 news (by rfl) hl hnews h1 (by unfold maxLen; omega) (by omega) hB ?_); intro v2 w2 hown2 hgrow2 hspot2)
    go_ret
    exact ⟨v2, rfl, hown2, hgrow2, hspot2⟩
  · clear hown hg hcs htake
    have hcm2 : cap ≤ 9223372036854775807 := by unfold maxLen at hcm; exact hcm
    have hdim : (n : Int) ≤ (n : Int) := by omega
    by_cases hcn : cap = n
    · subst hcn
      go_enter Tryd.func50, Tryd.ntmps50
      go_wp2_with (at_builtin; go_loud (refine wpList_append_spotK (by rfl) (.tmp 23) (.tmp 24) 25 (by rfl) B 27 i1 _ 6 88 Tryd.underlying25 hi hz0 hz1 hz2 rfl (by decide) (.slice (some ⟨g, 0, none⟩) cap cap) cap xs (by rfl) HO.out ⟨bx, 0, none⟩ 1 1 news (by rfl) hl hnews h1 (by unfold maxLen; omega) (by omega) hB ?_); intro v2 w2 hown2 hgrow2 hspot2)
      go_ret
      exact ⟨v2, rfl, hown2, hgrow2, hspot2⟩
    · go_enter Tryd.func50, Tryd.ntmps50
      go_wp2_with (at_builtin; go_loud (refine wpList_append_spotK (by rfl) (.tmp 23) (.tmp 24) 25 (by rfl) B 27 i1 _ 6 88 Tryd.underlying25 hi hz0 hz1 hz2 rfl (by decide) (.slice (some ⟨g, 0, none⟩) n cap) n xs (by rfl) HO.out ⟨bx, 0, none⟩ 1 1 news (by rfl) hl hnews h1 (by unfold maxLen; omega) (by omega) hB ?_); intro v2 w2 hown2 hgrow2 hspot2)
      go_ret
      exact ⟨v2, rfl, hown2, hgrow2, hspot2⟩

theorem cell_same {w W : World} {b o : Nat} (h : W.heap[b]? = w.heap[b]?) (j : Nat) : W.cell? ((⟨b, o, none⟩ : Addr).add j) = w.cell? ((⟨b, o, none⟩ : Addr).add j) := by
  rw [addr_add]; exact World.cell?_of_block h
theorem heap_old (w : World) (x : Obj) {b : Nat} (hb : b < w.heap.size) : (w.drew.alloc x).heap[b]? = w.heap[b]? := Below.heap_alloc w.drew x _ hb
def zT : Value := .agg #[.int .i64 0, .bool false, .int .i64 0, .string ⟨#[]⟩, .slice none 0 0, .slice none 0 0]
theorem zT_size : zT.cells.size = 6 := rfl

set_option maxRecDepth 100000 in
set_option maxHeartbeats 4000000 in
theorem insGrow (w : World) (B g n p : Nat) (cur : Array Value) (xs : List Value) (hg : w.heap[g]? = some (.cells cur 27 (0, 0))) (hxs : cur.toList = xs) (hxl : xs.length = n * 6) (hp : p < n) (hn : n ≤ 1000000) (hB : B ≤ w.heap.size)
    (bx : Nat) (news : List Value) (hl : news.length = 1 * 6) (hnews : ∀ j u, news[j]? = some u → w.cell? ((⟨bx, 0, none⟩ : Addr).add j) = some u) (h1 : ∀ u ∈ news, u.oneCell' = true) (h1x : ∀ u ∈ xs, u.oneCell' = true) :
    Calls Tryd.prog 50 #[.slice (some ⟨g, 0, none⟩) n n, .int .i64 p, .slice (some ⟨bx, 0, none⟩) 1 1] w (InsR B (.slice (some ⟨g, 0, none⟩) n n) n (xs.take (p * 6) ++ (news ++ xs.drop (p * 6))) w) := by
  obtain ⟨i1, hi, hz0, hz1, hz2⟩ := info_parts Tryd.infoTree
  have hgl : g < w.heap.size := (Array.getElem?_eq_some_iff.1 hg).1
  have hbl : bx < w.heap.size := by
    have := hnews 0 _ (List.getElem?_eq_getElem (by omega))
    rw [addr_add] at this; exact lt_of_cell this
  have hcell : ∀ j u, xs[j]? = some u → w.cell? ((⟨g, 0, none⟩ : Addr).add j) = some u := fun j u hj => World.news_of_block hg j u (by rw [hxs]; exact hj)
  obtain ⟨a, ha⟩ : ∃ a, a = xs.take (p * 6) := ⟨_, rfl⟩
  obtain ⟨b, hb⟩ : ∃ b, b = xs.drop (p * 6) := ⟨_, rfl⟩
  have hal : a.length = p * 6 := by rw [ha, List.length_take]; omega
  have hbl2 : b.length = (n - p) * 6 := by rw [hb, List.length_drop]; omega
  have hab : xs = a ++ b := by rw [ha, hb, List.take_append_drop]
  rw [← ha, ← hb]
  have hca : ∀ j u, a[j]? = some u → w.cell? ((⟨g, 0, none⟩ : Addr).add j) = some u := fun j u hj => hcell j u (by
    have : j < a.length := (List.getElem?_eq_some_iff.1 hj).1
    rw [hab, List.getElem?_append_left this]; exact hj)
  have hcb : ∀ j u, b[j]? = some u → w.cell? ((⟨g, p * 6, none⟩ : Addr).add j) = some u := fun j u hj => by
    have h := hcell (p * 6 + j) u (by rw [hab, List.getElem?_append_right (by omega), hal, Nat.add_sub_cancel_left]; exact hj)
    rw [addr_add] at h ⊢
    rw [Nat.zero_add] at h; exact h
  have hold : (Builtin.firstCells i1.size p (.slice (some ⟨g, 0, none⟩) p n)).run Tryd.prog w.drew = .ok a.toArray w.drew := run_firstCells_some w.drew i1.size p ⟨g, 0, none⟩ p n a (by rw [hz1]; exact hal) hca
  obtain ⟨G, hG⟩ : ∃ G, G = grownCap w (n + 1) n 27 := ⟨_, rfl⟩
  have hGn : n + 1 ≤ G := by rw [hG]; exact grownCap_ge w _ _ _
  have hGm : G ≤ maxLen := by rw [hG]; exact grownCap_le_maxLen w (n + 1) n _ (by unfold maxLen; omega)
  obtain ⟨ROW, hROW⟩ : ∃ ROW : Array Value, ROW = a.toArray ++ Builtin.zeroCells zT.cells (n + 1 - p) ++ Builtin.zeroCells zT.cells (G - (n + 1)) := ⟨_, rfl⟩
  have hrz : ∀ ty, (Builtin.append_ #[25, 3] ty #[.slice (some ⟨g, 0, none⟩) p n, .int .i64 ((n : Int) + 1 - (p : Int))]).run Tryd.prog w =
      .ok (.slice (some ⟨w.heap.size, 0, none⟩) (n + 1) G) (w.drew.alloc (.cells ROW 27)) := fun ty => by
    have h := Lib.run_append_grow_zeros w 25 3 ty 27 i1 zT .i64 .i64 Tryd.underlying25 Tryd.underlying3 hi hz0 (some ⟨g, 0, none⟩) p n a hold (n + 1 - p) (by omega) (by omega) (by omega) (by omega) (by rw [hz2]; omega) (by rw [hz2, show p + (n + 1 - p) = n + 1 by omega]; exact growslice_fits (by omega) (by omega))
    rw [show p + (n + 1 - p) = n + 1 by omega, ← hG, ← hROW] at h
    rw [show (n : Int) + 1 - (p : Int) = ((n + 1 - p : Nat) : Int) by omega]
    exact h
  obtain ⟨Z0, hZ0⟩ : ∃ Z0, Z0 = (Builtin.zeroCells zT.cells (n + 1 - p)).toList ++ (Builtin.zeroCells zT.cells (G - (n + 1))).toList := ⟨_, rfl⟩
  have hRL : ROW.toList = a ++ Z0 := by rw [hROW, hZ0]; simp
  have hZl : Z0.length = (G - p) * 6 := by
    rw [hZ0, List.length_append, Array.length_toList, Array.length_toList, size_zeroCells, size_zeroCells, zT_size]; omega
  have hRs : ROW.size = G * 6 := by rw [← Array.length_toList, hRL, List.length_append, hal, hZl]; omega
  obtain ⟨Z, hZ⟩ := growL (a := a) (b := b) (news := news) (Z0 := Z0) (by omega) (by omega)
  obtain ⟨R2, hR2⟩ : ∃ R2 : Array Value, R2 = (putL ROW.toList (p * 6) news).toArray := ⟨_, rfl⟩
  have hR2s : R2.size = G * 6 := by rw [hR2, List.size_toArray, putL]; simp; omega
  obtain ⟨R3, hR3⟩ : ∃ R3 : Array Value, R3 = (putL R2.toList ((p + 1) * 6) b).toArray := ⟨_, rfl⟩
  have hR3s : R3.size = G * 6 := by rw [hR3, List.size_toArray, putL]; simp; omega
  have hlen : (a ++ (news ++ b)).length = (n + 1) * 6 := by rw [List.length_append, List.length_append, hal, hl, hbl2]; omega
  have hR3l : R3.toList = a ++ (news ++ (b ++ Z)) := by
    rw [hR3, hR2, hRL]
    show putL (putL (a ++ Z0) (p * 6) news) ((p + 1) * 6) b = _
    rw [← hZ, hal, show (p + 1) * 6 = p * 6 + 6 by omega]
  have hsz : (Tryd.prog.info? 27).map (·.size) = some 6 := by rw [hi]; simp [hz1]
  obtain ⟨W1, hW1⟩ : ∃ W1, W1 = w.drew.alloc (.cells ROW 27) := ⟨_, rfl⟩
  have hW1n : W1.heap[w.heap.size]? = some (.cells ROW 27 (0, 0)) := by rw [hW1]; exact heap_alloc_new w.drew _
  have hW1o : ∀ k, k < w.heap.size → W1.heap[k]? = w.heap[k]? := fun k hk => by rw [hW1]; exact heap_old w _ hk
  have hA : ∀ (W : World), (∀ k, W.heap[k]? = W1.heap[k]?) → ∀ ty dc, (Builtin.copy_ #[25, 25] ty #[.slice (some ⟨w.heap.size, p * 6, none⟩) (n + 1 - p) dc, .slice (some ⟨bx, 0, none⟩) 1 1]).run Tryd.prog W = .ok (.int .i64 (1 : Nat)) (W.setRow w.heap.size R2) := fun W hW ty dc => by
    have h := run_copy_rowK (P := Tryd.prog) W 25 25 ty 27 w.heap.size (p * 6) (n + 1 - p) dc ⟨bx, 0, none⟩ 1 1 1 6 ROW 27 news Tryd.underlying25 hsz (by rw [hW]; exact hW1n) (by show min _ _ = _; omega) hl
      (fun j u hj => (cell_same (by rw [hW, hW1o _ hbl]) j).trans (hnews j u hj)) (by rw [hRs]; omega) h1
    rw [hR2]; exact h
  have hBc : ∀ (W : World), (∀ k, W.heap[k]? = (W1.setRow w.heap.size R2).heap[k]?) → ∀ ty dc sc, (Builtin.copy_ #[25, 25] ty #[.slice (some ⟨w.heap.size, (p + 1) * 6, none⟩) (n - p) dc, .slice (some ⟨g, p * 6, none⟩) (n - p) sc]).run Tryd.prog W = .ok (.int .i64 (n - p : Nat)) (W.setRow w.heap.size R3) := fun W hW ty dc sc => by
    have h := run_copy_rowK (P := Tryd.prog) W 25 25 ty 27 w.heap.size ((p + 1) * 6) (n - p) dc ⟨g, p * 6, none⟩ (n - p) sc (n - p) 6 R2 27 b Tryd.underlying25 hsz (by rw [hW]; exact setRow_heap _ _ _ _ _ _ hW1n) (by show min _ _ = _; omega) hbl2
      (fun j u hj => (cell_same (by rw [hW, setRow_other _ _ _ _ (by omega), hW1o _ hgl]) j).trans (hcb j u hj)) (by rw [hR2s]; omega) (fun u hu => h1x u (by rw [hab]; simp [hu]))
    rw [hR3]; exact h
  have hw1 : IntKind.i64.wrap ((n : Int) + 1) = (n : Int) + 1 := IntWalk.i64_in _ (by omega)
  have hw2 : IntKind.i64.wrap ((p : Int) + 1) = (p : Int) + 1 := IntWalk.i64_in _ (by omega)
  have hw3 : IntKind.i64.wrap ((n : Int) + 1 - (p : Int)) = (n : Int) + 1 - (p : Int) := IntWalk.i64_in _ (by omega)
  have hq1 : ¬ ((p : Int) = (n : Int)) := by omega
  have hq2 : ((p : Int) == (n : Int)) = false := by rw [beq_eq_false_iff_ne]; exact hq1
  have hq3 : (n : Int) < (n : Int) + 1 := by omega
  have hq4 : ¬ (n = p) := by omega
  have hq5 : ¬ (G = p) := by omega
  have hq6 : ¬ (G = p + 1) := by omega
  have hq7 : ((p : Int) + 1).toNat = p + 1 := by omega
  have hq8 : (0 : Int) ≤ (p : Int) + 1 := by omega
  have hq9 : p ≤ n := by omega
  have hG63 : G ≤ 9223372036854775807 := by unfold maxLen at hGm; exact hGm
  clear hcell hca hcb hold hxl hxs hG hROW hRL hZ hZ0 hZl hRs hR2s hnews h1 h1x hab ha hb
  have HF := Lib.hid (And.intro hR3l (And.intro hGm (And.intro hR3s hlen)))
  clear hR3l hR2 hR3 hR3s hlen
  go_enter Tryd.func50, Tryd.ntmps50
  go_wp2_with (first
    | (at_builtin; go_loud (refine Lib.wpList_append_run _ (by rfl) _ _ _ _ (by rfl) _ _ (by rfl) (by rfl) _ _ (hrz _) ?_))
    | (at_builtin; go_loud (refine wpList_copy_runI _ (by rfl) _ _ 25 25 (by rfl) _ _ (by rfl) (by rfl) (hA _ (fun _ => by rw [hW1]; rfl) _ _) ?_)))
  go_region_law (go_loud (refine step_copy_runI (by rfl) _ _ 25 25 (by rfl) (.slice (some ⟨w.heap.size, (p + 1) * 6, none⟩) (n - p) (G - (p + 1))) (.slice (some ⟨g, p * 6, none⟩) (n - p) (n - p)) (by simp [Act.eval, Act.put]) (by simp [Act.eval, Act.put]) (hBc _ (fun _ => by rw [hW1]; rfl) 3 (G - (p + 1)) (n - p)) ?_))
  all_goals
    go_wp2
    go_ret
    obtain ⟨hR3l, hGm, hR3s, hlen⟩ := HF.out
    have hn1 : ((w.alloc (.cells ROW 27)).drew.setRow w.heap.size R2).heap[w.heap.size]? = some (.cells R2 27 (0, 0)) := setRow_heap _ _ ROW _ _ _ (heap_alloc_new w _)
    have hbw : Below w.heap.size w ((((w.alloc (.cells ROW 27)).drew.setRow w.heap.size R2).drew).setRow w.heap.size R3) := below_setRow (below_setRow ((Below.refl _ _).alloc (Nat.le_refl _) _).drew (Nat.le_refl _) _).drew (Nat.le_refl _) _
    exact ⟨_, rfl, ⟨hlen, .inr ⟨w.heap.size, G, R3, rfl, hB, setRow_heap _ _ R2 _ _ _ hn1, hGn, hGm, hR3s, by
      rw [hR3l, show a ++ (news ++ (b ++ Z)) = (a ++ (news ++ b)) ++ Z by simp only [List.append_assoc], ← hlen, List.take_left]⟩⟩,
      ⟨hbw.os, hbw.tape, hbw.output, hbw.size, fun k hk _ => hbw.block k hk⟩, .inr ⟨w.heap.size, rfl, Nat.le_refl _⟩⟩

set_option maxRecDepth 100000 in
set_option maxHeartbeats 4000000 in
theorem insShift (w : World) (B g n p cap : Nat) (cur : Array Value) (xs : List Value) (hbg : B ≤ g) (hg : w.heap[g]? = some (.cells cur 27 (0, 0))) (hcs : cur.size = cap * 6) (hxs : cur.toList.take (n * 6) = xs) (hxl : xs.length = n * 6) (hp : p < n) (hroom : n + 1 ≤ cap) (hcm : cap ≤ maxLen) (hn : n ≤ 1000000)
    (bx : Nat) (cb : Array Value) (news : List Value) (hbx : w.heap[bx]? = some (.cells cb 27 (0, 0))) (hne : bx ≠ g) (hnw : cb.toList = news) (hl : news.length = 1 * 6) (h1 : ∀ u ∈ news, u.oneCell' = true) (h1x : ∀ u ∈ xs, u.oneCell' = true) :
    Calls Tryd.prog 50 #[.slice (some ⟨g, 0, none⟩) n cap, .int .i64 p, .slice (some ⟨bx, 0, none⟩) 1 1] w (InsR B (.slice (some ⟨g, 0, none⟩) n cap) n (xs.take (p * 6) ++ (news ++ xs.drop (p * 6))) w) := by
  obtain ⟨i1, hi, hz0, hz1, hz2⟩ := info_parts Tryd.infoTree
  have hcl : cur.toList.length = cap * 6 := by simpa using hcs
  have hnews : ∀ j u, news[j]? = some u → w.cell? ((⟨bx, 0, none⟩ : Addr).add j) = some u := fun j u hj => World.news_of_block hbx j u (by rw [hnw]; exact hj)
  have hcell : ∀ j u, xs[j]? = some u → w.cell? ((⟨g, 0, none⟩ : Addr).add j) = some u := fun j u hj => World.news_of_block hg j u (by
    have hjl : j < xs.length := (List.getElem?_eq_some_iff.1 hj).1
    rw [← hj, ← hxs, List.getElem?_take_of_lt (by omega)])
  obtain ⟨a, ha⟩ : ∃ a, a = xs.take (p * 6) := ⟨_, rfl⟩
  obtain ⟨b, hb⟩ : ∃ b, b = xs.drop (p * 6) := ⟨_, rfl⟩
  have hal : a.length = p * 6 := by rw [ha, List.length_take]; omega
  have hbl2 : b.length = (n - p) * 6 := by rw [hb, List.length_drop]; omega
  have hab : xs = a ++ b := by rw [ha, hb, List.take_append_drop]
  rw [← ha, ← hb]
  have hcb : ∀ j u, b[j]? = some u → w.cell? ((⟨g, p * 6, none⟩ : Addr).add j) = some u := fun j u hj => by
    have h := hcell (p * 6 + j) u (by rw [hab, List.getElem?_append_right (by omega), hal, Nat.add_sub_cancel_left]; exact hj)
    rw [addr_add] at h ⊢
    rw [Nat.zero_add] at h; exact h
  have hsz : (Tryd.prog.info? 27).map (·.size) = some 6 := by rw [hi]; simp [hz1]
  have hso : ∀ w, (Go.sizeOf 27).run Tryd.prog w = .ok 6 w := fun w => by simp [sizeOf, typeInfo, hi, hz1]
  have hcbs : cb.size = 6 := by rw [← Array.length_toList, hnw, hl]
  have hsa : w.shape? bx = some (27, 6) := by simp [World.shape?, hbx, hcbs]
  have hsb : w.shape? g = some (27, cap * 6) := by simp [World.shape?, hg, hcs]
  have hfa : ∀ j, w.frozen? ⟨bx, j, none⟩ = false := fun j => by simp [World.frozen?, hbx]
  have hov : ∀ lb cb, (callFunc 87 #[.slice (some ⟨bx, 0, none⟩) 1 1, .slice (some ⟨g, (p + 1) * 6, none⟩) lb cb]).run Tryd.prog w = .ok (.value (.bool false)) w := fun lb cb => by
    rw [run_callFunc_extern Tryd.func87 (by kernel_rfl) (by kernel_rfl) (by kernel_rfl) (e := Extern.SlicesOverlaps.overlaps #[25, 25] #[4]) (by kernel_rfl),
      Lib.run_overlaps_apart w 25 4 27 Tryd.underlying25 6 hso ⟨bx, 0, none⟩ ⟨g, (p + 1) * 6, none⟩ 1 1 lb cb hne _ _ _ _ hsa hsb (by omega) (hfa 0) (hfa 6)]
    rfl
  obtain ⟨Z, hZ⟩ := shiftL (R := cur.toList) (a := a) (b := b) (news := news) (by rw [hal, hbl2, ← hab, ← hxs]; congr 1; omega) (by omega) (by omega)
  obtain ⟨R2, hR2⟩ : ∃ R2 : Array Value, R2 = (putL cur.toList ((p + 1) * 6) b).toArray := ⟨_, rfl⟩
  have hR2s : R2.size = cap * 6 := by rw [hR2, List.size_toArray, putL]; simp; omega
  obtain ⟨R3, hR3⟩ : ∃ R3 : Array Value, R3 = (putL R2.toList (p * 6) news).toArray := ⟨_, rfl⟩
  have hR3s : R3.size = cap * 6 := by rw [hR3, List.size_toArray, putL]; simp; omega
  have hlen : (a ++ (news ++ b)).length = (n + 1) * 6 := by rw [List.length_append, List.length_append, hal, hl, hbl2]; omega
  have hR3l : R3.toList = a ++ (news ++ (b ++ Z)) := by
    rw [hR3, hR2]
    show putL (putL cur.toList ((p + 1) * 6) b) (p * 6) news = _
    rw [← hZ, hal, show (p + 1) * 6 = p * 6 + 6 by omega]
  have hA : ∀ (W : World), (∀ k, W.heap[k]? = w.heap[k]?) → ∀ ty dc sc, (Builtin.copy_ #[25, 25] ty #[.slice (some ⟨g, (p + 1) * 6, none⟩) (n - p) dc, .slice (some ⟨g, p * 6, none⟩) (n + 1 - p) sc]).run Tryd.prog W = .ok (.int .i64 (n - p : Nat)) (W.setRow g R2) := fun W hW ty dc sc => by
    have h := run_copy_rowK (P := Tryd.prog) W 25 25 ty 27 g ((p + 1) * 6) (n - p) dc ⟨g, p * 6, none⟩ (n + 1 - p) sc (n - p) 6 cur 27 b Tryd.underlying25 hsz (by rw [hW]; exact hg) (by show min _ _ = _; omega) hbl2
      (fun j u hj => (cell_same (by rw [hW]) j).trans (hcb j u hj)) (by rw [hcs]; omega) (fun u hu => h1x u (by rw [hab]; simp [hu]))
    rw [hR2]; exact h
  have hBc : ∀ (W : World), (∀ k, W.heap[k]? = (w.setRow g R2).heap[k]?) → ∀ ty dc, (Builtin.copy_ #[25, 25] ty #[.slice (some ⟨g, p * 6, none⟩) (n + 1 - p) dc, .slice (some ⟨bx, 0, none⟩) 1 1]).run Tryd.prog W = .ok (.int .i64 (1 : Nat)) (W.setRow g R3) := fun W hW ty dc => by
    have h := run_copy_rowK (P := Tryd.prog) W 25 25 ty 27 g (p * 6) (n + 1 - p) dc ⟨bx, 0, none⟩ 1 1 1 6 R2 27 news Tryd.underlying25 hsz (by rw [hW]; exact setRow_heap _ _ _ _ _ _ hg) (by show min _ _ = _; omega) hl
      (fun j u hj => (cell_same (by rw [hW, setRow_other _ _ _ _ hne]) j).trans (hnews j u hj)) (by rw [hR2s]; omega) h1
    rw [hR3]; exact h
  have hw1 : IntKind.i64.wrap ((n : Int) + 1) = (n : Int) + 1 := IntWalk.i64_in _ (by omega)
  have hw2 : IntKind.i64.wrap ((p : Int) + 1) = (p : Int) + 1 := IntWalk.i64_in _ (by omega)
  have hq1 : ¬ ((p : Int) = (n : Int)) := by omega
  have hq2 : ((p : Int) == (n : Int)) = false := by rw [beq_eq_false_iff_ne]; exact hq1
  have hq3 : ¬ ((cap : Int) < (n : Int) + 1) := by omega
  have hq4 : ¬ (cap = p) := by omega
  have hq5 : ¬ (cap = p + 1) := by omega
  have hq7 : ((p : Int) + 1).toNat = p + 1 := by omega
  have hq6 : ((n : Int) + 1).toNat = n + 1 := by omega
  have hq8 : (0 : Int) ≤ (p : Int) + 1 := by omega
  have hq10 : (0 : Int) ≤ (n : Int) + 1 := by omega
  have hq9 : p ≤ n := by omega
  have hq11 : (p : Int) ≤ (n : Int) + 1 := by omega
  have hc63 : cap ≤ 9223372036854775807 := by unfold maxLen at hcm; exact hcm
  have HF := Lib.hid (And.intro hR3l (And.intro hcm (And.intro hR3s (And.intro hlen (And.intro hg hbg)))))
  clear hR3l hR2 hR3 hR3s hlen hcell hcb hxl hxs hZ hR2s hnews h1 h1x hab ha hb hcs hcl hsa hsb hfa hbx hg hbg hcbs hnw
  go_enter Tryd.func50, Tryd.ntmps50
  go_wp2_with (simp only [hov])
  go_region_law (go_loud (refine step_copy_runI (by rfl) _ _ 25 25 (by rfl) (.slice (some ⟨g, (p + 1) * 6, none⟩) (n - p) (cap - (p + 1))) (.slice (some ⟨g, p * 6, none⟩) (n + 1 - p) (cap - p)) (by simp [Act.eval, Act.put]) (by simp [Act.eval, Act.put]) (hA _ (fun _ => by rfl) 3 (cap - (p + 1)) (cap - p)) ?_))
  all_goals
    have hBd := hBc (w.drew.setRow g R2) (fun _ => rfl)
    go_wp2_with (at_builtin; go_loud (refine wpList_copy_runI _ (by rfl) _ _ 25 25 (by rfl) _ _ (by rfl) (by rfl) (hBd _ _) ?_))
    go_ret
    obtain ⟨hR3l, hcm, hR3s, hlen, hg, hbg⟩ := HF.out
    have hn1 : (w.drew.setRow g R2).heap[g]? = some (.cells R2 27 (0, 0)) := setRow_heap _ _ cur _ _ _ hg
    exact ⟨_, rfl, ⟨hlen, .inr ⟨g, cap, R3, rfl, hbg, setRow_heap _ _ R2 _ _ _ hn1, hroom, hcm, hR3s, by
      rw [hR3l, show a ++ (news ++ (b ++ Z)) = (a ++ (news ++ b)) ++ Z by simp only [List.append_assoc], ← hlen, List.take_left]⟩⟩,
      ⟨rfl, rfl, rfl, by simp, fun k hk hkg => by
        have hkg2 : k ≠ g := fun e => hkg (by rw [e]; rfl)
        rw [setRow_other _ _ _ _ hkg2]
        first | rfl | (rw [show (w.drew.setRow g R2).heap[k]? = w.drew.heap[k]? from setRow_other _ _ _ _ hkg2]; rfl)⟩, .inl rfl⟩

end Go.Proofs.YtkifacpanipfhaaDoor
namespace Go.Proofs.YtkifacpanipfhaaDoor
open Go.RowKit

def zS : Value := .string ⟨#[]⟩
theorem zS_size : zS.cells.size = 1 := rfl

theorem shiftLS {R a b news : List Value} (hR : R.take (a.length + b.length) = a ++ b) (hl : a.length + (1 + b.length) ≤ R.length) (hn : news.length = 1) :
    ∃ Z, putL (putL R (a.length + 1) b) a.length news = a ++ (news ++ (b ++ Z)) := by
  have h0 : R.take a.length = a := by
    have := congrArg (List.take a.length) hR
    rw [List.take_take, List.take_left, Nat.min_eq_left (by omega)] at this
    exact this
  obtain ⟨M, N, Z, hS, h1, h2⟩ := split3 (S := R.drop a.length) (k := 1) (l := b.length) (by simp; omega)
  have e : R = (a ++ M) ++ (N ++ Z) := by
    rw [List.append_assoc, ← hS]
    conv => lhs; rw [← List.take_append_drop a.length R, h0]
  refine ⟨Z, ?_⟩
  rw [e, putL_seg (by rw [List.length_append, h1]) h2, List.append_assoc, putL_seg rfl (by rw [h1, hn])]
theorem growLS {a b news Z0 : List Value} (hl : 1 + b.length ≤ Z0.length) (hn : news.length = 1) :
    ∃ Z, putL (putL (a ++ Z0) a.length news) (a.length + 1) b = a ++ (news ++ (b ++ Z)) := by
  obtain ⟨M, N, Z, hS, h1, h2⟩ := split3 (S := Z0) (k := 1) (l := b.length) hl
  refine ⟨Z, ?_⟩
  rw [hS, putL_seg rfl (by rw [h1, hn]), ← List.append_assoc, putL_seg (by rw [List.length_append, hn]) h2, List.append_assoc]

/-- What an insert leaves: the row with the new element in it. -/
def InsRS (B : Nat) (v : Value) (n : Nat) (ys : List Value) (w : World) (e : Ending) (w' : World) : Prop :=
  ∃ v', e = .returned v' ∧ w'.ownsRow B 9 1 v' (n + 1) ys ∧ w.grownBy w' v.ownBlock ∧ SpotK v v' w

set_option maxRecDepth 100000 in
set_option maxHeartbeats 4000000 in
theorem insEndS (w : World) (B : Nat) (v : Value) (n : Nat) (xs : List Value) (hown : w.ownsRow B 9 1 v n xs) (hB : B ≤ w.heap.size) (hn : n ≤ 1000000) (bx : Nat) (news : List Value) (hl : news.length = 1)
    (hnews : ∀ j u, news[j]? = some u → w.cell? ((⟨bx, 0, none⟩ : Addr).add j) = some u) (h1 : ∀ u ∈ news, u.oneCell' = true) :
    Calls Tryd.prog 49 #[v, .int .i64 n, .slice (some ⟨bx, 0, none⟩) 1 1] w (InsRS B v n (xs ++ news) w) := by
  obtain ⟨i1, hi, hz0, hz1, hz2⟩ := info_parts Tryd.infoStr
  have HO := Lib.hid hown
  rcases hown.2 with ⟨rfl, rfl⟩ | ⟨g, cap, cur, rfl, hbg, hg, hnc, hcm, hcs, htake⟩
  · clear hown
    go_enter Tryd.func49, Tryd.ntmps49
    go_wp2_with (at_builtin; go_loud (refine wpList_append_spotK (by rfl) (.tmp 23) (.tmp 24) 24 (by rfl) B 9 i1 _ 1 16 Tryd.underlying24 hi hz0 hz1 hz2 rfl (by decide) (.slice none 0 0) 0 xs (by rfl) HO.out ⟨bx, 0, none⟩ 1 1 news (by rfl) hl hnews h1 (by unfold maxLen; omega) (by omega) hB ?_); intro v2 w2 hown2 hgrow2 hspot2)
    go_ret
    exact ⟨v2, rfl, hown2, hgrow2, hspot2⟩
  · clear hown hg hcs htake
    have hcm2 : cap ≤ 9223372036854775807 := by unfold maxLen at hcm; exact hcm
    have hdim : (n : Int) ≤ (n : Int) := by omega
    by_cases hcn : cap = n
    · subst hcn
      go_enter Tryd.func49, Tryd.ntmps49
      go_wp2_with (at_builtin; go_loud (refine wpList_append_spotK (by rfl) (.tmp 23) (.tmp 24) 24 (by rfl) B 9 i1 _ 1 16 Tryd.underlying24 hi hz0 hz1 hz2 rfl (by decide) (.slice (some ⟨g, 0, none⟩) cap cap) cap xs (by rfl) HO.out ⟨bx, 0, none⟩ 1 1 news (by rfl) hl hnews h1 (by unfold maxLen; omega) (by omega) hB ?_); intro v2 w2 hown2 hgrow2 hspot2)
      go_ret
      exact ⟨v2, rfl, hown2, hgrow2, hspot2⟩
    · go_enter Tryd.func49, Tryd.ntmps49
      go_wp2_with (at_builtin; go_loud (refine wpList_append_spotK (by rfl) (.tmp 23) (.tmp 24) 24 (by rfl) B 9 i1 _ 1 16 Tryd.underlying24 hi hz0 hz1 hz2 rfl (by decide) (.slice (some ⟨g, 0, none⟩) n cap) n xs (by rfl) HO.out ⟨bx, 0, none⟩ 1 1 news (by rfl) hl hnews h1 (by unfold maxLen; omega) (by omega) hB ?_); intro v2 w2 hown2 hgrow2 hspot2)
      go_ret
      exact ⟨v2, rfl, hown2, hgrow2, hspot2⟩

set_option maxRecDepth 100000 in
set_option maxHeartbeats 4000000 in
theorem insGrowS (w : World) (B g n p : Nat) (cur : Array Value) (xs : List Value) (hg : w.heap[g]? = some (.cells cur 9 (0, 0))) (hxs : cur.toList = xs) (hxl : xs.length = n) (hp : p < n) (hn : n ≤ 1000000) (hB : B ≤ w.heap.size)
    (bx : Nat) (news : List Value) (hl : news.length = 1) (hnews : ∀ j u, news[j]? = some u → w.cell? ((⟨bx, 0, none⟩ : Addr).add j) = some u) (h1 : ∀ u ∈ news, u.oneCell' = true) (h1x : ∀ u ∈ xs, u.oneCell' = true) :
    Calls Tryd.prog 49 #[.slice (some ⟨g, 0, none⟩) n n, .int .i64 p, .slice (some ⟨bx, 0, none⟩) 1 1] w (InsRS B (.slice (some ⟨g, 0, none⟩) n n) n (xs.take (p) ++ (news ++ xs.drop (p))) w) := by
  obtain ⟨i1, hi, hz0, hz1, hz2⟩ := info_parts Tryd.infoStr
  have hgl : g < w.heap.size := (Array.getElem?_eq_some_iff.1 hg).1
  have hbl : bx < w.heap.size := by
    have := hnews 0 _ (List.getElem?_eq_getElem (by omega))
    rw [addr_add] at this; exact lt_of_cell this
  have hcell : ∀ j u, xs[j]? = some u → w.cell? ((⟨g, 0, none⟩ : Addr).add j) = some u := fun j u hj => World.news_of_block hg j u (by rw [hxs]; exact hj)
  obtain ⟨a, ha⟩ : ∃ a, a = xs.take (p) := ⟨_, rfl⟩
  obtain ⟨b, hb⟩ : ∃ b, b = xs.drop (p) := ⟨_, rfl⟩
  have hal : a.length = p := by rw [ha, List.length_take]; omega
  have hbl2 : b.length = (n - p) := by rw [hb, List.length_drop]; omega
  have hab : xs = a ++ b := by rw [ha, hb, List.take_append_drop]
  rw [← ha, ← hb]
  have hca : ∀ j u, a[j]? = some u → w.cell? ((⟨g, 0, none⟩ : Addr).add j) = some u := fun j u hj => hcell j u (by
    have : j < a.length := (List.getElem?_eq_some_iff.1 hj).1
    rw [hab, List.getElem?_append_left this]; exact hj)
  have hcb : ∀ j u, b[j]? = some u → w.cell? ((⟨g, p, none⟩ : Addr).add j) = some u := fun j u hj => by
    have h := hcell (p + j) u (by rw [hab, List.getElem?_append_right (by omega), hal, Nat.add_sub_cancel_left]; exact hj)
    rw [addr_add] at h ⊢
    rw [Nat.zero_add] at h; exact h
  have hold : (Builtin.firstCells i1.size p (.slice (some ⟨g, 0, none⟩) p n)).run Tryd.prog w.drew = .ok a.toArray w.drew := run_firstCells_some w.drew i1.size p ⟨g, 0, none⟩ p n a (by rw [hz1, Nat.mul_one]; exact hal) hca
  obtain ⟨G, hG⟩ : ∃ G, G = grownCap w (n + 1) n 9 := ⟨_, rfl⟩
  have hGn : n + 1 ≤ G := by rw [hG]; exact grownCap_ge w _ _ _
  have hGm : G ≤ maxLen := by rw [hG]; exact grownCap_le_maxLen w (n + 1) n _ (by unfold maxLen; omega)
  obtain ⟨ROW, hROW⟩ : ∃ ROW : Array Value, ROW = a.toArray ++ Builtin.zeroCells zS.cells (n + 1 - p) ++ Builtin.zeroCells zS.cells (G - (n + 1)) := ⟨_, rfl⟩
  have hrz : ∀ ty, (Builtin.append_ #[24, 3] ty #[.slice (some ⟨g, 0, none⟩) p n, .int .i64 ((n : Int) + 1 - (p : Int))]).run Tryd.prog w =
      .ok (.slice (some ⟨w.heap.size, 0, none⟩) (n + 1) G) (w.drew.alloc (.cells ROW 9)) := fun ty => by
    have h := Lib.run_append_grow_zeros w 24 3 ty 9 i1 zS .i64 .i64 Tryd.underlying24 Tryd.underlying3 hi hz0 (some ⟨g, 0, none⟩) p n a hold (n + 1 - p) (by omega) (by omega) (by omega) (by omega) (by rw [hz2]; omega) (by rw [hz2, show p + (n + 1 - p) = n + 1 by omega]; exact growslice_fits (by omega) (by omega))
    rw [show p + (n + 1 - p) = n + 1 by omega, ← hG, ← hROW] at h
    rw [show (n : Int) + 1 - (p : Int) = ((n + 1 - p : Nat) : Int) by omega]
    exact h
  obtain ⟨Z0, hZ0⟩ : ∃ Z0, Z0 = (Builtin.zeroCells zS.cells (n + 1 - p)).toList ++ (Builtin.zeroCells zS.cells (G - (n + 1))).toList := ⟨_, rfl⟩
  have hRL : ROW.toList = a ++ Z0 := by rw [hROW, hZ0]; simp
  have hZl : Z0.length = (G - p) := by
    rw [hZ0, List.length_append, Array.length_toList, Array.length_toList, size_zeroCells, size_zeroCells, zS_size]; omega
  have hRs : ROW.size = G := by rw [← Array.length_toList, hRL, List.length_append, hal, hZl]; omega
  obtain ⟨Z, hZ⟩ := growLS (a := a) (b := b) (news := news) (Z0 := Z0) (by omega) (by omega)
  obtain ⟨R2, hR2⟩ : ∃ R2 : Array Value, R2 = (putL ROW.toList (p) news).toArray := ⟨_, rfl⟩
  have hR2s : R2.size = G := by rw [hR2, List.size_toArray, putL]; simp; omega
  obtain ⟨R3, hR3⟩ : ∃ R3 : Array Value, R3 = (putL R2.toList ((p + 1)) b).toArray := ⟨_, rfl⟩
  have hR3s : R3.size = G := by rw [hR3, List.size_toArray, putL]; simp; omega
  have hlen : (a ++ (news ++ b)).length = (n + 1) * 1 := by rw [List.length_append, List.length_append, hal, hl, hbl2]; omega
  have hR3l : R3.toList = a ++ (news ++ (b ++ Z)) := by
    rw [hR3, hR2, hRL]
    show putL (putL (a ++ Z0) (p) news) ((p + 1)) b = _
    rw [← hZ, hal, show (p + 1) = p + 1 by omega]
  have hsz : (Tryd.prog.info? 9).map (·.size) = some 1 := by rw [hi]; simp [hz1]
  obtain ⟨W1, hW1⟩ : ∃ W1, W1 = w.drew.alloc (.cells ROW 9) := ⟨_, rfl⟩
  have hW1n : W1.heap[w.heap.size]? = some (.cells ROW 9 (0, 0)) := by rw [hW1]; exact heap_alloc_new w.drew _
  have hW1o : ∀ k, k < w.heap.size → W1.heap[k]? = w.heap[k]? := fun k hk => by rw [hW1]; exact heap_old w _ hk
  have hA : ∀ (W : World), (∀ k, W.heap[k]? = W1.heap[k]?) → ∀ ty dc, (Builtin.copy_ #[24, 24] ty #[.slice (some ⟨w.heap.size, p, none⟩) (n + 1 - p) dc, .slice (some ⟨bx, 0, none⟩) 1 1]).run Tryd.prog W = .ok (.int .i64 (1 : Nat)) (W.setRow w.heap.size R2) := fun W hW ty dc => by
    have h := run_copy_rowK (P := Tryd.prog) W 24 24 ty 9 w.heap.size (p) (n + 1 - p) dc ⟨bx, 0, none⟩ 1 1 1 1 ROW 9 news Tryd.underlying24 hsz (by rw [hW]; exact hW1n) (by show min _ _ = _; omega) hl
      (fun j u hj => (cell_same (by rw [hW, hW1o _ hbl]) j).trans (hnews j u hj)) (by rw [hRs]; omega) h1
    rw [hR2]; exact h
  have hBc : ∀ (W : World), (∀ k, W.heap[k]? = (W1.setRow w.heap.size R2).heap[k]?) → ∀ ty dc sc, (Builtin.copy_ #[24, 24] ty #[.slice (some ⟨w.heap.size, (p + 1), none⟩) (n - p) dc, .slice (some ⟨g, p, none⟩) (n - p) sc]).run Tryd.prog W = .ok (.int .i64 (n - p : Nat)) (W.setRow w.heap.size R3) := fun W hW ty dc sc => by
    have h := run_copy_rowK (P := Tryd.prog) W 24 24 ty 9 w.heap.size ((p + 1)) (n - p) dc ⟨g, p, none⟩ (n - p) sc (n - p) 1 R2 9 b Tryd.underlying24 hsz (by rw [hW]; exact setRow_heap _ _ _ _ _ _ hW1n) (by show min _ _ = _; omega) (by rw [Nat.mul_one]; exact hbl2)
      (fun j u hj => (cell_same (by rw [hW, setRow_other _ _ _ _ (by omega), hW1o _ hgl]) j).trans (hcb j u hj)) (by rw [hR2s]; omega) (fun u hu => h1x u (by rw [hab]; simp [hu]))
    rw [hR3]; exact h
  have hw1 : IntKind.i64.wrap ((n : Int) + 1) = (n : Int) + 1 := IntWalk.i64_in _ (by omega)
  have hw2 : IntKind.i64.wrap ((p : Int) + 1) = (p : Int) + 1 := IntWalk.i64_in _ (by omega)
  have hw3 : IntKind.i64.wrap ((n : Int) + 1 - (p : Int)) = (n : Int) + 1 - (p : Int) := IntWalk.i64_in _ (by omega)
  have hq1 : ¬ ((p : Int) = (n : Int)) := by omega
  have hq2 : ((p : Int) == (n : Int)) = false := by rw [beq_eq_false_iff_ne]; exact hq1
  have hq3 : (n : Int) < (n : Int) + 1 := by omega
  have hq4 : ¬ (n = p) := by omega
  have hq5 : ¬ (G = p) := by omega
  have hq6 : ¬ (G = p + 1) := by omega
  have hq7 : ((p : Int) + 1).toNat = p + 1 := by omega
  have hq8 : (0 : Int) ≤ (p : Int) + 1 := by omega
  have hq9 : p ≤ n := by omega
  have hG63 : G ≤ 9223372036854775807 := by unfold maxLen at hGm; exact hGm
  clear hcell hca hcb hold hxl hxs hG hROW hRL hZ hZ0 hZl hRs hR2s hnews h1 h1x hab ha hb
  have HF := Lib.hid (And.intro hR3l (And.intro hGm (And.intro hR3s hlen)))
  clear hR3l hR2 hR3 hR3s hlen
  go_enter Tryd.func49, Tryd.ntmps49
  go_wp2_with (first
    | (at_builtin; go_loud (refine Lib.wpList_append_run _ (by rfl) _ _ _ _ (by rfl) _ _ (by rfl) (by rfl) _ _ (hrz _) ?_))
    | (at_builtin; go_loud (refine wpList_copy_runI _ (by rfl) _ _ 24 24 (by rfl) _ _ (by rfl) (by rfl) (hA _ (fun _ => by rw [hW1]; rfl) _ _) ?_)))
  go_region_law (go_loud (refine step_copy_runI (by rfl) _ _ 24 24 (by rfl) (.slice (some ⟨w.heap.size, (p + 1), none⟩) (n - p) (G - (p + 1))) (.slice (some ⟨g, p, none⟩) (n - p) (n - p)) (by simp [Act.eval, Act.put]) (by simp [Act.eval, Act.put]) (hBc _ (fun _ => by rw [hW1]; rfl) 3 (G - (p + 1)) (n - p)) ?_))
  all_goals
    go_wp2
    go_ret
    obtain ⟨hR3l, hGm, hR3s, hlen⟩ := HF.out
    have hn1 : ((w.alloc (.cells ROW 9)).drew.setRow w.heap.size R2).heap[w.heap.size]? = some (.cells R2 9 (0, 0)) := setRow_heap _ _ ROW _ _ _ (heap_alloc_new w _)
    have hbw : Below w.heap.size w ((((w.alloc (.cells ROW 9)).drew.setRow w.heap.size R2).drew).setRow w.heap.size R3) := below_setRow (below_setRow ((Below.refl _ _).alloc (Nat.le_refl _) _).drew (Nat.le_refl _) _).drew (Nat.le_refl _) _
    exact ⟨_, rfl, ⟨hlen, .inr ⟨w.heap.size, G, R3, rfl, hB, setRow_heap _ _ R2 _ _ _ hn1, hGn, hGm, (by rw [Nat.mul_one]; exact hR3s), by
      rw [hR3l, show a ++ (news ++ (b ++ Z)) = (a ++ (news ++ b)) ++ Z by simp only [List.append_assoc], ← hlen, List.take_left]⟩⟩,
      ⟨hbw.os, hbw.tape, hbw.output, hbw.size, fun k hk _ => hbw.block k hk⟩, .inr ⟨w.heap.size, rfl, Nat.le_refl _⟩⟩

set_option maxRecDepth 100000 in
set_option maxHeartbeats 4000000 in
theorem insShiftS (w : World) (B g n p cap : Nat) (cur : Array Value) (xs : List Value) (hbg : B ≤ g) (hg : w.heap[g]? = some (.cells cur 9 (0, 0))) (hcs : cur.size = cap) (hxs : cur.toList.take n = xs) (hxl : xs.length = n) (hp : p < n) (hroom : n + 1 ≤ cap) (hcm : cap ≤ maxLen) (hn : n ≤ 1000000)
    (bx : Nat) (cb : Array Value) (news : List Value) (hbx : w.heap[bx]? = some (.cells cb 9 (0, 0))) (hne : bx ≠ g) (hnw : cb.toList = news) (hl : news.length = 1) (h1 : ∀ u ∈ news, u.oneCell' = true) (h1x : ∀ u ∈ xs, u.oneCell' = true) :
    Calls Tryd.prog 49 #[.slice (some ⟨g, 0, none⟩) n cap, .int .i64 p, .slice (some ⟨bx, 0, none⟩) 1 1] w (InsRS B (.slice (some ⟨g, 0, none⟩) n cap) n (xs.take (p) ++ (news ++ xs.drop (p))) w) := by
  obtain ⟨i1, hi, hz0, hz1, hz2⟩ := info_parts Tryd.infoStr
  have hcl : cur.toList.length = cap := by simpa using hcs
  have hnews : ∀ j u, news[j]? = some u → w.cell? ((⟨bx, 0, none⟩ : Addr).add j) = some u := fun j u hj => World.news_of_block hbx j u (by rw [hnw]; exact hj)
  have hcell : ∀ j u, xs[j]? = some u → w.cell? ((⟨g, 0, none⟩ : Addr).add j) = some u := fun j u hj => World.news_of_block hg j u (by
    have hjl : j < xs.length := (List.getElem?_eq_some_iff.1 hj).1
    rw [← hj, ← hxs, List.getElem?_take_of_lt (by omega)])
  obtain ⟨a, ha⟩ : ∃ a, a = xs.take (p) := ⟨_, rfl⟩
  obtain ⟨b, hb⟩ : ∃ b, b = xs.drop (p) := ⟨_, rfl⟩
  have hal : a.length = p := by rw [ha, List.length_take]; omega
  have hbl2 : b.length = (n - p) := by rw [hb, List.length_drop]; omega
  have hab : xs = a ++ b := by rw [ha, hb, List.take_append_drop]
  rw [← ha, ← hb]
  have hcb : ∀ j u, b[j]? = some u → w.cell? ((⟨g, p, none⟩ : Addr).add j) = some u := fun j u hj => by
    have h := hcell (p + j) u (by rw [hab, List.getElem?_append_right (by omega), hal, Nat.add_sub_cancel_left]; exact hj)
    rw [addr_add] at h ⊢
    rw [Nat.zero_add] at h; exact h
  have hsz : (Tryd.prog.info? 9).map (·.size) = some 1 := by rw [hi]; simp [hz1]
  have hso : ∀ w, (Go.sizeOf 9).run Tryd.prog w = .ok 1 w := fun w => by simp [sizeOf, typeInfo, hi, hz1]
  have hcbs : cb.size = 1 := by rw [← Array.length_toList, hnw, hl]
  have hsa : w.shape? bx = some (9, 1) := by simp [World.shape?, hbx, hcbs]
  have hsb : w.shape? g = some (9, cap) := by simp [World.shape?, hg, hcs]
  have hfa : ∀ j, w.frozen? ⟨bx, j, none⟩ = false := fun j => by simp [World.frozen?, hbx]
  have hov : ∀ lb cb, (callFunc 85 #[.slice (some ⟨bx, 0, none⟩) 1 1, .slice (some ⟨g, (p + 1), none⟩) lb cb]).run Tryd.prog w = .ok (.value (.bool false)) w := fun lb cb => by
    rw [run_callFunc_extern Tryd.func85 (by kernel_rfl) (by kernel_rfl) (by kernel_rfl) (e := Extern.SlicesOverlaps.overlaps #[24, 24] #[4]) (by kernel_rfl),
      Lib.run_overlaps_apart w 24 4 9 Tryd.underlying24 1 hso ⟨bx, 0, none⟩ ⟨g, (p + 1), none⟩ 1 1 lb cb hne _ _ _ _ hsa hsb (by omega) (hfa 0) (hfa 1)]
    rfl
  obtain ⟨Z, hZ⟩ := shiftLS (R := cur.toList) (a := a) (b := b) (news := news) (by rw [hal, hbl2, ← hab, ← hxs]; congr 1; omega) (by omega) (by omega)
  obtain ⟨R2, hR2⟩ : ∃ R2 : Array Value, R2 = (putL cur.toList ((p + 1)) b).toArray := ⟨_, rfl⟩
  have hR2s : R2.size = cap := by rw [hR2, List.size_toArray, putL]; simp; omega
  obtain ⟨R3, hR3⟩ : ∃ R3 : Array Value, R3 = (putL R2.toList (p) news).toArray := ⟨_, rfl⟩
  have hR3s : R3.size = cap := by rw [hR3, List.size_toArray, putL]; simp; omega
  have hlen : (a ++ (news ++ b)).length = (n + 1) * 1 := by rw [List.length_append, List.length_append, hal, hl, hbl2]; omega
  have hR3l : R3.toList = a ++ (news ++ (b ++ Z)) := by
    rw [hR3, hR2]
    show putL (putL cur.toList ((p + 1)) b) (p) news = _
    rw [← hZ, hal, show (p + 1) = p + 1 by omega]
  have hA : ∀ (W : World), (∀ k, W.heap[k]? = w.heap[k]?) → ∀ ty dc sc, (Builtin.copy_ #[24, 24] ty #[.slice (some ⟨g, (p + 1), none⟩) (n - p) dc, .slice (some ⟨g, p, none⟩) (n + 1 - p) sc]).run Tryd.prog W = .ok (.int .i64 (n - p : Nat)) (W.setRow g R2) := fun W hW ty dc sc => by
    have h := run_copy_rowK (P := Tryd.prog) W 24 24 ty 9 g ((p + 1)) (n - p) dc ⟨g, p, none⟩ (n + 1 - p) sc (n - p) 1 cur 9 b Tryd.underlying24 hsz (by rw [hW]; exact hg) (by show min _ _ = _; omega) (by rw [Nat.mul_one]; exact hbl2)
      (fun j u hj => (cell_same (by rw [hW]) j).trans (hcb j u hj)) (by rw [hcs]; omega) (fun u hu => h1x u (by rw [hab]; simp [hu]))
    rw [hR2]; exact h
  have hBc : ∀ (W : World), (∀ k, W.heap[k]? = (w.setRow g R2).heap[k]?) → ∀ ty dc, (Builtin.copy_ #[24, 24] ty #[.slice (some ⟨g, p, none⟩) (n + 1 - p) dc, .slice (some ⟨bx, 0, none⟩) 1 1]).run Tryd.prog W = .ok (.int .i64 (1 : Nat)) (W.setRow g R3) := fun W hW ty dc => by
    have h := run_copy_rowK (P := Tryd.prog) W 24 24 ty 9 g (p) (n + 1 - p) dc ⟨bx, 0, none⟩ 1 1 1 1 R2 9 news Tryd.underlying24 hsz (by rw [hW]; exact setRow_heap _ _ _ _ _ _ hg) (by show min _ _ = _; omega) hl
      (fun j u hj => (cell_same (by rw [hW, setRow_other _ _ _ _ hne]) j).trans (hnews j u hj)) (by rw [hR2s]; omega) h1
    rw [hR3]; exact h
  have hw1 : IntKind.i64.wrap ((n : Int) + 1) = (n : Int) + 1 := IntWalk.i64_in _ (by omega)
  have hw2 : IntKind.i64.wrap ((p : Int) + 1) = (p : Int) + 1 := IntWalk.i64_in _ (by omega)
  have hq1 : ¬ ((p : Int) = (n : Int)) := by omega
  have hq2 : ((p : Int) == (n : Int)) = false := by rw [beq_eq_false_iff_ne]; exact hq1
  have hq3 : ¬ ((cap : Int) < (n : Int) + 1) := by omega
  have hq4 : ¬ (cap = p) := by omega
  have hq5 : ¬ (cap = p + 1) := by omega
  have hq7 : ((p : Int) + 1).toNat = p + 1 := by omega
  have hq6 : ((n : Int) + 1).toNat = n + 1 := by omega
  have hq8 : (0 : Int) ≤ (p : Int) + 1 := by omega
  have hq10 : (0 : Int) ≤ (n : Int) + 1 := by omega
  have hq9 : p ≤ n := by omega
  have hq11 : (p : Int) ≤ (n : Int) + 1 := by omega
  have hc63 : cap ≤ 9223372036854775807 := by unfold maxLen at hcm; exact hcm
  have HF := Lib.hid (And.intro hR3l (And.intro hcm (And.intro hR3s (And.intro hlen (And.intro hg hbg)))))
  clear hR3l hR2 hR3 hR3s hlen hcell hcb hxl hxs hZ hR2s hnews h1 h1x hab ha hb hcs hcl hsa hsb hfa hbx hg hbg hcbs hnw
  go_enter Tryd.func49, Tryd.ntmps49
  go_wp2_with (simp only [hov])
  go_region_law (go_loud (refine step_copy_runI (by rfl) _ _ 24 24 (by rfl) (.slice (some ⟨g, (p + 1), none⟩) (n - p) (cap - (p + 1))) (.slice (some ⟨g, p, none⟩) (n + 1 - p) (cap - p)) (by simp [Act.eval, Act.put]) (by simp [Act.eval, Act.put]) (hA _ (fun _ => by rfl) 3 (cap - (p + 1)) (cap - p)) ?_))
  all_goals
    have hBd := hBc (w.drew.setRow g R2) (fun _ => rfl)
    go_wp2_with (at_builtin; go_loud (refine wpList_copy_runI _ (by rfl) _ _ 24 24 (by rfl) _ _ (by rfl) (by rfl) (hBd _ _) ?_))
    go_ret
    obtain ⟨hR3l, hcm, hR3s, hlen, hg, hbg⟩ := HF.out
    have hn1 : (w.drew.setRow g R2).heap[g]? = some (.cells R2 9 (0, 0)) := setRow_heap _ _ cur _ _ _ hg
    exact ⟨_, rfl, ⟨hlen, .inr ⟨g, cap, R3, rfl, hbg, setRow_heap _ _ R2 _ _ _ hn1, hroom, hcm, (by rw [Nat.mul_one]; exact hR3s), by
      rw [hR3l, show a ++ (news ++ (b ++ Z)) = (a ++ (news ++ b)) ++ Z by simp only [List.append_assoc], ← hlen, List.take_left]⟩⟩,
      ⟨rfl, rfl, rfl, by simp, fun k hk hkg => by
        have hkg2 : k ≠ g := fun e => hkg (by rw [e]; rfl)
        rw [setRow_other _ _ _ _ hkg2]
        first | rfl | (rw [show (w.drew.setRow g R2).heap[k]? = w.drew.heap[k]? from setRow_other _ _ _ _ hkg2]; rfl)⟩, .inl rfl⟩

end Go.Proofs.YtkifacpanipfhaaDoor
namespace Go.Proofs.YtkifacpanipfhaaDoor
open Go.RowKit

theorem searchK {w : World} {S : Nat → Prop} {l : List ByteArray} {a : Option Addr} {cap : Nat} (key : ByteArray) (hs : SortedK l) (hn : l.length ≤ 1000000) (hr : StrsIn w S (.slice a l.length cap) l) :
    Calls Tryd.prog 48 #[.slice a l.length cap, .string key] w fun e w' => e = .returned (.tuple #[.int .i64 (posK key l), .bool (hitK key l)]) ∧ ∃ q, w' = w.drewN q := by
  rcases Nat.eq_zero_or_pos l.length with h0 | h0
  · have hl : l = [] := List.eq_nil_of_length_eq_zero h0
    subst hl
    exact (Any2.slices_BinarySearch_string_empty Tryd.laysBS a cap key w).mono fun e w' ⟨h1, h2⟩ => ⟨h1, 0, h2⟩
  · obtain ⟨b, o, rfl, hc⟩ := hr.at h0
    have hp := pos_le key l
    have hSx : ∀ t, t < l.length → (if t < l.length then strAt l t else key) = strAt l t := fun t ht => if_pos ht
    have hb : Lib.bsGo (fun t => Op.bytesLess (if t < l.length then strAt l t else key).toList key.toList) l.length 0 l.length = posK key l := by
      refine Lib.bsGo_spec _ (posK key l) (fun t ht => ?_) (fun t ht => ?_) l.length 0 l.length (by omega) (Nat.zero_le _) hp
      · show Op.bytesLess (if t < l.length then strAt l t else key).toList key.toList = true
        rw [if_pos (by omega)]; exact pos_low key l t ht
      · show Op.bytesLess (if t < l.length then strAt l t else key).toList key.toList = false
        by_cases h : t < l.length
        · rw [if_pos h]; exact pos_high hs ht h
        · rw [if_neg h]; exact lsT_irr _
    have h := Any2.slices_BinarySearch_string Tryd.laysBS b o l.length cap (fun t => if t < l.length then strAt l t else key) key w (by omega) (fun j hj => by
      show _ = some (Value.string (if j < l.length then strAt l j else key))
      rw [if_pos hj]; exact hc j hj)
    rw [hb] at h
    have hd : decide (posK key l < l.length ∧ (if posK key l < l.length then strAt l (posK key l) else key) = key) = hitK key l := by
      cases hh : hitK key l
      · rw [decide_eq_false_iff_not]
        rintro ⟨h1, h2⟩
        rw [if_pos h1] at h2
        exact hit_ne hh h1 h2
      · have := hit_eq hh
        rw [decide_eq_true_eq, if_pos this.1]; exact this
    rw [hd] at h
    exact h

/-! ### Rows of kids, put together anew -/
theorem KidsRow.cut {w : World} {F : Nat → Value} : ∀ (p : Nat) (l : List Tr) (i : Nat) (ff : List Nat), KidsRow w F l i ff → p ≤ l.length → ∃ f1 f2, ff = f1 ++ f2 ∧ KidsRow w F (l.take p) i f1 ∧ KidsRow w F (l.drop p) (i + p) f2
  | 0, l, i, ff, h, _ => ⟨[], ff, rfl, by rw [List.take_zero]; simp only [KidsRow], by rw [List.drop_zero]; exact h⟩
  | p + 1, [], _, _, _, hp => by simp at hp
  | p + 1, t :: ts, i, ff, h, hp => by
    simp only [KidsRow] at h
    obtain ⟨vk, vs, g1, g2, rfl, hc, h1, h2⟩ := h
    obtain ⟨f1, f2, rfl, a1, a2⟩ := KidsRow.cut p ts (i + 1) g2 h2 (by simpa using hp)
    refine ⟨g1 ++ f1, f2, by rw [List.append_assoc], ?_, ?_⟩
    · rw [List.take_succ_cons]
      simp only [KidsRow]
      exact ⟨vk, vs, g1, f1, rfl, hc, h1, a1⟩
    · rw [List.drop_succ_cons, show i + (p + 1) = i + 1 + p by omega]; exact a2
theorem KidsRow.join {w : World} {F : Nat → Value} : ∀ (l m : List Tr) (i : Nat) (f1 f2 : List Nat), KidsRow w F l i f1 → KidsRow w F m (i + l.length) f2 → KidsRow w F (l ++ m) i (f1 ++ f2)
  | [], m, i, f1, f2, h, k => by
    simp only [KidsRow] at h; subst h; exact k
  | t :: ts, m, i, f1, f2, h, k => by
    simp only [KidsRow] at h
    obtain ⟨vk, vs, g1, g2, rfl, hc, h1, h2⟩ := h
    rw [List.cons_append]
    simp only [KidsRow]
    exact ⟨vk, vs, g1, g2 ++ f2, by rw [List.append_assoc], hc, h1, KidsRow.join ts m (i + 1) g2 f2 h2 (by rw [List.length_cons] at k; rw [show i + 1 + ts.length = i + (ts.length + 1) by omega]; exact k)⟩
theorem KidsRow.shift {w : World} {F F' : Nat → Value} : ∀ (l : List Tr) (i i' : Nat) (ff : List Nat), KidsRow w F l i ff → (∀ j, j < l.length * 6 → F' (i' * 6 + j) = F (i * 6 + j)) → KidsRow w F' l i' ff
  | [], _, _, ff, h, _ => by simp only [KidsRow] at h ⊢; exact h
  | t :: ts, i, i', ff, h, he => by
    simp only [KidsRow] at h ⊢
    rw [List.length_cons] at he
    obtain ⟨vk, vs, g1, g2, rfl, ⟨c0, c1, c2, c3, c4, c5⟩, h1, h2⟩ := h
    refine ⟨vk, vs, g1, g2, rfl, ⟨(he 0 (by omega)).trans c0, (he 1 (by omega)).trans c1, (he 2 (by omega)).trans c2, (he 3 (by omega)).trans c3, (he 4 (by omega)).trans c4, (he 5 (by omega)).trans c5⟩, h1, ?_⟩
    exact KidsRow.shift ts (i + 1) (i' + 1) g2 h2 fun j hj => by
      have := he (6 + j) (by omega)
      rw [show (i' + 1) * 6 + j = i' * 6 + (6 + j) by omega, show (i + 1) * 6 + j = i * 6 + (6 + j) by omega]; exact this
theorem kids_put {w : World} {F F' : Nat → Value} {l : List Tr} {ff fp : List Nat} {p q : Nat} {kid : Tr} {vk vs : Value} (h : KidsRow w F l 0 ff) (hnd : ff.Nodup) (hpq : p ≤ q) (hql : q ≤ l.length) (ht : TreeOwn w kid vk vs fp) (hfn : fp.Nodup) (hdis : ∀ b, b ∈ fp → b ∉ ff)
    (h0 : ∀ j, j < p * 6 → F' j = F j) (hc : F' (p * 6) = .int .i64 kid.kind ∧ F' (p * 6 + 1) = .bool kid.flag ∧ F' (p * 6 + 2) = .int .i64 kid.num ∧ F' (p * 6 + 3) = .string kid.text ∧ F' (p * 6 + 4) = vk ∧ F' (p * 6 + 5) = vs)
    (h2 : ∀ j, j < (l.length - q) * 6 → F' ((p + 1) * 6 + j) = F (q * 6 + j)) : ∃ f', KidsRow w F' (l.take p ++ kid :: l.drop q) 0 f' ∧ f'.Nodup ∧ ∀ b, b ∈ f' → b ∈ ff ∨ b ∈ fp := by
  obtain ⟨f1, f2, rfl, a1, a2⟩ := KidsRow.cut p l 0 ff h (by omega)
  obtain ⟨f3, f4, rfl, -, a4⟩ := KidsRow.cut (q - p) (l.drop p) (0 + p) f2 a2 (by simp; omega)
  rw [List.drop_drop, show p + (q - p) = q by omega, show 0 + p + (q - p) = q by omega] at a4
  have hl1 : (l.take p).length = p := by simp; omega
  rw [List.nodup_append] at hnd
  obtain ⟨n1, n2, n3⟩ := hnd
  rw [List.nodup_append] at n2
  obtain ⟨n4, n5, n6⟩ := n2
  refine ⟨f1 ++ (fp ++ f4), KidsRow.join _ _ 0 f1 _ (KidsRow.congr F F' _ 0 f1 a1 fun j hj => (h0 j (by rw [hl1] at hj; omega)).symm) ?_, ?_, fun b hb => ?_⟩
  · rw [hl1, Nat.zero_add]
    simp only [KidsRow]
    exact ⟨vk, vs, fp, f4, rfl, hc, ht, KidsRow.shift _ q (p + 1) f4 a4 fun j hj => h2 j (by simpa using hj)⟩
  · rw [List.nodup_append]
    refine ⟨n1, ?_, fun x hx y hy hxy => ?_⟩
    · rw [List.nodup_append]
      exact ⟨hfn, n5, fun x hx y hy hxy => hdis x hx (by rw [hxy]; simp [hy])⟩
    · rw [List.mem_append] at hy
      rcases hy with hy | hy
      · exact hdis y hy (by rw [← hxy]; simp [hx])
      · exact n3 x hx y (by simp [hy]) hxy
  · simp only [List.mem_append] at hb ⊢
    rcases hb with hb | hb | hb
    · exact .inl (.inl hb)
    · exact .inr hb
    · exact .inl (.inr (.inr hb))
theorem getD_left {xs ys : List Value} {j : Nat} (h : j < xs.length) : (xs ++ ys).getD j undef = xs.getD j undef := by
  simp only [List.getD_eq_getElem?_getD]; rw [List.getElem?_append_left h]
theorem getD_right {xs ys : List Value} {n j : Nat} (h : xs.length = n) : (xs ++ ys).getD (n + j) undef = ys.getD j undef := by
  simp only [List.getD_eq_getElem?_getD]; rw [List.getElem?_append_right (by omega), h, Nat.add_sub_cancel_left]
theorem getD_take {xs : List Value} {n j : Nat} (h : j < n) : (xs.take n).getD j undef = xs.getD j undef := by
  simp only [List.getD_eq_getElem?_getD]; rw [List.getElem?_take_of_lt h]
theorem getD_drop {xs : List Value} {n j : Nat} : (xs.drop n).getD j undef = xs.getD (n + j) undef := by
  simp only [List.getD_eq_getElem?_getD]; rw [List.getElem?_drop]
/-- The cells of a row with a kid put in. -/
theorem kids_ins {w : World} {xs : List Value} {l : List Tr} {ff fp : List Nat} {p : Nat} {kid : Tr} {vk vs : Value} (hxl : xs.length = l.length * 6) (h : KidsRow w (fun i => xs.getD i undef) l 0 ff) (hnd : ff.Nodup) (hp : p ≤ l.length) (ht : TreeOwn w kid vk vs fp) (hfn : fp.Nodup) (hdis : ∀ b, b ∈ fp → b ∉ ff) :
    ∃ f', KidsRow w (fun i => (xs.take (p * 6) ++ (six kid vk vs ++ xs.drop (p * 6))).getD i undef) (l.take p ++ kid :: l.drop p) 0 f' ∧ f'.Nodup ∧ ∀ b, b ∈ f' → b ∈ ff ∨ b ∈ fp := by
  have hal : (xs.take (p * 6)).length = p * 6 := by rw [List.length_take]; omega
  have hs : (six kid vk vs).length = 6 := rfl
  refine kids_put h hnd (Nat.le_refl _) hp ht hfn hdis (fun j hj => ?_) ⟨?_, ?_, ?_, ?_, ?_, ?_⟩ (fun j hj => ?_)
  · show (xs.take (p * 6) ++ _).getD j undef = _
    rw [getD_left (by omega), getD_take hj]
  · exact getD_right (j := 0) hal
  · exact getD_right (j := 1) hal
  · exact getD_right (j := 2) hal
  · exact getD_right (j := 3) hal
  · exact getD_right (j := 4) hal
  · exact getD_right (j := 5) hal
  · show (xs.take (p * 6) ++ _).getD ((p + 1) * 6 + j) undef = _
    rw [show (p + 1) * 6 + j = p * 6 + (6 + j) by omega, getD_right hal, getD_right hs, getD_drop]
/-- A row's cells are cells. -/
theorem kids_cells {w : World} {F : Nat → Value} : ∀ (l : List Tr) (i : Nat) (ff : List Nat), KidsRow w F l i ff → ∀ j, j < l.length * 6 → (F (i * 6 + j)).oneCell' = true
  | [], _, _, _, j, hj => by simp at hj
  | t :: ts, i, ff, h, j, hj => by
    simp only [KidsRow] at h
    rw [List.length_cons] at hj
    obtain ⟨vk, vs, g1, g2, rfl, ⟨c0, c1, c2, c3, c4, c5⟩, h1, h2⟩ := h
    obtain ⟨fk, fs, -, hso, hko⟩ := treeOwn_iff.1 h1
    obtain ⟨a5, n5, rfl⟩ := str_shape hso
    obtain ⟨a6, n6, rfl⟩ := kids_shape hko
    by_cases h6 : j < 6
    · rcases (show j = 0 ∨ j = 1 ∨ j = 2 ∨ j = 3 ∨ j = 4 ∨ j = 5 by omega) with rfl | rfl | rfl | rfl | rfl | rfl
      · rw [Nat.add_zero, c0]; rfl
      · rw [c1]; rfl
      · rw [c2]; rfl
      · rw [c3]; rfl
      · rw [c4]; rfl
      · rw [c5]; rfl
    · have := kids_cells ts (i + 1) g2 h2 (j - 6) (by omega)
      rw [show (i + 1) * 6 + (j - 6) = i * 6 + j by omega] at this; exact this
theorem kids_one {w : World} {xs : List Value} {l : List Tr} {ff : List Nat} (hxl : xs.length = l.length * 6) (h : KidsRow w (fun i => xs.getD i undef) l 0 ff) : ∀ u ∈ xs, u.oneCell' = true := by
  intro u hu
  obtain ⟨j, hj, rfl⟩ := List.getElem_of_mem hu
  have := kids_cells l 0 ff h j (by omega)
  simp only [Nat.zero_mul, Nat.zero_add, List.getD_eq_getElem?_getD, List.getElem?_eq_getElem hj] at this
  exact this

/-! ### The two inserts -/
theorem insT {w : World} {B : Nat} {v : Value} {n : Nat} {xs : List Value} (hown : w.ownsRow B 27 6 v n xs) (hB : B ≤ w.heap.size) (hn : n ≤ 1000000) {p : Nat} (hp : p ≤ n) (bx : Nat) (cb : Array Value) (news : List Value)
    (hbx : w.heap[bx]? = some (.cells cb 27 (0, 0))) (hne : v.ownBlock ≠ some bx) (hnw : cb.toList = news) (hl : news.length = 1 * 6) (h1 : ∀ u ∈ news, u.oneCell' = true) (h1x : ∀ u ∈ xs, u.oneCell' = true) :
    Calls Tryd.prog 50 #[v, .int .i64 p, .slice (some ⟨bx, 0, none⟩) 1 1] w (InsR B v n (xs.take (p * 6) ++ (news ++ xs.drop (p * 6))) w) := by
  have hnews : ∀ j u, news[j]? = some u → w.cell? ((⟨bx, 0, none⟩ : Addr).add j) = some u := fun j u hj => World.news_of_block hbx j u (by rw [hnw]; exact hj)
  have hxl : xs.length = n * 6 := hown.1
  rcases Nat.eq_or_lt_of_le hp with rfl | hlt
  · have h := insEnd w B v p xs hown hB hn bx news hl hnews h1
    rw [List.take_of_length_le (by omega), List.drop_of_length_le (by omega), List.append_nil]; exact h
  · rcases hown.2 with ⟨rfl, h0⟩ | ⟨g, cap, cur, rfl, hbg, hg, hnc, hcm, hcs, htake⟩
    · omega
    · have hgx : bx ≠ g := fun e => hne (by rw [e]; rfl)
      by_cases hc : cap = n
      · subst hc
        exact insGrow w B g cap p cur xs hg (by rw [← htake, ← hcs, ← Array.length_toList, List.take_length]) hxl hlt hn hB bx news hl hnews h1 h1x
      · exact insShift w B g n p cap cur xs hbg hg hcs htake hxl hlt (by omega) hcm hn bx cb news hbx hgx hnw hl h1 h1x
theorem insS {w : World} {B : Nat} {v : Value} {n : Nat} {xs : List Value} (hown : w.ownsRow B 9 1 v n xs) (hB : B ≤ w.heap.size) (hn : n ≤ 1000000) {p : Nat} (hp : p ≤ n) (bx : Nat) (cb : Array Value) (news : List Value)
    (hbx : w.heap[bx]? = some (.cells cb 9 (0, 0))) (hne : v.ownBlock ≠ some bx) (hnw : cb.toList = news) (hl : news.length = 1) (h1 : ∀ u ∈ news, u.oneCell' = true) (h1x : ∀ u ∈ xs, u.oneCell' = true) :
    Calls Tryd.prog 49 #[v, .int .i64 p, .slice (some ⟨bx, 0, none⟩) 1 1] w (InsRS B v n (xs.take p ++ (news ++ xs.drop p)) w) := by
  have hnews : ∀ j u, news[j]? = some u → w.cell? ((⟨bx, 0, none⟩ : Addr).add j) = some u := fun j u hj => World.news_of_block hbx j u (by rw [hnw]; exact hj)
  have hxl : xs.length = n := by have := hown.1; omega
  rcases Nat.eq_or_lt_of_le hp with rfl | hlt
  · have h := insEndS w B v p xs hown hB hn bx news hl hnews h1
    rw [List.take_of_length_le (by omega), List.drop_of_length_le (by omega), List.append_nil]; exact h
  · rcases hown.2 with ⟨rfl, h0⟩ | ⟨g, cap, cur, rfl, hbg, hg, hnc, hcm, hcs, htake⟩
    · omega
    · have hgx : bx ≠ g := fun e => hne (by rw [e]; rfl)
      rw [Nat.mul_one] at hcs htake
      by_cases hc : cap = n
      · subst hc
        exact insGrowS w B g cap p cur xs hg (by rw [← htake, ← hcs, ← Array.length_toList, List.take_length]) hxl hlt hn hB bx news hl hnews h1 h1x
      · exact insShiftS w B g n p cap cur xs hbg hg hcs htake hxl hlt (by omega) hcm hn bx cb news hbx hgx hnw hl h1 h1x

end Go.Proofs.YtkifacpanipfhaaDoor
namespace Go.Proofs.YtkifacpanipfhaaDoor
open Go.RowKit

def KidIns (B : Nat) (v : Value) (l : List Tr) (p : Nat) (kid : Tr) (ff fp : List Nat) (w : World) (e : Ending) (w' : World) : Prop :=
  ∃ v' f', e = .returned v' ∧ KidsGrow w' B 27 v' (l.take p ++ kid :: l.drop p) f' ∧ w.grownBy w' v.ownBlock ∧ SpotK v v' w ∧ ∀ b, b ∈ f' → b ∈ ff ∨ b ∈ fp
theorem insKid {w : World} {B : Nat} {v : Value} {l : List Tr} {ff fp : List Nat} (hk : KidsGrow w B 27 v l ff) (hB : B ≤ w.heap.size) (hn : l.length ≤ 1000000) {p : Nat} (hp : p ≤ l.length) {kid : Tr} {a5 a6 : Option Addr} {l5 l6 n5 n6 : Nat}
    (ht : TreeOwn w kid (.slice a5 l5 n5) (.slice a6 l6 n6) fp) (hfn : fp.Nodup) (hfp : ∀ b, b ∈ fp → B ≤ b ∧ v.ownBlock ≠ some b ∧ b ∉ ff) (bx : Nat)
    (hbx : w.heap[bx]? = some (.cells #[.int .i64 kid.kind, .bool kid.flag, .int .i64 kid.num, .string kid.text, .slice a5 l5 n5, .slice a6 l6 n6] 27 (0, 0))) (hne : v.ownBlock ≠ some bx) :
    Calls Tryd.prog 50 #[v, .int .i64 p, .slice (some ⟨bx, 0, none⟩) 1 1] w (KidIns B v l p kid ff fp w) := by
  have hls := hk.lt
  obtain ⟨xs, x1, x2, x3, x4⟩ := hk
  refine (insT x1 hB hn hp bx _ (six kid (.slice a5 l5 n5) (.slice a6 l6 n6)) hbx hne rfl rfl six_one (kids_one x1.1 x2)).mono fun e w' h => ?_
  obtain ⟨v', he, hown, hg, hs⟩ := h
  obtain ⟨f', k1, k2, k3⟩ := kids_ins (p := p) x1.1 x2 x3 hp ht hfn (fun b hb => (hfp b hb).2.2)
  have hlt : ∀ b, b ∈ f' → b < w.heap.size ∧ v.ownBlock ≠ some b ∧ B ≤ b := fun b hb => by
    rcases k3 b hb with h | h
    · exact ⟨(hls.2 b h).2, (x4 b h).2, (x4 b h).1⟩
    · exact ⟨ht.lt _ _ _ _ b h, (hfp b h).2.1, (hfp b h).1⟩
  refine ⟨v', f', he, ⟨_, ?_, KidsRow.same _ _ 0 f' k1 fun b hb _ => hg.block b (hlt b hb).1 fun e => (hlt b hb).2.1 e.symm, k2, fun b hb => ⟨(hlt b hb).2.2, fun e => ?_⟩⟩, hg, hs, k3⟩
  · have e : (l.take p ++ kid :: l.drop p).length = l.length + 1 := by simp; omega
    rw [e]; exact hown
  · rcases hs with hs | ⟨q, hs, hq⟩
    · rw [hs] at e; exact (hlt b hb).2.1 e
    · rw [hs] at e; cases e; have := (hlt _ hb).1; omega

/-- The local out, its two rows: made in and behind W3. -/
structure PI (W3 : World) (b8 : Nat) (w : World) (t0 : Tr) (K : List ByteArray) (T : List Tr) (vk vs : Value) (ff : List Nat) : Prop where
  out : Spill w b8 t0 vk vs
  keys : w.ownsRow W3.heap.size 9 1 vk K.length (K.map Value.string)
  kids : KidsGrow w W3.heap.size 27 vs T ff
  sep : ∀ b, vk.ownBlock = some b → vs.ownBlock ≠ some b ∧ b ∉ ff
  farK : vk.ownBlock ≠ some b8
  farS : vs.ownBlock ≠ some b8
  farF : b8 ∉ ff
  hi : W3.heap.size ≤ b8
  bel : Below W3.heap.size W3 w
theorem PI.start {W3 w4 : World} {t : Tr} {vk vs : Value} {ff : List Nat} (hk : w4.ownsRow W3.heap.size 9 1 vk t.keys.length (t.keys.map Value.string)) (hs : KidsGrow w4 W3.heap.size 27 vs t.kids ff)
    (hsep : ∀ b, vk.ownBlock = some b → vs.ownBlock ≠ some b ∧ b ∉ ff) (hb : Below W3.heap.size W3 w4) : PI W3 w4.heap.size (w4.alloc (.cells #[.int .i64 t.kind, .bool t.flag, .int .i64 t.num, .string t.text, vk, vs] 27)) t t.keys t.kids vk vs ff := by
  have hal := alloc_below w4 #[.int .i64 t.kind, .bool t.flag, .int .i64 t.num, .string t.text, vk, vs] 27
  have h1 := hk.lt
  have h2 := hs.lt
  exact ⟨Spill.new w4 t vk vs _, ownsRow_keep hk hal, hs.keep hal, hsep, fun e => by have := (h1 _ e).2; omega, fun e => by have := (h2.1 _ e).2; omega, fun e => by have := (h2.2 _ e).2; omega, hb.size, bnext hb hal⟩
theorem PI.keep {W3 w w' : World} {b8 : Nat} {t0 : Tr} {K : List ByteArray} {T : List Tr} {vk vs : Value} {ff : List Nat} (h : PI W3 b8 w t0 K T vk vs ff) (hb : Below w.heap.size w w') : PI W3 b8 w' t0 K T vk vs ff :=
  ⟨h.out.keep hb, ownsRow_keep h.keys hb, h.kids.keep hb, h.sep, h.farK, h.farS, h.farF, h.hi, bnext h.bel hb⟩
theorem PI.size {W3 w : World} {b8 : Nat} {t0 : Tr} {K : List ByteArray} {T : List Tr} {vk vs : Value} {ff : List Nat} (h : PI W3 b8 w t0 K T vk vs ff) : b8 < w.heap.size := h.out.lt
theorem PI.same {W3 w : World} {b8 : Nat} {t0 t1 : Tr} {K : List ByteArray} {T : List Tr} {vk vs : Value} {ff : List Nat} (h : PI W3 b8 w t0 K T vk vs ff) (e : t0.kind = t1.kind ∧ t0.flag = t1.flag ∧ t0.num = t1.num ∧ t0.text = t1.text) : PI W3 b8 w t1 K T vk vs ff := by
  refine ⟨?_, h.keys, h.kids, h.sep, h.farK, h.farS, h.farF, h.hi, h.bel⟩
  obtain ⟨ty, F, hr, h0, h1, h2, h3, h4, h5⟩ := h.out
  exact ⟨ty, F, hr, by rw [h0, e.1], by rw [h1, e.2.1], by rw [h2, e.2.2.1], by rw [h3, e.2.2.2], h4, h5⟩
theorem PI.addKey {W3 w w2 : World} {b8 : Nat} {t0 : Tr} {K K' : List ByteArray} {T : List Tr} {vk vk' vs : Value} {ff : List Nat} (h : PI W3 b8 w t0 K T vk vs ff)
    (ho : w2.ownsRow W3.heap.size 9 1 vk' K'.length (K'.map Value.string)) (hg : w.grownBy w2 vk.ownBlock) (hs : SpotK vk vk' w) : PI W3 b8 (w2.setCell ⟨b8, 4, none⟩ vk') t0 K' T vk' vs ff := by
  have hk := h.keys.lt
  have ht := h.kids.lt
  have hsz := h.size
  have hsame : ∀ b, b < w.heap.size → some b ≠ vk.ownBlock → w2.heap[b]? = w.heap[b]? := hg.block
  have hcell : ∀ b, b ≠ b8 → (w2.setCell ⟨b8, 4, none⟩ vk').heap[b]? = w2.heap[b]? := fun b hb => Below.heap_setCell _ _ _ _ hb
  have hvk : vk'.ownBlock ≠ some b8 := fun e => by
    rcases hs with hs | ⟨q, hs, hq⟩
    · rw [hs] at e; exact h.farK e
    · rw [hs] at e; cases e; omega
  refine ⟨(h.out.of_block (hsame _ hsz fun e => h.farK e.symm)).set4 _, row_same ho fun b hb _ => hcell b fun e => hvk (by rw [← e]; exact hb), h.kids.same fun b hb hl => ?_, fun b hb => ?_, hvk, h.farS, h.farF, h.hi, ?_⟩
  · have hb8 : b ≠ b8 := by
      rcases hb with hb | hb
      · exact fun e => h.farS (by rw [← e]; exact hb)
      · exact fun e => h.farF (by rw [← e]; exact hb)
    rw [hcell b hb8, hsame b hl fun e => ?_]
    rcases hb with hb | hb
    · exact (h.sep b e.symm).1 hb
    · exact (h.sep b e.symm).2 hb
  · rcases hs with hs | ⟨q, hs, hq⟩
    · rw [hs] at hb; exact h.sep b hb
    · rw [hs] at hb
      cases hb
      exact ⟨fun e => by have := (ht.1 _ e).2; omega, fun e => by have := (ht.2 _ e).2; omega⟩
  · exact (h.bel.grown hg (by have := h.hi; omega) (fun q hq => (hk q hq).1)).setCell (p := ⟨b8, 4, none⟩) h.hi _
theorem PI.addKid {W3 w w2 : World} {b8 : Nat} {t0 : Tr} {K : List ByteArray} {T T' : List Tr} {vk vs vs' : Value} {ff f' fp : List Nat} (h : PI W3 b8 w t0 K T vk vs ff)
    (hk2 : KidsGrow w2 W3.heap.size 27 vs' T' f') (hg : w.grownBy w2 vs.ownBlock) (hs : SpotK vs vs' w) (hf : ∀ b, b ∈ f' → b ∈ ff ∨ b ∈ fp) (hfp : ∀ b, b ∈ fp → b ≠ b8 ∧ vk.ownBlock ≠ some b) : PI W3 b8 (w2.setCell ⟨b8, 5, none⟩ vs') t0 K T' vk vs' f' := by
  have hk := h.keys.lt
  have hl := h.kids.lt
  have hsz := h.size
  have hsame : ∀ b, b < w.heap.size → some b ≠ vs.ownBlock → w2.heap[b]? = w.heap[b]? := hg.block
  have hcell : ∀ b, b ≠ b8 → (w2.setCell ⟨b8, 5, none⟩ vs').heap[b]? = w2.heap[b]? := fun b hb => Below.heap_setCell _ _ _ _ hb
  have hvs : vs'.ownBlock ≠ some b8 := fun e => by
    rcases hs with hs | ⟨q, hs, hq⟩
    · rw [hs] at e; exact h.farS e
    · rw [hs] at e; cases e; omega
  have hff : b8 ∉ f' := fun e => by
    rcases hf _ e with e | e
    · exact h.farF e
    · exact (hfp _ e).1 rfl
  refine ⟨(h.out.of_block (hsame _ hsz fun e => h.farS e.symm)).set5 _, row_same h.keys fun b hb hl' => ?_, hk2.same fun b hb _ => hcell b ?_, fun b hb => ⟨fun e => ?_, fun e => ?_⟩, h.farK, hvs, hff, h.hi, ?_⟩
  · rw [hcell b (fun e => h.farK (by rw [← e]; exact hb)), hsame b hl' fun e => (h.sep b hb).1 e.symm]
  · rcases hb with hb | hb
    · exact fun e => hvs (by rw [← e]; exact hb)
    · exact fun e => hff (by rw [← e]; exact hb)
  · rcases hs with hs | ⟨q, hs, hq⟩
    · rw [hs] at e; exact (h.sep b hb).1 e
    · rw [hs] at e; cases e; have := (hk _ hb).2; omega
  · rcases hf _ e with e | e
    · exact (h.sep b hb).2 e
    · exact (hfp _ e).2 hb
  · exact (h.bel.grown hg (by have := h.hi; omega) (fun q hq => (hl.1 q hq).1)).setCell (p := ⟨b8, 5, none⟩) h.hi _
theorem PI.tree {W3 w : World} {b8 : Nat} {t0 : Tr} {K : List ByteArray} {T : List Tr} {vk vs : Value} {ff : List Nat} (h : PI W3 b8 w t0 K T vk vs ff) : ∃ fp, TreeOwn w (.mk t0.kind t0.flag t0.num t0.text K T) vk vs fp ∧ fp.Nodup ∧ ∀ b, b ∈ fp → W3.heap.size ≤ b := by
  obtain ⟨fk, h1, h2, h3⟩ := strOwn2 h.keys
  obtain ⟨fs, g1, g2, g3⟩ := h.kids.own2
  refine ⟨fk ++ fs, treeOwn_iff.2 ⟨fk, fs, rfl, h1, g1⟩, ?_, fun b hb => ?_⟩
  · rw [List.nodup_append]
    refine ⟨h2, g2, fun x hx y hy hxy => ?_⟩
    subst hxy
    have hs := h.sep x (h3 x hx).2
    rcases (g3 x hy).2 with e | e
    · exact hs.1 e
    · exact hs.2 e
  · rw [List.mem_append] at hb
    rcases hb with hb | hb
    · exact (h3 b hb).1
    · exact (g3 b hb).1
def put6r (w : World) (g i : Nat) (v0 v1 v2 v3 v4 v5 : Value) : World :=
  ((((((w.setCell ⟨g, i, none⟩ v0).setCell ⟨g, i + 1, none⟩ v1).setCell ⟨g, i + 2, none⟩ v2).setCell ⟨g, i + 3, none⟩ v3).setCell ⟨g, i + 4, none⟩ v4).setCell ⟨g, i + 5, none⟩ v5)
def setL6 (xs : List Value) (i : Nat) (v0 v1 v2 v3 v4 v5 : Value) : List Value := ((((((xs.set i v0).set (i + 1) v1).set (i + 2) v2).set (i + 3) v3).set (i + 4) v4).set (i + 5) v5)
theorem setL6_other (xs : List Value) (i j : Nat) (v0 v1 v2 v3 v4 v5 : Value) (h : j < i ∨ i + 6 ≤ j) : (setL6 xs i v0 v1 v2 v3 v4 v5).getD j undef = xs.getD j undef := by
  simp only [setL6, List.getD_eq_getElem?_getD]
  rw [List.getElem?_set_ne (by omega), List.getElem?_set_ne (by omega), List.getElem?_set_ne (by omega), List.getElem?_set_ne (by omega), List.getElem?_set_ne (by omega), List.getElem?_set_ne (by omega)]
theorem setL6_at (xs : List Value) (i : Nat) (v0 v1 v2 v3 v4 v5 : Value) (h : i + 6 ≤ xs.length) : (setL6 xs i v0 v1 v2 v3 v4 v5).getD i undef = v0 ∧ (setL6 xs i v0 v1 v2 v3 v4 v5).getD (i + 1) undef = v1 ∧ (setL6 xs i v0 v1 v2 v3 v4 v5).getD (i + 2) undef = v2 ∧
    (setL6 xs i v0 v1 v2 v3 v4 v5).getD (i + 3) undef = v3 ∧ (setL6 xs i v0 v1 v2 v3 v4 v5).getD (i + 4) undef = v4 ∧ (setL6 xs i v0 v1 v2 v3 v4 v5).getD (i + 5) undef = v5 := by
  simp only [setL6, List.getD_eq_getElem?_getD]
  refine ⟨?_, ?_, ?_, ?_, ?_, ?_⟩
  · rw [List.getElem?_set_ne (by omega), List.getElem?_set_ne (by omega), List.getElem?_set_ne (by omega), List.getElem?_set_ne (by omega), List.getElem?_set_ne (by omega), List.getElem?_set_self (by first | omega | (simp; omega))]; rfl
  · rw [List.getElem?_set_ne (by omega), List.getElem?_set_ne (by omega), List.getElem?_set_ne (by omega), List.getElem?_set_ne (by omega), List.getElem?_set_self (by first | omega | (simp; omega))]; rfl
  · rw [List.getElem?_set_ne (by omega), List.getElem?_set_ne (by omega), List.getElem?_set_ne (by omega), List.getElem?_set_self (by first | omega | (simp; omega))]; rfl
  · rw [List.getElem?_set_ne (by omega), List.getElem?_set_ne (by omega), List.getElem?_set_self (by first | omega | (simp; omega))]; rfl
  · rw [List.getElem?_set_ne (by omega), List.getElem?_set_self (by first | omega | (simp; omega))]; rfl
  · rw [List.getElem?_set_self (by first | omega | (simp; omega))]; rfl
theorem stored6 {w : World} {B g n cap : Nat} {e : TypeId} {xs : List Value} (h : w.ownsRow B e 6 (.slice (some ⟨g, 0, none⟩) n cap) n xs) (i : Nat) (v0 v1 v2 v3 v4 v5 : Value) :
    (put6r w g i v0 v1 v2 v3 v4 v5).ownsRow B e 6 (.slice (some ⟨g, 0, none⟩) n cap) n (setL6 xs i v0 v1 v2 v3 v4 v5) :=
  ((((((h.stored i v0).1.stored (i + 1) v1).1.stored (i + 2) v2).1.stored (i + 3) v3).1.stored (i + 4) v4).1.stored (i + 5) v5).1
theorem put6r_other (w : World) (g i : Nat) (v0 v1 v2 v3 v4 v5 : Value) (k : Nat) (h : k ≠ g) : (put6r w g i v0 v1 v2 v3 v4 v5).heap[k]? = w.heap[k]? := by
  unfold put6r
  rw [Below.heap_setCell _ _ _ _ h, Below.heap_setCell _ _ _ _ h, Below.heap_setCell _ _ _ _ h, Below.heap_setCell _ _ _ _ h, Below.heap_setCell _ _ _ _ h, Below.heap_setCell _ _ _ _ h]
/-- The kid at place p is replaced. -/
theorem PI.setKid {W3 w : World} {b8 g cap p : Nat} {t0 kid : Tr} {K : List ByteArray} {T : List Tr} {vk : Value} {ff fp : List Nat} {a5 a6 : Option Addr} {l5 l6 n5 n6 : Nat} (h : PI W3 b8 w t0 K T vk (.slice (some ⟨g, 0, none⟩) T.length cap) ff) (hp : p < T.length)
    (ht : TreeOwn w kid (.slice a5 l5 n5) (.slice a6 l6 n6) fp) (hfn : fp.Nodup) (hfp : ∀ b, b ∈ fp → W3.heap.size ≤ b ∧ b ≠ g ∧ b ∉ ff ∧ b ≠ b8 ∧ vk.ownBlock ≠ some b) :
    ∃ f', PI W3 b8 (put6r w g (p * 6) (.int .i64 kid.kind) (.bool kid.flag) (.int .i64 kid.num) (.string kid.text) (.slice a5 l5 n5) (.slice a6 l6 n6)) t0 K (T.take p ++ kid :: T.drop (p + 1)) vk (.slice (some ⟨g, 0, none⟩) T.length cap) f' := by
  obtain ⟨xs, x1, x2, x3, x4⟩ := h.kids
  have hxl : xs.length = T.length * 6 := x1.1
  have hst := stored6 x1 (p * 6) (.int .i64 kid.kind) (.bool kid.flag) (.int .i64 kid.num) (.string kid.text) (.slice a5 l5 n5) (.slice a6 l6 n6)
  have hgb : W3.heap.size ≤ g := (x1.lt g rfl).1
  have hlen : (T.take p ++ kid :: T.drop (p + 1)).length = T.length := by simp; omega
  obtain ⟨f', k1, k2, k3⟩ := kids_put (F' := fun i => (setL6 xs (p * 6) (.int .i64 kid.kind) (.bool kid.flag) (.int .i64 kid.num) (.string kid.text) (.slice a5 l5 n5) (.slice a6 l6 n6)).getD i undef) x2 x3 (Nat.le_succ p) hp ht hfn (fun b hb => (hfp b hb).2.2.1)
    (fun j hj => setL6_other _ _ _ _ _ _ _ _ _ (.inl hj)) (setL6_at _ _ _ _ _ _ _ _ (by omega)) (fun j hj => setL6_other _ _ _ _ _ _ _ _ _ (.inr (by omega)))
  have hne : ∀ b, b ∈ f' → b ≠ g ∧ W3.heap.size ≤ b ∧ b ≠ b8 ∧ vk.ownBlock ≠ some b := fun b hb => by
    rcases k3 b hb with e | e
    · exact ⟨fun e2 => (x4 b e).2 (by rw [e2]; rfl), (x4 b e).1, fun e2 => h.farF (by rw [← e2]; exact e), fun e2 => (h.sep b e2).2 e⟩
    · exact ⟨(hfp b e).2.1, (hfp b e).1, (hfp b e).2.2.2.1, (hfp b e).2.2.2.2⟩
  have hg8 : b8 ≠ g := fun e => h.farS (by rw [e]; rfl)
  refine ⟨f', h.out.of_block (put6r_other _ _ _ _ _ _ _ _ _ _ hg8), row_same h.keys fun b hb _ => put6r_other _ _ _ _ _ _ _ _ _ _ fun e => (h.sep b hb).1 (by rw [e]; rfl), ⟨_, by rw [hlen]; exact hst, KidsRow.same _ _ 0 f' k1 fun b hb _ => put6r_other _ _ _ _ _ _ _ _ _ _ (hne b hb).1, k2, fun b hb => ⟨(hne b hb).2.1, fun e => (hne b hb).1 (by cases e; rfl)⟩⟩,
    fun b hb => ⟨(h.sep b hb).1, fun e => (hne b e).2.2.2 hb⟩, h.farK, h.farS, fun e => (hne b8 e).2.2.1 rfl, h.hi, ?_⟩
  unfold put6r
  exact (((((h.bel.setCell (p := ⟨g, p * 6, none⟩) hgb _).setCell (p := ⟨g, p * 6 + 1, none⟩) hgb _).setCell (p := ⟨g, p * 6 + 2, none⟩) hgb _).setCell (p := ⟨g, p * 6 + 3, none⟩) hgb _).setCell (p := ⟨g, p * 6 + 4, none⟩) hgb _).setCell (p := ⟨g, p * 6 + 5, none⟩) hgb _
/-- A right tree of kind 6 has nothing but keys and kids. -/
theorem map_plain {t : Tr} (h : headB t = true) (h6 : t.kind = 6) : t.flag = false ∧ t.num = 0 ∧ t.text = noS := by
  simp only [headB, Bool.and_eq_true, Bool.not_eq_true', Bool.and_eq_false_iff, beq_eq_false_iff_ne, bne_eq_false_iff_eq, Bool.not_eq_false'] at h
  obtain ⟨-, h1, h2, h3, -⟩ := h
  refine ⟨?_, ?_, ?_⟩
  · rcases h1 with h1 | h1
    · exact h1
    · omega
  · rcases h2 with h2 | h2
    · exact h2
    · omega
  · rcases h3 with h3 | h3
    · apply ByteArray.ext; apply Array.ext'
      rw [← ByteArray.toList_eq, List.isEmpty_iff.1 h3]; rfl
    · omega

end Go.Proofs.YtkifacpanipfhaaDoor
