/- l08Copy: the specification's copy of a tree. -/
import Derived.Test.YtkfkdljahgdfjaaCopy
import Derived.Deep.RegionHeld3
import Derived.Deep.AppendLies
import Derived.Deep.RegionLaw
namespace Go.Proofs.Ytkfkdljahgdfjaa
open Go.RowKit

/-- What stands in the copy's loop: k children are copied. -/
def LInv (w : World) (t : Tr) (vk vs wk : Value) (B : Nat) (fk : List Nat) (k : Nat) (ad : Option Addr) (cap : Nat) (wr : World) : Prop :=
  (∃ ff, KidsGrow wr B 30 (.slice ad k cap) (t.kids.take k) ff) ∧ Spill wr (w.heap.size + 1 + 1) t wk (.slice ad k cap) ∧ Spill wr w.heap.size t vk vs ∧
  wr.rowIs (w.heap.size + 1) 30 6 (lit6 (.int .i64 0) (.bool false) (.int .i64 0) (.string ⟨#[]⟩) (.slice none 0 0) (.slice none 0 0)) ∧ StrOwn wr wk t.keys fk ∧ Below w.heap.size w wr ∧ B ≤ wr.heap.size

theorem KidsGrow.above {w w' : World} {B : Nat} {e : TypeId} {v : Value} {l : List Tr} {ff : List Nat} (h : KidsGrow w B e v l ff) (hs : ∀ b, B ≤ b → b < w.heap.size → w'.heap[b]? = w.heap[b]?) : KidsGrow w' B e v l ff := by
  obtain ⟨xs, h1, h2, h3, h4⟩ := h
  refine ⟨xs, ⟨h1.1, ?_⟩, KidsRow.same _ _ 0 ff h2 fun b hb hl => hs b (h4 b hb).1 hl, h3, h4⟩
  rcases h1.2 with h | ⟨g, cap, cur, rfl, hbg, hg, rest⟩
  · exact .inl h
  · exact .inr ⟨g, cap, cur, rfl, hbg, by rw [hs g hbg (Array.getElem?_eq_some_iff.1 hg).1]; exact hg, rest⟩

theorem LInv.step {w wr w2 w3 : World} {t : Tr} {vk vs wk : Value} {B : Nat} {fk ff fp : List Nat} {k : Nat} {ad : Option Addr} {cap cap3 gg : Nat} {kk ks : Value} {xs : List Value}
    (HI : LInv w t vk vs wk B fk k ad cap wr) (hlt : k < t.kids.length) (hB0 : w.heap.size + 1 + 1 < B) (hfk : ∀ b, b ∈ fk → w.heap.size + 1 + 1 < b ∧ b < B) (hkp : Below wr.heap.size wr w2)
    (ho : w2.ownsRow B 30 6 (.slice ad k cap) k xs) (hr : KidsRow w2 (fun i => xs.getD i undef) (t.kids.take k) 0 ff) (hnd : ff.Nodup) (hff : ∀ b, b ∈ ff → B ≤ b ∧ (Value.slice ad k cap).ownBlock ≠ some b)
    (ht : TreeOwn w2 (kidAt t.kids k) kk ks fp) (hfn : fp.Nodup) (hfp : ∀ b, b ∈ fp → B ≤ b ∧ (Value.slice ad k cap).ownBlock ≠ some b ∧ b ∉ ff) (hlen : (t.kids.take k).length = k)
    (hown : w3.ownsRow B 30 6 (.slice (some ⟨gg, 0, none⟩) (k + 1) cap3) (k + 1) (xs ++ six (kidAt t.kids k) kk ks)) (hgrow : w2.grownBy w3 (Value.slice ad k cap).ownBlock)
    (hat : (Value.slice ad k cap).ownBlock = some gg ∨ gg = w2.heap.size) :
    LInv w t vk vs wk B fk (k + 1) (some ⟨gg, 0, none⟩) cap3 (w3.setCell ⟨w.heap.size + 1 + 1, 5, none⟩ (.slice (some ⟨gg, 0, none⟩) (k + 1) cap3)) := by
  obtain ⟨⟨_, _⟩, hO, hL, hR, hso, hbel, hB⟩ := HI
  have hrow : ∀ b, b < B → some b ≠ (Value.slice ad k cap).ownBlock := fun b hb e => by have := (ho.lt _ e.symm).1; omega
  have hsp : Spot (.slice ad k cap) (.slice (some ⟨gg, 0, none⟩) (k + 1) cap3) w2 := by
    rcases hat with h | h
    · exact .inl (by rw [h]; rfl)
    · exact .inr ⟨gg, rfl, by rw [h]; exact Nat.le_refl _⟩
  have hz2 := hkp.size
  have hz3 := hgrow.size
  have hO2 := hO.keep hkp
  have hL2 := hL.keep hkp
  have hR2 := rowIs_keep hR hkp
  have hs2 := hso.keep hkp
  refine ⟨⟨ff ++ fp, ?_⟩, ?_, ?_, ?_, ?_, ?_, ?_⟩
  · rw [kids_take_succ _ k hlt]
    refine KidsGrow.above (KidsGrow.step (by rw [hlen]; exact ho) hr hnd hff ht hfn hfp (by rw [hlen]; exact hown) hgrow hsp) fun b hb _ => Below.heap_setCell _ _ _ _ (show b ≠ w.heap.size + 1 + 1 by omega)
  · exact (hO2.of_block (hgrow.block _ hO2.lt (hrow _ (by omega)))).set5 _
  · exact (hL2.of_block (hgrow.block _ hL2.lt (hrow _ (by omega)))).other (show w.heap.size ≠ w.heap.size + 1 + 1 by omega) _
  · exact (hR2.of_block (hgrow.block _ hR2.lt (hrow _ (by omega)))).setOther (show w.heap.size + 1 ≠ w.heap.size + 1 + 1 by omega) _
  · refine (hs2.same fun b hb hl => ?_)
    have := hfk b hb
    rw [Below.heap_setCell _ _ _ _ (show b ≠ w.heap.size + 1 + 1 by omega), hgrow.block b hl (hrow b (by omega))]
  · have h1 := (bnext hbel hkp).grown hgrow (by have := hbel.size; omega) (fun q hq => by have := (ho.lt q hq).1; omega)
    exact h1.setCell (show w.heap.size ≤ w.heap.size + 1 + 1 by omega) _
  · simp [World.setCell]; omega

def LCopyT (N : Nat) : Prop := ∀ (t : Tr) (S : Nat → Prop) (vk vs : Value) (w : World), t.nodes ≤ N → t.wt ≤ 1048576 → TreeIn w S t vk vs →
    Calls Try.prog 48 #[.agg #[.int .i64 t.kind, .bool t.flag, .int .i64 t.num, .string t.text, vk, vs]] w fun e w' => TreeNew w.heap.size t e w' ∧ Below w.heap.size w w'

set_option maxRecDepth 100000 in
set_option maxHeartbeats 4000000 in
theorem lcopyT : ∀ N, LCopyT N
  | 0 => fun t S vk vs w h _ _ => by have := nodes_pos t; omega
  | N + 1 => fun t S vk vs w h hw ht => by
    have HIH := Lib.hid (lcopyT N)
    obtain ⟨i0, hi, hz0, hz1, hz2⟩ := info_parts Try.infoStr
    obtain ⟨i1, hi1, hy0, hy1, hy2⟩ := info_parts Try.infoTree
    have hne := nodes_eq t
    have HK := Lib.hid (show nodesL t.kids ≤ N by omega)
    have hwt := wt_eq t
    have hs1 : t.keys.length ≤ 1048576 := by have := strWt_eq t.keys; omega
    have hs2 : t.kids.length ≤ 1048576 := by omega
    have HW := Lib.hid (show t.kids.length + wtL t.kids ≤ 1048576 by omega)
    clear hne hwt
    obtain ⟨hk, hs⟩ := treeIn_iff.1 ht
    obtain ⟨a1, m1, rfl⟩ := hk.len
    obtain ⟨a2, m2, rfl⟩ := hs.len
    clear ht
    have hb4 : Below w.heap.size w ((((w.alloc (.cells #[.int .i64 t.kind, .bool t.flag, .int .i64 t.num, .string t.text, .slice a1 t.keys.length m1, .slice a2 t.kids.length m2] 30)).alloc (.cells #[.int .i64 0, .bool false, .int .i64 0, .string ⟨#[]⟩, .slice none 0 0, .slice none 0 0] 30)).alloc (.cells #[.int .i64 t.kind, .bool t.flag, .int .i64 t.num, .string t.text, .slice a1 t.keys.length m1, .slice a2 t.kids.length m2] 30)).alloc (.cells #[] 9)) := by repeat (first | exact Below.refl _ _ | (refine Below.alloc ?_ (by first | omega | (simp; done) | (simp; omega)) _) | (refine Below.setCell ?_ (by first | omega | (simp; done) | (simp; omega)) _) | (refine Below.drew ?_) | (refine below_drewN ?_ _))
    have hsrc := strs_src (hk.keep hb4)
    have hown0 : ((((w.alloc (.cells #[.int .i64 t.kind, .bool t.flag, .int .i64 t.num, .string t.text, .slice a1 t.keys.length m1, .slice a2 t.kids.length m2] 30)).alloc (.cells #[.int .i64 0, .bool false, .int .i64 0, .string ⟨#[]⟩, .slice none 0 0, .slice none 0 0] 30)).alloc (.cells #[.int .i64 t.kind, .bool t.flag, .int .i64 t.num, .string t.text, .slice a1 t.keys.length m1, .slice a2 t.kids.length m2] 30)).alloc (.cells #[] 9)).ownsRow (w.heap.size + 1 + 1 + 1) 9 1 (.slice (some ⟨w.heap.size + 1 + 1 + 1, 0, none⟩) 0 0) 0 [] := by
      have := World.ownsRow_made (base := w.heap.size + 1 + 1 + 1) (e := 9) (size := 1) (((w.alloc (.cells #[.int .i64 t.kind, .bool t.flag, .int .i64 t.num, .string t.text, .slice a1 t.keys.length m1, .slice a2 t.kids.length m2] 30)).alloc (.cells #[.int .i64 0, .bool false, .int .i64 0, .string ⟨#[]⟩, .slice none 0 0, .slice none 0 0] 30)).alloc (.cells #[.int .i64 t.kind, .bool t.flag, .int .i64 t.num, .string t.text, .slice a1 t.keys.length m1, .slice a2 t.kids.length m2] 30)) #[] 0 (by simp) (by unfold maxLen; omega) rfl
      simpa using this
    have rowL := (((World.rowIs_alloc w #[.int .i64 t.kind, .bool t.flag, .int .i64 t.num, .string t.text, .slice a1 t.keys.length m1, .slice a2 t.kids.length m2] 30 (lit6 (.int .i64 t.kind) (.bool t.flag) (.int .i64 t.num) (.string t.text) (.slice a1 t.keys.length m1) (.slice a2 t.kids.length m2)) (lit6_get _ _ _ _ _ _)).alloc (.cells #[.int .i64 0, .bool false, .int .i64 0, .string ⟨#[]⟩, .slice none 0 0, .slice none 0 0] 30)).alloc (.cells #[.int .i64 t.kind, .bool t.flag, .int .i64 t.num, .string t.text, .slice a1 t.keys.length m1, .slice a2 t.kids.length m2] 30)).alloc (.cells #[] 9)
    have rowR := ((World.rowIs_alloc (w.alloc (.cells #[.int .i64 t.kind, .bool t.flag, .int .i64 t.num, .string t.text, .slice a1 t.keys.length m1, .slice a2 t.kids.length m2] 30)) #[.int .i64 0, .bool false, .int .i64 0, .string ⟨#[]⟩, .slice none 0 0, .slice none 0 0] 30 (lit6 (.int .i64 0) (.bool false) (.int .i64 0) (.string ⟨#[]⟩) (.slice none 0 0) (.slice none 0 0)) (lit6_get _ _ _ _ _ _)).alloc (.cells #[.int .i64 t.kind, .bool t.flag, .int .i64 t.num, .string t.text, .slice a1 t.keys.length m1, .slice a2 t.kids.length m2] 30)).alloc (.cells #[] 9)
    have rowO := (World.rowIs_alloc ((w.alloc (.cells #[.int .i64 t.kind, .bool t.flag, .int .i64 t.num, .string t.text, .slice a1 t.keys.length m1, .slice a2 t.kids.length m2] 30)).alloc (.cells #[.int .i64 0, .bool false, .int .i64 0, .string ⟨#[]⟩, .slice none 0 0, .slice none 0 0] 30)) #[.int .i64 t.kind, .bool t.flag, .int .i64 t.num, .string t.text, .slice a1 t.keys.length m1, .slice a2 t.kids.length m2] 30 (lit6 (.int .i64 t.kind) (.bool t.flag) (.int .i64 t.num) (.string t.text) (.slice a1 t.keys.length m1) (.slice a2 t.kids.length m2)) (lit6_get _ _ _ _ _ _)).alloc (.cells #[] 9)
    simp only [World.size_alloc] at rowR rowO
    have HROW := Lib.hid (And.intro rowL (And.intro rowR rowO))
    clear rowL rowR rowO
    go_enter Try.func48, Try.ntmps48
    go_wp2_with (at_builtin; refine wpList_append_in rfl (.tmp 6) (.tmp 8) 22 rfl (w.heap.size + 1 + 1 + 1) 9 i0 (.string ⟨#[]⟩) 1 16 Try.underlying22 hi hz0 hz1 hz2 rfl (by decide) (.slice (some ⟨w.heap.size + 1 + 1 + 1, 0, none⟩) 0 0) 0 [] rfl hown0 a1 t.keys.length m1 (t.keys.map Value.string) rfl (by simp) hsrc (strs_one _) (by unfold maxLen; omega) (by omega) (by simp) ?_; intro v1 w1 hown1 hgrow1 _; simp only [Nat.zero_add, List.nil_append] at hown1; obtain ⟨fk, hso, hnd1, hge1⟩ := strOwn_of_row hown1; obtain ⟨c1, c2, rfl⟩ := str_shape hso; clear hown1; obtain ⟨rowL, rowR, rowO⟩ := HROW.out; have rowL1 := rowL.of_block (hgrow1.block _ rowL.lt (by simp only [Value.ownBlock, ne_eq, Option.some.injEq]; omega)); have rowR1 := rowR.of_block (hgrow1.block _ rowR.lt (by simp only [Value.ownBlock, ne_eq, Option.some.injEq]; omega)); have rowO1 := rowO.of_block (hgrow1.block _ rowO.lt (by simp only [Value.ownBlock, ne_eq, Option.some.injEq]; omega)); have l4 : w1.cell? ⟨w.heap.size + 1 + 1, 4, none⟩ = some (.slice a1 t.keys.length m1) := rowO1.cell (i := 4) (by simp); have l5 : w1.cell? ⟨w.heap.size + 1 + 1, 5, none⟩ = some (.slice a2 t.kids.length m2) := rowO1.cell (i := 5) (by simp); have lf4 := rowO1.frozen 4; have lf5 := rowO1.frozen 5; have HROW1 := Lib.hid (And.intro rowL1 (And.intro rowR1 rowO1)); have hzz1 := hgrow1.size; simp at hzz1; have hlt3 : w.heap.size + 1 + 1 < w1.heap.size := (by omega); clear rowL rowR rowO rowL1 rowR1 rowO1)
    clear l4 l5 lf4 lf5 hown0 hsrc
    obtain ⟨rowL1, rowR1, rowO1⟩ := HROW1.out
    have hbw1 : Below w.heap.size w w1 := hb4.grown hgrow1 (by simp; omega) (fun k hk => by simp [Value.ownBlock] at hk; omega)
    have hst : LInv w t (.slice a1 t.keys.length m1) (.slice a2 t.kids.length m2) (.slice c1 t.keys.length c2) w1.heap.size fk 0 (some ⟨w1.heap.size, 0, none⟩) 0 (((w1.setCell ⟨w.heap.size + 1 + 1, 4, none⟩ (.slice c1 t.keys.length c2)).setCell ⟨w.heap.size + 1 + 1, 5, none⟩ (.slice (some ⟨w1.heap.size, 0, none⟩) 0 0)).alloc (.cells #[] 30)) := by
      refine ⟨⟨[], [], ?_, by simp only [List.take_zero, KidsRow], List.nodup_nil, fun b hb => by simp at hb⟩, ⟨_, _, ((rowO1.set 4 _).set 5 _).alloc _, rfl, rfl, rfl, rfl, rfl, rfl⟩, ⟨_, _, ((rowL1.setOther (a := ⟨w.heap.size + 1 + 1, 4, none⟩) (by simp; omega) _).setOther (a := ⟨w.heap.size + 1 + 1, 5, none⟩) (by simp; omega) _).alloc _, rfl, rfl, rfl, rfl, rfl, rfl⟩,
        ((rowR1.setOther (a := ⟨w.heap.size + 1 + 1, 4, none⟩) (by simp) _).setOther (a := ⟨w.heap.size + 1 + 1, 5, none⟩) (by simp) _).alloc _, ?_, ?_, by simp⟩
      · have := World.ownsRow_made (base := w1.heap.size) (e := 30) (size := 6) ((w1.setCell ⟨w.heap.size + 1 + 1, 4, none⟩ (.slice c1 t.keys.length c2)).setCell ⟨w.heap.size + 1 + 1, 5, none⟩ (.slice (some ⟨w1.heap.size, 0, none⟩) 0 0)) #[] 0 (by simp) (by unfold maxLen; omega) rfl
        simpa using this
      · refine (hso.same fun b hb _ => ?_).keep (alloc_below _ _ _)
        have := hge1 b hb
        rw [Below.heap_setCell _ _ _ _ (show b ≠ w.heap.size + 1 + 1 by omega), Below.heap_setCell _ _ _ _ (show b ≠ w.heap.size + 1 + 1 by omega)]
      · have h1 := (hbw1.setCell (p := ⟨w.heap.size + 1 + 1, 4, none⟩) (show w.heap.size ≤ w.heap.size + 1 + 1 by omega) (.slice c1 t.keys.length c2)).setCell (p := ⟨w.heap.size + 1 + 1, 5, none⟩) (show w.heap.size ≤ w.heap.size + 1 + 1 by omega) (.slice (some ⟨w1.heap.size, 0, none⟩) 0 0)
        exact bnext h1 (alloc_below _ _ _)
    have HND := Lib.hid hnd1
    have HST := Lib.hid hst
    have HFK := Lib.hid (show ∀ b, b ∈ fk → w.heap.size + 1 + 1 < b ∧ b < w1.heap.size from fun b hb => ⟨by have := hge1 b hb; omega, hso.lt b hb⟩)
    clear hst rowL1 rowR1 rowO1 HROW1 HROW hgrow1 hbw1 hso hb4
    go_loopw [4] (fun s4 wr => ∃ (k : Nat) (ad : Option Addr) (cap : Nat), k ≤ t.kids.length ∧ s4 = .int .i64 k ∧ Hid (LInv w t (.slice a1 t.keys.length m1) (.slice a2 t.kids.length m2) (.slice c1 t.keys.length c2) w1.heap.size fk k ad cap wr)) (fun s4 _ => t.kids.length - (intOf s4).toNat)
    case atStart => exact ⟨0, some ⟨w1.heap.size, 0, none⟩, 0, by omega, rfl, HST.out⟩
    case round =>
      obtain ⟨k, ad, cap, hk, rfl, HI⟩ := hrel
      by_cases hlt : k < t.kids.length
      · obtain ⟨⟨ff, hg⟩, hO, hL, hR, hso, hbel, hB1⟩ := HI.out
        obtain ⟨b, o, vk, vs, rfl, ⟨c0, c1', c2', c3, c4, c5⟩, hin⟩ := (hs.keep hbel).at hlt
        obtain ⟨hk1, hs1'⟩ := treeIn_iff.1 hin
        obtain ⟨a3, n3, rfl⟩ := hk1.len
        obtain ⟨a4, n4, rfl⟩ := hs1'.len
        clear hk1 hs1' hs
        have hnk := nodes_kid t.kids k hlt
        have hwk := wt_kid t.kids k hlt
        have hz := hbel.size
        have hlb := lt_of_cell c0
        have q5 := hO.cells.2.2.2.2.2
        have p5 := hL.cells.2.2.2.2.2
        have HH := Lib.hid (And.intro hg (And.intro hO (And.intro hL (And.intro hR (And.intro hso hbel)))))
        clear hg hO hL hR hso hbel
        go_wp2_with fail
        go_region_law (first
          | (go_simp; go_at_call 48; refine (HIH.out (kidAt t.kids k) S _ _ _ (by have := HK.out; omega) (by have := HW.out; omega) (hin.keep (by repeat (first | exact Below.refl _ _ | (refine Below.alloc ?_ (by first | omega | (simp; done) | (simp; omega)) _) | (refine Below.setCell ?_ (by first | omega | (simp; done) | (simp; omega)) _) | (refine Below.drew ?_) | (refine below_drewN ?_ _))))).mono ?_
             rintro e w2 ⟨⟨k2, s2, fp, rfl, hto, hnd, hge⟩, hb2⟩
             obtain ⟨fk2, fs2, hfe, hso2, hko2⟩ := treeOwn_iff.1 hto
             obtain ⟨a5, n5, rfl⟩ := str_shape hso2
             obtain ⟨a6, n6, rfl⟩ := kids_shape hko2
             clear hfe hso2 hko2
             obtain ⟨hg, hO, hL, hR, hso, hbel⟩ := HH.out
             have hal := alloc_below w2 #[.int .i64 (kidAt t.kids k).kind, .bool (kidAt t.kids k).flag, .int .i64 (kidAt t.kids k).num, .string (kidAt t.kids k).text, .slice a5 (kidAt t.kids k).keys.length n5, .slice a6 (kidAt t.kids k).kids.length n6] 30
             have hbw2 : Below wr.heap.size wr w2 := bnext (by repeat (first | exact Below.refl _ _ | (refine Below.alloc ?_ (by first | omega | (simp; done) | (simp; omega)) _) | (refine Below.setCell ?_ (by first | omega | (simp; done) | (simp; omega)) _) | (refine Below.drew ?_) | (refine below_drewN ?_ _))) hb2
             have hg3 := hg.keep (bnext hbw2 hal)
             have hzw := hbw2.size
             obtain ⟨xs0, ho0, hr0, -, -⟩ := hg
             obtain ⟨xs, ho, hr, hndf, hff⟩ := hg3
             have hlen : (t.kids.take k).length = k := by simp; omega
             rw [hlen] at ho ho0
             have hto3 := hto.keep hal
             have hfp : ∀ b, b ∈ fp → w1.heap.size ≤ b ∧ (Value.slice ad k cap).ownBlock ≠ some b ∧ b ∉ ff := fun b hb' => by
               have h1 := hge b hb'
               simp at h1
               have h0 := hB1
               refine ⟨by omega, fun h => ?_, fun h => ?_⟩
               · have := (ho0.lt b h).2; omega
               · have := KidsRow.lt _ _ 0 ff hr0 b h; omega
             have HST3 := Lib.hid (And.intro hr (And.intro hndf (And.intro hff (And.intro hto3 (And.intro hnd (And.intro hfp hlen))))))
             have hO3 := hO.keep (bnext hbw2 hal)
             have HKP := Lib.hid (bnext hbw2 hal)
             have q5 : w2.cell? ⟨w.heap.size + 1 + 1, 5, none⟩ = some (.slice ad k cap) := (hO.keep hbw2).cells.2.2.2.2.2
             have hb3l := (hO.keep hbw2).lt
             have hbs : w1.heap.size ≤ (w2.alloc (.cells #[.int .i64 (kidAt t.kids k).kind, .bool (kidAt t.kids k).flag, .int .i64 (kidAt t.kids k).num, .string (kidAt t.kids k).text, .slice a5 (kidAt t.kids k).keys.length n5, .slice a6 (kidAt t.kids k).kids.length n6] 30)).heap.size := by have h0 := hB1; simp; omega
             clear hr0 ho0 hr hndf hff hto3 hnd hfp hge hto hlen hb2 hO hL hR hso hbel hal hbw2)
          | (refine step_append_lies _ (by rfl) (.tmp 21) (.tmp 28) 28 (by rfl) w1.heap.size 30 i1 _ 6 88 Try.underlying28 hi1 hy0 hy1 hy2 rfl (by decide) (.slice ad k cap) k xs (by rfl) ho ⟨w2.heap.size, 0, none⟩ 1 1 (six (kidAt t.kids k) (.slice a5 (kidAt t.kids k).keys.length n5) (.slice a6 (kidAt t.kids k).kids.length n6)) (by rfl) (by rfl) (six_src _ _ _ _ _) six_one (by decide) (by unfold maxLen; omega) (by omega) hbs _ rfl ?_
             intro gg cap3 w3 hown3 hgrow3 hat3 hlt3'
             have hbk := hgrow3.block _ hO3.lt (fun e => by have := (ho.lt _ e.symm).1; omega)
             have q5 := (hO3.of_block hbk).cells.2.2.2.2.2
             have qf5 := (hO3.of_block hbk).frozen 5))
        all_goals
          go_wp2
          go_roundw
          case rel =>
            obtain ⟨hr, hndf, hff, hto3, hnd, hfp, hlen⟩ := HST3.out
            exact ⟨k + 1, some ⟨gg, 0, none⟩, cap3, by omega, by go_num, LInv.step HI.out hlt (by omega) HFK.out HKP.out ho hr hndf hff hto3 hnd hfp hlen hown3 hgrow3 hat3⟩
          case measure => simp [intOf]; omega
      · obtain rfl : k = t.kids.length := by omega
        obtain ⟨⟨ff, hg⟩, hO, hL, hR, hso, hbel, hB1⟩ := HI.out
        have p5 := hL.cells.2.2.2.2.2
        obtain ⟨l0, l1, l2, l3, l4, l5⟩ := hO.cells
        have r0 : wr.cell? ⟨w.heap.size + 1, 0, none⟩ = some (.int .i64 0) := hR.cell (by omega)
        have r1 : wr.cell? ⟨w.heap.size + 1, 1, none⟩ = some (.bool false) := hR.cell (by omega)
        have r2 : wr.cell? ⟨w.heap.size + 1, 2, none⟩ = some (.int .i64 0) := hR.cell (by omega)
        have r3 : wr.cell? ⟨w.heap.size + 1, 3, none⟩ = some (.string ⟨#[]⟩) := hR.cell (by omega)
        have r4 : wr.cell? ⟨w.heap.size + 1, 4, none⟩ = some (.slice none 0 0) := hR.cell (by omega)
        have r5 : wr.cell? ⟨w.heap.size + 1, 5, none⟩ = some (.slice none 0 0) := hR.cell (by omega)
        have rf0 := hR.frozen 0
        have rf1 := hR.frozen 1
        have rf2 := hR.frozen 2
        have rf3 := hR.frozen 3
        have rf4 := hR.frozen 4
        have rf5 := hR.frozen 5
        have HE := Lib.hid (And.intro hg (And.intro hso (And.intro hbel hB1)))
        clear hg hO hL hR hso hbel hB1
        go_wp2
        refine bodyPost_ret (v := .agg #[.int .i64 t.kind, .bool t.flag, .int .i64 t.num, .string t.text, .slice c1 t.keys.length c2, .slice ad t.kids.length cap]) (by simp [results, Try.results48, go_sem, r0, r1, r2, r3, r4, r5]) rfl ?_
        obtain ⟨hg, hso, hbel, hB1⟩ := HE.out
        rw [List.take_length] at hg
        have hfin : ∀ (b : Nat), b ≠ w.heap.size + 1 → ∀ (v0 v1 v2 v3 v4 v5 : Value), ((((((wr.setCell ⟨w.heap.size + 1, 0, none⟩ v0).setCell ⟨w.heap.size + 1, 1, none⟩ v1).setCell ⟨w.heap.size + 1, 2, none⟩ v2).setCell ⟨w.heap.size + 1, 3, none⟩ v3).setCell ⟨w.heap.size + 1, 4, none⟩ v4).setCell ⟨w.heap.size + 1, 5, none⟩ v5).heap[b]? = wr.heap[b]? := fun b h1 v0 v1 v2 v3 v4 v5 => by
          rw [Below.heap_setCell _ _ _ _ h1, Below.heap_setCell _ _ _ _ h1, Below.heap_setCell _ _ _ _ h1, Below.heap_setCell _ _ _ _ h1, Below.heap_setCell _ _ _ _ h1, Below.heap_setCell _ _ _ _ h1]
        obtain ⟨fs, hko, hfn, hfb⟩ := hg.own
        have hB0 : w.heap.size + 1 + 1 < w1.heap.size := hlt3
        refine ⟨⟨_, _, fk ++ fs, rfl, treeOwn_iff.2 ⟨fk, fs, rfl, ?_, ?_⟩, ?_, ?_⟩, ?_⟩
        · exact hso.same fun b hb _ => hfin b (by have := (HFK.out b hb).1; omega) _ _ _ _ _ _
        · exact hko.same fun b hb _ => hfin b (by have := hfb b hb; omega) _ _ _ _ _ _
        · rw [List.nodup_append]
          exact ⟨HND.out, hfn, fun x hx y hy hxy => by have := (HFK.out x hx).2; have := hfb y hy; omega⟩
        · intro b hb
          rw [List.mem_append] at hb
          rcases hb with hb | hb
          · have := (HFK.out b hb).1; omega
          · have := hfb b hb; omega
        · exact (((((hbel.setCell (p := ⟨w.heap.size + 1, 0, none⟩) (show w.heap.size ≤ w.heap.size + 1 by omega) _).setCell (p := ⟨w.heap.size + 1, 1, none⟩) (show w.heap.size ≤ w.heap.size + 1 by omega) _).setCell (p := ⟨w.heap.size + 1, 2, none⟩) (show w.heap.size ≤ w.heap.size + 1 by omega) _).setCell (p := ⟨w.heap.size + 1, 3, none⟩) (show w.heap.size ≤ w.heap.size + 1 by omega) _).setCell (p := ⟨w.heap.size + 1, 4, none⟩) (show w.heap.size ≤ w.heap.size + 1 by omega) _).setCell (p := ⟨w.heap.size + 1, 5, none⟩) (show w.heap.size ≤ w.heap.size + 1 by omega) _

end Go.Proofs.Ytkfkdljahgdfjaa
