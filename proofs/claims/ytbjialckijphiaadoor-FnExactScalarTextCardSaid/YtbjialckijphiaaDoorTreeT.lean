/- toStringS, toTreeS, toTree: fresh copies. -/
import Derived.Test.YtbjialckijphiaaDoorTreeO
import Derived.Test.YtbjialckijphiaaDoorTreeZ
namespace Go.Proofs.YtbjialckijphiaaDoor
open Go.RowKit

theorem Tryd.infoTree : (Tryd.prog.info? 30).map (fun i => (i.zero, i.size, i.bytes)) = some (some (.agg #[.int .i64 0, .bool false, .int .i64 0, .string ⟨#[]⟩, .slice none 0 0, .slice none 0 0]), 6, 88) := by kernel_rfl

def KidsNew (B : Nat) (l : List Tr) (e : Ending) (w' : World) : Prop := ∃ v fp, e = .returned v ∧ KidsOwn w' v l fp ∧ fp.Nodup ∧ ∀ b, b ∈ fp → B ≤ b

def TreeNew (B : Nat) (t : Tr) (e : Ending) (w' : World) : Prop :=
  ∃ vk vs fp, e = .returned (.agg #[.int .i64 t.kind, .bool t.flag, .int .i64 t.num, .string t.text, vk, vs]) ∧ TreeOwn w' t vk vs fp ∧ fp.Nodup ∧ ∀ b, b ∈ fp → B ≤ b

theorem kids_shape {w : World} {v : Value} {l : List Tr} {fp : List Nat} (h : KidsOwn w v l fp) : ∃ a c, v = .slice a l.length c := by
  rcases h with ⟨rfl, _, a, c, rfl⟩ | ⟨g, cap, e, N, F, ff, rfl, _⟩
  · exact ⟨a, c, rfl⟩
  · exact ⟨_, cap, rfl⟩

def lit6 (v0 v1 v2 v3 v4 v5 : Value) : Nat → Value | 0 => v0 | 1 => v1 | 2 => v2 | 3 => v3 | 4 => v4 | _ => v5

theorem lit6_get (v0 v1 v2 v3 v4 v5 : Value) : ∀ i, i < (#[v0, v1, v2, v3, v4, v5] : Array Value).size → (#[v0, v1, v2, v3, v4, v5] : Array Value)[i]? = some (lit6 v0 v1 v2 v3 v4 v5 i)
  | 0, _ | 1, _ | 2, _ | 3, _ | 4, _ | 5, _ => rfl
  | i + 6, h => by simp at h; omega

/-- toTree, for trees of at most N nodes. -/
def ToT (N : Nat) : Prop := ∀ (t : Tr) (S : Nat → Prop) (vk vs : Value) (w : World), t.nodes ≤ N → t.wt ≤ 1048576 → TreeIn w S t vk vs →
    Calls Tryd.prog 8 #[.agg #[.int .i64 t.kind, .bool t.flag, .int .i64 t.num, .string t.text, vk, vs]] w fun e w' => TreeNew w.heap.size t e w' ∧ Below w.heap.size w w'

theorem wt_kid (l : List Tr) (k : Nat) (h : k < l.length) : (kidAt l k).wt ≤ wtL l := le_sum Tr.wt wtL (fun _ _ => rfl) l k h

set_option maxHeartbeats 1000000 in
theorem toTreeS_of {N : Nat} (IH : ToT N) (l : List Tr) (S : Nat → Prop) (a : Option Addr) (cap : Nat) (w : World) (hN : nodesL l ≤ N) (hw : l.length + wtL l ≤ 1048576) (hc : KidsIn w S (.slice a l.length cap) l) :
    Calls Tryd.prog 21 #[.slice a l.length cap] w fun e w' => KidsNew w.heap.size l e w' ∧ Below w.heap.size w w' := by
  have HIH := Lib.hid IH; clear IH
  obtain ⟨i0, hi, hz0, hz1, hz2⟩ := info_parts Tryd.infoTree
  have hb2 : i0.bytes * l.length ≤ 281474976710656 := by rw [hz2]; omega
  have hb3 : l.length ≤ maxLen := by unfold maxLen; omega
  go_enter Tryd.func21, Tryd.ntmps21
  go_wp2_with (at_make; refine wpList_make_full _ rfl (.tmp 6) (.tmp 6) 28 rfl w.heap.size 30 i0 _ 6 Tryd.underlying28 hi hz0 hz1 .i64 .i64 _ _ l.length rfl rfl rfl rfl hb2 hb3 (Nat.le_refl _) ?_; intro w1 hown hgrow)
  obtain ⟨F0, hrow0, -, -, -, -⟩ := rowIs_of_owns hown
  have hbel1 : Below w.heap.size w w1 := (Below.refl _ _).grown hgrow (Nat.le_refl _) (fun k hk => by cases hk)
  obtain ⟨g, hg⟩ : ∃ g, g = w.heap.size := ⟨_, rfl⟩
  rw [← hg] at hrow0 ⊢
  have hgle : w.heap.size ≤ g := by omega
  have HG := Lib.hid hg; clear hg hown hgrow
  go_loopw [4] (fun i wr => ∃ k : Nat, k ≤ l.length ∧ i = .int .i64 k ∧ Below w.heap.size w wr ∧ ∃ F ff, wr.rowIs g 30 (l.length * 6) F ∧ KidsRow wr F (l.take k) 0 ff ∧ ff.Nodup ∧ ∀ b, b ∈ ff → g < b) (fun i _ => l.length - (intOf i).toNat)
  case atStart => exact ⟨0, by omega, rfl, hbel1, F0, [], hrow0, by simp only [List.take_zero, KidsRow], by simp, fun b hb => by simp at hb⟩
  case round =>
    obtain ⟨k, hk, rfl, hb, F, ff, hrow, hF⟩ := hrel
    have HF := Lib.hid hF; clear hF hrow0
    by_cases hlt : k < l.length
    · obtain ⟨b, o, vk', vs', rfl, ⟨c0, c1, c2, c3, c4, c5⟩, hin⟩ := (hc.keep hb).at hlt
      obtain ⟨hk', hs'⟩ := treeIn_iff.1 hin
      obtain ⟨b1, n1, rfl⟩ := hk'.len
      obtain ⟨b2, n2, rfl⟩ := hs'.len
      clear hk' hs' hc
      have hnk := nodes_kid l k hlt
      have hwk := wt_kid l k hlt
      have hlg := hrow.lt
      go_wp2_with fail
      refine (HIH.out (kidAt l k) S _ _ _ (by omega) (by omega) hin).mono ?_
      rintro e w2 ⟨⟨vk, vs, fp, rfl, hto, hnd, hge⟩, hb2⟩
      obtain ⟨fk, fs, ht3, ht4, ht5⟩ := treeOwn_iff.1 hto
      obtain ⟨e1, e2, rfl⟩ := str_shape ht4
      obtain ⟨e3, e4, rfl⟩ := kids_shape ht5
      have HTO := Lib.hid (And.intro hto (And.intro hnd hge))
      clear hto hnd hge ht3 ht4 ht5
      have hrow2 := rowIs_keep hrow hb2
      have d0 := hrow2.cell (i := k * 6) (by omega)
      have d1 := hrow2.cell (i := k * 6 + 1) (by omega)
      have d2 := hrow2.cell (i := k * 6 + 2) (by omega)
      have d3 := hrow2.cell (i := k * 6 + 3) (by omega)
      have d4 := hrow2.cell (i := k * 6 + 4) (by omega)
      have d5 := hrow2.cell (i := k * 6 + 5) (by omega)
      have f0 := hrow2.frozen (k * 6)
      have f1 := hrow2.frozen (k * 6 + 1)
      have f2 := hrow2.frozen (k * 6 + 2)
      have f3 := hrow2.frozen (k * 6 + 3)
      have f4 := hrow2.frozen (k * 6 + 4)
      have f5 := hrow2.frozen (k * 6 + 5)
      go_wp2
      go_roundw
      case rel =>
        obtain ⟨hto, hnd, hge⟩ := HTO.out
        obtain ⟨hkr, hff, hfg⟩ := HF.out
        have hsame : ∀ (b : Nat), b ≠ g → ∀ (v0 v1 v2 v3 v4 v5 : Value), ((((((w2.setCell ⟨g, k * 6, none⟩ v0).setCell ⟨g, k * 6 + 1, none⟩ v1).setCell ⟨g, k * 6 + 2, none⟩ v2).setCell ⟨g, k * 6 + 3, none⟩ v3).setCell ⟨g, k * 6 + 4, none⟩ v4).setCell ⟨g, k * 6 + 5, none⟩ v5).heap[b]? = w2.heap[b]? := fun b hbg v0 v1 v2 v3 v4 v5 => by
          rw [Below.heap_setCell _ _ _ _ hbg, Below.heap_setCell _ _ _ _ hbg, Below.heap_setCell _ _ _ _ hbg, Below.heap_setCell _ _ _ _ hbg, Below.heap_setCell _ _ _ _ hbg, Below.heap_setCell _ _ _ _ hbg]
        refine ⟨k + 1, by omega, by go_num, ?_, _, ff ++ fp, rowIs_set6 hrow2 (k * 6) _ _ _ _ _ _, ?_, ?_, ?_⟩
        · exact ((((((bnext hb hb2).setCell (by omega) _).setCell (by omega) _).setCell (by omega) _).setCell (by omega) _).setCell (by omega) _).setCell (by omega) _
        · rw [kids_take_succ l k hlt]
          have hlen : (l.take k).length = k := by simp; omega
          refine KidsRow.snoc _ _ (.slice e1 (kidAt l k).keys.length e2) (.slice e3 (kidAt l k).kids.length e4) fp _ 0 ff ?_ ?_ ?_
          · refine KidsRow.congr F _ _ 0 ff ?_ fun j hj => put6_old F (k * 6) _ _ _ _ _ _ j (by omega)
            refine KidsRow.same F _ 0 ff hkr fun b hb' hl' => ?_
            rw [hsame b (by have := hfg b hb'; omega)]
            exact hb2.block b hl'
          · rw [hlen, Nat.zero_add]; exact put6_new F (k * 6) _ _ _ _ _ _
          · exact TreeOwn.same _ _ _ _ hto fun b hb' hl' => hsame b (by have := hge b hb'; omega) _ _ _ _ _ _
        · rw [List.nodup_append]
          refine ⟨hff, hnd, fun x hx y hy hxy => ?_⟩
          have h1 := KidsRow.lt F _ 0 ff hkr x hx
          have h2 := hge y hy
          omega
        · intro b hb'
          rw [List.mem_append] at hb'
          rcases hb' with hb' | hb'
          · exact hfg b hb'
          · have := hge b hb'; omega
      case measure => simp [intOf]; omega
    · obtain rfl : k = l.length := by omega
      obtain ⟨hkr, hff, hfg⟩ := HF.out
      have HKR := Lib.hid hkr; have HFF := Lib.hid hff; have HFG := Lib.hid hfg
      clear hkr hff hfg
      go_wp2
      go_ret
      have hkr := HKR.out
      rw [List.take_length] at hkr
      refine ⟨⟨_, if l.length = 0 then [] else g :: ff, rfl, ?_, ?_, ?_⟩, hb⟩
      · by_cases h0 : l.length = 0
        · rw [if_pos h0]; exact .inl ⟨List.length_eq_zero_iff.1 h0, rfl, some ⟨g, 0, none⟩, l.length, by rw [h0]; rfl⟩
        · rw [if_neg h0]; exact .inr ⟨g, _, _, _, F, ff, rfl, rfl, hrow, Nat.le_refl _, hkr⟩
      · split
        · simp
        · rw [List.nodup_cons]; exact ⟨fun h => by have := HFG.out g h; omega, HFF.out⟩
      · intro b hb'
        split at hb'
        · simp at hb'
        · rw [List.mem_cons] at hb'
          rcases hb' with rfl | hb'
          · exact hgle
          · have := HFG.out b hb'; omega

set_option maxHeartbeats 4000000 in
theorem toT : ∀ N, ToT N
  | 0 => fun t S vk vs w h _ _ => by have := nodes_pos t; omega
  | N + 1 => fun t S vk vs w h hw ht => by
    have HIH := Lib.hid (toT N)
    have hne := nodes_eq t
    have HK := Lib.hid (show nodesL t.kids ≤ N by omega)
    have hwt := wt_eq t
    have hs1 : t.keys.length ≤ 1048576 := by have := strWt_eq t.keys; omega
    have HW := Lib.hid (show t.kids.length + wtL t.kids ≤ 1048576 by omega)
    clear hne hwt
    obtain ⟨hk, hs⟩ := treeIn_iff.1 ht
    obtain ⟨a1, m1, rfl⟩ := hk.len
    obtain ⟨a2, m2, rfl⟩ := hs.len
    clear ht
    go_enter Tryd.func8, Tryd.ntmps8
    go_wp2_with fail
    refine (toStringS_any t.keys S a1 m1 _ hs1 (hk.keep (by repeat (first | exact Below.refl _ _ | (refine Below.alloc ?_ (by first | omega | (simp; done) | (simp; omega)) _) | (refine Below.setCell ?_ (by first | omega | (simp; done) | (simp; omega)) _) | (refine Below.drew ?_) | (refine below_drewN ?_ _))))).mono ?_
    rintro e w1 ⟨⟨v1, fk, rfl, hso, hnd1, hge1⟩, hb1⟩
    obtain ⟨c1, c2, rfl⟩ := str_shape hso
    have rowL0 := World.rowIs_alloc ((w.alloc (.cells #[.int .i64 t.kind, .bool t.flag, .int .i64 t.num, .string t.text, .slice a1 t.keys.length m1, .slice a2 t.kids.length m2] 25)).alloc (.cells #[.int .i64 0, .bool false, .int .i64 0, .string ⟨#[]⟩, .slice none 0 0, .slice none 0 0] 30))
      #[.int .i64 t.kind, .bool t.flag, .int .i64 t.num, .string t.text, .slice none 0 0, .slice none 0 0] 30 (lit6 (.int .i64 t.kind) (.bool t.flag) (.int .i64 t.num) (.string t.text) (.slice none 0 0) (.slice none 0 0)) (lit6_get _ _ _ _ _ _)
    have rowR0 := (World.rowIs_alloc (w.alloc (.cells #[.int .i64 t.kind, .bool t.flag, .int .i64 t.num, .string t.text, .slice a1 t.keys.length m1, .slice a2 t.kids.length m2] 25))
      #[.int .i64 0, .bool false, .int .i64 0, .string ⟨#[]⟩, .slice none 0 0, .slice none 0 0] 30 (lit6 (.int .i64 0) (.bool false) (.int .i64 0) (.string ⟨#[]⟩) (.slice none 0 0) (.slice none 0 0)) (lit6_get _ _ _ _ _ _)).alloc
      (.cells #[.int .i64 t.kind, .bool t.flag, .int .i64 t.num, .string t.text, .slice none 0 0, .slice none 0 0] 30)
    have rowL1 := rowIs_keep rowL0 hb1
    have rowR1 := rowIs_keep rowR0 hb1
    simp only [World.size_alloc] at rowL1 rowR1
    have l4 := rowL1.cell (i := 4) (by simp)
    have lf4 := rowL1.frozen 4
    have ROWS := Lib.hid (And.intro rowL1 rowR1)
    obtain ⟨hc1, hf1⟩ := bcell hb1
    clear rowL0 rowR0 rowL1 rowR1
    have hz1 := hb1.size
    simp at hz1
    have HSO := Lib.hid (And.intro hso (And.intro hnd1 hge1))
    clear hso hnd1 hge1
    have hbw1 : Below w.heap.size w w1 := bnext (by repeat (first | exact Below.refl _ _ | (refine Below.alloc ?_ (by first | omega | (simp; done) | (simp; omega)) _) | (refine Below.setCell ?_ (by first | omega | (simp; done) | (simp; omega)) _) | (refine Below.drew ?_) | (refine below_drewN ?_ _))) hb1
    have HB1 := Lib.hid hb1; clear hb1
    go_wp2_with fail
    clear hc1 hf1 l4 lf4
    have hbw2 : Below w.heap.size w (w1.setCell ⟨w.heap.size + 1 + 1, 4, none⟩ (.slice c1 t.keys.length c2)) := hbw1.setCell (by show _ ≤ w.heap.size + 1 + 1; omega) _
    refine (toTreeS_of HIH.out t.kids S a2 m2 _ HK.out HW.out (hs.keep hbw2)).mono ?_
    rintro e w3 ⟨⟨v3, fs, rfl, hko, hnd3, hge3⟩, hb3⟩
    obtain ⟨c3, c4, rfl⟩ := kids_shape hko
    obtain ⟨rowL1, rowR1⟩ := ROWS.out
    have rowL3 := rowIs_keep (rowL1.set 4 (.slice c1 t.keys.length c2)) hb3
    have rowR3 := rowIs_keep (rowR1.setOther (a := ⟨w.heap.size + 1 + 1, 4, none⟩) (by simp) (.slice c1 t.keys.length c2)) hb3
    clear rowL1 rowR1
    have l0 : w3.cell? ⟨w.heap.size + 1 + 1, 0, none⟩ = some (.int .i64 t.kind) := rowL3.cell (by simp)
    have l1 : w3.cell? ⟨w.heap.size + 1 + 1, 1, none⟩ = some (.bool t.flag) := rowL3.cell (by simp)
    have l2 : w3.cell? ⟨w.heap.size + 1 + 1, 2, none⟩ = some (.int .i64 t.num) := rowL3.cell (by simp)
    have l3 : w3.cell? ⟨w.heap.size + 1 + 1, 3, none⟩ = some (.string t.text) := rowL3.cell (by simp)
    have l4 : w3.cell? ⟨w.heap.size + 1 + 1, 4, none⟩ = some (.slice c1 t.keys.length c2) := rowL3.cell (by simp)
    have l5 : w3.cell? ⟨w.heap.size + 1 + 1, 5, none⟩ = some (.slice none 0 0) := rowL3.cell (by simp)
    have lf5 := rowL3.frozen 5
    have r0 : w3.cell? ⟨w.heap.size + 1, 0, none⟩ = some (.int .i64 0) := rowR3.cell (by simp)
    have r1 : w3.cell? ⟨w.heap.size + 1, 1, none⟩ = some (.bool false) := rowR3.cell (by simp)
    have r2 : w3.cell? ⟨w.heap.size + 1, 2, none⟩ = some (.int .i64 0) := rowR3.cell (by simp)
    have r3 : w3.cell? ⟨w.heap.size + 1, 3, none⟩ = some (.string ⟨#[]⟩) := rowR3.cell (by simp)
    have r4 : w3.cell? ⟨w.heap.size + 1, 4, none⟩ = some (.slice none 0 0) := rowR3.cell (by simp)
    have r5 : w3.cell? ⟨w.heap.size + 1, 5, none⟩ = some (.slice none 0 0) := rowR3.cell (by simp)
    have rf0 := rowR3.frozen 0
    have rf1 := rowR3.frozen 1
    have rf2 := rowR3.frozen 2
    have rf3 := rowR3.frozen 3
    have rf4 := rowR3.frozen 4
    have rf5 := rowR3.frozen 5
    clear rowL3 rowR3
    have hz3 := hb3.size
    simp at hz3
    have HKO := Lib.hid (And.intro hko (And.intro hnd3 hge3))
    clear hko hnd3 hge3
    have hbw3 : Below w.heap.size w w3 := bnext hbw2 hb3
    have HB3 := Lib.hid hb3; clear hb3
    go_wp2
    refine bodyPost_ret (v := .agg #[.int .i64 t.kind, .bool t.flag, .int .i64 t.num, .string t.text, .slice c1 t.keys.length c2, .slice c3 t.kids.length c4]) (by simp [results, Tryd.results8, go_sem, r0, r1, r2, r3, r4, r5]) rfl ?_
    obtain ⟨hso, hnd1, hge1⟩ := HSO.out
    obtain ⟨hko, hnd3, hge3⟩ := HKO.out
    have hs1' := hso.lt
    simp at hge1
    have hfin : ∀ (b : Nat), b ≠ w.heap.size + 1 → b ≠ w.heap.size + 1 + 1 → ∀ (v v0 v1 v2 v3 v4 v5 : Value), (((((((w3.setCell ⟨w.heap.size + 1 + 1, 5, none⟩ v).setCell ⟨w.heap.size + 1, 0, none⟩ v0).setCell ⟨w.heap.size + 1, 1, none⟩ v1).setCell ⟨w.heap.size + 1, 2, none⟩ v2).setCell ⟨w.heap.size + 1, 3, none⟩ v3).setCell ⟨w.heap.size + 1, 4, none⟩ v4).setCell ⟨w.heap.size + 1, 5, none⟩ v5).heap[b]? = w3.heap[b]? := fun b h1 h2 v v0 v1 v2 v3 v4 v5 => by
      rw [Below.heap_setCell _ _ _ _ h1, Below.heap_setCell _ _ _ _ h1, Below.heap_setCell _ _ _ _ h1, Below.heap_setCell _ _ _ _ h1, Below.heap_setCell _ _ _ _ h1, Below.heap_setCell _ _ _ _ h1, Below.heap_setCell _ _ _ _ h2]
    have hso3 : StrOwn w3 (.slice c1 t.keys.length c2) t.keys fk := (hso.same (w' := w1.setCell ⟨w.heap.size + 1 + 1, 4, none⟩ (.slice c1 t.keys.length c2)) fun b hb _ => Below.heap_setCell _ _ _ _ (by have := hge1 b hb; show b ≠ w.heap.size + 1 + 1; omega)).keep HB3.out
    refine ⟨⟨_, _, fk ++ fs, rfl, treeOwn_iff.2 ⟨fk, fs, rfl, ?_, ?_⟩, ?_, ?_⟩, ?_⟩
    · exact hso3.same fun b hb _ => hfin b (by have := hge1 b hb; omega) (by have := hge1 b hb; omega) _ _ _ _ _ _ _
    · exact hko.same fun b hb _ => hfin b (by have := hge3 b hb; simp at this; omega) (by have := hge3 b hb; simp at this; omega) _ _ _ _ _ _ _
    · rw [List.nodup_append]
      refine ⟨hnd1, hnd3, fun x hx y hy hxy => ?_⟩
      have h1 := hs1' x hx
      have h2 := hge3 y hy
      simp at h2; omega
    · intro b hb
      rw [List.mem_append] at hb
      rcases hb with hb | hb
      · have := hge1 b hb; omega
      · have := hge3 b hb; simp at this; omega
    · exact ((((((hbw3.setCell (p := ⟨w.heap.size + 1 + 1, 5, none⟩) (show w.heap.size ≤ w.heap.size + 1 + 1 by omega) _).setCell (p := ⟨w.heap.size + 1, 0, none⟩) (show w.heap.size ≤ w.heap.size + 1 by omega) _).setCell (p := ⟨w.heap.size + 1, 1, none⟩) (show w.heap.size ≤ w.heap.size + 1 by omega) _).setCell (p := ⟨w.heap.size + 1, 2, none⟩) (show w.heap.size ≤ w.heap.size + 1 by omega) _).setCell (p := ⟨w.heap.size + 1, 3, none⟩) (show w.heap.size ≤ w.heap.size + 1 by omega) _).setCell (p := ⟨w.heap.size + 1, 4, none⟩) (show w.heap.size ≤ w.heap.size + 1 by omega) _).setCell (p := ⟨w.heap.size + 1, 5, none⟩) (show w.heap.size ≤ w.heap.size + 1 by omega) _

end Go.Proofs.YtbjialckijphiaaDoor
