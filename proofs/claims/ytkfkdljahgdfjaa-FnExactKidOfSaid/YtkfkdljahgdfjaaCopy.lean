/- Copies of trees: slices.Clone at strings, copyTree, copyTrees, l08Copy. -/
import Derived.Test.YtkfkdljahgdfjaaGrow
import Derived.Test.YtkfkdljahgdfjaaTreeS
namespace Go.Proofs.Ytkfkdljahgdfjaa
open Go.RowKit

theorem run_append_zero {P : Program} (w : World) (base : Nat) (t ty e : TypeId) (i : TypeInfo) (size : Nat) (ht : P.underlying t = some (.slice e)) (hi : P.info? e = some i)
    (v : Value) (n : Nat) (xs : List Value) (hown : w.ownsRow base e size v n xs) (ad : Option Addr) (c : Nat) :
    (Builtin.append_ #[t, t] ty #[v, .slice ad 0 c]).run P w = .ok v w := by
  rcases hown.2 with ⟨rfl, rfl⟩ | ⟨g, cap, cur, rfl, _, _, hnc, _⟩ <;> cases ad
  · simp [Builtin.append_, run_underlying ht, sizeOf, typeInfo, hi, Builtin.lenOf, Builtin.firstCells]
  · simp [Builtin.append_, run_underlying ht, sizeOf, typeInfo, hi, Builtin.lenOf, Builtin.firstCells, loadCells, loadCellsFrom]
  · simp [Builtin.append_, run_underlying ht, sizeOf, typeInfo, hi, Builtin.lenOf, Builtin.firstCells, hnc, storeCells]
  · simp [Builtin.append_, run_underlying ht, sizeOf, typeInfo, hi, Builtin.lenOf, Builtin.firstCells, hnc, storeCells, loadCells, loadCellsFrom]

theorem grown_refl (w : World) (row : Option Nat) : w.grownBy w row := ⟨rfl, rfl, rfl, Nat.le_refl _, fun _ _ _ => rfl⟩

/-- Appending a slice that lies somewhere, of no element too. -/
theorem wpList_append_in {P : Program} {w : World} {ops : Array Oper} {rest : List Oper} {o : Oper} {a : Act} {Q : Exit → Act → World → Prop} (hgd : o.guard = none) (s x : Operand) (t : TypeId)
    (ho : o.op = .call { callee := .builtin .append, args := #[s, x], argTypes := #[t, t] })
    (base : Nat) (e : TypeId) (i : TypeInfo) (z : Value) (size bytes : Nat) (ht : P.underlying t = some (.slice e)) (hi : P.info? e = some i) (hz : i.zero = some z)
    (hsize : i.size = size) (hby : i.bytes = bytes) (hzs : z.cells.size = size) (hsz : 0 < size)
    (v : Value) (n : Nat) (xs : List Value) (hs : a.eval s = v) (hown : w.ownsRow base e size v n xs)
    (ad : Option Addr) (m c : Nat) (news : List Value) (hx : a.eval x = .slice ad m c) (hl : news.length = m * size)
    (hsrc : m = 0 ∨ ∃ b o, ad = some ⟨b, o, none⟩ ∧ ∀ j u, news[j]? = some u → w.cell? ⟨b, o + j, none⟩ = some u) (h1 : ∀ u ∈ news, u.oneCell' = true)
    (h63 : n + m ≤ maxLen) (hbytes : (n + m) * bytes ≤ 140737488355328) (hbase : base ≤ w.heap.size)
    (h : ∀ v' w', w'.ownsRow base e size v' (n + m) (xs ++ news) → w.grownBy w' v.ownBlock → Spot v v' w → wpList P ops Q rest (a.put o.dst v') w') : wpList P ops Q (o :: rest) a w := by
  rcases hsrc with rfl | ⟨b, o', rfl, hc⟩
  · refine wpList_plain hgd fun K hK => ?_
    have hn : news = [] := List.eq_nil_of_length_eq_zero (by simpa using hl)
    subst hn
    have hr := run_append_zero (P := P) w base t o.type e i size ht hi v n xs hown ad c
    unfold Oper.wp execOp
    simp only [ho, resolve, invoke, builtin, Sem.run_bind, Sem.run_pure, Result.andThen_ok, List.map_toArray, List.map_cons, List.map_nil, hs, hx, hr]
    exact hK _ _ (h v w (by simpa using hown) (grown_refl w _) (.inl rfl))
  · exact wpList_append_spot hgd s x t ho base e i z size bytes ht hi hz hsize hby hzs hsz v n xs hs hown _ m c news hx hl (fun j u hj => by rw [addr_add]; exact hc j u hj) h1 h63 hbytes hbase h

/-- A row of strings that a call owns. -/
theorem strOwn_of_row {w : World} {B e : Nat} {v : Value} {l : List ByteArray} (h : w.ownsRow B e 1 v l.length (l.map Value.string)) :
    ∃ fp, StrOwn w v l fp ∧ fp.Nodup ∧ ∀ b, b ∈ fp → B ≤ b := by
  rcases h.2 with ⟨rfl, hl⟩ | ⟨g, cap, cur, rfl, hbg, hg, hnc, hcm, hcs, htake⟩
  · have : l = [] := List.eq_nil_of_length_eq_zero hl
    subst this
    exact ⟨[], .inl ⟨rfl, rfl, none, 0, rfl⟩, List.nodup_nil, fun b hb => by simp at hb⟩
  · obtain ⟨F, hrow, hn, hm, hb, hF⟩ := rowIs_of_owns h
    refine ⟨[g], .inr ⟨g, cap, e, cap * 1, F, rfl, rfl, hrow, by omega, fun i hi => ?_⟩, by simp, fun b hb => by simp at hb; omega⟩
    have h2 := hF i (by omega)
    rw [List.getElem?_map, List.getElem?_eq_getElem hi] at h2
    simp only [Option.map_some, Option.some.injEq] at h2
    rw [← h2, strAt, List.getD_eq_getElem?_getD, List.getElem?_eq_getElem hi]; rfl

theorem strs_src {w : World} {S : Nat → Prop} {a : Option Addr} {l : List ByteArray} {cap : Nat} (h : StrsIn w S (.slice a l.length cap) l) :
    l.length = 0 ∨ ∃ b o, a = some ⟨b, o, none⟩ ∧ ∀ (j : Nat) (u : Value), (l.map Value.string)[j]? = some u → w.cell? ⟨b, o + j, none⟩ = some u := by
  obtain ⟨a', cap', e, h⟩ := h
  simp only [Value.slice.injEq] at e
  obtain ⟨rfl, _, _⟩ := e
  rcases h with h | ⟨b, o, rfl, _, hk⟩
  · left; rw [h]; rfl
  · refine .inr ⟨b, o, rfl, fun j u hj => ?_⟩
    rw [List.getElem?_map] at hj
    by_cases hl : j < l.length
    · rw [List.getElem?_eq_getElem hl] at hj
      simp only [Option.map_some, Option.some.injEq] at hj
      rw [hk j hl, ← hj, strAt, List.getD_eq_getElem?_getD, List.getElem?_eq_getElem hl]; rfl
    · rw [List.getElem?_eq_none (by omega)] at hj; simp at hj
theorem strs_one (l : List ByteArray) : ∀ u ∈ l.map Value.string, u.oneCell' = true := by
  intro u hu
  simp only [List.mem_map] at hu
  obtain ⟨s, -, rfl⟩ := hu; rfl

set_option maxHeartbeats 1000000 in
theorem slicesCloneS (l : List ByteArray) (S : Nat → Prop) (a : Option Addr) (cap : Nat) (w : World) (hn : l.length ≤ 1048576) (hc : StrsIn w S (.slice a l.length cap) l) :
    Calls Try.prog 52 #[.slice a l.length cap] w fun e w' => StrNew w.heap.size l e w' ∧ Below w.heap.size w w' := by
  obtain ⟨i0, hi, hz0, hz1, hz2⟩ := info_parts Try.infoStr
  have hq := fun (w : World) (a : Option Addr) (n c n' c' : Nat) => Lib.run_eql_slice_nil (P := Try.prog) w 22 9 a n c n' c' Try.underlying22
  cases a with
  | none =>
    have hl : l = [] := by
      obtain ⟨a', cap', e, h⟩ := hc
      simp only [Value.slice.injEq] at e
      obtain ⟨rfl, _, _⟩ := e
      rcases h with h | ⟨b, o, h, _⟩
      · exact h
      · simp at h
    subst hl
    go_enter Try.func52, Try.ntmps52
    go_wp2
    go_ret
    exact ⟨⟨_, [], rfl, .inl ⟨rfl, rfl, none, 0, rfl⟩, List.nodup_nil, fun b hb => by simp at hb⟩, Below.refl _ _⟩
  | some ad =>
    have hal : Below w.heap.size w (w.alloc (.cells #[] 9)) := alloc_below w #[] 9
    have hsrc := strs_src (hc.keep hal)
    have hown0 : (w.alloc (.cells #[] 9)).ownsRow w.heap.size 9 1 (.slice (some ⟨w.heap.size, 0, none⟩) 0 0) 0 [] := World.ownsRow_made w #[] 0 (Nat.le_refl _) (by unfold maxLen; omega) rfl
    go_enter Try.func52, Try.ntmps52
    go_wp2_with (at_builtin; go_loud (refine wpList_append_in rfl (.tmp 5) (.tmp 6) 22 rfl w.heap.size 9 i0 (.string ⟨#[]⟩) 1 16 Try.underlying22 hi hz0 hz1 hz2 rfl (by decide) (.slice (some ⟨w.heap.size, 0, none⟩) 0 0) 0 [] rfl hown0 (some ad) l.length cap (l.map Value.string) rfl (by simp) hsrc (strs_one l) (by unfold maxLen; omega) (by omega) (by simp) ?_; intro v' w1 hown1 hgrow1 _))
    simp only [Nat.zero_add, List.nil_append] at hown1
    go_ret
    obtain ⟨fp, h1, h2, h3⟩ := strOwn_of_row hown1
    exact ⟨⟨_, fp, rfl, h1, h2, h3⟩, hal.grown hgrow1 (by simp) (fun k hk => by simp [Value.ownBlock] at hk; omega)⟩

theorem six_src (w : World) (t : Tr) (vk vs : Value) (e : TypeId) : ∀ (j : Nat) (u : Value), (six t vk vs)[j]? = some u →
    (w.alloc (.cells #[.int .i64 t.kind, .bool t.flag, .int .i64 t.num, .string t.text, vk, vs] e)).cell? ((⟨w.heap.size, 0, none⟩ : Addr).add j) = some u := by
  intro j u hu
  obtain ⟨h0, h1, h2, h3, h4, h5⟩ := (Spill.new w t vk vs e).cells
  rw [addr_add, Nat.zero_add]
  simp only [six] at hu
  match j, hu with
  | 0, hu => rw [h0]; simpa using hu
  | 1, hu => rw [h1]; simpa using hu
  | 2, hu => rw [h2]; simpa using hu
  | 3, hu => rw [h3]; simpa using hu
  | 4, hu => rw [h4]; simpa using hu
  | 5, hu => rw [h5]; simpa using hu
  | j + 6, hu => simp at hu

def CopyT (N : Nat) : Prop := ∀ (t : Tr) (S : Nat → Prop) (vk vs : Value) (w : World), t.nodes ≤ N → t.wt ≤ 1048576 → TreeIn w S t vk vs →
    Calls Try.prog 51 #[.agg #[.int .i64 t.kind, .bool t.flag, .int .i64 t.num, .string t.text, vk, vs]] w fun e w' => TreeNew w.heap.size t e w' ∧ Below w.heap.size w w'

set_option maxHeartbeats 1000000 in
theorem copyTrees_of {N : Nat} (IH : CopyT N) (l : List Tr) (S : Nat → Prop) (a : Option Addr) (cap : Nat) (w : World) (hN : nodesL l ≤ N) (hw : l.length + wtL l ≤ 1048576) (hc : KidsIn w S (.slice a l.length cap) l) :
    Calls Try.prog 49 #[.slice a l.length cap] w fun e w' => KidsNew w.heap.size l e w' ∧ Below w.heap.size w w' := by
  have HIH := Lib.hid IH; clear IH
  obtain ⟨i0, hi, hz0, hz1, hz2⟩ := info_parts Try.infoTree
  go_enter Try.func49, Try.ntmps49
  go_wp2
  go_loopw [3, 8] (fun s3 s8 wr => ∃ (k : Nat) (v : Value), k ≤ l.length ∧ s8 = .int .i64 k ∧ v = s3 ∧ Hid (∃ ff, KidsGrow wr w.heap.size 30 v (l.take k) ff) ∧ Below w.heap.size w wr) (fun _ s8 _ => l.length - (intOf s8).toNat)
  case atStart => exact ⟨0, _, by omega, rfl, rfl, ⟨[], by rw [List.take_zero]; exact KidsGrow.nil _ _ _⟩, Below.refl _ _⟩
  case round =>
    obtain ⟨k, v, hk, rfl, rfl, HO, hb⟩ := hrel
    by_cases hlt : k < l.length
    · obtain ⟨b, o, vk, vs, rfl, ⟨c0, c1, c2, c3, c4, c5⟩, hin⟩ := (hc.keep hb).at hlt
      obtain ⟨hk1, hs1⟩ := treeIn_iff.1 hin
      obtain ⟨a1, n1, rfl⟩ := hk1.len
      obtain ⟨a2, n2, rfl⟩ := hs1.len
      clear hk1 hs1 hc
      have hnk := nodes_kid l k hlt
      have hwk := wt_kid l k hlt
      have hz := hb.size
      have hlb := lt_of_cell c0
      go_wp2_with fail
      refine (HIH.out (kidAt l k) S _ _ _ (by omega) (by omega) (hin.keep (by repeat (first | exact Below.refl _ _ | (refine Below.alloc ?_ (by first | omega | (simp; done) | (simp; omega)) _) | (refine Below.setCell ?_ (by first | omega | (simp; done) | (simp; omega)) _) | (refine Below.drew ?_) | (refine below_drewN ?_ _))))).mono ?_
      rintro e w2 ⟨⟨k2, s2, fp, rfl, hto, hnd, hge⟩, hb2⟩
      obtain ⟨fk, fs, hfe, hso, hko⟩ := treeOwn_iff.1 hto
      obtain ⟨a3, n3, rfl⟩ := str_shape hso
      obtain ⟨a4, n4, rfl⟩ := kids_shape hko
      clear hfe hso hko
      obtain ⟨ff, hg⟩ := HO.out
      have hbw2 : Below wr.heap.size wr w2 := bnext (by repeat (first | exact Below.refl _ _ | (refine Below.alloc ?_ (by first | omega | (simp; done) | (simp; omega)) _) | (refine Below.setCell ?_ (by first | omega | (simp; done) | (simp; omega)) _) | (refine Below.drew ?_) | (refine below_drewN ?_ _))) hb2
      have hal := alloc_below w2 #[.int .i64 (kidAt l k).kind, .bool (kidAt l k).flag, .int .i64 (kidAt l k).num, .string (kidAt l k).text, .slice a3 (kidAt l k).keys.length n3, .slice a4 (kidAt l k).kids.length n4] 30
      have hg3 := hg.keep (bnext hbw2 hal)
      have hzw := hbw2.size
      obtain ⟨xs0, ho0, hr0, -, -⟩ := hg
      obtain ⟨xs, ho, hr, hndf, hff⟩ := hg3
      have hto3 := hto.keep hal
      have hfp : ∀ b, b ∈ fp → w.heap.size ≤ b ∧ v.ownBlock ≠ some b ∧ b ∉ ff := fun b hb' => by
        have h1 := hge b hb'
        simp at h1
        refine ⟨by omega, fun h => ?_, fun h => ?_⟩
        · have := (ho0.lt b h).2; omega
        · have := KidsRow.lt _ _ 0 ff hr0 b h; omega
      have hlen : (l.take k).length = k := by simp; omega
      have HST := Lib.hid (And.intro hr (And.intro hndf (And.intro hff (And.intro hto3 (And.intro hnd hfp)))))
      have HLEN := Lib.hid hlen
      have hbw := bnext hb (bnext hbw2 hal)
      clear hr0 ho0 hr hndf hff hto3 hnd hfp hge hto hlen hb2 HO
      have hq1 : (l.take k).length + 1 ≤ 1048577 := by have := HLEN.out; omega
      have hbs := hbw.size
      go_wp2_with (at_builtin; go_loud (refine wpList_append_spot rfl (.tmp 12) (.tmp 15) 28 rfl w.heap.size 30 i0 _ 6 88 Try.underlying28 hi hz0 hz1 hz2 rfl (by decide) v (l.take k).length xs rfl ho ⟨w2.heap.size, 0, none⟩ 1 1 (six (kidAt l k) (.slice a3 (kidAt l k).keys.length n3) (.slice a4 (kidAt l k).kids.length n4)) rfl rfl (six_src _ _ _ _ _) six_one (by unfold maxLen; omega) (by omega) hbs ?_; intro v' w3 hown3 hgrow3 hspot3))
      go_roundw
      case rel =>
        obtain ⟨hr, hndf, hff, hto3, hnd, hfp⟩ := HST.out
        refine ⟨k + 1, v', by omega, by go_num, rfl, ⟨ff ++ fp, ?_⟩, ?_⟩
        · rw [kids_take_succ l k hlt]
          exact KidsGrow.step ho hr hndf hff hto3 hnd hfp hown3 hgrow3 hspot3
        · exact hbw.grown hgrow3 (by simp; omega) (fun k hk => (ho.lt k hk).1)
      case measure => simp [intOf]; omega
    · obtain rfl : k = l.length := by omega
      go_wp2
      go_ret
      obtain ⟨ff, hg⟩ := HO.out
      rw [List.take_length] at hg
      obtain ⟨fs, h1, h2, h3⟩ := hg.own
      exact ⟨⟨_, fs, rfl, h1, h2, h3⟩, hb⟩

set_option maxHeartbeats 4000000 in
theorem copyT : ∀ N, CopyT N
  | 0 => fun t S vk vs w h _ _ => by have := nodes_pos t; omega
  | N + 1 => fun t S vk vs w h hw ht => by
    have HIH := Lib.hid (copyT N)
    have hne := nodes_eq t
    have HK := Lib.hid (show nodesL t.kids ≤ N by omega)
    have hwt := wt_eq t
    have hs1 : t.keys.length ≤ 1048576 := by have := strWt_eq t.keys; omega
    have HW := Lib.hid (show t.kids.length + wtL t.kids ≤ 1048576 by omega)
    clear hne hwt
    obtain ⟨hk, hs⟩ := treeIn_iff.1 ht
    obtain ⟨a1, m1, rfl⟩ := hk.len
    obtain ⟨a2, m2, rfl⟩ := hs.len
    clear ht
    go_enter Try.func51, Try.ntmps51
    go_wp2_with fail
    refine (slicesCloneS t.keys S a1 m1 _ hs1 (hk.keep (by repeat (first | exact Below.refl _ _ | (refine Below.alloc ?_ (by first | omega | (simp; done) | (simp; omega)) _) | (refine Below.setCell ?_ (by first | omega | (simp; done) | (simp; omega)) _) | (refine Below.drew ?_) | (refine below_drewN ?_ _))))).mono ?_
    rintro e w1 ⟨⟨v1, fk, rfl, hso, hnd1, hge1⟩, hb1⟩
    obtain ⟨c1, c2, rfl⟩ := str_shape hso
    have rowL0 := (World.rowIs_alloc w #[.int .i64 t.kind, .bool t.flag, .int .i64 t.num, .string t.text, .slice a1 t.keys.length m1, .slice a2 t.kids.length m2] 30 (lit6 (.int .i64 t.kind) (.bool t.flag) (.int .i64 t.num) (.string t.text) (.slice a1 t.keys.length m1) (.slice a2 t.kids.length m2)) (lit6_get _ _ _ _ _ _)).alloc
      (.cells #[.int .i64 0, .bool false, .int .i64 0, .string ⟨#[]⟩, .slice none 0 0, .slice none 0 0] 30)
    have rowR0 := World.rowIs_alloc (w.alloc (.cells #[.int .i64 t.kind, .bool t.flag, .int .i64 t.num, .string t.text, .slice a1 t.keys.length m1, .slice a2 t.kids.length m2] 30))
      #[.int .i64 0, .bool false, .int .i64 0, .string ⟨#[]⟩, .slice none 0 0, .slice none 0 0] 30 (lit6 (.int .i64 0) (.bool false) (.int .i64 0) (.string ⟨#[]⟩) (.slice none 0 0) (.slice none 0 0)) (lit6_get _ _ _ _ _ _)
    have rowL1 := rowIs_keep rowL0 hb1
    have rowR1 := rowIs_keep rowR0 hb1
    simp only [World.size_alloc] at rowL1 rowR1
    have l4 := rowL1.cell (i := 4) (by simp)
    have l5 : w1.cell? ⟨w.heap.size, 5, none⟩ = some (.slice a2 t.kids.length m2) := rowL1.cell (i := 5) (by simp)
    have lf4 := rowL1.frozen 4
    have ROWS := Lib.hid (And.intro rowL1 rowR1)
    obtain ⟨hc1, hf1⟩ := bcell hb1
    clear rowL0 rowR0 rowL1 rowR1
    have hz1 := hb1.size
    simp at hz1
    have HSO := Lib.hid (And.intro hso (And.intro hnd1 hge1))
    clear hso hnd1 hge1
    have hbw1 : Below w.heap.size w w1 := bnext (by repeat (first | exact Below.refl _ _ | (refine Below.alloc ?_ (by first | omega | (simp; done) | (simp; omega)) _) | (refine Below.setCell ?_ (by first | omega | (simp; done) | (simp; omega)) _) | (refine Below.drew ?_) | (refine below_drewN ?_ _))) hb1
    have HB1 := Lib.hid hb1; clear hb1
    go_wp2_with fail
    clear hc1 hf1 l4 l5 lf4
    have hbw2 : Below w.heap.size w (w1.setCell ⟨w.heap.size, 4, none⟩ (.slice c1 t.keys.length c2)) := hbw1.setCell (by show _ ≤ w.heap.size; omega) _
    refine (copyTrees_of HIH.out t.kids S a2 m2 _ HK.out HW.out (hs.keep hbw2)).mono ?_
    rintro e w3 ⟨⟨v3, fs, rfl, hko, hnd3, hge3⟩, hb3⟩
    obtain ⟨c3, c4, rfl⟩ := kids_shape hko
    obtain ⟨rowL1, rowR1⟩ := ROWS.out
    have rowL3 := rowIs_keep (rowL1.set 4 (.slice c1 t.keys.length c2)) hb3
    have rowR3 := rowIs_keep (rowR1.setOther (a := ⟨w.heap.size, 4, none⟩) (by simp) (.slice c1 t.keys.length c2)) hb3
    clear rowL1 rowR1
    have l0 : w3.cell? ⟨w.heap.size, 0, none⟩ = some (.int .i64 t.kind) := rowL3.cell (by simp)
    have l1 : w3.cell? ⟨w.heap.size, 1, none⟩ = some (.bool t.flag) := rowL3.cell (by simp)
    have l2 : w3.cell? ⟨w.heap.size, 2, none⟩ = some (.int .i64 t.num) := rowL3.cell (by simp)
    have l3 : w3.cell? ⟨w.heap.size, 3, none⟩ = some (.string t.text) := rowL3.cell (by simp)
    have l4 : w3.cell? ⟨w.heap.size, 4, none⟩ = some (.slice c1 t.keys.length c2) := rowL3.cell (by simp)
    have l5 : w3.cell? ⟨w.heap.size, 5, none⟩ = some (.slice a2 t.kids.length m2) := rowL3.cell (by simp)
    have lf5 := rowL3.frozen 5
    have r0 : w3.cell? ⟨w.heap.size + 1, 0, none⟩ = some (.int .i64 0) := rowR3.cell (by simp)
    have r1 : w3.cell? ⟨w.heap.size + 1, 1, none⟩ = some (.bool false) := rowR3.cell (by simp)
    have r2 : w3.cell? ⟨w.heap.size + 1, 2, none⟩ = some (.int .i64 0) := rowR3.cell (by simp)
    have r3 : w3.cell? ⟨w.heap.size + 1, 3, none⟩ = some (.string ⟨#[]⟩) := rowR3.cell (by simp)
    have r4 : w3.cell? ⟨w.heap.size + 1, 4, none⟩ = some (.slice none 0 0) := rowR3.cell (by simp)
    have r5 : w3.cell? ⟨w.heap.size + 1, 5, none⟩ = some (.slice none 0 0) := rowR3.cell (by simp)
    have rf0 := rowR3.frozen 0
    have rf1 := rowR3.frozen 1
    have rf2 := rowR3.frozen 2
    have rf3 := rowR3.frozen 3
    have rf4 := rowR3.frozen 4
    have rf5 := rowR3.frozen 5
    clear rowL3 rowR3
    have hz3 := hb3.size
    simp at hz3
    have HKO := Lib.hid (And.intro hko (And.intro hnd3 hge3))
    clear hko hnd3 hge3
    have hbw3 : Below w.heap.size w w3 := bnext hbw2 hb3
    have HB3 := Lib.hid hb3; clear hb3
    go_wp2
    refine bodyPost_ret (v := .agg #[.int .i64 t.kind, .bool t.flag, .int .i64 t.num, .string t.text, .slice c1 t.keys.length c2, .slice c3 t.kids.length c4]) (by simp [results, Try.results51, go_sem, r0, r1, r2, r3, r4, r5]) rfl ?_
    obtain ⟨hso, hnd1, hge1⟩ := HSO.out
    obtain ⟨hko, hnd3, hge3⟩ := HKO.out
    have hs1' := hso.lt
    simp at hge1
    have hfin : ∀ (b : Nat), b ≠ w.heap.size + 1 → b ≠ w.heap.size → ∀ (v v0 v1 v2 v3 v4 v5 : Value), (((((((w3.setCell ⟨w.heap.size, 5, none⟩ v).setCell ⟨w.heap.size + 1, 0, none⟩ v0).setCell ⟨w.heap.size + 1, 1, none⟩ v1).setCell ⟨w.heap.size + 1, 2, none⟩ v2).setCell ⟨w.heap.size + 1, 3, none⟩ v3).setCell ⟨w.heap.size + 1, 4, none⟩ v4).setCell ⟨w.heap.size + 1, 5, none⟩ v5).heap[b]? = w3.heap[b]? := fun b h1 h2 v v0 v1 v2 v3 v4 v5 => by
      rw [Below.heap_setCell _ _ _ _ h1, Below.heap_setCell _ _ _ _ h1, Below.heap_setCell _ _ _ _ h1, Below.heap_setCell _ _ _ _ h1, Below.heap_setCell _ _ _ _ h1, Below.heap_setCell _ _ _ _ h1, Below.heap_setCell _ _ _ _ h2]
    have hso3 : StrOwn w3 (.slice c1 t.keys.length c2) t.keys fk := (hso.same (w' := w1.setCell ⟨w.heap.size, 4, none⟩ (.slice c1 t.keys.length c2)) fun b hb _ => Below.heap_setCell _ _ _ _ (by have := hge1 b hb; show b ≠ w.heap.size; omega)).keep HB3.out
    refine ⟨⟨_, _, fk ++ fs, rfl, treeOwn_iff.2 ⟨fk, fs, rfl, ?_, ?_⟩, ?_, ?_⟩, ?_⟩
    · exact hso3.same fun b hb _ => hfin b (by have := hge1 b hb; omega) (by have := hge1 b hb; omega) _ _ _ _ _ _ _
    · exact hko.same fun b hb _ => hfin b (by have := hge3 b hb; simp at this; omega) (by have := hge3 b hb; simp at this; omega) _ _ _ _ _ _ _
    · rw [List.nodup_append]
      refine ⟨hnd1, hnd3, fun x hx y hy hxy => ?_⟩
      have h1 := hs1' x hx
      have h2 := hge3 y hy
      simp at h2; omega
    · intro b hb
      rw [List.mem_append] at hb
      rcases hb with hb | hb
      · have := hge1 b hb; omega
      · have := hge3 b hb; simp at this; omega
    · exact ((((((hbw3.setCell (p := ⟨w.heap.size, 5, none⟩) (show w.heap.size ≤ w.heap.size by omega) _).setCell (p := ⟨w.heap.size + 1, 0, none⟩) (show w.heap.size ≤ w.heap.size + 1 by omega) _).setCell (p := ⟨w.heap.size + 1, 1, none⟩) (show w.heap.size ≤ w.heap.size + 1 by omega) _).setCell (p := ⟨w.heap.size + 1, 2, none⟩) (show w.heap.size ≤ w.heap.size + 1 by omega) _).setCell (p := ⟨w.heap.size + 1, 3, none⟩) (show w.heap.size ≤ w.heap.size + 1 by omega) _).setCell (p := ⟨w.heap.size + 1, 4, none⟩) (show w.heap.size ≤ w.heap.size + 1 by omega) _).setCell (p := ⟨w.heap.size + 1, 5, none⟩) (show w.heap.size ≤ w.heap.size + 1 by omega) _

end Go.Proofs.Ytkfkdljahgdfjaa
