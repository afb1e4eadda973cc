/- Drawn code points and texts: contracts of l07Rune, l07Text, l04Spoilt, l07Any and the draws over them. -/
import Derived.Test.YtoaakbaijklhhaaDoorDrawR
namespace Go.Proofs.YtoaakbaijklhhaaDoor
open Go.RowKit

theorem lit_ints (w : World) (l : List Int) (cs : Array Value) (hcs : cs = (l.map (Value.int .i64)).toArray) : SlAt (w.alloc (.cells cs 3)) (some ⟨w.heap.size, 0, none⟩) l.length 1 (fun i _ => .int .i64 (l.getD i 0)) := by
  subst hcs
  refine SlAt.of_row (World.rowIs_alloc w (l.map (Value.int .i64)).toArray 3 (fun j => .int .i64 (l.getD j 0)) (fun i hi => ?_)) (by simp) (fun i hi j hj => ?_)
  · simp at hi
    simp [List.getD_eq_getElem?_getD, hi]
  · have : i * 1 + j = i := by omega
    rw [this]
theorem lit_strs (w : World) (l : List ByteArray) (cs : Array Value) (hcs : cs = (l.map Value.string).toArray) : SlAt (w.alloc (.cells cs 9)) (some ⟨w.heap.size, 0, none⟩) l.length 1 (fun i _ => .string (l.getD i ⟨#[]⟩)) := by
  subst hcs
  refine SlAt.of_row (World.rowIs_alloc w (l.map Value.string).toArray 9 (fun j => .string (l.getD j ⟨#[]⟩)) (fun i hi => ?_)) (by simp) (fun i hi j hj => ?_)
  · simp at hi
    simp [List.getD_eq_getElem?_getD, hi]
  · have : i * 1 + j = i := by omega
    rw [this]
theorem Cur.alloc {w : World} {g : Nat} (h : Cur w g) (o : Obj) : Cur (w.alloc o) g := h.keep ((Below.refl _ _).alloc (Nat.le_refl _) _)
theorem Apart.alloc {L : List Nat} {a w : World} (h : Apart L a w) (o : Obj) : Apart L a (w.alloc o) := h.trans (Apart.of_below ((Below.refl _ _).alloc (Nat.le_refl _) _) _)

def IntP (g : Nat) (w : World) (e : Ending) (w' : World) : Prop := ∃ x : Int, e = .returned (.int .i64 x) ∧ Cur w' g ∧ Apart [g] w w'

def runeList : List Int := [0, 9, 10, 31, 32, 34, 92, 126, 127, 128, 2047, 2048, 55295, 55296, 57343, 57344, 65533, 65535, 65536, 1114111, 1114112, -1]
set_option maxRecDepth 100000 in
theorem l07Rune_any (g : Nat) (w : World) (hC : Cur w g) : Calls Tryd.prog 62 #[.pointer (some ⟨g, 0, none⟩)] w (IntP g w) := by
  go_enter Tryd.func62, Tryd.ntmps62
  go_wp2_with fail
  refine (l01Below_any g 5 _ (by omega) (by omega) hC).mono ?_
  rintro e w1 ⟨x, hx0, hx1, rfl, hc1, ha1⟩
  have HX := Lib.hid (And.intro hc1 ha1); clear hc1 ha1
  have hgl := HX.out.1.lt
  by_cases h0 : x = 0
  · subst h0
    go_wp2_with fail
    refine (l01PickInt_any g _ 22 22 (fun i => runeList.getD i 0) _ (fun _ => True) (by omega) (by omega) (HX.out.1.alloc _) (lit_ints w1 runeList _ rfl) (fun b o h => by cases h; omega) (fun _ _ => trivial)).mono ?_
    rintro e w2 ⟨y, -, rfl, hc2, ha2⟩
    go_wp2
    go_ret
    exact ⟨y, rfl, hc2, (HX.out.2.alloc _).trans ha2⟩
  by_cases h1 : x = 1
  · subst h1
    go_wp2_with fail
    refine (l01Below_any g 1114112 _ (by omega) (by omega) HX.out.1).mono ?_
    rintro e w2 ⟨y, -, -, rfl, hc2, ha2⟩
    go_wp2
    go_ret
    exact ⟨y, rfl, hc2, HX.out.2.trans ha2⟩
  · have d0 : (x == 0) = false := by simp; omega
    have d1 : (x == 1) = false := by simp; omega
    clear h0 h1
    go_wp2_with fail
    refine (l01Below_any g 95 _ (by omega) (by omega) HX.out.1).mono ?_
    rintro e w2 ⟨y, hy0, hy1, rfl, hc2, ha2⟩
    go_wp2
    go_ret
    exact ⟨_, rfl, hc2, HX.out.2.trans ha2⟩

/-- A list of numbers that grows in the call's own memory while a cursor lies in block g. -/
structure IT (W0 : World) (g : Nat) (w : World) (v : Value) (l : List Int) : Prop where
  own : w.ownsRow W0.heap.size 3 1 v l.length (l.map (Value.int .i64))
  cur : Cur w g
  ap : Apart [g] W0 w
  lt : g < W0.heap.size
theorem ownsRow_apart {w w' : World} {L : List Nat} {base e size : Nat} {v : Value} {n : Nat} {xs : List Value} (h : w.ownsRow base e size v n xs) (ha : Apart L w w') (hL : ∀ x, x ∈ L → x < base) : w'.ownsRow base e size v n xs := by
  obtain ⟨h1, h2⟩ := h
  refine ⟨h1, ?_⟩
  rcases h2 with h2 | ⟨b, cap, cur, hv, hb, hh, r⟩
  · exact .inl h2
  · have : b < w.heap.size := (Array.getElem?_eq_some_iff.1 hh).1
    exact .inr ⟨b, cap, cur, hv, hb, by rw [ha.block b this (fun hx => by have := hL b hx; omega)]; exact hh, r⟩
theorem IT.go {W0 : World} {g : Nat} {w w' : World} {v : Value} {l : List Int} (h : IT W0 g w v l) (hc : Cur w' g) (ha : Apart [g] w w') : IT W0 g w' v l :=
  ⟨ownsRow_apart h.own ha (fun x hx => by simp at hx; subst hx; exact h.lt), hc, h.ap.trans ha, h.lt⟩
theorem IT.alloc {W0 : World} {g : Nat} {w : World} {v : Value} {l : List Int} (h : IT W0 g w v l) (o : Obj) : IT W0 g (w.alloc o) v l := h.go (h.cur.alloc o) ((Apart.refl _ _).alloc o)
theorem IT.grown {W0 : World} {g : Nat} {w w' : World} {v v' : Value} {l l' : List Int} (h : IT W0 g w v l) (ho : w'.ownsRow W0.heap.size 3 1 v' l'.length (l'.map (Value.int .i64))) (hg : w.grownBy w' v.ownBlock) : IT W0 g w' v' l' := by
  have hne : ∀ k, k < W0.heap.size → some k ≠ v.ownBlock := fun k hk e => by
    have := own_base h.own k e.symm; omega
  have hs0 := h.ap.size
  exact ⟨ho, h.cur.same fun k hk hl => hg.block k hl (hne k (by have := h.lt; omega)), ⟨hg.os.trans h.ap.os, hg.tape.trans h.ap.tape, hg.output.trans h.ap.output, Nat.le_trans hs0 hg.size,
    fun k hk hn => (hg.block k (by omega) (hne k hk)).trans (h.ap.block k hk hn)⟩, h.lt⟩
theorem IT.slice {W0 : World} {g : Nat} {w : World} {v : Value} {l : List Int} (h : IT W0 g w v l) : ∃ a cap, v = .slice a l.length cap ∧ SlAt w a l.length 1 (intF l) := by
  obtain ⟨fp, h1, -⟩ := FlatOwn.of_owns (f := intF l) (c := 1) h.own (fun i hi j hj => by
    obtain rfl : j = 0 := by omega
    simp [intF, List.getD_eq_getElem?_getD, hi])
  obtain ⟨a, cap, rfl⟩ := h1.shape
  exact ⟨a, cap, rfl, h1.sl⟩
theorem IT.start (w : World) (g : Nat) (h : Cur w g) (o : Array Value) (ho : o = #[]) : IT w g (w.alloc (.cells o 3)) (.slice (some ⟨w.heap.size, 0, none⟩) 0 0) [] := by
  subst ho
  exact ⟨World.ownsRow_lit (base := w.heap.size) (e := 3) (size := 1) w #[] 0 (Nat.le_refl _) (by unfold maxLen; omega) rfl, h.alloc _, (Apart.refl _ _).alloc _, h.lt⟩

/-- 'append(list, x)'. -/
theorem wpList_it {ops : Array Oper} {rest : List Oper} {o : Oper} {a : Act} {Q : Exit → Act → World → Prop} (hgd : o.guard = none) (s x : Operand)
    (ho : o.op = .call { callee := .builtin .append, args := #[s, x], argTypes := #[22, 22] })
    (v : Value) (l : List Int) (y : Int) (W0 : World) (g : Nat) (w : World) (hs : a.eval s = v) (hb : IT W0 g w v l)
    (hx : a.eval x = .slice (some ⟨w.heap.size, 0, none⟩) 1 1) (hlen : l.length ≤ 1000000)
    (h : ∀ v' w', IT W0 g w' v' (l ++ [y]) → wpList Tryd.prog ops Q rest (a.put o.dst v') w') : wpList Tryd.prog ops Q (o :: rest) a (w.alloc (.cells #[.int .i64 y] 3)) := by
  obtain ⟨i0, hi, hz0, hz1, hz2⟩ := info_parts Tryd.infoInt
  have hb' := hb.alloc (.cells #[.int .i64 y] 3)
  have hnews : ∀ j u, [Value.int .i64 y][j]? = some u → (w.alloc (.cells #[.int .i64 y] 3)).cell? ((⟨w.heap.size, 0, none⟩ : Addr).add j) = some u := cell_one_new _ _ _
  refine wpList_append_own _ hgd s x 22 ho W0.heap.size 3 i0 (.int .i64 0) 1 8 Tryd.underlying22 hi hz0 hz1 hz2 rfl (by decide) v l.length _ hs hb'.own ⟨w.heap.size, 0, none⟩ 1 1 [.int .i64 y] hx rfl hnews (by intro u hu; simp at hu; subst hu; rfl) (by unfold maxLen; omega) (by omega) hb'.ap.size ?_
  intro v' w' ho' hg _
  exact h v' w' (hb'.grown (l' := l ++ [y]) (by simpa using ho') hg)

set_option maxHeartbeats 1000000 in
theorem l07Text_any (g : Nat) (m : Nat) (w : World) (hm : m ≤ 100) (hC : Cur w g) : Calls Tryd.prog 80 #[.pointer (some ⟨g, 0, none⟩), .int .i64 m] w (StrP g (fun s => s.size ≤ 4 * m ∧ ∃ l, s = ⟨(rtexts l).toArray⟩) w) := by
  have HI := Lib.hid (IT.start w g hC #[] rfl); clear hC
  go_enter Tryd.func80, Tryd.ntmps80
  go_wp2_with fail
  go_loopw [5, 6] (fun v i wr => ∃ (j : Nat) (l : List Int), j ≤ m ∧ l.length = j ∧ i = .int .i64 j ∧ IT w g wr v l) (fun _ i _ => m - (intOf i).toNat)
  case atStart => exact ⟨0, [], by omega, rfl, rfl, HI.out⟩
  case round =>
    obtain ⟨j, l, hj, hl, rfl, hit⟩ := hrel
    have HJ := Lib.hid hit; have HL := Lib.hid hl; clear hit hl
    go_wp2_with fail
    refine (l01Below_any g ((m : Int) + 1) _ (by omega) (by omega) HJ.out.cur).mono ?_
    rintro e w1 ⟨x, hx0, hx1, rfl, hc1, ha1⟩
    have H1 := Lib.hid (HJ.out.go hc1 ha1); clear hc1 ha1
    cases hlt : decide ((j : Int) < x)
    · obtain ⟨a, cap, rfl, hsl⟩ := H1.out.slice
      have HSL := Lib.hid hsl; clear hsl
      have hll := HL.out
      subst hll
      go_wp2_with fail
      refine (sRunesText l a cap _ (by omega) HSL.out).mono ?_
      rintro e w2 ⟨rfl, hb2⟩
      go_wp2
      go_ret
      exact ⟨_, ⟨by have := rtexts_len l; show (rtexts l).length ≤ _; omega, l, rfl⟩, rfl, H1.out.cur.keep hb2, H1.out.ap.trans (Apart.of_below hb2 _)⟩
    · have hj1 : (j : Int) < x := by simpa using hlt
      go_wp2_with fail
      refine (l07Rune_any g _ H1.out.cur).mono ?_
      rintro e w2 ⟨y, rfl, hc2, ha2⟩
      have H2 := Lib.hid (H1.out.go hc2 ha2); clear hc2 ha2
      go_wp2_with (at_builtin; refine wpList_it (by rfl) _ _ (by rfl) _ l y w g _ (by rfl) H2.out (by rfl) (by have := HL.out; omega) ?_; intro v3 w3 hit3)
      go_roundw
      case rel => exact ⟨j + 1, l ++ [y], by omega, by have := HL.out; simp; omega, by go_num, hit3⟩
      case measure => simp [intOf]; omega

end Go.Proofs.YtoaakbaijklhhaaDoor
