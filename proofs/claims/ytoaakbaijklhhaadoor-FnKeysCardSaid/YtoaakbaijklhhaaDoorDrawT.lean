/- The bytes that a law draws from; big; drawn lists of code points. -/
import Derived.Test.YtoaakbaijklhhaaDoorDrawS
import Derived.OpenShut
namespace Go.Proofs.YtoaakbaijklhhaaDoor
open Go.RowKit Go.ChangeShapes Go.WideShapes

theorem Tryd.cellsU8 : Tryd.prog.cellsOf 5 = 1 := by kernel_rfl
set_option maxRecDepth 100000 in
theorem openCode {H : Type} {enc : TypeId × Value → H} {W : World} {base : Nat} {v : Value} {d : DataW H} {p : List MemPlace} (hval : Value.okWide Tryd.prog W .any base 29 v)
    (h : DataW.Trod enc Tryd.prog W 0 (fun _ => true) true 29 v d p) :
    ∃ (a : Option Addr) (n cap : Nat), v = .slice a n cap ∧ n ≤ maxLen ∧ CodeAt W W.heap.size a n := by
  obtain ⟨a, len, cap, rfl⟩ := okWide_slice Tryd.underlying29 hval
  obtain ⟨fuel, hf⟩ := h
  rcases open_ints Tryd.underlying29 Tryd.underlying5 Tryd.cellsU8 hf with ⟨hcs, _⟩ | ⟨x, l, c, zs, hcs, _, hl, hm, hz, _, hx, hw⟩
  · simp [Value.cells] at hcs
    obtain ⟨rfl, rfl, rfl⟩ := hcs
    exact ⟨none, 0, 0, rfl, Nat.zero_le _, fun _ => 0, fun _ => ⟨Int.le_refl _, (by decide : (0 : Int) ≤ 255)⟩, .inl rfl⟩
  · simp [Value.cells] at hcs
    obtain ⟨rfl, rfl, rfl⟩ := hcs
    have hzl : len ≤ zs.length := by rw [hz]; split <;> omega
    refine ⟨some x, len, cap, rfl, Nat.le_trans hl hm, fun i => zs[i]?.getD 0, fun i => range_u8 hw i, ?_⟩
    rcases Nat.eq_zero_or_pos len with h0 | h0
    · exact .inl h0
    · obtain ⟨b, o, spot⟩ := x
      have hs : spot = none := by simpa [Addr.add] using World.cell?_spot (hx 0 (by omega))
      subst hs
      refine .inr ⟨b, o, rfl, ?_, fun i hi => ?_⟩
      · have := hx 0 (by omega)
        rw [addr_add] at this
        exact lt_of_cell this
      · have := hx i (by omega)
        rw [addr_add, List.getD_eq_getElem?_getD] at this
        exact this
theorem CodeAt.keep {w w' : World} {a : Option Addr} {n : Nat} (h : CodeAt w w.heap.size a n) (hb : Below w.heap.size w w') : CodeAt w' w'.heap.size a n :=
  (h.same fun k hk _ => hb.block k hk).mono hb.size

theorem big_any (a : Option Addr) (n cap : Nat) (w : World) : Calls Tryd.prog 26 #[.slice a n cap] w fun e w' => e = .returned (.bool (decide (1048576 < (n : Int)))) ∧ w = w' := by
  go_enter Tryd.func26, Tryd.ntmps26
  go_wp2
  go_ret
  exact ⟨rfl, rfl⟩

def IntQ (w : World) (e : Ending) (w' : World) : Prop := ∃ x : Int, e = .returned (.int .i64 x) ∧ Below w.heap.size w w'
def ListQ (m : Nat) (w : World) (e : Ending) (w' : World) : Prop := ∃ (l : List Int) (a : Option Addr) (cap : Nat), e = .returned (.slice a l.length cap) ∧ l.length ≤ m ∧ SlAt w' a l.length 1 (intF l) ∧ Below w.heap.size w w'
def StrQ (Q : ByteArray → Prop) (w : World) (e : Ending) (w' : World) : Prop := ∃ s : ByteArray, Q s ∧ e = .returned (.string s) ∧ Below w.heap.size w w'

theorem drawRuneText (a : Option Addr) (n cap : Nat) (w : World) (hn : n ≤ 1048576) (hc : CodeAt w w.heap.size a n) : Calls Tryd.prog 33 #[.slice a n cap] w (IntQ w) := by
  go_enter Tryd.func33, Tryd.ntmps33
  go_wp2_with fail
  refine (l01New_any a n cap _ hn hc).mono ?_
  rintro e w1 ⟨g, rfl, hg, hc1, hb1⟩
  have H1 := Lib.hid hb1; clear hb1
  go_wp2_with fail
  refine (l07Rune_any g _ hc1).mono ?_
  rintro e w2 ⟨x, rfl, hc2, ha2⟩
  go_wp2
  go_ret
  exact ⟨x, rfl, H1.out.trans (ha2.below H1.out.size (fun y hy => by simp at hy; omega))⟩

set_option maxHeartbeats 1000000 in
theorem drawRunesText (a : Option Addr) (n cap : Nat) (w : World) (hn : n ≤ 1048576) (hc : CodeAt w w.heap.size a n) : Calls Tryd.prog 31 #[.slice a n cap] w (ListQ 8 w) := by
  go_enter Tryd.func31, Tryd.ntmps31
  go_wp2_with fail
  refine (l01New_any a n cap _ hn hc).mono ?_
  rintro e w1 ⟨g, rfl, hg, hc1, hb1⟩
  have H1 := Lib.hid hb1; have HI := Lib.hid (IT.start w1 g hc1 #[] rfl); clear hb1 hc1
  have HG := Lib.hid hg; clear hg
  go_wp2_with fail
  go_loopw [4, 5] (fun v i wr => ∃ (j : Nat) (l : List Int), j ≤ 8 ∧ l.length = j ∧ i = .int .i64 j ∧ IT w1 g wr v l) (fun _ i _ => 8 - (intOf i).toNat)
  case atStart => exact ⟨0, [], by omega, rfl, rfl, HI.out⟩
  case round =>
    obtain ⟨j, l, hj, hl, rfl, hit⟩ := hrel
    have HJ := Lib.hid hit; have HL := Lib.hid hl; clear hit hl
    go_wp2_with fail
    refine (l01Below_any g 8 _ (by omega) (by omega) HJ.out.cur).mono ?_
    rintro e w3 ⟨x, hx0, hx1, rfl, hc3, ha3⟩
    have H3 := Lib.hid (HJ.out.go hc3 ha3); clear hc3 ha3
    cases hlt : decide ((j : Int) < x)
    · obtain ⟨a', cap', rfl, hsl⟩ := H3.out.slice
      have HSL := Lib.hid hsl; clear hsl
      have hll := HL.out
      subst hll
      go_wp2
      go_ret
      exact ⟨l, a', cap', rfl, hj, HSL.out, H1.out.trans (H3.out.ap.below H1.out.size (fun y hy => by have := HG.out; simp at hy; omega))⟩
    · have hj1 : (j : Int) < x := by simpa using hlt
      go_wp2_with fail
      refine (l07Rune_any g _ H3.out.cur).mono ?_
      rintro e w2 ⟨y, rfl, hc2, ha2⟩
      have H2 := Lib.hid (H3.out.go hc2 ha2); clear hc2 ha2
      go_wp2_with (at_builtin; refine wpList_it (by rfl) _ _ (by rfl) _ l y w1 g _ (by rfl) H2.out (by rfl) (by have := HL.out; omega) ?_; intro v3 w4 hit3)
      go_roundw
      case rel => exact ⟨j + 1, l ++ [y], by omega, by have := HL.out; simp; omega, by go_num, hit3⟩
      case measure => simp [intOf]; omega

end Go.Proofs.YtoaakbaijklhhaaDoor
