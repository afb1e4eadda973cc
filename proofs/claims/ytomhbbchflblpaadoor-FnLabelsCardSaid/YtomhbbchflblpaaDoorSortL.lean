/- SortLabels of the program: the contract. -/
import Derived.Test.YtomhbbchflblpaaDoorSortS
import Derived.Test.YtomhbbchflblpaaDoorAppIn
import Derived.Test.YtomhbbchflblpaaDoorLabOk
namespace Go.Proofs.YtomhbbchflblpaaDoor
open Go.RowKit

def cellsLab (L : List Lb) : List Value := L.flatMap fun x => [.string x.1, .string x.2]
theorem cellsLab_len (L : List Lb) : (cellsLab L).length = L.length * 2 := by
  induction L with
  | nil => rfl
  | cons x L ih => simp only [cellsLab, List.flatMap_cons, List.length_append, List.length_cons, List.length_nil] at *; omega
theorem cellsLab_at : ∀ (L : List Lb) (i : Nat), i < L.length → ∀ j, j < 2 → (cellsLab L)[i * 2 + j]? = some (labF L i j)
  | [], i, h, _, _ => by simp at h
  | X :: L, 0, _, j, hj => by
    rcases (show j = 0 ∨ j = 1 by omega) with rfl | rfl <;> rfl
  | X :: L, i + 1, h, j, hj => by
    have ih := cellsLab_at L i (by simpa using h) j hj
    have e : cellsLab (X :: L) = .string X.1 :: .string X.2 :: cellsLab L := rfl
    rw [e, show (i + 1) * 2 + j = (i * 2 + j) + 1 + 1 by omega, List.getElem?_cons_succ, List.getElem?_cons_succ, ih]
    rfl
theorem cellsLab_one (L : List Lb) : ∀ u ∈ cellsLab L, u.oneCell' = true := by
  intro u hu
  simp only [cellsLab, List.mem_flatMap, List.mem_cons, List.mem_nil_iff, or_false] at hu
  obtain ⟨x, -, rfl | rfl⟩ := hu <;> rfl
/-- A list of labels comes back, on blocks of the call's own. -/
def LabNew (B : Nat) (L : List Lb) (v : Value) (w' : World) : Prop := ∃ a cap fp, v = .slice a L.length cap ∧ FlatOwn w' (.slice a L.length cap) L.length 2 (labF L) fp ∧ ∀ b, b ∈ fp → B ≤ b
theorem LabNew.keep {B : Nat} {L : List Lb} {v : Value} {w w' : World} (h : LabNew B L v w) (hb : Below w.heap.size w w') : LabNew B L v w' := by
  obtain ⟨a, cap, fp, h1, h2, h3⟩ := h
  exact ⟨a, cap, fp, h1, h2.keep hb, h3⟩
theorem lab_src {w : World} {a : Option Addr} {L : List Lb} (h : SlAt w a L.length 2 (labF L)) :
    L.length = 0 ∨ ∃ b o, a = some ⟨b, o, none⟩ ∧ ∀ (j : Nat) (u : Value), (cellsLab L)[j]? = some u → w.cell? ⟨b, o + j, none⟩ = some u := by
  rcases h with h | ⟨b, o, rfl, hk⟩
  · exact .inl h
  · refine .inr ⟨b, o, rfl, fun j u hj => ?_⟩
    have hlt := (List.getElem?_eq_some_iff.1 hj).1
    rw [cellsLab_len] at hlt
    have h1 := hk (j / 2) (by omega) (j % 2) (by omega)
    have h2 := cellsLab_at L (j / 2) (by omega) (j % 2) (by omega)
    rw [show j / 2 * 2 + j % 2 = j by omega] at h2
    rw [h2] at hj
    cases hj
    rw [show o + j = o + j / 2 * 2 + j % 2 by omega]
    exact h1

set_option maxRecDepth 100000 in
theorem cloneLab (L : List Lb) (a : Option Addr) (cap : Nat) (w : World) (hn : L.length ≤ 1048576) (hc : SlAt w a L.length 2 (labF L)) :
    Calls Tryd.prog 17 #[.slice a L.length cap] w fun e w' => (∃ v, e = .returned v ∧ LabNew w.heap.size L v w') ∧ Below w.heap.size w w' := by
  obtain ⟨i0, hi, hz0, hz1, hz2⟩ := info_parts Tryd.infoLabel
  have hq := fun (w : World) (a : Option Addr) (n c n' c' : Nat) => Lib.run_eql_slice_nil (P := Tryd.prog) w 24 35 a n c n' c' Tryd.underlying24
  cases a with
  | none =>
    have hl : L.length = 0 := by
      rcases hc with h | ⟨b, o, h, _⟩
      · exact h
      · simp at h
    rw [hl]
    go_enter Tryd.func17, Tryd.ntmps17
    go_wp2
    go_ret
    exact ⟨⟨.slice none 0 0, rfl, none, 0, [], by rw [hl], .inl ⟨hl, rfl, none, 0, by rw [hl]⟩, fun b hb => by simp at hb⟩, Below.refl _ _⟩
  | some ad =>
    have hal : Below w.heap.size w (w.alloc (.cells #[] 35)) := (Below.refl _ _).alloc (Nat.le_refl _) _
    have hsrc := lab_src (hc.keep hal)
    have hown0 : (w.alloc (.cells #[] 35)).ownsRow w.heap.size 35 2 (.slice (some ⟨w.heap.size, 0, none⟩) 0 0) 0 [] := World.ownsRow_made w #[] 0 (Nat.le_refl _) (by unfold maxLen; omega) rfl
    go_enter Tryd.func17, Tryd.ntmps17
    go_wp2_with (at_builtin; refine wpList_append_in rfl (.tmp 5) (.tmp 6) 24 rfl w.heap.size 35 i0 _ 2 32 Tryd.underlying24 hi hz0 hz1 hz2 rfl (by decide) (.slice (some ⟨w.heap.size, 0, none⟩) 0 0) 0 [] rfl hown0 (some ad) L.length cap (cellsLab L) rfl (cellsLab_len L) hsrc (cellsLab_one L) (by unfold maxLen; omega) (by omega) (by simp) ?_; intro v' w1 hown1 hgrow1 _)
    simp only [Nat.zero_add, List.nil_append] at hown1
    go_ret
    obtain ⟨fp, h2, h3⟩ := FlatOwn.of_owns hown1 (f := labF L) (cellsLab_at L)
    obtain ⟨a, c, rfl⟩ := h2.shape
    exact ⟨⟨_, rfl, a, c, fp, rfl, h2, h3⟩, hal.grown hgrow1 (by simp) (fun k hk => by simp [Value.ownBlock] at hk; omega)⟩

/-! ### Rows and owned slices -/
theorem LRow.of_flat {w : World} {a : Option Addr} {cap : Nat} {L : List Lb} {fp : List Nat} (h : FlatOwn w (.slice a L.length cap) L.length 2 (labF L) fp) (h0 : 0 < L.length) : ∃ g, a = some ⟨g, 0, none⟩ ∧ fp = [g] ∧ LRow w g L := by
  rcases h with ⟨h1, _⟩ | ⟨g, cap', e, N, F, h1, rfl, h3, h4, h5⟩
  · omega
  · simp only [Value.slice.injEq] at h1
    obtain ⟨rfl, -, -⟩ := h1
    exact ⟨g, rfl, rfl, e, N, F, h3, h4, fun i hi => ⟨(h5 i hi 0 (by omega)).trans rfl, (h5 i hi 1 (by omega)).trans rfl⟩⟩
theorem LRow.flat {w : World} {g cap : Nat} {L : List Lb} (h : LRow w g L) : FlatOwn w (.slice (some ⟨g, 0, none⟩) L.length cap) L.length 2 (labF L) [g] := by
  obtain ⟨e, N, F, h1, h2, h3⟩ := h
  refine .inr ⟨g, cap, e, N, F, rfl, rfl, h1, h2, fun i hi j hj => ?_⟩
  have h4 := h3 i hi
  rcases (show j = 0 ∨ j = 1 by omega) with rfl | rfl
  · exact h4.1
  · exact h4.2

/-! ### SortLabels -/
theorem ins_nil (a : Option Addr) (cap : Nat) (w : World) : Calls Tryd.prog 50 #[.slice a 0 cap, .int .i64 0, .int .i64 0, (.func (.func 19) #[] #[])] w fun e w' => e = .returned (.tuple #[]) ∧ w = w' := by
  go_enter Tryd.func50, Tryd.ntmps50
  go_wp2
  go_loopw [8] (fun s8 wr => s8 = .int .i64 1 ∧ w = wr) (fun _ _ => 0)
  case atStart => exact ⟨rfl, rfl⟩
  case round =>
    obtain ⟨rfl, rfl⟩ := hrel
    go_wp2
    go_end0
    exact ⟨rfl, rfl⟩
theorem stable_nil (a : Option Addr) (cap : Nat) (w : World) : Calls Tryd.prog 38 #[.slice a 0 cap, .int .i64 0, (.func (.func 19) #[] #[])] w fun e w' => e = .returned (.tuple #[]) ∧ w = w' := by
  go_enter Tryd.func38, Tryd.ntmps38
  go_wp2
  go_loopw [7, 8] (fun s7 s8 wr => s7 = .int .i64 0 ∧ s8 = .int .i64 20 ∧ w = wr) (fun _ _ _ => 0)
  case atStart => exact ⟨rfl, rfl, rfl⟩
  case round =>
    obtain ⟨rfl, rfl, rfl⟩ := hrel
    go_wp2_with fail
    refine (ins_nil a cap _).mono ?_
    rintro e w2 ⟨rfl, rfl⟩
    go_wp2
    go_loopw [6] (fun s6 wr => s6 = .int .i64 20 ∧ w = wr) (fun _ _ => 0)
    case atStart => exact ⟨rfl, rfl⟩
    case round =>
      obtain ⟨rfl, rfl⟩ := hrel
      go_wp2
      go_end0
      exact ⟨rfl, rfl⟩
/-- What the sort leaves: few labels in order, or labels of the same row. -/
def Sorted2 (L C : List Lb) : Prop := C.length = L.length ∧ (L.length ≤ 19 → C = sortN L L.length) ∧ ∀ x, x ∈ C → x ∈ L
theorem sortFn (L : List Lb) (a : Option Addr) (cap B : Nat) (fp : List Nat) (w : World) (hn : L.length ≤ 1048576) (h : FlatOwn w (.slice a L.length cap) L.length 2 (labF L) fp) (hB : ∀ b, b ∈ fp → B ≤ b) :
    Calls Tryd.prog 18 #[.slice a L.length cap, (.func (.func 19) #[] #[])] w fun e w' => e = .returned (.tuple #[]) ∧ (∃ C, Sorted2 L C ∧ FlatOwn w' (.slice a L.length cap) L.length 2 (labF C) fp) ∧ Apart fp w w' := by
  rcases Nat.eq_zero_or_pos L.length with h0 | h0
  · have hL : L = [] := List.eq_nil_of_length_eq_zero h0
    have H := Lib.hid (show (∃ C, Sorted2 L C ∧ FlatOwn w (.slice a L.length cap) L.length 2 (labF C) fp) from ⟨L, ⟨rfl, fun _ => by rw [hL]; rfl, fun x hx => hx⟩, h⟩)
    rw [h0] at H ⊢
    clear h
    go_enter Tryd.func18, Tryd.ntmps18
    go_wp2_with fail
    refine (stable_nil a cap _).mono ?_
    rintro e w2 ⟨rfl, rfl⟩
    go_wp2
    go_end0
    exact ⟨rfl, H.out, Apart.refl _ _⟩
  · obtain ⟨g, rfl, rfl, hr⟩ := LRow.of_flat h h0
    have hs := SR.start hr
    have HK := Lib.hid (show Calls Tryd.prog 38 #[.slice (some ⟨g, 0, none⟩) L.length cap, .int .i64 L.length, (.func (.func 19) #[] #[])] w fun e w' => e = .returned (.tuple #[]) ∧ ∃ C, Sorted2 L C ∧ SR w g w' C from by
      by_cases h19 : L.length ≤ 19
      · exact (stable_few L g cap w w h19 h0 hs).mono fun e w' ⟨h1, h2⟩ => ⟨h1, _, ⟨sortN_len _ _, fun _ => rfl, fun x hx => sortN_mem L.length (Nat.le_refl _) hx⟩, h2⟩
      · exact (stable_any L L g cap w w hn (Among.refl _) hs).mono fun e w' ⟨h1, C, h2, h3, h4⟩ => ⟨h1, C, ⟨h2, fun h5 => absurd h5 h19, h3.2⟩, h4⟩)
    clear h hr hs hB
    go_enter Tryd.func18, Tryd.ntmps18
    go_wp2_with fail
    refine HK.out.mono ?_
    rintro e w2 ⟨rfl, C, h1, h2⟩
    have H2 := Lib.hid (And.intro h1 h2); clear h1 h2
    go_wp2
    go_end0
    have hf := H2.out.2.row.flat (cap := cap)
    rw [H2.out.1.1] at hf
    exact ⟨rfl, ⟨C, H2.out.1, hf⟩, H2.out.2.ap⟩

theorem labsOk_len {C : List Lb} (h : ¬ C.length ≤ 6) : labsOkB C = false := by rw [labsOkB, decide_eq_false h]; rfl
/-- What SortLabels returns. -/
def SortV (L : List Lb) (w : World) (e : Ending) (w' : World) : Prop :=
  (∃ a cap fp, e = .returned (.tuple #[.slice a (sortR L).length cap, .bool (sortOk L)]) ∧ FlatOwn w' (.slice a (sortR L).length cap) (sortR L).length 2 (labF (sortR L)) fp ∧ ∀ b, b ∈ fp → w.heap.size ≤ b) ∧ Below w.heap.size w w'
theorem sortR_no {L : List Lb} (h : sortOk L = false) : sortR L = L := by rw [sortR, h]; rfl
theorem sortR_yes {L : List Lb} (h : sortOk L = true) : sortR L = sortN L L.length := by rw [sortR, if_pos h]

set_option maxRecDepth 100000 in
set_option maxHeartbeats 1000000 in
theorem iSortLabels (L : List Lb) (a : Option Addr) (cap : Nat) (w : World) (hn : L.length ≤ 1048576) (hc : SlAt w a L.length 2 (labF L)) (hsz : ∀ i, i < L.length → (keyAt L i).size ≤ 1048576 ∧ (valAt L i).size ≤ 1048576) :
    Calls Tryd.prog 6 #[.slice a L.length cap] w (SortV L w) := by
  have HC := Lib.hid (fun (w0 : World) (hb : Below w.heap.size w w0) => cloneLab L a cap w0 hn (hc.keep hb))
  have HSZ := Lib.hid (show ∀ C : List Lb, (∀ x, x ∈ C → x ∈ L) → ∀ i, i < C.length → (keyAt C i).size ≤ 1048576 ∧ (valAt C i).size ≤ 1048576 from fun C hC i hi => by
    obtain ⟨j, hj, e⟩ := List.getElem_of_mem (hC _ (labN_mem hi))
    have h := hsz j hj
    have e1 : labN L j = labN C i := by rw [labN_get hj, e]
    have k1 : keyAt C i = keyAt L j := (congrArg Prod.fst e1).symm
    have k2 : valAt C i = valAt L j := (congrArg Prod.snd e1).symm
    rw [k1, k2]; exact h)
  clear hc hsz
  go_enter Tryd.func6, Tryd.ntmps6
  go_wp2_with fail
  refine (HC.out _ (Below.refl _ _)).mono ?_
  rintro e w1 ⟨⟨v, rfl, a1, c1, fp, rfl, h1, h2⟩, hb1⟩
  have H1 := Lib.hid (And.intro h1 (And.intro h2 hb1)); clear h1 h2 hb1
  go_wp2_with fail
  refine (sortFn L a1 c1 w.heap.size fp _ hn H1.out.1 H1.out.2.1).mono ?_
  rintro e w2 ⟨rfl, ⟨C, hS, hF⟩, hap⟩
  have hb2 : Below w.heap.size w w2 := H1.out.2.2.trans (hap.below H1.out.2.2.size H1.out.2.1)
  have HS := Lib.hid hS
  have H2 := Lib.hid (And.intro hF (And.intro H1.out.2.1 hb2)); clear hF hap hb2 H1 hS
  have HOK := Lib.hid (show Calls Tryd.prog 13 #[.slice a1 L.length c1] w2 fun e w' => e = .returned (.bool (labsOkB C)) ∧ Below w2.heap.size w2 w' from by
    have hsl : SlAt w2 a1 C.length 2 (labF C) := by rw [HS.out.1]; exact H2.out.1.sl
    have h := iLabelsOk C a1 c1 w2 (by rw [HS.out.1]; omega) hsl (HSZ.out C HS.out.2.2)
    rw [HS.out.1] at h
    exact h)
  go_wp2_with fail
  refine HOK.out.mono ?_
  rintro e w3 ⟨rfl, hb3⟩
  have H3 := Lib.hid (And.intro (H2.out.1.keep hb3) (And.intro H2.out.2.1 (bnext H2.out.2.2 hb3))); clear hb3 H2 HOK
  cases hok : labsOkB C
  · have HR := Lib.hid (show sortOk L = false from by
      rw [sortOk]
      by_cases h6 : L.length ≤ 6
      · rw [← HS.out.2.1 (by omega), hok, Bool.and_false]
      · rw [decide_eq_false h6, Bool.false_and])
    clear hok
    go_wp2_with fail
    refine (HC.out _ H3.out.2.2).mono ?_
    rintro e w4 ⟨⟨v, rfl, a4, c4, fp4, rfl, h1, h2⟩, hb4⟩
    have H4 := Lib.hid (And.intro h1 (And.intro (show ∀ b, b ∈ fp4 → w.heap.size ≤ b from fun b hb => Nat.le_trans H3.out.2.2.size (h2 b hb)) (bnext H3.out.2.2 hb4))); clear h1 h2 hb4 H3
    go_wp2
    go_ret2
    have hr := sortR_no HR.out
    unfold SortV
    rw [hr, HR.out]
    exact ⟨⟨a4, c4, fp4, rfl, H4.out.1, H4.out.2.1⟩, H4.out.2.2⟩
  · have h6 : L.length ≤ 6 := by
      by_cases h : L.length ≤ 6
      · exact h
      · rw [labsOk_len (by rw [HS.out.1]; exact h)] at hok; cases hok
    have e := HS.out.2.1 (by omega)
    have HR := Lib.hid (show sortOk L = true from by rw [sortOk, decide_eq_true h6, ← e, hok]; rfl)
    have HE := Lib.hid e
    clear hok e
    go_wp2
    go_ret2
    have hr := sortR_yes HR.out
    have hl : (sortN L L.length).length = L.length := sortN_len _ _
    unfold SortV
    rw [hr, HR.out, hl, ← HE.out]
    exact ⟨⟨a1, c1, fp, rfl, H3.out.1, H3.out.2.1⟩, H3.out.2.2⟩

end Go.Proofs.YtomhbbchflblpaaDoor
