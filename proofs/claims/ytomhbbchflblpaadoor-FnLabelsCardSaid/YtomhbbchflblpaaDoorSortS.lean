/- The library's stable sort at labels: few labels (what it computes), any number (labels of the same row). -/
import Derived.Test.YtomhbbchflblpaaDoorSortN
namespace Go.Proofs.YtomhbbchflblpaaDoor
open Go.RowKit

theorem vi {a b : Int} (h : a = b) : Value.int .i64 a = Value.int .i64 b := by rw [h]
/-- Few labels: they are sorted by insertion. -/
def InvL (L : List Lb) (i j : Nat) (E : List Lb) : Prop :=
  (i < L.length ∧ j ≤ i ∧ E = midL L i j ∧ ∀ m, j ≤ m → m < i → ltL (labN L i) (labN (sortN L i) m) = true) ∨ (L.length ≤ i ∧ E = sortN L L.length)
theorem invL_len {L : List Lb} (i j : Nat) (E : List Lb) (h : InvL L i j E) : E.length = L.length := by
  rcases h with ⟨h1, h2, rfl, -⟩ | ⟨h1, rfl⟩
  · exact midL_len h1 h2
  · exact sortN_len _ _
theorem invL_swap {L : List Lb} (i j : Nat) (E : List Lb) (hi : i < L.length) (hj : j + 1 ≤ i) (h : InvL L i (j + 1) E) (hlt : ltL (labN E (j + 1)) (labN E j) = true) : InvL L i j (swL E (j + 1) j) := by
  rcases h with ⟨h1, h2, rfl, h3⟩ | ⟨h1, rfl⟩
  · refine .inl ⟨h1, by omega, midL_swap h1 hj, fun m h4 h5 => ?_⟩
    rcases Nat.eq_or_lt_of_le h4 with h6 | h6
    · subst h6
      rw [midL_at hj, midL_at hj, if_neg (by omega), if_pos rfl, if_pos (by omega)] at hlt
      exact hlt
    · exact h3 m (by omega) h5
  · omega
theorem invL_next {L : List Lb} {i : Nat} {E : List Lb} (hi : i < L.length) (h : E = sortN L (i + 1) ++ L.drop (i + 1)) : InvL L (i + 1) (i + 1) E := by
  rcases Nat.lt_or_ge (i + 1) L.length with h1 | h1
  · exact .inl ⟨h1, Nat.le_refl _, by rw [h, midL_start h1], fun m h2 h3 => by omega⟩
  · have h2 : i + 1 = L.length := by omega
    exact .inr ⟨h1, by rw [h, h2, sortN_full]⟩
theorem invL_stop {L : List Lb} (i j : Nat) (E : List Lb) (hi : i < L.length) (hj : j ≤ i) (h : InvL L i j E) (hs : j = 0 ∨ ltL (labN E j) (labN E (j - 1)) = false) : InvL L (i + 1) (i + 1) E := by
  rcases h with ⟨h1, h2, rfl, h3⟩ | ⟨h1, rfl⟩
  · refine invL_next hi (midL_stop hj h3 ?_)
    rcases hs with h4 | h4
    · exact .inl h4
    · rcases Nat.eq_zero_or_pos j with h5 | h5
      · exact .inl h5
      · right
        rw [midL_at hj, midL_at hj, if_neg (by omega), if_pos rfl, if_pos (by omega)] at h4
        exact h4
  · omega

set_option maxRecDepth 100000 in
set_option maxHeartbeats 1000000 in
theorem stable_few (L : List Lb) (g cap : Nat) (w0 w : World) (hL : L.length ≤ 19) (h1 : 0 < L.length) (h : SR w0 g w L) :
    Calls Tryd.prog 38 #[.slice (some ⟨g, 0, none⟩) L.length cap, .int .i64 L.length, (.func (.func 19) #[] #[])] w fun e w' => e = .returned (.tuple #[]) ∧ SR w0 g w' (sortN L L.length) := by
  have H0 := Lib.hid (show Calls Tryd.prog 50 #[.slice (some ⟨g, 0, none⟩) L.length cap, .int .i64 0, .int .i64 L.length, (.func (.func 19) #[] #[])] w fun e w' => e = .returned (.tuple #[]) ∧ SR w0 g w' (sortN L L.length) from by
    have hk := insSort L.length (InvL L) g cap 0 L.length L w0 w (by omega) (fun i j E hE => invL_len i j E hE) (fun i j E _ h3 h4 h5 h6 => invL_swap i j E h4 h3 h5 h6) (fun i j E _ h3 h4 h5 h6 => invL_stop i j E h4 h3 h5 h6) (invL_next h1 (by rw [sortN_one h1])) (Nat.zero_le _) (Nat.le_refl _) h
    refine hk.mono fun e w' ⟨he, i, E, h2, h3, h4, h5⟩ => ⟨he, ?_⟩
    rcases h4 with ⟨h6, -⟩ | ⟨h6, rfl⟩
    · omega
    · exact h5)
  clear h
  go_enter Tryd.func38, Tryd.ntmps38
  go_wp2
  go_loopw [7, 8] (fun s7 s8 wr => s7 = .int .i64 0 ∧ s8 = .int .i64 20 ∧ w = wr) (fun _ _ _ => 0)
  case atStart => exact ⟨rfl, rfl, rfl⟩
  case round =>
    obtain ⟨rfl, rfl, rfl⟩ := hrel
    go_wp2_with fail
    refine H0.out.mono ?_
    rintro e w2 ⟨rfl, h2⟩
    have H2 := Lib.hid h2; clear h2 H0
    go_wp2
    go_loopw [6] (fun s6 wr => s6 = .int .i64 20 ∧ w2 = wr) (fun _ _ => 0)
    case atStart => exact ⟨rfl, rfl⟩
    case round =>
      obtain ⟨rfl, rfl⟩ := hrel
      go_wp2
      go_end0
      exact ⟨rfl, H2.out⟩

set_option maxRecDepth 100000 in
set_option maxHeartbeats 2000000 in
theorem stable_any (D C : List Lb) (g cap : Nat) (w0 w : World) (hC : C.length ≤ 1048576) (hA : Among D C) (h : SR w0 g w C) :
    Calls Tryd.prog 38 #[.slice (some ⟨g, 0, none⟩) C.length cap, .int .i64 C.length, (.func (.func 19) #[] #[])] w fun e w' => e = .returned (.tuple #[]) ∧ ∃ C', C'.length = C.length ∧ Among D C' ∧ SR w0 g w' C' := by
  have HI := Lib.hid (show ∀ (a b : Nat) (w : World), a ≤ b → b ≤ C.length → (∃ E, Among D E ∧ SR w0 g w E) → Calls Tryd.prog 50 #[.slice (some ⟨g, 0, none⟩) C.length cap, .int .i64 a, .int .i64 b, (.func (.func 19) #[] #[])] w fun e w' => e = .returned (.tuple #[]) ∧ ∃ E, Among D E ∧ SR w0 g w' E from fun a b w h1 h2 ⟨E, h3, h4⟩ => by
    have hk := insSort C.length (fun _ _ E => Among D E) g cap a b E w0 w hC (fun i j E hE => by rw [hE.1, hA.1]) (fun i j E k1 k2 k3 k4 k5 => by
      have hl : E.length = C.length := by rw [k4.1, hA.1]
      exact k4.swap (by omega) (by omega)) (fun i j E k1 k2 k3 k4 k5 => k4) h3 h1 h2 h4
    exact hk.mono fun e w' ⟨he, i, E, _, _, h7, h8⟩ => ⟨he, E, h7, h8⟩)
  have HM := Lib.hid (show ∀ (a m b : Nat) (w : World), a < m → m < b → b ≤ C.length → (∃ E, Among D E ∧ SR w0 g w E) → Calls Tryd.prog 51 #[.slice (some ⟨g, 0, none⟩) C.length cap, .int .i64 a, .int .i64 m, .int .i64 b, (.func (.func 19) #[] #[])] w fun e w' => e = .returned (.tuple #[]) ∧ ∃ E, Among D E ∧ SR w0 g w' E from fun a m b w h1 h2 h3 ⟨E, h4, h5⟩ => by
    have hl : E.length = C.length := by rw [h4.1, hA.1]
    have hk := sym_all (D := D) (g := g) (cap := cap) (w0 := w0) b E a m b w (by omega) (by omega) h1 h2 (by omega) h4 h5
    rw [hl] at hk
    exact hk.mono fun e w' ⟨he, E2, _, h7, h8⟩ => ⟨he, E2, h7, h8⟩)
  have HE := Lib.hid (show ∃ E, Among D E ∧ SR w0 g w E from ⟨C, hA, h⟩)
  have HZ := Lib.hid (show ∀ E, Among D E → E.length = C.length from fun E hE => by rw [hE.1, hA.1])
  clear hA h
  go_enter Tryd.func38, Tryd.ntmps38
  go_wp2
  go_loopw [7, 8] (fun s7 s8 wr => ∃ A : Nat, A ≤ C.length ∧ s7 = .int .i64 A ∧ s8 = .int .i64 ((A : Int) + 20) ∧ Hid (∃ E, Among D E ∧ SR w0 g wr E)) (fun s7 _ _ => C.length - (intOf s7).toNat)
  case atStart => exact ⟨0, by omega, rfl, rfl, HE⟩
  case round =>
    obtain ⟨A, hA, rfl, rfl, HK⟩ := hrel
    clear HE
    by_cases hlt : (A : Int) + 20 ≤ (C.length : Int)
    · have HS := Lib.hid (HI.out A (A + 20) wr (by omega) (by omega) HK.out)
      have e1 : ((A + 20 : Nat) : Int) = (A : Int) + 20 := by omega
      rw [e1] at HS
      clear e1
      go_wp2_with fail
      refine HS.out.mono ?_
      rintro e w2 ⟨rfl, h2⟩
      have H2 := Lib.hid h2; clear h2 HS HK
      go_wp2
      go_roundw
      case rel => exact ⟨A + 20, by omega, vi (by omega), vi (by omega), H2⟩
      case measure => simp [intOf]; omega
    · have HS := Lib.hid (HI.out A C.length wr (by omega) (Nat.le_refl _) HK.out)
      go_wp2_with fail
      refine HS.out.mono ?_
      rintro e w2 ⟨rfl, h2⟩
      have H2 := Lib.hid h2; clear h2 HS HK
      go_wp2
      go_loopw [6] (fun s6 wr => ∃ S : Nat, 20 ≤ S ∧ S ≤ 2097152 ∧ s6 = .int .i64 S ∧ Hid (∃ E, Among D E ∧ SR w0 g wr E)) (fun s6 _ => C.length - (intOf s6).toNat)
      case atStart => exact ⟨20, by omega, by omega, rfl, H2⟩
      case round =>
        obtain ⟨S, hS, hS2, rfl, HK⟩ := hrel
        clear H2
        by_cases hSl : S < C.length
        · go_wp2
          go_loopw [7, 8] (fun s7 s8 wr => ∃ A : Nat, A ≤ C.length ∧ s7 = .int .i64 A ∧ s8 = .int .i64 ((A : Int) + 2 * (S : Int)) ∧ Hid (∃ E, Among D E ∧ SR w0 g wr E)) (fun s7 _ _ => C.length - (intOf s7).toNat)
          case atStart => exact ⟨0, by omega, rfl, vi (by omega), HK⟩
          case round =>
            obtain ⟨A, hA, rfl, rfl, HL⟩ := hrel
            clear HK
            by_cases hlt2 : (A : Int) + 2 * (S : Int) ≤ (C.length : Int)
            · have HS := Lib.hid (HM.out A (A + S) (A + 2 * S) wr (by omega) (by omega) (by omega) HL.out)
              have e1 : ((A + 2 * S : Nat) : Int) = (A : Int) + 2 * (S : Int) := by omega
              have e2 : ((A + S : Nat) : Int) = (A : Int) + (S : Int) := by omega
              rw [e1, e2] at HS
              clear e1 e2
              go_wp2_with fail
              refine HS.out.mono ?_
              rintro e w3 ⟨rfl, h2⟩
              have H3 := Lib.hid h2; clear h2 HS HL
              go_wp2
              go_roundw
              case rel => exact ⟨A + 2 * S, by omega, vi (by omega), vi (by omega), H3⟩
              case measure => simp [intOf]; omega
            · by_cases hAS : (A : Int) + (S : Int) < (C.length : Int)
              · have HS := Lib.hid (HM.out A (A + S) C.length wr (by omega) (by omega) (Nat.le_refl _) HL.out)
                have e2 : ((A + S : Nat) : Int) = (A : Int) + (S : Int) := by omega
                rw [e2] at HS
                clear e2
                go_wp2_with fail
                refine HS.out.mono ?_
                rintro e w3 ⟨rfl, h2⟩
                have H3 := Lib.hid h2; clear h2 HS HL
                go_wp2
                go_roundw
                case rel => exact ⟨2 * S, by omega, by omega, vi (by omega), H3⟩
                case measure => simp [intOf]; omega
              · go_wp2
                go_roundw
                case rel => exact ⟨2 * S, by omega, by omega, vi (by omega), HL⟩
                case measure => simp [intOf]; omega
        · go_wp2
          go_end0
          obtain ⟨E, h1, h2⟩ := HK.out
          exact ⟨rfl, E, HZ.out E h1, h1, h2⟩

end Go.Proofs.YtomhbbchflblpaaDoor
