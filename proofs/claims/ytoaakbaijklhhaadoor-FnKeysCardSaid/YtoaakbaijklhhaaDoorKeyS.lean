/- spec.KeyOf: the contract. -/
import Derived.Test.YtoaakbaijklhhaaDoorKeyP
namespace Go.Proofs.YtoaakbaijklhhaaDoor
open Go.RowKit

theorem rest_eq (s : ByteArray) (k : Nat) : (s.extract k s.size).extract (ind (s.extract k s.size).data.toList) (s.extract k s.size).size = restB s k := ext_drop _ _
def KeyP (s : ByteArray) (w : World) (e : Ending) (w' : World) : Prop := e = .returned (.tuple #[.string (koA (keyO s)), .string (koB (keyO s)), .bool (keyO s).isSome]) ∧ Below w.heap.size w w'
theorem keyP_none {s : ByteArray} {w w' : World} (h : keyO s = none) (hb : Below w.heap.size w w') : KeyP s w (.returned (.tuple #[.string ⟨#[]⟩, .string ⟨#[]⟩, .bool false])) w' := ⟨by rw [h]; rfl, hb⟩
theorem keyP_some {s a b : ByteArray} {w w' : World} (h : keyO s = some (a, b)) (hb : Below w.heap.size w w') : KeyP s w (.returned (.tuple #[.string a, .string b, .bool true])) w' := ⟨by rw [h]; rfl, hb⟩

set_option maxHeartbeats 2000000 in
set_option maxRecDepth 100000 in
theorem sKeyQuoted (s : ByteArray) (w : World) (hs : s.size ≤ 1048576) (h0 : 0 < s.size) (hc : s[0].toNat = 34) : Calls Tryd.prog 44 #[.string s] w (KeyP s w) := by
  have hb := bt_eq s 0 h0
  have HB := Lib.hid (show bt s 0 = 34 by omega)
  have e0 : ((s[0].toNat : Int) == 34) = true := by rw [hc]; rfl
  have hpos : (0 : Int) < (s.size : Int) := by omega
  clear hb hc
  have HR := Lib.hid (fun w0 => sReadQuoted s 0 w0 hs)
  cases hr : readQ s 0 with
  | none =>
    have H := Lib.hid (key_q0 h0 HB.out hr)
    rw [hr] at HR
    simp only [qText, qEnd] at HR
    clear hr
    go_enter Tryd.func44, Tryd.ntmps44
    go_wp2_with (go_at_call 37; refine (HR.out _).mono ?_; rintro e w1 ⟨rfl, hb1⟩)
    go_ret3
    exact keyP_none H.out hb1
  | some x =>
    obtain ⟨l, e⟩ := x
    have hle : e ≤ s.size := by
      have := hr
      rw [readQ] at this
      split at this
      · exact (rq_end_le _ _ _ _ _ this).2
      · cases this
    have H1 := Lib.hid (fun h => key_q1 h0 HB.out hr h)
    have H2 := Lib.hid (fun h => key_q2 h0 HB.out hr h)
    rw [hr] at HR
    simp only [qText, qEnd] at HR
    clear hr
    obtain ⟨key, hkey⟩ : ∃ key : ByteArray, key = ⟨l.toArray⟩ := ⟨_, rfl⟩
    rw [← hkey] at HR H2
    clear hkey
    by_cases he : e < s.size
    rotate_left
    · have H := Lib.hid (H1.out (fun h => he h.1))
      have hd : decide (e < s.size) = false := decide_eq_false he
      clear he
      go_enter Tryd.func44, Tryd.ntmps44
      go_wp2_with (go_at_call 37; refine (HR.out _).mono ?_; rintro e w1 ⟨rfl, hb1⟩)
      go_ret3
      exact keyP_none H.out hb1
    have HE := Lib.hid (fun w0 => sEnds s e w0 he hs)
    cases hq : endsB s e
    · have H := Lib.hid (H1.out (fun h => by rw [hq] at h; cases h.2))
      rw [hq] at HE
      clear hq
      go_enter Tryd.func44, Tryd.ntmps44
      go_wp2_with (first | (go_at_call 37; refine (HR.out _).mono ?_; rintro e w1 ⟨rfl, hb1⟩) | (go_at_call 51; refine (HE.out _).mono ?_; rintro e w2 ⟨rfl, hd2⟩))
      go_ret3
      exact keyP_none H.out (bnext hb1 hd2.below)
    · have H := Lib.hid (H2.out ⟨he, hq⟩)
      rw [hq] at HE
      have hx1 : (e : Int) + 1 ≤ (s.size : Int) := by omega
      clear hq
      go_enter Tryd.func44, Tryd.ntmps44
      go_wp2_with (first | (go_at_call 37; refine (HR.out _).mono ?_; rintro e w1 ⟨rfl, hb1⟩) | (go_at_call 51; refine (HE.out _).mono ?_; rintro e w2 ⟨rfl, hd2⟩))
      have HRE := Lib.hid (rest_eq s (e + 1))
      have hts : (s.extract (e + 1) s.size).size ≤ 1048576 := by rw [ByteArray.size_extract]; omega
      have htl : (ind (s.extract (e + 1) s.size).data.toList : Int) ≤ ((s.extract (e + 1) s.size).size : Int) := by
        have h1 := ind_le (s.extract (e + 1) s.size).data.toList
        have h2 : (s.extract (e + 1) s.size).data.toList.length = (s.extract (e + 1) s.size).size := by simp
        omega
      generalize s.extract (e + 1) s.size = t at HRE hts htl ⊢
      have HI := Lib.hid (fun w0 => sIndentOf t w0 hts)
      generalize ind t.data.toList = m at HRE htl HI
      go_quiet ((go_at_call 70; exact quiet_eq (HI.out _)))
      go_wp2_with fail
      go_ret3
      exact keyP_some (by rw [H.out, HRE.out]) (by have hq := bnext hb1 hd2.below; exact ⟨hq.os, hq.tape, hq.output, hq.size, hq.block⟩)

set_option maxHeartbeats 2000000 in
set_option maxRecDepth 100000 in
theorem sKeyPlain (s : ByteArray) (w : World) (hs : s.size ≤ 1048576) (hn : ¬ (0 < s.size ∧ bt s 0 = 34)) : Calls Tryd.prog 44 #[.string s] w (KeyP s w) := by
  have HN := Lib.hid hn; clear hn
  obtain ⟨FE, hFE⟩ : ∃ FE, FE = firstEnd s := ⟨_, rfl⟩
  have HFE := Lib.hid hFE; clear hFE
  have HK0 := Lib.hid (fun h => key_p0 HN.out (HFE.out.symm.trans h))
  have HK1 := Lib.hid (fun i h => key_p1 (i := i) HN.out (HFE.out.symm.trans h))
  have HK2 := Lib.hid (fun i h => key_p2 (i := i) HN.out (HFE.out.symm.trans h))
  by_cases h0 : 0 < s.size
  rotate_left
  · have H := Lib.hid (HK0.out (by rw [HFE.out]; exact fe_out (by omega)))
    have hz : s.size = 0 := by omega
    have hd : decide (0 < s.size) = false := decide_eq_false (by omega)
    have HZ := Lib.hid hz
    clear h0 hz
    go_enter Tryd.func44, Tryd.ntmps44
    go_wp2
    go_loopw [5, 6, 9] (fun a b i wr => a = .string ⟨#[]⟩ ∧ b = .int .i64 (-1) ∧ i = .int .i64 0 ∧ wr = w) (fun _ _ _ _ => 0)
    case atStart => exact ⟨rfl, rfl, rfl, rfl⟩
    case round =>
      obtain ⟨rfl, rfl, rfl, rfl⟩ := hrel
      go_wp2
      go_ret3
      exact keyP_none H.out (Below.refl _ _)
  have hb := bt_eq s 0 h0
  have e0 : ((s[0].toNat : Int) == 34) = false := by
    rw [beq_eq_false_iff_ne]; intro h; exact HN.out ⟨h0, by omega⟩
  have hpos : (0 : Int) < (s.size : Int) := by omega
  clear hb
  go_enter Tryd.func44, Tryd.ntmps44
  go_wp2
  go_loopw [5, 6, 9] (fun a b i wr => Drew w wr ∧ ((a = .string ⟨#[]⟩ ∧ b = .int .i64 (-1) ∧ ∃ k f : Nat, k ≤ s.size ∧ i = .int .i64 (k : Int) ∧ s.size < k + f ∧ feFrom s f k = FE) ∨ (∃ j : Nat, j < s.size ∧ a = .string (s.extract 0 j) ∧ b = .int .i64 (j : Int) ∧ i = .int .i64 ((j : Int) + 1) ∧ FE = some j))) (fun _ _ i _ => s.size + 1 - (intOf i).toNat)
  case atStart => exact ⟨Drew.refl _, .inl ⟨rfl, rfl, 0, s.size + 1, by omega, rfl, by omega, HFE.out.symm⟩⟩
  case round =>
    obtain ⟨hdr, hrel⟩ := hrel
    have HD := Lib.hid hdr; clear hdr
    rcases hrel with ⟨rfl, rfl, k, f, hk, rfl, hf, hfe⟩ | ⟨j, hj, rfl, rfl, rfl, hfe⟩
    · have HF := Lib.hid hf; have HFE2 := Lib.hid hfe
      clear hf hfe
      by_cases hlt : k < s.size
      rotate_left
      · have H := Lib.hid (HK0.out (HFE2.out.symm.trans (fe_out (by omega))))
        go_wp2
        go_ret3
        exact keyP_none H.out HD.out.below
      have HE := Lib.hid (fun w0 => sEnds s k w0 hlt hs)
      cases hq : endsB s k
      · obtain ⟨f', hf', hfe'⟩ := fe_step hlt HF.out hq
        have HF' := Lib.hid (And.intro hf' (hfe'.trans HFE2.out))
        rw [hq] at HE
        clear hq hf' hfe'
        go_wp2_with (go_at_call 51; refine (HE.out _).mono ?_; rintro e w2 ⟨rfl, hd2⟩)
        go_roundw
        case rel => exact ⟨HD.out.trans hd2, .inl ⟨rfl, rfl, k + 1, f', by omega, by go_num, HF'.out.1, HF'.out.2⟩⟩
        case measure => simp [intOf]; omega
      · have H := Lib.hid (HFE2.out.symm.trans (fe_hit hlt HF.out hq))
        rw [hq] at HE
        clear hq
        go_wp2_with (go_at_call 51; refine (HE.out _).mono ?_; rintro e w2 ⟨rfl, hd2⟩)
        go_roundw
        case rel => exact ⟨HD.out.trans hd2, .inr ⟨k, hlt, rfl, rfl, rfl, H.out⟩⟩
        case measure => simp [intOf]; omega
    · have hks : (s.extract 0 j).size ≤ 1048576 := by rw [ByteArray.size_extract]; omega
      have H1 := Lib.hid (HK1.out j hfe)
      have H2 := Lib.hid (HK2.out j hfe)
      have hj0 : decide ((j : Int) < 0) = false := decide_eq_false (by omega)
      have hx1 : (j : Int) + 1 ≤ (s.size : Int) := by omega
      generalize s.extract 0 j = key at hks H1 H2 ⊢
      have hp := fun w0 => sPlainAll key w0 hks
      clear hfe
      cases hpl : plainAll key
      · have H := Lib.hid (H1.out hpl)
        rw [hpl] at hp
        have HP := Lib.hid hp
        clear hp hpl
        go_wp2_with (go_at_call 20; refine (HP.out _).mono ?_; rintro e w2 ⟨rfl, hb2⟩)
        all_goals
          go_ret3
          exact keyP_none H.out (bnext HD.out.below hb2)
      · have H := Lib.hid (H2.out hpl)
        rw [hpl] at hp
        have HP := Lib.hid hp
        clear hp hpl
        go_wp2_with (go_at_call 20; refine (HP.out _).mono ?_; rintro e w2 ⟨rfl, hb2⟩)
        all_goals
          have HRE := Lib.hid (rest_eq s (j + 1))
          have hts : (s.extract (j + 1) s.size).size ≤ 1048576 := by rw [ByteArray.size_extract]; omega
          have htl : (ind (s.extract (j + 1) s.size).data.toList : Int) ≤ ((s.extract (j + 1) s.size).size : Int) := by
            have h1 := ind_le (s.extract (j + 1) s.size).data.toList
            have h2 : (s.extract (j + 1) s.size).data.toList.length = (s.extract (j + 1) s.size).size := by simp
            omega
          generalize s.extract (j + 1) s.size = t at HRE hts htl ⊢
          have HI := Lib.hid (fun w0 => sIndentOf t w0 hts)
          generalize ind t.data.toList = m at HRE htl HI
          go_quiet ((go_at_call 70; exact quiet_eq (HI.out _)))
          go_wp2_with fail
          go_ret3
          exact keyP_some (by rw [H.out, HRE.out]) (by have hq := bnext HD.out.below hb2; exact ⟨hq.os, hq.tape, hq.output, hq.size, hq.block⟩)

theorem sKeyOf (s : ByteArray) (w : World) (hs : s.size ≤ 1048576) : Calls Tryd.prog 44 #[.string s] w (KeyP s w) := by
  by_cases h : 0 < s.size ∧ bt s 0 = 34
  · exact sKeyQuoted s w hs h.1 (by rw [← bt_eq s 0 h.1]; exact h.2)
  · exact sKeyPlain s w hs h

end Go.Proofs.YtoaakbaijklhhaaDoor
