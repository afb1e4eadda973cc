/- spec.ReadQuoted: the contract. -/
import Derived.Test.YtpcojfcbomkgpaaDoorRqE
namespace Go.Proofs.YtpcojfcbomkgpaaDoor
open Go.RowKit

theorem readQ_out {s : ByteArray} {p : Int} (h : betweenB p 0 ((s.size : Int) - 1) = false) : readQ s p = none := by
  rw [readQ, if_neg]
  simp [betweenB] at h; omega
theorem readQ_not {s : ByteArray} {k : Nat} (h : bt s k ≠ 34) : readQ s (k : Int) = none := by
  rw [readQ, if_neg]
  rintro ⟨_, _, h3⟩
  exact h (by simpa using h3)
theorem readQ_in {s : ByteArray} {k : Nat} (hk : k < s.size) (h : bt s k = 34) : readQ s (k : Int) = rq s (s.size + 1) (k + 1) [] := by
  rw [readQ, if_pos ⟨by omega, by omega, by simpa using h⟩]
  simp
theorem ret_sq {a b : ByteArray} {c d : Int} (h : a = b) (k : c = d) : Ending.returned (.tuple #[.string a, .int .i64 c]) = .returned (.tuple #[.string b, .int .i64 d]) := by rw [h, k]
theorem step_bad {s : ByteArray} {k : Nat} (h92 : bt s k ≠ 92) (hb : badD (Utf8.decode s k) = true ∨ (Utf8.decode s k).1 < 32) : stepO s k = none := by
  rw [stepO, if_neg h92, if_pos hb]
theorem step_good {s : ByteArray} {k : Nat} (h92 : bt s k ≠ 92) (hb : badD (Utf8.decode s k) = false) (h : ¬ (Utf8.decode s k).1 < 32) : stepO s k = some ((Utf8.decode s k).1, k + (Utf8.decode s k).2) := by
  rw [stepO, if_neg h92, if_neg (by rw [hb]; simp; omega)]
theorem step_esc {s : ByteArray} {k : Nat} (h92 : bt s k = 92) : stepO s k = escO s (k + 1) := by rw [stepO, if_pos h92]
theorem rtext_size (n : Nat) : (rtext (n : Int)).length ≤ 4 := rtext_len n

set_option maxHeartbeats 2000000 in
set_option maxRecDepth 100000 in
theorem sReadQuoted (s : ByteArray) (p : Int) (w : World) (hs : s.size ≤ 1048576) :
    Calls Tryd.prog 73 #[.string s, .int .i64 p] w fun e w' => e = .returned (.tuple #[.string (qText (readQ s p)), .int .i64 (qEnd (readQ s p))]) ∧ Below w.heap.size w w' := by
  cases hbt : betweenB p 0 ((s.size : Int) - 1)
  · have H := Lib.hid (readQ_out hbt)
    go_enter Tryd.func73, Tryd.ntmps73
    go_wp2_with (go_at_call 71; refine (l01In_any _ _ _ _).mono ?_; rintro e w' ⟨rfl, rfl⟩)
    go_ret2
    exact ⟨by rw [H.out]; rfl, Below.refl _ _⟩
  have hr : 0 ≤ p ∧ p < s.size := by simp [betweenB] at hbt; omega
  obtain ⟨k0, rfl⟩ := Int.eq_ofNat_of_zero_le hr.1
  have hk0 : k0 < s.size := by omega
  clear hr
  have hb0 := bt_eq s k0 hk0
  by_cases c0 : s[k0].toNat = 34
  rotate_left
  · have H := Lib.hid (readQ_not (s := s) (k := k0) (by omega))
    have n0 : ((s[k0].toNat : Int) != 34) = true := by simp; omega
    clear c0 hb0
    go_enter Tryd.func73, Tryd.ntmps73
    go_wp2_with (go_at_call 71; refine (l01In_any _ _ _ _).mono ?_; rintro e w' ⟨rfl, rfl⟩)
    go_ret2
    exact ⟨by rw [H.out]; rfl, Below.refl _ _⟩
  have n0 : ((s[k0].toNat : Int) != 34) = false := by rw [c0]; rfl
  have HR := Lib.hid (readQ_in hk0 (hb0.trans c0))
  clear c0 hb0
  obtain ⟨R, hR⟩ : ∃ R, R = rq s (s.size + 1) (k0 + 1) [] := ⟨_, rfl⟩
  have HRR := Lib.hid hR
  have HQ := Lib.hid (HR.out.trans hR.symm)
  clear hR HR
  go_enter Tryd.func73, Tryd.ntmps73
  go_wp2_with (go_at_call 71; refine (l01In_any _ _ _ _).mono ?_; rintro e w' ⟨rfl, rfl⟩)
  go_loopw [1, 6] (fun a v wr => ∃ (k f : Nat) (acc : List UInt8), k ≤ s.size ∧ a = .int .i64 k ∧ s.size < k + f ∧ rq s f k acc = R ∧ acc.length ≤ 4 * k ∧ Buf w wr v acc) (fun a _ _ => s.size - (intOf a).toNat)
  case atStart => exact ⟨k0 + 1, s.size + 1, [], by omega, by go_num, by omega, HRR.out.symm, by simp, Buf.lit w [] _ 0 rfl rfl (by omega)⟩
  case round =>
    obtain ⟨k, f, acc, hk, rfl, hf, hrq, hac, hbuf⟩ := hrel
    have HB := Lib.hid hbuf; have HF := Lib.hid hf; have HRQ := Lib.hid hrq
    clear hrq hf
    by_cases hlt : k < s.size
    rotate_left
    · have H := Lib.hid (HRQ.out.symm.trans (rq_out (by omega)))
      clear hbuf
      go_wp2
      go_ret2
      exact ⟨by rw [HQ.out, H.out]; rfl, HB.out.bel⟩
    have hb := bt_eq s k hlt
    by_cases c1 : s[k].toNat = 34
    · have H := Lib.hid (HRQ.out.symm.trans (rq_quote hlt HF.out (hb.trans c1)))
      have ht := hbuf.text
      clear hbuf hb
      go_wp2
      go_ret2
      exact ⟨by rw [HQ.out, H.out]; exact ret_sq rfl (by show _ = ((k + 1 : Nat) : Int); omega), HB.out.bel⟩
    have e1 : ((s[k].toNat : Int) == 34) = false := by simp; omega
    have HNQ := Lib.hid (show bt s k ≠ 34 by omega)
    by_cases c2 : s[k].toNat = 92
    · have e2 : ((s[k].toNat : Int) == 92) = true := by rw [c2]; rfl
      have HS := Lib.hid (step_esc (hb.trans c2))
      have HE := Lib.hid (fun w0 => sEscape s (k + 1) ((k : Int) + 1) w0 hs (by omega) (by omega))
      clear c1 c2 hb hbuf
      cases ho : escO s (k + 1) with
      | none =>
        have H := Lib.hid (HRQ.out.symm.trans (rq_bad hlt HNQ.out (HS.out.trans ho)))
        rw [ho] at HE
        clear ho
        simp only [stN, stE] at HE
        go_wp2_with (go_at_call 133; refine (HE.out _).mono ?_; rintro e w' ⟨rfl, rfl⟩)
        go_ret2
        exact ⟨by rw [HQ.out, H.out]; rfl, HB.out.bel⟩
      | some x =>
        obtain ⟨n, k'⟩ := x
        obtain ⟨h1, h2, h3⟩ := escO_some ho
        obtain ⟨f', hf', hrq'⟩ := rq_step (acc := acc) hlt HF.out HNQ.out (HS.out.trans ho)
        have HF' := Lib.hid hf'; have HR' := Lib.hid (hrq'.trans HRQ.out)
        have HN := Lib.hid (rtext_size n)
        rw [ho] at HE
        clear ho hf' hrq'
        simp only [stN, stE] at HE
        go_wp2_with (first | (go_at_call 133; refine (HE.out _).mono ?_; rintro e w' ⟨rfl, rfl⟩) | (go_at_call 135; refine (sRuneText _ _).mono ?_; rintro e w4 ⟨rfl, hb4⟩) | (at_builtin; refine wpList_bufS (by rfl) _ _ (by rfl) _ _ w _ (by rfl) (HB.out.keep hb4) _ (by rfl) (by have := HN.out; show _ + (rtext (n : Int)).length ≤ _; omega) ?_; intro v2 w2 hb2))
        go_roundw
        case rel => exact ⟨k', f', acc ++ rtext (n : Int), h2, rfl, HF'.out, HR'.out, by have := HN.out; rw [List.length_append]; omega, hb2⟩
        case measure => simp [intOf]; omega
    · have e2 : ((s[k].toNat : Int) == 92) = false := by simp; omega
      have HN2 := Lib.hid (show bt s k ≠ 92 by omega)
      clear c1 c2 hb hbuf
      cases hbad : badD (Utf8.decode s k)
      · have hg := rAt_good s k (Utf8.decode s k).1 (Utf8.decode s k).2 hlt rfl hbad
        have hw1 := Lib.decode_width_pos s k hlt
        have hw2 := width_le s k hlt
        have hle := decode_le s k
        have HSB := Lib.hid (fun h => step_bad HN2.out (.inr h))
        have HSG := Lib.hid (step_good HN2.out hbad)
        clear hbad
        generalize Utf8.decode s k = d at hg hw1 hw2 hle HSB HSG
        obtain ⟨n, m⟩ := d
        obtain ⟨g1, g2⟩ := hg
        simp only at hw1 hw2 hle g1 g2
        have HG := Lib.hid (And.intro g1 g2)
        clear g1 g2
        by_cases h32 : n < 32
        · have H := Lib.hid (HRQ.out.symm.trans (rq_bad hlt HNQ.out (HSB.out h32)))
          have hd : (n : Int) < 32 := by omega
          clear h32
          go_wp2_with (go_at_call 134; refine (sRuneAt _ _ _ hs (by omega)).mono ?_; rw [HG.out.1, HG.out.2]; rintro e w4 ⟨rfl, hb4⟩)
          go_ret2
          exact ⟨by rw [HQ.out, H.out]; rfl, bnext HB.out.bel hb4⟩
        · obtain ⟨f', hf', hrq'⟩ := rq_step (acc := acc) hlt HF.out HNQ.out (HSG.out h32)
          have HF' := Lib.hid hf'; have HR' := Lib.hid (hrq'.trans HRQ.out)
          have HN := Lib.hid (rtext_size n)
          have hd : decide ((n : Int) < 32) = false := decide_eq_false (by omega)
          clear h32 hf' hrq'
          go_wp2_with (first | (go_at_call 134; refine (sRuneAt _ _ _ hs (by omega)).mono ?_; rw [HG.out.1, HG.out.2]; rintro e w4 ⟨rfl, hb4⟩) | (go_at_call 135; refine (sRuneText _ _).mono ?_; rintro e w5 ⟨rfl, hb5⟩) | (at_builtin; refine wpList_bufS (by rfl) _ _ (by rfl) _ _ w _ (by rfl) ((HB.out.keep hb4).keep hb5) _ (by rfl) (by have := HN.out; show _ + (rtext (n : Int)).length ≤ _; omega) ?_; intro v2 w2 hb2))
          go_roundw
          case rel => exact ⟨k + m, f', acc ++ rtext (n : Int), hw2, by go_num, HF'.out, HR'.out, by have := HN.out; rw [List.length_append]; omega, hb2⟩
          case measure => simp [intOf]; omega
      · obtain ⟨g1, g2⟩ := rAt_bad s k hbad
        have H := Lib.hid (HRQ.out.symm.trans (rq_bad hlt HNQ.out (step_bad HN2.out (.inl hbad))))
        have HG := Lib.hid (And.intro g1 g2)
        clear g1 g2 hbad
        go_wp2_with (go_at_call 134; refine (sRuneAt _ _ _ hs (by omega)).mono ?_; rw [HG.out.1, HG.out.2]; rintro e w4 ⟨rfl, hb4⟩)
        go_ret2
        exact ⟨by rw [HQ.out, H.out]; rfl, bnext HB.out.bel hb4⟩

end Go.Proofs.YtpcojfcbomkgpaaDoor
