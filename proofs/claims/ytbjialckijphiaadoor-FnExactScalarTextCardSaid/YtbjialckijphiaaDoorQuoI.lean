/- impl.Quoted: the contract. -/
import Derived.Test.YtbjialckijphiaaDoorQuoS
import Derived.Test.YtbjialckijphiaaDoorRuneI
import Derived.Deep.RegionLaw
namespace Go.Proofs.YtbjialckijphiaaDoor
open Go.RowKit

def escBytes : ByteArray := ⟨#[8, 12, 10, 13, 9]⟩
def hexDig : ByteArray := ⟨#[48, 49, 50, 51, 52, 53, 54, 55, 56, 57, 97, 98, 99, 100, 101, 102]⟩
theorem hexDig_at (m : Nat) (h : m < hexDig.size) : hexDig[m] = figB m := by
  have h16 : m < 16 := h
  rcases (show m = 0 ∨ m = 1 ∨ m = 2 ∨ m = 3 ∨ m = 4 ∨ m = 5 ∨ m = 6 ∨ m = 7 ∨ m = 8 ∨ m = 9 ∨ m = 10 ∨ m = 11 ∨ m = 12 ∨ m = 13 ∨ m = 14 ∨ m = 15 by omega) with rfl | rfl | rfl | rfl | rfl | rfl | rfl | rfl | rfl | rfl | rfl | rfl | rfl | rfl | rfl | rfl <;> rfl

theorem esc_none (c : UInt8) (g3 : ¬ c = 8) (g4 : ¬ c = 12) (g5 : ¬ c = 10) (g6 : ¬ c = 13) (g7 : ¬ c = 9) : Lib.indexByte escBytes.data.toList c = -1 := by
  have ne : ∀ d : UInt8, ¬ c = d → ¬ d = c := fun d h e => h e.symm
  show Lib.indexByte [8, 12, 10, 13, 9] c = -1
  simp [Lib.indexByte, ne _ g3, ne _ g4, ne _ g5, ne _ g6, ne _ g7]
theorem escB_ctl (c : UInt8) (h : c.toNat < 32) (g3 : ¬ c = 8) (g4 : ¬ c = 12) (g5 : ¬ c = 10) (g6 : ¬ c = 13) (g7 : ¬ c = 9) : escB c = [92, 117, 48, 48, figB (c.toNat / 16), figB (c.toNat % 16)] := by
  have ne : ∀ d : UInt8, 32 ≤ d.toNat → ¬ c = d := fun d hd e => by rw [e] at h; omega
  unfold escB
  rw [if_neg (ne 34 (by decide)), if_neg (ne 92 (by decide)), if_neg g3, if_neg g4, if_neg g5, if_neg g6, if_neg g7, if_pos h]
theorem escB_plain (c : UInt8) (g1 : ¬ c = 34) (g2 : ¬ c = 92) (h : ¬ c.toNat < 32) (g3 : ¬ c = 8) (g4 : ¬ c = 12) (g5 : ¬ c = 10) (g6 : ¬ c = 13) (g7 : ¬ c = 9) : escB c = [c] := by
  unfold escB
  rw [if_neg g1, if_neg g2, if_neg g3, if_neg g4, if_neg g5, if_neg g6, if_neg g7, if_neg h]
theorem hex_six (c : UInt8) (h : c.toNat < 32) : #[Value.int .u8 92, Value.int .u8 117, Value.int .u8 48, Value.int .u8 48, Value.int .u8 (hexDig[(((c.toNat : Nat) : Int) / 16).toNat]'(by show _ < 16; omega)).toNat, Value.int .u8 (hexDig[(((c.toNat : Nat) : Int) % 16).toNat]'(by show _ < 16; omega)).toNat] =
    ([92, 117, 48, 48, figB (c.toNat / 16), figB (c.toNat % 16)].map byteV).toArray := by
  have e1 : (((c.toNat : Nat) : Int) / 16).toNat = c.toNat / 16 := by omega
  have e2 : (((c.toNat : Nat) : Int) % 16).toNat = c.toNat % 16 := by omega
  rw [hexDig_at, hexDig_at, e1, e2]
  rfl

set_option maxHeartbeats 2000000 in
set_option maxRecDepth 100000 in
theorem iQuoted (s : ByteArray) (w : World) (hs : s.size ≤ 1048576) (hT : Tabs w) :
    Calls Tryd.prog 39 #[.string s] w fun e w' => e = .returned (.string (quotedB s)) ∧ Below w.heap.size w w' := by
  have hU := iUtf8Ok s w hs hT
  cases hO : (runesO s).isSome
  · have HQ := Lib.hid (show quotedB s = ⟨#[]⟩ by rw [quotedB, hO]; rfl)
    rw [hO] at hU
    go_enter Tryd.func39, Tryd.ntmps39
    go_wp2_with (go_at_call 44; refine hU.mono ?_; rintro e w1 ⟨rfl, hb1⟩)
    go_ret
    exact ⟨ret_str HQ.out.symm, hb1⟩
  · have HQ := Lib.hid (show quotedB s = ⟨(escTo s s.size ++ [34]).toArray⟩ by rw [quotedB, hO]; rfl)
    rw [hO] at hU
    go_enter Tryd.func39, Tryd.ntmps39
    go_wp2_with (go_at_call 44; refine hU.mono ?_; rintro e w1 ⟨rfl, hb1⟩)
    have HB1 := Lib.hid hb1
    have hz1 := hb1.size
    clear hb1 hU hT
    go_loopw [3, 13] (fun v i wr => ∃ (k : Nat), k ≤ s.size ∧ i = .int .i64 k ∧ Buf w1 wr v (escTo s k)) (fun _ i _ => s.size - (intOf i).toNat)
    case atStart => exact ⟨0, by omega, rfl, by rw [escTo_zero]; exact Buf.lit w1 [34] _ 1 rfl rfl (by omega)⟩
    case round =>
      obtain ⟨k, hk, rfl, hbuf⟩ := hrel
      have HB := Lib.hid hbuf
      have hl6 := escTo_len s k
      by_cases hlt : k < s.size
      · have HE := Lib.hid (escTo_succ s k hlt)
        have hcx : ∀ w0 : World, Calls Tryd.prog 49 #[.string escBytes, .int .u8 (s[k].toNat : Int)] w0 fun e w' => e = .returned (.int .i64 (Lib.indexByte escBytes.data.toList s[k])) ∧ w0 = w' := fun w0 => by
          have := Tryd.strings_IndexByte escBytes (s[k].toNat : Int) w0
          refine this.mono fun e w' ⟨h1, h2⟩ => ⟨by simpa using h1, h2.symm⟩
        have HC := Lib.hid hcx
        clear hbuf hcx
        by_cases g1 : s[k] = 34
        · have e1 : ((s[k].toNat : Int) == 34) = true := by rw [g1]; rfl
          have HX := Lib.hid (show escB s[k] = [92, s[k]] by rw [g1]; rfl)
          clear g1
          go_wp2_with (first | (go_at_call 49; refine (HC.out _).mono ?_; rintro e w2 ⟨rfl, rfl⟩) | (at_builtin; refine wpList_buf (by rfl) _ _ (by rfl) _ _ [92, s[k]] w1 _ (by rfl) HB.out _ 2 2 rfl rfl (by rfl) (by simp; omega) ?_; intro v2 w3 hb2))
          go_roundw
          case rel => exact ⟨k + 1, by omega, by go_num, by rw [HE.out, HX.out]; exact hb2⟩
          case measure => simp [intOf]; omega
        have e1 : ((s[k].toNat : Int) == 34) = false := by simp; intro h; exact g1 (UInt8.toNat_inj.1 (by show s[k].toNat = 34; omega))
        by_cases g2 : s[k] = 92
        · have e2 : ((s[k].toNat : Int) == 92) = true := by rw [g2]; rfl
          have HX := Lib.hid (show escB s[k] = [92, s[k]] by rw [g2]; rfl)
          clear g1 g2
          go_wp2_with (first | (go_at_call 49; refine (HC.out _).mono ?_; rintro e w2 ⟨rfl, rfl⟩) | (at_builtin; refine wpList_buf (by rfl) _ _ (by rfl) _ _ [92, s[k]] w1 _ (by rfl) HB.out _ 2 2 rfl rfl (by rfl) (by simp; omega) ?_; intro v2 w3 hb2))
          go_roundw
          case rel => exact ⟨k + 1, by omega, by go_num, by rw [HE.out, HX.out]; exact hb2⟩
          case measure => simp [intOf]; omega
        have e2 : ((s[k].toNat : Int) == 92) = false := by simp; intro h; exact g2 (UInt8.toNat_inj.1 (by show s[k].toNat = 92; omega))
        by_cases g3 : s[k] = 8
        · have hI : Lib.indexByte escBytes.data.toList s[k] = 0 := by rw [g3]; rfl
          have HX := Lib.hid (show escB s[k] = [92, 98] by rw [g3]; rfl)
          have HC' := HC.out
          rw [hI] at HC'
          have HC := Lib.hid HC'
          clear hI HC' g1 g2 g3
          go_wp2_with (first | (go_at_call 49; refine (HC.out _).mono ?_; rintro e w2 ⟨rfl, rfl⟩) | (at_builtin; refine wpList_buf (by rfl) _ _ (by rfl) _ _ [92, 98] w1 _ (by rfl) HB.out _ 2 2 rfl rfl (by rfl) (by simp; omega) ?_; intro v2 w3 hb2))
          go_roundw
          case rel => exact ⟨k + 1, by omega, by go_num, by rw [HE.out, HX.out]; exact hb2⟩
          case measure => simp [intOf]; omega
        by_cases g4 : s[k] = 12
        · have hI : Lib.indexByte escBytes.data.toList s[k] = 1 := by rw [g4]; rfl
          have HX := Lib.hid (show escB s[k] = [92, 102] by rw [g4]; rfl)
          have HC' := HC.out
          rw [hI] at HC'
          have HC := Lib.hid HC'
          clear hI HC' g1 g2 g4
          go_wp2_with (first | (go_at_call 49; refine (HC.out _).mono ?_; rintro e w2 ⟨rfl, rfl⟩) | (at_builtin; refine wpList_buf (by rfl) _ _ (by rfl) _ _ [92, 102] w1 _ (by rfl) HB.out _ 2 2 rfl rfl (by rfl) (by simp; omega) ?_; intro v2 w3 hb2))
          go_roundw
          case rel => exact ⟨k + 1, by omega, by go_num, by rw [HE.out, HX.out]; exact hb2⟩
          case measure => simp [intOf]; omega
        by_cases g5 : s[k] = 10
        · have hI : Lib.indexByte escBytes.data.toList s[k] = 2 := by rw [g5]; rfl
          have HX := Lib.hid (show escB s[k] = [92, 110] by rw [g5]; rfl)
          have HC' := HC.out
          rw [hI] at HC'
          have HC := Lib.hid HC'
          clear hI HC' g1 g2 g5
          go_wp2_with (first | (go_at_call 49; refine (HC.out _).mono ?_; rintro e w2 ⟨rfl, rfl⟩) | (at_builtin; refine wpList_buf (by rfl) _ _ (by rfl) _ _ [92, 110] w1 _ (by rfl) HB.out _ 2 2 rfl rfl (by rfl) (by simp; omega) ?_; intro v2 w3 hb2))
          go_roundw
          case rel => exact ⟨k + 1, by omega, by go_num, by rw [HE.out, HX.out]; exact hb2⟩
          case measure => simp [intOf]; omega
        by_cases g6 : s[k] = 13
        · have hI : Lib.indexByte escBytes.data.toList s[k] = 3 := by rw [g6]; rfl
          have HX := Lib.hid (show escB s[k] = [92, 114] by rw [g6]; rfl)
          have HC' := HC.out
          rw [hI] at HC'
          have HC := Lib.hid HC'
          clear hI HC' g1 g2 g6
          go_wp2_with (first | (go_at_call 49; refine (HC.out _).mono ?_; rintro e w2 ⟨rfl, rfl⟩) | (at_builtin; refine wpList_buf (by rfl) _ _ (by rfl) _ _ [92, 114] w1 _ (by rfl) HB.out _ 2 2 rfl rfl (by rfl) (by simp; omega) ?_; intro v2 w3 hb2))
          go_roundw
          case rel => exact ⟨k + 1, by omega, by go_num, by rw [HE.out, HX.out]; exact hb2⟩
          case measure => simp [intOf]; omega
        by_cases g7 : s[k] = 9
        · have hI : Lib.indexByte escBytes.data.toList s[k] = 4 := by rw [g7]; rfl
          have HX := Lib.hid (show escB s[k] = [92, 116] by rw [g7]; rfl)
          have HC' := HC.out
          rw [hI] at HC'
          have HC := Lib.hid HC'
          clear hI HC' g1 g2 g7
          go_wp2_with (first | (go_at_call 49; refine (HC.out _).mono ?_; rintro e w2 ⟨rfl, rfl⟩) | (at_builtin; refine wpList_buf (by rfl) _ _ (by rfl) _ _ [92, 116] w1 _ (by rfl) HB.out _ 2 2 rfl rfl (by rfl) (by simp; omega) ?_; intro v2 w3 hb2))
          go_roundw
          case rel => exact ⟨k + 1, by omega, by go_num, by rw [HE.out, HX.out]; exact hb2⟩
          case measure => simp [intOf]; omega
        have hI : Lib.indexByte escBytes.data.toList s[k] = -1 := esc_none _ g3 g4 g5 g6 g7
        have HC' := HC.out
        rw [hI] at HC'
        have HC := Lib.hid HC'
        clear hI HC'
        by_cases g8 : s[k].toNat < 32
        · have HX := Lib.hid (escB_ctl _ g8 g3 g4 g5 g6 g7)
          have g8' : (s[k].toNat : Int) < 32 := by omega
          have HG8 := Lib.hid g8
          clear g1 g2 g3 g4 g5 g6 g7 g8
          go_wp2_with (go_at_call 49; refine (HC.out _).mono ?_; rintro e w2 ⟨rfl, rfl⟩)
          have hq : IntKind.u8.wrap ((s[k].toNat : Int) / 16) = (s[k].toNat : Int) / 16 := by unfold IntKind.wrap; simp [IntKind.bits]; omega
          have hr : ((s[k].toNat : Nat) : Int).tmod 16 = (s[k].toNat : Int) % 16 := Int.tmod_eq_emod_of_nonneg (by omega)
          have hq0 : (0 : Int) ≤ (s[k].toNat : Int) / 16 := by omega
          have hr0 : (0 : Int) ≤ (s[k].toNat : Int) % 16 := by omega
          have hq1 : (s[k].toNat : Int) / 16 < 16 := by omega
          have hr1 : (s[k].toNat : Int) % 16 < 16 := by omega
          go_region_law ((refine step_bufAt (by rfl) _ _ (by rfl) _ _ [92, 117, 48, 48, figB (s[k].toNat / 16), figB (s[k].toNat % 16)] w1 (by rfl) ((HB.out.alloc _).keep ((Below.refl _ _).drew)) _ _ (heap_alloc_new _ _) 6 6 (hex_six _ HG8.out) rfl (by rfl) (by simp; omega) ?_; intro v2 w3 hb2))
          all_goals
            go_wp2_with fail
            go_roundw
            case rel => exact ⟨k + 1, by omega, by go_num, by rw [HE.out, HX.out]; exact hb2⟩
            case measure => simp [intOf]; omega
        · have HX := Lib.hid (escB_plain _ g1 g2 g8 g3 g4 g5 g6 g7)
          have g8' : decide ((s[k].toNat : Int) < 32) = false := decide_eq_false (by omega)
          clear g1 g2 g3 g4 g5 g6 g7 g8
          go_wp2_with (first | (go_at_call 49; refine (HC.out _).mono ?_; rintro e w2 ⟨rfl, rfl⟩) | (at_builtin; refine wpList_buf (by rfl) _ _ (by rfl) _ _ [s[k]] w1 _ (by rfl) HB.out _ 1 1 rfl rfl (by rfl) (by simp; omega) ?_; intro v2 w3 hb2))
          go_roundw
          case rel => exact ⟨k + 1, by omega, by go_num, by rw [HE.out, HX.out]; exact hb2⟩
          case measure => simp [intOf]; omega
      · obtain rfl : k = s.size := by omega
        clear hbuf
        go_wp2_with (at_builtin; refine wpList_buf (by rfl) _ _ (by rfl) _ _ [34] w1 _ (by rfl) HB.out _ 1 1 rfl rfl (by rfl) (by simp; omega) ?_; intro v2 w2 hb2; have ht := hb2.text)
        go_ret
        exact ⟨ret_str (by rw [HQ.out]), bnext HB1.out hb2.bel⟩

end Go.Proofs.YtbjialckijphiaaDoor
