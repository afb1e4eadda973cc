/- spec.Quoted: the contract. -/
import Derived.Test.YtbjialckijphiaaDoorQuo
import Derived.Test.YtbjialckijphiaaDoorBuf
import Derived.Test.YtbjialckijphiaaDoorRunesL
namespace Go.Proofs.YtbjialckijphiaaDoor
open Go.RowKit

def figZ (x : Int) : Int := if x < 10 then 48 + x else 87 + x
theorem sFigure (x : Int) (w : World) (h0 : 0 ≤ x) (h1 : x < 16) : Calls Tryd.prog 40 #[.int .i64 x] w fun e w' => e = .returned (.int .u8 (figZ x)) ∧ w = w' := by
  have H : Hid (figZ x = if x < 10 then 48 + x else 87 + x) := rfl
  by_cases h : x < 10
  · go_enter Tryd.func40, Tryd.ntmps40
    go_wp2
    go_ret
    exact ⟨ret_int (by rw [H.out, if_pos h]), rfl⟩
  · go_enter Tryd.func40, Tryd.ntmps40
    go_wp2
    go_ret
    exact ⟨ret_int (by rw [H.out, if_neg (by omega)]; omega), rfl⟩
theorem fig_byte (m : Nat) (h : m < 16) : Value.int .u8 (figZ (m : Int)) = byteV (figB m) := by
  unfold byteV figB figZ
  congr 1
  by_cases g : m < 10
  · rw [if_pos (by omega), if_pos g]; simp; omega
  · rw [if_neg (by omega), if_neg g]; simp; omega
theorem fig_two (n : Nat) (h : n < 32) : #[Value.int .u8 (figZ ((n : Int) / 16)), Value.int .u8 (figZ ((n : Int) % 16))] = ([figB (n / 16), figB (n % 16)].map byteV).toArray := by
  have e1 : (n : Int) / 16 = ((n / 16 : Nat) : Int) := by omega
  have e2 : (n : Int) % 16 = ((n % 16 : Nat) : Int) := by omega
  rw [e1, e2, fig_byte _ (by omega), fig_byte _ (by omega)]
  rfl
theorem rtext_len (n : Nat) : (rtext (n : Int)).length ≤ 4 := by
  rw [rtext_nat, List.length_map, bytes_len]
  split
  · split
    · omega
    split
    · omega
    split <;> omega
  · omega
theorem escTo_zero (s : ByteArray) : escTo s 0 = [34] := rfl

set_option maxHeartbeats 2000000 in
set_option maxRecDepth 100000 in
theorem sQuoted (s : ByteArray) (w : World) (hs : s.size ≤ 1048576) :
    Calls Tryd.prog 36 #[.string s] w fun e w' => e = .returned (.string (quotedB s)) ∧ Below w.heap.size w w' := by
  cases hO : runesO s with
  | none =>
    have HQ := Lib.hid (show quotedB s = ⟨#[]⟩ by rw [quotedB, hO]; rfl)
    go_enter Tryd.func36, Tryd.ntmps36
    go_wp2_with fail
    refine (sRunesOf _ _ hs).mono ?_; rintro e w1 ⟨⟨v, l, rfl, ho, hl⟩, hb1⟩
    rw [hO]
    clear ho hl hO
    go_wp2
    go_ret
    exact ⟨ret_str HQ.out.symm, hb1⟩
  | some L =>
    have HQ := Lib.hid (show quotedB s = ⟨(escTo s s.size ++ [34]).toArray⟩ by rw [quotedB, hO]; rfl)
    have hlen := runes_len s
    rw [hO] at hlen
    change L.length ≤ s.size at hlen
    go_enter Tryd.func36, Tryd.ntmps36
    go_wp2_with fail
    refine (sRunesOf _ _ hs).mono ?_; rintro e w1 ⟨hp, hb1⟩
    obtain ⟨a1, n1, fp1, rfl, hg1⟩ := runesF_of hp
    clear hp
    rw [hO] at hg1 ⊢
    have hsl := hg1.own.sl
    change SlAt w1 a1 L.length 1 (runF L) at hsl
    have hz1 := hb1.size
    have HB1 := Lib.hid hb1; have HSL := Lib.hid hsl
    clear hb1 hg1 hsl
    go_wp2_with fail
    go_loopw [5, 6] (fun v i wr => ∃ (j k f : Nat), j ≤ L.length ∧ k ≤ s.size ∧ i = .int .i64 j ∧ rgo s f k (L.take j) = some L ∧ Buf w1 wr v (escTo s k)) (fun _ i _ => L.length - (intOf i).toNat)
    case atStart => exact ⟨0, 0, s.size + 1, by omega, by omega, rfl, hO, by rw [escTo_zero]; exact Buf.lit w1 [34] _ 1 rfl rfl (by omega)⟩
    case round =>
      obtain ⟨j, k, f, hj, hk, rfl, hg, hbuf⟩ := hrel
      have HB := Lib.hid hbuf; have HG := Lib.hid hg
      have hl6 := escTo_len s k
      by_cases hlt : j < L.length
      · have hjl : (L.take j).length = j := by simp; omega
        obtain ⟨hk1, hbad, hd1, f', hg'⟩ := rgo_next s f k (L.take j) L hg (by omega)
        rw [hjl] at hd1
        have hesc := escTo_rune s k hk1 hbad
        have hw2 := width_le s k hk1
        have hle := decode_le s k
        have htk : L.take j ++ [L.getD j 0] = L.take (j + 1) := by
          rw [List.take_succ_eq_append_getElem hlt, List.getD_eq_getElem?_getD, List.getElem?_eq_getElem hlt]; rfl
        rw [hd1] at hg' hesc hle
        rw [htk] at hg'
        obtain ⟨b, off, rfl, hcell⟩ := (HSL.out.keep hbuf.bel).at (by omega)
        have c0 : wr.cell? ⟨b, off + j, none⟩ = some (.int .i64 ((L.getD j 0 : Nat) : Int)) := by
          have := hcell j hlt 0 (by omega); simpa [runF] using this
        generalize L.getD j 0 = n at c0 hg' hesc hle
        generalize (Utf8.decode s k).2 = m at hg' hesc hw2
        have HE := Lib.hid hesc; have HG' := Lib.hid hg'
        clear hcell hbuf hg hg' hesc hd1 htk hbad hjl HG
        by_cases g1 : n = 34
        · subst g1
          have hR : escR 34 = [92, 34] := by decide
          rw [hR] at HE
          clear hR
          go_wp2_with (at_builtin; refine wpList_buf rfl _ _ rfl _ _ [92, 34] w1 _ rfl HB.out _ 2 2 rfl rfl rfl (by simp; omega) ?_; intro v2 w2 hb2)
          go_roundw
          case rel => exact ⟨j + 1, k + m, f', by omega, hw2, by go_num, HG'.out, by rw [HE.out]; exact hb2⟩
          case measure => simp [intOf]; omega
        by_cases g2 : n = 92
        · subst g2
          have hR : escR 92 = [92, 92] := by decide
          rw [hR] at HE
          clear hR
          go_wp2_with (at_builtin; refine wpList_buf rfl _ _ rfl _ _ [92, 92] w1 _ rfl HB.out _ 2 2 rfl rfl rfl (by simp; omega) ?_; intro v2 w2 hb2)
          go_roundw
          case rel => exact ⟨j + 1, k + m, f', by omega, hw2, by go_num, HG'.out, by rw [HE.out]; exact hb2⟩
          case measure => simp [intOf]; omega
        by_cases g3 : n = 8
        · subst g3
          have hR : escR 8 = [92, 98] := by decide
          rw [hR] at HE
          clear hR
          go_wp2_with (at_builtin; refine wpList_bufS (by rfl) _ _ (by rfl) _ _ w1 _ (by rfl) HB.out _ (by rfl) (by first | (show _ + 2 ≤ _; omega) | (show _ + 4 ≤ _; omega)) ?_; intro v2 w2 hb2)
          go_roundw
          case rel => exact ⟨j + 1, k + m, f', by omega, hw2, by go_num, HG'.out, by rw [HE.out]; exact hb2⟩
          case measure => simp [intOf]; omega
        by_cases g4 : n = 12
        · subst g4
          have hR : escR 12 = [92, 102] := by decide
          rw [hR] at HE
          clear hR
          go_wp2_with (at_builtin; refine wpList_bufS (by rfl) _ _ (by rfl) _ _ w1 _ (by rfl) HB.out _ (by rfl) (by first | (show _ + 2 ≤ _; omega) | (show _ + 4 ≤ _; omega)) ?_; intro v2 w2 hb2)
          go_roundw
          case rel => exact ⟨j + 1, k + m, f', by omega, hw2, by go_num, HG'.out, by rw [HE.out]; exact hb2⟩
          case measure => simp [intOf]; omega
        by_cases g5 : n = 10
        · subst g5
          have hR : escR 10 = [92, 110] := by decide
          rw [hR] at HE
          clear hR
          go_wp2_with (at_builtin; refine wpList_bufS (by rfl) _ _ (by rfl) _ _ w1 _ (by rfl) HB.out _ (by rfl) (by first | (show _ + 2 ≤ _; omega) | (show _ + 4 ≤ _; omega)) ?_; intro v2 w2 hb2)
          go_roundw
          case rel => exact ⟨j + 1, k + m, f', by omega, hw2, by go_num, HG'.out, by rw [HE.out]; exact hb2⟩
          case measure => simp [intOf]; omega
        by_cases g6 : n = 13
        · subst g6
          have hR : escR 13 = [92, 114] := by decide
          rw [hR] at HE
          clear hR
          go_wp2_with (at_builtin; refine wpList_bufS (by rfl) _ _ (by rfl) _ _ w1 _ (by rfl) HB.out _ (by rfl) (by first | (show _ + 2 ≤ _; omega) | (show _ + 4 ≤ _; omega)) ?_; intro v2 w2 hb2)
          go_roundw
          case rel => exact ⟨j + 1, k + m, f', by omega, hw2, by go_num, HG'.out, by rw [HE.out]; exact hb2⟩
          case measure => simp [intOf]; omega
        by_cases g7 : n = 9
        · subst g7
          have hR : escR 9 = [92, 116] := by decide
          rw [hR] at HE
          clear hR
          go_wp2_with (at_builtin; refine wpList_bufS (by rfl) _ _ (by rfl) _ _ w1 _ (by rfl) HB.out _ (by rfl) (by first | (show _ + 2 ≤ _; omega) | (show _ + 4 ≤ _; omega)) ?_; intro v2 w2 hb2)
          go_roundw
          case rel => exact ⟨j + 1, k + m, f', by omega, hw2, by go_num, HG'.out, by rw [HE.out]; exact hb2⟩
          case measure => simp [intOf]; omega
        have q0 : ((n : Int) == 34) = false := by simp; omega
        have q1 : ((n : Int) == 92) = false := by simp; omega
        have q2 : ((n : Int) == 8) = false := by simp; omega
        have q3 : ((n : Int) == 12) = false := by simp; omega
        have q4 : ((n : Int) == 10) = false := by simp; omega
        have q5 : ((n : Int) == 13) = false := by simp; omega
        have q6 : ((n : Int) == 9) = false := by simp; omega
        by_cases g8 : n < 32
        · rw [escR_ctl g8 g3 g4 g5 g6 g7] at HE
          have HF := Lib.hid (fig_two n g8)
          have g8' : (n : Int) < 32 := by omega
          clear g1 g2 g3 g4 g5 g6 g7 g8
          go_wp2_with (first | (go_at_call 40; refine (sFigure _ _ (by omega) (by omega)).mono ?_; rintro e w' ⟨rfl, rfl⟩) | (at_builtin; refine wpList_buf rfl _ _ rfl _ _ [figB (n / 16), figB (n % 16)] w1 _ rfl hb2 _ 2 2 HF.out rfl rfl (by simp; omega) ?_; intro v3 w3 hb3) | (at_builtin; refine wpList_bufS (by rfl) _ _ (by rfl) _ _ w1 _ (by rfl) HB.out _ (by rfl) (by first | (show _ + 2 ≤ _; omega) | (show _ + 4 ≤ _; omega)) ?_; intro v2 w2 hb2))
          go_roundw
          case rel => exact ⟨j + 1, k + m, f', by omega, hw2, by go_num, HG'.out, by rw [HE.out]; have := hb3; rw [List.append_assoc] at this; exact this⟩
          case measure => simp [intOf]; omega
        · rw [escR_plain (by omega) g1 g2, ← rtext_nat] at HE
          have HN := Lib.hid (rtext_len n)
          clear g1 g2 g3 g4 g5 g6 g7
          have g8' : decide ((n : Int) < 32) = false := decide_eq_false (by omega)
          clear g8
          go_wp2_with (first | (go_at_call 46; refine (sRuneText _ _).mono ?_; rintro e w4 ⟨rfl, hb4⟩) | (at_builtin; refine wpList_bufS (by rfl) _ _ (by rfl) _ _ w1 _ (by rfl) (HB.out.keep hb4) _ (by rfl) (by have := HN.out; show _ + (rtext (n : Int)).length ≤ _; omega) ?_; intro v2 w2 hb2))
          go_roundw
          case rel => exact ⟨j + 1, k + m, f', by omega, hw2, by go_num, HG'.out, by rw [HE.out]; exact hb2⟩
          case measure => simp [intOf]; omega
      · have hjl : (L.take j).length = L.length := by simp; omega
        obtain ⟨hks, -⟩ := rgo_last s f k (L.take j) L hg hjl
        obtain rfl : k = s.size := by omega
        clear hbuf hg hjl HG hks
        go_wp2_with (at_builtin; refine wpList_buf rfl _ _ rfl _ _ [34] w1 _ rfl HB.out _ 1 1 rfl rfl rfl (by simp; omega) ?_; intro v2 w2 hb2; have ht := hb2.text)
        go_ret
        exact ⟨ret_str (by rw [HQ.out]), bnext HB1.out hb2.bel⟩

end Go.Proofs.YtbjialckijphiaaDoor
