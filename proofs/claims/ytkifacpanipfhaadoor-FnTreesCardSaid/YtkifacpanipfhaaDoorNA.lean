/- Quo, QuoS, Num, WhoP, WhoS, SayP, merged. -/
import Derived.Test.YtkifacpanipfhaaDoorRuneB
import Derived.Test.YtkifacpanipfhaaDoorNG
import Derived.Lib.ItoaNum
import Derived.Lib.AtoiAll
import Derived.Lib.ItoaLen
import Derived.Test.YtkifacpanipfhaaDoorTreeG
import Derived.Test.YtkifacpanipfhaaDoorTreeL
namespace Go.Proofs.YtkifacpanipfhaaDoor

/-- The bytes of a code point that was read are those that lie there. -/
theorem dec_bytes (s : ByteArray) (k : Nat) (hk : k < s.size) (hb : badD (Utf8.decode s k) = false) : btake s k (Utf8.decode s k).2 = runeBytes (Utf8.decode s k).1 ∧ runeOkN (Utf8.decode s k).1 = true := by
  have h1 : k + rsize (bt s k) ≤ s.size := by
    rcases Nat.lt_or_ge s.size (k + rsize (bt s k)) with h | h
    · rw [dec_short s k hk h] at hb; cases hb
    · exact h
  have h2 : ∀ i, 1 ≤ i → i < rsize (bt s k) → contB (bt s (k + i)) = true := fun i i1 i2 => by
    cases hc : contB (bt s (k + i))
    · rw [dec_cont s k i i1 i2 hc] at hb; cases hb
    · rfl
  rcases dec_end s k h1 h2 with ⟨a, b, _⟩ | ⟨_, b⟩
  · rw [b]
    refine ⟨a.symm, ?_⟩
    by_cases ho : runeOkN (racc s k (rsize (bt s k))) = true
    · exact ho
    · exfalso
      have h0 : runeBytes (racc s k (rsize (bt s k))) = [] := by rw [runeBytes, if_neg ho]
      rw [h0] at a
      have hz := congrArg List.length a
      have hl : ∀ m, (btake s k m).length = m := by
        intro m
        induction m with
        | zero => rfl
        | succ m ih => simp [btake, ih]
      rw [hl] at hz
      have : 0 < rsize (bt s k) := by unfold rsize; split <;> (try split) <;> (try split) <;> omega
      simp at hz
      omega
  · rw [b] at hb; cases hb

def figB (x : Nat) : UInt8 := if x < 10 then UInt8.ofNat (48 + x) else UInt8.ofNat (87 + x)
def escB (b : UInt8) : List UInt8 :=
  if b = 34 then [92, 34] else if b = 92 then [92, 92] else if b = 8 then [92, 98] else if b = 12 then [92, 102] else if b = 10 then [92, 110] else if b = 13 then [92, 114] else if b = 9 then [92, 116]
  else if b.toNat < 32 then [92, 117, 48, 48, figB (b.toNat / 16), figB (b.toNat % 16)] else [b]
def escTo (s : ByteArray) (k : Nat) : List UInt8 := 34 :: (s.data.toList.take k).flatMap escB
def quotedB (s : ByteArray) : ByteArray := if (runesO s).isSome then ⟨(escTo s s.size ++ [34]).toArray⟩ else ⟨#[]⟩
theorem escB_len (b : UInt8) : 1 ≤ (escB b).length ∧ (escB b).length ≤ 6 := by
  unfold escB
  repeat' (first | (split) | (simp; done))
theorem flat_len (l : List UInt8) : l.length ≤ (l.flatMap escB).length ∧ (l.flatMap escB).length ≤ 6 * l.length := by
  induction l with
  | nil => simp
  | cons b l ih => have := escB_len b; simp only [List.flatMap_cons, List.length_append, List.length_cons]; omega
theorem escTo_len (s : ByteArray) (k : Nat) : (escTo s k).length ≤ 6 * k + 1 := by
  have := (flat_len (s.data.toList.take k)).2
  have h2 : (s.data.toList.take k).length ≤ k := List.length_take_le _ _
  simp only [escTo, List.length_cons]
  omega
theorem byte_at (s : ByteArray) (k : Nat) (h : k < s.size) : s.data.toList[k]'(by simpa using h) = s[k] := rfl
theorem escTo_succ (s : ByteArray) (k : Nat) (h : k < s.size) : escTo s (k + 1) = escTo s k ++ escB s[k] := by
  have hk : k < s.data.toList.length := by simpa using h
  simp only [escTo]
  rw [List.take_succ_eq_append_getElem hk, List.flatMap_append, List.flatMap_singleton]
  rfl

/-- What a code point becomes. -/
def escR (n : Nat) : List UInt8 := ((runeBytes n).map UInt8.ofNat).flatMap escB
theorem escTo_rune (s : ByteArray) (k : Nat) (hk : k < s.size) (hb : badD (Utf8.decode s k) = false) : escTo s (k + (Utf8.decode s k).2) = escTo s k ++ escR (Utf8.decode s k).1 := by
  have h1 := (dec_bytes s k hk hb).1
  have h2 := btake_ext s k (Utf8.decode s k).2 (width_le s k hk)
  rw [h1, Lib.extract_toList, Nat.add_sub_cancel_left] at h2
  simp only [escTo, escR]
  rw [← h2, List.take_add, List.flatMap_append]
  rfl
theorem escR_high {n : Nat} (h : 128 ≤ n) : escR n = (runeBytes n).map UInt8.ofNat := by
  have hall : ∀ b ∈ (runeBytes n).map UInt8.ofNat, escB b = [b] := by
    intro b hb
    simp only [List.mem_map] at hb
    obtain ⟨x, hx, rfl⟩ := hb
    have hx2 : 128 ≤ x ∧ x < 256 := by
      refine ⟨?_, runeBytes_lt n x hx⟩
      unfold runeBytes at hx
      split at hx
      · rename_i ho
        simp only [runeOkN, Bool.and_eq_true, decide_eq_true_eq] at ho
        split at hx
        · simp at hx; omega
        split at hx
        · simp at hx; omega
        split at hx
        · simp at hx; omega
        · simp at hx; omega
      · simp at hx
    have e : (UInt8.ofNat x).toNat = x := by simp; omega
    have ne : ∀ c : UInt8, c.toNat < 128 → ¬ UInt8.ofNat x = c := fun c hc he => by rw [← he, e] at hc; omega
    unfold escB
    rw [if_neg (ne _ (by decide)), if_neg (ne _ (by decide)), if_neg (ne _ (by decide)), if_neg (ne _ (by decide)), if_neg (ne _ (by decide)), if_neg (ne _ (by decide)), if_neg (ne _ (by decide)), if_neg (by omega)]
  unfold escR
  generalize (runeBytes n).map UInt8.ofNat = l at hall
  induction l with
  | nil => rfl
  | cons b l ih =>
    rw [List.flatMap_cons, hall b (by simp), ih fun c hc => hall c (by simp [hc])]
    rfl
theorem escR_low {n : Nat} (h : n < 128) : escR n = escB (UInt8.ofNat n) := by
  have ho : runeOkN n = true := by simp [runeOkN]; omega
  rw [escR, runeBytes, if_pos ho, if_pos h]
  simp
theorem escR_plain {n : Nat} (h : 32 ≤ n) (h1 : n ≠ 34) (h2 : n ≠ 92) : escR n = (runeBytes n).map UInt8.ofNat := by
  rcases Nat.lt_or_ge n 128 with hn | hn
  · have ho : runeOkN n = true := by simp [runeOkN]; omega
    have e : (UInt8.ofNat n).toNat = n := by simp; omega
    have ne : ∀ c : UInt8, c.toNat ≠ n → ¬ UInt8.ofNat n = c := fun c hc he => by rw [← he, e] at hc; omega
    rw [escR_low hn, runeBytes, if_pos ho, if_pos hn]
    unfold escB
    rw [if_neg (ne _ (by show 34 ≠ n; omega)), if_neg (ne _ (by show 92 ≠ n; omega)), if_neg (ne _ (by show 8 ≠ n; omega)), if_neg (ne _ (by show 12 ≠ n; omega)), if_neg (ne _ (by show 10 ≠ n; omega)), if_neg (ne _ (by show 13 ≠ n; omega)), if_neg (ne _ (by show 9 ≠ n; omega)), if_neg (by omega)]
    rfl
  · exact escR_high hn
theorem escR_ctl {n : Nat} (h : n < 32) (h1 : n ≠ 8) (h2 : n ≠ 12) (h3 : n ≠ 10) (h4 : n ≠ 13) (h5 : n ≠ 9) : escR n = [92, 117, 48, 48, figB (n / 16), figB (n % 16)] := by
  have e : (UInt8.ofNat n).toNat = n := by simp; omega
  have ne : ∀ c : UInt8, c.toNat ≠ n → ¬ UInt8.ofNat n = c := fun c hc he => by rw [← he, e] at hc; omega
  rw [escR_low (by omega)]
  unfold escB
  rw [if_neg (ne _ (by show 34 ≠ n; omega)), if_neg (ne _ (by show 92 ≠ n; omega)), if_neg (ne _ (by show 8 ≠ n; omega)), if_neg (ne _ (by show 12 ≠ n; omega)), if_neg (ne _ (by show 10 ≠ n; omega)), if_neg (ne _ (by show 13 ≠ n; omega)), if_neg (ne _ (by show 9 ≠ n; omega)), if_pos (by omega), e]

/-- The list that RunesOf gives goes on from what has been read. -/
theorem rgo_pre (s : ByteArray) : ∀ f k acc L, rgo s f k acc = some L → ∃ M, L = acc ++ M
  | 0, _, _, _, h => by cases h
  | f + 1, k, acc, L, h => by
    rw [rgo] at h
    split at h
    · cases h; exact ⟨[], by simp⟩
    · split at h
      · cases h
      · obtain ⟨M, rfl⟩ := rgo_pre s f _ _ L h
        exact ⟨_, List.append_assoc _ _ _⟩
/-- The i-th code point of the list, and where it lies. -/
theorem rgo_next (s : ByteArray) (f k : Nat) (acc L : List Nat) (h : rgo s f k acc = some L) (hi : acc.length < L.length) :
    k < s.size ∧ badD (Utf8.decode s k) = false ∧ (Utf8.decode s k).1 = L.getD acc.length 0 ∧ ∃ f', rgo s f' (k + (Utf8.decode s k).2) (acc ++ [(Utf8.decode s k).1]) = some L := by
  cases f with
  | zero => cases h
  | succ f =>
    rw [rgo] at h
    split at h
    · cases h; omega
    · split at h
      · cases h
      · rename_i h1 h2
        refine ⟨by omega, by simpa using h2, ?_, f, h⟩
        obtain ⟨M, rfl⟩ := rgo_pre s f _ _ L h
        simp
theorem rgo_last (s : ByteArray) (f k : Nat) (acc L : List Nat) (h : rgo s f k acc = some L) (hi : acc.length = L.length) : s.size ≤ k ∧ acc = L := by
  cases f with
  | zero => cases h
  | succ f =>
    rw [rgo] at h
    split at h
    · rename_i h1
      cases h; exact ⟨h1, rfl⟩
    · split at h
      · cases h
      · obtain ⟨M, rfl⟩ := rgo_pre s f _ _ L h
        simp at hi

end Go.Proofs.YtkifacpanipfhaaDoor
namespace Go.Proofs.YtkifacpanipfhaaDoor
open Go.RowKit

def figZ (x : Int) : Int := if x < 10 then 48 + x else 87 + x
theorem sFigure (x : Int) (w : World) (h0 : 0 ≤ x) (h1 : x < 16) : Calls Tryd.prog 126 #[.int .i64 x] w fun e w' => e = .returned (.int .u8 (figZ x)) ∧ w = w' := by
  have H : Hid (figZ x = if x < 10 then 48 + x else 87 + x) := rfl
  by_cases h : x < 10
  · go_enter Tryd.func126, Tryd.ntmps126
    go_wp2
    go_ret
    exact ⟨ret_int (by rw [H.out, if_pos h]), rfl⟩
  · go_enter Tryd.func126, Tryd.ntmps126
    go_wp2
    go_ret
    exact ⟨ret_int (by rw [H.out, if_neg (by omega)]; omega), rfl⟩
theorem fig_byte (m : Nat) (h : m < 16) : Value.int .u8 (figZ (m : Int)) = byteV (figB m) := by
  unfold byteV figB figZ
  congr 1
  by_cases g : m < 10
  · rw [if_pos (by omega), if_pos g]; simp; omega
  · rw [if_neg (by omega), if_neg g]; simp; omega
theorem fig_two (n : Nat) (h : n < 32) : #[Value.int .u8 (figZ ((n : Int) / 16)), Value.int .u8 (figZ ((n : Int) % 16))] = ([figB (n / 16), figB (n % 16)].map byteV).toArray := by
  have e1 : (n : Int) / 16 = ((n / 16 : Nat) : Int) := by omega
  have e2 : (n : Int) % 16 = ((n % 16 : Nat) : Int) := by omega
  rw [e1, e2, fig_byte _ (by omega), fig_byte _ (by omega)]
  rfl
theorem rtext_len (n : Nat) : (rtext (n : Int)).length ≤ 4 := by
  rw [rtext_nat, List.length_map, bytes_len]
  split
  · split
    · omega
    split
    · omega
    split <;> omega
  · omega
theorem escTo_zero (s : ByteArray) : escTo s 0 = [34] := rfl

set_option maxHeartbeats 2000000 in
set_option maxRecDepth 100000 in
theorem sQuoted (s : ByteArray) (w : World) (hs : s.size ≤ 1048576) :
    Calls Tryd.prog 113 #[.string s] w fun e w' => e = .returned (.string (quotedB s)) ∧ Below w.heap.size w w' := by
  cases hO : runesO s with
  | none =>
    have HQ := Lib.hid (show quotedB s = ⟨#[]⟩ by rw [quotedB, hO]; rfl)
    go_enter Tryd.func113, Tryd.ntmps113
    go_wp2_with fail
    refine (sRunesOf _ _ hs).mono ?_; rintro e w1 ⟨⟨v, l, rfl, ho, hl⟩, hb1⟩
    rw [hO]
    clear ho hl hO
    go_wp2
    go_ret
    exact ⟨ret_str HQ.out.symm, hb1⟩
  | some L =>
    have HQ := Lib.hid (show quotedB s = ⟨(escTo s s.size ++ [34]).toArray⟩ by rw [quotedB, hO]; rfl)
    have hlen := runes_len s
    rw [hO] at hlen
    change L.length ≤ s.size at hlen
    go_enter Tryd.func113, Tryd.ntmps113
    go_wp2_with fail
    refine (sRunesOf _ _ hs).mono ?_; rintro e w1 ⟨hp, hb1⟩
    obtain ⟨a1, n1, fp1, rfl, hg1⟩ := runesF_of hp
    clear hp
    rw [hO] at hg1 ⊢
    have hsl := hg1.own.sl
    change SlAt w1 a1 L.length 1 (runF L) at hsl
    have hz1 := hb1.size
    have HB1 := Lib.hid hb1; have HSL := Lib.hid hsl
    clear hb1 hg1 hsl
    go_wp2_with fail
    go_loopw [5, 6] (fun v i wr => ∃ (j k f : Nat), j ≤ L.length ∧ k ≤ s.size ∧ i = .int .i64 j ∧ rgo s f k (L.take j) = some L ∧ Buf w1 wr v (escTo s k)) (fun _ i _ => L.length - (intOf i).toNat)
    case atStart => exact ⟨0, 0, s.size + 1, by omega, by omega, rfl, hO, by rw [escTo_zero]; exact Buf.lit w1 [34] _ 1 rfl rfl (by omega)⟩
    case round =>
      obtain ⟨j, k, f, hj, hk, rfl, hg, hbuf⟩ := hrel
      have HB := Lib.hid hbuf; have HG := Lib.hid hg
      have hl6 := escTo_len s k
      by_cases hlt : j < L.length
      · have hjl : (L.take j).length = j := by simp; omega
        obtain ⟨hk1, hbad, hd1, f', hg'⟩ := rgo_next s f k (L.take j) L hg (by omega)
        rw [hjl] at hd1
        have hesc := escTo_rune s k hk1 hbad
        have hw2 := width_le s k hk1
        have hle := decode_le s k
        have htk : L.take j ++ [L.getD j 0] = L.take (j + 1) := by
          rw [List.take_succ_eq_append_getElem hlt, List.getD_eq_getElem?_getD, List.getElem?_eq_getElem hlt]; rfl
        rw [hd1] at hg' hesc hle
        rw [htk] at hg'
        obtain ⟨b, off, rfl, hcell⟩ := (HSL.out.keep hbuf.bel).at (by omega)
        have c0 : wr.cell? ⟨b, off + j, none⟩ = some (.int .i64 ((L.getD j 0 : Nat) : Int)) := by
          have := hcell j hlt 0 (by omega); simpa [runF] using this
        generalize L.getD j 0 = n at c0 hg' hesc hle
        generalize (Utf8.decode s k).2 = m at hg' hesc hw2
        have HE := Lib.hid hesc; have HG' := Lib.hid hg'
        clear hcell hbuf hg hg' hesc hd1 htk hbad hjl HG
        by_cases g1 : n = 34
        · subst g1
          have hR : escR 34 = [92, 34] := by decide
          rw [hR] at HE
          clear hR
          go_wp2_with (at_builtin; refine wpList_buf rfl _ _ rfl _ _ [92, 34] w1 _ rfl HB.out _ 2 2 rfl rfl rfl (by simp; omega) ?_; intro v2 w2 hb2)
          go_roundw
          case rel => exact ⟨j + 1, k + m, f', by omega, hw2, by go_num, HG'.out, by rw [HE.out]; exact hb2⟩
          case measure => simp [intOf]; omega
        by_cases g2 : n = 92
        · subst g2
          have hR : escR 92 = [92, 92] := by decide
          rw [hR] at HE
          clear hR
          go_wp2_with (at_builtin; refine wpList_buf rfl _ _ rfl _ _ [92, 92] w1 _ rfl HB.out _ 2 2 rfl rfl rfl (by simp; omega) ?_; intro v2 w2 hb2)
          go_roundw
          case rel => exact ⟨j + 1, k + m, f', by omega, hw2, by go_num, HG'.out, by rw [HE.out]; exact hb2⟩
          case measure => simp [intOf]; omega
        by_cases g3 : n = 8
        · subst g3
          have hR : escR 8 = [92, 98] := by decide
          rw [hR] at HE
          clear hR
          go_wp2_with (at_builtin; refine wpList_bufS (by rfl) _ _ (by rfl) _ _ w1 _ (by rfl) HB.out _ (by rfl) (by first | (show _ + 2 ≤ _; omega) | (show _ + 4 ≤ _; omega)) ?_; intro v2 w2 hb2)
          go_roundw
          case rel => exact ⟨j + 1, k + m, f', by omega, hw2, by go_num, HG'.out, by rw [HE.out]; exact hb2⟩
          case measure => simp [intOf]; omega
        by_cases g4 : n = 12
        · subst g4
          have hR : escR 12 = [92, 102] := by decide
          rw [hR] at HE
          clear hR
          go_wp2_with (at_builtin; refine wpList_bufS (by rfl) _ _ (by rfl) _ _ w1 _ (by rfl) HB.out _ (by rfl) (by first | (show _ + 2 ≤ _; omega) | (show _ + 4 ≤ _; omega)) ?_; intro v2 w2 hb2)
          go_roundw
          case rel => exact ⟨j + 1, k + m, f', by omega, hw2, by go_num, HG'.out, by rw [HE.out]; exact hb2⟩
          case measure => simp [intOf]; omega
        by_cases g5 : n = 10
        · subst g5
          have hR : escR 10 = [92, 110] := by decide
          rw [hR] at HE
          clear hR
          go_wp2_with (at_builtin; refine wpList_bufS (by rfl) _ _ (by rfl) _ _ w1 _ (by rfl) HB.out _ (by rfl) (by first | (show _ + 2 ≤ _; omega) | (show _ + 4 ≤ _; omega)) ?_; intro v2 w2 hb2)
          go_roundw
          case rel => exact ⟨j + 1, k + m, f', by omega, hw2, by go_num, HG'.out, by rw [HE.out]; exact hb2⟩
          case measure => simp [intOf]; omega
        by_cases g6 : n = 13
        · subst g6
          have hR : escR 13 = [92, 114] := by decide
          rw [hR] at HE
          clear hR
          go_wp2_with (at_builtin; refine wpList_bufS (by rfl) _ _ (by rfl) _ _ w1 _ (by rfl) HB.out _ (by rfl) (by first | (show _ + 2 ≤ _; omega) | (show _ + 4 ≤ _; omega)) ?_; intro v2 w2 hb2)
          go_roundw
          case rel => exact ⟨j + 1, k + m, f', by omega, hw2, by go_num, HG'.out, by rw [HE.out]; exact hb2⟩
          case measure => simp [intOf]; omega
        by_cases g7 : n = 9
        · subst g7
          have hR : escR 9 = [92, 116] := by decide
          rw [hR] at HE
          clear hR
          go_wp2_with (at_builtin; refine wpList_bufS (by rfl) _ _ (by rfl) _ _ w1 _ (by rfl) HB.out _ (by rfl) (by first | (show _ + 2 ≤ _; omega) | (show _ + 4 ≤ _; omega)) ?_; intro v2 w2 hb2)
          go_roundw
          case rel => exact ⟨j + 1, k + m, f', by omega, hw2, by go_num, HG'.out, by rw [HE.out]; exact hb2⟩
          case measure => simp [intOf]; omega
        have q0 : ((n : Int) == 34) = false := by simp; omega
        have q1 : ((n : Int) == 92) = false := by simp; omega
        have q2 : ((n : Int) == 8) = false := by simp; omega
        have q3 : ((n : Int) == 12) = false := by simp; omega
        have q4 : ((n : Int) == 10) = false := by simp; omega
        have q5 : ((n : Int) == 13) = false := by simp; omega
        have q6 : ((n : Int) == 9) = false := by simp; omega
        by_cases g8 : n < 32
        · rw [escR_ctl g8 g3 g4 g5 g6 g7] at HE
          have HF := Lib.hid (fig_two n g8)
          have g8' : (n : Int) < 32 := by omega
          clear g1 g2 g3 g4 g5 g6 g7 g8
          go_wp2_with (first | (go_at_call 126; refine (sFigure _ _ (by omega) (by omega)).mono ?_; rintro e w' ⟨rfl, rfl⟩) | (at_builtin; refine wpList_buf rfl _ _ rfl _ _ [figB (n / 16), figB (n % 16)] w1 _ rfl hb2 _ 2 2 HF.out rfl rfl (by simp; omega) ?_; intro v3 w3 hb3) | (at_builtin; refine wpList_bufS (by rfl) _ _ (by rfl) _ _ w1 _ (by rfl) HB.out _ (by rfl) (by first | (show _ + 2 ≤ _; omega) | (show _ + 4 ≤ _; omega)) ?_; intro v2 w2 hb2))
          go_roundw
          case rel => exact ⟨j + 1, k + m, f', by omega, hw2, by go_num, HG'.out, by rw [HE.out]; have := hb3; rw [List.append_assoc] at this; exact this⟩
          case measure => simp [intOf]; omega
        · rw [escR_plain (by omega) g1 g2, ← rtext_nat] at HE
          have HN := Lib.hid (rtext_len n)
          clear g1 g2 g3 g4 g5 g6 g7
          have g8' : decide ((n : Int) < 32) = false := decide_eq_false (by omega)
          clear g8
          go_wp2_with (first | (go_at_call 122; refine (sRuneText _ _).mono ?_; rintro e w4 ⟨rfl, hb4⟩) | (at_builtin; refine wpList_bufS (by rfl) _ _ (by rfl) _ _ w1 _ (by rfl) (HB.out.keep hb4) _ (by rfl) (by have := HN.out; show _ + (rtext (n : Int)).length ≤ _; omega) ?_; intro v2 w2 hb2))
          go_roundw
          case rel => exact ⟨j + 1, k + m, f', by omega, hw2, by go_num, HG'.out, by rw [HE.out]; exact hb2⟩
          case measure => simp [intOf]; omega
      · have hjl : (L.take j).length = L.length := by simp; omega
        obtain ⟨hks, -⟩ := rgo_last s f k (L.take j) L hg hjl
        obtain rfl : k = s.size := by omega
        clear hbuf hg hjl HG hks
        go_wp2_with (at_builtin; refine wpList_buf rfl _ _ rfl _ _ [34] w1 _ rfl HB.out _ 1 1 rfl rfl rfl (by simp; omega) ?_; intro v2 w2 hb2; have ht := hb2.text)
        go_ret
        exact ⟨ret_str (by rw [HQ.out]), bnext HB1.out hb2.bel⟩

end Go.Proofs.YtkifacpanipfhaaDoor
namespace Go.Proofs.YtkifacpanipfhaaDoor

def isDg (b : UInt8) : Bool := decide (48 ≤ b.toNat) && decide (b.toNat ≤ 57)
theorem isDg_iff {b : UInt8} : isDg b = true ↔ 48 ≤ b.toNat ∧ b.toNat ≤ 57 := by simp [isDg]
def dgStep (a : Nat) (b : UInt8) : Nat := 10 * a + (b.toNat - 48)
def valFrom (acc : Nat) (l : List UInt8) : Nat := l.foldl dgStep acc
theorem valFrom_nil (acc : Nat) : valFrom acc [] = acc := rfl
theorem valFrom_cons (acc : Nat) (b : UInt8) (r : List UInt8) : valFrom acc (b :: r) = valFrom (10 * acc + (b.toNat - 48)) r := List.foldl_cons ..
theorem valFrom_ge : ∀ (l : List UInt8) (acc : Nat), acc ≤ valFrom acc l
  | [], acc => by rw [valFrom_nil]; exact Nat.le_refl _
  | b :: r, acc => by
    have := valFrom_ge r (10 * acc + (b.toNat - 48))
    rw [valFrom_cons]; omega
theorem valFrom_app : ∀ (l m : List UInt8) (acc : Nat), valFrom acc (l ++ m) = valFrom (valFrom acc l) m
  | [], m, acc => by rw [List.nil_append, valFrom_nil]
  | b :: r, m, acc => by rw [List.cons_append, valFrom_cons, valFrom_cons, valFrom_app r m]
theorem valFrom_snoc (l : List UInt8) (b : UInt8) : valFrom 0 (l ++ [b]) = 10 * valFrom 0 l + (b.toNat - 48) := by rw [valFrom_app, valFrom_cons, valFrom_nil]
theorem parse_digits : ∀ (l : List UInt8) (acc : Nat), (∀ b ∈ l, isDg b = true) → acc < 18446744073709551616 →
    Lib.parseUint10 acc l = if valFrom acc l < 18446744073709551616 then .ok (valFrom acc l) else .range
  | [], acc, _, ha => by rw [Lib.parseUint10, valFrom_nil, if_pos ha]
  | b :: r, acc, hd, ha => by
    have hb := isDg_iff.1 (hd b (by simp))
    have hge := valFrom_ge r (10 * acc + (b.toNat - 48))
    rw [Lib.parseUint10, if_pos hb, valFrom_cons]
    by_cases h1 : 1844674407370955162 ≤ acc
    · rw [if_pos h1, if_neg (by omega)]
    · rw [if_neg h1]
      have e : acc * 10 + (b.toNat - 48) = 10 * acc + (b.toNat - 48) := by omega
      rw [e]
      by_cases h2 : 18446744073709551616 ≤ 10 * acc + (b.toNat - 48)
      · rw [if_pos h2, if_neg (by omega)]
      · rw [if_neg h2]
        exact parse_digits r _ (fun c hc => hd c (by simp [hc])) (by omega)

/-- Figures as a number is told: one at least, digits only, no nought ahead of others. -/
structure Canon (l : List UInt8) : Prop where
  ne : l ≠ []
  dg : ∀ b ∈ l, isDg b = true
  hd : 1 < l.length → (l.getD 0 0).toNat ≠ 48
theorem val_pos {l : List UInt8} (h : l ≠ []) (hd : 49 ≤ (l.getD 0 0).toNat) : 1 ≤ valFrom 0 l := by
  cases l with
  | nil => exact absurd rfl h
  | cons b r =>
    have := valFrom_ge r (10 * 0 + (b.toNat - 48))
    rw [valFrom_cons]
    have : 49 ≤ b.toNat := hd
    omega
theorem dec_val : ∀ (n : Nat) (l : List UInt8), l.length = n → Canon l → Lib.decDigits (valFrom 0 l) = l
  | 0, l, hl, h => absurd (List.eq_nil_of_length_eq_zero hl) h.ne
  | n + 1, l, hl, h => by
    obtain ⟨l', b, rfl⟩ : ∃ l' b, l = l' ++ [b] := ⟨l.dropLast, l.getLast h.ne, (List.dropLast_concat_getLast h.ne).symm⟩
    have hb := isDg_iff.1 (h.dg b (by simp))
    have hbb : UInt8.ofNat (48 + (b.toNat - 48)) = b := by
      rw [Nat.add_sub_cancel' hb.1]; simp
    rw [valFrom_snoc]
    by_cases h0 : l' = []
    · subst h0
      rw [Lib.decDigits, dif_pos (show 10 * valFrom 0 [] + (b.toNat - 48) < 10 by rw [valFrom_nil]; omega), valFrom_nil, Nat.mul_zero, Nat.zero_add, hbb]
      rfl
    · have hpos : 0 < l'.length := List.length_pos_iff.2 h0
      have hg : (l' ++ [b]).getD 0 0 = l'.getD 0 0 := by
        rw [List.getD_eq_getElem?_getD, List.getElem?_append_left hpos, ← List.getD_eq_getElem?_getD]
      have hh := h.hd (by simp; omega)
      rw [hg] at hh
      have hc : Canon l' := ⟨h0, fun c hc => h.dg c (by simp [hc]), fun _ => hh⟩
      have h49 : 49 ≤ (l'.getD 0 0).toNat := by
        have hm : l'.getD 0 0 ∈ l' := by
          rw [List.getD_eq_getElem?_getD, List.getElem?_eq_getElem hpos]; exact List.getElem_mem hpos
        have := isDg_iff.1 (hc.dg _ hm)
        omega
      have hv := val_pos h0 h49
      have ih := dec_val n l' (by simpa using hl) hc
      rw [Lib.decDigits, dif_neg (by omega)]
      have e1 : (10 * valFrom 0 l' + (b.toNat - 48)) / 10 = valFrom 0 l' := by omega
      have e2 : (10 * valFrom 0 l' + (b.toNat - 48)) % 10 = b.toNat - 48 := by omega
      rw [e1, e2, ih, hbb]
theorem dec_canon : ∀ (n u : Nat), u ≤ n → Canon (Lib.decDigits u) ∧ valFrom 0 (Lib.decDigits u) = u ∧ (1 ≤ u → (Lib.decDigits u).getD 0 0 ≠ 48)
  | 0, u, h => by
    obtain rfl : u = 0 := by omega
    rw [Lib.decDigits_one (by omega)]
    exact ⟨⟨by simp, by decide, by simp⟩, by rw [valFrom_cons, valFrom_nil]; rfl, fun h => by omega⟩
  | n + 1, u, h => by
    by_cases h10 : u < 10
    · rw [Lib.decDigits_one h10]
      have e : (UInt8.ofNat (48 + u)).toNat = 48 + u := by simp; omega
      refine ⟨⟨by simp, fun b hb => ?_, by simp⟩, ?_, fun h1 hq => ?_⟩
      · simp only [List.mem_singleton] at hb
        subst hb
        exact isDg_iff.2 (by omega)
      · rw [valFrom_cons, valFrom_nil, e]; omega
      · have h2 : UInt8.ofNat (48 + u) = 48 := hq
        have := congrArg UInt8.toNat h2
        rw [e] at this
        have h3 : (48 : UInt8).toNat = 48 := rfl
        omega
    · obtain ⟨h1, h2, h3⟩ := dec_canon n (u / 10) (by omega)
      rw [Lib.decDigits, dif_neg h10]
      have e : (UInt8.ofNat (48 + u % 10)).toNat = 48 + u % 10 := by simp; omega
      have hpos : 0 < (Lib.decDigits (u / 10)).length := List.length_pos_iff.2 h1.ne
      have hg : (Lib.decDigits (u / 10) ++ [UInt8.ofNat (48 + u % 10)]).getD 0 0 = (Lib.decDigits (u / 10)).getD 0 0 := by
        rw [List.getD_eq_getElem?_getD, List.getElem?_append_left hpos, ← List.getD_eq_getElem?_getD]
      have hh := h3 (by omega)
      refine ⟨⟨by simp, fun b hb => ?_, fun _ hq => ?_⟩, ?_, fun _ => by rw [hg]; exact hh⟩
      · simp only [List.mem_append, List.mem_singleton] at hb
        rcases hb with hb | rfl
        · exact h1.dg b hb
        · exact isDg_iff.2 (by omega)
      · rw [hg] at hq
        exact hh (UInt8.toNat_inj.1 hq)
      · rw [valFrom_snoc, h2, e]; omega

/-- strconv.Atoi over a sign that may stand ahead, and figures. -/
theorem atoi_plain {l : List UInt8} (h : Canon l) : Lib.atoiAll l = if valFrom 0 l < 9223372036854775808 then .ok ((valFrom 0 l : Nat) : Int) else .range := by
  cases l with
  | nil => exact absurd rfl h.ne
  | cons c r =>
    have hc := isDg_iff.1 (h.dg c (by simp))
    have hp := parse_digits (c :: r) 0 h.dg (by omega)
    unfold Lib.atoiAll
    simp only
    rw [if_neg (show ¬ (c.toNat = 43 ∨ c.toNat = 45) by omega), Lib.parseMag, if_neg (by simp), hp]
    have hn : ¬ c.toNat = 45 := by omega
    by_cases h1 : valFrom 0 (c :: r) < 18446744073709551616
    · rw [if_pos h1]
      simp only
      by_cases h2 : valFrom 0 (c :: r) < 9223372036854775808
      · rw [if_pos h2, if_neg (by omega), if_neg (by omega), if_neg hn]
      · rw [if_neg h2, if_pos ⟨hn, by omega⟩]
    · rw [if_neg h1, if_neg (by omega)]
theorem atoi_minus {l : List UInt8} (h : Canon l) : Lib.atoiAll (45 :: l) = if valFrom 0 l ≤ 9223372036854775808 then .ok (-((valFrom 0 l : Nat) : Int)) else .range := by
  have hp := parse_digits l 0 h.dg (by omega)
  have e : Lib.atoiAll (45 :: l) = match Lib.parseMag l with | Lib.NumEnd.syntax => Lib.NumEnd.syntax | .range => .range | .ok u => if 9223372036854775808 < u then .range else .ok (-((u : Nat) : Int)) := by
    simp [Lib.atoiAll]
    cases Lib.parseMag l <;> rfl
  rw [e, Lib.parseMag, if_neg h.ne, hp]
  by_cases h1 : valFrom 0 l < 18446744073709551616
  · rw [if_pos h1]
    simp only
    by_cases h2 : valFrom 0 l ≤ 9223372036854775808
    · rw [if_pos h2, if_neg (by omega)]
    · rw [if_neg h2, if_pos (by omega)]
  · rw [if_neg h1, if_neg (by omega)]

end Go.Proofs.YtkifacpanipfhaaDoor
namespace Go.Proofs.YtkifacpanipfhaaDoor

def dgAt (s : ByteArray) (k : Nat) : Bool := decide (48 ≤ bt s k) && decide (bt s k ≤ 57)
theorem dgAt_iff {s : ByteArray} {k : Nat} : dgAt s k = true ↔ 48 ≤ bt s k ∧ bt s k ≤ 57 := by simp [dgAt]
/-- Where the figures that begin at k end. -/
def dgEnd (s : ByteArray) : Nat → Nat → Nat
  | 0, k => k
  | f + 1, k => if k < s.size ∧ dgAt s k = true then dgEnd s f (k + 1) else k
structure Ends (s : ByteArray) (k e : Nat) : Prop where
  le : k ≤ e
  top : e ≤ s.size
  all : ∀ i, k ≤ i → i < e → dgAt s i = true
  fin : e < s.size → dgAt s e = false
theorem Ends.eq {s : ByteArray} : ∀ (f k e : Nat), Ends s k e → e ≤ k + f → dgEnd s f k = e
  | 0, k, e, h, hf => by
    have := h.le
    rw [dgEnd]; omega
  | f + 1, k, e, h, hf => by
    have hle := h.le
    rw [dgEnd]
    by_cases hk : k = e
    · subst hk
      rw [if_neg]
      rintro ⟨h1, h2⟩
      rw [h.fin h1] at h2; cases h2
    · have htop := h.top
      rw [if_pos ⟨by omega, h.all k (Nat.le_refl _) (by omega)⟩]
      exact Ends.eq f (k + 1) e ⟨by omega, h.top, fun i h1 h2 => h.all i (by omega) h2, h.fin⟩ (by omega)
def fend (s : ByteArray) (k : Nat) : Nat := dgEnd s (s.size - k) k
theorem Ends.fend {s : ByteArray} {k e : Nat} (h : Ends s k e) : fend s k = e := by
  have h1 := h.le
  have h2 := h.top
  exact h.eq _ _ _ (by omega)
def figs (s : ByteArray) (k e : Nat) : List UInt8 := (s.extract k e).data.toList
theorem figs_len (s : ByteArray) (k e : Nat) (h : k ≤ e) (he : e ≤ s.size) : (figs s k e).length = e - k := by
  unfold figs
  rw [Lib.extract_data]; simp; omega
theorem figs_get (s : ByteArray) (k e i : Nat) (h : k + i < e) (he : e ≤ s.size) : ((figs s k e).getD i 0).toNat = bt s (k + i) := by
  rw [bt_eq s (k + i) (by omega)]
  have : (figs s k e)[i]? = some s[k + i] := by
    unfold figs
    rw [Lib.extract_data, List.getElem?_take_of_lt (by omega), List.getElem?_drop, List.getElem?_eq_getElem (by simp; omega)]
    rfl
  rw [List.getD_eq_getElem?_getD, this]; rfl
theorem figs_canon {s : ByteArray} {k e : Nat} (h : Ends s k e) (hne : k < e) (h0 : bt s k = 48 → e = k + 1) : Canon (figs s k e) := by
  have hl := figs_len s k e h.le h.top
  refine ⟨fun hn => ?_, fun b hb => ?_, fun h1 hq => ?_⟩
  · rw [hn] at hl; simp at hl; omega
  · obtain ⟨i, hi, rfl⟩ := List.getElem_of_mem hb
    have hi2 : k + i < e := by omega
    have hg := figs_get s k e i hi2 h.top
    rw [List.getD_eq_getElem?_getD, List.getElem?_eq_getElem hi] at hg
    have hd := dgAt_iff.1 (h.all (k + i) (by omega) hi2)
    have hg' : (figs s k e)[i].toNat = bt s (k + i) := hg
    exact isDg_iff.2 (by omega)
  · have hg := figs_get s k e 0 (by omega) h.top
    rw [Nat.add_zero] at hg
    have := h0 (by omega)
    omega

/-- The first place of the figures. -/
def whoFrom (s : ByteArray) (k : Nat) : Nat := if bt s k = 45 then k + 1 else k
def stopB (s : ByteArray) (e : Nat) : Bool := decide (e < s.size) && (bt s e == 46 || bt s e == 101 || bt s e == 69)
/-- The whole number at k, and where it ends. -/
def whoO (s : ByteArray) (k : Nat) : Option (Int × Nat) :=
  if fend s (whoFrom s k) = whoFrom s k ∨ (bt s (whoFrom s k) = 48 ∧ whoFrom s k + 1 < fend s (whoFrom s k)) ∨ stopB s (fend s (whoFrom s k)) = true then none
  else if bt s k = 45 then (if valFrom 0 (figs s (whoFrom s k) (fend s (whoFrom s k))) ≤ 9223372036854775808 then some (-((valFrom 0 (figs s (whoFrom s k) (fend s (whoFrom s k))) : Nat) : Int), fend s (whoFrom s k)) else none)
  else (if valFrom 0 (figs s (whoFrom s k) (fend s (whoFrom s k))) < 9223372036854775808 then some (((valFrom 0 (figs s (whoFrom s k) (fend s (whoFrom s k))) : Nat) : Int), fend s (whoFrom s k)) else none)
def whoQ (s : ByteArray) (p : Int) : Option (Int × Nat) := if 0 ≤ p ∧ p < s.size then whoO s p.toNat else none
def whoN : Option (Int × Nat) → Int
  | none => 0
  | some (n, _) => n
def whoE : Option (Int × Nat) → Int
  | none => -1
  | some (_, e) => e
theorem who_bad {s : ByteArray} {k f e : Nat} (hf : whoFrom s k = f) (he : Ends s f e) (h : e = f ∨ (bt s f = 48 ∧ f + 1 < e) ∨ stopB s e = true) : whoO s k = none := by
  rw [whoO, hf, he.fend, if_pos h]
theorem who_neg {s : ByteArray} {k f e : Nat} (hf : whoFrom s k = f) (he : Ends s f e) (h : ¬ (e = f ∨ (bt s f = 48 ∧ f + 1 < e) ∨ stopB s e = true)) (h45 : bt s k = 45) :
    whoO s k = if valFrom 0 (figs s f e) ≤ 9223372036854775808 then some (-((valFrom 0 (figs s f e) : Nat) : Int), e) else none := by
  rw [whoO, hf, he.fend, if_neg h, if_pos h45]
theorem who_pos {s : ByteArray} {k f e : Nat} (hf : whoFrom s k = f) (he : Ends s f e) (h : ¬ (e = f ∨ (bt s f = 48 ∧ f + 1 < e) ∨ stopB s e = true)) (h45 : bt s k ≠ 45) :
    whoO s k = if valFrom 0 (figs s f e) < 9223372036854775808 then some (((valFrom 0 (figs s f e) : Nat) : Int), e) else none := by
  rw [whoO, hf, he.fend, if_neg h, if_neg h45]
theorem who_out {s : ByteArray} {p : Int} (h : ¬ (0 ≤ p ∧ p < s.size)) : whoQ s p = none := if_neg h
theorem who_in {s : ByteArray} {k : Nat} (h : k < s.size) : whoQ s (k : Int) = whoO s k := by
  rw [whoQ, if_pos ⟨by omega, by omega⟩]; simp

/-- The figures of a number that an int can hold are no more than 19. -/
theorem canon_len {l : List UInt8} (h : Canon l) (hl : 19 < l.length) : 10000000000000000000 ≤ valFrom 0 l := by
  have key : ∀ (n : Nat) (l : List UInt8), l.length = n + 1 → Canon l → 2 ≤ l.length → 10 ^ n ≤ valFrom 0 l := by
    intro n
    induction n with
    | zero => intro l h1 _ h2; omega
    | succ n ih =>
      intro l h1 hc h2
      obtain ⟨l', b, rfl⟩ : ∃ l' b, l = l' ++ [b] := ⟨l.dropLast, l.getLast hc.ne, (List.dropLast_concat_getLast hc.ne).symm⟩
      have hl' : l'.length = n + 1 := by simpa using h1
      have hpos : 0 < l'.length := by omega
      have hg : (l' ++ [b]).getD 0 0 = l'.getD 0 0 := by
        rw [List.getD_eq_getElem?_getD, List.getElem?_append_left hpos, ← List.getD_eq_getElem?_getD]
      have hh := hc.hd (by omega)
      rw [hg] at hh
      have hne : l' ≠ [] := List.length_pos_iff.1 hpos
      have hc' : Canon l' := ⟨hne, fun c hc2 => hc.dg c (by simp [hc2]), fun _ => hh⟩
      rw [valFrom_snoc]
      by_cases hn : 2 ≤ l'.length
      · have := ih l' hl' hc' hn
        rw [Nat.pow_succ]; omega
      · obtain rfl : n = 0 := by omega
        have h49 : 49 ≤ (l'.getD 0 0).toNat := by
          have hm : l'.getD 0 0 ∈ l' := by
            rw [List.getD_eq_getElem?_getD, List.getElem?_eq_getElem hpos]; exact List.getElem_mem hpos
          have := isDg_iff.1 (hc'.dg _ hm)
          omega
        have := val_pos hne h49
        simp; omega
  obtain ⟨n, hn⟩ : ∃ n, l.length = n + 1 := ⟨l.length - 1, by omega⟩
  have h1 := key n l hn h (by omega)
  have h2 : 10 ^ 19 ≤ 10 ^ n := Nat.pow_le_pow_right (by omega) (by omega)
  have h3 : (10 : Nat) ^ 19 = 10000000000000000000 := rfl
  omega
theorem val_take (l : List UInt8) (j : Nat) (h : j < l.length) : valFrom 0 (l.take (j + 1)) = 10 * valFrom 0 (l.take j) + ((l.getD j 0).toNat - 48) := by
  rw [List.take_succ_eq_append_getElem h, valFrom_snoc, List.getD_eq_getElem?_getD, List.getElem?_eq_getElem h]; rfl
theorem val_take_le (l : List UInt8) (j : Nat) : valFrom 0 (l.take j) ≤ valFrom 0 l := by
  have h := valFrom_app (l.take j) (l.drop j) 0
  rw [List.take_append_drop] at h
  rw [h]
  exact valFrom_ge _ _

end Go.Proofs.YtkifacpanipfhaaDoor
namespace Go.Proofs.YtkifacpanipfhaaDoor
open Go.RowKit

theorem fig_dg (m : Nat) : UInt8.ofNat (figZ ((m : Int) % 10)).toNat = UInt8.ofNat (48 + m % 10) := by
  have e : (m : Int) % 10 = ((m % 10 : Nat) : Int) := by omega
  rw [e, figZ, if_pos (by omega)]
  congr 1
theorem one_app (b : UInt8) (t : ByteArray) : ((⟨#[b]⟩ : ByteArray) ++ t).data.toList = b :: t.data.toList := by simp
theorem dec_step {M m : Nat} {l : List UInt8} (h : Lib.decDigits M = Lib.decDigits m ++ l) : (m < 10 → Lib.decDigits M = UInt8.ofNat (48 + m % 10) :: l) ∧ (10 ≤ m → Lib.decDigits M = Lib.decDigits (m / 10) ++ (UInt8.ofNat (48 + m % 10) :: l)) := by
  constructor
  · intro h1
    rw [h, Lib.decDigits_one h1, Nat.mod_eq_of_lt h1]; rfl
  · intro h1
    rw [h, Lib.decDigits, dif_neg (by omega)]; simp
/-- What is still to be told of M ahead of the text t. -/
def DecRel (M m : Nat) (t : ByteArray) : Prop := (m = 0 ∧ t.data.toList = Lib.decDigits M) ∨ (1 ≤ m ∧ m ≤ M ∧ Lib.decDigits M = Lib.decDigits m ++ t.data.toList)
theorem DecRel.step {M m : Nat} {t : ByteArray} (h : DecRel M m t) (hm : 1 ≤ m) : DecRel M (m / 10) ((⟨#[UInt8.ofNat (48 + m % 10)]⟩ : ByteArray) ++ t) := by
  rcases h with ⟨h, _⟩ | ⟨_, h1, h2⟩
  · omega
  · have h3 := dec_step h2
    by_cases h4 : m < 10
    · left
      exact ⟨by omega, by rw [one_app, h3.1 h4]⟩
    · right
      exact ⟨by omega, by omega, by rw [one_app, h3.2 (by omega)]⟩
theorem DecRel.size {M m : Nat} {t : ByteArray} (h : DecRel M m t) (hM : M < 18446744073709551616) : t.size ≤ 20 := by
  have h20 := Lib.nDigits_le20 M hM
  rw [← Lib.decDigits_length] at h20
  have hs : t.data.toList.length = t.size := by simp
  rcases h with ⟨_, h⟩ | ⟨_, _, h⟩
  · rw [← h] at h20; omega
  · rw [h, List.length_append] at h20; omega
theorem itoa_pos (m : Nat) : Lib.itoa (m : Int) = Lib.decDigits m := by rw [Lib.itoa, if_neg (by omega)]; simp
theorem itoa_neg (m : Nat) (h : 1 ≤ m) : Lib.itoa (-(m : Int)) = 45 :: Lib.decDigits m := by rw [Lib.itoa, if_pos (by omega)]; simp
theorem text_of {t : ByteArray} {l : List UInt8} (h : t.data.toList = l) : t = ⟨l.toArray⟩ := by
  apply ByteArray.ext
  rw [← h]

set_option maxHeartbeats 1000000 in
set_option maxRecDepth 100000 in
theorem sDecPos (M : Nat) (w : World) (h1 : 1 ≤ M) (h2 : M ≤ 9223372036854775807) : Calls Tryd.prog 111 #[.int .i64 (M : Int)] w fun e w' => e = .returned (.string ⟨(Lib.itoa (M : Int)).toArray⟩) ∧ Below w.heap.size w w' := by
  have e0 : ((M : Int) == 0) = false := by rw [beq_eq_false_iff_ne]; omega
  have HM := Lib.hid h2
  have e1 : decide ((M : Int) < 0) = false := decide_eq_false (by omega)
  go_enter Tryd.func111, Tryd.ntmps111
  go_wp2
  go_loopw [0, 4] (fun a v wr => ∃ (m : Nat) (t : ByteArray), a = .int .i64 (m : Int) ∧ v = .string t ∧ m ≤ M ∧ DecRel M m t ∧ Below w.heap.size w wr) (fun a _ _ => (intOf a).toNat)
  case atStart => exact ⟨M, ⟨#[]⟩, rfl, rfl, by omega, .inr ⟨h1, by omega, by simp⟩, Below.refl _ _⟩
  case round =>
    obtain ⟨m, t, rfl, rfl, hmM, hrel, hb⟩ := hrel
    have ht := hrel.size (by have := HM.out; omega)
    have hm9 : (m : Int) ≤ 9223372036854775807 := by have := HM.out; omega
    by_cases hm : m = 0
    · subst hm
      have HT := Lib.hid (show t = ⟨(Lib.itoa (M : Int)).toArray⟩ by
        rw [itoa_pos]
        rcases hrel with ⟨_, h⟩ | ⟨h, _⟩
        · exact text_of h
        · omega)
      clear hrel
      go_wp2
      go_ret
      exact ⟨ret_str HT.out, hb⟩
    · have HS := Lib.hid (hrel.step (by omega))
      have n0 : ((m : Int) != 0) = true := by rw [bne_iff_ne]; omega
      have hr0 : (0 : Int) ≤ (m : Int) % 10 := by omega
      have hr1 : (m : Int) % 10 < 10 := by omega
      have k1 := conv1 wr (figZ ((m : Int) % 10))
      rw [fig_dg] at k1
      generalize UInt8.ofNat (48 + m % 10) = c at k1 HS
      have hz := hb.size
      clear hrel
      have hpos : 1 ≤ m := by omega
      clear hm
      go_wp2_with (go_at_call 126; refine (sFigure _ _ (by omega) (by omega)).mono ?_; rintro e w' ⟨rfl, rfl⟩)
      go_roundw
      case rel => exact ⟨m / 10, _, by go_num, rfl, by omega, HS.out, by repeat (first | exact hb | (refine Below.alloc ?_ (by first | omega | (simp; done) | (simp; omega)) _) | (refine Below.setCell ?_ (by first | omega | (simp; done) | (simp; omega)) _) | (refine Below.drew ?_) | (refine below_drewN ?_ _))⟩
      case measure => simp [intOf]; omega

set_option maxHeartbeats 1000000 in
set_option maxRecDepth 100000 in
theorem sDecNeg (M : Nat) (w : World) (h1 : 1 ≤ M) (h2 : M ≤ 9223372036854775808) : Calls Tryd.prog 111 #[.int .i64 (-(M : Int))] w fun e w' => e = .returned (.string ⟨(Lib.itoa (-(M : Int))).toArray⟩) ∧ Below w.heap.size w w' := by
  have HI := Lib.hid (itoa_neg M h1)
  have HM := Lib.hid h2
  obtain ⟨z0, hz0⟩ : ∃ z0 : Int, z0 = -(M : Int) := ⟨_, rfl⟩
  rw [← hz0] at HI ⊢
  have e0 : (z0 == 0) = false := by rw [beq_eq_false_iff_ne]; omega
  have e1 : decide (z0 < 0) = true := decide_eq_true (by omega)
  have HZ0 := Lib.hid hz0
  clear hz0
  go_enter Tryd.func111, Tryd.ntmps111
  go_wp2
  go_loopw [0, 4] (fun a v wr => ∃ (m : Nat) (z : Int) (t : ByteArray), a = .int .i64 z ∧ v = .string t ∧ Hid (z = -(m : Int)) ∧ m ≤ M ∧ DecRel M m t ∧ Below w.heap.size w wr) (fun a _ _ => (intOf a).natAbs)
  case atStart => exact ⟨M, z0, ⟨#[]⟩, rfl, rfl, HZ0, by omega, .inr ⟨h1, by omega, by simp⟩, Below.refl _ _⟩
  case round =>
    obtain ⟨m, z, t, rfl, rfl, HZ, hmM, hrel, hb⟩ := hrel
    have ht := hrel.size (by have := HM.out; omega)
    by_cases hm : m = 0
    · subst hm
      have hz : z = 0 := by have := HZ.out; omega
      subst hz
      have HT := Lib.hid (show (⟨#[45]⟩ : ByteArray) ++ t = ⟨(Lib.itoa z0).toArray⟩ by
        refine text_of ?_
        rw [one_app, HI.out]
        rcases hrel with ⟨_, h⟩ | ⟨h, _⟩
        · rw [h]
        · omega)
      clear hrel
      go_wp2
      go_ret
      exact ⟨ret_str HT.out, hb⟩
    · have HS := Lib.hid (hrel.step (by omega))
      have n0 : (z != 0) = true := by rw [bne_iff_ne]; have := HZ.out; omega
      have hzt : z.tmod 10 = -((m % 10 : Nat) : Int) := by
        rw [HZ.out, Int.neg_tmod, Int.tmod_eq_emod_of_nonneg (by omega)]; omega
      have hzq : z.tdiv 10 = -((m / 10 : Nat) : Int) := by
        rw [HZ.out, Int.neg_tdiv, Int.tdiv_eq_ediv_of_nonneg (by omega)]; omega
      have hz1 : -9223372036854775808 ≤ z := by have := HZ.out; have := HM.out; omega
      have hz2 : z ≤ 0 := by have := HZ.out; omega
      have HD := Lib.hid (show UInt8.ofNat (48 + m % 10) = UInt8.ofNat (figZ ((m % 10 : Nat) : Int)).toNat by rw [figZ, if_pos (by omega)]; congr 1)
      have hd9 : m % 10 ≤ 9 := by omega
      have hm10 : m / 10 ≤ 922337203685477580 := by have := HM.out; omega
      have HMM := Lib.hid (show m / 10 < m by omega)
      generalize m % 10 = d at hzt HD hd9 HS
      generalize hq : m / 10 = q at hzq hm10 HS HMM
      have HQ := Lib.hid (show q ≤ M by have := HMM.out; omega)
      have k1 := conv1 wr (figZ (d : Int))
      rw [← HD.out] at k1
      clear HD
      generalize UInt8.ofNat (48 + d) = c at k1 HS
      have hz := hb.size
      clear hrel hm hq
      by_cases hd0 : d = 0
      · subst hd0
        rw [show ((0 : Nat) : Int) = 0 from rfl] at k1
        go_wp2_with (go_at_call 126; refine (sFigure _ _ (by omega) (by omega)).mono ?_; rintro e w' ⟨rfl, rfl⟩)
        go_roundw
        case rel => exact ⟨q, _, _, rfl, rfl, Lib.hid rfl, HQ.out, HS.out, by repeat (first | exact hb | (refine Below.alloc ?_ (by first | omega | (simp; done) | (simp; omega)) _) | (refine Below.setCell ?_ (by first | omega | (simp; done) | (simp; omega)) _) | (refine Below.drew ?_) | (refine below_drewN ?_ _))⟩
        case measure => have := HZ.out; have := HMM.out; simp [intOf]; omega
      · have hdn : decide (-(d : Int) < 0) = true := decide_eq_true (by omega)
        go_wp2_with (go_at_call 126; refine (sFigure _ _ (by omega) (by omega)).mono ?_; rintro e w' ⟨rfl, rfl⟩)
        go_roundw
        case rel => exact ⟨q, _, _, rfl, rfl, Lib.hid rfl, HQ.out, HS.out, by repeat (first | exact hb | (refine Below.alloc ?_ (by first | omega | (simp; done) | (simp; omega)) _) | (refine Below.setCell ?_ (by first | omega | (simp; done) | (simp; omega)) _) | (refine Below.drew ?_) | (refine below_drewN ?_ _))⟩
        case measure => have := HZ.out; have := HMM.out; simp [intOf]; omega

theorem sDecimal (n : Int) (w : World) (h1 : -9223372036854775808 ≤ n) (h2 : n ≤ 9223372036854775807) : Calls Tryd.prog 111 #[.int .i64 n] w fun e w' => e = .returned (.string ⟨(Lib.itoa n).toArray⟩) ∧ Below w.heap.size w w' := by
  rcases (show n = 0 ∨ 0 < n ∨ n < 0 by omega) with rfl | h | h
  · have HI := Lib.hid (show (⟨#[48]⟩ : ByteArray) = ⟨(Lib.itoa 0).toArray⟩ by
      have := itoa_pos 0
      rw [show ((0 : Nat) : Int) = 0 from rfl] at this
      rw [this, Lib.decDigits_one (by omega)]; rfl)
    go_enter Tryd.func111, Tryd.ntmps111
    go_wp2
    go_ret
    exact ⟨ret_str HI.out, Below.refl _ _⟩
  · obtain ⟨m, rfl⟩ := Int.eq_ofNat_of_zero_le (show 0 ≤ n by omega)
    exact sDecPos m w (by omega) (by omega)
  · obtain ⟨m, hm⟩ := Int.eq_ofNat_of_zero_le (show 0 ≤ -n by omega)
    obtain rfl : n = -(m : Int) := by omega
    exact sDecNeg m w (by omega) (by omega)

end Go.Proofs.YtkifacpanipfhaaDoor
namespace Go.Proofs.YtkifacpanipfhaaDoor
open Go.RowKit

def trueL : List UInt8 := [116, 114, 117, 101]
def falseL : List UInt8 := [102, 97, 108, 115, 101]
def nullL : List UInt8 := [110, 117, 108, 108]
def qL (s : ByteArray) : List UInt8 := (quotedB s).data.toList
def leafL (k : Int) (f : Bool) (n : Int) (s : ByteArray) : List UInt8 :=
  if k = 1 then nullL else if k = 2 then (if f = true then trueL else falseL) else if k = 3 then Lib.itoa n else qL s
def headK (m : Bool) (keys : List ByteArray) (i : Nat) : List UInt8 := (if 0 < i then [44] else []) ++ (if m = true then qL (strAt keys i) ++ [58] else [])
mutual
/-- What a tree is told as. -/
def sayB : Tr → List UInt8
  | .mk k f n s keys kids => if k < 5 then leafL k f n s else (if k = 6 then 123 else 91) :: (sayK (k == 6) keys 0 kids ++ [if k = 6 then 125 else 93])
def sayK (m : Bool) (keys : List ByteArray) (i : Nat) : List Tr → List UInt8
  | [] => []
  | t :: ts => headK m keys i ++ (sayB t ++ sayK m keys (i + 1) ts)
end
theorem say_leaf {t : Tr} (h : t.kind < 5) : sayB t = leafL t.kind t.flag t.num t.text := by
  cases t; simp only [Tr.kind] at h; simp only [sayB, if_pos h, Tr.kind, Tr.flag, Tr.num, Tr.text]
theorem say_list {t : Tr} (h : t.kind = 5) : sayB t = 91 :: (sayK false t.keys 0 t.kids ++ [93]) := by
  cases t; simp only [Tr.kind] at h; subst h; simp only [sayB, Tr.keys, Tr.kids]; rfl
theorem say_map {t : Tr} (h : t.kind = 6) : sayB t = 123 :: (sayK true t.keys 0 t.kids ++ [125]) := by
  cases t; simp only [Tr.kind] at h; subst h; simp only [sayB, Tr.keys, Tr.kids]; rfl
theorem say_null {t : Tr} (h : t.kind = 1) : sayB t = nullL := by rw [say_leaf (by omega), leafL, if_pos h]
theorem say_true {t : Tr} (h : t.kind = 2) (hf : t.flag = true) : sayB t = trueL := by rw [say_leaf (by omega), leafL, if_neg (by omega), if_pos h, if_pos hf]
theorem say_false {t : Tr} (h : t.kind = 2) (hf : t.flag = false) : sayB t = falseL := by rw [say_leaf (by omega), leafL, if_neg (by omega), if_pos h, if_neg (by simp [hf])]
theorem say_int {t : Tr} (h : t.kind = 3) : sayB t = Lib.itoa t.num := by rw [say_leaf (by omega), leafL, if_neg (by omega), if_neg (by omega), if_pos h]
theorem say_text {t : Tr} (h : t.kind = 4) : sayB t = qL t.text := by rw [say_leaf (by omega), leafL, if_neg (by omega), if_neg (by omega), if_neg (by omega)]
theorem kids_drop {l : List Tr} {k : Nat} (h : k < l.length) : l.drop k = kidAt l k :: l.drop (k + 1) := by
  rw [kidAt_mem h]; exact List.drop_eq_getElem_cons h
/-- As far as round k: acc stands, what is still to come is told by the rest. -/
def SayAt (m : Bool) (keys : List ByteArray) (kids : List Tr) (k : Nat) (acc tail all : List UInt8) : Prop := acc ++ (sayK m keys k (kids.drop k) ++ tail) = all
theorem sayAt_start (m : Bool) (keys : List ByteArray) (kids : List Tr) (acc tail : List UInt8) : SayAt m keys kids 0 acc tail (acc ++ (sayK m keys 0 kids ++ tail)) := rfl
theorem sayAt_step {m : Bool} {keys : List ByteArray} {kids : List Tr} {k : Nat} {acc tail all : List UInt8} (h : SayAt m keys kids k acc tail all) (hk : k < kids.length) :
    SayAt m keys kids (k + 1) ((acc ++ headK m keys k) ++ sayB (kidAt kids k)) tail all := by
  rw [SayAt, kids_drop hk, sayK] at h
  rw [SayAt, ← h]; simp only [List.append_assoc]
theorem sayAt_end {m : Bool} {keys : List ByteArray} {kids : List Tr} {k : Nat} {acc tail all : List UInt8} (h : SayAt m keys kids k acc tail all) (hk : kids.length ≤ k) : acc ++ tail = all := by
  rw [SayAt, List.drop_of_length_le hk, sayK, List.nil_append] at h; exact h
theorem sayAt_len {m : Bool} {keys : List ByteArray} {kids : List Tr} {k : Nat} {acc tail all : List UInt8} (h : SayAt m keys kids k acc tail all) : acc.length + tail.length ≤ all.length := by
  rw [SayAt] at h; rw [← h]; simp only [List.length_append]; omega
theorem qL_len (s : ByteArray) : (qL s).length ≤ 6 * s.size + 2 := by
  unfold qL quotedB
  split
  · have := escTo_len s s.size
    simp only [List.length_append, List.length_singleton]; omega
  · simp
theorem itoa_len (n : Int) (h : -9223372036854775808 ≤ n ∧ n ≤ 9223372036854775807) : (Lib.itoa n).length ≤ 21 := by
  have hd : ∀ u : Nat, u < 18446744073709551616 → (Lib.decDigits u).length ≤ 20 := fun u hu => by
    have := DecRel.size (M := u) (m := 0) (t := ⟨(Lib.decDigits u).toArray⟩) (Or.inl ⟨rfl, by simp⟩) hu
    have e : (⟨(Lib.decDigits u).toArray⟩ : ByteArray).size = (Lib.decDigits u).length := by show (List.toArray _).size = _; rw [List.size_toArray]
    omega
  unfold Lib.itoa
  split
  · have := hd n.natAbs (by omega)
    simp only [List.length_cons]; omega
  · have := hd n.natAbs (by omega)
    first | omega | (have := hd n.toNat (by omega); omega)
theorem text_size {s : ByteArray} (h : textOkB s = true) : s.size ≤ 400 := by
  simp only [textOkB, Bool.and_eq_true, decide_eq_true_eq] at h; exact h.1
theorem key_size {l : List ByteArray} (h : keysOkB l = true) (i : Nat) : (strAt l i).size ≤ 400 := by
  rcases Nat.lt_or_ge i l.length with hi | hi
  · rw [keysOkB, List.all_eq_true] at h
    have := h i (List.mem_range.2 hi)
    rw [keyOkAt, Bool.and_eq_true] at this
    exact text_size this.1
  · rw [strAt, List.getD_eq_getElem?_getD, List.getElem?_eq_none hi]; exact Nat.zero_le _
theorem head_kind {t : Tr} (h : headB t = true) : 1 ≤ t.kind ∧ t.kind ≤ 6 ∧ textOkB t.text = true ∧ (t.kind = 6 → t.keys.length = t.kids.length) ∧ (t.kind < 5 → t.kids.length = 0) ∧ (t.kind ≠ 6 → t.keys.length = 0) := by
  simp only [headB, betweenB, Bool.and_eq_true, decide_eq_true_eq, Bool.not_eq_true', Bool.and_eq_false_iff, beq_eq_false_iff_ne, bne_eq_false_iff_eq, decide_eq_false_iff_not, ne_eq] at h
  obtain ⟨⟨h1, h2⟩, -, -, -, h6, h7, h8, h9⟩ := h
  refine ⟨h1, h2, h8, fun e => ?_, fun e => ?_, fun e => ?_⟩
  · rcases h9 with h9 | h9
    · exact absurd e h9
    · exact h9
  · rcases h7 with h7 | h7
    · omega
    · omega
  · rcases h6 with h6 | h6
    · omega
    · exact absurd h6 e
theorem shape_parts {t : Tr} (h : shapeB t = true) : headB t = true ∧ keysOkB t.keys = true ∧ shapeL t.kids = true := by
  rw [shape_eq, Bool.and_eq_true, Bool.and_eq_true] at h; exact h
theorem shapeL_kid : ∀ {l : List Tr} {k : Nat}, shapeL l = true → k < l.length → shapeB (kidAt l k) = true
  | [], k, _, h => by simp at h
  | t :: ts, 0, h, _ => by rw [shapeL, Bool.and_eq_true] at h; exact h.1
  | t :: ts, k + 1, h, hk => by rw [shapeL, Bool.and_eq_true] at h; exact shapeL_kid (l := ts) (k := k) h.2 (by simpa using hk)
theorem headK_len (m : Bool) {keys : List ByteArray} (hk : ∀ j, (strAt keys j).size ≤ 400) (i : Nat) : (headK m keys i).length ≤ 2404 := by
  have h1 := qL_len (strAt keys i)
  have h2 := hk i
  unfold headK
  rw [List.length_append]
  have a : (if 0 < i then [44] else ([] : List UInt8)).length ≤ 1 := by split <;> simp
  have b : (if m = true then qL (strAt keys i) ++ [58] else []).length ≤ 2403 := by
    split
    · rw [List.length_append]; simp only [List.length_singleton]; omega
    · simp
  omega
mutual
theorem sayB_len : ∀ t : Tr, shapeB t = true → t.nums → (sayB t).length + 2500 ≤ 5000 * t.nodes
  | .mk k f n s keys kids, h, hn => by
    obtain ⟨h1, h2, h3⟩ := shape_parts h
    obtain ⟨a1, a2, a3, a4, a5, a6⟩ := head_kind h1
    simp only [Tr.kind, Tr.text, Tr.keys, Tr.kids] at a1 a2 a3 a4 a5 a6 h2 h3
    have hb := nums_bd hn
    simp only [Tr.num] at hb
    have hs := text_size a3
    simp only [Tr.nums] at hn
    have hq := qL_len s
    have hi := itoa_len n hb
    by_cases hk : k < 5
    · rw [sayB, if_pos hk]
      have : (leafL k f n s).length ≤ 2402 := by
        unfold leafL
        split
        · decide
        split
        · split <;> decide
        split
        · omega
        · omega
      simp only [Tr.nodes]; omega
    · rw [sayB, if_neg hk]
      have := sayK_len (k == 6) keys (key_size h2) kids 0 h3 hn.2
      simp only [Tr.nodes, List.length_cons, List.length_append, List.length_nil]; omega
theorem sayK_len (m : Bool) (keys : List ByteArray) (hk : ∀ j, (strAt keys j).size ≤ 400) : ∀ (l : List Tr) (i : Nat), shapeL l = true → numsL l → (sayK m keys i l).length ≤ 5000 * nodesL l
  | [], i, _, _ => by simp [sayK]
  | t :: ts, i, h, hn => by
    rw [shapeL, Bool.and_eq_true] at h
    simp only [numsL] at hn
    have a := sayB_len t h.1 hn.1
    have b := sayK_len m keys hk ts (i + 1) h.2 hn.2
    have c := headK_len m hk i
    simp only [sayK, nodesL, List.length_append]; omega
end

end Go.Proofs.YtkifacpanipfhaaDoor
