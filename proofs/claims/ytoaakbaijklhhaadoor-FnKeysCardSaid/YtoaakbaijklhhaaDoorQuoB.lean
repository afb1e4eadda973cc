/- Plain law: a text comes back from its quotes, whatever stands around them. No program. -/
import Derived.Test.YtoaakbaijklhhaaDoorRqR
import Derived.Test.YtoaakbaijklhhaaDoorDec
namespace Go.Proofs.YtoaakbaijklhhaaDoor

theorem bt_drop {T : ByteArray} {k : Nat} {l R : List UInt8} (h : T.data.toList.drop k = l ++ R) : k + l.length + R.length = T.size ∨ (l = [] ∧ R = [] ∧ T.size ≤ k) := by
  have := congrArg List.length h
  simp only [List.length_drop, List.length_append] at this
  have hs : T.data.toList.length = T.size := by simp
  rw [hs] at this
  rcases Nat.lt_or_ge k T.size with h1 | h1
  · left; omega
  · right
    exact ⟨List.eq_nil_of_length_eq_zero (by omega), List.eq_nil_of_length_eq_zero (by omega), h1⟩
theorem bt_at {T : ByteArray} {k i : Nat} {l R : List UInt8} (h : T.data.toList.drop k = l ++ R) (hi : i < l.length) : bt T (k + i) = (l.getD i 0).toNat := by
  have hsz : k + l.length ≤ T.size := by
    rcases bt_drop h with h1 | ⟨h1, _, _⟩
    · omega
    · rw [h1] at hi; simp at hi
  have h2 : T.data.toList[k + i]? = l[i]? := by
    rw [← List.getElem?_drop, h, List.getElem?_append_left hi]
  have h3 : T.data.toList[k + i]? = some T[k + i] := by
    rw [List.getElem?_eq_getElem (by simp; omega)]; rfl
  rw [bt_eq T (k + i) (by omega), List.getD_eq_getElem?_getD, ← h2, h3]
  rfl
theorem drop_more {T : ByteArray} {k : Nat} {l R : List UInt8} (h : T.data.toList.drop k = l ++ R) : T.data.toList.drop (k + l.length) = R := by
  rw [← List.drop_drop, h]; simp
theorem fig_hex (x : Nat) (h : x < 16) : hexO (figB x).toNat = some x := by
  unfold figB hexO
  split
  · have e : (UInt8.ofNat (48 + x)).toNat = 48 + x := by simp; omega
    rw [e, if_pos (by omega)]; congr 1; omega
  · have e : (UInt8.ofNat (87 + x)).toNat = 87 + x := by simp; omega
    rw [e, if_neg (by omega), if_neg (by omega), if_pos (by omega)]; congr 1; omega

theorem step_two {T : ByteArray} {k b n : Nat} (hk : k + 1 < T.size) (h0 : bt T k = 92) (h1 : bt T (k + 1) = b) (hb : ((b = 34 ∨ b = 92 ∨ b = 47) ∧ n = b) ∨ (b = 98 ∧ n = 8) ∨ (b = 102 ∧ n = 12) ∨ (b = 110 ∧ n = 10) ∨ (b = 114 ∧ n = 13) ∨ (b = 116 ∧ n = 9)) :
    bt T k ≠ 34 ∧ k < T.size ∧ stepO T k = some (n, k + 2) := by
  refine ⟨by omega, by omega, ?_⟩
  rw [step_esc h0]
  rcases hb with ⟨hb, rfl⟩ | hb
  · exact esc_lit hk h1 hb
  · exact esc_ctl hk h1 hb
/-- One code point, told in quotes, is read. -/
theorem step_back {T : ByteArray} {k n : Nat} {R : List UInt8} (ho : runeOkN n = true) (h : T.data.toList.drop k = escR n ++ R) : bt T k ≠ 34 ∧ k < T.size ∧ stepO T k = some (n, k + (escR n).length) := by
  have two : ∀ b : UInt8, escR n = [92, b] → (((b.toNat = 34 ∨ b.toNat = 92 ∨ b.toNat = 47) ∧ n = b.toNat) ∨ (b.toNat = 98 ∧ n = 8) ∨ (b.toNat = 102 ∧ n = 12) ∨ (b.toNat = 110 ∧ n = 10) ∨ (b.toNat = 114 ∧ n = 13) ∨ (b.toNat = 116 ∧ n = 9)) → bt T k ≠ 34 ∧ k < T.size ∧ stepO T k = some (n, k + (escR n).length) := by
    intro b e hb
    rw [e] at h ⊢
    have h0 := bt_at (i := 0) h (by simp)
    have h1 := bt_at (i := 1) h (by simp)
    have hsz := bt_drop h
    simp only [Nat.add_zero, List.getD_cons_zero, List.getD_cons_succ, List.length_cons, List.length_nil] at h0 h1 hsz
    exact step_two (by rcases hsz with h2 | ⟨h2, _⟩ <;> first | omega | cases h2) h0 h1 hb
  by_cases g1 : n = 34
  · subst g1; exact two 34 (by decide) (by decide)
  by_cases g2 : n = 92
  · subst g2; exact two 92 (by decide) (by decide)
  by_cases g3 : n = 8
  · subst g3; exact two 98 (by decide) (by decide)
  by_cases g4 : n = 12
  · subst g4; exact two 102 (by decide) (by decide)
  by_cases g5 : n = 10
  · subst g5; exact two 110 (by decide) (by decide)
  by_cases g6 : n = 13
  · subst g6; exact two 114 (by decide) (by decide)
  by_cases g7 : n = 9
  · subst g7; exact two 116 (by decide) (by decide)
  by_cases g8 : n < 32
  · have e := escR_ctl g8 g3 g4 g5 g6 g7
    rw [e] at h ⊢
    have b0 := bt_at (i := 0) h (by simp)
    have b1 := bt_at (i := 1) h (by simp)
    have b2 := bt_at (i := 2) h (by simp)
    have b3 := bt_at (i := 3) h (by simp)
    have b4 := bt_at (i := 4) h (by simp)
    have b5 := bt_at (i := 5) h (by simp)
    have hsz := bt_drop h
    simp only [Nat.add_zero, List.getD_cons_zero, List.getD_cons_succ, List.length_cons, List.length_nil] at b0 b1 b2 b3 b4 b5 hsz ⊢
    have hk : k + 6 ≤ T.size := by rcases hsz with h2 | ⟨h2, _⟩ <;> first | omega | cases h2
    have h92 : bt T k = 92 := b0
    have h117 : bt T (k + 1) = 117 := b1
    refine ⟨by omega, by omega, ?_⟩
    rw [step_esc h92]
    have hf : fourO T (k + 1 + 1) = some n := by
      rw [fourO, if_neg (by omega)]
      have c2 : hexO (bt T (k + 2)) = some 0 := by rw [b2]; rfl
      have c3 : hexO (bt T (k + 3)) = some 0 := by rw [b3]; rfl
      have c4 : hexO (bt T (k + 4)) = some (n / 16) := by rw [b4]; exact fig_hex _ (by omega)
      have c5 : hexO (bt T (k + 5)) = some (n % 16) := by rw [b5]; exact fig_hex _ (by omega)
      simp only [hexTo, Nat.add_zero]
      have a2 : k + 1 + 1 = k + 2 := by omega
      have a3 : k + 2 + 1 = k + 3 := by omega
      have a4 : k + 2 + 2 = k + 4 := by omega
      have a5 : k + 2 + 3 = k + 5 := by omega
      rw [a2, a3, a4, a5, c2, c3, c4, c5]
      simp
      omega
    have := esc_u2 (k := k + 1) (by omega) h117 hf (by omega) (by omega)
    rw [this]
  · have e := escR_plain (by omega : 32 ≤ n) g1 g2
    rw [e] at h ⊢
    have hp := runeBytes_pos ho
    have hlen : ((runeBytes n).map UInt8.ofNat).length = (runeBytes n).length := List.length_map ..
    have hsz := bt_drop h
    have hk : k + (runeBytes n).length ≤ T.size := by
      rcases hsz with h2 | ⟨h2, _⟩
      · omega
      · rw [h2] at hlen; simp at hlen; omega
    have hb : btake T k (runeBytes n).length = runeBytes n := by
      refine btake_of_list T k (runeBytes n) (runeBytes_lt n) ?_
      rw [h, List.take_left' (by simp)]
    have hd := decode_of_bytes T k n ho hb hk
    have hg := runeOk_good ho rfl
    have h0 := btake_get T k (runeBytes n).length 0 (by omega)
    rw [hb, Nat.add_zero] at h0
    have hne : bt T k ≠ 34 ∧ bt T k ≠ 92 := by
      rw [← h0]
      have ho2 := ho
      simp only [runeOkN, Bool.and_eq_true, decide_eq_true_eq] at ho2
      unfold runeBytes
      rw [if_pos ho]
      split
      · simp; omega
      split
      · simp; omega
      split
      · simp; omega
      · simp; omega
    refine ⟨hne.1, by omega, ?_⟩
    rw [step_good hne.2 (by rw [hd]; exact hg) (by rw [hd]; exact g8), hd, hlen]

theorem rq_back {T : ByteArray} : ∀ (L : List Nat) (f k : Nat) (acc R : List UInt8), (∀ n ∈ L, runeOkN n = true) → T.data.toList.drop k = L.flatMap escR ++ 34 :: R → T.size < k + f →
    rq T f k acc = some (acc ++ rtexts (L.map (Nat.cast : Nat → Int)), k + (L.flatMap escR).length + 1)
  | [], f, k, acc, R, _, h, hf => by
    have h' : T.data.toList.drop k = [34] ++ R := h
    have h0 := bt_at (i := 0) h' (by simp)
    have hsz := bt_drop h'
    have hk : k < T.size := by rcases hsz with h2 | ⟨h2, _⟩ <;> first | (simp at h2; omega) | cases h2
    rw [rq_quote hk hf (by simpa using h0)]
    simp [rtexts]
  | n :: L, f, k, acc, R, ho, h, hf => by
    have hon := ho n (by simp)
    have e1 : (n :: L).flatMap escR = escR n ++ L.flatMap escR := by simp
    rw [e1, List.append_assoc] at h
    obtain ⟨h34, hk, hst⟩ := step_back hon h
    obtain ⟨f', hf', he⟩ := rq_step (acc := acc) hk hf h34 hst
    rw [← he, rq_back L f' (k + (escR n).length) (acc ++ rtext (n : Int)) R (fun m hm => ho m (by simp [hm])) (drop_more h) hf', e1]
    simp [rtexts]
    omega
theorem rq_open {T : ByteArray} : ∀ (L : List Nat) (f k : Nat) (acc : List UInt8), (∀ n ∈ L, runeOkN n = true) → T.data.toList.drop k = L.flatMap escR → T.size < k + f → rq T f k acc = none
  | [], f, k, acc, _, h, _ => by
    have : T.size ≤ k := by
      have := congrArg List.length h
      simp at this; omega
    exact rq_out this
  | n :: L, f, k, acc, ho, h, hf => by
    have e1 : (n :: L).flatMap escR = escR n ++ L.flatMap escR := by simp
    rw [e1] at h
    obtain ⟨h34, hk, hst⟩ := step_back (ho n (by simp)) h
    obtain ⟨f', hf', he⟩ := rq_step (acc := acc) hk hf h34 hst
    rw [← he]
    exact rq_open L f' _ _ (fun m hm => ho m (by simp [hm])) (drop_more h) hf'

theorem rgo_ok (s : ByteArray) : ∀ f k acc L, rgo s f k acc = some L → (∀ n ∈ acc, runeOkN n = true) → ∀ n ∈ L, runeOkN n = true
  | 0, _, _, _, h, _ => by cases h
  | f + 1, k, acc, L, h, ha => by
    rw [rgo] at h
    by_cases h1 : s.size ≤ k
    · rw [if_pos h1] at h; cases h; exact ha
    · rw [if_neg h1] at h
      split at h
      · cases h
      · rename_i hb
        refine rgo_ok s f _ _ L h fun n hn => ?_
        rw [List.mem_append, List.mem_singleton] at hn
        rcases hn with hn | rfl
        · exact ha n hn
        · exact (dec_bytes s k (by omega) (by simpa using hb)).2
theorem esc_flat {s : ByteArray} {L : List Nat} (h : runesO s = some L) : s.data.toList.flatMap escB = L.flatMap escR := by
  have ho := rgo_ok s _ 0 [] L h (by simp)
  rw [← runes_text h, rtexts, List.flatMap_map, List.flatMap_assoc]
  have : ∀ l : List Nat, (l.flatMap fun (n : Nat) => (rtext ((n : Nat) : Int)).flatMap escB) = l.flatMap escR := by
    intro l
    refine congrArg (fun g => List.flatMap g l) (funext fun n => ?_)
    rw [rtext_nat]; rfl
  exact this L
/-- What stands in quotes ahead of R, behind P, comes back. -/
theorem quote_back {s : ByteArray} (h : (runesO s).isSome = true) (P R : List UInt8) (T : ByteArray) (hT : T.data.toList = P ++ ((escTo s s.size ++ [34]) ++ R)) :
    readQ T (P.length : Int) = some (s.data.toList, P.length + (escTo s s.size ++ [34]).length) := by
  obtain ⟨L, hL⟩ := Option.isSome_iff_exists.1 h
  have ho := rgo_ok s _ 0 [] L hL (by simp)
  have he : escTo s s.size = 34 :: L.flatMap escR := by
    rw [escTo, List.take_of_length_le (by simp), esc_flat hL]
  rw [he] at hT ⊢
  have hd : T.data.toList.drop P.length = [34] ++ (L.flatMap escR ++ 34 :: R) := by
    rw [hT]; simp
  have h0 := bt_at (i := 0) hd (by simp)
  have hsz := bt_drop hd
  have hk : P.length < T.size := by rcases hsz with h2 | ⟨h2, _⟩ <;> first | (simp at h2; omega) | cases h2
  have hd2 := drop_more hd
  have hb := rq_back L (T.size + 1) (P.length + 1) [] R ho hd2 (by omega)
  rw [readQ_in hk (by simpa using h0), hb, runes_text hL]
  simp
  omega
theorem quote_open {s : ByteArray} (h : (runesO s).isSome = true) (T : ByteArray) (hT : T.data.toList = escTo s s.size) : readQ T 0 = none := by
  obtain ⟨L, hL⟩ := Option.isSome_iff_exists.1 h
  have ho := rgo_ok s _ 0 [] L hL (by simp)
  have he : escTo s s.size = 34 :: L.flatMap escR := by
    rw [escTo, List.take_of_length_le (by simp), esc_flat hL]
  rw [he] at hT
  have hd : T.data.toList.drop 0 = [34] ++ L.flatMap escR := by rw [hT]; simp
  have h0 := bt_at (i := 0) hd (by simp)
  have hsz := bt_drop hd
  have hk : 0 < T.size := by rcases hsz with h2 | ⟨h2, _⟩ <;> first | (simp at h2; omega) | cases h2
  have h2 : readQ T ((0 : Nat) : Int) = rq T (T.size + 1) (0 + 1) [] := readQ_in hk (by simpa using h0)
  rw [show ((0 : Nat) : Int) = 0 from rfl] at h2
  rw [h2]
  exact rq_open L _ _ _ ho (drop_more hd) (by omega)

end Go.Proofs.YtoaakbaijklhhaaDoor
