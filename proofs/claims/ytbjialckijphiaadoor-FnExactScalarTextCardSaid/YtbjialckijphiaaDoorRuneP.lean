/- Plain law, no program: the reference's way to read a code point comes to the model's own decoder. -/
import Derived.Lib.ValidU
import Derived.Lib.Strings
namespace Go.Proofs.YtbjialckijphiaaDoor

def bt (s : ByteArray) (k : Nat) : Nat := (s.get! k).toNat
theorem bt_eq (s : ByteArray) (k : Nat) (h : k < s.size) : bt s k = s[k].toNat := by
  have h2 : k < s.data.size := h
  unfold bt
  show (s.data[k]!).toNat = _
  rw [getElem!_pos s.data k h2]
  rfl
theorem bt_lt (s : ByteArray) (k : Nat) : bt s k < 256 := UInt8.toNat_lt _

def badD (d : Nat × Nat) : Bool := d.1 == 65533 && d.2 == 1
def rsize (b : Nat) : Nat := if 240 ≤ b then 4 else if 224 ≤ b then 3 else if 192 ≤ b then 2 else 1
def rhead (b : Nat) : Nat := if 240 ≤ b then b - 240 else if 224 ≤ b then b - 224 else if 192 ≤ b then b - 192 else b
/-- What has been read behind i bytes at k. -/
def racc (s : ByteArray) (k : Nat) : Nat → Nat
  | 0 => 0
  | 1 => rhead (bt s k)
  | i + 2 => 64 * racc s k (i + 1) + (bt s (k + (i + 1)) - 128)

def contB (b : Nat) : Bool := decide (128 ≤ b) && decide (b ≤ 191)
theorem cont_iff (b : Nat) : contB b = (b / 64 == 2) := by
  rw [Bool.eq_iff_iff]; simp [contB]; omega

def runeOkN (n : Nat) : Bool := decide (n ≤ 1114111) && !(decide (55296 ≤ n) && decide (n ≤ 57343))
/-- The bytes of a code point; none where there is none. -/
def runeBytes (n : Nat) : List Nat :=
  if runeOkN n then (if n < 128 then [n] else if n < 2048 then [192 + n / 64, 128 + n % 64] else if n < 65536 then [224 + n / 4096, 128 + n / 64 % 64, 128 + n % 64] else [240 + n / 262144, 128 + n / 4096 % 64, 128 + n / 64 % 64, 128 + n % 64]) else []

theorem valid_iff (n : Nat) : Utf8.valid (n : Int) = runeOkN n := by
  rw [Bool.eq_iff_iff]; simp [Utf8.valid, runeOkN]; omega

/-- The decoder, written with 'bt'. -/
theorem decode_eq (s : ByteArray) (k : Nat) : Utf8.decode s k =
    (if bt s k < 128 then (bt s k, 1)
     else if bt s k / 32 == 6 && (k + 1 < s.size && bt s (k + 1) / 64 == 2) then
       (if (bt s k % 32) * 64 + bt s (k + 1) % 64 ≥ 128 then ((bt s k % 32) * 64 + bt s (k + 1) % 64, 2) else (65533, 1))
     else if bt s k / 16 == 14 && (k + 1 < s.size && bt s (k + 1) / 64 == 2) && (k + 2 < s.size && bt s (k + 2) / 64 == 2) then
       (if (bt s k % 16) * 4096 + (bt s (k + 1) % 64) * 64 + bt s (k + 2) % 64 ≥ 2048 && runeOkN ((bt s k % 16) * 4096 + (bt s (k + 1) % 64) * 64 + bt s (k + 2) % 64) then ((bt s k % 16) * 4096 + (bt s (k + 1) % 64) * 64 + bt s (k + 2) % 64, 3) else (65533, 1))
     else if bt s k / 8 == 30 && (k + 1 < s.size && bt s (k + 1) / 64 == 2) && (k + 2 < s.size && bt s (k + 2) / 64 == 2) && (k + 3 < s.size && bt s (k + 3) / 64 == 2) then
       (if (bt s k % 8) * 262144 + (bt s (k + 1) % 64) * 4096 + (bt s (k + 2) % 64) * 64 + bt s (k + 3) % 64 ≥ 65536 && runeOkN ((bt s k % 8) * 262144 + (bt s (k + 1) % 64) * 4096 + (bt s (k + 2) % 64) * 64 + bt s (k + 3) % 64) then ((bt s k % 8) * 262144 + (bt s (k + 1) % 64) * 4096 + (bt s (k + 2) % 64) * 64 + bt s (k + 3) % 64, 4) else (65533, 1))
     else (65533, 1)) := by
  simp only [Utf8.decode, valid_iff, Utf8.runeError]
  rfl

theorem dec_short (s : ByteArray) (k : Nat) (_h0 : k < s.size) (h : s.size < k + rsize (bt s k)) : badD (Utf8.decode s k) = true := by
  rw [decode_eq]
  have hb := bt_lt s k
  unfold rsize at h
  split at h
  · rw [if_neg (by omega), if_neg (by simp; omega), if_neg (by simp; omega), if_neg (by simp; omega)]; rfl
  split at h
  · rw [if_neg (by omega), if_neg (by simp; omega), if_neg (by simp; omega), if_neg (by simp; omega)]; rfl
  split at h
  · rw [if_neg (by omega), if_neg (by simp; omega), if_neg (by simp; omega), if_neg (by simp; omega)]; rfl
  · omega

theorem dec_cont (s : ByteArray) (k i : Nat) (h1 : 1 ≤ i) (h2 : i < rsize (bt s k)) (hc : contB (bt s (k + i)) = false) : badD (Utf8.decode s k) = true := by
  rw [cont_iff] at hc
  rw [decode_eq]
  have hb := bt_lt s k
  have hc' : ¬ bt s (k + i) / 64 = 2 := by simpa using hc
  unfold rsize at h2
  split at h2
  · rcases (show i = 1 ∨ i = 2 ∨ i = 3 by omega) with rfl | rfl | rfl
    all_goals (rw [if_neg (by omega), if_neg (by simp; omega), if_neg (by simp; omega), if_neg (by simp; omega)]; rfl)
  split at h2
  · rcases (show i = 1 ∨ i = 2 by omega) with rfl | rfl
    all_goals (rw [if_neg (by omega), if_neg (by simp; omega), if_neg (by simp; omega), if_neg (by simp; omega)]; rfl)
  split at h2
  · obtain rfl : i = 1 := by omega
    rw [if_neg (by omega), if_neg (by simp; omega), if_neg (by simp; omega), if_neg (by simp; omega)]; rfl
  · omega

/-- The bytes from k on. -/
def btake (s : ByteArray) (k : Nat) : Nat → List Nat
  | 0 => []
  | i + 1 => btake s k i ++ [bt s (k + i)]

theorem bytes_len (n : Nat) : (runeBytes n).length = if runeOkN n then (if n < 128 then 1 else if n < 2048 then 2 else if n < 65536 then 3 else 4) else 0 := by
  unfold runeBytes
  split
  · split
    · rfl
    split
    · rfl
    split <;> rfl
  · rfl

theorem end4 (b b1 b2 b3 n : Nat) (hb : b < 256) (g : 240 ≤ b) (k1 : 128 ≤ b1 ∧ b1 ≤ 191) (k2 : 128 ≤ b2 ∧ b2 ≤ 191) (k3 : 128 ≤ b3 ∧ b3 ≤ 191) (hn : n = 64 * (64 * (64 * (b - 240) + (b1 - 128)) + (b2 - 128)) + (b3 - 128)) :
    (runeBytes n = [b, b1, b2, b3] ∧ b / 8 = 30 ∧ 65536 ≤ n ∧ runeOkN n = true) ∨ (runeBytes n ≠ [b, b1, b2, b3] ∧ (b / 8 = 30 → ¬ (65536 ≤ n ∧ runeOkN n = true))) := by
  by_cases ho : runeOkN n = true
  · by_cases hl : 65536 ≤ n
    · left
      have ho' := ho
      simp only [runeOkN, Bool.and_eq_true, decide_eq_true_eq] at ho'
      refine ⟨?_, by omega, hl, ho⟩
      rw [runeBytes, if_pos ho, if_neg (by omega), if_neg (by omega), if_neg (by omega)]
      simp only [List.cons.injEq, and_true]
      exact ⟨by omega, by omega, by omega, by omega⟩
    · right
      refine ⟨fun e => ?_, fun _ h => hl h.1⟩
      have := congrArg List.length e
      rw [bytes_len, if_pos ho] at this
      simp only [List.length_cons, List.length_nil] at this
      split at this
      · omega
      split at this
      · omega
      split at this
      · omega
      · omega
  · right
    refine ⟨fun e => ?_, fun _ h => ho h.2⟩
    have := congrArg List.length e
    rw [bytes_len, if_neg ho] at this
    simp at this

theorem end3 (b b1 b2 n : Nat) (g : 224 ≤ b) (g' : b < 240) (k1 : 128 ≤ b1 ∧ b1 ≤ 191) (k2 : 128 ≤ b2 ∧ b2 ≤ 191) (hn : n = 64 * (64 * (b - 224) + (b1 - 128)) + (b2 - 128)) :
    (runeBytes n = [b, b1, b2] ∧ 2048 ≤ n ∧ runeOkN n = true) ∨ (runeBytes n ≠ [b, b1, b2] ∧ ¬ (2048 ≤ n ∧ runeOkN n = true)) := by
  by_cases ho : runeOkN n = true
  · by_cases hl : 2048 ≤ n
    · left
      refine ⟨?_, hl, ho⟩
      rw [runeBytes, if_pos ho, if_neg (by omega), if_neg (by omega), if_pos (by omega)]
      simp only [List.cons.injEq, and_true]
      exact ⟨by omega, by omega, by omega⟩
    · right
      refine ⟨fun e => ?_, fun h => hl h.1⟩
      have := congrArg List.length e
      rw [bytes_len, if_pos ho] at this
      simp only [List.length_cons, List.length_nil] at this
      split at this
      · omega
      split at this
      · omega
      · omega
  · right
    refine ⟨fun e => ?_, fun h => ho h.2⟩
    have := congrArg List.length e
    rw [bytes_len, if_neg ho] at this
    simp at this

theorem end2 (b b1 n : Nat) (g : 192 ≤ b) (g' : b < 224) (k1 : 128 ≤ b1 ∧ b1 ≤ 191) (hn : n = 64 * (b - 192) + (b1 - 128)) :
    (runeBytes n = [b, b1] ∧ 128 ≤ n) ∨ (runeBytes n ≠ [b, b1] ∧ ¬ 128 ≤ n) := by
  have ho : runeOkN n = true := by simp [runeOkN]; omega
  by_cases hl : 128 ≤ n
  · left
    refine ⟨?_, hl⟩
    rw [runeBytes, if_pos ho, if_neg (by omega), if_pos (by omega)]
    simp only [List.cons.injEq, and_true]
    exact ⟨by omega, by omega⟩
  · right
    refine ⟨fun e => ?_, hl⟩
    have := congrArg List.length e
    rw [bytes_len, if_pos ho, if_pos (by omega)] at this
    simp at this

theorem end1 (b : Nat) (hb : b < 192) : (runeBytes b = [b] ∧ b < 128) ∨ (runeBytes b ≠ [b] ∧ ¬ b < 128) := by
  have ho : runeOkN b = true := by simp [runeOkN]; omega
  by_cases hl : b < 128
  · left
    exact ⟨by rw [runeBytes, if_pos ho, if_pos hl], hl⟩
  · right
    refine ⟨fun e => ?_, hl⟩
    have := congrArg List.length e
    rw [bytes_len, if_pos ho, if_neg hl, if_pos (by omega)] at this
    simp at this

theorem dec_end (s : ByteArray) (k : Nat) (h : k + rsize (bt s k) ≤ s.size) (hc : ∀ i, 1 ≤ i → i < rsize (bt s k) → contB (bt s (k + i)) = true) :
    (runeBytes (racc s k (rsize (bt s k))) = btake s k (rsize (bt s k)) ∧ Utf8.decode s k = (racc s k (rsize (bt s k)), rsize (bt s k)) ∧ badD (Utf8.decode s k) = false) ∨
    (runeBytes (racc s k (rsize (bt s k))) ≠ btake s k (rsize (bt s k)) ∧ badD (Utf8.decode s k) = true) := by
  have hb := bt_lt s k
  have key : ∀ i, 1 ≤ i → i < rsize (bt s k) → 128 ≤ bt s (k + i) ∧ bt s (k + i) ≤ 191 := fun i h1 h2 => by
    have := hc i h1 h2; simpa [contB] using this
  rw [decode_eq]
  by_cases g4 : 240 ≤ bt s k
  · have e : rsize (bt s k) = 4 := by simp [rsize, g4]
    rw [e] at h key ⊢
    have k1 := key 1 (by omega) (by omega); have k2 := key 2 (by omega) (by omega); have k3 := key 3 (by omega) (by omega)
    obtain ⟨n, hn⟩ : ∃ n, n = racc s k 4 := ⟨_, rfl⟩
    have hn2 : n = 64 * (64 * (64 * (bt s k - 240) + (bt s (k + 1) - 128)) + (bt s (k + 2) - 128)) + (bt s (k + 3) - 128) := by rw [hn]; show 64 * (64 * (64 * rhead (bt s k) + _) + _) + _ = _; rw [rhead, if_pos g4]
    have ht : btake s k 4 = [bt s k, bt s (k + 1), bt s (k + 2), bt s (k + 3)] := by simp [btake]
    rw [← hn, ht, if_neg (by omega), if_neg (by simp; omega), if_neg (by simp; omega)]
    have hcc : bt s k / 8 = 30 → bt s k % 8 * 262144 + bt s (k + 1) % 64 * 4096 + bt s (k + 2) % 64 * 64 + bt s (k + 3) % 64 = n := by omega
    rcases end4 _ _ _ _ n hb g4 k1 k2 k3 hn2 with ⟨a1, a2, a3, a4⟩ | ⟨a1, a2⟩
    · left
      rw [if_pos (by simp; omega), hcc a2, if_pos (by simp [a4]; omega)]
      exact ⟨a1, rfl, by simp [badD]⟩
    · right
      refine ⟨a1, ?_⟩
      split
      · rename_i hx
        have hx8 : bt s k / 8 = 30 := by simp at hx; omega
        rw [hcc hx8, if_neg (by simpa using a2 hx8)]; rfl
      · rfl
  by_cases g3 : 224 ≤ bt s k
  · have e : rsize (bt s k) = 3 := by simp [rsize, g4, g3]
    rw [e] at h key ⊢
    have k1 := key 1 (by omega) (by omega); have k2 := key 2 (by omega) (by omega)
    obtain ⟨n, hn⟩ : ∃ n, n = racc s k 3 := ⟨_, rfl⟩
    have hn2 : n = 64 * (64 * (bt s k - 224) + (bt s (k + 1) - 128)) + (bt s (k + 2) - 128) := by rw [hn]; show 64 * (64 * rhead (bt s k) + _) + _ = _; rw [rhead, if_neg g4, if_pos g3]
    have ht : btake s k 3 = [bt s k, bt s (k + 1), bt s (k + 2)] := by simp [btake]
    have hcc : bt s k % 16 * 4096 + bt s (k + 1) % 64 * 64 + bt s (k + 2) % 64 = n := by omega
    rw [← hn, ht, if_neg (by omega), if_neg (by simp; omega), if_pos (by simp; omega), hcc]
    rcases end3 _ _ _ n g3 (by omega) k1 k2 hn2 with ⟨a1, a3, a4⟩ | ⟨a1, a2⟩
    · left
      rw [if_pos (by simp [a4]; omega)]
      exact ⟨a1, rfl, by simp [badD]⟩
    · right
      rw [if_neg (by simpa using a2)]
      exact ⟨a1, rfl⟩
  by_cases g2 : 192 ≤ bt s k
  · have e : rsize (bt s k) = 2 := by simp [rsize, g4, g3, g2]
    rw [e] at h key ⊢
    have k1 := key 1 (by omega) (by omega)
    obtain ⟨n, hn⟩ : ∃ n, n = racc s k 2 := ⟨_, rfl⟩
    have hn2 : n = 64 * (bt s k - 192) + (bt s (k + 1) - 128) := by rw [hn]; show 64 * rhead (bt s k) + _ = _; rw [rhead, if_neg g4, if_neg g3, if_pos g2]
    have ht : btake s k 2 = [bt s k, bt s (k + 1)] := by simp [btake]
    have hcc : bt s k % 32 * 64 + bt s (k + 1) % 64 = n := by omega
    rw [← hn, ht, if_neg (by omega), if_pos (by simp; omega), hcc]
    rcases end2 _ _ n g2 (by omega) k1 hn2 with ⟨a1, a3⟩ | ⟨a1, a2⟩
    · left
      rw [if_pos (by omega)]
      exact ⟨a1, rfl, by simp [badD]⟩
    · right
      rw [if_neg (by omega)]
      exact ⟨a1, rfl⟩
  · have e : rsize (bt s k) = 1 := by simp [rsize, g4, g3, g2]
    rw [e]
    have hn : racc s k 1 = bt s k := by show rhead (bt s k) = _; rw [rhead, if_neg g4, if_neg g3, if_neg g2]
    have ht : btake s k 1 = [bt s k] := by simp [btake]
    rw [hn, ht]
    rcases end1 (bt s k) (by omega) with ⟨a1, a2⟩ | ⟨a1, a2⟩
    · left
      rw [if_pos a2]
      exact ⟨a1, rfl, by simp [badD]; omega⟩
    · right
      rw [if_neg a2, if_neg (by simp; omega), if_neg (by simp; omega), if_neg (by simp; omega)]
      exact ⟨a1, rfl⟩

end Go.Proofs.YtbjialckijphiaaDoor
