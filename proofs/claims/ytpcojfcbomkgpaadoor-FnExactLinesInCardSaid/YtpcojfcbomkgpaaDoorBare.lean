/- BareLine: contracts of both texts; the law. -/
import Derived.Test.YtpcojfcbomkgpaaDoorInd
namespace Go.Proofs.YtpcojfcbomkgpaaDoor
open Go.RowKit

def fst (s : ByteArray) (i : Nat) : Bool := decide (i = 0) || bt s (i - 1) == 32
/-- Where the bare line ends, from a place on, inside quotes or not. -/
def bareF (s : ByteArray) : Nat → Nat → Bool → Nat
  | 0, _, _ => s.size
  | f + 1, i, true => if s.size ≤ i then s.size else if bt s i = 92 then bareF s f (i + 2) true else if bt s i = 34 then bareF s f (i + 1) false else bareF s f (i + 1) true
  | f + 1, i, false => if s.size ≤ i then s.size else if fst s i = true ∧ bt s i = 34 then bareF s f (i + 1) true else if fst s i = true ∧ bt s i = 35 then i else bareF s f (i + 1) false
theorem bareF_le (s : ByteArray) : ∀ f i q, bareF s f i q ≤ s.size
  | 0, _, _ => Nat.le_refl _
  | f + 1, i, true => by
    rw [bareF]
    by_cases h : s.size ≤ i
    · rw [if_pos h]; exact Nat.le_refl _
    rw [if_neg h]
    by_cases h1 : bt s i = 92
    · rw [if_pos h1]; exact bareF_le s f _ _
    rw [if_neg h1]
    by_cases h2 : bt s i = 34
    · rw [if_pos h2]; exact bareF_le s f _ _
    · rw [if_neg h2]; exact bareF_le s f _ _
  | f + 1, i, false => by
    rw [bareF]
    by_cases h : s.size ≤ i
    · rw [if_pos h]; exact Nat.le_refl _
    rw [if_neg h]
    by_cases h1 : fst s i = true ∧ bt s i = 34
    · rw [if_pos h1]; exact bareF_le s f _ _
    rw [if_neg h1]
    by_cases h2 : fst s i = true ∧ bt s i = 35
    · rw [if_pos h2]; omega
    · rw [if_neg h2]; exact bareF_le s f _ _
def BAt (s : ByteArray) (E i : Nat) (q : Bool) : Prop := ∃ f, s.size < i + f ∧ bareF s f i q = E
theorem bat_le {s : ByteArray} {E i : Nat} {q : Bool} (h : BAt s E i q) : E ≤ s.size := by
  obtain ⟨f, -, rfl⟩ := h; exact bareF_le _ _ _ _
theorem bareF_out {s : ByteArray} {f i : Nat} {q : Bool} (h : s.size ≤ i) : bareF s f i q = s.size := by
  cases f with
  | zero => rfl
  | succ f => cases q <;> rw [bareF, if_pos h]
theorem bat_out {s : ByteArray} {E i : Nat} {q : Bool} (h : BAt s E i q) (hi : s.size ≤ i) : E = s.size := by
  obtain ⟨f, -, rfl⟩ := h; exact bareF_out hi
theorem bat_end (s : ByteArray) (i : Nat) (q : Bool) (hi : s.size ≤ i) : BAt s s.size i q := ⟨1, by omega, bareF_out hi⟩
theorem bat_q92 {s : ByteArray} {E i : Nat} (h : BAt s E i true) (hi : i < s.size) (hb : bt s i = 92) : BAt s E (i + 2) true := by
  obtain ⟨f, hf, he⟩ := h
  cases f with
  | zero => omega
  | succ f => rw [bareF, if_neg (by omega), if_pos hb] at he; exact ⟨f, by omega, he⟩
theorem bat_q34 {s : ByteArray} {E i : Nat} (h : BAt s E i true) (hi : i < s.size) (hb : bt s i = 34) : BAt s E (i + 1) false := by
  obtain ⟨f, hf, he⟩ := h
  cases f with
  | zero => omega
  | succ f => rw [bareF, if_neg (by omega), if_neg (by omega), if_pos hb] at he; exact ⟨f, by omega, he⟩
theorem bat_qn {s : ByteArray} {E i : Nat} (h : BAt s E i true) (hi : i < s.size) (hb : bt s i ≠ 92) (hc : bt s i ≠ 34) : BAt s E (i + 1) true := by
  obtain ⟨f, hf, he⟩ := h
  cases f with
  | zero => omega
  | succ f => rw [bareF, if_neg (by omega), if_neg hb, if_neg hc] at he; exact ⟨f, by omega, he⟩
theorem bat_n34 {s : ByteArray} {E i : Nat} (h : BAt s E i false) (hi : i < s.size) (hf : fst s i = true) (hb : bt s i = 34) : BAt s E (i + 1) true := by
  obtain ⟨f, hf', he⟩ := h
  cases f with
  | zero => omega
  | succ f => rw [bareF, if_neg (by omega), if_pos ⟨hf, hb⟩] at he; exact ⟨f, by omega, he⟩
theorem bat_n35 {s : ByteArray} {E i : Nat} (h : BAt s E i false) (hi : i < s.size) (hf : fst s i = true) (hb : bt s i = 35) : i = E := by
  obtain ⟨f, hf', he⟩ := h
  cases f with
  | zero => omega
  | succ f => rw [bareF, if_neg (by omega), if_neg (fun hh => by have := hh.2; omega), if_pos ⟨hf, hb⟩] at he; exact he
theorem bat_nn {s : ByteArray} {E i : Nat} (h : BAt s E i false) (hi : i < s.size) (hn : fst s i = false ∨ (bt s i ≠ 34 ∧ bt s i ≠ 35)) : BAt s E (i + 1) false := by
  obtain ⟨f, hf', he⟩ := h
  cases f with
  | zero => omega
  | succ f =>
    rw [bareF, if_neg (by omega), if_neg (fun hh => by rcases hn with g | g; (· rw [g] at hh; cases hh.1); exact g.1 hh.2), if_neg (fun hh => by rcases hn with g | g; (· rw [g] at hh; cases hh.1); exact g.2 hh.2)] at he
    exact ⟨f, by omega, he⟩
theorem fst_zero (s : ByteArray) : fst s 0 = true := rfl
theorem fst_pos {s : ByteArray} {k : Nat} (h : 0 < k) (hk : k - 1 < s.size) : fst s k = ((s[k - 1].toNat : Int) == 32) := by
  rw [fst, decide_eq_false (by omega), Bool.false_or, bt_eq s _ hk]
  by_cases g : s[k - 1].toNat = 32
  · rw [g]; rfl
  · rw [beq_eq_false_iff_ne.2 g, beq_eq_false_iff_ne.2 (by omega)]
def bareE (s : ByteArray) : Nat := bareF s (s.size + 1) 0 false
theorem bat_start (s : ByteArray) : BAt s (bareE s) 0 false := ⟨s.size + 1, by omega, rfl⟩
def bareB (s : ByteArray) : ByteArray := ⟨(Lib.trimRightB (s.extract 0 (bareE s)).data.toList 32).toArray⟩
theorem bare_at {s : ByteArray} {E j : Nat} (hE : E = bareE s) (hj : j ≤ E) (h1 : ∀ i, j ≤ i → i < E → bt s i = 32) (h2 : 0 < j → bt s (j - 1) ≠ 32) : s.extract 0 j = bareB s := by
  have hle : E ≤ s.size := by rw [hE]; exact bareF_le _ _ _ _
  have hlen : s.data.toList.length = s.size := by simp
  have hget : ∀ (i : Nat) b, s.data.toList[i]? = some b → b.toNat = bt s i := by
    intro i b hb
    have hi : i < s.size := by
      have := (List.getElem?_eq_some_iff.1 hb).1; omega
    rw [bt_eq s i hi]
    have : s.data.toList[i]? = some s[i] := by
      rw [List.getElem?_eq_getElem (by omega)]; rfl
    rw [hb] at this; cases this; rfl
  have ht := Lib.trimRightB_take (s.data.toList.take E) 32 j (by rw [List.length_take]; omega)
    (fun i b hi hb => by
      rw [List.getElem?_take] at hb
      split at hb
      · rename_i hlt
        have g := hget i b hb
        rw [h1 i hi hlt] at g
        exact UInt8.toNat_inj.1 g
      · cases hb)
    (fun b hpos hb he => by
      rw [List.getElem?_take] at hb
      split at hb
      · have g := hget _ b hb
        rw [he] at g
        exact h2 hpos g.symm
      · cases hb)
  rw [bareB, ← hE, Lib.extract_upto s E]
  show _ = (⟨(Lib.trimRightB (s.data.toList.take E) 32).toArray⟩ : ByteArray)
  rw [ht, List.take_take, Nat.min_eq_left hj, Lib.extract_upto]

set_option maxHeartbeats 1000000 in
theorem iQuoteEnd (s : ByteArray) (E k : Nat) (w : World) (hs : s.size ≤ 1048576) (hk : k < s.size) (hA : BAt s E (k + 1) true) : Calls Tryd.prog 119 #[.string s, .int .i64 k] w fun e w' => (∃ j : Nat, e = .returned (.int .i64 j) ∧ k < j ∧ j ≤ s.size + 1 ∧ BAt s E (j + 1) false) ∧ w = w' := by
  have HA := Lib.hid hA; clear hA
  go_enter Tryd.func119, Tryd.ntmps119
  go_wp2
  go_loop [1] (fun i => ∃ j : Nat, i = .int .i64 j ∧ k < j ∧ j ≤ s.size + 1 ∧ Hid (BAt s E j true)) (fun i => s.size + 2 - (intOf i).toNat)
  case atStart => exact ⟨k + 1, by go_num, by omega, by omega, HA⟩
  case round =>
    obtain ⟨j, rfl, hkj, hjs, hB⟩ := hrel
    by_cases hlt : j < s.size
    rotate_left
    · have H := Lib.hid (show BAt s E (j + 1) false by
        rw [bat_out hB.out (by omega)]; exact bat_end s _ _ (by omega))
      go_wp2
      go_ret
      exact ⟨⟨j, rfl, hkj, hjs, H.out⟩, rfl⟩
    have hq := bt_eq s j hlt
    cases h34 : ((s[j].toNat : Int) == 34)
    rotate_left
    · have h34' : ((s[j].toNat : Int) != 34) = false := by rw [bne, h34]; rfl
      have H := Lib.hid (bat_q34 hB.out hlt (by rw [beq_iff_eq] at h34; omega))
      clear hq
      go_wp2
      go_ret
      exact ⟨⟨j, rfl, hkj, hjs, H.out⟩, rfl⟩
    have h34' : ((s[j].toNat : Int) != 34) = true := by rw [bne, h34]; rfl
    have n34 : bt s j ≠ 34 := by rw [beq_eq_false_iff_ne] at h34; omega
    cases h92 : ((s[j].toNat : Int) == 92)
    · have H := Lib.hid (bat_qn hB.out hlt (by rw [beq_eq_false_iff_ne] at h92; omega) n34)
      clear hq n34
      go_wp2
      go_round
      case rel => exact ⟨j + 1, by go_num, by omega, by omega, H⟩
      case measure => simp [intOf] <;> omega
    · have H := Lib.hid (bat_q92 hB.out hlt (by rw [beq_iff_eq] at h92; omega))
      clear hq n34
      go_wp2
      go_round
      case rel => exact ⟨j + 2, by go_num, by omega, by omega, H⟩
      case measure => simp [intOf] <;> omega

theorem iTrimR (t : ByteArray) (w : World) (h : t.size ≤ 1048576) : Calls Tryd.prog 120 #[.string t, .string ⟨#[32]⟩] w fun e w' => e = .returned (.string ⟨(Lib.trimRightB t.data.toList 32).toArray⟩) ∧ w = w' :=
  (Tryd.strings_TrimRight_one t 32 (by decide) w (Nat.le_trans h (by decide))).mono fun e w' ⟨h1, h2⟩ => ⟨h1, h2.symm⟩

set_option maxHeartbeats 2000000 in
theorem iBareLine (s : ByteArray) (w : World) (hs : s.size ≤ 1048576) : Calls Tryd.prog 60 #[.string s] w fun e w' => e = .returned (.string (bareB s)) ∧ w = w' := by
  obtain ⟨E, hE⟩ : ∃ E, E = bareE s := ⟨_, rfl⟩
  have hEs : E ≤ s.size := by rw [hE]; exact bareF_le _ _ _ _
  have HA := Lib.hid (show BAt s E 0 false by rw [hE]; exact bat_start s)
  have HT := Lib.hid (fun w0 => iTrimR (s.extract 0 E) w0 (by rw [ByteArray.size_extract]; omega))
  rw [show (⟨(Lib.trimRightB (s.extract 0 E).data.toList 32).toArray⟩ : ByteArray) = bareB s by rw [hE]; rfl] at HT
  clear hE
  go_enter Tryd.func60, Tryd.ntmps60
  go_wp2
  go_loop [3, 4] (fun e i => ∃ k : Nat, e = .int .i64 s.size ∧ i = .int .i64 k ∧ k ≤ s.size + 2 ∧ Hid (BAt s E k false)) (fun _ i => s.size + 3 - (intOf i).toNat)
  case atStart => exact ⟨0, rfl, rfl, by omega, HA⟩
  case round =>
    obtain ⟨k, rfl, rfl, hks, hB⟩ := hrel
    by_cases hlt : k < s.size
    rotate_left
    · have hE2 := bat_out hB.out (by omega)
      subst hE2
      have hx : s.extract 0 s.size = s := by simp
      rw [hx] at HT
      go_wp2_with (go_at_call 120; refine (HT.out _).mono ?_; rintro e w' ⟨rfl, rfl⟩)
      go_ret
      exact ⟨rfl, rfl⟩
    have hq := bt_eq s k hlt
    obtain ⟨fs, hfs⟩ : ∃ fs, fs = fst s k := ⟨_, rfl⟩
    have HF := Lib.hid hfs
    have step : ∀ {Q : Prop}, (k = 0 → fs = true → Q) → (∀ (h0 : 0 < k) (hk : k - 1 < s.size), ((s[k - 1].toNat : Int) == 32) = fs → Q) → Q := fun a b => by
      rcases Nat.eq_zero_or_pos k with h | h
      · exact a h (by rw [hfs, h]; rfl)
      · exact b h (by omega) (by rw [hfs, fst_pos h (by omega)])
    clear hfs
    cases fs
    · have H := Lib.hid (bat_nn hB.out hlt (Or.inl HF.out.symm))
      clear hq
      refine step (fun _ h => by cases h) (fun h0 hk1 hp => ?_)
      have hk0 : ((k : Int) == 0) = false := by rw [beq_eq_false_iff_ne]; omega
      clear step
      go_wp2_with fail
      go_round
      case rel => exact ⟨k + 1, rfl, by go_num, by omega, H⟩
      case measure => simp [intOf] <;> omega
    cases h35 : ((s[k].toNat : Int) == 35)
    rotate_left
    · obtain rfl := bat_n35 hB.out hlt HF.out.symm (by rw [beq_iff_eq] at h35; omega)
      clear hq
      refine step (fun h0 _ => ?_) (fun h0 hk1 hp => ?_)
      · subst h0
        have hx : s.extract 0 0 = ByteArray.empty := by simp
        rw [hx] at HT
        clear step
        go_wp2_with (go_at_call 120; refine (HT.out _).mono ?_; rintro e w' ⟨rfl, rfl⟩)
        go_ret
        exact ⟨rfl, rfl⟩
      · have hk0 : ((k : Int) == 0) = false := by rw [beq_eq_false_iff_ne]; omega
        clear step
        go_wp2_with (go_at_call 120; refine (HT.out _).mono ?_; rintro e w' ⟨rfl, rfl⟩)
        go_ret
        exact ⟨rfl, rfl⟩
    have n35 : bt s k ≠ 35 := by rw [beq_eq_false_iff_ne] at h35; omega
    cases h34 : ((s[k].toNat : Int) == 34)
    · have H := Lib.hid (bat_nn hB.out hlt (Or.inr ⟨by rw [beq_eq_false_iff_ne] at h34; omega, n35⟩))
      clear hq n35
      refine step (fun h0 _ => ?_) (fun h0 hk1 hp => ?_)
      · subst h0
        clear step
        go_wp2_with fail
        go_round
        case rel => exact ⟨1, rfl, by go_num, by omega, H⟩
        case measure => simp [intOf] <;> omega
      · have hk0 : ((k : Int) == 0) = false := by rw [beq_eq_false_iff_ne]; omega
        clear step
        go_wp2_with fail
        go_round
        case rel => exact ⟨k + 1, rfl, by go_num, by omega, H⟩
        case measure => simp [intOf] <;> omega
    · have HQ := Lib.hid (fun w0 => iQuoteEnd s E k w0 hs hlt (bat_n34 hB.out hlt HF.out.symm (by rw [beq_iff_eq] at h34; omega)))
      clear hq n35
      refine step (fun h0 _ => ?_) (fun h0 hk1 hp => ?_)
      · subst h0
        clear step
        go_wp2_with (go_at_call 119; refine (HQ.out _).mono ?_; rintro e w' ⟨⟨j, rfl, hj1, hj2, hj3⟩, rfl⟩)
        have H := Lib.hid hj3
        go_round
        case rel => exact ⟨j + 1, rfl, by go_num, by omega, H⟩
        case measure => simp [intOf] <;> omega
      · have hk0 : ((k : Int) == 0) = false := by rw [beq_eq_false_iff_ne]; omega
        clear step
        go_wp2_with (go_at_call 119; refine (HQ.out _).mono ?_; rintro e w' ⟨⟨j, rfl, hj1, hj2, hj3⟩, rfl⟩)
        have H := Lib.hid hj3
        go_round
        case rel => exact ⟨j + 1, rfl, by go_num, by omega, H⟩
        case measure => simp [intOf] <;> omega

set_option maxHeartbeats 2000000 in
theorem sBareLine (s : ByteArray) (w : World) (hs : s.size ≤ 1048576) : Calls Tryd.prog 84 #[.string s] w fun e w' => e = .returned (.string (bareB s)) ∧ w = w' := by
  obtain ⟨E, hE⟩ : ∃ E, E = bareE s := ⟨_, rfl⟩
  have hEs : E ≤ s.size := by rw [hE]; exact bareF_le _ _ _ _
  have HA := Lib.hid (show BAt s E 0 false by rw [hE]; exact bat_start s)
  have HX := Lib.hid (fun j => bare_at (j := j) hE)
  clear hE
  go_enter Tryd.func84, Tryd.ntmps84
  go_wp2
  go_loop [3, 4, 5] (fun e q i => ∃ (n k : Nat) (b : Bool), e = .int .i64 n ∧ q = .bool b ∧ i = .int .i64 k ∧ k ≤ s.size + 2 ∧ n ≤ s.size ∧ Hid ((n = s.size ∧ BAt s E k b) ∨ (n = E ∧ k = n + 1))) (fun _ _ i => s.size + 3 - (intOf i).toNat)
  case atStart => exact ⟨s.size, 0, false, rfl, rfl, rfl, by omega, by omega, Lib.hid (Or.inl ⟨rfl, HA.out⟩)⟩
  case round =>
    obtain ⟨n, k, b, rfl, rfl, rfl, hks, hns, hr⟩ := hrel
    by_cases hlt : k < n
    rotate_left
    · obtain rfl : n = E := by
        rcases hr.out with ⟨h1, h2⟩ | ⟨h1, _⟩
        · rw [bat_out h2 (by omega)]; exact h1
        · exact h1
      go_wp2
      go_loop [3] (fun e => ∃ j : Nat, e = .int .i64 j ∧ j ≤ n ∧ Hid (∀ i, j ≤ i → i < n → bt s i = 32)) (fun i => (intOf i).toNat)
      case atStart => exact ⟨n, rfl, by omega, Lib.hid (fun i h1 h2 => by omega)⟩
      case round =>
        obtain ⟨j, rfl, hjn, hall⟩ := hrel
        rcases Nat.eq_zero_or_pos j with h0 | h0
        · subst h0
          have H := Lib.hid (show ByteArray.empty = bareB s by rw [← HX.out 0 (by omega) hall.out (fun h => by omega)]; simp)
          go_wp2
          go_ret
          exact ⟨ret_str H.out, rfl⟩
        have hj1 : j - 1 < s.size := by omega
        have hq := bt_eq s (j - 1) hj1
        cases h32 : ((s[j - 1].toNat : Int) == 32)
        · have H := Lib.hid (HX.out j hjn hall.out (fun _ => by rw [beq_eq_false_iff_ne] at h32; omega))
          clear hq
          go_wp2
          go_ret
          exact ⟨ret_str H.out, rfl⟩
        · have H := Lib.hid (show ∀ i, j - 1 ≤ i → i < n → bt s i = 32 from fun i h1 h2 => by
            rcases Nat.lt_or_ge i j with h | h
            · obtain rfl : i = j - 1 := by omega
              rw [beq_iff_eq] at h32; omega
            · exact hall.out i h h2)
          clear hq
          go_wp2
          go_round
          case rel => exact ⟨j - 1, by go_num, by omega, H⟩
          case measure => simp [intOf] <;> omega
    obtain ⟨rfl, hB⟩ : n = s.size ∧ BAt s E k b := by
      rcases hr.out with h | ⟨h1, h2⟩
      · exact h
      · omega
    have hBH := Lib.hid hB
    have hq := bt_eq s k hlt
    obtain ⟨fs, hfs⟩ : ∃ fs, fs = fst s k := ⟨_, rfl⟩
    have HF := Lib.hid hfs
    have step : ∀ {Q : Prop}, (k = 0 → fs = true → Q) → (∀ (h0 : 0 < k) (hk : k - 1 < s.size), ((s[k - 1].toNat : Int) == 32) = fs → Q) → Q := fun a b => by
      rcases Nat.eq_zero_or_pos k with h | h
      · exact a h (by rw [hfs, h]; rfl)
      · exact b h (by omega) (by rw [hfs, fst_pos h (by omega)])
    clear hfs hr hB
    cases b
    · cases h34 : ((s[k].toNat : Int) == 34) <;> cases h35 : ((s[k].toNat : Int) == 35) <;> cases fs
      · have q34 : bt s k ≠ 34 := by rw [beq_eq_false_iff_ne] at h34; omega
        have q35 : bt s k ≠ 35 := by rw [beq_eq_false_iff_ne] at h35; omega
        have H := Lib.hid (bat_nn hBH.out hlt (Or.inl HF.out.symm))
        clear hq q34 q35
        refine step (fun _ h => by cases h) (fun h0 hk1 hp => ?_)
        · have hk0 : ((k : Int) == 0) = false := by rw [beq_eq_false_iff_ne]; omega
          clear step
          go_wp2_with fail
          go_round
          case rel => exact ⟨s.size, k + 1, false, rfl, rfl, by go_num, by omega, by omega, Lib.hid (Or.inl ⟨rfl, H.out⟩)⟩
          case measure => simp [intOf] <;> omega
      · have q34 : bt s k ≠ 34 := by rw [beq_eq_false_iff_ne] at h34; omega
        have q35 : bt s k ≠ 35 := by rw [beq_eq_false_iff_ne] at h35; omega
        have H := Lib.hid (bat_nn hBH.out hlt (Or.inr ⟨q34, q35⟩))
        clear hq q34 q35
        refine step (fun h0 _ => ?_) (fun h0 hk1 hp => ?_)
        · subst h0
          clear step
          go_wp2_with fail
          go_round
          case rel => exact ⟨s.size, 1, false, rfl, rfl, by go_num, by omega, by omega, Lib.hid (Or.inl ⟨rfl, H.out⟩)⟩
          case measure => simp [intOf] <;> omega
        · have hk0 : ((k : Int) == 0) = false := by rw [beq_eq_false_iff_ne]; omega
          clear step
          go_wp2_with fail
          go_round
          case rel => exact ⟨s.size, k + 1, false, rfl, rfl, by go_num, by omega, by omega, Lib.hid (Or.inl ⟨rfl, H.out⟩)⟩
          case measure => simp [intOf] <;> omega
      · have q34 : bt s k ≠ 34 := by rw [beq_eq_false_iff_ne] at h34; omega
        have q35 : bt s k = 35 := by rw [beq_iff_eq] at h35; omega
        have H := Lib.hid (bat_nn hBH.out hlt (Or.inl HF.out.symm))
        clear hq q34 q35
        refine step (fun _ h => by cases h) (fun h0 hk1 hp => ?_)
        · have hk0 : ((k : Int) == 0) = false := by rw [beq_eq_false_iff_ne]; omega
          clear step
          go_wp2_with fail
          go_round
          case rel => exact ⟨s.size, k + 1, false, rfl, rfl, by go_num, by omega, by omega, Lib.hid (Or.inl ⟨rfl, H.out⟩)⟩
          case measure => simp [intOf] <;> omega
      · have q34 : bt s k ≠ 34 := by rw [beq_eq_false_iff_ne] at h34; omega
        have q35 : bt s k = 35 := by rw [beq_iff_eq] at h35; omega
        have H := Lib.hid (bat_n35 hBH.out hlt HF.out.symm q35)
        clear hq q34 q35
        refine step (fun h0 _ => ?_) (fun h0 hk1 hp => ?_)
        · subst h0
          clear step
          go_wp2_with fail
          go_round
          case rel => exact ⟨0, 1, false, rfl, rfl, by go_num, by omega, by omega, Lib.hid (Or.inr ⟨H.out, rfl⟩)⟩
          case measure => simp [intOf] <;> omega
        · have hk0 : ((k : Int) == 0) = false := by rw [beq_eq_false_iff_ne]; omega
          clear step
          go_wp2_with fail
          go_round
          case rel => exact ⟨k, k + 1, false, rfl, rfl, by go_num, by omega, by omega, Lib.hid (Or.inr ⟨H.out, rfl⟩)⟩
          case measure => simp [intOf] <;> omega
      · have q34 : bt s k = 34 := by rw [beq_iff_eq] at h34; omega
        have q35 : bt s k ≠ 35 := by rw [beq_eq_false_iff_ne] at h35; omega
        have H := Lib.hid (bat_nn hBH.out hlt (Or.inl HF.out.symm))
        clear hq q34 q35
        refine step (fun _ h => by cases h) (fun h0 hk1 hp => ?_)
        · have hk0 : ((k : Int) == 0) = false := by rw [beq_eq_false_iff_ne]; omega
          clear step
          go_wp2_with fail
          go_round
          case rel => exact ⟨s.size, k + 1, false, rfl, rfl, by go_num, by omega, by omega, Lib.hid (Or.inl ⟨rfl, H.out⟩)⟩
          case measure => simp [intOf] <;> omega
      · have q34 : bt s k = 34 := by rw [beq_iff_eq] at h34; omega
        have q35 : bt s k ≠ 35 := by rw [beq_eq_false_iff_ne] at h35; omega
        have H := Lib.hid (bat_n34 hBH.out hlt HF.out.symm q34)
        clear hq q34 q35
        refine step (fun h0 _ => ?_) (fun h0 hk1 hp => ?_)
        · subst h0
          clear step
          go_wp2_with fail
          go_round
          case rel => exact ⟨s.size, 1, true, rfl, rfl, by go_num, by omega, by omega, Lib.hid (Or.inl ⟨rfl, H.out⟩)⟩
          case measure => simp [intOf] <;> omega
        · have hk0 : ((k : Int) == 0) = false := by rw [beq_eq_false_iff_ne]; omega
          clear step
          go_wp2_with fail
          go_round
          case rel => exact ⟨s.size, k + 1, true, rfl, rfl, by go_num, by omega, by omega, Lib.hid (Or.inl ⟨rfl, H.out⟩)⟩
          case measure => simp [intOf] <;> omega
      · exfalso; rw [beq_iff_eq] at h34 h35; omega
      · exfalso; rw [beq_iff_eq] at h34 h35; omega
    · cases h92 : ((s[k].toNat : Int) == 92) <;> cases h34 : ((s[k].toNat : Int) == 34)
      · have q34 : bt s k ≠ 34 := by rw [beq_eq_false_iff_ne] at h34; omega
        have q92 : bt s k ≠ 92 := by rw [beq_eq_false_iff_ne] at h92; omega
        have h34' : ((s[k].toNat : Int) != 34) = true := by rw [bne, h34]; rfl
        have H := Lib.hid (bat_qn hBH.out hlt q92 q34)
        clear hq q34 q92
        refine step (fun h0 _ => ?_) (fun h0 hk1 hp => ?_)
        · subst h0
          clear step
          go_wp2_with fail
          go_round
          case rel => exact ⟨s.size, 1, true, rfl, rfl, by go_num, by omega, by omega, Lib.hid (Or.inl ⟨rfl, H.out⟩)⟩
          case measure => simp [intOf] <;> omega
        · have hk0 : ((k : Int) == 0) = false := by rw [beq_eq_false_iff_ne]; omega
          clear step
          go_wp2_with fail
          go_round
          case rel => exact ⟨s.size, k + 1, true, rfl, rfl, by go_num, by omega, by omega, Lib.hid (Or.inl ⟨rfl, H.out⟩)⟩
          case measure => simp [intOf] <;> omega
      · have q34 : bt s k = 34 := by rw [beq_iff_eq] at h34; omega
        have q92 : bt s k ≠ 92 := by rw [beq_eq_false_iff_ne] at h92; omega
        have h34' : ((s[k].toNat : Int) != 34) = false := by rw [bne, h34]; rfl
        have H := Lib.hid (bat_q34 hBH.out hlt q34)
        clear hq q34 q92
        refine step (fun h0 _ => ?_) (fun h0 hk1 hp => ?_)
        · subst h0
          clear step
          go_wp2_with fail
          go_round
          case rel => exact ⟨s.size, 1, false, rfl, rfl, by go_num, by omega, by omega, Lib.hid (Or.inl ⟨rfl, H.out⟩)⟩
          case measure => simp [intOf] <;> omega
        · have hk0 : ((k : Int) == 0) = false := by rw [beq_eq_false_iff_ne]; omega
          clear step
          go_wp2_with fail
          go_round
          case rel => exact ⟨s.size, k + 1, false, rfl, rfl, by go_num, by omega, by omega, Lib.hid (Or.inl ⟨rfl, H.out⟩)⟩
          case measure => simp [intOf] <;> omega
      · have q34 : bt s k ≠ 34 := by rw [beq_eq_false_iff_ne] at h34; omega
        have q92 : bt s k = 92 := by rw [beq_iff_eq] at h92; omega
        have h34' : ((s[k].toNat : Int) != 34) = true := by rw [bne, h34]; rfl
        have H := Lib.hid (bat_q92 hBH.out hlt q92)
        clear hq q34 q92
        refine step (fun h0 _ => ?_) (fun h0 hk1 hp => ?_)
        · subst h0
          clear step
          go_wp2_with fail
          go_round
          case rel => exact ⟨s.size, 2, true, rfl, rfl, by go_num, by omega, by omega, Lib.hid (Or.inl ⟨rfl, H.out⟩)⟩
          case measure => simp [intOf] <;> omega
        · have hk0 : ((k : Int) == 0) = false := by rw [beq_eq_false_iff_ne]; omega
          clear step
          go_wp2_with fail
          go_round
          case rel => exact ⟨s.size, k + 2, true, rfl, rfl, by go_num, by omega, by omega, Lib.hid (Or.inl ⟨rfl, H.out⟩)⟩
          case measure => simp [intOf] <;> omega
      · exfalso; rw [beq_iff_eq] at h34 h92; omega

end Go.Proofs.YtpcojfcbomkgpaaDoor
