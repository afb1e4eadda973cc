/- Ind, Bare, LinB, merged. -/
import Derived.Test.YtomhbbchflblpaaGreatDoorMem
import Derived.Test.YtomhbbchflblpaaGreatDoorConv
import Derived.Test.YtomhbbchflblpaaGreatDoorRuneP
import Derived.Test.YtomhbbchflblpaaGreatDoorLay
import Derived.Lib.TrimByte
import Derived.Lib.LaidU8
import Derived.Test.YtomhbbchflblpaaGreatDoorVC
import Derived.Test.YtomhbbchflblpaaGreatDoorVE
namespace Go.Proofs.YtomhbbchflblpaaGreatDoor
open Go.RowKit

def ind (l : List UInt8) : Nat := (l.takeWhile (· == 32)).length
theorem ind_eq : ∀ (l : List UInt8) (j : Nat), j ≤ l.length → (∀ i, i < j → l.getD i 0 = 32) → (j < l.length → l.getD j 0 ≠ 32) → ind l = j
  | [], j, hj, _, _ => by
    simp at hj; subst hj; rfl
  | b :: r, 0, _, _, h => by
    have h1 : b ≠ 32 := h (by simp)
    simp [ind, h1]
  | b :: r, j + 1, hj, ha, h => by
    have h1 : b = 32 := ha 0 (by omega)
    have ih := ind_eq r j (by simpa using hj) (fun i hi => ha (i + 1) (by omega)) (fun hl => h (by simpa using hl))
    subst h1
    simp only [ind] at ih ⊢
    simp [ih]
theorem ind_le (l : List UInt8) : ind l ≤ l.length := (List.takeWhile_sublist _).length_le
theorem trim_drop : ∀ l : List UInt8, Lib.trimLeftB l 32 = l.drop (ind l)
  | [] => rfl
  | b :: r => by
    have ih := trim_drop r
    unfold Lib.trimLeftB ind at ih ⊢
    by_cases h : b = 32
    · subst h; simp; exact ih
    · simp [h]
theorem ext_drop (t : ByteArray) (n : Nat) : t.extract n t.size = ⟨(t.data.toList.drop n).toArray⟩ := by
  apply ByteArray.ext
  apply Array.ext'
  have h := Lib.extract_data t n t.size
  rw [h, List.take_of_length_le (by simp)]
/-- What stands behind place k, without the blanks ahead of it. -/
def restB (s : ByteArray) (k : Nat) : ByteArray := ⟨((s.extract k s.size).data.toList.drop (ind (s.extract k s.size).data.toList)).toArray⟩

theorem iTrim (t : ByteArray) (w : World) : Calls Tryz.prog 43 #[.string t, .string ⟨#[32]⟩] w fun e w' => e = .returned (.string ⟨(t.data.toList.drop (ind t.data.toList)).toArray⟩) ∧ w = w' := by
  have h := Tryz.strings_TrimLeft_one t 32 (by decide) w
  rw [trim_drop] at h
  exact h.mono fun e w' ⟨h1, h2⟩ => ⟨h1, h2.symm⟩
theorem rest_def (s : ByteArray) (k : Nat) : (⟨((s.extract k s.size).data.toList.drop (ind (s.extract k s.size).data.toList)).toArray⟩ : ByteArray) = restB s k := rfl

theorem ind_cons (r : List UInt8) : ind (32 :: r) = 1 + ind r := by simp [ind]; omega
theorem restB_size (s : ByteArray) (k : Nat) (h : k ≤ s.size) : (restB s k).size + (k + ind (s.extract k s.size).data.toList) = s.size := by
  have h1 := ind_le (s.extract k s.size).data.toList
  have h2 : (s.extract k s.size).data.toList.length = s.size - k := by
    have : (s.extract k s.size).data.toList.length = (s.extract k s.size).size := by simp
    rw [this, ByteArray.size_extract]; omega
  have h3 : (restB s k).size = ((s.extract k s.size).data.toList.drop (ind (s.extract k s.size).data.toList)).length := by
    show (restB s k).data.size = _
    rw [restB]; simp
  rw [h3, List.length_drop]
  omega

end Go.Proofs.YtomhbbchflblpaaGreatDoor
namespace Go.Proofs.YtomhbbchflblpaaGreatDoor
open Go.RowKit

def fst (s : ByteArray) (i : Nat) : Bool := decide (i = 0) || bt s (i - 1) == 32
/-- Where the bare line ends, from a place on, inside quotes or not. -/
def bareF (s : ByteArray) : Nat → Nat → Bool → Nat
  | 0, _, _ => s.size
  | f + 1, i, true => if s.size ≤ i then s.size else if bt s i = 92 then bareF s f (i + 2) true else if bt s i = 34 then bareF s f (i + 1) false else bareF s f (i + 1) true
  | f + 1, i, false => if s.size ≤ i then s.size else if fst s i = true ∧ bt s i = 34 then bareF s f (i + 1) true else if fst s i = true ∧ bt s i = 35 then i else bareF s f (i + 1) false
theorem bareF_le (s : ByteArray) : ∀ f i q, bareF s f i q ≤ s.size
  | 0, _, _ => Nat.le_refl _
  | f + 1, i, true => by
    rw [bareF]
    by_cases h : s.size ≤ i
    · rw [if_pos h]; exact Nat.le_refl _
    rw [if_neg h]
    by_cases h1 : bt s i = 92
    · rw [if_pos h1]; exact bareF_le s f _ _
    rw [if_neg h1]
    by_cases h2 : bt s i = 34
    · rw [if_pos h2]; exact bareF_le s f _ _
    · rw [if_neg h2]; exact bareF_le s f _ _
  | f + 1, i, false => by
    rw [bareF]
    by_cases h : s.size ≤ i
    · rw [if_pos h]; exact Nat.le_refl _
    rw [if_neg h]
    by_cases h1 : fst s i = true ∧ bt s i = 34
    · rw [if_pos h1]; exact bareF_le s f _ _
    rw [if_neg h1]
    by_cases h2 : fst s i = true ∧ bt s i = 35
    · rw [if_pos h2]; omega
    · rw [if_neg h2]; exact bareF_le s f _ _
def BAt (s : ByteArray) (E i : Nat) (q : Bool) : Prop := ∃ f, s.size < i + f ∧ bareF s f i q = E
theorem bat_le {s : ByteArray} {E i : Nat} {q : Bool} (h : BAt s E i q) : E ≤ s.size := by
  obtain ⟨f, -, rfl⟩ := h; exact bareF_le _ _ _ _
theorem bareF_out {s : ByteArray} {f i : Nat} {q : Bool} (h : s.size ≤ i) : bareF s f i q = s.size := by
  cases f with
  | zero => rfl
  | succ f => cases q <;> rw [bareF, if_pos h]
theorem bat_out {s : ByteArray} {E i : Nat} {q : Bool} (h : BAt s E i q) (hi : s.size ≤ i) : E = s.size := by
  obtain ⟨f, -, rfl⟩ := h; exact bareF_out hi
theorem bat_end (s : ByteArray) (i : Nat) (q : Bool) (hi : s.size ≤ i) : BAt s s.size i q := ⟨1, by omega, bareF_out hi⟩
theorem bat_q92 {s : ByteArray} {E i : Nat} (h : BAt s E i true) (hi : i < s.size) (hb : bt s i = 92) : BAt s E (i + 2) true := by
  obtain ⟨f, hf, he⟩ := h
  cases f with
  | zero => omega
  | succ f => rw [bareF, if_neg (by omega), if_pos hb] at he; exact ⟨f, by omega, he⟩
theorem bat_q34 {s : ByteArray} {E i : Nat} (h : BAt s E i true) (hi : i < s.size) (hb : bt s i = 34) : BAt s E (i + 1) false := by
  obtain ⟨f, hf, he⟩ := h
  cases f with
  | zero => omega
  | succ f => rw [bareF, if_neg (by omega), if_neg (by omega), if_pos hb] at he; exact ⟨f, by omega, he⟩
theorem bat_qn {s : ByteArray} {E i : Nat} (h : BAt s E i true) (hi : i < s.size) (hb : bt s i ≠ 92) (hc : bt s i ≠ 34) : BAt s E (i + 1) true := by
  obtain ⟨f, hf, he⟩ := h
  cases f with
  | zero => omega
  | succ f => rw [bareF, if_neg (by omega), if_neg hb, if_neg hc] at he; exact ⟨f, by omega, he⟩
theorem bat_n34 {s : ByteArray} {E i : Nat} (h : BAt s E i false) (hi : i < s.size) (hf : fst s i = true) (hb : bt s i = 34) : BAt s E (i + 1) true := by
  obtain ⟨f, hf', he⟩ := h
  cases f with
  | zero => omega
  | succ f => rw [bareF, if_neg (by omega), if_pos ⟨hf, hb⟩] at he; exact ⟨f, by omega, he⟩
theorem bat_n35 {s : ByteArray} {E i : Nat} (h : BAt s E i false) (hi : i < s.size) (hf : fst s i = true) (hb : bt s i = 35) : i = E := by
  obtain ⟨f, hf', he⟩ := h
  cases f with
  | zero => omega
  | succ f => rw [bareF, if_neg (by omega), if_neg (fun hh => by have := hh.2; omega), if_pos ⟨hf, hb⟩] at he; exact he
theorem bat_nn {s : ByteArray} {E i : Nat} (h : BAt s E i false) (hi : i < s.size) (hn : fst s i = false ∨ (bt s i ≠ 34 ∧ bt s i ≠ 35)) : BAt s E (i + 1) false := by
  obtain ⟨f, hf', he⟩ := h
  cases f with
  | zero => omega
  | succ f =>
    rw [bareF, if_neg (by omega), if_neg (fun hh => by rcases hn with g | g; (· rw [g] at hh; cases hh.1); exact g.1 hh.2), if_neg (fun hh => by rcases hn with g | g; (· rw [g] at hh; cases hh.1); exact g.2 hh.2)] at he
    exact ⟨f, by omega, he⟩
theorem fst_zero (s : ByteArray) : fst s 0 = true := rfl
theorem fst_pos {s : ByteArray} {k : Nat} (h : 0 < k) (hk : k - 1 < s.size) : fst s k = ((s[k - 1].toNat : Int) == 32) := by
  rw [fst, decide_eq_false (by omega), Bool.false_or, bt_eq s _ hk]
  by_cases g : s[k - 1].toNat = 32
  · rw [g]; rfl
  · rw [beq_eq_false_iff_ne.2 g, beq_eq_false_iff_ne.2 (by omega)]
def bareE (s : ByteArray) : Nat := bareF s (s.size + 1) 0 false
theorem bat_start (s : ByteArray) : BAt s (bareE s) 0 false := ⟨s.size + 1, by omega, rfl⟩
def bareB (s : ByteArray) : ByteArray := ⟨(Lib.trimRightB (s.extract 0 (bareE s)).data.toList 32).toArray⟩
theorem bare_at {s : ByteArray} {E j : Nat} (hE : E = bareE s) (hj : j ≤ E) (h1 : ∀ i, j ≤ i → i < E → bt s i = 32) (h2 : 0 < j → bt s (j - 1) ≠ 32) : s.extract 0 j = bareB s := by
  have hle : E ≤ s.size := by rw [hE]; exact bareF_le _ _ _ _
  have hlen : s.data.toList.length = s.size := by simp
  have hget : ∀ (i : Nat) b, s.data.toList[i]? = some b → b.toNat = bt s i := by
    intro i b hb
    have hi : i < s.size := by
      have := (List.getElem?_eq_some_iff.1 hb).1; omega
    rw [bt_eq s i hi]
    have : s.data.toList[i]? = some s[i] := by
      rw [List.getElem?_eq_getElem (by omega)]; rfl
    rw [hb] at this; cases this; rfl
  have ht := Lib.trimRightB_take (s.data.toList.take E) 32 j (by rw [List.length_take]; omega)
    (fun i b hi hb => by
      rw [List.getElem?_take] at hb
      split at hb
      · rename_i hlt
        have g := hget i b hb
        rw [h1 i hi hlt] at g
        exact UInt8.toNat_inj.1 g
      · cases hb)
    (fun b hpos hb he => by
      rw [List.getElem?_take] at hb
      split at hb
      · have g := hget _ b hb
        rw [he] at g
        exact h2 hpos g.symm
      · cases hb)
  rw [bareB, ← hE, Lib.extract_upto s E]
  show _ = (⟨(Lib.trimRightB (s.data.toList.take E) 32).toArray⟩ : ByteArray)
  rw [ht, List.take_take, Nat.min_eq_left hj, Lib.extract_upto]

set_option maxHeartbeats 1000000 in
theorem iQuoteEnd (s : ByteArray) (E k : Nat) (w : World) (hs : s.size ≤ 1048576) (hk : k < s.size) (hA : BAt s E (k + 1) true) : Calls Tryz.prog 84 #[.string s, .int .i64 k] w fun e w' => (∃ j : Nat, e = .returned (.int .i64 j) ∧ k < j ∧ j ≤ s.size + 1 ∧ BAt s E (j + 1) false) ∧ w = w' := by
  have HA := Lib.hid hA; clear hA
  go_enter Tryz.func84, Tryz.ntmps84
  go_wp2
  go_loop [1] (fun i => ∃ j : Nat, i = .int .i64 j ∧ k < j ∧ j ≤ s.size + 1 ∧ Hid (BAt s E j true)) (fun i => s.size + 2 - (intOf i).toNat)
  case atStart => exact ⟨k + 1, by go_num, by omega, by omega, HA⟩
  case round =>
    obtain ⟨j, rfl, hkj, hjs, hB⟩ := hrel
    by_cases hlt : j < s.size
    rotate_left
    · have H := Lib.hid (show BAt s E (j + 1) false by
        rw [bat_out hB.out (by omega)]; exact bat_end s _ _ (by omega))
      go_wp2
      go_ret
      exact ⟨⟨j, rfl, hkj, hjs, H.out⟩, rfl⟩
    have hq := bt_eq s j hlt
    cases h34 : ((s[j].toNat : Int) == 34)
    rotate_left
    · have h34' : ((s[j].toNat : Int) != 34) = false := by rw [bne, h34]; rfl
      have H := Lib.hid (bat_q34 hB.out hlt (by rw [beq_iff_eq] at h34; omega))
      clear hq
      go_wp2
      go_ret
      exact ⟨⟨j, rfl, hkj, hjs, H.out⟩, rfl⟩
    have h34' : ((s[j].toNat : Int) != 34) = true := by rw [bne, h34]; rfl
    have n34 : bt s j ≠ 34 := by rw [beq_eq_false_iff_ne] at h34; omega
    cases h92 : ((s[j].toNat : Int) == 92)
    · have H := Lib.hid (bat_qn hB.out hlt (by rw [beq_eq_false_iff_ne] at h92; omega) n34)
      clear hq n34
      go_wp2
      go_round
      case rel => exact ⟨j + 1, by go_num, by omega, by omega, H⟩
      case measure => simp [intOf] <;> omega
    · have H := Lib.hid (bat_q92 hB.out hlt (by rw [beq_iff_eq] at h92; omega))
      clear hq n34
      go_wp2
      go_round
      case rel => exact ⟨j + 2, by go_num, by omega, by omega, H⟩
      case measure => simp [intOf] <;> omega

theorem iTrimR (t : ByteArray) (w : World) (h : t.size ≤ 1048576) : Calls Tryz.prog 85 #[.string t, .string ⟨#[32]⟩] w fun e w' => e = .returned (.string ⟨(Lib.trimRightB t.data.toList 32).toArray⟩) ∧ w = w' :=
  (Tryz.strings_TrimRight_one t 32 (by decide) w (Nat.le_trans h (by decide))).mono fun e w' ⟨h1, h2⟩ => ⟨h1, h2.symm⟩

set_option maxHeartbeats 2000000 in
theorem iBareLine (s : ByteArray) (w : World) (hs : s.size ≤ 1048576) : Calls Tryz.prog 44 #[.string s] w fun e w' => e = .returned (.string (bareB s)) ∧ w = w' := by
  obtain ⟨E, hE⟩ : ∃ E, E = bareE s := ⟨_, rfl⟩
  have hEs : E ≤ s.size := by rw [hE]; exact bareF_le _ _ _ _
  have HA := Lib.hid (show BAt s E 0 false by rw [hE]; exact bat_start s)
  have HT := Lib.hid (fun w0 => iTrimR (s.extract 0 E) w0 (by rw [ByteArray.size_extract]; omega))
  rw [show (⟨(Lib.trimRightB (s.extract 0 E).data.toList 32).toArray⟩ : ByteArray) = bareB s by rw [hE]; rfl] at HT
  clear hE
  go_enter Tryz.func44, Tryz.ntmps44
  go_wp2
  go_loop [3, 4] (fun e i => ∃ k : Nat, e = .int .i64 s.size ∧ i = .int .i64 k ∧ k ≤ s.size + 2 ∧ Hid (BAt s E k false)) (fun _ i => s.size + 3 - (intOf i).toNat)
  case atStart => exact ⟨0, rfl, rfl, by omega, HA⟩
  case round =>
    obtain ⟨k, rfl, rfl, hks, hB⟩ := hrel
    by_cases hlt : k < s.size
    rotate_left
    · have hE2 := bat_out hB.out (by omega)
      subst hE2
      have hx : s.extract 0 s.size = s := by simp
      rw [hx] at HT
      go_wp2_with (go_at_call 85; refine (HT.out _).mono ?_; rintro e w' ⟨rfl, rfl⟩)
      go_ret
      exact ⟨rfl, rfl⟩
    have hq := bt_eq s k hlt
    obtain ⟨fs, hfs⟩ : ∃ fs, fs = fst s k := ⟨_, rfl⟩
    have HF := Lib.hid hfs
    have step : ∀ {Q : Prop}, (k = 0 → fs = true → Q) → (∀ (h0 : 0 < k) (hk : k - 1 < s.size), ((s[k - 1].toNat : Int) == 32) = fs → Q) → Q := fun a b => by
      rcases Nat.eq_zero_or_pos k with h | h
      · exact a h (by rw [hfs, h]; rfl)
      · exact b h (by omega) (by rw [hfs, fst_pos h (by omega)])
    clear hfs
    cases fs
    · have H := Lib.hid (bat_nn hB.out hlt (Or.inl HF.out.symm))
      clear hq
      refine step (fun _ h => by cases h) (fun h0 hk1 hp => ?_)
      have hk0 : ((k : Int) == 0) = false := by rw [beq_eq_false_iff_ne]; omega
      clear step
      go_wp2_with fail
      go_round
      case rel => exact ⟨k + 1, rfl, by go_num, by omega, H⟩
      case measure => simp [intOf] <;> omega
    cases h35 : ((s[k].toNat : Int) == 35)
    rotate_left
    · obtain rfl := bat_n35 hB.out hlt HF.out.symm (by rw [beq_iff_eq] at h35; omega)
      clear hq
      refine step (fun h0 _ => ?_) (fun h0 hk1 hp => ?_)
      · subst h0
        have hx : s.extract 0 0 = ByteArray.empty := by simp
        rw [hx] at HT
        clear step
        go_wp2_with (go_at_call 85; refine (HT.out _).mono ?_; rintro e w' ⟨rfl, rfl⟩)
        go_ret
        exact ⟨rfl, rfl⟩
      · have hk0 : ((k : Int) == 0) = false := by rw [beq_eq_false_iff_ne]; omega
        clear step
        go_wp2_with (go_at_call 85; refine (HT.out _).mono ?_; rintro e w' ⟨rfl, rfl⟩)
        go_ret
        exact ⟨rfl, rfl⟩
    have n35 : bt s k ≠ 35 := by rw [beq_eq_false_iff_ne] at h35; omega
    cases h34 : ((s[k].toNat : Int) == 34)
    · have H := Lib.hid (bat_nn hB.out hlt (Or.inr ⟨by rw [beq_eq_false_iff_ne] at h34; omega, n35⟩))
      clear hq n35
      refine step (fun h0 _ => ?_) (fun h0 hk1 hp => ?_)
      · subst h0
        clear step
        go_wp2_with fail
        go_round
        case rel => exact ⟨1, rfl, by go_num, by omega, H⟩
        case measure => simp [intOf] <;> omega
      · have hk0 : ((k : Int) == 0) = false := by rw [beq_eq_false_iff_ne]; omega
        clear step
        go_wp2_with fail
        go_round
        case rel => exact ⟨k + 1, rfl, by go_num, by omega, H⟩
        case measure => simp [intOf] <;> omega
    · have HQ := Lib.hid (fun w0 => iQuoteEnd s E k w0 hs hlt (bat_n34 hB.out hlt HF.out.symm (by rw [beq_iff_eq] at h34; omega)))
      clear hq n35
      refine step (fun h0 _ => ?_) (fun h0 hk1 hp => ?_)
      · subst h0
        clear step
        go_wp2_with (go_at_call 84; refine (HQ.out _).mono ?_; rintro e w' ⟨⟨j, rfl, hj1, hj2, hj3⟩, rfl⟩)
        have H := Lib.hid hj3
        go_round
        case rel => exact ⟨j + 1, rfl, by go_num, by omega, H⟩
        case measure => simp [intOf] <;> omega
      · have hk0 : ((k : Int) == 0) = false := by rw [beq_eq_false_iff_ne]; omega
        clear step
        go_wp2_with (go_at_call 84; refine (HQ.out _).mono ?_; rintro e w' ⟨⟨j, rfl, hj1, hj2, hj3⟩, rfl⟩)
        have H := Lib.hid hj3
        go_round
        case rel => exact ⟨j + 1, rfl, by go_num, by omega, H⟩
        case measure => simp [intOf] <;> omega

end Go.Proofs.YtomhbbchflblpaaGreatDoor
namespace Go.Proofs.YtomhbbchflblpaaGreatDoor
open Go.RowKit

/-! ### A bare line, piece by piece -/
theorem fst_back {T : ByteArray} {P R : List UInt8} (h : T.data.toList = (P ++ [32]) ++ R) : fst T (P ++ [32]).length = true := by
  have h1 : T.data.toList = P ++ ([32] ++ R) := by rw [h, List.append_assoc]
  have h0 := tk_bt h1 0 (by simp)
  simp only [Nat.add_zero, List.cons_append, List.getD_cons_zero] at h0
  have e : (P ++ [(32 : UInt8)]).length - 1 = P.length := by simp
  rw [fst, e, h0]
  simp
theorem scan_safe {T : ByteArray} {E : Nat} : ∀ (l P R : List UInt8), (∀ b ∈ l, b.toNat ≠ 34 ∧ b.toNat ≠ 35) → T.data.toList = P ++ (l ++ R) → BAt T E P.length false → BAt T E (P.length + l.length) false
  | [], P, R, _, _, h => h
  | b :: l, P, R, hb, hT, h => by
    have hsz := tk_size hT
    simp only [List.length_append, List.length_cons] at hsz
    have h0 := tk_bt hT 0 (by simp)
    simp only [Nat.add_zero, List.cons_append, List.getD_cons_zero] at h0
    have h1 := bat_nn h (by omega) (.inr (by rw [h0]; exact hb b (by simp)))
    have := scan_safe l (P ++ [b]) R (fun x hx => hb x (by simp [hx])) (by rw [hT]; simp) (by simpa using h1)
    simp only [List.length_append, List.length_cons, List.length_nil] at this ⊢
    rw [show P.length + (l.length + 1) = P.length + (0 + 1) + l.length by omega]
    exact this
theorem scan_in {T : ByteArray} {E : Nat} : ∀ (l P R : List UInt8), (∀ b ∈ l, b.toNat ≠ 92 ∧ b.toNat ≠ 34) → T.data.toList = P ++ (l ++ R) → BAt T E P.length true → BAt T E (P.length + l.length) true
  | [], P, R, _, _, h => h
  | b :: l, P, R, hb, hT, h => by
    have hsz := tk_size hT
    simp only [List.length_append, List.length_cons] at hsz
    have h0 := tk_bt hT 0 (by simp)
    simp only [Nat.add_zero, List.cons_append, List.getD_cons_zero] at h0
    have h1 := bat_qn h (by omega) (by rw [h0]; exact (hb b (by simp)).1) (by rw [h0]; exact (hb b (by simp)).2)
    have := scan_in l (P ++ [b]) R (fun x hx => hb x (by simp [hx])) (by rw [hT]; simp) (by simpa using h1)
    simp only [List.length_append, List.length_cons, List.length_nil] at this ⊢
    rw [show P.length + (l.length + 1) = P.length + (0 + 1) + l.length by omega]
    exact this
theorem fig_ok (x : Nat) (h : x < 16) : (figB x).toNat ≠ 92 ∧ (figB x).toNat ≠ 34 ∧ 32 ≤ (figB x).toNat := by
  unfold figB
  split
  · simp; omega
  · simp; omega
theorem scan_two {T : ByteArray} {E : Nat} (c : UInt8) (l P R : List UInt8) (hl : ∀ b ∈ l, b.toNat ≠ 92 ∧ b.toNat ≠ 34) (hT : T.data.toList = P ++ (92 :: c :: l ++ R)) (h : BAt T E P.length true) : BAt T E (P.length + (92 :: c :: l).length) true := by
  have hsz := tk_size hT
  simp only [List.length_append, List.length_cons, List.cons_append] at hsz
  have h0 := tk_bt hT 0 (by simp)
  simp only [Nat.add_zero, List.cons_append, List.getD_cons_zero] at h0
  have h1 := bat_q92 h (by omega) h0
  have := scan_in l (P ++ [92, c]) R hl (by rw [hT]; simp) (by simpa using h1)
  simp only [List.length_append, List.length_cons, List.length_nil] at this ⊢
  rw [show P.length + (l.length + 1 + 1) = P.length + (0 + 1 + 1) + l.length by omega]
  exact this
theorem escB_form (b : UInt8) : (escB b = [b] ∧ b.toNat ≠ 92 ∧ b.toNat ≠ 34 ∧ 32 ≤ b.toNat) ∨ ∃ c l, escB b = 92 :: c :: l ∧ 32 ≤ c.toNat ∧ ∀ x ∈ l, x.toNat ≠ 92 ∧ x.toNat ≠ 34 ∧ 32 ≤ x.toNat := by
  have h1 := fig_ok (b.toNat / 16 % 16) (by omega)
  have h2 := fig_ok (b.toNat % 16) (by omega)
  have e : b.toNat / 16 % 16 = b.toNat / 16 := by have := b.toNat_lt; omega
  rw [e] at h1
  unfold escB
  iterate 7 (split; · exact .inr ⟨_, _, rfl, by decide, by simp⟩)
  split
  · refine .inr ⟨_, _, rfl, by decide, fun x hx => ?_⟩
    simp only [List.mem_cons, List.mem_nil_iff, or_false] at hx
    rcases hx with rfl | rfl | rfl | rfl
    · decide
    · decide
    · exact h1
    · exact h2
  · rename_i n1 n2 _ _ _ _ _ n8
    refine .inl ⟨rfl, fun h => n2 ?_, fun h => n1 ?_, by omega⟩
    · exact UInt8.toNat_inj.1 h
    · exact UInt8.toNat_inj.1 h
theorem scan_flat {T : ByteArray} {E : Nat} : ∀ (l P R : List UInt8), T.data.toList = P ++ (l.flatMap escB ++ R) → BAt T E P.length true → BAt T E (P.length + (l.flatMap escB).length) true
  | [], P, R, _, h => h
  | b :: l, P, R, hT, h => by
    rw [List.flatMap_cons, List.append_assoc] at hT
    have h1 : BAt T E (P.length + (escB b).length) true := by
      rcases escB_form b with ⟨e, e1, e2, -⟩ | ⟨c, m, e, -, hm⟩
      · rw [e] at hT ⊢; exact scan_in [b] P _ (by simp; exact ⟨e1, e2⟩) hT h
      · rw [e] at hT ⊢; exact scan_two c m P _ (fun x hx => ⟨(hm x hx).1, (hm x hx).2.1⟩) hT h
    have := scan_flat l (P ++ escB b) R (by rw [hT]; simp only [List.append_assoc]) (by rw [List.length_append]; exact h1)
    rw [List.length_append] at this
    rw [List.flatMap_cons, List.length_append, ← Nat.add_assoc]
    exact this
theorem qL_form {s : ByteArray} (h : (runesO s).isSome = true) : qL s = [34] ++ (s.data.toList.flatMap escB ++ [34]) := by
  rw [qL_eq h, escTo, List.take_of_length_le (by simp)]; rfl
/-- From a place where a word may begin, scanning l ends outside quotes. -/
def Scan (l : List UInt8) : Prop := ∀ (T : ByteArray) (P R : List UInt8) (E : Nat), T.data.toList = P ++ (l ++ R) → fst T P.length = true → BAt T E P.length false → BAt T E (P.length + l.length) false
theorem Scan.safe {l : List UInt8} (h : ∀ b ∈ l, b.toNat ≠ 34 ∧ b.toNat ≠ 35) : Scan l := fun _ P R _ hT _ hb => scan_safe l P R h hT hb
theorem Scan.quoted {s : ByteArray} (h : (runesO s).isSome = true) : Scan (qL s) := fun T P R E hT hf hb => by
  rw [qL_form h] at hT ⊢
  have hsz := tk_size hT
  simp only [List.length_append, List.length_cons, List.length_nil] at hsz
  have h0 := tk_bt hT 0 (by simp)
  simp only [Nat.add_zero, List.cons_append, List.nil_append, List.getD_cons_zero] at h0
  have h1 := bat_n34 hb (by omega) hf h0
  have hT2 : T.data.toList = (P ++ [34]) ++ (s.data.toList.flatMap escB ++ ([34] ++ R)) := by rw [hT]; simp only [List.append_assoc]
  have h2 := scan_flat s.data.toList (P ++ [34]) _ hT2 (by simpa using h1)
  have hT3 : T.data.toList = ((P ++ [34]) ++ s.data.toList.flatMap escB) ++ ([34] ++ R) := by rw [hT2]; simp only [List.append_assoc]
  have h3 := tk_bt hT3 0 (by simp)
  simp only [Nat.add_zero, List.cons_append, List.nil_append, List.getD_cons_zero] at h3
  have h4 := bat_q34 (by rw [← List.length_append] at h2; exact h2) (by simp only [List.length_append, List.length_cons, List.length_nil]; omega) h3
  simp only [List.length_append, List.length_cons, List.length_nil] at h4 ⊢
  rw [show P.length + (0 + 1 + ((s.data.toList.flatMap escB).length + (0 + 1))) = P.length + (0 + 1) + (s.data.toList.flatMap escB).length + 1 by omega]
  exact h4
theorem Scan.tail {l m : List UInt8} (h : Scan l) (hm : ∀ b ∈ m, b.toNat ≠ 34 ∧ b.toNat ≠ 35) : Scan (l ++ m) := fun T P R E hT hf hb => by
  rw [List.append_assoc] at hT
  have h1 := h T P _ E hT hf hb
  have := scan_safe m (P ++ l) R hm (by rw [hT]; simp only [List.append_assoc]) (by rw [List.length_append]; exact h1)
  rw [List.length_append] at this
  rw [List.length_append, ← Nat.add_assoc]; exact this
/-- A piece that ends in a blank, then another one. -/
theorem Scan.next {l m : List UInt8} (h : Scan (l ++ [32])) (k : Scan m) : Scan ((l ++ [32]) ++ m) := fun T P R E hT hf hb => by
  rw [List.append_assoc] at hT
  have h1 := h T P _ E hT hf hb
  have hT2 : T.data.toList = (P ++ (l ++ [32])) ++ (m ++ R) := by rw [hT]; simp only [List.append_assoc]
  have hT3 : T.data.toList = ((P ++ l) ++ [32]) ++ (m ++ R) := by rw [hT]; simp only [List.append_assoc]
  have hf2 := fst_back hT3
  have := k T (P ++ (l ++ [32])) R E hT2 (by rw [← List.append_assoc]; exact hf2) (by have e1 : (P ++ (l ++ [32])).length = P.length + (l ++ [32]).length := List.length_append; rw [e1]; exact h1)
  have e1 : (P ++ (l ++ [32])).length = P.length + (l ++ [32]).length := List.length_append
  have e2 : ((l ++ [32]) ++ m).length = (l ++ [32]).length + m.length := List.length_append
  rw [e1] at this
  rw [e2, ← Nat.add_assoc]; exact this
structure LOk (l : List UInt8) : Prop where
  scan : Scan l
  last : ∃ m b, l = m ++ [b] ∧ b.toNat ≠ 32
  low : ∀ b ∈ l, 32 ≤ b.toNat
  val : ValidL l
theorem LOk.pre {a l : List UInt8} (ha : Scan (a ++ [32])) (hlow : ∀ b ∈ a, 32 ≤ b.toNat) (hv : ValidL a) (h : LOk l) : LOk ((a ++ [32]) ++ l) := by
  obtain ⟨m, b, e, hb⟩ := h.last
  refine ⟨Scan.next ha h.scan, ⟨(a ++ [32]) ++ m, b, by rw [e]; simp only [List.append_assoc], hb⟩, fun x hx => ?_, (hv.app (ValidL.low (by simp))).app h.val⟩
  simp only [List.mem_append, List.mem_singleton] at hx
  rcases hx with (hx | rfl) | hx
  · exact hlow x hx
  · decide
  · exact h.low x hx
theorem LOk.post {a : List UInt8} (h : LOk a) : LOk (a ++ [58]) := by
  refine ⟨h.scan.tail (by simp), ⟨a, 58, rfl, by decide⟩, fun x hx => ?_, h.val.app (ValidL.low (by simp))⟩
  simp only [List.mem_append, List.mem_singleton] at hx
  rcases hx with hx | rfl
  · exact h.low x hx
  · decide
theorem LOk.safe {m : List UInt8} {b : UInt8} (hb : b.toNat ≠ 32) (h : ∀ x ∈ m ++ [b], 36 ≤ x.toNat ∧ x.toNat < 128) : LOk (m ++ [b]) :=
  ⟨Scan.safe (fun x hx => by have := h x hx; omega), ⟨m, b, rfl, hb⟩, fun x hx => by have := h x hx; omega, ValidL.low (fun x hx => (h x hx).2)⟩
theorem plain_byte {s : ByteArray} (h : plainAll s = true) : ∀ b ∈ s.data.toList, 32 ≤ b.toNat ∧ b.toNat ≠ 34 ∧ b.toNat ≠ 35 := by
  simp only [plainAll, plainB, Bool.and_eq_true] at h
  obtain ⟨-, -, -, -, -, h5, -⟩ := h
  intro b hb
  obtain ⟨i, hi, rfl⟩ := List.getElem_of_mem hb
  have hi2 : i < s.size := by simpa using hi
  have := List.all_eq_true.1 h5 i (List.mem_range.2 hi2)
  simp only [okC, charBad, Bool.not_eq_true', Bool.or_eq_false_iff, beq_eq_false_iff_ne, decide_eq_false_iff_not] at this
  have e : bt s i = (s.data.toList[i]).toNat := by rw [bt_eq s i hi2]; rfl
  rw [e] at this
  omega
theorem LOk.key {s : ByteArray} (hv : (runesO s).isSome = true) : LOk (keyTextB s).data.toList := by
  unfold keyTextB
  cases hp : plainAll s
  · rw [if_neg (by simp)]
    show LOk (qL s)
    have hq := qL_form hv
    refine ⟨Scan.quoted hv, ⟨[34] ++ s.data.toList.flatMap escB, 34, by rw [hq, List.append_assoc], by decide⟩, fun x hx => ?_, ValidL.q hv⟩
    rw [hq] at hx
    simp only [List.mem_append, List.mem_singleton, List.mem_flatMap] at hx
    rcases hx with rfl | ⟨b, hb, hx⟩ | rfl
    · decide
    · rcases escB_form b with ⟨e, e1, e2, e3⟩ | ⟨c, m, e, e1, hm⟩
      · rw [e] at hx; simp only [List.mem_singleton] at hx; subst hx; exact e3
      · rw [e] at hx
        simp only [List.mem_cons] at hx
        rcases hx with rfl | rfl | hx
        · decide
        · exact e1
        · exact (hm x hx).2.2
    · decide
  · rw [if_pos rfl]
    have hb := plain_byte hp
    have h1 := hp
    simp only [plainAll, Bool.and_eq_true, betweenB, decide_eq_true_eq, Bool.not_eq_true', beq_eq_false_iff_ne] at h1
    obtain ⟨⟨h2, -⟩, -, -, h3, -⟩ := h1
    have hpos : 0 < s.data.toList.length := by simp; omega
    refine ⟨Scan.safe (fun x hx => (hb x hx).2), ⟨s.data.toList.dropLast, s.data.toList.getLast (List.length_pos_iff.1 hpos), (List.dropLast_concat_getLast _).symm, ?_⟩, fun x hx => (hb x hx).1, ValidL.of hv⟩
    rw [List.getLast_eq_getElem]
    have e : bt s (s.size - 1) = (s.data.toList[s.data.toList.length - 1]).toNat := by
      rw [bt_eq s _ (by simp at hpos; omega)]
      have : s.size - 1 = s.data.toList.length - 1 := by simp
      simp only [this]; rfl
    rw [← e]; exact h3
theorem itoa_bytes (n : Int) (h1 : -9223372036854775808 ≤ n) : Lib.itoa n ≠ [] ∧ ∀ b ∈ Lib.itoa n, 45 ≤ b.toNat ∧ b.toNat ≤ 57 := by
  have key : ∀ m : Nat, Lib.decDigits m ≠ [] ∧ ∀ b ∈ Lib.decDigits m, 45 ≤ b.toNat ∧ b.toNat ≤ 57 := fun m => by
    obtain ⟨hc, -, -⟩ := dec_canon m m (Nat.le_refl _)
    exact ⟨hc.ne, fun b hb => by have := isDg_iff.1 (hc.dg b hb); omega⟩
  by_cases hn : n < 0
  · obtain ⟨m, hm⟩ := Int.eq_ofNat_of_zero_le (show 0 ≤ -n by omega)
    obtain rfl : n = -(m : Int) := by omega
    rw [itoa_neg m (by omega)]
    refine ⟨by simp, fun b hb => ?_⟩
    rcases List.mem_cons.1 hb with rfl | hb
    · decide
    · exact (key m).2 b hb
  · obtain ⟨m, rfl⟩ := Int.eq_ofNat_of_zero_le (show 0 ≤ n by omega)
    rw [itoa_pos m]; exact key m
theorem LOk.num (n : Int) (h1 : -9223372036854775808 ≤ n) : LOk (Lib.itoa n) := by
  obtain ⟨hne, hb⟩ := itoa_bytes n h1
  have e := List.dropLast_concat_getLast hne
  have hl := hb _ (List.getLast_mem hne)
  have := LOk.safe (m := (Lib.itoa n).dropLast) (b := (Lib.itoa n).getLast hne) (by omega) (fun x hx => by rw [e] at hx; have := hb x hx; omega)
  rw [e] at this; exact this
theorem LOk.scal {k : Int} {f : Bool} {n : Int} {s : ByteArray} (h1 : -9223372036854775808 ≤ n) (hv : (runesO s).isSome = true) : LOk (scalTB k f n s).data.toList := by
  unfold scalTB
  split
  · exact LOk.safe (m := [110, 117, 108]) (b := 108) (by decide) (by decide)
  split
  · split
    · exact LOk.safe (m := [116, 114, 117]) (b := 101) (by decide) (by decide)
    · exact LOk.safe (m := [102, 97, 108, 115]) (b := 101) (by decide) (by decide)
  split
  · exact LOk.num n h1
  split
  · exact LOk.key hv
  split
  · exact LOk.safe (m := [91]) (b := 93) (by decide) (by decide)
  · exact LOk.safe (m := [123]) (b := 125) (by decide) (by decide)
theorem LOk.two {l : ByteArray} (h : LOk l.data.toList) : LOk (twoSp l).data.toList := by
  have : (twoSp l).data.toList = ([32] ++ [32]) ++ l.data.toList := by simp [twoSp]
  rw [this]
  exact LOk.pre (Scan.safe (by simp)) (by simp) (ValidL.low (by simp)) h
theorem LOk.dash {l : ByteArray} (h : LOk l.data.toList) : LOk ((⟨#[45, 32]⟩ : ByteArray) ++ l).data.toList := by
  have : ((⟨#[45, 32]⟩ : ByteArray) ++ l).data.toList = ([45] ++ [32]) ++ l.data.toList := by simp
  rw [this]
  exact LOk.pre (Scan.safe (by simp)) (by simp) (ValidL.low (by simp)) h
theorem LOk.pair {key l : ByteArray} (hk : (runesO key).isSome = true) (h : LOk l.data.toList) : LOk ((keyTextB key ++ ⟨#[58, 32]⟩) ++ l).data.toList := by
  have hK := LOk.key hk
  have : ((keyTextB key ++ ⟨#[58, 32]⟩) ++ l).data.toList = (((keyTextB key).data.toList ++ [58]) ++ [32]) ++ l.data.toList := by simp
  rw [this]
  refine LOk.pre ?_ hK.post.low hK.post.val h
  rw [List.append_assoc]
  exact hK.scan.tail (by simp)
theorem LOk.colon {key : ByteArray} (hk : (runesO key).isSome = true) : LOk (keyTextB key ++ ⟨#[58]⟩).data.toList := by
  have : (keyTextB key ++ ⟨#[58]⟩).data.toList = (keyTextB key).data.toList ++ [58] := by simp
  rw [this]
  exact (LOk.key hk).post
/-! ### The bare line of such a line, and of one with a remark behind it -/
theorem bare_self {l : ByteArray} (h : LOk l.data.toList) : bareB l = l := by
  have hlen : l.data.toList.length = l.size := by simp
  have h1 := h.scan l [] [] (bareE l) (by simp) rfl (bat_start l)
  have hE := bat_out h1 (by simp)
  obtain ⟨m, b, e, hb⟩ := h.last
  have hT : l.data.toList = m ++ [b] := e
  have hz : l.size = m.length + 1 := by rw [← hlen, e]; simp
  have h0 := tk_bt hT 0 (by simp)
  simp only [Nat.add_zero, List.getD_cons_zero] at h0
  have := bare_at (s := l) (j := l.size) rfl (by omega) (fun i hi hi2 => by omega) (fun _ => by rw [hz, Nat.add_sub_cancel, h0]; exact hb)
  rw [← this]
  apply ByteArray.ext
  simp
def cmtB : ByteArray := ⟨#[32, 32, 32, 35, 32, 115, 97, 105, 100, 32]⟩
theorem bare_cmt {l : ByteArray} (h : LOk l.data.toList) : bareB (l ++ cmtB) = l := by
  have hlen : l.data.toList.length = l.size := by simp
  obtain ⟨T, hT⟩ : ∃ T, T = l ++ cmtB := ⟨_, rfl⟩
  have hd : T.data.toList = l.data.toList ++ ([32, 32] ++ [32] ++ [35, 32, 115, 97, 105, 100, 32]) := by rw [hT]; simp [cmtB]
  rw [← hT]
  have hsz := tk_size hd
  simp only [List.length_append, List.length_cons, List.length_nil] at hsz
  have h1 := h.scan T [] _ (bareE T) hd rfl (bat_start T)
  simp only [List.length_nil, Nat.zero_add] at h1
  have hd2 : T.data.toList = l.data.toList ++ ([32, 32, 32] ++ [35, 32, 115, 97, 105, 100, 32]) := by rw [hd]; rfl
  have h2 := scan_safe [32, 32, 32] l.data.toList _ (by simp) hd2 h1
  have hd3 : T.data.toList = ((l.data.toList ++ [32, 32]) ++ [32]) ++ [35, 32, 115, 97, 105, 100, 32] := by rw [hd]; simp
  have hf := fst_back hd3
  have h3 := tk_bt hd3 0 (by simp)
  simp only [List.length_append, List.length_cons, List.length_nil, Nat.add_zero, List.getD_cons_zero] at hf h3
  have hE : l.data.toList.length + 3 = bareE T := bat_n35 (by simpa using h2) (by omega) (by rw [← hf]) (by rw [show l.data.toList.length + 3 = l.data.toList.length + (0 + 1 + 1) + (0 + 1) by omega, h3]; rfl)
  obtain ⟨m, b, e, hb⟩ := h.last
  have hz : l.data.toList.length = m.length + 1 := by rw [e]; simp
  have hd4 : T.data.toList = m ++ ([b] ++ ([32, 32] ++ [32] ++ [35, 32, 115, 97, 105, 100, 32])) := by rw [hd, e, List.append_assoc]
  have h0 := tk_bt hd4 0 (by simp)
  simp only [Nat.add_zero, List.cons_append, List.getD_cons_zero] at h0
  have := bare_at (s := T) (E := l.data.toList.length + 3) (j := l.data.toList.length) hE (by omega) (fun i hi hi2 => by
    obtain ⟨j, rfl⟩ : ∃ j, i = l.data.toList.length + j := ⟨i - l.data.toList.length, by omega⟩
    rw [tk_bt hd2 j (by simp; omega)]
    rcases (show j = 0 ∨ j = 1 ∨ j = 2 by omega) with rfl | rfl | rfl <;> rfl) (fun _ => by rw [hz, Nat.add_sub_cancel, h0]; exact hb)
  rw [← this]
  apply ByteArray.ext
  apply Array.ext'
  rw [Lib.extract_upto, hd]
  simp

end Go.Proofs.YtomhbbchflblpaaGreatDoor
