/- ScalP, ScaQ, merged. -/
import Derived.Test.YtomhbbchflblpaaGreatDoorVB
import Derived.Test.YtomhbbchflblpaaGreatDoorVA
import Derived.Test.YtomhbbchflblpaaGreatDoorVC
import Derived.Test.YtomhbbchflblpaaGreatDoorVF
namespace Go.Proofs.YtomhbbchflblpaaGreatDoor
open Go.RowKit

structure Sc where
  kind : Int
  flag : Bool
  num : Int
  text : ByteArray
def noB : ByteArray := ⟨#[]⟩
def scTail (s : ByteArray) : Option Sc := if plainAll s = true then some ⟨4, false, 0, s⟩ else none
def scNum (s : ByteArray) : Option Sc := match whoQ s 0 with
  | none => scTail s
  | some (n, e) => if e = s.size then some ⟨3, false, n, noB⟩ else scTail s
def scQuote (s : ByteArray) : Option Sc := match readQ s 0 with
  | none => none
  | some (l, e) => if e = s.size ∧ l.length ≤ 400 then some ⟨4, false, 0, ⟨l.toArray⟩⟩ else none
def scalO (s : ByteArray) : Option Sc :=
  if (s.toList == [91, 93]) = true then some ⟨5, false, 0, noB⟩
  else if (s.toList == [123, 125]) = true then some ⟨6, false, 0, noB⟩
  else if (s.toList == [110, 117, 108, 108]) = true then some ⟨1, false, 0, noB⟩
  else if (s.toList == [126]) = true then some ⟨1, false, 0, noB⟩
  else if (s.toList == [116, 114, 117, 101]) = true then some ⟨2, true, 0, noB⟩
  else if (s.toList == [102, 97, 108, 115, 101]) = true then some ⟨2, false, 0, noB⟩
  else if 0 < s.size ∧ bt s 0 = 34 then scQuote s
  else scNum s
def scK : Option Sc → Int | none => 0 | some x => x.kind
def scF : Option Sc → Bool | none => false | some x => x.flag
def scN : Option Sc → Int | none => 0 | some x => x.num
def scT : Option Sc → ByteArray | none => noB | some x => x.text
/-- The answer of ReadScalar and Inline. -/
def ScalV (o : Option Sc) (w : World) (e : Ending) (w' : World) : Prop :=
  e = .returned (.tuple #[.agg #[.int .i64 (scK o), .bool (scF o), .int .i64 (scN o), .string (scT o), .slice none 0 0, .slice none 0 0], .bool o.isSome]) ∧ Below w.heap.size w w'
def ScalP (s : ByteArray) (w : World) (e : Ending) (w' : World) : Prop := ScalV (scalO s) w e w'
theorem scalP_none {s : ByteArray} {w w' : World} (h : scalO s = none) (hb : Below w.heap.size w w') :
    ScalP s w (.returned (.tuple #[.agg #[.int .i64 0, .bool false, .int .i64 0, .string ⟨#[]⟩, .slice none 0 0, .slice none 0 0], .bool false])) w' := by
  refine ⟨?_, hb⟩; rw [h]; rfl
theorem scalP_some {s : ByteArray} {w w' : World} {k n : Int} {f : Bool} {t : ByteArray} (h : scalO s = some ⟨k, f, n, t⟩) (hb : Below w.heap.size w w') :
    ScalP s w (.returned (.tuple #[.agg #[.int .i64 k, .bool f, .int .i64 n, .string t, .slice none 0 0, .slice none 0 0], .bool true])) w' := by
  refine ⟨?_, hb⟩; rw [h]; rfl
theorem beqL {s : ByteArray} {l m : List UInt8} (h : (s.toList == l) = true) (hne : l ≠ m) : (s.toList == m) = false := by
  rw [beq_iff_eq] at h
  rw [h]; exact beq_eq_false_iff_ne.2 hne
theorem sc_list {s : ByteArray} (h : (s.toList == [91, 93]) = true) : scalO s = some ⟨5, false, 0, noB⟩ := if_pos h
theorem sc_map {s : ByteArray} (h : (s.toList == [123, 125]) = true) : scalO s = some ⟨6, false, 0, noB⟩ := by
  rw [scalO, beqL h (by decide), h]; rfl
theorem sc_null {s : ByteArray} (h : (s.toList == [110, 117, 108, 108]) = true) : scalO s = some ⟨1, false, 0, noB⟩ := by
  rw [scalO, beqL h (by decide), beqL h (by decide), h]; rfl
theorem sc_tilde {s : ByteArray} (h : (s.toList == [126]) = true) : scalO s = some ⟨1, false, 0, noB⟩ := by
  rw [scalO, beqL h (by decide), beqL h (by decide), beqL h (by decide), h]; rfl
theorem sc_true {s : ByteArray} (h : (s.toList == [116, 114, 117, 101]) = true) : scalO s = some ⟨2, true, 0, noB⟩ := by
  rw [scalO, beqL h (by decide), beqL h (by decide), beqL h (by decide), beqL h (by decide), h]; rfl
theorem sc_false {s : ByteArray} (h : (s.toList == [102, 97, 108, 115, 101]) = true) : scalO s = some ⟨2, false, 0, noB⟩ := by
  rw [scalO, beqL h (by decide), beqL h (by decide), beqL h (by decide), beqL h (by decide), beqL h (by decide), h]; rfl
/-- None of the six words. -/
def noWord (s : ByteArray) : Prop := (s.toList == [91, 93]) = false ∧ (s.toList == [123, 125]) = false ∧ (s.toList == [110, 117, 108, 108]) = false ∧ (s.toList == [126]) = false ∧ (s.toList == [116, 114, 117, 101]) = false ∧ (s.toList == [102, 97, 108, 115, 101]) = false
theorem sc_quote {s : ByteArray} (h : noWord s) (hq : 0 < s.size ∧ bt s 0 = 34) : scalO s = scQuote s := by
  obtain ⟨h1, h2, h3, h4, h5, h6⟩ := h
  rw [scalO, h1, h2, h3, h4, h5, h6, if_pos hq]; rfl
theorem sc_num {s : ByteArray} (h : noWord s) (hq : ¬ (0 < s.size ∧ bt s 0 = 34)) : scalO s = scNum s := by
  obtain ⟨h1, h2, h3, h4, h5, h6⟩ := h
  rw [scalO, h1, h2, h3, h4, h5, h6, if_neg hq]; rfl
theorem sc_q_none {s : ByteArray} (h : noWord s) (hq : 0 < s.size ∧ bt s 0 = 34) (hr : readQ s 0 = none) : scalO s = none := by rw [sc_quote h hq, scQuote, hr]
theorem sc_q_bad {s : ByteArray} {l : List UInt8} {e : Nat} (h : noWord s) (hq : 0 < s.size ∧ bt s 0 = 34) (hr : readQ s 0 = some (l, e)) (hb : ¬ (e = s.size ∧ l.length ≤ 400)) : scalO s = none := by rw [sc_quote h hq, scQuote, hr]; exact if_neg hb
theorem sc_q_yes {s : ByteArray} {l : List UInt8} {e : Nat} (h : noWord s) (hq : 0 < s.size ∧ bt s 0 = 34) (hr : readQ s 0 = some (l, e)) (hb : e = s.size ∧ l.length ≤ 400) : scalO s = some ⟨4, false, 0, ⟨l.toArray⟩⟩ := by rw [sc_quote h hq, scQuote, hr]; exact if_pos hb
theorem sc_n_yes {s : ByteArray} {n : Int} {e : Nat} (h : noWord s) (hq : ¬ (0 < s.size ∧ bt s 0 = 34)) (hr : whoQ s 0 = some (n, e)) (hb : e = s.size) : scalO s = some ⟨3, false, n, noB⟩ := by rw [sc_num h hq, scNum, hr]; exact if_pos hb
theorem sc_n_no {s : ByteArray} (h : noWord s) (hq : ¬ (0 < s.size ∧ bt s 0 = 34)) (hr : whoE (whoQ s 0) ≠ s.size ∨ whoE (whoQ s 0) ≤ 0) : scalO s = scTail s := by
  rw [sc_num h hq, scNum]
  cases hw : whoQ s 0 with
  | none => rfl
  | some x =>
    obtain ⟨n, e⟩ := x
    rw [hw] at hr
    simp only [whoE] at hr
    refine if_neg fun he => ?_
    subst he
    have h0 : 0 < s.size := by
      by_cases h0 : 0 < s.size
      · exact h0
      · rw [who_out (by omega)] at hw; cases hw
    omega
theorem sc_plain {s : ByteArray} (h : scalO s = scTail s) (hp : plainAll s = true) : scalO s = some ⟨4, false, 0, s⟩ := by rw [h, scTail, if_pos hp]
theorem sc_no {s : ByteArray} (h : scalO s = scTail s) (hp : plainAll s = false) : scalO s = none := by rw [h, scTail, hp]; rfl

end Go.Proofs.YtomhbbchflblpaaGreatDoor
namespace Go.Proofs.YtomhbbchflblpaaGreatDoor
open Go.RowKit

theorem bytes_ext {a b : ByteArray} (h : a.data.toList = b.data.toList) : a = b := by
  apply ByteArray.ext; apply Array.ext'; exact h
theorem ba_list (s : ByteArray) : s.toList = s.data.toList := ByteArray.toList_eq s
theorem first_bt {s : ByteArray} {l : List UInt8} (h : s.data.toList = l) (hpos : 0 < l.length) : bt s 0 = (l.getD 0 0).toNat := by
  have := tk_bt (T := s) (P := []) (R := l) (by simpa using h) 0 hpos
  simpa using this
theorem noWord_first {s : ByteArray} {l : List UInt8} (h : s.data.toList = l) (h0 : ∀ x r, l = x :: r → x ≠ 91 ∧ x ≠ 123 ∧ x ≠ 110 ∧ x ≠ 126 ∧ x ≠ 116 ∧ x ≠ 102) : noWord s := by
  have e := ba_list s
  rw [h] at e
  have key : ∀ (c : UInt8) (m : List UInt8), (∀ x r, l = x :: r → x ≠ c) → (s.toList == c :: m) = false := fun c m hx => by
    rw [beq_eq_false_iff_ne, e]
    intro he
    exact hx c m he rfl
  exact ⟨key _ _ fun x r hh => (h0 x r hh).1, key _ _ fun x r hh => (h0 x r hh).2.1, key _ _ fun x r hh => (h0 x r hh).2.2.1, key _ _ fun x r hh => (h0 x r hh).2.2.2.1, key _ _ fun x r hh => (h0 x r hh).2.2.2.2.1, key _ _ fun x r hh => (h0 x r hh).2.2.2.2.2⟩
theorem numEnd_nil : NumEnd [] := by unfold NumEnd; decide
/-- A number's text is read as that number. -/
theorem sc_itoa (n : Int) (h1 : -9223372036854775808 ≤ n) (h2 : n ≤ 9223372036854775807) : scalO ⟨(Lib.itoa n).toArray⟩ = some ⟨3, false, n, noB⟩ := by
  obtain ⟨s, hs⟩ : ∃ s : ByteArray, s = ⟨(Lib.itoa n).toArray⟩ := ⟨_, rfl⟩
  have hd : s.data.toList = Lib.itoa n := by rw [hs]
  rw [← hs]
  obtain ⟨hne, hb⟩ := itoa_bytes n h1
  have hpos : 0 < (Lib.itoa n).length := List.length_pos_iff.2 hne
  have hz := tk_size hd
  obtain ⟨hw, -, -⟩ := who_mid n h1 h2 (T := s) (P := []) (R := []) (by simpa using hd) numEnd_nil
  simp only [List.length_nil, Nat.zero_add] at hw
  have hb0 : 45 ≤ bt s 0 ∧ bt s 0 ≤ 57 := by
    rw [first_bt hd hpos]
    have hm : (Lib.itoa n).getD 0 0 ∈ Lib.itoa n := by
      rw [List.getD_eq_getElem?_getD, List.getElem?_eq_getElem hpos]; exact List.getElem_mem _
    exact hb _ hm
  have hnw : noWord s := noWord_first hd (fun x r hh => by
    have := hb x (by rw [hh]; simp)
    refine ⟨?_, ?_, ?_, ?_, ?_, ?_⟩ <;> (rintro rfl; revert this; decide))
  exact sc_n_yes hnw (by omega) hw hz.symm
theorem sc_quoted {s : ByteArray} (hv : (runesO s).isSome = true) (hs : s.size ≤ 400) : scalO ⟨(qL s).toArray⟩ = some ⟨4, false, 0, s⟩ := by
  obtain ⟨q, hq⟩ : ∃ q : ByteArray, q = ⟨(qL s).toArray⟩ := ⟨_, rfl⟩
  have hd : q.data.toList = qL s := by rw [hq]
  rw [← hq]
  have he := qL_eq hv
  have hb := quote_back hv [] [] q (by rw [hd, he]; simp)
  simp only [List.length_nil, Nat.zero_add] at hb
  have hz := tk_size hd
  have h0 : (qL s).getD 0 0 = 34 := by rw [he]; rfl
  have hpos : 0 < (qL s).length := by rw [he]; simp
  have hb0 : bt q 0 = 34 := by rw [first_bt hd hpos, h0]; rfl
  have hnw : noWord q := noWord_first hd (fun x r hh => by
    have : x = 34 := by rw [hh] at h0; simpa using h0
    subst this; decide)
  have hl : s.data.toList.length = s.size := by simp
  have := sc_q_yes hnw ⟨by omega, hb0⟩ hb ⟨by rw [hz, he], by omega⟩
  rw [this]
theorem sc_plainly {s : ByteArray} (hp : plainAll s = true) : scalO s = some ⟨4, false, 0, s⟩ := by
  have h1 := hp
  simp only [plainAll, plainB, Bool.and_eq_true, Bool.not_eq_true', betweenB, decide_eq_true_eq, beq_eq_false_iff_ne] at h1
  obtain ⟨⟨h2, -⟩, -, h3, -, h4, h5, h6, h7⟩ := h1
  have hlen : s.data.toList.length = s.size := by simp
  have hpos : 0 < s.data.toList.length := by omega
  have hbad : ∀ j, j < 17 → bt s 0 ≠ bt badFirst j := fun j hj e => by
    have : firstBad s = true := firstBad_yes hj (by rw [e]; simp)
    rw [h4] at this; cases this
  have hq : ¬ (0 < s.size ∧ bt s 0 = 34) := fun hh => by
    have := (plain_byte hp (s.data.toList[0]) (List.getElem_mem _)).2.1
    rw [bt_eq s 0 (by omega)] at hh
    exact this hh.2
  have hbf : bt s 0 = (s.data.toList[0]).toNat := by rw [bt_eq s 0 (by omega)]; rfl
  simp only [tailB, Bool.and_eq_true, Bool.not_eq_true'] at h7
  obtain ⟨⟨⟨t1, t2⟩, t3⟩, t4⟩ := h7
  have e := ba_list s
  have hnw : noWord s := by
    have key : ∀ (j : Nat) (c : UInt8) (m : List UInt8), j < 17 → bt badFirst j = c.toNat → (s.toList == c :: m) = false := fun j c m hj hc => by
      rw [beq_eq_false_iff_ne, e]
      intro he
      refine hbad j hj ?_
      rw [hc, hbf]
      simp only [he, List.getElem_cons_zero]
    refine ⟨key 4 91 _ (by omega) rfl, key 6 123 _ (by omega) rfl, ?_, ?_, ?_, ?_⟩
    all_goals first | exact t1 | exact t2 | exact t3 | exact t4
  have hno : whoE (whoQ s 0) ≠ s.size ∨ whoE (whoQ s 0) ≤ 0 := by
    cases hw : whoQ s 0 with
    | none => right; decide
    | some x =>
      obtain ⟨n, f⟩ := x
      left
      intro he
      simp only [whoE] at he
      have hin : whoO s 0 = some (n, f) := by
        have := who_in (s := s) (k := 0) (by omega)
        rw [show ((0 : Nat) : Int) = 0 from rfl] at this
        rw [← this]; exact hw
      have h45 : bt s 0 ≠ 45 := fun h => hbad 0 (by omega) (by rw [h]; rfl)
      have hf : whoFrom s 0 = 0 := by rw [whoFrom, if_neg h45]
      have hfend : f = fend s 0 := by
        rw [whoO] at hin
        simp only [hf] at hin
        split at hin
        · cases hin
        · split at hin
          · simp only [Option.some.injEq, Prod.mk.injEq] at hin; exact hin.2.symm
          · cases hin
      have hall : allTo s digitN s.size = true := by
        rw [allTo, List.all_eq_true]
        intro i hi
        have hi := List.mem_range.1 hi
        have hg : ∀ d k, k + d = s.size → dgEnd s d k = s.size → ∀ i, k ≤ i → i < s.size → dgAt s i = true := by
          intro d
          induction d with
          | zero => intro k hk _ i h1 h2; omega
          | succ d ih =>
            intro k hk hd i h1 h2
            rw [dgEnd] at hd
            by_cases hc : k < s.size ∧ dgAt s k = true
            · rw [if_pos hc] at hd
              rcases Nat.eq_or_lt_of_le h1 with rfl | h3
              · exact hc.2
              · exact ih (k + 1) (by omega) hd i h3 h2
            · rw [if_neg hc] at hd; omega
        have := hg s.size 0 (by omega) (by have : fend s 0 = s.size := by omega
                                           simpa [fend] using this) i (by omega) hi
        simpa [digitN, dgAt] using this
      rw [hall] at h6; cases h6
  exact sc_plain (sc_n_no hnw hq hno) hp
theorem sc_key {s : ByteArray} (hv : (runesO s).isSome = true) (hs : s.size ≤ 400) : scalO (keyTextB s) = some ⟨4, false, 0, s⟩ := by
  unfold keyTextB
  cases hp : plainAll s
  · rw [if_neg (by simp)]
    have := sc_quoted hv hs
    have e : (⟨(qL s).toArray⟩ : ByteArray) = quotedB s := by apply bytes_ext; simp [qL]
    rw [e] at this; exact this
  · rw [if_pos rfl]; exact sc_plainly hp
theorem sc_back {k : Int} {f : Bool} {n : Int} {s : ByteArray} (hk : 1 ≤ k ∧ k ≤ 6) (hn : -9223372036854775808 ≤ n ∧ n ≤ 9223372036854775807) (hv : (runesO s).isSome = true) (hs : s.size ≤ 400) (hf : k ≠ 2 → f = false) (hnn : k ≠ 3 → n = 0) (hss : k ≠ 4 → s = noB) :
    scalO (scalTB k f n s) = some ⟨k, f, n, s⟩ := by
  rcases (show k = 1 ∨ k = 2 ∨ k = 3 ∨ k = 4 ∨ k = 5 ∨ k = 6 by omega) with rfl | rfl | rfl | rfl | rfl | rfl
  · rw [scal_null rfl, hf (by omega), hnn (by omega), hss (by omega)]; exact sc_null (by rw [ba_list]; decide)
  · rw [hnn (by omega), hss (by omega)]
    cases f
    · rw [scal_false rfl rfl]; exact sc_false (by rw [ba_list]; decide)
    · rw [scal_true rfl rfl]; exact sc_true (by rw [ba_list]; decide)
  · rw [scal_int rfl, hf (by omega), hss (by omega)]; exact sc_itoa n hn.1 hn.2
  · rw [scal_text rfl, hf (by omega), hnn (by omega)]; exact sc_key hv hs
  · rw [scal_list rfl, hf (by omega), hnn (by omega), hss (by omega)]; exact sc_list (by rw [ba_list]; decide)
  · rw [scal_map rfl, hf (by omega), hnn (by omega), hss (by omega)]; exact sc_map (by rw [ba_list]; decide)

/-! ### The line with blanks ahead and a remark behind -/
theorem line_cmt {l : ByteArray} (h : LOk l.data.toList) : bareB ((⟨#[32, 32]⟩ : ByteArray) ++ l ++ ⟨#[32, 35, 32, 115, 97, 105, 100]⟩) = twoSp l := by
  have h2 := LOk.two h
  obtain ⟨T, hT⟩ : ∃ T, T = (⟨#[32, 32]⟩ : ByteArray) ++ l ++ ⟨#[32, 35, 32, 115, 97, 105, 100]⟩ := ⟨_, rfl⟩
  rw [← hT]
  have hd : T.data.toList = (twoSp l).data.toList ++ ([32] ++ [35, 32, 115, 97, 105, 100]) := by rw [hT]; simp [twoSp]
  generalize twoSp l = u at h2 hd ⊢
  have hlen : u.data.toList.length = u.size := by simp
  have hsz := tk_size hd
  simp only [List.length_append, List.length_cons, List.length_nil] at hsz
  have h1 := h2.scan T [] _ (bareE T) hd rfl (bat_start T)
  simp only [List.length_nil, Nat.zero_add] at h1
  have h3 := scan_safe [32] u.data.toList _ (by simp) hd h1
  have hd3 : T.data.toList = (u.data.toList ++ [32]) ++ [35, 32, 115, 97, 105, 100] := by rw [hd, List.append_assoc]
  have hf := fst_back hd3
  have h4 := tk_bt hd3 0 (by simp)
  simp only [List.length_append, List.length_cons, List.length_nil, Nat.add_zero, List.getD_cons_zero] at hf h4
  have hE : u.data.toList.length + 1 = bareE T := bat_n35 (by simpa using h3) (by omega) (by rw [← hf]) (by rw [show u.data.toList.length + 1 = u.data.toList.length + (0 + 1) by omega, h4]; rfl)
  obtain ⟨m, b, e, hb⟩ := h2.last
  have hz : u.data.toList.length = m.length + 1 := by rw [e]; simp
  have hd4 : T.data.toList = m ++ ([b] ++ ([32] ++ [35, 32, 115, 97, 105, 100])) := by rw [hd, e, List.append_assoc]
  have h0 := tk_bt hd4 0 (by simp)
  simp only [Nat.add_zero, List.cons_append, List.getD_cons_zero] at h0
  have h5 := tk_bt hd 0 (by simp)
  simp only [Nat.add_zero, List.cons_append, List.getD_cons_zero] at h5
  have := bare_at (s := T) (E := u.data.toList.length + 1) (j := u.data.toList.length) hE (by omega) (fun i hi hi2 => by
    obtain rfl : i = u.data.toList.length := by omega
    rw [h5]; rfl) (fun _ => by rw [hz, Nat.add_sub_cancel, h0]; exact hb)
  rw [← this]
  apply bytes_ext
  rw [Lib.extract_upto, hd]
  simp
theorem first_scal {k : Int} {f : Bool} {n : Int} {s : ByteArray} (h1 : -9223372036854775808 ≤ n) (hv : (runesO s).isSome = true) : ∃ b r, (scalTB k f n s).data.toList = b :: r ∧ b ≠ 32 := by
  unfold scalTB
  split
  · exact ⟨110, _, rfl, by decide⟩
  split
  · split
    · exact ⟨116, _, rfl, by decide⟩
    · exact ⟨102, _, rfl, by decide⟩
  split
  · obtain ⟨hne, hb⟩ := itoa_bytes n h1
    cases hi : Lib.itoa n with
    | nil => exact absurd hi hne
    | cons b r =>
      have := hb b (by rw [hi]; simp)
      exact ⟨b, r, rfl, by rintro rfl; revert this; decide⟩
  split
  · unfold keyTextB
    cases hp : plainAll s
    · rw [if_neg (by simp)]
      exact ⟨34, s.data.toList.flatMap escB ++ [34], by show qL s = _; rw [qL_form hv]; rfl, by decide⟩
    · rw [if_pos rfl]
      have h1 := hp
      simp only [plainAll, Bool.and_eq_true, betweenB, decide_eq_true_eq, Bool.not_eq_true', beq_eq_false_iff_ne] at h1
      obtain ⟨⟨h2, -⟩, -, h3, -⟩ := h1
      have hlen : s.data.toList.length = s.size := by simp
      cases hl : s.data.toList with
      | nil => rw [hl] at hlen; simp at hlen; omega
      | cons b r =>
        refine ⟨b, r, rfl, ?_⟩
        rintro rfl
        have := first_bt hl (by simp)
        exact h3 this
  split
  · exact ⟨91, _, rfl, by decide⟩
  · exact ⟨123, _, rfl, by decide⟩
theorem ind_two {l : ByteArray} {b : UInt8} {r : List UInt8} (h : l.data.toList = b :: r) (hb : b ≠ 32) : ind (twoSp l).data.toList = 2 ∧ (twoSp l).extract 2 (twoSp l).size = l := by
  have e : (twoSp l).data.toList = 32 :: 32 :: l.data.toList := by simp [twoSp]
  refine ⟨by rw [e, h]; simp [ind, hb], ?_⟩
  apply bytes_ext
  rw [Lib.extract_from, e]; rfl

end Go.Proofs.YtomhbbchflblpaaGreatDoor
