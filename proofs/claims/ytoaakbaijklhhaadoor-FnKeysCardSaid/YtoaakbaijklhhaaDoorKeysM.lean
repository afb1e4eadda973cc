/- KeysP, DrawK, KeysF, merged. -/
import Derived.Test.YtoaakbaijklhhaaDoorKeyI
import Derived.Test.YtoaakbaijklhhaaDoorItem
import Derived.Test.YtoaakbaijklhhaaDoorQuoB
import Derived.Test.YtoaakbaijklhhaaDoorKeyText
import Derived.Test.YtoaakbaijklhhaaDoorDrawW
namespace Go.Proofs.YtoaakbaijklhhaaDoor
open Go.RowKit

theorem drop_of {T : ByteArray} {P R : List UInt8} (h : T.data.toList = P ++ R) : T.data.toList.drop P.length = R := by rw [h]; simp
theorem size_of {T : ByteArray} {L : List UInt8} (h : T.data.toList = L) : T.size = L.length := by rw [← h]; simp
theorem bt_front {T s : ByteArray} {R : List UInt8} (h : T.data.toList = s.data.toList ++ R) (i : Nat) (hi : i < s.size) : bt T i = bt s i := by
  have hT := size_of h
  have hs : s.data.toList.length = s.size := by simp
  rw [List.length_append, hs] at hT
  rw [bt_eq T i (by omega), bt_eq s i hi]
  have e1 : T.data.toList[i]? = some T[i] := by rw [List.getElem?_eq_getElem (by simp; omega)]; rfl
  have e2 : s.data.toList[i]? = some s[i] := by rw [List.getElem?_eq_getElem (by simp; omega)]; rfl
  rw [h, List.getElem?_append_left (by omega), e2] at e1
  rw [Option.some.inj e1]
theorem bt_back {T : ByteArray} {P R : List UInt8} (h : T.data.toList = P ++ R) (i : Nat) (hi : i < R.length) : bt T (P.length + i) = (R.getD i 0).toNat :=
  bt_at (R := []) (by rw [drop_of h, List.append_nil]) hi
theorem ends_end {T : ByteArray} {P : List UInt8} (h : T.data.toList = P ++ [58]) : P.length < T.size ∧ endsB T P.length = true := by
  have hT := size_of h
  rw [List.length_append] at hT
  have h0 := bt_back h 0 (by simp)
  refine ⟨by simp at hT; omega, ?_⟩
  rw [endsB, show bt T P.length = 58 from h0, decide_eq_true (by simp at hT; omega)]; rfl
theorem ends_mid {T : ByteArray} {P R : List UInt8} (h : T.data.toList = P ++ (58 :: 32 :: R)) : P.length < T.size ∧ endsB T P.length = true := by
  have hT := size_of h
  rw [List.length_append] at hT
  have h0 := bt_back h 0 (by simp)
  have h1 := bt_back h 1 (by simp)
  refine ⟨by simp at hT; omega, ?_⟩
  rw [endsB, show bt T P.length = 58 from h0, show bt T (P.length + 1) = 32 from h1]; simp
theorem rest_end {T : ByteArray} {P : List UInt8} (h : T.data.toList = P ++ [58]) : restB T (P.length + 1) = ⟨#[]⟩ := by
  have e : (T.extract (P.length + 1) T.size).data.toList = [] := by
    rw [Lib.extract_from]
    have := drop_more (drop_of (T := T) (P := P) (R := [58] ++ []) (by simpa using h))
    exact this
  rw [restB, e]; rfl
theorem rest_mid {T : ByteArray} {P : List UInt8} {r : ByteArray} (h : T.data.toList = P ++ (58 :: 32 :: r.data.toList)) (h0 : 0 < r.size) (h32 : bt r 0 ≠ 32) : restB T (P.length + 1) = r := by
  have e : (T.extract (P.length + 1) T.size).data.toList = 32 :: r.data.toList := by
    rw [Lib.extract_from]
    exact drop_more (l := [58]) (drop_of (T := T) (P := P) h)
  have hr : ∃ t, r.data.toList = r[0] :: t := by
    have h2 : 0 < r.data.toList.length := by simpa using h0
    exact ⟨r.data.toList.drop 1, (List.drop_eq_getElem_cons h2 : r.data.toList.drop 0 = _)⟩
  obtain ⟨t, ht⟩ := hr
  have hb : r[0] ≠ 32 := fun e => h32 (by rw [bt_eq r 0 h0, e]; rfl)
  have hi : ind r.data.toList = 0 := by rw [ht]; simp [ind, hb]
  rw [restB, e, ind_cons, hi]
  simp
theorem fe_first {s : ByteArray} {m : Nat} (hm : m < s.size) (he : endsB s m = true) : ∀ d f k, k + d = m → (∀ i, k ≤ i → i < m → endsB s i = false) → s.size < k + f → feFrom s f k = some m
  | 0, f, k, hk, _, hf => by
    obtain rfl : k = m := by omega
    exact fe_hit hm hf he
  | d + 1, f, k, hk, hn, hf => by
    obtain ⟨f', hf', e⟩ := fe_step (by omega) hf (hn k (by omega) (by omega))
    rw [← e]
    exact fe_first hm he d f' (k + 1) (by omega) (fun i h1 h2 => hn i (by omega) h2) hf'
structure PlainF (s : ByteArray) : Prop where
  pos : 1 ≤ s.size
  low : s.size ≤ 400
  noBlank : bt s 0 ≠ 32
  noDash : bt s 0 ≠ 45
  ok : ∀ i, i < s.size → bt s i ≠ 34 ∧ endsB s i = false
theorem plainF {s : ByteArray} (h : plainAll s = true) : PlainF s := by
  simp only [plainAll, plainB, Bool.and_eq_true, Bool.not_eq_true', betweenB, decide_eq_true_eq, beq_eq_false_iff_ne] at h
  obtain ⟨⟨h1, h2⟩, -, h3, -, h4, h5, -, -⟩ := h
  refine ⟨by omega, by omega, h3, fun e => ?_, fun i hi => ?_⟩
  · have : firstBad s = true := firstBad_yes (j := 0) (by omega) (by rw [e]; rfl)
    rw [h4] at this; cases this
  · have := List.all_eq_true.1 h5 i (List.mem_range.2 hi)
    simp only [okC, charBad, Bool.not_eq_true', Bool.or_eq_false_iff, beq_eq_false_iff_ne] at this
    exact ⟨this.1.1.1.2, this.2⟩
/-- A plain key ahead of a colon that ends it. -/
theorem key_plain {T key : ByteArray} {R : List UInt8} (h : T.data.toList = key.data.toList ++ (58 :: R)) (hp : plainAll key = true) (he : key.size < T.size ∧ endsB T key.size = true) : keyO T = some (key, restB T (key.size + 1)) := by
  have hF := plainF hp
  have hne : ∀ i, 0 ≤ i → i < key.size → endsB T i = false := by
    intro i _ hi
    have hk := (hF.ok i hi).2
    have hb := bt_front h i hi
    rw [endsB] at hk ⊢
    rw [hb]
    cases h58 : (bt key i == 58)
    · rfl
    · rw [h58, Bool.true_and] at hk
      simp only [Bool.or_eq_false_iff, decide_eq_false_iff_not] at hk
      rw [Bool.true_and, decide_eq_false (by omega), Bool.false_or]
      rw [bt_front h (i + 1) (by omega)]
      exact hk.2
  have hfe := fe_first he.1 he.2 key.size (T.size + 1) 0 (by omega) hne (by omega)
  have hx : T.extract 0 key.size = key := by
    rw [Lib.extract_upto, h]
    have : key.data.toList.length = key.size := by simp
    rw [List.take_append_of_le_length (by omega), List.take_of_length_le (by omega)]
  have h34 : ¬ (0 < T.size ∧ bt T 0 = 34) := fun hh => by
    have := (hF.ok 0 hF.pos).1
    rw [bt_front h 0 hF.pos] at hh
    exact this hh.2
  have := key_p2 h34 hfe (by rw [hx]; exact hp)
  rw [hx] at this
  exact this
theorem key_quoted {T key : ByteArray} {R : List UInt8} (hv : (runesO key).isSome = true) (h : T.data.toList = (escTo key key.size ++ [34]) ++ R) (he : (escTo key key.size ++ [34]).length < T.size ∧ endsB T (escTo key key.size ++ [34]).length = true) : keyO T = some (key, restB T ((escTo key key.size ++ [34]).length + 1)) := by
  have hq := quote_back hv [] R T (by simpa using h)
  have h0 : bt T 0 = 34 := by
    have := bt_at (k := 0) (i := 0) (l := (escTo key key.size ++ [34])) (R := R) (T := T) (by simpa using h) (by simp [escTo])
    simpa [escTo] using this
  have hq2 : readQ T 0 = some (key.data.toList, (escTo key key.size ++ [34]).length) := by simpa using hq
  have := key_q2 (by omega) h0 hq2 he
  simpa using this
def keyL (key : ByteArray) : List UInt8 := (keyTextB key).data.toList
theorem key_mid {key rest : ByteArray} (hv : (runesO key).isSome = true) (hp : plainAll rest = true) : keyO (keyTextB key ++ ⟨#[58, 32]⟩ ++ rest) = some (key, rest) := by
  have hF := plainF hp
  have h1 : (keyTextB key ++ ⟨#[58, 32]⟩ ++ rest).data.toList = (keyTextB key).data.toList ++ (58 :: 32 :: rest.data.toList) := by simp
  generalize keyTextB key ++ ⟨#[58, 32]⟩ ++ rest = T at h1 ⊢
  have he := ends_mid h1
  have hr := rest_mid h1 (by have := hF.pos; omega) hF.noBlank
  cases hk : plainAll key
  · have e : keyTextB key = ⟨(escTo key key.size ++ [34]).toArray⟩ := by rw [keyTextB, hk, quotedB, if_pos hv]; rfl
    rw [e] at h1 he hr
    rw [key_quoted hv h1 he]
    exact congrArg (fun t => some (key, t)) hr
  · have e : keyTextB key = key := by rw [keyTextB, if_pos hk]
    rw [e] at h1 he hr
    have hl : key.data.toList.length = key.size := by simp
    rw [hl] at he hr
    rw [key_plain h1 hk he]
    exact congrArg (fun t => some (key, t)) hr
theorem key_end {key : ByteArray} (hv : (runesO key).isSome = true) : keyO (keyTextB key ++ ⟨#[58]⟩) = some (key, ⟨#[]⟩) := by
  have h1 : (keyTextB key ++ ⟨#[58]⟩).data.toList = (keyTextB key).data.toList ++ [58] := by simp
  generalize keyTextB key ++ ⟨#[58]⟩ = T at h1 ⊢
  have he := ends_end h1
  have hr := rest_end h1
  cases hk : plainAll key
  · have e : keyTextB key = ⟨(escTo key key.size ++ [34]).toArray⟩ := by rw [keyTextB, hk, quotedB, if_pos hv]; rfl
    rw [e] at h1 he hr
    rw [key_quoted hv h1 he]
    exact congrArg (fun t => some (key, t)) hr
  · have e : keyTextB key = key := by rw [keyTextB, if_pos hk]
    rw [e] at h1 he hr
    have hl : key.data.toList.length = key.size := by simp
    rw [hl] at he hr
    rw [key_plain h1 hk he]
    exact congrArg (fun t => some (key, t)) hr
theorem keyText_size (key : ByteArray) (hs : key.size ≤ 30) : (keyTextB key).size ≤ 200 := by
  have := escTo_len key key.size
  rw [keyTextB]
  split
  · omega
  · rw [quotedB]
    split
    · show (escTo key key.size ++ [34]).toArray.size ≤ 200
      simp; omega
    · show (0 : Nat) ≤ 200; omega
theorem item_front {rest : ByteArray} (hp : plainAll rest = true) : itA (⟨#[45, 32, 32]⟩ ++ rest) = rest ∧ itN (⟨#[45, 32, 32]⟩ ++ rest) = 3 ∧ itB (⟨#[45, 32, 32]⟩ ++ rest) = true := by
  have hF := plainF hp
  have h1 : (⟨#[45, 32, 32]⟩ ++ rest : ByteArray).data.toList = 45 :: 32 :: 32 :: rest.data.toList := by simp
  generalize (⟨#[45, 32, 32]⟩ ++ rest : ByteArray) = T at h1 ⊢
  have hT := size_of h1
  have hr : rest.data.toList.length = rest.size := by simp
  simp only [List.length_cons, hr] at hT
  have hd : isDash T = false := by
    rw [isDash, ByteArray.toList_eq, h1]; rfl
  have b0 : bt T 0 = 45 := bt_back (P := []) (R := 45 :: 32 :: 32 :: rest.data.toList) h1 0 (by simp)
  have b1 : bt T 1 = 32 := by simpa using bt_back (P := []) (R := 45 :: 32 :: 32 :: rest.data.toList) h1 1 (by simp)
  have hi : isItem T = true := by rw [isItem, b0, b1, decide_eq_true (by omega)]; rfl
  have e2 : (T.extract 2 T.size).data.toList = 32 :: rest.data.toList := by
    rw [Lib.extract_from, h1]; rfl
  have hrc : ∃ t, rest.data.toList = rest[0]'(hF.pos) :: t := by
    have h2 : 0 < rest.data.toList.length := by have := hF.pos; omega
    exact ⟨rest.data.toList.drop 1, (List.drop_eq_getElem_cons h2 : rest.data.toList.drop 0 = _)⟩
  obtain ⟨t, ht⟩ := hrc
  have hb : rest[0]'(hF.pos) ≠ 32 := fun e => hF.noBlank (by rw [bt_eq rest 0 hF.pos, e]; rfl)
  have hz : ind rest.data.toList = 0 := by rw [ht]; simp [ind, hb]
  refine ⟨?_, ?_, ?_⟩
  · rw [itA, hd, hi, restB, e2, ind_cons, hz]; simp
  · rw [itN, hd, hi, e2, ind_cons, hz]; rfl
  · rw [itB, hi, Bool.or_true]
theorem item_none {rest : ByteArray} (hp : plainAll rest = true) : itA rest = ⟨#[]⟩ ∧ itN rest = 0 ∧ itB rest = false := by
  have hF := plainF hp
  have hi : isItem rest = false := by
    rw [isItem, beq_eq_false_iff_ne.2 hF.noDash, Bool.false_and, Bool.and_false]
  have hd : isDash rest = false := by
    rw [isDash, ByteArray.toList_eq]
    cases h : (rest.data.toList == [45])
    · rfl
    · exfalso
      rw [beq_iff_eq] at h
      exact hF.noDash (bt_back (P := []) (R := [45]) h 0 (by simp))
  refine ⟨?_, ?_, ?_⟩
  · rw [itA, hd, hi]; rfl
  · rw [itN, hd, hi]; rfl
  · rw [itB, hd, hi]; rfl

end Go.Proofs.YtoaakbaijklhhaaDoor
namespace Go.Proofs.YtoaakbaijklhhaaDoor
open Go.RowKit

theorem l01Long_any (n : Nat) (x : UInt8) (w : World) (hn : n ≤ 1000000) : Calls Tryd.prog 74 #[.int .i64 n, .int .u8 x.toNat] w fun e w' => e = .returned (.string ⟨(List.replicate n x).toArray⟩) ∧ Below w.heap.size w w' := by
  obtain ⟨i0, hi, hz0, hz1, hz2⟩ := info_parts Tryd.infoU8
  have hb2 : i0.bytes * n ≤ 281474976710656 := by rw [hz2]; omega
  have hb3 : n ≤ maxLen := by unfold maxLen; omega
  go_enter Tryd.func74, Tryd.ntmps74
  go_wp2_with (at_make; refine wpList_make_full _ rfl (.tmp 7) (.tmp 7) 29 rfl w.heap.size 5 i0 _ 1 Tryd.underlying29 hi hz0 hz1 .i64 .i64 _ _ n rfl rfl rfl rfl hb2 hb3 (Nat.le_refl _) ?_; intro w1 hown hgrow)
  obtain ⟨F0, hrow0, -, -, -, -⟩ := rowIs_of_owns hown
  have hbel1 : Below w.heap.size w w1 := (Below.refl _ _).grown hgrow (Nat.le_refl _) (fun k hk => by cases hk)
  obtain ⟨g, hg⟩ : ∃ g, g = w.heap.size := ⟨_, rfl⟩
  rw [← hg] at hrow0 ⊢
  have hgle : w.heap.size ≤ g := by omega
  have HG := Lib.hid hg; clear hg hown hgrow
  go_loopw [6] (fun i wr => ∃ k : Nat, k ≤ n ∧ i = .int .i64 k ∧ Below w.heap.size w wr ∧ ∃ F, wr.rowIs g 5 (n * 1) F ∧ ∀ i, i < k → F i = .int .u8 x.toNat) (fun i _ => n - (intOf i).toNat)
  case atStart => exact ⟨0, by omega, rfl, hbel1, F0, hrow0, fun i hi => by omega⟩
  case round =>
    obtain ⟨k, hk, rfl, hb, F, hrow, hF⟩ := hrel
    have HF := Lib.hid hF; clear hF hrow0
    by_cases hlt : k < n
    · have d0 := hrow.cell (i := k) (by omega)
      have f0 := hrow.frozen k
      go_wp2
      go_roundw
      case rel => exact ⟨k + 1, by omega, by go_num, hb.setCell (by omega) _, _, hrow.set k _, fun i hi => by
        show (if i = k then _ else _) = _
        by_cases hik : i = k
        · rw [if_pos hik]
        · rw [if_neg hik]; exact HF.out i (by omega)⟩
      case measure => simp [intOf] <;> omega
    · obtain rfl : k = n := by omega
      have hcv := conv_back wr g k k (List.replicate k x) (by simp) (fun j hj => by
        have hc := hrow.cell (i := j) (by omega)
        rw [HF.out j hj] at hc
        rw [hc, List.getD_eq_getElem?_getD, List.getElem?_replicate, if_pos hj]; rfl)
      go_wp2
      go_ret
      exact ⟨rfl, hb⟩

def wordsL : List ByteArray := [⟨#[97]⟩, ⟨#[97, 58, 32, 98]⟩, ⟨#[45, 32, 97]⟩, ⟨#[45]⟩, ⟨#[34, 97, 58, 32, 98, 34, 58, 32, 99]⟩, ⟨#[34, 97, 32, 35, 34, 32, 35, 32, 98]⟩, ⟨#[97, 35, 98]⟩, ⟨#[97, 32, 35, 98]⟩, ⟨#[35, 32, 97, 108, 108]⟩, ⟨#[32, 32, 120, 58, 32, 49]⟩, ⟨#[107, 58]⟩, ⟨#[107, 58, 32]⟩, ⟨#[34, 107, 34, 58]⟩, ⟨#[34, 107, 34, 32, 58, 32, 49]⟩, ⟨#[45, 32, 45, 32, 49]⟩, ⟨#[45, 32, 32, 97, 58, 32, 98]⟩, ⟨#[110, 117, 108, 108]⟩, ⟨#[126]⟩, ⟨#[49, 50]⟩, ⟨#[45, 53]⟩, ⟨#[53, 48, 48, 109]⟩, ⟨#[97, 32, 34, 98, 32, 35, 99]⟩, ⟨#[97, 92, 98]⟩, ⟨#[34, 97, 92, 34, 32, 35, 32, 98, 34]⟩, ⟨#[91, 93]⟩, ⟨#[107, 58, 32, 91, 93]⟩, ⟨#[39, 113, 39]⟩, ⟨#[97, 58, 98, 58, 32, 99]⟩, ⟨#[58, 32, 120]⟩, ⟨#[195, 169, 58, 32, 195, 188]⟩]
theorem wordsL_ok : wordsL.all (fun t => decide (t.size ≤ 30)) = true := by decide +kernel

set_option maxRecDepth 100000 in
set_option maxHeartbeats 1000000 in
theorem l11Word_any (g : Nat) (w : World) (hC : Cur w g) : Calls Tryd.prog 96 #[.pointer (some ⟨g, 0, none⟩)] w (StrP g (fun t => t.size ≤ 30) w) := by
  have hgl := hC.lt
  have HC := Lib.hid hC; clear hC
  go_enter Tryd.func96, Tryd.ntmps96
  go_wp2_with fail
  refine (l01Pick_any g _ 30 30 (fun i => wordsL.getD i ⟨#[]⟩) (fun t => t.size ≤ 30) _ (by omega) (by omega) (HC.out.alloc _) (lit_strs w wordsL _ rfl) (fun b o h => by cases h; omega) (fun i hi => strs_size wordsL_ok i hi)).mono ?_
  rintro e w3 ⟨t, ht, rfl, hc3, ha3⟩
  have ht30 : t.size ≤ 30 := ht
  clear ht
  go_wp2
  go_ret
  exact ⟨t, ht30, rfl, hc3, ((Apart.refl _ _).alloc _).trans ha3⟩

set_option maxRecDepth 100000 in
set_option maxHeartbeats 1000000 in
theorem l11Line_any (g : Nat) (w : World) (hC : Cur w g) : Calls Tryd.prog 75 #[.pointer (some ⟨g, 0, none⟩)] w (StrP g (fun t => t.size ≤ 40) w) := by
  go_enter Tryd.func75, Tryd.ntmps75
  go_wp2_with fail
  refine (l11Word_any g _ hC).mono ?_
  rintro e w1 ⟨t, ht, rfl, hc1, ha1⟩
  have ht30 : t.size ≤ 30 := ht
  have HX := Lib.hid (And.intro hc1 ha1); clear hc1 ha1 ht
  go_wp2_with fail
  refine (l01Below_any g 6 _ (by omega) (by omega) HX.out.1).mono ?_
  rintro e w2 ⟨x, hx0, hx1, rfl, hc2, ha2⟩
  have HY := Lib.hid (And.intro hc2 (HX.out.2.trans ha2)); clear hc2 ha2
  by_cases h0 : x = 0
  · subst h0
    go_wp2
    go_ret
    exact ⟨_, by show ByteArray.size _ ≤ 40; rw [ByteArray.size_append, ByteArray.size_append]; show 2 + t.size + 2 ≤ 40; omega, rfl, HY.out.1, HY.out.2⟩
  by_cases h1 : x = 1
  · subst h1
    go_wp2
    go_ret
    exact ⟨_, by show ByteArray.size _ ≤ 40; rw [ByteArray.size_append]; show t.size + 7 ≤ 40; omega, rfl, HY.out.1, HY.out.2⟩
  by_cases h2 : x = 2
  · subst h2
    go_wp2_with fail
    refine (l08Word_any g _ HY.out.1).mono ?_
    rintro e w3 ⟨u, hu, rfl, hc3, ha3⟩
    have hu30 : u.size ≤ 30 := hu
    clear hu
    go_wp2
    go_ret
    exact ⟨u, by show u.size ≤ 40; omega, rfl, hc3, HY.out.2.trans ha3⟩
  · have d0 : (x == 0) = false := by rw [beq_eq_false_iff_ne]; exact h0
    have d1 : (x == 1) = false := by rw [beq_eq_false_iff_ne]; exact h1
    have d2 : (x == 2) = false := by rw [beq_eq_false_iff_ne]; exact h2
    clear h0 h1 h2
    go_wp2
    go_ret
    exact ⟨t, by show t.size ≤ 40; omega, rfl, HY.out.1, HY.out.2⟩

theorem drawPlainOk (a : Option Addr) (n cap : Nat) (w : World) (hn : n ≤ 1048576) (hc : CodeAt w w.heap.size a n) : Calls Tryd.prog 46 #[.slice a n cap] w (StrQ (fun t => t.size ≤ 401) w) := by
  go_enter Tryd.func46, Tryd.ntmps46
  go_wp2_with fail
  refine (l01New_any a n cap _ hn hc).mono ?_
  rintro e w1 ⟨g, rfl, hg, hc1, hb1⟩
  have H1 := Lib.hid hb1; clear hb1
  go_wp2_with fail
  refine (l01Once_any g 12 _ (by omega) (by omega) hc1).mono ?_
  rintro e w2 ⟨b, rfl, hc2, ha2⟩
  have H2 := Lib.hid (And.intro hc2 (H1.out.trans (ha2.below H1.out.size (fun y hy => by simp at hy; omega)))); clear hc2 ha2
  cases b
  · go_wp2_with fail
    refine (l11Line_any g _ H2.out.1).mono ?_
    rintro e w3 ⟨t, ht, rfl, hc3, ha3⟩
    have ht30 : t.size ≤ 40 := ht
    clear ht
    go_wp2
    go_ret
    exact ⟨t, by show t.size ≤ 401; omega, rfl, H2.out.2.trans (ha3.below H2.out.2.size (fun y hy => by simp at hy; omega))⟩
  · go_wp2_with fail
    refine (l01Below_any g 2 _ (by omega) (by omega) H2.out.1).mono ?_
    rintro e w3 ⟨x, hx0, hx1, rfl, hc3, ha3⟩
    have H3 := Lib.hid (H2.out.2.trans (ha3.below H2.out.2.size (fun y hy => by simp at hy; omega))); clear hc3 ha3
    obtain ⟨m, rfl⟩ := Int.eq_ofNat_of_zero_le hx0
    go_wp2_with fail
    refine (l01Long_any (400 + m) 97 _ (by omega)).mono ?_
    rintro e w4 ⟨rfl, hb4⟩
    go_wp2
    go_ret
    exact ⟨_, by show Array.size _ ≤ 401; simp; omega, rfl, bnext H3.out hb4⟩

end Go.Proofs.YtoaakbaijklhhaaDoor
namespace Go.Proofs.YtoaakbaijklhhaaDoor
open Go.RowKit

theorem iKeyOf_some {s a b : ByteArray} (h : keyO s = some (a, b)) (w : World) (hs : s.size ≤ 1048576) (hT : Tabs w) (hV : Cases w) : Calls Tryd.prog 45 #[.string s] w fun e w' => e = .returned (.tuple #[.string a, .string b, .bool true]) ∧ Below w.heap.size w w' :=
  (iKeyOf s w hs hT hV).mono fun e w' ⟨he, hb⟩ => ⟨by rw [he, h]; rfl, hb⟩
theorem plain_ab : plainAll ⟨#[97, 32, 98]⟩ = true := by decide +kernel
theorem iItem_at {s t : ByteArray} {n : Nat} {b : Bool} (h : itA s = t ∧ itN s = n ∧ itB s = b) (w : World) (hs : s.size ≤ 1048576) : Calls Tryd.prog 47 #[.string s] w fun e w' => e = .returned (.tuple #[.string t, .int .i64 n, .bool b]) ∧ Below w.heap.size w w' :=
  (iItemOf s w hs).mono fun e w' ⟨he, hb⟩ => ⟨by rw [he, h.1, h.2.1, h.2.2], hb⟩

set_option maxRecDepth 100000 in
set_option maxHeartbeats 4000000 in
theorem lawKeys {H : Type} {enc : TypeId × Value → H} {W : World} {base : Nat} {v : Value} {d : DataW H} {p : List MemPlace} (hval : Value.okWide Tryd.prog W .any base 29 v)
    (h : DataW.Trod enc Tryd.prog W 0 (fun _ => true) true 29 v d p) (ha : Lib.VarReads Tryd.prog W "unicode/utf8.acceptRanges" Rows.laid_unicode_utf8_acceptRanges) (hc : Lib.VarReads Tryd.prog W "unicode.CaseRanges" Rows.laid_unicode_CaseRanges) (hf : Lib.VarReads Tryd.prog W "unicode/utf8.first" Rows.laid_unicode_utf8_first) :
    Calls Tryd.prog 14 #[v] W fun e w' => e = .returned (.bool true) ∧ Below W.heap.size W w' := by
  obtain ⟨a, n, cap, rfl, hnm, hcode⟩ := openCode hval h
  have hT := tabs_of ha hf
  have hV := cases_of hc
  clear hval h ha hf hc hnm
  by_cases hn : n ≤ 1048576
  rotate_left
  · have hd : decide ((1048576 : Int) < (n : Int)) = true := decide_eq_true (by omega)
    clear hn hT hV hcode
    go_enter Tryd.func14, Tryd.ntmps14
    go_wp2_with (go_at_call 26; refine (big_any _ _ _ _).mono ?_; rintro e w' ⟨rfl, rfl⟩)
    go_ret
    exact ⟨rfl, Below.refl _ _⟩
  have hd : decide ((1048576 : Int) < (n : Int)) = false := decide_eq_false (by omega)
  have HN := Lib.hid hn; have HT := Lib.hid hT; have HV := Lib.hid hV; have HC := Lib.hid hcode
  clear hn hT hV hcode
  go_enter Tryd.func14, Tryd.ntmps14
  go_wp2_with (go_at_call 26; refine (big_any _ _ _ _).mono ?_; rintro e w' ⟨rfl, rfl⟩)
  clear hd
  refine (drawKeyText a n cap _ HN.out HC.out).mono ?_
  rintro e w1 ⟨key, hks, rfl, hb1⟩
  have hk30 : key.size ≤ 30 := hks
  have HB1 := Lib.hid hb1; clear hb1 hks
  go_wp2_with fail
  refine (drawPlainOk a n cap _ HN.out (HC.out.keep HB1.out)).mono ?_
  rintro e w2 ⟨rest, hrs, rfl, hb2⟩
  have hr401 : rest.size ≤ 401 := hrs
  have HB2 := Lib.hid (bnext HB1.out hb2); clear hb2 hrs
  have HU := Lib.hid (fun w0 => sUtf8Ok key w0 (by omega))
  have HS := Lib.hid (fun w0 => sPlainAll rest w0 (by omega))
  have HI := Lib.hid (fun w0 hT => iPlainAll rest w0 (by omega) hT)
  have HAB := Lib.hid (fun w0 hT => iPlainAll ⟨#[97, 32, 98]⟩ w0 (by decide) hT)
  rw [plain_ab] at HAB
  have ePP : (plainAll rest == plainAll rest) = true := beq_self_eq_true _
  cases hu : (runesO key).isSome
  · rw [hu] at HU
    clear hu
    go_wp2_with fail
    refine (HU.out _).mono ?_
    rintro e w3 ⟨rfl, hb3⟩
    have HB3 := Lib.hid (bnext HB2.out hb3); clear hb3
    go_wp2_with fail
    refine (HI.out _ (tabs_keep HT.out HB3.out)).mono ?_
    rintro e w4 ⟨rfl, hb4⟩
    have HB4 := Lib.hid (bnext HB3.out hb4); clear hb4
    go_wp2_with fail
    refine (HS.out _).mono ?_
    rintro e w5 ⟨rfl, hb5⟩
    have HB5 := Lib.hid (bnext HB4.out hb5); clear hb5
    go_wp2_with fail
    refine (HAB.out _ (tabs_keep HT.out HB5.out)).mono ?_
    rintro e w6 ⟨rfl, hb6⟩
    go_wp2
    go_ret
    exact ⟨rfl, bnext HB5.out hb6⟩
  rw [hu] at HU
  cases hp : plainAll rest
  · rw [hp] at HS HI ePP
    clear hp hu
    go_wp2_with fail
    refine (HU.out _).mono ?_
    rintro e w3 ⟨rfl, hb3⟩
    have HB3 := Lib.hid (bnext HB2.out hb3); clear hb3
    go_wp2_with fail
    refine (HS.out _).mono ?_
    rintro e w4 ⟨rfl, hb4⟩
    have HB4 := Lib.hid (bnext HB3.out hb4); clear hb4
    go_wp2_with fail
    refine (HI.out _ (tabs_keep HT.out HB4.out)).mono ?_
    rintro e w5 ⟨rfl, hb5⟩
    have HB5 := Lib.hid (bnext HB4.out hb5); clear hb5
    go_wp2_with fail
    refine (HS.out _).mono ?_
    rintro e w6 ⟨rfl, hb6⟩
    have HB6 := Lib.hid (bnext HB5.out hb6); clear hb6
    go_wp2_with fail
    refine (HAB.out _ (tabs_keep HT.out HB6.out)).mono ?_
    rintro e w7 ⟨rfl, hb7⟩
    go_wp2
    go_ret
    exact ⟨rfl, bnext HB6.out hb7⟩
  have hks := keyText_size key hk30
  have HM := Lib.hid (key_mid hu hp)
  have HE := Lib.hid (key_end hu)
  have HF := Lib.hid (item_front hp)
  have HO := Lib.hid (item_none hp)
  have HK := Lib.hid (fun w0 hT => iKeyText key w0 (by omega) hT)
  rw [hp] at HS
  clear hp hu ePP HAB HI
  obtain ⟨K, hK⟩ : ∃ K, K = keyTextB key := ⟨_, rfl⟩
  rw [← hK] at HM HE HK hks
  clear hK
  go_wp2_with fail
  refine (HU.out _).mono ?_
  rintro e w3 ⟨rfl, hb3⟩
  have HB3 := Lib.hid (bnext HB2.out hb3); clear hb3
  go_wp2_with fail
  refine (HS.out _).mono ?_
  rintro e w4 ⟨rfl, hb4⟩
  have HB4 := Lib.hid (bnext HB3.out hb4); clear hb4
  go_wp2_with fail
  refine (HK.out _ (tabs_keep HT.out HB4.out)).mono ?_
  rintro e w5 ⟨rfl, hb5⟩
  have HB5 := Lib.hid (bnext HB4.out hb5); clear hb5
  go_wp2_with fail
  refine (iKeyOf_some HM.out _ (by rw [ByteArray.size_append, ByteArray.size_append]; show K.size + 2 + rest.size ≤ 1048576; omega) (tabs_keep HT.out HB5.out) (cases_keep HV.out HB5.out)).mono ?_
  rintro e w6 ⟨rfl, hb6⟩
  have HB6 := Lib.hid (bnext HB5.out hb6); clear hb6
  go_wp2_with fail
  refine (HK.out _ (tabs_keep HT.out HB6.out)).mono ?_
  rintro e w7 ⟨rfl, hb7⟩
  have HB7 := Lib.hid (bnext HB6.out hb7); clear hb7
  go_wp2_with fail
  refine (iKeyOf_some HE.out _ (by rw [ByteArray.size_append]; show K.size + 1 ≤ 1048576; omega) (tabs_keep HT.out HB7.out) (cases_keep HV.out HB7.out)).mono ?_
  rintro e w8 ⟨rfl, hb8⟩
  have HB8 := Lib.hid (bnext HB7.out hb8); clear hb8
  go_wp2_with fail
  refine (iItem_at HF.out _ (by rw [ByteArray.size_append]; show 3 + rest.size ≤ 1048576; omega)).mono ?_
  rintro e w9 ⟨rfl, hb9⟩
  have HB9 := Lib.hid (bnext HB8.out hb9); clear hb9
  go_wp2_with fail
  refine (iItem_at HO.out _ (by omega)).mono ?_
  rintro e w10 ⟨rfl, hb10⟩
  have e1 := beq_self_eq_true key.toList
  have e2 := beq_self_eq_true rest.toList
  go_wp2
  go_ret
  exact ⟨rfl, bnext HB9.out hb10⟩

end Go.Proofs.YtoaakbaijklhhaaDoor
