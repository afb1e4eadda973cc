/- Plain law: a text cut at a byte (l11Cut, strings.Split, strings.Cut); a line of labels comes back. -/
import Derived.Test.YtomhbbchflblpaaDoorLineC
import Derived.Lib.SplitLaws
import Derived.Lib.CountLaws
import Derived.Lib.CutLaws
import Derived.Lib.IndexBytes
namespace Go.Proofs.YtomhbbchflblpaaDoor
open Go.RowKit

def cutL (c : UInt8) : List UInt8 → List (List UInt8)
  | [] => [[]]
  | b :: r => if b = c then [] :: cutL c r else (b :: (cutL c r).headD []) :: (cutL c r).tail
theorem cutL_miss (c : UInt8) : ∀ l : List UInt8, c ∉ l → cutL c l = [l]
  | [], _ => rfl
  | b :: r, h => by
    have h1 : b ≠ c := fun e => h (by simp [e])
    have h2 := cutL_miss c r (fun e => h (by simp [e]))
    rw [cutL, if_neg h1, h2]; rfl
theorem cutL_hit (c : UInt8) : ∀ a r : List UInt8, c ∉ a → cutL c (a ++ c :: r) = a :: cutL c r
  | [], r, _ => by rw [List.nil_append, cutL, if_pos rfl]
  | b :: a, r, h => by
    have h1 : b ≠ c := fun e => h (by simp [e])
    have h2 := cutL_hit c a r (fun e => h (by simp [e]))
    rw [List.cons_append, cutL, if_neg h1, h2]; rfl
theorem cut_cases (c : UInt8) : ∀ l : List UInt8, c ∉ l ∨ ∃ a r, l = a ++ c :: r ∧ c ∉ a
  | [] => .inl (by simp)
  | b :: l => by
    by_cases h : b = c
    · exact .inr ⟨[], l, by rw [h]; rfl, by simp⟩
    · rcases cut_cases c l with g | ⟨a, r, rfl, g⟩
      · exact .inl (by simp [g, Ne.symm h])
      · exact .inr ⟨b :: a, r, rfl, by simp [g, Ne.symm h]⟩
theorem cutL_pos (c : UInt8) (l : List UInt8) : 0 < (cutL c l).length := by
  rcases cut_cases c l with h | ⟨a, r, rfl, h⟩
  · rw [cutL_miss c l h]; simp
  · rw [cutL_hit c a r h]; simp
theorem cutL_len (c : UInt8) : ∀ l : List UInt8, (cutL c l).length ≤ l.length + 1
  | [] => by simp [cutL]
  | b :: l => by
    have := cutL_len c l
    have := cutL_pos c l
    rw [cutL]
    split <;> simp <;> omega
theorem cutL_mem (c : UInt8) : ∀ (n : Nat) (l : List UInt8), l.length ≤ n → ∀ x ∈ cutL c l, x.length ≤ l.length
  | n, l, hn, x, hx => by
    rcases cut_cases c l with h | ⟨a, r, rfl, h⟩
    · rw [cutL_miss c l h] at hx; simp at hx; subst hx; omega
    · rw [cutL_hit c a r h] at hx
      simp only [List.length_append, List.length_cons] at hn ⊢
      rcases List.mem_cons.1 hx with rfl | hx
      · omega
      · match n with
        | 0 => omega
        | n + 1 => have := cutL_mem c n r (by omega) x hx; omega
theorem join_cut (c : UInt8) : ∀ (n : Nat) (l : List UInt8), l.length ≤ n → Lib.join (cutL c l) [c] = l
  | n, l, hn => by
    rcases cut_cases c l with h | ⟨a, r, rfl, h⟩
    · rw [cutL_miss c l h, Lib.join_one]
    · rw [cutL_hit c a r h]
      match n with
      | 0 => simp at hn
      | n + 1 =>
        have ih := join_cut c n r (by simp at hn; omega)
        have hp := cutL_pos c r
        rw [Lib.join_cons]
        match hm : cutL c r with
        | [] => rw [hm] at hp; simp at hp
        | y :: ys =>
          rw [hm, Lib.join_cons] at ih
          have e : Lib.joinTail [c] (y :: ys) = c :: (y ++ Lib.joinTail [c] ys) := by simp [Lib.joinTail]
          rw [e, ih]
theorem byte_miss {c : UInt8} : ∀ {l : List UInt8}, c ∉ l → Lib.indexByte l c = -1
  | [], _ => rfl
  | b :: l, h => by
    have h1 : (b == c) = false := beq_eq_false_iff_ne.2 fun e => h (by simp [e])
    have h2 := byte_miss (l := l) (c := c) fun e => h (by simp [e])
    rw [Lib.indexByte, h1, h2]; rfl
theorem byte_hit {c : UInt8} : ∀ {a r : List UInt8}, c ∉ a → Lib.indexByte (a ++ c :: r) c = (a.length : Int)
  | [], r, _ => by rw [List.nil_append, Lib.indexByte, beq_self_eq_true]; rfl
  | b :: a, r, h => by
    have h1 : (b == c) = false := beq_eq_false_iff_ne.2 fun e => h (by simp [e])
    have h2 := byte_hit (a := a) (r := r) (c := c) fun e => h (by simp [e])
    rw [List.cons_append, Lib.indexByte, h1, h2]
    have h3 : ((a.length : Int) == -1) = false := by rw [beq_eq_false_iff_ne]; omega
    rw [h3]
    simp
theorem cut_miss {c : UInt8} {l : List UInt8} (h : c ∉ l) : Lib.cut l [c] = (l, [], false) := by
  rw [Lib.cut, Lib.index_one, byte_miss h, if_neg (by omega)]
theorem cut_hit {c : UInt8} {a r : List UInt8} (h : c ∉ a) : Lib.cut (a ++ c :: r) [c] = (a, r, true) := by
  rw [Lib.cut, Lib.index_one, byte_hit h, if_pos (by omega)]
  simp
def partsL (c : UInt8) (s : ByteArray) : List ByteArray := (cutL c s.data.toList).map fun l => ⟨l.toArray⟩
theorem parts_data (c : UInt8) (s : ByteArray) : (partsL c s).map (·.data.toList) = cutL c s.data.toList := by
  simp [partsL, List.map_map, Function.comp_def]
theorem map_data {a b : List ByteArray} (h : a.map (·.data.toList) = b.map (·.data.toList)) : a = b := by
  have := congrArg (List.map fun l : List UInt8 => (⟨l.toArray⟩ : ByteArray)) h
  simpa [List.map_map, Function.comp_def] using this
theorem split_cut (c : UInt8) : ∀ (k : Nat) (s : ByteArray), Lib.countB s ⟨#[c]⟩ = k → (Lib.splitB ⟨#[c]⟩ 0 k s).map (·.data.toList) = cutL c s.data.toList
  | k, s, hk => by
    rcases cut_cases c s.data.toList with h | ⟨a, r, he, h⟩
    · have hi : Lib.indexB s ⟨#[c]⟩ = -1 := by
        show Lib.index s.data.toList [c] = -1
        rw [Lib.index_one, byte_miss h]
      rw [Lib.splitB_miss _ _ _ _ hi, cutL_miss c _ h]; rfl
    · have hi : Lib.indexB s ⟨#[c]⟩ = (a.length : Nat) := by
        show Lib.index s.data.toList [c] = _
        rw [Lib.index_one, he, byte_hit h]
      have hc := Lib.countB_hit s ⟨#[c]⟩ a.length (by show 1 ≤ 1; omega) hi
      match k with
      | 0 => omega
      | k + 1 =>
        have hr : (s.extract (a.length + (⟨#[c]⟩ : ByteArray).size) s.size).data.toList = r := by
          have e3 : (⟨#[c]⟩ : ByteArray).size = 1 := rfl
          rw [e3, Lib.extract_from, he]
          simp
        have ih := split_cut c k (s.extract (a.length + (⟨#[c]⟩ : ByteArray).size) s.size) (by omega)
        rw [Lib.splitB_hit _ _ _ _ _ hi, List.map_cons, ih, hr, he, cutL_hit c a r h]
        congr 1
        rw [Lib.extract_from_zero, he]; simp
theorem split_parts (c : UInt8) (s : ByteArray) : Lib.splitB ⟨#[c]⟩ 0 (Lib.countB s ⟨#[c]⟩) s = partsL c s :=
  map_data ((split_cut c _ s rfl).trans (parts_data c s).symm)
def kvB (p : ByteArray) : ByteArray × ByteArray := (⟨(Lib.cut p.data.toList [61]).1.toArray⟩, ⟨(Lib.cut p.data.toList [61]).2.1.toArray⟩)
/-- The labels of a line, as they are cut. -/
def labsOf (s : ByteArray) : List (ByteArray × ByteArray) := (partsL 44 s).map kvB
def twoB (p : ByteArray) : Bool := decide ((partsL 61 p).length = 2)
def allTwo (s : ByteArray) : Bool := (partsL 44 s).all twoB
theorem two_kv {p : ByteArray} (h : twoB p = true) : partsL 61 p = [(kvB p).1, (kvB p).2] ∧ p = labB (kvB p) := by
  simp only [twoB, decide_eq_true_eq, partsL, List.length_map] at h
  rcases cut_cases 61 p.data.toList with g | ⟨a, r, he, g⟩
  · rw [cutL_miss 61 _ g] at h; simp at h
  · have hk : kvB p = (⟨a.toArray⟩, ⟨r.toArray⟩) := by rw [kvB, he, cut_hit g]
    rw [he, cutL_hit 61 a r g] at h
    have hr : 61 ∉ r := fun hm => by
      rcases cut_cases 61 r with g2 | ⟨a2, r2, he2, g2⟩
      · exact g2 hm
      · rw [he2, cutL_hit 61 a2 r2 g2] at h
        have := cutL_pos 61 r2
        rw [List.length_cons, List.length_cons] at h; omega
    refine ⟨?_, ?_⟩
    · rw [partsL, he, cutL_hit 61 a r g, cutL_miss 61 r hr, hk]; rfl
    · rw [hk]
      apply ByteArray.ext
      apply Array.ext'
      rw [labB, app_data, app_data, he]
      simp
theorem kv_len (p : ByteArray) : (kvB p).1.size ≤ p.size ∧ (kvB p).2.size ≤ p.size := by
  have hs : p.size = p.data.toList.length := by simp
  rw [hs]
  show (Lib.cut p.data.toList [61]).1.toArray.size ≤ _ ∧ (Lib.cut p.data.toList [61]).2.1.toArray.size ≤ _
  rcases cut_cases 61 p.data.toList with g | ⟨a, r, he, g⟩
  · rw [cut_miss g]; simp
  · rw [he, cut_hit g]; simp; omega
theorem part_size {c : UInt8} {s p : ByteArray} (h : p ∈ partsL c s) : p.size ≤ s.size := by
  simp only [partsL, List.mem_map] at h
  obtain ⟨l, hl, rfl⟩ := h
  have := cutL_mem c _ s.data.toList (Nat.le_refl _) l hl
  have e : (⟨l.toArray⟩ : ByteArray).size = l.length := by show l.toArray.size = _; simp
  have e2 : s.data.toList.length = s.size := by simp
  omega
theorem parts_len (c : UInt8) (s : ByteArray) : (partsL c s).length ≤ s.size + 1 := by
  have := cutL_len c s.data.toList
  have e2 : s.data.toList.length = s.size := by simp
  rw [partsL, List.length_map]; omega
theorem labs_sizes (s : ByteArray) (i : Nat) (h : i < (labsOf s).length) : (keyAt (labsOf s) i).size ≤ s.size ∧ (valAt (labsOf s) i).size ≤ s.size := by
  have hg := lab_get (labsOf s) i h
  have hm : (labsOf s)[i] ∈ labsOf s := List.getElem_mem h
  rw [hg] at hm
  obtain ⟨p, hp, he⟩ := List.mem_map.1 hm
  have h1 := kv_len p
  have h2 := part_size hp
  rw [he] at h1
  simp at h1; omega
theorem value_no {v : ByteArray} (h : labelValueB v = true) : (61 : UInt8) ∉ v.data.toList := by
  intro hm
  simp only [labelValueB, Bool.or_eq_true, Bool.and_eq_true, decide_eq_true_eq, wordOkB, wordOkL] at h
  rcases h with h | h
  · rw [List.isEmpty_iff, ByteArray.toList_eq] at h; rw [h] at hm; simp at hm
  · have := List.all_eq_true.1 h.2.2.2 61 hm
    revert this
    decide
theorem lens_grow : ∀ X : List (List UInt8), Lib.lens X ≤ Lib.lens (X.map fun x => (Lib.cut x [61]).1 ++ [61] ++ (Lib.cut x [61]).2.1) ∧ (Lib.lens X = Lib.lens (X.map fun x => (Lib.cut x [61]).1 ++ [61] ++ (Lib.cut x [61]).2.1) → ∀ x ∈ X, (61 : UInt8) ∈ x)
  | [] => by simp [Lib.lens]
  | x :: X => by
    have ih := lens_grow X
    have hx : ((61 : UInt8) ∈ x ∧ ((Lib.cut x [61]).1 ++ [61] ++ (Lib.cut x [61]).2.1).length = x.length) ∨ ((Lib.cut x [61]).1 ++ [61] ++ (Lib.cut x [61]).2.1).length = x.length + 1 := by
      rcases cut_cases 61 x with g | ⟨a, r, rfl, g⟩
      · right; rw [cut_miss g]; simp
      · left; rw [cut_hit g]; simp <;> omega
    simp only [Lib.lens, List.map_cons, List.sum_cons] at ih ⊢
    refine ⟨by rcases hx with hx | hx <;> omega, fun e y hy => ?_⟩
    rcases hx with ⟨h1, h2⟩ | hx
    · rcases List.mem_cons.1 hy with rfl | hy
      · exact h1
      · exact ih.2 (by omega) y hy
    · omega
theorem texts_of (s : ByteArray) : labTexts (labsOf s) = (cutL 44 s.data.toList).map fun x => (Lib.cut x [61]).1 ++ [61] ++ (Lib.cut x [61]).2.1 := by
  simp [labTexts, labsOf, partsL, List.map_map, Function.comp_def, labB, kvB]
theorem labs_pos (s : ByteArray) : 0 < (labsOf s).length := by
  rw [labsOf, partsL, List.length_map, List.length_map]; exact cutL_pos _ _
theorem line_fwd {s : ByteArray} (h2 : allTwo s = true) (hok : labsOkB (labsOf s) = true) : lineB (labsOf s) = s ∧ 0 < s.size ∧ s.size ≤ 400 := by
  have hp := labs_pos s
  have hall := List.all_eq_true.1 h2
  have ht : labTexts (labsOf s) = cutL 44 s.data.toList := by
    have : (labsOf s).map labB = partsL 44 s := by
      rw [labsOf, List.map_map]
      conv => rhs; rw [← List.map_id (partsL 44 s)]
      exact List.map_congr_left fun p hp => (two_kv (hall p hp)).2.symm
    rw [labTexts, ← parts_data, ← this]
    simp [List.map_map, Function.comp_def]
  have hj := join_cut 44 _ s.data.toList (Nat.le_refl _)
  rw [← ht] at hj
  have hl := line_len hok
  rw [hj] at hl
  have hs : s.data.toList.length = s.size := by simp
  refine ⟨?_, ?_, by omega⟩
  · rw [lineB, if_pos hok, if_neg (by omega), labLine, hj]
  · rcases Nat.eq_zero_or_pos s.size with h0 | h0
    · exfalso
      have he : s.data.toList = [] := List.eq_nil_of_length_eq_zero (by omega)
      have : (⟨#[]⟩ : ByteArray) ∈ partsL 44 s := by rw [partsL, he]; simp [cutL]
      have := hall _ this
      revert this
      decide
    · exact h0
theorem line_bwd {s : ByteArray} (he : lineB (labsOf s) = s) (h0 : 0 < s.size) : allTwo s = true ∧ labsOkB (labsOf s) = true := by
  cases hok : labsOkB (labsOf s)
  · exfalso
    rw [lineB, hok] at he
    have : s = ⟨#[]⟩ := he.symm
    rw [this] at h0
    exact absurd h0 (by decide)
  refine ⟨?_, rfl⟩
  have hp := labs_pos s
  rw [lineB, if_pos hok, if_neg (by omega), labLine] at he
  have hd : Lib.join (labTexts (labsOf s)) [44] = s.data.toList := by
    have := congrArg (fun b : ByteArray => b.data.toList) he
    simpa using this
  have hj := join_cut 44 _ s.data.toList (Nat.le_refl _)
  rw [texts_of] at hd
  have hmem : ∀ x ∈ cutL 44 s.data.toList, (61 : UInt8) ∈ x := by
    apply (lens_grow _).2
    have hlen := congrArg List.length (hj.trans hd.symm)
    cases hX : cutL 44 s.data.toList with
    | nil => have := cutL_pos 44 s.data.toList; rw [hX] at this; simp at this
    | cons x r =>
      rw [hX] at hlen
      rw [List.map_cons, Lib.join_length, Lib.join_length, List.length_map] at hlen
      rw [List.map_cons]
      omega
  apply List.all_eq_true.2
  intro p hp2
  obtain ⟨l, hl, rfl⟩ := List.mem_map.1 hp2
  have hm := hmem l hl
  rcases cut_cases 61 l with g | ⟨a, r, rfl, g⟩
  · exact absurd hm g
  · have hk : kvB ⟨(a ++ 61 :: r).toArray⟩ = (⟨a.toArray⟩, ⟨r.toArray⟩) := by
      rw [kvB]
      have : (⟨(a ++ 61 :: r).toArray⟩ : ByteArray).data.toList = a ++ 61 :: r := by simp
      rw [this, cut_hit g]
    have hin : kvB ⟨(a ++ 61 :: r).toArray⟩ ∈ labsOf s := List.mem_map_of_mem hp2
    rw [hk] at hin
    obtain ⟨i, hi, hgi⟩ := List.getElem_of_mem hin
    rw [lab_get _ i hi] at hgi
    have hv : valAt (labsOf s) i = ⟨r.toArray⟩ := congrArg Prod.snd hgi
    have hok2 := hok
    unfold labsOkB at hok2
    rw [Bool.and_eq_true, List.all_eq_true] at hok2
    have hat := hok2.2 i (List.mem_range.2 hi)
    simp only [labAt, Bool.and_eq_true] at hat
    have hno := value_no hat.1.2
    rw [hv] at hno
    have hr : (61 : UInt8) ∉ r := by simpa using hno
    rw [twoB, partsL, decide_eq_true_eq, List.length_map]
    have : (⟨(a ++ 61 :: r).toArray⟩ : ByteArray).data.toList = a ++ 61 :: r := by simp
    rw [this, cutL_hit 61 a r g, cutL_miss 61 r hr]; rfl

end Go.Proofs.YtomhbbchflblpaaDoor
