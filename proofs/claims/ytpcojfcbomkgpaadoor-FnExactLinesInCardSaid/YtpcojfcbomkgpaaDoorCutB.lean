/- Plain law: a text cut at a byte (l11Cut, strings.Split, strings.Cut). -/
import Derived.Test.YtpcojfcbomkgpaaDoorStrS
import Derived.Test.YtpcojfcbomkgpaaDoorLay
import Derived.Lib.Join
import Derived.Lib.JoinFns
import Derived.Lib.SplitLaws
import Derived.Lib.CountLaws
import Derived.Lib.CutLaws
import Derived.Lib.IndexBytes
namespace Go.Proofs.YtpcojfcbomkgpaaDoor
open Go.RowKit

def cutL (c : UInt8) : List UInt8 → List (List UInt8)
  | [] => [[]]
  | b :: r => if b = c then [] :: cutL c r else (b :: (cutL c r).headD []) :: (cutL c r).tail
theorem cutL_miss (c : UInt8) : ∀ l : List UInt8, c ∉ l → cutL c l = [l]
  | [], _ => rfl
  | b :: r, h => by
    have h1 : b ≠ c := fun e => h (by simp [e])
    have h2 := cutL_miss c r (fun e => h (by simp [e]))
    rw [cutL, if_neg h1, h2]; rfl
theorem cutL_hit (c : UInt8) : ∀ a r : List UInt8, c ∉ a → cutL c (a ++ c :: r) = a :: cutL c r
  | [], r, _ => by rw [List.nil_append, cutL, if_pos rfl]
  | b :: a, r, h => by
    have h1 : b ≠ c := fun e => h (by simp [e])
    have h2 := cutL_hit c a r (fun e => h (by simp [e]))
    rw [List.cons_append, cutL, if_neg h1, h2]; rfl
theorem cut_cases (c : UInt8) : ∀ l : List UInt8, c ∉ l ∨ ∃ a r, l = a ++ c :: r ∧ c ∉ a
  | [] => .inl (by simp)
  | b :: l => by
    by_cases h : b = c
    · exact .inr ⟨[], l, by rw [h]; rfl, by simp⟩
    · rcases cut_cases c l with g | ⟨a, r, rfl, g⟩
      · exact .inl (by simp [g, Ne.symm h])
      · exact .inr ⟨b :: a, r, rfl, by simp [g, Ne.symm h]⟩
theorem cutL_pos (c : UInt8) (l : List UInt8) : 0 < (cutL c l).length := by
  rcases cut_cases c l with h | ⟨a, r, rfl, h⟩
  · rw [cutL_miss c l h]; simp
  · rw [cutL_hit c a r h]; simp
theorem cutL_len (c : UInt8) : ∀ l : List UInt8, (cutL c l).length ≤ l.length + 1
  | [] => by simp [cutL]
  | b :: l => by
    have := cutL_len c l
    have := cutL_pos c l
    rw [cutL]
    split <;> simp <;> omega
theorem cutL_mem (c : UInt8) : ∀ (n : Nat) (l : List UInt8), l.length ≤ n → ∀ x ∈ cutL c l, x.length ≤ l.length
  | n, l, hn, x, hx => by
    rcases cut_cases c l with h | ⟨a, r, rfl, h⟩
    · rw [cutL_miss c l h] at hx; simp at hx; subst hx; omega
    · rw [cutL_hit c a r h] at hx
      simp only [List.length_append, List.length_cons] at hn ⊢
      rcases List.mem_cons.1 hx with rfl | hx
      · omega
      · match n with
        | 0 => omega
        | n + 1 => have := cutL_mem c n r (by omega) x hx; omega
theorem join_cut (c : UInt8) : ∀ (n : Nat) (l : List UInt8), l.length ≤ n → Lib.join (cutL c l) [c] = l
  | n, l, hn => by
    rcases cut_cases c l with h | ⟨a, r, rfl, h⟩
    · rw [cutL_miss c l h, Lib.join_one]
    · rw [cutL_hit c a r h]
      match n with
      | 0 => simp at hn
      | n + 1 =>
        have ih := join_cut c n r (by simp at hn; omega)
        have hp := cutL_pos c r
        rw [Lib.join_cons]
        match hm : cutL c r with
        | [] => rw [hm] at hp; simp at hp
        | y :: ys =>
          rw [hm, Lib.join_cons] at ih
          have e : Lib.joinTail [c] (y :: ys) = c :: (y ++ Lib.joinTail [c] ys) := by simp [Lib.joinTail]
          rw [e, ih]
theorem byte_miss {c : UInt8} : ∀ {l : List UInt8}, c ∉ l → Lib.indexByte l c = -1
  | [], _ => rfl
  | b :: l, h => by
    have h1 : (b == c) = false := beq_eq_false_iff_ne.2 fun e => h (by simp [e])
    have h2 := byte_miss (l := l) (c := c) fun e => h (by simp [e])
    rw [Lib.indexByte, h1, h2]; rfl
theorem byte_hit {c : UInt8} : ∀ {a r : List UInt8}, c ∉ a → Lib.indexByte (a ++ c :: r) c = (a.length : Int)
  | [], r, _ => by rw [List.nil_append, Lib.indexByte, beq_self_eq_true]; rfl
  | b :: a, r, h => by
    have h1 : (b == c) = false := beq_eq_false_iff_ne.2 fun e => h (by simp [e])
    have h2 := byte_hit (a := a) (r := r) (c := c) fun e => h (by simp [e])
    rw [List.cons_append, Lib.indexByte, h1, h2]
    have h3 : ((a.length : Int) == -1) = false := by rw [beq_eq_false_iff_ne]; omega
    rw [h3]
    simp
theorem cut_miss {c : UInt8} {l : List UInt8} (h : c ∉ l) : Lib.cut l [c] = (l, [], false) := by
  rw [Lib.cut, Lib.index_one, byte_miss h, if_neg (by omega)]
theorem cut_hit {c : UInt8} {a r : List UInt8} (h : c ∉ a) : Lib.cut (a ++ c :: r) [c] = (a, r, true) := by
  rw [Lib.cut, Lib.index_one, byte_hit h, if_pos (by omega)]
  simp
def partsL (c : UInt8) (s : ByteArray) : List ByteArray := (cutL c s.data.toList).map fun l => ⟨l.toArray⟩
theorem parts_data (c : UInt8) (s : ByteArray) : (partsL c s).map (·.data.toList) = cutL c s.data.toList := by
  simp [partsL, List.map_map, Function.comp_def]
theorem map_data {a b : List ByteArray} (h : a.map (·.data.toList) = b.map (·.data.toList)) : a = b := by
  have := congrArg (List.map fun l : List UInt8 => (⟨l.toArray⟩ : ByteArray)) h
  simpa [List.map_map, Function.comp_def] using this
theorem split_cut (c : UInt8) : ∀ (k : Nat) (s : ByteArray), Lib.countB s ⟨#[c]⟩ = k → (Lib.splitB ⟨#[c]⟩ 0 k s).map (·.data.toList) = cutL c s.data.toList
  | k, s, hk => by
    rcases cut_cases c s.data.toList with h | ⟨a, r, he, h⟩
    · have hi : Lib.indexB s ⟨#[c]⟩ = -1 := by
        show Lib.index s.data.toList [c] = -1
        rw [Lib.index_one, byte_miss h]
      rw [Lib.splitB_miss _ _ _ _ hi, cutL_miss c _ h]; rfl
    · have hi : Lib.indexB s ⟨#[c]⟩ = (a.length : Nat) := by
        show Lib.index s.data.toList [c] = _
        rw [Lib.index_one, he, byte_hit h]
      have hc := Lib.countB_hit s ⟨#[c]⟩ a.length (by show 1 ≤ 1; omega) hi
      match k with
      | 0 => omega
      | k + 1 =>
        have hr : (s.extract (a.length + (⟨#[c]⟩ : ByteArray).size) s.size).data.toList = r := by
          have e3 : (⟨#[c]⟩ : ByteArray).size = 1 := rfl
          rw [e3, Lib.extract_from, he]
          simp
        have ih := split_cut c k (s.extract (a.length + (⟨#[c]⟩ : ByteArray).size) s.size) (by omega)
        rw [Lib.splitB_hit _ _ _ _ _ hi, List.map_cons, ih, hr, he, cutL_hit c a r h]
        congr 1
        rw [Lib.extract_from_zero, he]; simp
theorem split_parts (c : UInt8) (s : ByteArray) : Lib.splitB ⟨#[c]⟩ 0 (Lib.countB s ⟨#[c]⟩) s = partsL c s :=
  map_data ((split_cut c _ s rfl).trans (parts_data c s).symm)
theorem part_size {c : UInt8} {s p : ByteArray} (h : p ∈ partsL c s) : p.size ≤ s.size := by
  simp only [partsL, List.mem_map] at h
  obtain ⟨l, hl, rfl⟩ := h
  have := cutL_mem c _ s.data.toList (Nat.le_refl _) l hl
  have e : (⟨l.toArray⟩ : ByteArray).size = l.length := by show l.toArray.size = _; simp
  have e2 : s.data.toList.length = s.size := by simp
  omega
theorem parts_len (c : UInt8) (s : ByteArray) : (partsL c s).length ≤ s.size + 1 := by
  have := cutL_len c s.data.toList
  have e2 : s.data.toList.length = s.size := by simp
  rw [partsL, List.length_map]; omega

end Go.Proofs.YtpcojfcbomkgpaaDoor
