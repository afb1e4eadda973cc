/- eqIntS; RunesOf in flat rows; the law's walk. -/
import Derived.Test.YtbjialckijphiaaDoorRunesI
import Derived.Test.YtbjialckijphiaaDoorFlatInt
namespace Go.Proofs.YtbjialckijphiaaDoor
open Go.RowKit

def runF (l : List Nat) (i _j : Nat) : Value := .int .i64 ((l.getD i 0 : Nat) : Int)
theorem rgo_len (s : ByteArray) : ∀ f k acc L, rgo s f k acc = some L → acc.length ≤ k → k ≤ s.size → L.length ≤ s.size
  | 0, _, _, _, h, _, _ => by cases h
  | f + 1, k, acc, L, h, h1, h2 => by
    rw [rgo] at h
    by_cases hk : s.size ≤ k
    · rw [if_pos hk] at h; cases h; omega
    · rw [if_neg hk] at h
      split at h
      · cases h
      · have := Lib.decode_width_pos s k (by omega)
        have := width_le s k (by omega)
        exact rgo_len s f _ _ L h (by simp; omega) (by omega)
theorem runes_len (s : ByteArray) : ((runesO s).getD []).length ≤ s.size := by
  cases h : runesO s with
  | none => simp
  | some L => exact rgo_len s _ 0 [] L h (by simp) (by omega)

def RunesF (s : ByteArray) (w : World) (e : Ending) (w' : World) : Prop := ∃ a cap fp, e = .returned (.tuple #[.slice a ((runesO s).getD []).length cap, .bool (runesO s).isSome]) ∧ GFlat w' w.heap.size w'.heap.size (.slice a ((runesO s).getD []).length cap) ((runesO s).getD []).length 1 (runF ((runesO s).getD [])) fp
theorem runesF_of {s : ByteArray} {w w' : World} {e : Ending} (h : RunesPost s w.heap.size e w') : RunesF s w e w' := by
  obtain ⟨v, l, rfl, ho, rfl⟩ := h
  obtain ⟨fp, h1, h2⟩ := FlatOwn.of_owns (f := runF ((runesO s).getD [])) (c := 1) ho (fun i hi j hj => by
    obtain rfl : j = 0 := by omega
    simp [ints, runF, hi])
  obtain ⟨a, cap, rfl⟩ := h1.shape
  exact ⟨a, cap, fp, rfl, .new h1 h2⟩

end Go.Proofs.YtbjialckijphiaaDoor
