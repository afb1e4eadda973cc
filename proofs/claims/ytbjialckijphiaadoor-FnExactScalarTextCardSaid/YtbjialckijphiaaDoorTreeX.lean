/- Small laws of right trees. -/
import Derived.Test.YtbjialckijphiaaDoorTreeG
import Derived.Test.YtbjialckijphiaaDoorSoft
import Derived.Deep.CutRange
import Derived.Deep.LoopGhost
namespace Go.Proofs.YtbjialckijphiaaDoor
open Go.RowKit

theorem keys_le {t : Tr} (h : headB t = true) : t.keys.length ≤ t.kids.length := by
  simp only [headB, Bool.and_eq_true, Bool.not_eq_true', Bool.and_eq_false_iff, beq_eq_false_iff_ne, bne_eq_false_iff_eq, decide_eq_false_iff_not, ne_eq] at h
  obtain ⟨-, -, -, -, h6, -, -, h9⟩ := h
  rcases h6 with h6 | h6
  · omega
  · rcases h9 with h9 | h9
    · exact absurd h6 h9
    · omega
theorem upto_step {p : Nat → Bool} {k : Nat} (h : ∀ i, i < k → p i = true) (hk : p k = true) : ∀ i, i < k + 1 → p i = true := fun i hi => by
  rcases Nat.lt_or_ge i k with g | g
  · exact h i g
  · obtain rfl : i = k := by omega
    exact hk

end Go.Proofs.YtbjialckijphiaaDoor
