/- szStringS, szTreeS, szTree. -/
import Derived.Test.YtomhbbchflblpaaGreatDoorTreeA
import Derived.Test.YtomhbbchflblpaaGreatDoorStrS
namespace Go.Proofs.YtomhbbchflblpaaGreatDoor
open Go.RowKit

mutual

/-- Each text and each list can be held by a machine. -/
def Tr.fits : Tr → Prop | .mk _ _ _ s keys kids => s.size ≤ maxLen ∧ strFits keys ∧ kids.length ≤ maxLen ∧ fitsL kids

def fitsL : List Tr → Prop | [] => True | t :: ts => t.fits ∧ fitsL ts
end

theorem fits_iff (t : Tr) : t.fits ↔ t.text.size ≤ maxLen ∧ strFits t.keys ∧ t.kids.length ≤ maxLen ∧ fitsL t.kids := by cases t; simp only [Tr.fits, Tr.text, Tr.keys, Tr.kids]

theorem fits_kid : ∀ (l : List Tr) (k : Nat), k < l.length → fitsL l → (kidAt l k).fits
  | [], k, h, _ => by simp at h
  | t :: ts, 0, _, h => by simp only [fitsL] at h; exact h.1
  | t :: ts, k + 1, h, hf => by simp only [fitsL] at hf; exact fits_kid ts k (by simpa using h) hf.2

theorem wt_eq (t : Tr) : t.wt = t.text.size + strWt t.keys + (t.kids.length + wtL t.kids) := by cases t; rfl

theorem wtL_take (l : List Tr) (k : Nat) (h : k < l.length) : wtL (l.take (k + 1)) = wtL (l.take k) + (kidAt l k).wt := sum_take Tr.wt wtL rfl (fun _ _ => rfl) l k h

theorem wtL_le (l : List Tr) (k : Nat) : wtL (l.take k) ≤ wtL l := take_le_sum Tr.wt wtL rfl (fun _ _ => rfl) l k

end Go.Proofs.YtomhbbchflblpaaGreatDoor
