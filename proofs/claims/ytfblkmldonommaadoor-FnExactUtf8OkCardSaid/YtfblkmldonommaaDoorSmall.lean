/- Contracts of the small functions on bytes and integers: what each returns, the world unchanged. -/
import Derived.Test.YtfblkmldonommaaDoorRows
import Derived.WalkKit
import Derived.WalkSpells
import Derived.WalkLawsBesides
import Derived.Lib.Hide
import Derived.Outline
namespace Go.Proofs.YtfblkmldonommaaDoor
open Go.RowKit

def lowerB (c : Int) : Bool := decide (97 ≤ c) && decide (c ≤ 122)
def digitB (c : Int) : Bool := decide (48 ≤ c) && decide (c ≤ 57)
def upperB (c : Int) : Bool := decide (65 ≤ c) && decide (c ≤ 90)
def letterB (c : Int) : Bool := lowerB c || upperB c
def alnumB (c : Int) : Bool := letterB c || digitB c
def betweenB (n a b : Int) : Bool := decide (a ≤ n) && decide (n ≤ b)

theorem ret_bool {a b : Bool} (h : a = b) : Ending.returned (.bool a) = .returned (.bool b) := by rw [h]

theorem l01In_any (n a b : Int) (w : World) : Calls Tryd.prog 10 #[.int .i64 n, .int .i64 a, .int .i64 b] w fun e w' => e = .returned (.bool (betweenB n a b)) ∧ w = w' := by
  have H : Hid (betweenB n a b = (decide (a ≤ n) && decide (n ≤ b))) := rfl
  by_cases h1 : a ≤ n <;> by_cases h2 : n ≤ b
  all_goals
    go_enter Tryd.func10, Tryd.ntmps10
    go_wp2
    go_ret
    exact ⟨ret_bool (by rw [H.out]; simp [h1, h2]), rfl⟩

end Go.Proofs.YtfblkmldonommaaDoor
