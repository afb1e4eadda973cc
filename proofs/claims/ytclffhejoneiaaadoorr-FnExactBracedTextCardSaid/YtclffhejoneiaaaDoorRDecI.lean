/- impl.Decimal; strconv.AppendBool at bytes that a call owns. -/
import Derived.Test.YtclffhejoneiaaaDoorRLayC
import Derived.Test.YtclffhejoneiaaaDoorRBufG
import Derived.Test.YtclffhejoneiaaaDoorRSayP
import Derived.Lib.LaidTab
import Derived.Lib.AppendIntMem
namespace Go.Proofs.YtclffhejoneiaaaDoorR
open Go.RowKit

/-- The table of strconv lies where the library reads it. -/
def Pows (w : World) : Prop := Lib.TabIs Tryd.prog w "internal/strconv.uint64pow10" .u64 Lib.pow10Tab
theorem pows_keep {w w' : World} (h : Pows w) (hb : Below w.heap.size w w') : Pows w' := Lib.tabBelow_of_tabIs h w' hb
theorem pows_eq : (Rows.laid_internal_strconv_uint64pow10 : DataW Unit) = Lib.tabData .u64 Lib.pow10Tab := by kernel_rfl
theorem pows_of {W : World} (h : Lib.VarReads Tryd.prog W "internal/strconv.uint64pow10" Rows.laid_internal_strconv_uint64pow10) : Pows W := by
  rw [pows_eq] at h
  obtain ⟨g, t, cs, fuel, p, hg, ht, hv, hd⟩ := h
  have hg2 : Tryd.prog.globalNamed "internal/strconv.uint64pow10" = some 6 := by kernel_rfl
  have ht2 : (Tryd.prog.globals[6]?).map (·.type) = some 183 := by kernel_rfl
  obtain rfl := Option.some.inj (hg2.symm.trans hg)
  obtain rfl := Option.some.inj (ht2.symm.trans ht)
  unfold Pows Lib.TabIs
  rw [hv, ← Lib.cells_of_tab Tryd.underlying183 Tryd.underlying152 (by kernel_rfl) (by kernel_rfl) hd]
theorem iDecimal (n : Int) (w : World) (h1 : -9223372036854775808 ≤ n) (h2 : n ≤ 9223372036854775807) (hP : Pows w) : Calls Tryd.prog 108 #[.int .i64 n] w fun e w' => e = .returned (.string ⟨(Lib.itoa n).toArray⟩) ∧ Below w.heap.size w w' := by
  have c : Calls Tryd.prog 147 #[.int .i64 n] w fun e w' => e = .returned (.string ⟨(Lib.itoa n).toArray⟩) ∧ Below w.heap.size w w' :=
    (Tryd.strconv_Itoa n h1 h2 w hP).mono fun e w' ⟨h1, k, os, h2⟩ => ⟨h1, by rw [h2]; exact Lib.below_grow _ _ (Nat.le_refl _) _ _⟩
  have HC := Lib.hid c; clear c hP
  go_enter Tryd.func108, Tryd.ntmps108
  go_wp2_with (go_at_call 147; refine HC.out.mono ?_; rintro e w1 ⟨rfl, hb1⟩)
  go_ret
  exact ⟨rfl, hb1⟩

theorem appBoolTIn {W0 wa w : World} {u v : Value} {l : List UInt8} (hb : BufG W0 wa u w v l) (hl : l.length ≤ 100000000) : Calls Tryd.prog 146 #[v, .bool true] w fun e w' => ∃ v', e = .returned v' ∧ BufG W0 wa u w' v' (l ++ trueL) := by
  have HB := Lib.hid hb; clear hb
  go_enter Tryd.func146, Tryd.ntmps146
  go_wp2_with (at_builtin; refine wpList_bufGS (by rfl) _ _ (by rfl) _ _ W0 wa u _ (by rfl) HB.out _ (by rfl) (by show l.length + 4 ≤ _; omega) ?_; intro v2 w2 hb2 hg2)
  go_ret
  exact ⟨_, rfl, hb2⟩
theorem appBoolT {W0 wa w : World} {u v : Value} {l : List UInt8} (hb : BufG W0 wa u w v l) (hl : l.length ≤ 100000000) : Calls Tryd.prog 107 #[v, .bool true] w fun e w' => ∃ v', e = .returned v' ∧ BufG W0 wa u w' v' (l ++ trueL) := by
  have HB := Lib.hid (appBoolTIn hb hl); clear hb
  go_enter Tryd.func107, Tryd.ntmps107
  go_wp2_with (go_at_call 146; refine HB.out.mono ?_; rintro e w2 ⟨v2, rfl, hb2⟩)
  go_ret
  exact ⟨_, rfl, hb2⟩

theorem appBoolFIn {W0 wa w : World} {u v : Value} {l : List UInt8} (hb : BufG W0 wa u w v l) (hl : l.length ≤ 100000000) : Calls Tryd.prog 146 #[v, .bool false] w fun e w' => ∃ v', e = .returned v' ∧ BufG W0 wa u w' v' (l ++ falseL) := by
  have HB := Lib.hid hb; clear hb
  go_enter Tryd.func146, Tryd.ntmps146
  go_wp2_with (at_builtin; refine wpList_bufGS (by rfl) _ _ (by rfl) _ _ W0 wa u _ (by rfl) HB.out _ (by rfl) (by show l.length + 5 ≤ _; omega) ?_; intro v2 w2 hb2 hg2)
  go_ret
  exact ⟨_, rfl, hb2⟩
theorem appBoolF {W0 wa w : World} {u v : Value} {l : List UInt8} (hb : BufG W0 wa u w v l) (hl : l.length ≤ 100000000) : Calls Tryd.prog 107 #[v, .bool false] w fun e w' => ∃ v', e = .returned v' ∧ BufG W0 wa u w' v' (l ++ falseL) := by
  have HB := Lib.hid (appBoolFIn hb hl); clear hb
  go_enter Tryd.func107, Tryd.ntmps107
  go_wp2_with (go_at_call 146; refine HB.out.mono ?_; rintro e w2 ⟨v2, rfl, hb2⟩)
  go_ret
  exact ⟨_, rfl, hb2⟩

end Go.Proofs.YtclffhejoneiaaaDoorR
