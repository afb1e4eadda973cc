/- impl.Utf8Ok; the law. -/
import Derived.Test.YtbjialckijphiaaDoorRuneB
import Derived.Test.YtbjialckijphiaaDoorLay
import Derived.Lib.LaidU8T
import Derived.PinnedBridge
namespace Go.Proofs.YtbjialckijphiaaDoor
open Go.RowKit

/-- The two tables of unicode/utf8 lie where the library reads them. -/
def Tabs (w : World) : Prop := Lib.Utf8Tabs (Tryd.laysValid_ren.g 3) (Tryd.laysValid_ren.g 4) w
theorem tabs_keep {w w' : World} (h : Tabs w) (hb : Below w.heap.size w w') : Tabs w' :=
  ⟨fun c hc => bkeep hb (h.1 c hc), fun i hi => ⟨bkeep hb (h.2 i hi).1, bkeep hb (h.2 i hi).2⟩⟩
theorem u8extra : U8Extra Tryd.prog Tryd.laysValid_ren := ⟨by kernel_rfl, by kernel_rfl, by kernel_rfl, by kernel_rfl, by kernel_rfl, by kernel_rfl, by kernel_rfl⟩
theorem accept_eq : (Rows.laid_unicode_utf8_acceptRanges : DataW Unit) = Lib.acceptData := by kernel_rfl
theorem tabs_of {W : World} (ha : Lib.VarReads Tryd.prog W "unicode/utf8.acceptRanges" Rows.laid_unicode_utf8_acceptRanges) (hf : Lib.VarReads Tryd.prog W "unicode/utf8.first" Rows.laid_unicode_utf8_first) : Tabs W :=
  utf8Tabs_of_readsT (U8Types.of196 Tryd.laysValid) u8extra (Pinned.utf8First_eq ▸ hf) (accept_eq ▸ ha)

theorem iUtf8Ok (s : ByteArray) (w : World) (hs : s.size ≤ 1048576) (hT : Tabs w) :
    Calls Tryd.prog 44 #[.string s] w fun e w' => e = .returned (.bool (runesO s).isSome) ∧ Below w.heap.size w w' := by
  have c : Calls Tryd.prog 53 #[.string s] w fun e w' => e = .returned (.bool (runesO s).isSome) ∧ Below w.heap.size w w' := by
    rw [runes_valid]; exact Any.utf8_ValidString Tryd.laysValid s w (by omega) hT
  generalize (runesO s).isSome = V at c ⊢
  go_enter Tryd.func44, Tryd.ntmps44
  go_wp2_with (go_at_call 53; refine c.mono ?_; rintro e w1 ⟨rfl, hb1⟩)
  go_ret
  exact ⟨rfl, hb1⟩

end Go.Proofs.YtbjialckijphiaaDoor
