/- What strconv.ErrRange holds; the law's walk of ReadWhole. -/
import Derived.Test.YtoaakbaijklhhaaDoorWhoI
import Derived.Lib.LaidU8
import Derived.ProofKit
namespace Go.Proofs.YtoaakbaijklhhaaDoor
open Go.RowKit

theorem iface_cell {H : Type} {enc : TypeId × Value → H} {P : Program} {w : World} {base : Nat} {sp : Nat → Bool} {held : Bool} {fuel : Nat} {t : TypeId} {cs : List Value} {nm : String} {d : DataW H} {p : List MemPlace} {ms : Array (String × TypeId)}
    (hi : P.underlying t = some (.interface ms)) (h : DataW.trod enc P w base sp held fuel t cs = some (.iface nm d, p)) : ∃ u v, cs = [.iface u v] := by
  cases fuel with
  | zero => simp [DataW.trod] at h
  | succ fuel =>
    unfold DataW.trod at h
    rw [hi] at h
    split at h
    all_goals first
      | exact ⟨_, _, rfl⟩
      | (rename_i he; cases he; done)
      | (simp at h; done)
      | (rename_i h1 h2; cases h1; done)
      | (simp_all; done)
theorem errs_of {W : World} (h : Lib.VarReads Tryd.prog W "strconv.ErrRange" Rows.laid_strconv_ErrRange) : Errs W := by
  obtain ⟨g, t, cs, fuel, p, hg, ht, hv, hd⟩ := h
  have hg2 : Tryd.prog.globalNamed "strconv.ErrRange" = some 4 := by kernel_rfl
  have ht2 : (Tryd.prog.globals[4]?).map (·.type) = some 59 := by kernel_rfl
  obtain rfl := Option.some.inj (hg2.symm.trans hg)
  obtain rfl := Option.some.inj (ht2.symm.trans ht)
  obtain ⟨u, v, he⟩ := iface_cell Tryd.underlying59 hd
  refine ⟨u, v, ?_⟩
  rw [hv]
  congr 1
  obtain ⟨l⟩ := cs
  simp only at he
  rw [he]

theorem lawReadWhole (s : ByteArray) (hm : s.size ≤ maxLen) (p : Int) (_hp : (Lit.int .i64 p).wf = true) {w : World} (_h1 : Lib.VarReads Tryd.prog w "math/bits.deBruijn32tab" Rows.laid_math_bits_deBruijn32tab) (_h2 : Lib.VarReads Tryd.prog w "math/bits.deBruijn64tab" Rows.laid_math_bits_deBruijn64tab) (_h3 : Lib.VarReads Tryd.prog w "internal/strconv.uint64pow10" Rows.laid_internal_strconv_uint64pow10) (h4 : Lib.VarReads Tryd.prog w "strconv.ErrRange" Rows.laid_strconv_ErrRange) (_h5 : Lib.VarReads Tryd.prog w "strconv.ErrSyntax" Rows.laid_strconv_ErrSyntax) :
    Calls Tryd.prog 11 #[.string s, .int .i64 p] w fun e w' => e = .returned (.bool true) ∧ Below w.heap.size w w' := by
  have hE := errs_of h4
  clear h4
  unfold maxLen at hm
  by_cases hs : s.size ≤ 1048576
  · have HE := Lib.hid hE; clear hE
    go_enter Tryd.func11, Tryd.ntmps11
    go_wp2_with fail
    refine (sReadWhole _ _ _ hs).mono ?_; rintro e w1 ⟨rfl, hb1⟩
    go_wp2_with fail
    refine (iReadWhole _ _ _ hs (errs_keep HE.out hb1)).mono ?_; rintro e w2 ⟨rfl, hb2⟩
    have e2 : (whoN (whoQ s p) != whoN (whoQ s p)) = false := by simp
    have e3 : (whoE (whoQ s p) != whoE (whoQ s p)) = false := by simp
    go_wp2
    go_ret
    exact ⟨rfl, bnext hb1 hb2⟩
  · go_enter Tryd.func11, Tryd.ntmps11
    go_wp2
    go_ret
    exact ⟨rfl, Below.refl _ _⟩

end Go.Proofs.YtoaakbaijklhhaaDoor
