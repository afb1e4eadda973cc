/- SgsI, WhoL, RqL, SgsL, merged. -/
import Derived.Test.YtpcojfcbomkgpaaDoorKA
import Derived.Test.YtpcojfcbomkgpaaDoorSignI
import Derived.Test.YtpcojfcbomkgpaaDoorWhoI
import Derived.Lib.LaidU8
import Derived.ProofKit
import Derived.Test.YtpcojfcbomkgpaaDoorRqJ
import Derived.PinnedBridge
namespace Go.Proofs.YtpcojfcbomkgpaaDoor
open Go.RowKit

def wsBytes : ByteArray := ⟨#[32, 9, 10, 13]⟩
theorem ws_ix (c : UInt8) : decide ((0 : Int) ≤ Lib.indexByte [32, 9, 10, 13] c) = wsN c.toNat := by
  have e : ∀ d : UInt8, (c.toNat == d.toNat) = decide (d = c) := fun d => by
    rw [Bool.eq_iff_iff]; simp only [beq_iff_eq, decide_eq_true_eq]
    exact ⟨fun h => (UInt8.toNat_inj.1 h).symm, fun h => by rw [h]⟩
  by_cases h1 : c = 32
  · subst h1; decide +kernel
  by_cases h2 : c = 9
  · subst h2; decide +kernel
  by_cases h3 : c = 10
  · subst h3; decide +kernel
  by_cases h4 : c = 13
  · subst h4; decide +kernel
  have ne : ∀ d : UInt8, ¬ c = d → ¬ d = c := fun d h e => h e.symm
  have g : Lib.indexByte [32, 9, 10, 13] c = -1 := by simp [Lib.indexByte, ne _ h1, ne _ h2, ne _ h3, ne _ h4]
  rw [g]
  have k1 : ¬ c.toNat = 32 := fun h => h1 (UInt8.toNat_inj.1 h)
  have k2 : ¬ c.toNat = 9 := fun h => h2 (UInt8.toNat_inj.1 h)
  have k3 : ¬ c.toNat = 10 := fun h => h3 (UInt8.toNat_inj.1 h)
  have k4 : ¬ c.toNat = 13 := fun h => h4 (UInt8.toNat_inj.1 h)
  simp [wsN, k1, k2, k3, k4]
theorem iWs (c : UInt8) (w0 : World) : Calls Tryd.prog 75 #[.string ⟨#[32, 9, 10, 13]⟩, .int .u8 (c.toNat : Int)] w0 fun e w' => e = .returned (.int .i64 (Lib.indexByte [32, 9, 10, 13] c)) ∧ w0 = w' := by
  have := Tryd.strings_IndexByte ⟨#[32, 9, 10, 13]⟩ (c.toNat : Int) w0
  refine this.mono fun e w' ⟨h1, h2⟩ => ⟨by simpa using h1, h2.symm⟩

set_option maxRecDepth 100000 in
set_option maxHeartbeats 4000000 in
theorem iSignsOf (s : ByteArray) (w : World) (hs : s.size ≤ 1048576) (hT : Tabs w) (hV : Cases w) (hE : Errs w) : Calls Tryd.prog 17 #[.string s] w (SgsV s w) := by
  have HZ := Lib.hid (ZF.new w)
  have HC := Lib.hid (fun w0 (hb : Below w.heap.size w w0) => iFault s w0 hs (tabs_keep hT hb))
  have HSA := Lib.hid (fun (k : Nat) w0 (hb : Below w.heap.size w w0) => iSignAt s k w0 hs (tabs_keep hT hb) (cases_keep hV hb) (errs_keep hE hb))
  clear hT hV hE
  rcases ft_code (s := s) with ⟨h0, hft⟩ | ⟨h1, h2, x, hft⟩
  rotate_left
  · obtain ⟨c, p⟩ := x
    have H := Lib.hid (sgs_fault hft)
    rw [hft] at HC h1 h2
    have h1 : (0 : Int) < c := h1
    have hc : (c == 0) = false := by rw [beq_eq_false_iff_ne]; omega
    have hc2 : (c != 0) = true := by rw [bne, hc]; rfl
    have HC2 : Hid (∀ w0, Below w.heap.size w w0 → Calls Tryd.prog 81 #[.string s] w0 fun e w' => e = .returned (.agg #[.int .i64 c, .int .i64 p, .string ⟨#[]⟩]) ∧ Below w0.heap.size w0 w') := Lib.hid (fun w0 hb => HC.out w0 hb)
    clear HC h1 h2 hft HSA
    go_enter Tryd.func17, Tryd.ntmps17
    go_wp2_with fail
    refine (HC2.out _ HZ.out.2).mono ?_; rintro e w1 ⟨rfl, hb1⟩
    have HZ1 := Lib.hid (HZ.out.keep hb1)
    have HZ2 := Lib.hid (HZ1.out.keep (rowAlloc w1 (.cells #[.int .i64 c, .int .i64 p, .string ⟨#[]⟩] 30)))
    obtain ⟨r0, r1, r2⟩ := HZ2.out.cells
    obtain ⟨g0, g1, g2⟩ := HZ2.out.frozen
    go_wp2_with fail
    go_region
    all_goals
      go_wp2
      refine bodyPost_ret (v := .tuple #[.slice none 0 0, .agg #[.int .i64 c, .int .i64 p, .string ⟨#[]⟩]]) (by first | (simp [results, Tryd.results17, go_sem]; done) | simp [results, Tryd.results17, go_sem, r0, r1, r2]) rfl ?_
      exact sgs_no _ _ H.out (by repeat (first | exact (by first | exact HZ2.out.2 | exact Below.refl _ _) | (refine Below.alloc ?_ (by first | omega | (simp; done) | (simp; omega)) _) | (refine Below.setCell ?_ (by first | omega | (simp; done) | (simp; omega)) _) | (refine Below.drew ?_) | (refine below_drewN ?_ _)))
  · have HFB := Lib.hid (fun k h => sgs_bad (k := k) hft h)
    have HFG := Lib.hid (fun L h => sgs_good (L := L) hft h)
    have HLS := Lib.hid (tgAt_start s)
    rw [hft] at HC
    have HC2 : Hid (∀ w0, Below w.heap.size w w0 → Calls Tryd.prog 81 #[.string s] w0 fun e w' => e = .returned (.agg #[.int .i64 0, .int .i64 0, .string ⟨#[]⟩]) ∧ Below w0.heap.size w0 w') := Lib.hid (fun w0 hb => HC.out w0 hb)
    generalize toksR s = R at HLS HFB HFG
    clear HC h0 hft
    go_enter Tryd.func17, Tryd.ntmps17
    go_wp2_with fail
    refine (HC2.out _ HZ.out.2).mono ?_; rintro e w1 ⟨rfl, hb1⟩
    have HZ0 := Lib.hid (HZ.out.keep hb1)
    have HZ1 := Lib.hid (HZ0.out.keep (rowAlloc w1 (.cells #[.int .i64 0, .int .i64 0, .string ⟨#[]⟩] 30)))
    have HR0 := Lib.hid (RowB.start 23 4 (w1.alloc (.cells #[.int .i64 0, .int .i64 0, .string ⟨#[]⟩] 30)) #[] rfl)
    have HSZ := Lib.hid (show w1.heap.size + 1 = (w1.alloc (.cells #[.int .i64 0, .int .i64 0, .string ⟨#[]⟩] 30)).heap.size from (World.size_alloc ..).symm)
    clear hb1 HZ HZ0
    go_wp2_with fail
    generalize w1.alloc (.cells #[.int .i64 0, .int .i64 0, .string ⟨#[]⟩] 30) = wf at HZ1 HR0 HSZ ⊢
    have HLW := Lib.hid HZ1.out.lt
    go_loopw [5, 6] (fun v i wr => ∃ (k : Nat) (acc : List (Sg × Nat)), k ≤ s.size ∧ acc.length ≤ k ∧ i = .int .i64 k ∧ Hid (RowB 23 4 wf wr v acc.length (cellsSign acc)) ∧ Hid (TgAt s R k acc)) (fun _ i _ => s.size - (intOf i).toNat)
    case atStart => exact ⟨0, [], by omega, by simp, rfl, by rw [HSZ.out]; exact HR0, HLS⟩
    case round =>
      obtain ⟨k, acc, hk, hak, rfl, HR, HTG⟩ := hrel
      by_cases hlt : k < s.size
      rotate_left
      · have H := Lib.hid (HFG.out acc (tgAt_end HTG.out (by omega)))
        have HZ := Lib.hid (HZ1.out.keep HR.out.bel)
        obtain ⟨r0, r1, r2⟩ := HZ.out.cells
        obtain ⟨g0, g1, g2⟩ := HZ.out.frozen
        go_wp2
        refine bodyPost_ret (v := .tuple #[u5, .agg #[.int .i64 0, .int .i64 0, .string ⟨#[]⟩]]) (by first | (simp [results, Tryd.results17, go_sem]; done) | simp [results, Tryd.results17, go_sem, r0, r1, r2]) rfl ?_
        exact sgs_yes H.out (RowB.past2 (b := w.heap.size) HR.out HZ1.out.2 (Nat.le_refl _) HLW.out (by repeat (first | exact Apart.refl _ _ | refine Apart.setCell ?_ (by simp) _)))
      have hbt := bt_eq s k hlt
      have HIX := Lib.hid (fun w0 => iWs s[k] w0)
      have hdx := ws_ix s[k]
      rw [← hbt] at hdx
      generalize Lib.indexByte [32, 9, 10, 13] s[k] = ix at HIX hdx
      cases hw : wsN (bt s k)
      rotate_left
      · have HN := Lib.hid (tgAt_ws HTG.out hlt hw)
        rw [hw] at hdx
        clear hw hbt
        go_wp2_with (go_at_call 75; refine (HIX.out _).mono ?_; rintro e w2 ⟨rfl, rfl⟩)
        go_roundw
        case rel => exact ⟨k + 1, acc, by omega, by omega, by go_num, HR, HN⟩
        case measure => simp [intOf]; omega
      have HBW := Lib.hid (bnext HZ1.out.2 HR.out.bel)
      cases hsg : signO s k with
      | none =>
        have HCS : Hid (∀ w0, Below w.heap.size w w0 → Calls Tryd.prog 14 #[.string s, .int .i64 (k : Int)] w0 fun e w' => e = .returned (.tuple #[.agg #[.int .i64 0, .string ⟨#[]⟩, .int .i64 0, .int .i64 0], .int .i64 (-1)]) ∧ Below w0.heap.size w0 w') := Lib.hid (fun w0 hb => (HSA.out k w0 hb).mono fun _ _ => sgn_none hlt hsg)
        have H := Lib.hid (HFB.out k (tgAt_bad HTG.out hlt hw hsg))
        rw [hw] at hdx
        clear hw hbt hsg HTG
        go_wp2_with (go_at_call 75; refine (HIX.out _).mono ?_; rintro e w2 ⟨rfl, rfl⟩)
        refine (HCS.out _ HBW.out).mono ?_; rintro e w4 ⟨rfl, hb4⟩
        have HZ := Lib.hid (((HZ1.out.keep HR.out.bel).keep hb4).keep (rowAlloc w4 (.cells #[.int .i64 0, .string ⟨#[]⟩, .int .i64 0, .int .i64 0] 23)))
        obtain ⟨r0, r1, r2⟩ := HZ.out.cells
        obtain ⟨g0, g1, g2⟩ := HZ.out.frozen
        clear hb4
        go_wp2
        refine bodyPost_ret (v := .tuple #[.slice none 0 0, .agg #[.int .i64 3, .int .i64 (k : Int), .string ⟨#[]⟩]]) (by first | (simp [results, Tryd.results17, go_sem]; done) | simp [results, Tryd.results17, go_sem, r0, r1, r2]) rfl ?_
        exact sgs_no _ _ H.out (by repeat (first | exact (by first | exact HZ.out.2 | exact Below.refl _ _) | (refine Below.alloc ?_ (by first | omega | (simp; done) | (simp; omega)) _) | (refine Below.setCell ?_ (by first | omega | (simp; done) | (simp; omega)) _) | (refine Below.drew ?_) | (refine below_drewN ?_ _)))
      | some x =>
        have HCS : Hid (∀ w0, Below w.heap.size w w0 → Calls Tryd.prog 14 #[.string s, .int .i64 (k : Int)] w0 fun e w' => e = .returned (.tuple #[.agg #[.int .i64 x.kind, .string x.text, .int .i64 x.num, .int .i64 (k : Int)], .int .i64 (x.fin : Int)]) ∧ Below w0.heap.size w0 w') := Lib.hid (fun w0 hb => (HSA.out k w0 hb).mono fun _ _ => sgn_some hlt hsg)
        have hfin := sign_fin hlt hsg
        have HN := Lib.hid (tgAt_step HTG.out hlt hw hsg)
        have hdf : decide ((x.fin : Int) < 0) = false := decide_eq_false (by omega)
        rw [hw] at hdx
        clear hw hbt hsg HTG
        go_wp2_with (go_at_call 75; refine (HIX.out _).mono ?_; rintro e w2 ⟨rfl, rfl⟩)
        refine (HCS.out _ HBW.out).mono ?_; rintro e w4 ⟨rfl, hb4⟩
        have HR4 := Lib.hid ((HR.out.keep hb4).alloc (.cells #[.int .i64 x.kind, .string x.text, .int .i64 x.num, .int .i64 (k : Int)] 23))
        clear hb4 HR HBW
        go_wp2_with (at_builtin; refine wpList_row Tryd.elSign (by rfl) _ _ (by rfl) _ _ _ [.int .i64 x.kind, .string x.text, .int .i64 x.num, .int .i64 (k : Int)] wf _ (by rfl) HR4.out _ 1 1 (by rfl) rfl (by simp [Value.oneCell']) (by first | rfl | (rw [World.size_alloc]; rfl) | (simp only [World.size_alloc]; rfl)) (by omega) ?_; intro v' w' hrow')
        go_roundw
        case rel => exact ⟨x.fin, acc ++ [(x, k)], by omega, by simp; omega, by go_num, Lib.hid (by rw [cellsSign_snoc, List.length_append]; exact hrow'), HN⟩
        case measure => simp [intOf]; omega

end Go.Proofs.YtpcojfcbomkgpaaDoor
namespace Go.Proofs.YtpcojfcbomkgpaaDoor
open Go.RowKit

theorem iface_cell {H : Type} {enc : TypeId × Value → H} {P : Program} {w : World} {base : Nat} {sp : Nat → Bool} {held : Bool} {fuel : Nat} {t : TypeId} {cs : List Value} {nm : String} {d : DataW H} {p : List MemPlace} {ms : Array (String × TypeId)}
    (hi : P.underlying t = some (.interface ms)) (h : DataW.trod enc P w base sp held fuel t cs = some (.iface nm d, p)) : ∃ u v, cs = [.iface u v] := by
  cases fuel with
  | zero => simp [DataW.trod] at h
  | succ fuel =>
    unfold DataW.trod at h
    rw [hi] at h
    split at h
    all_goals first
      | exact ⟨_, _, rfl⟩
      | (rename_i he; cases he; done)
      | (simp at h; done)
      | (rename_i h1 h2; cases h1; done)
      | (simp_all; done)
theorem errs_of {W : World} (h : Lib.VarReads Tryd.prog W "strconv.ErrRange" Rows.laid_strconv_ErrRange) : Errs W := by
  obtain ⟨g, t, cs, fuel, p, hg, ht, hv, hd⟩ := h
  have hg2 : Tryd.prog.globalNamed "strconv.ErrRange" = some 4 := by kernel_rfl
  have ht2 : (Tryd.prog.globals[4]?).map (·.type) = some 137 := by kernel_rfl
  obtain rfl := Option.some.inj (hg2.symm.trans hg)
  obtain rfl := Option.some.inj (ht2.symm.trans ht)
  obtain ⟨u, v, he⟩ := iface_cell Tryd.underlying137 hd
  refine ⟨u, v, ?_⟩
  rw [hv]
  congr 1
  obtain ⟨l⟩ := cs
  simp only at he
  rw [he]

end Go.Proofs.YtpcojfcbomkgpaaDoor
namespace Go.Proofs.YtpcojfcbomkgpaaDoor
open Go.RowKit

theorem cases_of {W : World} (h : Lib.VarReads Tryd.prog W "unicode.CaseRanges" Rows.laid_unicode_CaseRanges) : Cases W :=
  caseVar_of_reads (ρ := Tryd.lays204_ren) { Tryd.lays204 with } Tryd.lays204.t206 ⟨by kernel_rfl, by kernel_rfl, by kernel_rfl, by kernel_rfl, by kernel_rfl, by kernel_rfl⟩ (Pinned.caseRanges_eq ▸ h)

end Go.Proofs.YtpcojfcbomkgpaaDoor
namespace Go.Proofs.YtpcojfcbomkgpaaDoor
open Go.RowKit

theorem below_apart {W w w' : World} {L : List Nat} {lo : Nat} (h : Below W.heap.size W w) (ha : Apart L w w') (hd : ∀ x, x ∈ L → lo ≤ x) (hl : W.heap.size ≤ lo) : Below W.heap.size W w' :=
  h.trans (ha.below h.size fun x hx => Nat.le_trans hl (hd x hx))
/-- A fault in a local. -/
def FC (w : World) (b : Nat) (c p : Int) : Prop := w.rowIs b 30 3 (ZFl (.int .i64 c) (.int .i64 p) (.string ⟨#[]⟩))
theorem FC.new (w : World) (c p : Int) : FC (w.alloc (.cells #[.int .i64 c, .int .i64 p, .string ⟨#[]⟩] 30)) w.heap.size c p := World.rowIs_alloc w #[.int .i64 c, .int .i64 p, .string ⟨#[]⟩] 30 (ZFl (.int .i64 c) (.int .i64 p) (.string ⟨#[]⟩)) (ZFl_get _ _ _)
theorem FC.keep {w w' : World} {b : Nat} {c p : Int} (h : FC w b c p) (hb : Below w.heap.size w w') : FC w' b c p := rowIs_keep h hb
theorem FC.far {w w' : World} {b : Nat} {c p : Int} {L : List Nat} (h : FC w b c p) (ha : Apart L w w') (hd : ∀ x, x ∈ L → x ≠ b) : FC w' b c p :=
  World.rowIs.of_block h (ha.block _ (World.rowIs.lt h) fun hx => hd _ hx rfl)
theorem FC.cells {w : World} {b : Nat} {c p : Int} (h : FC w b c p) : w.cell? ⟨b, 0, none⟩ = some (.int .i64 c) ∧ w.cell? ⟨b, 1, none⟩ = some (.int .i64 p) ∧ w.cell? ⟨b, 2, none⟩ = some (.string ⟨#[]⟩) :=
  ⟨World.rowIs.cell h (by omega), World.rowIs.cell h (by omega), World.rowIs.cell h (by omega)⟩
theorem eqFault_same (c p : Int) (w : World) : Calls Tryd.prog 19 #[.agg #[.int .i64 c, .int .i64 p, .string ⟨#[]⟩], .agg #[.int .i64 c, .int .i64 p, .string ⟨#[]⟩]] w fun e w' => e = .returned (.bool true) ∧ Below w.heap.size w w' := by
  have e0 : (c != c) = false := by simp [bne]
  have e1 : (p != p) = false := by simp [bne]
  go_enter Tryd.func19, Tryd.ntmps19
  go_wp2
  go_ret
  exact ⟨rfl, by repeat (first | exact Below.refl _ _ | (refine Below.alloc ?_ (by first | omega | (simp; done) | (simp; omega)) _) | (refine Below.setCell ?_ (by first | omega | (simp; done) | (simp; omega)) _) | (refine Below.drew ?_) | (refine below_drewN ?_ _))⟩

set_option maxRecDepth 100000 in
set_option maxHeartbeats 4000000 in
theorem lawSignsOf (s : ByteArray) (hm : s.size ≤ maxLen) {w : World} (_h1 : Lib.VarReads Tryd.prog w "math/bits.deBruijn32tab" Rows.laid_math_bits_deBruijn32tab) (_h2 : Lib.VarReads Tryd.prog w "math/bits.deBruijn64tab" Rows.laid_math_bits_deBruijn64tab) (_h3 : Lib.VarReads Tryd.prog w "internal/strconv.uint64pow10" Rows.laid_internal_strconv_uint64pow10) (ha : Lib.VarReads Tryd.prog w "unicode/utf8.acceptRanges" Rows.laid_unicode_utf8_acceptRanges) (he0 : Lib.VarReads Tryd.prog w "strconv.ErrRange" Rows.laid_strconv_ErrRange) (_h6 : Lib.VarReads Tryd.prog w "strconv.ErrSyntax" Rows.laid_strconv_ErrSyntax) (hc : Lib.VarReads Tryd.prog w "unicode.CaseRanges" Rows.laid_unicode_CaseRanges) (hf : Lib.VarReads Tryd.prog w "unicode/utf8.first" Rows.laid_unicode_utf8_first) :
    Calls Tryd.prog 4 #[.string s] w fun e w' => e = .returned (.bool true) ∧ Below w.heap.size w w' := by
  have hTb := And.intro (tabs_of ha hf) (And.intro (cases_of hc) (errs_of he0))
  clear ha hc hf he0
  unfold maxLen at hm
  by_cases hs : s.size ≤ 1048576
  · skip
    have hS := fun w0 => sSignsOf s w0 hs
    have hI := fun w0 (hb : Below w.heap.size w w0) => iSignsOf s w0 hs (tabs_keep hTb.1 hb) (cases_keep hTb.2.1 hb) (errs_keep hTb.2.2 hb)
    have hlen := sgs_len s
    unfold SgsV at hS hI
    generalize sgsC s = C at hS hI
    generalize sgsP s = Q at hS hI
    generalize sgsL s = l at hS hI hlen
    have HS := Lib.hid hS; have HI := Lib.hid hI
    clear hS hI hTb
    obtain ⟨m, hmm⟩ : ∃ m : Int, m = 1 + 4 * (l.length : Int) := ⟨_, rfl⟩
    have hmd : decide (m < 0) = false := decide_eq_false (by omega)
    have HM := Lib.hid hmm; clear hmm
    have em : (m != m) = false := by simp
    have HB := Lib.hid (Below.refl w.heap.size w)
    go_enter Tryd.func4, Tryd.ntmps4
    go_wp2_with fail
    refine (HS.out _).mono ?_
    rintro e w1 ⟨⟨a1, n1, f1, rfl, hg1⟩, hb1⟩
    have HB := Lib.hid (bnext HB.out (hb1))
    have hz1 := hb1.size; (try simp only [World.size_alloc] at hz1 hg1); clear hb1
    have Hw := Lib.hid hg1; clear hg1
    have hal := rowAlloc w1 (.cells #[.int .i64 C, .int .i64 Q, .string ⟨#[]⟩] 30)
    have HB := Lib.hid (bnext HB.out (hal))
    have Hw := Lib.hid (Hw.out.keep (hal))
    clear hal
    have Hp := Lib.hid (FC.new w1 C Q)
    go_wp2_with fail
    refine (HI.out _ HB.out).mono ?_
    rintro e w2 ⟨⟨a2, n2, f2, rfl, hg2⟩, hb2⟩
    have HB := Lib.hid (bnext HB.out (hb2))
    have Hw := Lib.hid (Hw.out.keep (hb2))
    have Hp := Lib.hid (Hp.out.keep (hb2))
    have hz2 := hb2.size; (try simp only [World.size_alloc] at hz2 hg2); clear hb2
    have Hg := Lib.hid hg2; clear hg2
    have hal := rowAlloc w2 (.cells #[.int .i64 C, .int .i64 Q, .string ⟨#[]⟩] 30)
    have HB := Lib.hid (bnext HB.out (hal))
    have Hw := Lib.hid (Hw.out.keep (hal))
    have Hp := Lib.hid (Hp.out.keep (hal))
    have Hg := Lib.hid (Hg.out.keep (hal))
    clear hal
    have Hq := Lib.hid (FC.new w2 C Q)
    obtain ⟨c1_0, c1_1, c1_2⟩ := (Hq.out).cells
    obtain ⟨c2_0, c2_1, c2_2⟩ := (Hp.out).cells
    go_wp2_with fail
    clear c1_0 c1_1 c1_2 c2_0 c2_1 c2_2
    refine (eqSignS_same l _ _ _ _ _ (by omega) Hg.out.own.sl Hw.out.own.sl).mono ?_
    rintro e w3 ⟨rfl, hb3⟩
    have HB := Lib.hid (bnext HB.out (hb3))
    have Hw := Lib.hid (Hw.out.keep (hb3))
    have Hp := Lib.hid (Hp.out.keep (hb3))
    have Hg := Lib.hid (Hg.out.keep (hb3))
    have Hq := Lib.hid (Hq.out.keep (hb3))
    have hz3 := hb3.size; (try simp only [World.size_alloc] at hz3); clear hb3
    obtain ⟨c3_0, c3_1, c3_2⟩ := (Hq.out).cells
    obtain ⟨c4_0, c4_1, c4_2⟩ := (Hp.out).cells
    go_wp2_with fail
    clear c3_0 c3_1 c3_2 c4_0 c4_1 c4_2
    refine (eqFault_same C Q _).mono ?_
    rintro e w4 ⟨rfl, hb4⟩
    have HB := Lib.hid (bnext HB.out (hb4))
    have Hw := Lib.hid (Hw.out.keep (hb4))
    have Hp := Lib.hid (Hp.out.keep (hb4))
    have Hg := Lib.hid (Hg.out.keep (hb4))
    have Hq := Lib.hid (Hq.out.keep (hb4))
    have hz4 := hb4.size; clear hb4
    go_wp2_with fail
    refine (mark1Sign l.length _ a2 n2 f2 _ m (by omega) HM.out Hg.out.own).mono ?_
    rintro e w5 ⟨rfl, ho5, ha5⟩
    have HB' := Lib.hid (below_apart HB.out ha5 (fun x hx => (Hg.out.fb x hx).1) (by omega))
    have Hw' := Lib.hid (Hw.out.far ha5 (fun x hx => by have := Hg.out.fb x hx; omega))
    have Hp' := Lib.hid (Hp.out.far ha5 (fun x hx => by have := Hg.out.fb x hx; omega))
    have Hq' := Lib.hid (Hq.out.far ha5 (fun x hx => by have := Hg.out.fb x hx; omega))
    have Hg' : Hid (GFlat _ _ _ _ l.length 4 (markSign 1) f2) := Lib.hid ⟨ho5, Hg.out.fb⟩
    have HB := Lib.hid HB'.out
    clear HB'
    have Hw := Lib.hid Hw'.out
    clear Hw'
    have Hp := Lib.hid Hp'.out
    clear Hp'
    have Hg := Lib.hid Hg'.out
    clear Hg'
    have Hq := Lib.hid Hq'.out
    clear Hq'
    have hz5 := ha5.size; clear ha5 ho5
    go_wp2_with fail
    refine (held1Sign l.length a2 n2 _ m (by omega) HM.out Hg.out.own.sl).mono ?_
    rintro e w6 ⟨rfl, hb6⟩
    have HB := Lib.hid (bnext HB.out (hb6))
    have Hw := Lib.hid (Hw.out.keep (hb6))
    have Hp := Lib.hid (Hp.out.keep (hb6))
    have Hg := Lib.hid (Hg.out.keep (hb6))
    have Hq := Lib.hid (Hq.out.keep (hb6))
    have hz6 := hb6.size; clear hb6
    go_wp2_with fail
    refine (HI.out _ HB.out).mono ?_
    rintro e w7 ⟨⟨a7, n7, f7, rfl, hg7⟩, hb7⟩
    have HB := Lib.hid (bnext HB.out (hb7))
    have Hw := Lib.hid (Hw.out.keep (hb7))
    have Hp := Lib.hid (Hp.out.keep (hb7))
    have Hg := Lib.hid (Hg.out.keep (hb7))
    have Hq := Lib.hid (Hq.out.keep (hb7))
    have hz7 := hb7.size; (try simp only [World.size_alloc] at hz7 hg7); clear hb7
    have Hh := Lib.hid hg7; clear hg7
    have hal := rowAlloc w7 (.cells #[.int .i64 C, .int .i64 Q, .string ⟨#[]⟩] 30)
    have HB := Lib.hid (bnext HB.out (hal))
    have Hw := Lib.hid (Hw.out.keep (hal))
    have Hp := Lib.hid (Hp.out.keep (hal))
    have Hg := Lib.hid (Hg.out.keep (hal))
    have Hq := Lib.hid (Hq.out.keep (hal))
    have Hh := Lib.hid (Hh.out.keep (hal))
    clear hal
    have Hr := Lib.hid (FC.new w7 C Q)
    obtain ⟨c5_0, c5_1, c5_2⟩ := (Hr.out).cells
    obtain ⟨c6_0, c6_1, c6_2⟩ := (Hp.out).cells
    go_wp2_with fail
    clear c5_0 c5_1 c5_2 c6_0 c6_1 c6_2
    refine (eqSignS_same l _ _ _ _ _ (by omega) Hh.out.own.sl Hw.out.own.sl).mono ?_
    rintro e w8 ⟨rfl, hb8⟩
    have HB := Lib.hid (bnext HB.out (hb8))
    have Hw := Lib.hid (Hw.out.keep (hb8))
    have Hp := Lib.hid (Hp.out.keep (hb8))
    have Hg := Lib.hid (Hg.out.keep (hb8))
    have Hq := Lib.hid (Hq.out.keep (hb8))
    have Hh := Lib.hid (Hh.out.keep (hb8))
    have Hr := Lib.hid (Hr.out.keep (hb8))
    have hz8 := hb8.size; (try simp only [World.size_alloc] at hz8); clear hb8
    obtain ⟨c7_0, c7_1, c7_2⟩ := (Hr.out).cells
    obtain ⟨c8_0, c8_1, c8_2⟩ := (Hp.out).cells
    go_wp2_with fail
    clear c7_0 c7_1 c7_2 c8_0 c8_1 c8_2
    refine (eqFault_same C Q _).mono ?_
    rintro e w9 ⟨rfl, hb9⟩
    have HB := Lib.hid (bnext HB.out (hb9))
    have Hw := Lib.hid (Hw.out.keep (hb9))
    have Hp := Lib.hid (Hp.out.keep (hb9))
    have Hg := Lib.hid (Hg.out.keep (hb9))
    have Hq := Lib.hid (Hq.out.keep (hb9))
    have Hh := Lib.hid (Hh.out.keep (hb9))
    have Hr := Lib.hid (Hr.out.keep (hb9))
    have hz9 := hb9.size; clear hb9
    go_wp2_with fail
    refine (held1Sign l.length a2 n2 _ m (by omega) HM.out Hg.out.own.sl).mono ?_
    rintro e w10 ⟨rfl, hb10⟩
    have HB := Lib.hid (bnext HB.out (hb10))
    have Hw := Lib.hid (Hw.out.keep (hb10))
    have Hp := Lib.hid (Hp.out.keep (hb10))
    have Hg := Lib.hid (Hg.out.keep (hb10))
    have Hq := Lib.hid (Hq.out.keep (hb10))
    have Hh := Lib.hid (Hh.out.keep (hb10))
    have Hr := Lib.hid (Hr.out.keep (hb10))
    have hz10 := hb10.size; clear hb10
    go_wp2
    go_ret
    exact ⟨rfl, HB.out⟩
  · go_enter Tryd.func4, Tryd.ntmps4
    go_wp2
    go_ret
    exact ⟨rfl, Below.refl _ _⟩

end Go.Proofs.YtpcojfcbomkgpaaDoor
