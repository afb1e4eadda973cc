/- The reference's drawing cursor: contracts of its small functions. What is drawn is not told, only its bounds. -/
import Derived.Test.YtomhbbchflblpaaGreatDoorMarkA
import Derived.ProofKit
namespace Go.Proofs.YtomhbbchflblpaaGreatDoor
open Go.RowKit Go.ChangeShapes Go.WideShapes

/-- Bytes lie at a, below block B. -/
def CodeAt (w : World) (B : Nat) (a : Option Addr) (n : Nat) : Prop :=
  ∃ z : Nat → Int, (∀ i, 0 ≤ z i ∧ z i ≤ 255) ∧ (n = 0 ∨ ∃ b o, a = some ⟨b, o, none⟩ ∧ b < B ∧ ∀ i, i < n → w.cell? ⟨b, o + i, none⟩ = some (.int .u8 (z i)))
theorem CodeAt.same {w w' : World} {B : Nat} {a : Option Addr} {n : Nat} (h : CodeAt w B a n) (hs : ∀ k, k < B → k < w.heap.size → w'.heap[k]? = w.heap[k]?) : CodeAt w' B a n := by
  obtain ⟨z, h1, h2⟩ := h
  refine ⟨z, h1, ?_⟩
  rcases h2 with h2 | ⟨b, o, rfl, hb, h3⟩
  · exact .inl h2
  · exact .inr ⟨b, o, rfl, hb, fun i hi => (World.cell?_of_block (hs b hb (lt_of_cell (h3 i hi)))).trans (h3 i hi)⟩
theorem CodeAt.mono {w : World} {B B' : Nat} {a : Option Addr} {n : Nat} (h : CodeAt w B a n) (hB : B ≤ B') : CodeAt w B' a n := by
  obtain ⟨z, h1, h2⟩ := h
  refine ⟨z, h1, ?_⟩
  rcases h2 with h2 | ⟨b, o, rfl, hb, h3⟩
  · exact .inl h2
  · exact .inr ⟨b, o, rfl, by omega, h3⟩

def curF (v : Value) (i h : Int) (j : Nat) : Value := if j = 0 then v else if j = 1 then .int .i64 i else .int .i64 h
/-- A cursor lies in block g. -/
def Cur (w : World) (g : Nat) : Prop :=
  ∃ (a : Option Addr) (n cap i : Nat) (h : Int), i ≤ n ∧ n ≤ 1048576 ∧ CodeAt w g a n ∧ w.rowIs g 79 3 (curF (.slice a n cap) i h)
theorem Cur.lt {w : World} {g : Nat} (h : Cur w g) : g < w.heap.size := by
  obtain ⟨a, n, cap, i, h, _, _, _, hr⟩ := h
  exact hr.lt
theorem Cur.same {w w' : World} {g : Nat} (h : Cur w g) (hs : ∀ k, k ≤ g → k < w.heap.size → w'.heap[k]? = w.heap[k]?) : Cur w' g := by
  obtain ⟨a, n, cap, i, h, h1, h2, h3, hr⟩ := h
  exact ⟨a, n, cap, i, h, h1, h2, h3.same fun k hk hl => hs k (by omega) hl, hr.of_block (hs g (Nat.le_refl _) hr.lt)⟩
theorem Cur.keep {w w' : World} {g : Nat} (h : Cur w g) (hb : Below w.heap.size w w') : Cur w' g := h.same fun k _ hl => hb.block k hl

/-- A number up to m is answered, and only block g may have turned. -/
def NumP (g : Nat) (m : Int) (w : World) (e : Ending) (w' : World) : Prop := ∃ x : Int, 0 ≤ x ∧ x ≤ m ∧ e = .returned (.int .i64 x) ∧ Cur w' g ∧ Apart [g] w w'

theorem Apart.drewN {L : List Nat} {a w : World} (h : Apart L a w) (n : Nat) : Apart L a (w.drewN n) := h.trans ⟨rfl, rfl, rfl, Nat.le_refl _, fun _ _ _ => rfl⟩
theorem curF_set2 {w : World} {g e : Nat} {v : Value} {i h h1 : Int} (hr : w.rowIs g e 3 (fun j => if j = 2 then .int .i64 h1 else curF v i h j)) : w.rowIs g e 3 (curF v i h1) :=
  hr.congr fun j hj => by
    rcases (show j = 0 ∨ j = 1 ∨ j = 2 by omega) with rfl | rfl | rfl <;> rfl
theorem curF_set1 {w : World} {g e : Nat} {v : Value} {i i1 h : Int} (hr : w.rowIs g e 3 (fun j => if j = 1 then .int .i64 i1 else curF v i h j)) : w.rowIs g e 3 (curF v i1 h) :=
  hr.congr fun j hj => by
    rcases (show j = 0 ∨ j = 1 ∨ j = 2 by omega) with rfl | rfl | rfl <;> rfl
theorem and255 (x : Int) : 0 ≤ bits .and .i64 x 255 ∧ bits .and .i64 x 255 ≤ 255 := by
  have e : bits .and .i64 x 255 = IntKind.i64.wrap (((BitVec.ofInt 64 x &&& BitVec.ofInt 64 255).toNat : Nat) : Int) := rfl
  have h : (BitVec.ofInt 64 x &&& BitVec.ofInt 64 255).toNat ≤ 255 := by rw [BitVec.toNat_and]; exact Nat.le_trans Nat.and_le_right (by decide)
  rw [e]
  generalize (BitVec.ofInt 64 x &&& BitVec.ofInt 64 255).toNat = n at h
  have : IntKind.i64.wrap ((n : Nat) : Int) = n := IntWalk.i64_in _ (by omega)
  omega

set_option maxHeartbeats 1000000 in
theorem l01Byte_any (g : Nat) (w : World) (hC : Cur w g) : Calls Tryz.prog 91 #[.pointer (some ⟨g, 0, none⟩)] w (NumP g 255 w) := by
  obtain ⟨a, n, cap, i, h, hin, hn, hcode, hrow⟩ := hC
  have c0 : w.cell? ⟨g, 0, none⟩ = some (.slice a n cap) := hrow.cell (i := 0) (by omega)
  have c1 : w.cell? ⟨g, 1, none⟩ = some (.int .i64 (i : Int)) := hrow.cell (i := 1) (by omega)
  have c2 : w.cell? ⟨g, 2, none⟩ = some (.int .i64 h) := hrow.cell (i := 2) (by omega)
  have f2 : w.frozen? ⟨g, 2, none⟩ = false := hrow.frozen 2
  have HR := Lib.hid hrow
  clear hrow
  go_enter Tryz.func91, Tryz.ntmps91
  go_wp2_with fail
  have hrow1 := curF_set2 (HR.out.set 2 (.int .i64 (wrap64 (wrap64 (h * 6364136223846793005) + 1442695040888963407))))
  have hap := Apart.setCell (Apart.refl [g] w) (p := ⟨g, 2, none⟩) (by simp) (.int .i64 (wrap64 (wrap64 (h * 6364136223846793005) + 1442695040888963407)))
  generalize wrap64 (wrap64 (h * 6364136223846793005) + 1442695040888963407) = h1 at hrow1 hap ⊢
  generalize w.setCell ⟨g, 2, none⟩ (.int .i64 h1) = w1 at hrow1 hap ⊢
  have hcode1 := hcode.same (w' := w1) fun k hk hl => hap.block k hl (by simp; omega)
  clear c0 c1 c2 f2 hcode
  have d0 : w1.cell? ⟨g, 0, none⟩ = some (.slice a n cap) := hrow1.cell (i := 0) (by omega)
  have d1 : w1.cell? ⟨g, 1, none⟩ = some (.int .i64 (i : Int)) := hrow1.cell (i := 1) (by omega)
  have d2 : w1.cell? ⟨g, 2, none⟩ = some (.int .i64 h1) := hrow1.cell (i := 2) (by omega)
  have f1 : w1.frozen? ⟨g, 1, none⟩ = false := hrow1.frozen 1
  have HR1 := Lib.hid hrow1; have HA := Lib.hid hap; have HC := Lib.hid hcode1
  clear hrow1 hap hcode1
  go_quiet (fail)
  go_wp2_with fail
  have hx := and255 (bits BinOp.xor IntKind.i64 (h1 / 8589934592) (h1 / 35184372088832))
  generalize bits BinOp.and IntKind.i64 (bits BinOp.xor IntKind.i64 (h1 / 8589934592) (h1 / 35184372088832)) 255 = x at hx ⊢
  obtain ⟨hx0, hx1⟩ := hx
  by_cases hlt : i < n
  · obtain ⟨z, hz, hc⟩ := HC.out
    obtain ⟨b, o, rfl, hbg, hcell⟩ := hc.resolve_left (by omega)
    have c0 := hcell i hlt
    have hzi := hz i
    generalize z i = zi at c0 hzi
    obtain ⟨hz0, hz1⟩ := hzi
    have hi0 : (0 : Int) ≤ (i : Int) := by omega
    have hi1 : (i : Int) < (n : Int) := by omega
    clear hz hc hcell
    go_quiet (fail)
    go_wp2_with fail
    go_quiet (fail)
    go_wp2_with fail
    have hx := and255 (x + zi)
    go_ret
    refine ⟨_, hx.1, hx.2, rfl, ⟨some ⟨b, o, none⟩, n, cap, i + 1, h1, by omega, hn, ?_, ?_⟩, ?_⟩
    · refine HC.out.same fun k hk hl => ?_
      exact Below.heap_setCell _ _ _ _ (by simp; omega)
    · have e : ((i + 1 : Nat) : Int) = (i : Int) + 1 := by omega
      rw [e]
      refine curF_set1 (i := (i : Int)) (World.rowIs.set ?_ 1 _)
      exact HR1.out
    · exact Apart.setCell (HA.out.drewN _) (p := ⟨g, 1, none⟩) (by simp) _
  · have hd : decide ((i : Int) < (n : Int)) = false := decide_eq_false (by omega)
    go_quiet (fail)
    go_wp2_with fail
    go_ret
    exact ⟨x, hx0, hx1, rfl, ⟨a, n, cap, i, h1, hin, hn, HC.out, HR1.out⟩, HA.out.trans ⟨rfl, rfl, rfl, Nat.le_refl _, fun _ _ _ => rfl⟩⟩

theorem NumP.le {g : Nat} {m m' : Int} {w : World} {e : Ending} {w' : World} (h : NumP g m w e w') (hm : m ≤ m') : NumP g m' w e w' := by
  obtain ⟨x, h1, h2, h3⟩ := h
  exact ⟨x, h1, by omega, h3⟩

/-- l01Below: nothing below 1 gives 0. -/
theorem l01Below_zero (g : Nat) (n : Int) (w : World) (hn : n ≤ 0) (hC : Cur w g) : Calls Tryz.prog 51 #[.pointer (some ⟨g, 0, none⟩), .int .i64 n] w (NumP g 0 w) := by
  go_enter Tryz.func51, Tryz.ntmps51
  go_wp2
  go_ret
  exact ⟨0, by omega, by omega, rfl, hC, Apart.refl _ _⟩
set_option maxHeartbeats 1000000 in
theorem l01Below_any (g : Nat) (n : Int) (w : World) (h1 : 1 ≤ n) (h2 : n ≤ 1073741824) (hC : Cur w g) : Calls Tryz.prog 51 #[.pointer (some ⟨g, 0, none⟩), .int .i64 n] w (NumP g (n - 1) w) := by
  have HC := Lib.hid hC; clear hC
  by_cases h256 : n ≤ 256
  · go_enter Tryz.func51, Tryz.ntmps51
    go_wp2_with fail
    refine (l01Byte_any g _ HC.out).mono ?_
    rintro e w1 ⟨x, hx0, hx1, rfl, hc1, ha1⟩
    have HX := Lib.hid (And.intro hc1 ha1); clear hc1 ha1
    have hm0 := Int.emod_nonneg x (show n ≠ 0 by omega)
    have hm1 := Int.emod_lt_of_pos x (show 0 < n by omega)
    go_wp2
    go_ret
    exact ⟨x % n, hm0, by omega, by first | rfl | (exact ret_int (by first | rfl | (rw [Int.tmod_eq_emod_of_nonneg hx0]))), HX.out.1, HX.out.2⟩
  · go_enter Tryz.func51, Tryz.ntmps51
    go_wp2_with fail
    refine (l01Byte_any g _ HC.out).mono ?_
    rintro e w1 ⟨x1, hx1, hy1, rfl, hc1, ha1⟩
    have H1 := Lib.hid (And.intro hc1 ha1); clear hc1 ha1
    go_wp2_with fail
    refine (l01Byte_any g _ H1.out.1).mono ?_
    rintro e w2 ⟨x2, hx2, hy2, rfl, hc2, ha2⟩
    have H2 := Lib.hid (And.intro hc2 (H1.out.2.trans ha2)); clear hc2 ha2
    go_wp2_with fail
    refine (l01Byte_any g _ H2.out.1).mono ?_
    rintro e w3 ⟨x3, hx3, hy3, rfl, hc3, ha3⟩
    have H3 := Lib.hid (And.intro hc3 (H2.out.2.trans ha3)); clear hc3 ha3
    go_wp2_with fail
    refine (l01Byte_any g _ H3.out.1).mono ?_
    rintro e w4 ⟨x4, hx4, hy4, rfl, hc4, ha4⟩
    have H4 := Lib.hid (And.intro hc4 (H3.out.2.trans ha4)); clear hc4 ha4
    go_wp2
    go_ret
    have hm0 := Int.emod_nonneg (x1 * 16777216 + x2 * 65536 + x3 * 256 + x4) (show n ≠ 0 by omega)
    have hm1 := Int.emod_lt_of_pos (x1 * 16777216 + x2 * 65536 + x3 * 256 + x4) (show 0 < n by omega)
    exact ⟨_, hm0, by omega, by first | rfl | (exact ret_int (by first | rfl | (rw [Int.tmod_eq_emod_of_nonneg (by omega)]))), H4.out.1, H4.out.2⟩

def BoolP (g : Nat) (w : World) (e : Ending) (w' : World) : Prop := ∃ b : Bool, e = .returned (.bool b) ∧ Cur w' g ∧ Apart [g] w w'
theorem l01Once_any (g : Nat) (n : Int) (w : World) (h1 : 1 ≤ n) (h2 : n ≤ 1073741824) (hC : Cur w g) : Calls Tryz.prog 32 #[.pointer (some ⟨g, 0, none⟩), .int .i64 n] w (BoolP g w) := by
  go_enter Tryz.func32, Tryz.ntmps32
  go_wp2_with fail
  refine (l01Below_any g n _ h1 h2 hC).mono ?_
  rintro e w1 ⟨x, hx0, hx1, rfl, hc1, ha1⟩
  go_wp2
  go_ret
  exact ⟨_, rfl, hc1, ha1⟩

/-- A list of strings that a statement has laid: the answer is one of them. -/
def StrP (g : Nat) (Q : ByteArray → Prop) (w : World) (e : Ending) (w' : World) : Prop := ∃ s : ByteArray, Q s ∧ e = .returned (.string s) ∧ Cur w' g ∧ Apart [g] w w'
theorem l01Pick_any (g : Nat) (a : Option Addr) (n cap : Nat) (f : Nat → ByteArray) (Q : ByteArray → Prop) (w : World) (hn : 1 ≤ n) (hn2 : n ≤ 1000000) (hC : Cur w g) (hl : SlAt w a n 1 (fun i _ => .string (f i))) (hg : ∀ b o, a = some ⟨b, o, none⟩ → b ≠ g) (hQ : ∀ i, i < n → Q (f i)) :
    Calls Tryz.prog 69 #[.pointer (some ⟨g, 0, none⟩), .slice a n cap] w (StrP g Q w) := by
  obtain ⟨b, o, rfl, hcell⟩ := hl.at (by omega)
  have HL := Lib.hid hcell; have HG := Lib.hid (hg b o rfl); have HQ := Lib.hid hQ
  clear hcell hl hg hQ
  go_enter Tryz.func69, Tryz.ntmps69
  go_wp2_with fail
  refine (l01Below_any g n _ (by omega) (by omega) hC).mono ?_
  rintro e w1 ⟨x, hx0, hx1, rfl, hc1, ha1⟩
  obtain ⟨j, rfl⟩ := Int.eq_ofNat_of_zero_le hx0
  have hj : j < n := by omega
  have hb := lt_of_cell (HL.out j hj 0 (by omega))
  have c0 : w1.cell? ⟨b, o + j, none⟩ = some (.string (f j)) := by
    have h1 := HL.out j hj 0 (by omega)
    rw [Nat.mul_one, Nat.add_zero] at h1
    exact (World.cell?_of_block (ha1.block b hb (by simp; exact HG.out))).trans h1
  have hj1 : (j : Int) < (n : Int) := by omega
  have HX := Lib.hid (And.intro hc1 ha1); clear hc1 ha1 hb
  go_wp2
  go_ret
  exact ⟨f j, HQ.out j hj, rfl, HX.out.1, HX.out.2⟩

theorem l01PickInt_any (g : Nat) (a : Option Addr) (n cap : Nat) (f : Nat → Int) (w : World) (Q : Int → Prop) (hn : 1 ≤ n) (hn2 : n ≤ 1000000) (hC : Cur w g) (hl : SlAt w a n 1 (fun i _ => .int .i64 (f i))) (hg : ∀ b o, a = some ⟨b, o, none⟩ → b ≠ g) (hQ : ∀ i, i < n → Q (f i)) :
    Calls Tryz.prog 53 #[.pointer (some ⟨g, 0, none⟩), .slice a n cap] w fun e w' => ∃ x : Int, Q x ∧ e = .returned (.int .i64 x) ∧ Cur w' g ∧ Apart [g] w w' := by
  obtain ⟨b, o, rfl, hcell⟩ := hl.at (by omega)
  have HL := Lib.hid hcell; have HG := Lib.hid (hg b o rfl); have HQ := Lib.hid hQ
  clear hcell hl hg hQ
  go_enter Tryz.func53, Tryz.ntmps53
  go_wp2_with fail
  refine (l01Below_any g n _ (by omega) (by omega) hC).mono ?_
  rintro e w1 ⟨x, hx0, hx1, rfl, hc1, ha1⟩
  obtain ⟨j, rfl⟩ := Int.eq_ofNat_of_zero_le hx0
  have hj : j < n := by omega
  have hb := lt_of_cell (HL.out j hj 0 (by omega))
  have c0 : w1.cell? ⟨b, o + j, none⟩ = some (.int .i64 (f j)) := by
    have h1 := HL.out j hj 0 (by omega)
    rw [Nat.mul_one, Nat.add_zero] at h1
    exact (World.cell?_of_block (ha1.block b hb (by simp; exact HG.out))).trans h1
  have hj1 : (j : Int) < (n : Int) := by omega
  have HX := Lib.hid (And.intro hc1 ha1); clear hc1 ha1 hb
  go_wp2
  go_ret
  exact ⟨f j, HQ.out j hj, rfl, HX.out.1, HX.out.2⟩

/-- l01New: a new cursor over bytes that lie there. -/
def NewP (w : World) (e : Ending) (w' : World) : Prop := ∃ g, e = .returned (.pointer (some ⟨g, 0, none⟩)) ∧ w.heap.size ≤ g ∧ Cur w' g ∧ Below w.heap.size w w'
set_option maxHeartbeats 1000000 in
set_option maxRecDepth 100000 in
theorem l01New_any (a : Option Addr) (n cap : Nat) (w : World) (hn : n ≤ 1048576) (hc : CodeAt w w.heap.size a n) : Calls Tryz.prog 23 #[.slice a n cap] w (NewP w) := by
  have HC := Lib.hid hc; clear hc
  go_enter Tryz.func23, Tryz.ntmps23
  go_wp2
  go_loop [3, 4] (fun v i => ∃ (h : Int) (k : Nat), v = .int .i64 h ∧ k ≤ n ∧ i = .int .i64 k) (fun _ i => n - (intOf i).toNat)
  case atStart => exact ⟨_, 0, rfl, by omega, rfl⟩
  case round =>
    obtain ⟨h, k, rfl, hk, rfl⟩ := hrel
    by_cases hlt : k < n
    · obtain ⟨z, hz, hcl⟩ := HC.out
      obtain ⟨b, o, rfl, hbg, hcell⟩ := hcl.resolve_left (by omega)
      have c0 := hcell k hlt
      have hzi := hz k
      generalize z k = zi at c0 hzi
      obtain ⟨hz0, hz1⟩ := hzi
      clear hz hcl hcell
      cases h4 : decide ((k : Int) < 4000)
      rotate_left
      · go_wp2
        go_round
        case rel => exact ⟨_, k + 1, rfl, by omega, by go_num⟩
        case measure => simp [intOf]; omega
      · go_wp2
        go_ret
        exact ⟨_, rfl, Nat.le_refl _, ⟨some ⟨b, o, none⟩, n, cap, 0, h, by omega, hn, (HC.out.mono (Nat.le_refl _)).same fun q hq hl => Below.heap_alloc _ _ _ hl, World.rowIs_alloc w #[.slice (some ⟨b, o, none⟩) n cap, .int .i64 0, .int .i64 h] 79 (curF (.slice (some ⟨b, o, none⟩) n cap) ((0 : Nat) : Int) h) (fun i hi => by
          rcases (show i = 0 ∨ i = 1 ∨ i = 2 by simp at hi; omega) with rfl | rfl | rfl <;> rfl)⟩, (Below.refl _ _).alloc (Nat.le_refl _) _⟩
    · obtain rfl : n = k := by omega
      go_wp2
      go_ret
      exact ⟨_, rfl, Nat.le_refl _, ⟨a, n, cap, 0, h, by omega, hn, (HC.out.mono (Nat.le_refl _)).same fun q hq hl => Below.heap_alloc _ _ _ hl, World.rowIs_alloc w #[.slice (a) n cap, .int .i64 0, .int .i64 h] 79 (curF (.slice (a) n cap) ((0 : Nat) : Int) h) (fun i hi => by
        rcases (show i = 0 ∨ i = 1 ∨ i = 2 by simp at hi; omega) with rfl | rfl | rfl <;> rfl)⟩, (Below.refl _ _).alloc (Nat.le_refl _) _⟩

end Go.Proofs.YtomhbbchflblpaaGreatDoor
