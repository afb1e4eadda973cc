/- How needs that came in are opened; a need's value in a local of its own. -/
import Derived.Test.YtlfnbldhmkbkmaaNeedA
import Derived.Deep.Strs
import Derived.ProofKit
namespace Go.Proofs.Ytlfnbldhmkbkmaa
open Go.RowKit Go.Deep Go.ChangeShapes Go.WideShapes

theorem Try.cellsLNeed : Try.prog.cellsOf 40 = 3 := by kernel_rfl
theorem Try.undNeed : ∃ f0 f1 f2 : Field, Try.prog.underlying 40 = some (.struct #[f0, f1, f2]) ∧
    (f0.offset = 0 ∧ f1.offset = 1 ∧ f2.offset = 2) ∧ (f0.type = 9 ∧ f1.type = 3 ∧ f2.type = 38) := ⟨_, _, _, Try.underlying40, ⟨rfl, rfl, rfl⟩, rfl, rfl, rfl⟩

theorem needAt_map (n : Nat) (f : Nat → Nd) (i : Nat) (h : i < n) : needAt ((List.range n).map f) i = f i := by
  simp [needAt, List.getD_eq_getElem?_getD, h]
instance : Inhabited Nd := ⟨noNeed⟩

theorem openNeedC {H : Type} {enc : TypeId × Value → H} {W : World} {fuel : Nat} {cs : List Value} {x : DataW H × List MemPlace} (h : DataW.trod enc Try.prog W 0 (fun _ => true) true fuel 40 cs = some x) :
    ∃ n vv, cs = [.string (Nd.key n), .int .i64 n.op, vv] ∧ StrsIn W Any vv n.vals ∧ n.fits := by
  obtain ⟨f0, f1, f2, hu, ⟨o0, o1, o2⟩, t0, t1, t2⟩ := Try.undNeed
  cases fuel with
  | zero => simp [DataW.trod] at h
  | succ fuel =>
  obtain ⟨xs, n, hn, _, hlen, hxl, hel⟩ := DataW.trod_struct hu h
  rw [Try.cellsLNeed] at hlen
  have hxl3 : xs.length = 3 := hxl
  match cs, hlen with
  | [v0, v1, v2], _ =>
    have g0 := hel 0 f0 rfl; have g1 := hel 1 f1 rfl; have g2 := hel 2 f2 rfl
    rw [o0, t0, List.getElem?_eq_getElem (by omega)] at g0
    rw [o1, t1, List.getElem?_eq_getElem (by omega)] at g1
    rw [o2, t2, List.getElem?_eq_getElem (by omega)] at g2
    have cI : Try.prog.cellsOf 3 = 1 := by kernel_rfl
    have cK : Try.prog.cellsOf 38 = 1 := by kernel_rfl
    rw [Try.cellsStr] at g0; rw [cI] at g1; rw [cK] at g2
    simp only [List.drop_zero, List.drop_succ_cons, List.take_succ_cons, List.take_zero] at g0 g1 g2
    obtain ⟨s, e0, _, hs⟩ := DataW.trod_string Try.underlying9 g0
    obtain ⟨m, e1, _, _⟩ := DataW.trod_int Try.underlying3 g1
    obtain ⟨vals, hk, hkf⟩ := openStrs g2
    simp only [List.cons.injEq, and_true] at e0 e1
    exact ⟨⟨s, m, vals⟩, v2, by rw [e0, e1], hk, hs, hkf⟩

/-- A need that came in. -/
theorem openNeed {H : Type} {enc : TypeId × Value → H} {W : World} {base : Nat} {v : Value} {d : DataW H} {p : List MemPlace} (hval : Value.okWide Try.prog W .any base 40 v)
    (h : DataW.Trod enc Try.prog W 0 (fun _ => true) true 40 v d p) :
    ∃ n vv, v = .agg #[.string (Nd.key n), .int .i64 n.op, vv] ∧ StrsIn W Any vv n.vals ∧ n.fits := by
  obtain ⟨fuel, hf⟩ := h
  obtain ⟨n, vv, h1, h2, h3⟩ := openNeedC hf
  refine ⟨n, vv, ?_, h2, h3⟩
  obtain ⟨f0, f1, f2, hu, -, -⟩ := Try.undNeed
  obtain ⟨cs, rfl, hsz⟩ := okWide_struct hu hval
  have hl : cs.toList = [.string (Nd.key n), .int .i64 n.op, vv] := by simpa [Value.cells] using h1
  rw [← hl]

/-- A list of needs that came in. -/
theorem openNeeds {H : Type} {enc : TypeId × Value → H} {W : World} {base : Nat} {v : Value} {d : DataW H} {p : List MemPlace} (hval : Value.okWide Try.prog W .any base 22 v)
    (h : DataW.Trod enc Try.prog W 0 (fun _ => true) true 22 v d p) :
    ∃ (a : Option Addr) (cap : Nat) (l : List Nd), v = .slice a l.length cap ∧ NeedsIn W (.slice a l.length cap) l ∧ fitsN l := by
  obtain ⟨fuel, hf⟩ := h
  obtain ⟨a0, len0, cap0, rfl⟩ := okWide_slice Try.underlying22 hval
  rcases DataW.trod_slice Try.underlying22 hf with ⟨hcs, _⟩ | ⟨a, len, cap, elems, rest, n, _, hcs, _, _, hl, hm, hlen, hel, _, _⟩
  · simp [Value.cells] at hcs
    obtain ⟨rfl, rfl, rfl⟩ := hcs
    exact ⟨none, 0, [], rfl, ⟨none, 0, rfl, .inl rfl⟩, by unfold maxLen; simp, fun i hi => by simp at hi⟩
  · simp [Value.cells] at hcs
    obtain ⟨rfl, rfl, rfl⟩ := hcs
    have each : ∀ i, i < len0 → ∃ q : Nd × Value, ∃ cs', W.cells? 0 (a.add (i * 3)) 3 = some cs' ∧ cs' = [.string q.1.key, .int .i64 q.1.op, q.2] ∧ StrsIn W Any q.2 q.1.vals ∧ q.1.fits := fun i hi => by
      have key := hel i hi
      rw [List.getElem?_eq_getElem (by omega), Try.cellsLNeed] at key
      obtain ⟨cs', h1, h2⟩ := Option.bind_eq_some_iff.1 key
      obtain ⟨n, vv, h3, h4, h5⟩ := openNeedC h2
      exact ⟨(n, vv), cs', h1, h3, h4, h5⟩
    obtain ⟨q, hq⟩ := choose_lt each
    refine ⟨some a, cap0, (List.range len0).map fun i => (q i).1, by simp, ⟨some a, cap0, by simp, ?_⟩, by simp; omega, fun i hi => ?_⟩
    · rcases Nat.eq_zero_or_pos len0 with h0 | h0
      · left; simp [h0]
      · right
        obtain ⟨b, o, spot⟩ := a
        obtain ⟨cs0, hc0, hcs0, _, _⟩ := hq 0 h0
        obtain ⟨_, _, hcell0⟩ := World.cells?_some hc0
        have h00 := hcell0 0 (by omega)
        rw [hcs0] at h00
        have hs : spot = none := by simpa [Addr.add] using World.cell?_spot h00
        subst hs
        refine ⟨b, o, rfl, fun i hi => ?_⟩
        simp at hi
        rw [needAt_map _ _ _ hi]
        obtain ⟨cs', h1, h2, h3, h4⟩ := hq i hi
        refine ⟨(q i).2, ?_, h3⟩
        obtain ⟨_, hlen', hcell⟩ := World.cells?_some h1
        have g : ∀ j, j < 3 → W.cell? ⟨b, o + i * 3 + j, none⟩ = cs'[j]? := fun j hj => by
          have := hcell j (by omega)
          rw [addr_add, addr_add] at this
          rw [this]
        rw [h2] at g
        unfold NdCells
        exact ⟨by simpa using g 0 (by omega), by simpa using g 1 (by omega), by simpa using g 2 (by omega)⟩
    · simp at hi
      rw [needAt_map _ _ _ hi]
      obtain ⟨cs', _, _, _, h4⟩ := hq i hi
      exact h4

/-- A need's value in a local of its own (three cells). -/
def NSpill (w : World) (b : Nat) (n : Nd) (vv : Value) : Prop := ∃ e F, w.rowIs b e 3 F ∧ F 0 = .string n.key ∧ F 1 = .int .i64 n.op ∧ F 2 = vv
theorem NSpill.cells {w : World} {b : Nat} {n : Nd} {vv : Value} (h : NSpill w b n vv) :
    w.cell? ⟨b, 0, none⟩ = some (.string n.key) ∧ w.cell? ⟨b, 1, none⟩ = some (.int .i64 n.op) ∧ w.cell? ⟨b, 2, none⟩ = some vv := by
  obtain ⟨e, F, hr, h0, h1, h2⟩ := h
  exact ⟨by rw [hr.cell (by omega), h0], by rw [hr.cell (by omega), h1], by rw [hr.cell (by omega), h2]⟩
theorem NSpill.keep {w w' : World} {b : Nat} {n : Nd} {vv : Value} (h : NSpill w b n vv) (hb : Below w.heap.size w w') : NSpill w' b n vv := by
  obtain ⟨e, F, hr, hF⟩ := h
  exact ⟨e, F, rowIs_keep hr hb, hF⟩
theorem NSpill.new (w : World) (n : Nd) (vv : Value) (e : TypeId) : NSpill (w.alloc (.cells #[.string n.key, .int .i64 n.op, vv] e)) w.heap.size n vv :=
  ⟨e, _, World.rowIs_alloc w #[.string n.key, .int .i64 n.op, vv] e (lit3 (.string n.key) (.int .i64 n.op) vv) (lit3_get _ _ _), rfl, rfl, rfl⟩
theorem vals_wt (n : Nd) : n.vals.length ≤ n.wt := by have : n.wt = n.key.size + strWt n.vals := rfl; have := strWt_eq n.vals; omega

end Go.Proofs.Ytlfnbldhmkbkmaa
