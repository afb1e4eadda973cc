/- How a tree that came in is opened; the laws' walks of TreeSize, TreeDepth, LeavesOf. -/
import Derived.DataShut
import Derived.Test.YtbjialckijphiaaDoorTreeT
import Derived.Test.YtbjialckijphiaaDoorTreeE
import Derived.Test.YtbjialckijphiaaDoorTreeV
import Derived.Deep.Strs
import Derived.ProofKit
namespace Go.Proofs.YtbjialckijphiaaDoor
open Go.RowKit Go.Deep Go.ChangeShapes Go.WideShapes

theorem Tryd.cellsLTree : Tryd.prog.cellsOf 25 = 6 := by kernel_rfl
/-- The six fields of laws.Tree. -/
theorem Tryd.undTree : ∃ f0 f1 f2 f3 f4 f5 : Field, Tryd.prog.underlying 25 = some (.struct #[f0, f1, f2, f3, f4, f5]) ∧
    (f0.offset = 0 ∧ f1.offset = 1 ∧ f2.offset = 2 ∧ f3.offset = 3 ∧ f4.offset = 4 ∧ f5.offset = 5) ∧
    (f0.type = 3 ∧ f1.type = 4 ∧ f2.type = 3 ∧ f3.type = 9 ∧ f4.type = 22 ∧ f5.type = 23) := ⟨_, _, _, _, _, _, Tryd.underlying25, ⟨rfl, rfl, rfl, rfl, rfl, rfl⟩, rfl, rfl, rfl, rfl, rfl, rfl⟩

mutual
/-- Each number can be held by a machine. -/
def Tr.nums : Tr → Prop | .mk _ _ n _ _ kids => (Lit.int .i64 n).wf = true ∧ numsL kids
def numsL : List Tr → Prop | [] => True | t :: ts => t.nums ∧ numsL ts
end
theorem nums_iff (t : Tr) : t.nums ↔ (Lit.int .i64 t.num).wf = true ∧ numsL t.kids := by cases t; simp only [Tr.nums, Tr.num, Tr.kids]
theorem nums_bd {t : Tr} (h : t.nums) : -9223372036854775808 ≤ t.num ∧ t.num ≤ 9223372036854775807 := (Lit.wf_int_iff .i64 t.num).1 ((nums_iff t).1 h).1
theorem nums_kid : ∀ (l : List Tr) (k : Nat), k < l.length → numsL l → (kidAt l k).nums
  | [], k, h, _ => by simp at h
  | t :: ts, 0, _, h => by simp only [numsL] at h; exact h.1
  | t :: ts, k + 1, h, hf => by simp only [numsL] at hf; exact nums_kid ts k (by simpa using h) hf.2
theorem numsL_of : ∀ (l : List Tr), (∀ i, i < l.length → (kidAt l i).nums) → numsL l
  | [], _ => by simp only [numsL]
  | t :: ts, h => by
    simp only [numsL]
    exact ⟨h 0 (by simp), numsL_of ts fun i hi => h (i + 1) (by simpa using hi)⟩
instance : Inhabited Tr := ⟨noTree⟩
theorem kidAt_map (n : Nat) (f : Nat → Tr) (i : Nat) (h : i < n) : kidAt ((List.range n).map f) i = f i := by
  simp [kidAt, List.getD_eq_getElem?_getD, h]
theorem fitsL_of : ∀ (l : List Tr), (∀ i, i < l.length → (kidAt l i).fits) → fitsL l
  | [], _ => by simp only [fitsL]
  | t :: ts, h => by
    simp only [fitsL]
    exact ⟨h 0 (by simp), fitsL_of ts fun i hi => h (i + 1) (by simpa using hi)⟩

def TreeOf (W : World) (cs : List Value) (t : Tr) (vk vs : Value) : Prop := cs = [.int .i64 t.kind, .bool t.flag, .int .i64 t.num, .string t.text, vk, vs] ∧ TreeIn W Any t vk vs ∧ t.fits ∧ t.nums

set_option maxRecDepth 100000 in
theorem openKids {H : Type} {enc : TypeId × Value → H} {W : World} {N : Nat}
    (IH : ∀ fuel, fuel ≤ N → ∀ (cs : List Value) (x : DataW H × List MemPlace), DataW.trod enc Tryd.prog W 0 (fun _ => true) true fuel 25 cs = some x → ∃ t vk vs, TreeOf W cs t vk vs)
    {fuel : Nat} (hN : fuel ≤ N + 1) {v : Value} {x : DataW H × List MemPlace} (h : DataW.trod enc Tryd.prog W 0 (fun _ => true) true fuel 23 [v] = some x) :
    ∃ l, KidsIn W Any v l ∧ fitsL l ∧ l.length ≤ maxLen ∧ numsL l := by
  rcases DataW.trod_slice Tryd.underlying23 h with ⟨hcs, _⟩ | ⟨a, len, cap, elems, rest, n, hf, hcs, _, _, hl, hm, hlen, hel, _, _⟩
  · simp at hcs; subst hcs
    exact ⟨[], ⟨none, 0, rfl, .inl rfl⟩, by simp only [fitsL], by unfold maxLen; simp, by simp only [numsL]⟩
  · simp at hcs; subst hcs
    have each : ∀ i, i < len → ∃ q : Tr × Value × Value, ∃ cs', Tryd.prog.cellsOf 25 = 6 ∧ W.cells? 0 (a.add (i * 6)) 6 = some cs' ∧ TreeOf W cs' q.1 q.2.1 q.2.2 := fun i hi => by
      have key := hel i hi
      rw [List.getElem?_eq_getElem (by omega), Tryd.cellsLTree] at key
      obtain ⟨cs', h1, h2⟩ := Option.bind_eq_some_iff.1 key
      obtain ⟨t, vk, vs, ht⟩ := IH n (by omega) cs' _ h2
      exact ⟨(t, vk, vs), cs', Tryd.cellsLTree, h1, ht⟩
    obtain ⟨q, hq⟩ := choose_lt each
    refine ⟨(List.range len).map fun i => (q i).1, ⟨some a, cap, by simp, ?_⟩, fitsL_of _ fun i hi => ?_, by simp; omega, numsL_of _ fun i hi => ?_⟩
    · rcases Nat.eq_zero_or_pos len with h0 | h0
      · left; simp [h0]
      · right
        have cells : ∀ i, i < len → ∀ j, j < 6 → ∃ cs' : List Value, W.cell? ((a.add (i * 6)).add j) = cs'[j]? ∧ TreeOf W cs' (q i).1 (q i).2.1 (q i).2.2 := fun i hi j hj => by
          obtain ⟨cs', _, h1, h2⟩ := hq i hi
          obtain ⟨_, hlen', hcell⟩ := World.cells?_some h1
          exact ⟨cs', by have := hcell j (by omega); rw [this], h2⟩
        obtain ⟨b, o, spot⟩ := a
        obtain ⟨cs0, hc0, ht0, _⟩ := cells 0 h0 0 (by omega)
        have hs : spot = none := by
          rw [ht0] at hc0
          simpa [Addr.add] using World.cell?_spot hc0
        subst hs
        refine ⟨b, o, rfl, trivial, kids_of _ b o 0 fun i hi => ?_⟩
        simp at hi
        rw [kidAt_map len _ i hi, Nat.zero_add]
        obtain ⟨cs', _, h1, ht⟩ := hq i hi
        refine ⟨(q i).2.1, (q i).2.2, ?_, ht.2.1⟩
        obtain ⟨_, hlen', hcell⟩ := World.cells?_some h1
        have hcs := ht.1
        have g : ∀ j, j < 6 → W.cell? ⟨b, o + i * 6 + j, none⟩ = cs'[j]? := fun j hj => by
          have := hcell j (by omega)
          rw [addr_add, addr_add] at this
          rw [this]
        unfold TrCells
        rw [hcs] at g
        exact ⟨by simpa using g 0 (by omega), by simpa using g 1 (by omega), by simpa using g 2 (by omega), by simpa using g 3 (by omega), by simpa using g 4 (by omega), by simpa using g 5 (by omega)⟩
    · simp at hi
      rw [kidAt_map len _ i hi]
      obtain ⟨cs', _, _, ht⟩ := hq i hi
      exact ht.2.2.1
    · simp at hi
      rw [kidAt_map len _ i hi]
      obtain ⟨cs', _, _, ht⟩ := hq i hi
      exact ht.2.2.2

set_option maxRecDepth 100000 in
theorem openTreeC {H : Type} {enc : TypeId × Value → H} {W : World} : ∀ (N fuel : Nat), fuel ≤ N → ∀ (cs : List Value) (x : DataW H × List MemPlace), DataW.trod enc Tryd.prog W 0 (fun _ => true) true fuel 25 cs = some x →
    ∃ t vk vs, TreeOf W cs t vk vs
  | 0, fuel, hf, cs, x, h => by
    obtain rfl : fuel = 0 := by omega
    simp [DataW.trod] at h
  | N + 1, fuel, hf, cs, x, h => by
    obtain ⟨f0, f1, f2, f3, f4, f5, hu, ⟨o0, o1, o2, o3, o4, o5⟩, t0, t1, t2, t3, t4, t5⟩ := Tryd.undTree
    obtain ⟨xs, n, hn, _, hlen, hxl, hel⟩ := DataW.trod_struct hu h
    rw [Tryd.cellsLTree] at hlen
    have hxl6 : xs.length = 6 := hxl
    match cs, hlen with
    | [v0, v1, v2, v3, v4, v5], _ =>
      have g0 := hel 0 f0 rfl; have g1 := hel 1 f1 rfl; have g2 := hel 2 f2 rfl; have g3 := hel 3 f3 rfl; have g4 := hel 4 f4 rfl; have g5 := hel 5 f5 rfl
      rw [o0, t0, List.getElem?_eq_getElem (by omega)] at g0
      rw [o1, t1, List.getElem?_eq_getElem (by omega)] at g1
      rw [o2, t2, List.getElem?_eq_getElem (by omega)] at g2
      rw [o3, t3, List.getElem?_eq_getElem (by omega)] at g3
      rw [o4, t4, List.getElem?_eq_getElem (by omega)] at g4
      rw [o5, t5, List.getElem?_eq_getElem (by omega)] at g5
      have cI : Tryd.prog.cellsOf 3 = 1 := by kernel_rfl
      have cB : Tryd.prog.cellsOf 4 = 1 := by kernel_rfl
      have cK : Tryd.prog.cellsOf 22 = 1 := by kernel_rfl
      have cT : Tryd.prog.cellsOf 23 = 1 := by kernel_rfl
      rw [cI] at g0 g2; rw [cB] at g1; rw [Tryd.cellsStr] at g3; rw [cK] at g4; rw [cT] at g5
      simp only [List.drop_zero, List.drop_succ_cons, List.take_succ_cons, List.take_zero] at g0 g1 g2 g3 g4 g5
      obtain ⟨k, e0, _, _⟩ := DataW.trod_int Tryd.underlying3 g0
      obtain ⟨f, e1, _⟩ := DataW.trod_bool Tryd.underlying4 g1
      obtain ⟨m, e2, _, hmw⟩ := DataW.trod_int Tryd.underlying3 g2
      obtain ⟨s, e3, _, hs⟩ := DataW.trod_string Tryd.underlying9 g3
      obtain ⟨keys, hk, hkf⟩ := openStrs g4
      obtain ⟨kids, hki, hkif, hkl, hkn⟩ := openKids (openTreeC N) (by omega) g5
      simp only [List.cons.injEq, and_true] at e0 e1 e2 e3
      exact ⟨.mk k f m s keys kids, v4, v5, by rw [e0, e1, e2, e3]; rfl, treeIn_iff.2 ⟨hk, hki⟩, (fits_iff _).2 ⟨hs, hkf, hkl, hkif⟩, (nums_iff _).2 ⟨hmw, hkn⟩⟩

set_option maxRecDepth 100000 in
theorem openTreeN {H : Type} {enc : TypeId × Value → H} {W : World} {base : Nat} {v : Value} {d : DataW H} {p : List MemPlace} (hval : Value.okWide Tryd.prog W .any base 25 v)
    (h : DataW.Trod enc Tryd.prog W 0 (fun _ => true) true 25 v d p) :
    ∃ t vk vs, v = .agg #[.int .i64 (Tr.kind t), .bool t.flag, .int .i64 t.num, .string t.text, vk, vs] ∧ TreeIn W Any t vk vs ∧ t.fits ∧ t.nums := by
  obtain ⟨fuel, hf⟩ := h
  obtain ⟨t, vk, vs, h1, h2, h3, h4⟩ := openTreeC fuel fuel (Nat.le_refl _) _ _ hf
  refine ⟨t, vk, vs, ?_, h2, h3, h4⟩
  obtain ⟨f0, f1, f2, f3, f4, f5, hu, -, -⟩ := Tryd.undTree
  obtain ⟨cs, rfl, hsz⟩ := okWide_struct hu hval
  have hl : cs.toList = [.int .i64 (Tr.kind t), .bool t.flag, .int .i64 t.num, .string t.text, vk, vs] := by simpa [Value.cells] using h1
  rw [← hl]
set_option maxRecDepth 100000 in
theorem openTree {H : Type} {enc : TypeId × Value → H} {W : World} {base : Nat} {v : Value} {d : DataW H} {p : List MemPlace} (hval : Value.okWide Tryd.prog W .any base 25 v)
    (h : DataW.Trod enc Tryd.prog W 0 (fun _ => true) true 25 v d p) :
    ∃ t vk vs, v = .agg #[.int .i64 (Tr.kind t), .bool t.flag, .int .i64 t.num, .string t.text, vk, vs] ∧ TreeIn W Any t vk vs ∧ t.fits := by
  obtain ⟨t, vk, vs, h1, h2, h3, -⟩ := openTreeN hval h
  exact ⟨t, vk, vs, h1, h2, h3⟩

end Go.Proofs.YtbjialckijphiaaDoor
