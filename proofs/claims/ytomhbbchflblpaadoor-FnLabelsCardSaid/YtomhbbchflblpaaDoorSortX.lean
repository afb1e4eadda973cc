/- SortLabels of the reference: the contract. -/
import Derived.Test.YtomhbbchflblpaaDoorSortL
import Derived.Deep.RegionLaw
namespace Go.Proofs.YtomhbbchflblpaaDoor
open Go.RowKit

/-- The append of a slice that lies somewhere, of no element too, inside a region that draws its order. -/
theorem step_append_in {P : Program} {w : World} {ops : Array Oper} {o : Oper} {a : Act} {C : Act → World → Prop} {Q : Exit → Act → World → Prop} {E : Prop} (hgd : o.guard = none) (s x : Operand) (t : TypeId)
    (ho : o.op = .call { callee := .builtin .append, args := #[s, x], argTypes := #[t, t] })
    (base : Nat) (e : TypeId) (i : TypeInfo) (z : Value) (size bytes : Nat) (ht : P.underlying t = some (.slice e)) (hi : P.info? e = some i) (hz : i.zero = some z)
    (hsize : i.size = size) (hby : i.bytes = bytes) (hzs : z.cells.size = size) (hsz : 0 < size)
    (v : Value) (n : Nat) (xs : List Value) (hs : a.eval s = v) (hown : w.ownsRow base e size v n xs)
    (ad : Option Addr) (m c : Nat) (news : List Value) (hx : a.eval x = .slice ad m c) (hl : news.length = m * size)
    (hsrc : m = 0 ∨ ∃ b o, ad = some ⟨b, o, none⟩ ∧ ∀ (j : Nat) (u : Value), news[j]? = some u → w.cell? ⟨b, o + j, none⟩ = some u) (h1 : ∀ u ∈ news, u.oneCell' = true)
    (h63 : n + m ≤ maxLen) (hbytes : (n + m) * bytes ≤ 140737488355328) (hbase : base ≤ w.heap.size)
    (h : ∀ v' w', w'.ownsRow base e size v' (n + m) (xs ++ news) → w.grownBy w' v.ownBlock → SpotK v v' w → C (a.put o.dst v') w') :
    if Region.wanted o (yielded ops a.tmps) = true then Oper.wp P o a w C Q else E := by
  have hw : Region.wanted o (yielded ops a.tmps) = true := by simp [Region.wanted, hgd]
  rw [if_pos hw]
  rcases hsrc with rfl | ⟨b, o', rfl, hc⟩
  · have hn : news = [] := List.eq_nil_of_length_eq_zero (by simpa using hl)
    subst hn
    have hr := run_append_zero (P := P) w base t o.type e i size ht hi v n xs hown ad c
    unfold Oper.wp execOp
    simp only [ho, resolve, invoke, builtin, Sem.run_bind, Sem.run_pure, Result.andThen_ok, List.map_toArray, List.map_cons, List.map_nil, hs, hx, hr]
    exact h v w (by simpa using hown) (grown_refl w _) (.inl rfl)
  · obtain ⟨v', w', hr, h2, h3, h4⟩ := run_append_spotK (P := P) w base t o.type e i z size bytes ht hi hz hsize hby hzs hsz v n xs hown _ m c news hl (fun j u hj => by rw [addr_add]; exact hc j u hj) h1 h63 hbytes hbase
    unfold Oper.wp execOp
    simp only [ho, resolve, invoke, builtin, Sem.run_bind, Sem.run_pure, Result.andThen_ok, List.map_toArray, List.map_cons, List.map_nil, hs, hx, hr]
    exact h v' w' h2 h3 h4
theorem own_nil {w : World} {base B e size : Nat} (hB : w.heap[B]? = some (.cells #[] e (0, 0))) (hb : base ≤ B) : w.ownsRow base e size (.slice (some ⟨B, 0, none⟩) 0 0) 0 [] :=
  ⟨by simp, .inr ⟨B, 0, #[], rfl, hb, hB, Nat.le_refl _, by unfold maxLen; omega, by simp, by simp⟩⟩
theorem own_shape {w : World} {base e size : Nat} {v : Value} {n : Nat} {xs : List Value} (h : w.ownsRow base e size v n xs) : ∃ a c, v = .slice a n c := by
  rcases h.2 with ⟨rfl, rfl⟩ | ⟨g, cap, cur, rfl, _⟩
  · exact ⟨_, _, rfl⟩
  · exact ⟨_, _, rfl⟩
theorem own_some {w : World} {base e size : Nat} {v : Value} {n : Nat} {xs : List Value} (h : w.ownsRow base e size v n xs) (h0 : 0 < n) : ∃ g c, v = .slice (some ⟨g, 0, none⟩) n c ∧ n ≤ c ∧ c ≤ maxLen := by
  rcases h.2 with ⟨_, hl⟩ | ⟨g, cap, cur, rfl, _, _, hn, hc, _⟩
  · omega
  · exact ⟨g, cap, rfl, hn, hc⟩
theorem own_stay {w w' : World} {base e size : Nat} {v : Value} {n : Nat} {xs : List Value} (h : w.ownsRow base e size v n xs) (hb : Below w.heap.size w w') : w'.ownsRow base e size v n xs := by
  obtain ⟨h1, h2⟩ := h
  refine ⟨h1, ?_⟩
  rcases h2 with h2 | ⟨g, cap, cur, hv, hg, hh, r⟩
  · exact .inl h2
  · have : g < w.heap.size := (Array.getElem?_eq_some_iff.1 hh).1
    exact .inr ⟨g, cap, cur, hv, hg, by rw [hb.block g this]; exact hh, r⟩
theorem own_sink {w : World} {B B' e size n : Nat} {v : Value} {xs : List Value} (h : w.ownsRow B e size v n xs) (hB : B' ≤ B) : w.ownsRow B' e size v n xs := by
  refine ⟨h.1, ?_⟩
  rcases h.2 with h0 | ⟨g, cap, cur, hv, hb, rest⟩
  · exact .inl h0
  · exact .inr ⟨g, cap, cur, hv, by omega, rest⟩
theorem own_over {w w' : World} {B e size n : Nat} {v : Value} {xs : List Value} (h : w.ownsRow B e size v n xs) (hg : w.grownBy w' v.ownBlock) (hB : B ≤ w.heap.size) : Below B w w' :=
  ((Below.refl _ _).mono hB).grown hg hB (fun k hk => (h.lt k hk).1)
theorem cells_app (a b : List Lb) : cellsLab (a ++ b) = cellsLab a ++ cellsLab b := by simp [cellsLab]
theorem cells_one (x : Lb) : cellsLab [x] = [.string x.1, .string x.2] := rfl
theorem own_sl {w : World} {B e n : Nat} {a : Option Addr} {c : Nat} {E : List Lb} (h : w.ownsRow B e 2 (.slice a n c) n (cellsLab E)) (hn : E.length = n) : SlAt w a E.length 2 (labF E) := by
  subst hn
  obtain ⟨fp, h1, _⟩ := FlatOwn.of_owns h (f := labF E) (cellsLab_at E)
  exact h1.sl
/-- A part of a list of labels that lies somewhere, as a source of an append. -/
theorem part_src {w : World} {g : Nat} {E : List Lb} (h : SlAt w (some ⟨g, 0, none⟩) E.length 2 (labF E)) (p m : Nat) (hm : p + m ≤ E.length) :
    m = 0 ∨ ∃ b o, (some ⟨g, p * 2, none⟩ : Option Addr) = some ⟨b, o, none⟩ ∧ ∀ (j : Nat) (u : Value), (cellsLab ((E.drop p).take m))[j]? = some u → w.cell? ⟨b, o + j, none⟩ = some u := by
  rcases h with h | ⟨b, o, e, hk⟩
  · exact .inl (by omega)
  · cases e
    refine .inr ⟨g, p * 2, rfl, fun j u hj => ?_⟩
    have hl : ((E.drop p).take m).length = m := by simp; omega
    have hlt := (List.getElem?_eq_some_iff.1 hj).1
    rw [cellsLab_len, hl] at hlt
    have h1 := hk (p + j / 2) (by omega) (j % 2) (by omega)
    have h2 := cellsLab_at ((E.drop p).take m) (j / 2) (by omega) (j % 2) (by omega)
    rw [show j / 2 * 2 + j % 2 = j by omega] at h2
    rw [h2] at hj
    have e2 : labF ((E.drop p).take m) (j / 2) (j % 2) = labF E (p + j / 2) (j % 2) := by
      simp only [labF, keyAt, valAt, List.getD_eq_getElem?_getD, List.getElem?_take_of_lt (show j / 2 < m by omega), List.getElem?_drop]
    rw [e2] at hj
    cases hj
    rw [show p * 2 + j = 0 + (p + j / 2) * 2 + j % 2 by omega]
    exact h1

end Go.Proofs.YtomhbbchflblpaaDoor
