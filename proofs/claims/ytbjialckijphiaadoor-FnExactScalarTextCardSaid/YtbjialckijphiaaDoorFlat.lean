/- Rows of flat elements (no slices inside) that a call owns: n elements of c cells. No program. -/
import Derived.Test.YtbjialckijphiaaDoorMarkA
namespace Go.Proofs.YtbjialckijphiaaDoor
open Go.RowKit

def FlatOwn (w : World) (v : Value) (n c : Nat) (f : Nat → Nat → Value) (fp : List Nat) : Prop :=
  (n = 0 ∧ fp = [] ∧ ∃ a cap, v = .slice a 0 cap) ∨
  ∃ g cap e N F, v = .slice (some ⟨g, 0, none⟩) n cap ∧ fp = [g] ∧ w.rowIs g e N F ∧ n * c ≤ N ∧ ∀ i, i < n → ∀ j, j < c → F (i * c + j) = f i j
theorem FlatOwn.same {w w' : World} {v : Value} {n c : Nat} {f : Nat → Nat → Value} {fp : List Nat} (h : FlatOwn w v n c f fp) (hs : ∀ b, b ∈ fp → b < w.heap.size → w'.heap[b]? = w.heap[b]?) : FlatOwn w' v n c f fp := by
  rcases h with h | ⟨g, cap, e, N, F, h1, rfl, h3, h4⟩
  · exact .inl h
  · exact .inr ⟨g, cap, e, N, F, h1, rfl, h3.of_block (hs g (by simp) h3.lt), h4⟩
theorem FlatOwn.keep {w w' : World} {v : Value} {n c : Nat} {f : Nat → Nat → Value} {fp : List Nat} (h : FlatOwn w v n c f fp) (hb : Below w.heap.size w w') : FlatOwn w' v n c f fp := h.same fun b _ hl => hb.block b hl
theorem FlatOwn.far {w w' : World} {v : Value} {n c : Nat} {f : Nat → Nat → Value} {fp L : List Nat} (h : FlatOwn w v n c f fp) (ha : Apart L w w') (hd : ∀ x, x ∈ fp → x ∉ L) : FlatOwn w' v n c f fp := h.same fun b hb hl => ha.block b hl (hd b hb)
theorem FlatOwn.lt {w : World} {v : Value} {n c : Nat} {f : Nat → Nat → Value} {fp : List Nat} (h : FlatOwn w v n c f fp) : ∀ b, b ∈ fp → b < w.heap.size := by
  rcases h with ⟨_, rfl, _⟩ | ⟨g, cap, e, N, F, h1, rfl, h3, h4⟩
  · intro b hb; simp at hb
  · intro b hb; simp at hb; subst hb; exact h3.lt
theorem FlatOwn.nd {w : World} {v : Value} {n c : Nat} {f : Nat → Nat → Value} {fp : List Nat} (h : FlatOwn w v n c f fp) : fp.Nodup := by
  rcases h with ⟨_, rfl, _⟩ | ⟨g, cap, e, N, F, h1, rfl, h3, h4⟩ <;> simp
theorem FlatOwn.shape {w : World} {v : Value} {n c : Nat} {f : Nat → Nat → Value} {fp : List Nat} (h : FlatOwn w v n c f fp) : ∃ a cap, v = .slice a n cap := by
  rcases h with ⟨rfl, _, a, cap, rfl⟩ | ⟨g, cap, e, N, F, rfl, _⟩
  · exact ⟨a, cap, rfl⟩
  · exact ⟨_, cap, rfl⟩
theorem FlatOwn.congr {w : World} {v : Value} {n c : Nat} {f f' : Nat → Nat → Value} {fp : List Nat} (h : FlatOwn w v n c f fp) (he : ∀ i, i < n → ∀ j, j < c → f i j = f' i j) : FlatOwn w v n c f' fp := by
  rcases h with h | ⟨g, cap, e, N, F, h1, h2, h3, h4, h5⟩
  · exact .inl h
  · exact .inr ⟨g, cap, e, N, F, h1, h2, h3, h4, fun i hi j hj => by rw [h5 i hi j hj, he i hi j hj]⟩
theorem FlatOwn.sl {w : World} {a : Option Addr} {cap n c : Nat} {f : Nat → Nat → Value} {fp : List Nat} (h : FlatOwn w (.slice a n cap) n c f fp) : SlAt w a n c f := by
  rcases h with ⟨rfl, _⟩ | ⟨g, cap', e, N, F, h1, rfl, h3, h4, h5⟩
  · exact .inl rfl
  · simp only [Value.slice.injEq] at h1
    obtain ⟨rfl, _, _⟩ := h1
    exact SlAt.of_row h3 h4 h5
/-- A row that has grown by append. -/
theorem FlatOwn.of_owns {w : World} {B e n c : Nat} {v : Value} {xs : List Value} {f : Nat → Nat → Value} (h : w.ownsRow B e c v n xs) (hx : ∀ i, i < n → ∀ j, j < c → xs[i * c + j]? = some (f i j)) :
    ∃ fp, FlatOwn w v n c f fp ∧ ∀ b, b ∈ fp → B ≤ b := by
  rcases h.2 with ⟨rfl, hl⟩ | ⟨g, cap, cur, rfl, hbg, hg, hnc, hcm, hcs, htake⟩
  · exact ⟨[], .inl ⟨hl, rfl, none, 0, rfl⟩, fun b hb => by simp at hb⟩
  · obtain ⟨F, hrow, hn, hm, hb, hF⟩ := rowIs_of_owns h
    refine ⟨[g], .inr ⟨g, cap, e, cap * c, F, rfl, rfl, hrow, Nat.mul_le_mul_right _ hn, fun i hi j hj => ?_⟩, fun b hb => by simp at hb; omega⟩
    have h1 : i * c + j < n * c := by
      have : (i + 1) * c ≤ n * c := Nat.mul_le_mul_right c hi
      rw [Nat.add_mul] at this; omega
    have h2 := (hF _ h1).symm.trans (hx i hi j hj)
    simpa using h2

/-- A flat row at v, its block from lo on and below hi. -/
structure GFlat (w : World) (lo hi : Nat) (v : Value) (n c : Nat) (f : Nat → Nat → Value) (fp : List Nat) : Prop where
  own : FlatOwn w v n c f fp
  fb : ∀ x, x ∈ fp → lo ≤ x ∧ x < hi
theorem GFlat.keep {w w' : World} {lo hi : Nat} {v : Value} {n c : Nat} {f : Nat → Nat → Value} {fp : List Nat} (h : GFlat w lo hi v n c f fp) (hb : Below w.heap.size w w') : GFlat w' lo hi v n c f fp := ⟨h.own.keep hb, h.fb⟩
theorem GFlat.far {w w' : World} {lo hi : Nat} {v : Value} {n c : Nat} {f : Nat → Nat → Value} {fp L : List Nat} (h : GFlat w lo hi v n c f fp) (ha : Apart L w w') (hd : ∀ x, x ∈ L → x < lo ∨ hi ≤ x) : GFlat w' lo hi v n c f fp :=
  ⟨h.own.far ha fun x hx hy => by have := hd _ hy; have := h.fb x hx; omega, h.fb⟩
theorem GFlat.new {w : World} {B : Nat} {v : Value} {n c : Nat} {f : Nat → Nat → Value} {fp : List Nat} (h : FlatOwn w v n c f fp) (hge : ∀ x, x ∈ fp → B ≤ x) : GFlat w B w.heap.size v n c f fp := ⟨h, fun x hx => ⟨hge x hx, h.lt x hx⟩⟩

end Go.Proofs.YtbjialckijphiaaDoor
