/- What LinesIn returns. -/
import Derived.Test.YtpcojfcbomkgpaaDoorLineF
import Derived.Test.YtpcojfcbomkgpaaDoorRowC
import Derived.Test.YtpcojfcbomkgpaaDoorSpotC
import Derived.Test.YtpcojfcbomkgpaaDoorCutT
import Derived.Test.YtpcojfcbomkgpaaDoorFault
namespace Go.Proofs.YtpcojfcbomkgpaaDoor
open Go.RowKit

theorem allocBel (w : World) (o : Obj) : Below w.heap.size w (w.alloc o) := (Below.refl _ _).alloc (Nat.le_refl _) _
theorem Tryd.infoLine : (Tryd.prog.info? 74).map (fun i => (i.zero, i.size, i.bytes)) = some (some (.agg #[.int .i64 0, .string ⟨#[]⟩, .int .i64 0]), 3, 32) := by kernel_rfl
theorem Tryd.elLine : ElemT 37 74 3 := by
  obtain ⟨i0, hi, hz0, hz1, hz2⟩ := info_parts Tryd.infoLine
  exact ⟨i0, _, Tryd.underlying37, hi, hz0, hz1, by omega, rfl, by omega⟩
def LnsV (s : ByteArray) (w : World) (e : Ending) (w' : World) : Prop :=
  (∃ a cap fp, e = .returned (.tuple #[.slice a (lnsL s).length cap, .agg #[.int .i64 (lnsC s), .int .i64 (lnsP s), .string ⟨#[]⟩]]) ∧ GFlat w' w.heap.size w'.heap.size (.slice a (lnsL s).length cap) (lnsL s).length 3 (fLine (lnsL s)) fp) ∧ Below w.heap.size w w'
theorem lns_no {s : ByteArray} {w w' : World} (a : Option Addr) (cap : Nat) {c p : Int} (h : lnsL s = [] ∧ lnsC s = c ∧ lnsP s = p) (hb : Below w.heap.size w w') :
    LnsV s w (.returned (.tuple #[.slice a 0 cap, .agg #[.int .i64 c, .int .i64 p, .string ⟨#[]⟩]])) w' := by
  obtain ⟨h1, rfl, rfl⟩ := h
  unfold LnsV
  rw [h1]
  exact ⟨⟨a, cap, [], rfl, ⟨.inl ⟨rfl, rfl, a, cap, rfl⟩, fun x hx => by simp at hx⟩⟩, hb⟩
theorem lns_yes {s : ByteArray} {w w' : World} {v : Value} {L : List Ln} (h : lnsL s = L ∧ lnsC s = 0 ∧ lnsP s = 0) (hr : RowB 74 3 w w' v L.length (cellsLine L)) :
    LnsV s w (.returned (.tuple #[v, .agg #[.int .i64 0, .int .i64 0, .string ⟨#[]⟩]])) w' := by
  obtain ⟨rfl, h2, h3⟩ := h
  obtain ⟨a, cap, fp, rfl, h4, h5, -⟩ := hr.sl (cellLine _)
  unfold LnsV
  rw [h2, h3]
  exact ⟨⟨a, cap, fp, rfl, GFlat.new h4 h5⟩, hr.bel⟩
theorem row_apart {w w' : World} {L : List Nat} {base e size : Nat} {v : Value} {n : Nat} {xs : List Value} (h : w.ownsRow base e size v n xs) (ha : Apart L w w') (hL : ∀ x, x ∈ L → x < base) : w'.ownsRow base e size v n xs := by
  obtain ⟨h1, h2⟩ := h
  refine ⟨h1, ?_⟩
  rcases h2 with h2 | ⟨b, cap, cur, hv, hb, hh, r⟩
  · exact .inl h2
  · have : b < w.heap.size := (Array.getElem?_eq_some_iff.1 hh).1
    exact .inr ⟨b, cap, cur, hv, hb, by rw [ha.block b this (fun hx => by have := hL b hx; omega)]; exact hh, r⟩
/-- A row stands, while a cell of the call's own that is older than it turns. -/
theorem RowB.past {e c b : Nat} {w W0 wr wx : World} {v : Value} {n : Nat} {xs : List Value} (h : RowB e c W0 wr v n xs) (hb : Below w.heap.size w W0) (h1 : w.heap.size ≤ b) (h2 : b < W0.heap.size) (ha : Apart [b] wr wx) : RowB e c w wx v n xs :=
  ⟨row_mono (row_apart h.own ha (fun x hx => by simp at hx; omega)) hb.size, (bnext hb h.bel).trans (ha.below (bnext hb h.bel).size (fun x hx => by simp at hx; omega))⟩
theorem past_bel {b : Nat} {w wr wx : World} (hb : Below w.heap.size w wr) (h1 : w.heap.size ≤ b) (ha : Apart [b] wr wx) : Below w.heap.size w wx :=
  hb.trans (ha.below hb.size (fun x hx => by simp at hx; omega))
theorem rowSof {e c : Nat} {W0 w w2 : World} {v : Value} {n : Nat} {xs : List Value} (h : RowB e c W0 w v n xs) (hb : Below w.heap.size w w2) : RowS e c w.heap.size w2.heap.size W0 w2 v n xs :=
  ⟨h.keep hb, fun b hb' => .inl (h.own.lt b hb').2, Nat.le_refl _⟩
theorem strsOf {w w2 : World} {lv : Value} {L : List ByteArray} (h : RowB 9 1 w w2 lv L.length (L.map Value.string)) : ∃ a cap fp, lv = .slice a L.length cap ∧ GFlat w2 w.heap.size w2.heap.size (.slice a L.length cap) L.length 1 (strF L) fp := by
  obtain ⟨a, cap, fp, rfl, h1, h2, -⟩ := h.sl (strCell L)
  exact ⟨a, cap, fp, rfl, GFlat.new h1 h2⟩
theorem partAt {c : UInt8} {s : ByteArray} {k : Nat} (hk : k < (partsL c s).length) : (strAt (partsL c s) k).size ≤ s.size := by
  have := part_size (List.getElem_mem hk)
  rw [strAt, List.getD_eq_getElem?_getD, List.getElem?_eq_getElem hk]
  exact this
theorem sCut10 (s : ByteArray) (w : World) (hs : s.size ≤ 1048576) : Calls Tryd.prog 83 #[.string s, .int .u8 10] w (CutRow 10 s w) := sCut s 10 w hs
/-- The lines that are done, each shorter than what stands before it. -/
theorem lgAt_len {P : List ByteArray} {R : List Ln × Option Nat} {k : Nat} {acc : List Ln} (h : LgAt P R k acc) : R.1.length ≤ acc.length + P.length := by
  have := lgo_len (P.drop k) k acc
  rw [LgAt] at h
  rw [h] at this
  have h2 : (P.drop k).length ≤ P.length := by simp
  omega
theorem empty_is {B : ByteArray} (h : B.toList.isEmpty = true) : B = ⟨#[]⟩ := by
  apply ByteArray.ext
  apply Array.ext'
  rw [List.isEmpty_iff, ByteArray.toList_eq] at h
  exact h
theorem trimR_le (l : List UInt8) (c : UInt8) : (Lib.trimRightB l c).length ≤ l.length := by
  unfold Lib.trimRightB
  first
    | (rw [List.length_reverse]; refine Nat.le_trans (List.dropWhile_sublist _).length_le ?_; rw [List.length_reverse]; exact Nat.le_refl _)
    | (exact (List.rdropWhile_sublist _ _).length_le)
    | (simp)
theorem bareB_le (s : ByteArray) : (bareB s).size ≤ s.size := by
  have h1 := trimR_le (s.extract 0 (bareE s)).data.toList 32
  have h2 : (s.extract 0 (bareE s)).data.toList.length = (s.extract 0 (bareE s)).size := by simp
  rw [h2, ByteArray.size_extract] at h1
  unfold bareB
  show (List.toArray _).size ≤ _
  rw [List.size_toArray]; omega
theorem ln_cells (acc : List Ln) (p B : ByteArray) (hB : bareB p = B) (k : Nat) : cellsLine (acc ++ [lnOf p k]) = cellsLine acc ++ [.int .i64 (ind B.data.toList), .string (B.extract (ind B.data.toList) B.size), .int .i64 ((k : Int) + 1)] := by
  subst hB
  rw [cellsLine_snoc]; rfl

end Go.Proofs.YtpcojfcbomkgpaaDoor
