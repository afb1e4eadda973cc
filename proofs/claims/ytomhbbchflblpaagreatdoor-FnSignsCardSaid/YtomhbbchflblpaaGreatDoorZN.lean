/- SgqP, SgF, merged. -/
import Derived.Test.YtomhbbchflblpaaGreatDoorZJ
import Derived.Test.YtomhbbchflblpaaGreatDoorZD
import Derived.Test.YtomhbbchflblpaaGreatDoorZK
import Derived.Test.YtomhbbchflblpaaGreatDoorZI
import Derived.Test.YtomhbbchflblpaaGreatDoorZM
namespace Go.Proofs.YtomhbbchflblpaaGreatDoor
open Go.RowKit

/-! ### How long it is -/
def sayD : Nat → Nat | 0 => 122 | d + 1 => 498 + 4 * sayD d
def tokD : Nat → Nat | 0 => 2 | d + 1 => 14 + 4 * tokD d
theorem q_len20 {s : ByteArray} (h : s.size ≤ 20) : (qL s).length ≤ 122 := by have := qL_len s; omega
theorem head_le {m : Bool} {keys : List ByteArray} (hk : ∀ j, (strAt keys j).size ≤ 20) (i : Nat) : (headK m keys i).length ≤ 124 ∧ (headTk m keys i).length ≤ 3 := by
  have hq := q_len20 (hk i)
  unfold headK headTk
  constructor
  · rw [List.length_append]
    have a : (if 0 < i then [44] else ([] : List UInt8)).length ≤ 1 := by split <;> simp
    have b : (if m = true then qL (strAt keys i) ++ [58] else []).length ≤ 123 := by
      split
      · rw [List.length_append]; simp; omega
      · simp
    omega
  · rw [List.length_append]
    have a : (if 0 < i then [tComma] else ([] : List Tk)).length ≤ 1 := by split <;> simp
    have b : (if m = true then [tText (strAt keys i), tColon] else []).length ≤ 2 := by split <;> simp
    omega
theorem sayK_le {m : Bool} {keys : List ByteArray} (hk : ∀ j, (strAt keys j).size ≤ 20) (B N : Nat) : ∀ (l : List Tr) (i : Nat), (∀ j, j < l.length → (sayB (kidAt l j)).length ≤ B ∧ (tokT (kidAt l j)).length ≤ N) →
    (sayK m keys i l).length ≤ (124 + B) * l.length ∧ (tokK m keys i l).length ≤ (3 + N) * l.length
  | [], i, _ => by rw [sayK, tokK]; simp
  | t :: ts, i, h => by
    have h0 := h 0 (by simp)
    have e0 : kidAt (t :: ts) 0 = t := rfl
    rw [e0] at h0
    have h1 := head_le (m := m) hk i
    have ih := sayK_le (m := m) hk B N ts (i + 1) (fun j hj => h (j + 1) (by simpa using hj))
    rw [sayK, tokK]
    simp only [List.length_append, List.length_cons, Nat.mul_succ]
    omega
theorem leaf_le {k : Int} {f : Bool} {n : Int} {s : ByteArray} (hs : s.size ≤ 20) (hn : -9223372036854775808 ≤ n ∧ n ≤ 9223372036854775807) : (leafL k f n s).length ≤ 122 := by
  have h1 := q_len20 hs
  have h2 := itoa_len n hn
  unfold leafL
  split
  · decide
  split
  · split <;> decide
  split <;> omega
theorem say_le : ∀ (d : Nat) (t : Tr), Drn d t → (sayB t).length ≤ sayD d ∧ (tokT t).length ≤ tokD d
  | 0, .mk k f n s keys kids, h => by
    have hk0 : kids = [] := List.eq_nil_of_length_eq_zero h.2
    have h1 : (leafL k f n s).length ≤ 122 := leaf_le (k := k) (f := f) h.1.text (nums_bd h.1.nums)
    subst hk0
    rw [sayB, tokT]
    by_cases hk : k < 5
    · rw [if_pos hk, if_pos hk]; exact ⟨by rw [sayD]; exact h1, by rw [tokD]; simp⟩
    · rw [if_neg hk, if_neg hk, sayK, tokK, sayD, tokD]; simp
  | d + 1, .mk k f n s keys kids, h => by
    have h1 : (leafL k f n s).length ≤ 122 := leaf_le (k := k) (f := f) h.1.text (nums_bd h.1.nums)
    have h2 := sayK_le (m := k == 6) h.1.keys (sayD d) (tokD d) kids 0 (fun j hj => say_le d _ (h.2.2 j hj))
    have h3 : kids.length ≤ 4 := h.2.1
    have h4 := Nat.mul_le_mul_left (124 + sayD d) h3
    have h5 := Nat.mul_le_mul_left (3 + tokD d) h3
    simp only [Tr.keys] at h2
    rw [sayB, tokT, sayD, tokD]
    by_cases hk : k < 5
    · rw [if_pos hk, if_pos hk]; exact ⟨by omega, by simp; omega⟩
    · rw [if_neg hk, if_neg hk]; simp only [List.length_cons, List.length_append, List.length_nil]; omega

/-! ### It is a text of code points -/
theorem ValidL.itoa (n : Int) (h1 : -9223372036854775808 ≤ n) (h2 : n ≤ 9223372036854775807) : ValidL (Lib.itoa n) := by
  have key : ∀ m : Nat, ∀ b ∈ Lib.decDigits m, b.toNat < 128 := fun m b hb => by
    obtain ⟨hc, -, -⟩ := dec_canon m m (Nat.le_refl _)
    have := isDg_iff.1 (hc.dg b hb)
    omega
  by_cases hn : n < 0
  · obtain ⟨m, hm⟩ := Int.eq_ofNat_of_zero_le (show 0 ≤ -n by omega)
    obtain rfl : n = -(m : Int) := by omega
    rw [itoa_neg m (by omega)]
    refine ValidL.low fun b hb => ?_
    rw [List.mem_cons] at hb
    rcases hb with rfl | hb
    · decide
    · exact key m b hb
  · obtain ⟨m, rfl⟩ := Int.eq_ofNat_of_zero_le (show 0 ≤ n by omega)
    rw [itoa_pos m]
    exact ValidL.low fun b hb => key m b hb
def ValT (L : List Tk) : Prop := ∀ x, x ∈ L → ValidL x.bs
theorem ValT.app {L M : List Tk} (h : ValT L) (k : ValT M) : ValT (L ++ M) := fun x hx => (List.mem_append.1 hx).elim (h x) (k x)
theorem ValT.one {x : Tk} (h : ValidL x.bs) : ValT [x] := fun y hy => by rw [List.mem_singleton] at hy; rw [hy]; exact h
theorem ValT.nil : ValT [] := fun x hx => by simp at hx
theorem val_low (x : Tk) (h : ∀ b ∈ x.bs, b.toNat < 128) : ValT [x] := ValT.one (ValidL.low h)
theorem val_leaf {k : Int} {f : Bool} {n : Int} {s : ByteArray} (hn : -9223372036854775808 ≤ n ∧ n ≤ 9223372036854775807) (hs : (runesO s).isSome = true) : ValidL (leafTk k f n s).bs := by
  unfold leafTk
  split
  · exact ValidL.low (l := nullL) (by decide)
  split
  · split
    · exact ValidL.low (l := trueL) (by decide)
    · exact ValidL.low (l := falseL) (by decide)
  split
  · exact ValidL.itoa n hn.1 hn.2
  · exact ValidL.q hs
theorem val_head {m : Bool} {keys : List ByteArray} {i : Nat} (hk : m = true → (runesO (strAt keys i)).isSome = true) : ValT (headTk m keys i) := by
  unfold headTk
  refine ValT.app ?_ ?_
  · split
    · exact val_low _ (by decide)
    · exact ValT.nil
  · split
    · rename_i h
      exact ValT.app (L := [tText (strAt keys i)]) (M := [tColon]) (ValT.one (ValidL.q (hk h))) (val_low _ (by decide))
    · exact ValT.nil
mutual
theorem val_tok : ∀ (t : Tr), shapeB t = true → t.nums → ValT (tokT t)
  | .mk k f n s keys kids, h, hn => by
    obtain ⟨h1, h2, h3⟩ := shape_parts h
    obtain ⟨a1, a2, a3, a4, a5, a6⟩ := head_kind h1
    simp only [Tr.kind, Tr.text, Tr.keys, Tr.kids] at a1 a2 a3 a4 a5 a6 h2 h3
    have hb := nums_bd hn
    simp only [Tr.num] at hb
    simp only [Tr.nums] at hn
    rw [tokT]
    by_cases hk : k < 5
    · rw [if_pos hk]
      exact ValT.one (val_leaf hb (ok_text a3))
    · rw [if_neg hk]
      have hkeys : (k == 6) = true → keys.length = kids.length := fun e => a4 (by simpa using e)
      have hmid := val_tokK (k == 6) keys kids 0 (fun e j hj => ok_key h2 (by have := hkeys e; omega)) h3 hn.2
      have ho : ValT [if k = 6 then tOpen else tBegin] := by split <;> exact val_low _ (by decide)
      have hc : ValT [if k = 6 then tClose else tEnd] := by split <;> exact val_low _ (by decide)
      exact ho.app (hmid.app hc)
theorem val_tokK (m : Bool) (keys : List ByteArray) : ∀ (l : List Tr) (i : Nat), (m = true → ∀ j, j < i + l.length → (runesO (strAt keys j)).isSome = true) → shapeL l = true → numsL l → ValT (tokK m keys i l)
  | [], i, _, _, _ => by rw [tokK]; exact ValT.nil
  | t :: ts, i, hk, h, hn => by
    rw [shapeL, Bool.and_eq_true] at h
    simp only [numsL] at hn
    simp only [List.length_cons] at hk
    rw [tokK]
    exact (val_head (fun e => hk e i (by omega))).app ((val_tok t h.1 hn.1).app (val_tokK m keys ts (i + 1) (fun e j hj => hk e j (by omega)) h.2 hn.2))
end
theorem val_spr {g : List UInt8} (hg : ValidL g) : ∀ L : List Tk, ValT L → ValidL (spr g L)
  | [], _ => ValidL.nil
  | x :: L, h => by
    rw [spr_cons]
    exact (hg.app (h x (by simp))).app (val_spr hg L fun y hy => h y (by simp [hy]))

/-! ### What the law asks -/
def gapB : List UInt8 := [32, 10, 9]
def posG (g : List UInt8) (L : List Tk) (i : Nat) : Nat := (spr g (L.take i)).length + g.length
def textS (L : List Tk) (k : Nat) : ByteArray := ⟨(spr gapB (L.take k)).toArray⟩
structure SgQ (T : ByteArray) (L : List Tk) : Prop where
  size : T.size ≤ 18266
  pos : 0 < L.length
  len : L.length ≤ 422
  txt : T.data.toList = spr [] L
  one : sgsL T = places [] 0 L ∧ sgsC T = 0 ∧ sgsP T = 0
  two : ∀ S : ByteArray, S.data.toList = spr gapB L ++ [13] → S.size ≤ 20000 ∧ sgsL S = places gapB 0 L ∧ sgsC S = 0 ∧ sgsP S = 0
  first : signQ T 0 = some (tkSg (tkAt L 0) 0) ∧ 0 < (tkAt L 0).bs.length
theorem sgq {t : Tr} (h : Drn 3 t) : SgQ (bracedB t) (tokT t) := by
  have hok := (drn_ok h).1
  obtain ⟨l1, l2⟩ := say_le 3 t h
  have e1 : sayD 3 = 18266 := by decide
  have e2 : tokD 3 = 422 := by decide
  rw [e1] at l1; rw [e2] at l2
  have hT : bracedB t = ⟨(sayB t).toArray⟩ := by rw [bracedB, if_pos hok, if_pos (by omega)]
  have htx : (bracedB t).data.toList = spr [] (tokT t) := by rw [hT, say_tok]
  have hsz : (bracedB t).size ≤ 18266 := by rw [tk_size (by rw [htx, say_tok] : (bracedB t).data.toList = sayB t)]; exact l1
  have hval := val_tok t h.sm.shape h.sm.nums
  have g1 : Goods [] [] (tokT t) := by
    have := goods_tok (g := []) (tail := []) (.inl rfl) t h.sm.shape h.sm.nums [] trivial ⟨by decide, by decide, by decide, by decide⟩
    rwa [List.append_nil] at this
  have g2 : Goods gapB [13] (tokT t) := by
    have := goods_tok (g := gapB) (tail := [13]) (.inr ⟨by decide, ⟨by decide, by decide, by decide, by decide⟩⟩) t h.sm.shape h.sm.nums [] trivial ⟨by decide, by decide, by decide, by decide⟩
    rwa [List.append_nil] at this
  have hp := tok_pos t
  refine ⟨hsz, hp, l2, htx, ?_, fun S hS => ?_, ?_⟩
  · refine sgs_good (ft_valid ?_ (by omega)) (toks_spread (g := []) (tail := []) (fun b hb => by simp at hb) (fun b hb => by simp at hb) g1 (by rw [htx, List.append_nil]))
    rw [htx]; exact val_spr ValidL.nil _ hval
  · have hs : S.size ≤ 20000 := by
      rw [tk_size hS, List.length_append, spr_len, say_tok]
      have : gapB.length = 3 := rfl
      rw [this]; simp only [List.length_cons, List.length_nil]; omega
    refine ⟨hs, sgs_good (ft_valid ?_ hs) (toks_spread (g := gapB) (tail := [13]) (by decide) (by decide) g2 hS)⟩
    rw [hS]; exact (val_spr (ValidL.low (by decide)) _ hval).app (ValidL.low (by decide))
  · generalize tokT t = L at g1 htx hp
    cases L with
    | nil => simp at hp
    | cons x L =>
      obtain ⟨⟨x1, x2, x3⟩, -⟩ := g1
      have hx := x3 (bracedB t) [] (by rw [htx, spr_cons]; simp)
      have hlen : 0 < x.bs.length := List.length_pos_iff.2 x1
      have hz : 0 < (bracedB t).size := by rw [tk_size htx, spr_cons]; simp; omega
      have := sign_in (s := bracedB t) (k := 0) hz
      refine ⟨?_, hlen⟩
      rw [show ((0 : Nat) : Int) = 0 from rfl] at this
      rw [this]; exact hx

theorem place_at (g : List UInt8) {L : List Tk} {i : Nat} (h : i < L.length) : atSign (places g 0 L) i = (tkSg (tkAt L i) (posG g L i), posG g L i) := by
  rw [atSign, List.getD_eq_getElem?_getD, places_at g L 0 i h, posG, Nat.zero_add]; rfl
theorem posG_zero (L : List Tk) : posG [] L 0 = 0 := by simp [posG, spr_nil]
theorem posG_next {L : List Tk} {i : Nat} (h : i < L.length) : posG [] L (i + 1) = posG [] L i + (tkAt L i).bs.length := by
  rw [posG, posG, spr_take [] L i h]; simp
theorem posG_end {T : ByteArray} {L : List Tk} (h : T.data.toList = spr [] L) : posG [] L L.length = T.size := by
  rw [posG, List.take_of_length_le (Nat.le_refl _), tk_size h]; simp
theorem textS_zero (L : List Tk) : textS L 0 = ⟨#[]⟩ := by simp [textS, spr_nil]
theorem textS_next {T : ByteArray} {L : List Tk} {k : Nat} (hT : T.data.toList = spr [] L) (h : k < L.length) : (textS L k ++ ⟨#[32, 10, 9]⟩) ++ T.extract (posG [] L k) (posG [] L (k + 1)) = textS L (k + 1) := by
  apply ByteArray.ext
  apply Array.ext'
  have hx : (T.extract (posG [] L k) (posG [] L (k + 1))).data.toList = (tkAt L k).bs := by
    rw [Lib.extract_data, hT, posG_next h, spr_drop [] L k]
    have e : posG [] L k = (spr [] (L.take k)).length := by simp [posG]
    rw [e]
    have hd : spr [] (L.drop k) = (tkAt L k).bs ++ spr [] (L.drop (k + 1)) := by
      rw [List.drop_eq_getElem_cons h, spr_cons]
      congr 1
      rw [tkAt, List.getD_eq_getElem?_getD, List.getElem?_eq_getElem h]; rfl
    rw [hd]; simp
  rw [ByteArray.data_append, ByteArray.data_append, Array.toList_append, Array.toList_append, hx, textS, textS, spr_take gapB L k h]
  simp [gapB]
theorem textS_size {T : ByteArray} {L : List Tk} (h : SgQ T L) (k : Nat) : (textS L k).size ≤ 20000 := by
  have h1 : (spr gapB L).length ≤ 19999 := by
    have := (h.two ⟨(spr gapB L ++ [13]).toArray⟩ (by simp)).1
    have e : ByteArray.size ⟨(spr gapB L ++ [13]).toArray⟩ = (spr gapB L).length + 1 := by show Array.size _ = _; simp
    omega
  have e2 : (textS L k).size = (spr gapB (L.take k)).length := by show Array.size _ = _; simp
  have h2 : (spr gapB L).length = (spr gapB (L.take k)).length + (spr gapB (L.drop k)).length := by rw [spr_drop gapB L k, List.length_append]
  omega
theorem textS_full {L : List Tk} : (textS L L.length ++ ⟨#[13]⟩).data.toList = spr gapB L ++ [13] := by
  rw [ByteArray.data_append, Array.toList_append, textS, List.take_of_length_le (Nat.le_refl _)]

end Go.Proofs.YtomhbbchflblpaaGreatDoor
namespace Go.Proofs.YtomhbbchflblpaaGreatDoor
open Go.RowKit

theorem fs_at (g : List UInt8) {L : List Tk} {i : Nat} (h : i < L.length) : fSign (places g 0 L) i 0 = .int .i64 (tkAt L i).kind ∧ fSign (places g 0 L) i 1 = .string (tkAt L i).text ∧ fSign (places g 0 L) i 2 = .int .i64 (tkAt L i).num ∧ fSign (places g 0 L) i 3 = .int .i64 (posG g L i : Nat) := by
  simp only [fSign, place_at g h, oneSign, tkSg]
  exact ⟨rfl, rfl, rfl, rfl⟩
theorem cell_f0 (w : World) (x y z : Value) (e : TypeId) : (w.alloc (.cells #[x, y, z] e)).cell? ⟨w.heap.size, 0, none⟩ = some x :=
  (World.rowIs_alloc w #[x, y, z] e (fun j => if j = 0 then x else if j = 1 then y else z) (fun i hi => by
    rcases (show i = 0 ∨ i = 1 ∨ i = 2 by simp at hi; omega) with rfl | rfl | rfl <;> rfl)).cell (i := 0) (by simp)
def SgZ (n : Nat) (P : List (Sg × Nat)) (w : World) (e : Ending) (w' : World) : Prop :=
  (∃ a cap, e = .returned (.tuple #[.slice a n cap, .agg #[.int .i64 0, .int .i64 0, .string ⟨#[]⟩]]) ∧ SlAt w' a n 4 (fSign P)) ∧ Below w.heap.size w w'
theorem sgz_of {s : ByteArray} {n : Nat} {P : List (Sg × Nat)} {w w' : World} {e : Ending} (h : SgsV s w e w') (h1 : sgsL s = P) (h2 : sgsC s = 0) (h3 : sgsP s = 0) (hn : P.length = n) : SgZ n P w e w' := by
  unfold SgsV at h
  rw [h1, h2, h3, hn] at h
  obtain ⟨⟨a, cap, fp, h4, h5⟩, h6⟩ := h
  exact ⟨⟨a, cap, h4, h5.own.sl⟩, h6⟩

set_option maxRecDepth 100000 in
set_option maxHeartbeats 1000000 in
theorem sameSigns_same {L : List Tk} (a a' : Option Addr) (cap cap' : Nat) (w : World) (hn : L.length ≤ 1048576) (hc : SlAt w a L.length 4 (fSign (places [] 0 L))) (hc' : SlAt w a' L.length 4 (fSign (places [] 0 L))) :
    Calls Tryz.prog 10 #[.slice a L.length cap, .slice a' L.length cap'] w fun e w' => e = .returned (.bool true) ∧ Below w.heap.size w w' := by
  have e0 : ((L.length : Int) != (L.length : Int)) = false := by simp
  have HS := Lib.hid (And.intro hc hc'); clear hc hc'
  go_enter Tryz.func10, Tryz.ntmps10
  go_wp2
  clear e0
  go_loopw [5] (fun s5 wr => ∃ k : Nat, k ≤ L.length ∧ s5 = .int .i64 k ∧ Hid (Below w.heap.size w wr)) (fun s5 _ => L.length - (intOf s5).toNat)
  case atStart => exact ⟨0, by omega, rfl, Lib.hid (Below.refl _ _)⟩
  case round =>
    obtain ⟨k, hk, rfl, HB⟩ := hrel
    by_cases hlt : k < L.length
    · obtain ⟨p, po, rfl, hcell⟩ := (HS.out.1.keep HB.out).at (by omega)
      obtain ⟨g0, g1, g2, g3⟩ := fs_at [] hlt
      have c0 : wr.cell? ⟨p, po + k * 4, none⟩ = some (.int .i64 (tkAt L k).kind) := by have := hcell k hlt 0 (by omega); rw [g0] at this; simpa using this
      have c1 : wr.cell? ⟨p, po + k * 4 + 1, none⟩ = some (.string (tkAt L k).text) := by have := hcell k hlt 1 (by omega); rw [g1] at this; exact this
      have c2 : wr.cell? ⟨p, po + k * 4 + 2, none⟩ = some (.int .i64 (tkAt L k).num) := by have := hcell k hlt 2 (by omega); rw [g2] at this; exact this
      have c3 : wr.cell? ⟨p, po + k * 4 + 3, none⟩ = some (.int .i64 (posG [] L k : Nat)) := by have := hcell k hlt 3 (by omega); rw [g3] at this; exact this
      clear hcell g0 g1 g2 g3
      obtain ⟨q, qo, rfl, hcell⟩ := (HS.out.2.keep HB.out).at (by omega)
      obtain ⟨g0, g1, g2, g3⟩ := fs_at [] hlt
      have d0 : wr.cell? ⟨q, qo + k * 4, none⟩ = some (.int .i64 (tkAt L k).kind) := by have := hcell k hlt 0 (by omega); rw [g0] at this; simpa using this
      have d1 : wr.cell? ⟨q, qo + k * 4 + 1, none⟩ = some (.string (tkAt L k).text) := by have := hcell k hlt 1 (by omega); rw [g1] at this; exact this
      have d2 : wr.cell? ⟨q, qo + k * 4 + 2, none⟩ = some (.int .i64 (tkAt L k).num) := by have := hcell k hlt 2 (by omega); rw [g2] at this; exact this
      have d3 : wr.cell? ⟨q, qo + k * 4 + 3, none⟩ = some (.int .i64 (posG [] L k : Nat)) := by have := hcell k hlt 3 (by omega); rw [g3] at this; exact this
      clear hcell g0 g1 g2 g3
      have s0 : ((tkAt L k).kind == (tkAt L k).kind) = true := by simp
      have s1 : ((tkAt L k).text.toList == (tkAt L k).text.toList) = true := by simp
      have s2 : ((tkAt L k).num == (tkAt L k).num) = true := by simp
      have s3 : (((posG [] L k : Nat) : Int) == ((posG [] L k : Nat) : Int)) = true := by simp
      generalize tkAt L k = X at *
      generalize posG [] L k = P at *
      have c0a := aft_cell c0
      have c1a := aft_cell c1
      have c2a := aft_cell c2
      have c3a := aft_cell c3
      have d0a := aft_cell d0
      have d1a := aft_cell d1
      have d2a := aft_cell d2
      have d3a := aft_cell d3
      go_wp2_with fail
      refine wp_region_soft_lit (by kernel_rfl) (by kernel_rfl) ?_
      repeat (go_big_quiet_step ((fail)))
      refine wpQuiet_nil ?_
      intro _ hw'
      obtain ⟨xq, hw''⟩ := hw'
      subst hw''
      go_wp2
      go_roundw
      case rel => exact ⟨k + 1, by omega, by go_num, Lib.hid (bnext HB.out xq.bel)⟩
      case measure => simp [intOf]; omega
    · go_wp2
      go_ret
      exact ⟨rfl, HB.out⟩

theorem cell_s4 (w : World) (x y z u : Value) (e : TypeId) : (w.alloc (.cells #[x, y, z, u] e)).cell? ⟨w.heap.size, 0, none⟩ = some x ∧ (w.alloc (.cells #[x, y, z, u] e)).cell? ⟨w.heap.size, 1, none⟩ = some y ∧ (w.alloc (.cells #[x, y, z, u] e)).cell? ⟨w.heap.size, 2, none⟩ = some z ∧ (w.alloc (.cells #[x, y, z, u] e)).cell? ⟨w.heap.size, 3, none⟩ = some u := by
  have hr := World.rowIs_alloc w #[x, y, z, u] e (fun j => if j = 0 then x else if j = 1 then y else if j = 2 then z else u) (fun i hi => by
    rcases (show i = 0 ∨ i = 1 ∨ i = 2 ∨ i = 3 by simp at hi; omega) with rfl | rfl | rfl | rfl <;> rfl)
  exact ⟨hr.cell (i := 0) (by simp), hr.cell (i := 1) (by simp), hr.cell (i := 2) (by simp), hr.cell (i := 3) (by simp)⟩

set_option maxRecDepth 100000 in
set_option maxHeartbeats 8000000 in
theorem lawSigns {H : Type} {enc : TypeId × Value → H} {W : World} {base : Nat} {v : Value} {d : DataW H} {p : List MemPlace} (hval : Value.okWide Tryz.prog W .any base 22 v)
    (h : DataW.Trod enc Tryz.prog W 0 (fun _ => true) true 22 v d p) (_h1 : Lib.VarReads Tryz.prog W "math/bits.deBruijn32tab" Rows.laid_math_bits_deBruijn32tab) (_h2 : Lib.VarReads Tryz.prog W "math/bits.deBruijn64tab" Rows.laid_math_bits_deBruijn64tab) (_h3 : Lib.VarReads Tryz.prog W "internal/strconv.uint64pow10" Rows.laid_internal_strconv_uint64pow10) (ha : Lib.VarReads Tryz.prog W "unicode/utf8.acceptRanges" Rows.laid_unicode_utf8_acceptRanges) (he0 : Lib.VarReads Tryz.prog W "strconv.ErrRange" Rows.laid_strconv_ErrRange) (_h6 : Lib.VarReads Tryz.prog W "strconv.ErrSyntax" Rows.laid_strconv_ErrSyntax) (hc : Lib.VarReads Tryz.prog W "unicode.CaseRanges" Rows.laid_unicode_CaseRanges) (hf : Lib.VarReads Tryz.prog W "unicode/utf8.first" Rows.laid_unicode_utf8_first) :
    Calls Tryz.prog 3 #[v] W fun e w' => e = .returned (.bool true) ∧ Below W.heap.size W w' := by
  obtain ⟨a, n, cap, rfl, hnm, hcode⟩ := openCode hval h
  have hTb := And.intro (tabs_of ha hf) (And.intro (cases_of hc) (errs_of he0))
  clear hval h ha hf hc he0 hnm _h1 _h2 _h3 _h6
  by_cases hn : n ≤ 1048576
  rotate_left
  · have hd : decide ((1048576 : Int) < (n : Int)) = true := decide_eq_true (by omega)
    clear hn hTb hcode
    go_enter Tryz.func3, Tryz.ntmps3
    go_wp2_with (go_at_call 5; refine (big_any _ _ _ _).mono ?_; rintro e w' ⟨rfl, rfl⟩)
    go_ret
    exact ⟨rfl, Below.refl _ _⟩
  have hd : decide ((1048576 : Int) < (n : Int)) = false := decide_eq_false (by omega)
  have HN := Lib.hid hn; have HT := Lib.hid hTb; have HC := Lib.hid hcode
  clear hn hTb hcode
  go_enter Tryz.func3, Tryz.ntmps3
  go_wp2_with (go_at_call 5; refine (big_any _ _ _ _).mono ?_; rintro e w' ⟨rfl, rfl⟩)
  clear hd
  refine (drawTree a n cap _ HN.out HC.out).mono ?_
  rintro e w1 ⟨t, vk, vs, fp, hdr, rfl, hto, hnd, hge, hb1⟩
  obtain ⟨fk9, fs9, hfe9, hso9, hko9⟩ := treeOwn_iff.1 hto
  obtain ⟨a1, m1, rfl⟩ := str_shape hso9
  obtain ⟨a2, m2, rfl⟩ := kids_shape hko9
  clear hfe9 hso9 hko9
  have hti := hto.toIn (S := Any) _ _ _ _ (fun _ _ => trivial)
  have HD := Lib.hid hdr
  have HI := Lib.hid hti
  have HB1 := Lib.hid hb1
  clear hto hnd hge hdr hb1 HC HN hti
  go_wp2_with fail
  refine (sBracedText t Any _ _ _ (by have := (drn_ok HD.out).2; omega) HD.out.sm.nums HI.out).mono ?_
  rintro e w2 ⟨rfl, hb2⟩
  have hQ := sgq HD.out
  have HB2 := Lib.hid (bnext HB1.out hb2)
  clear HD HI HB1 hb2
  generalize bracedB t = T at hQ ⊢
  generalize tokT t = L at hQ
  have hT1 : T.size ≤ 18266 := hQ.size
  have hl0 : 0 < L.length := hQ.pos
  have hl1 : L.length ≤ 422 := hQ.len
  have HQ := Lib.hid hQ; clear hQ
  have CI := Lib.hid (fun (w0 : World) (hb : Below W.heap.size W w0) => (iSignsOf T w0 (by omega) (tabs_keep HT.out.1 hb) (cases_keep HT.out.2.1 hb) (errs_keep HT.out.2.2 hb)).mono fun _ _ h => sgz_of h HQ.out.one.1 HQ.out.one.2.1 HQ.out.one.2.2 (places_len [] L 0))
  have CS := Lib.hid (fun (w0 : World) => (sSignsOf T w0 (by omega)).mono fun _ _ h => sgz_of h HQ.out.one.1 HQ.out.one.2.1 HQ.out.one.2.2 (places_len [] L 0))
  have CA := Lib.hid (fun (w0 : World) (hb : Below W.heap.size W w0) => (iSignAt T 0 w0 (by omega) (tabs_keep HT.out.1 hb) (cases_keep HT.out.2.1 hb) (errs_keep HT.out.2.2 hb)).mono fun e w' h => (show e = .returned (.tuple #[.agg #[.int .i64 (tkAt L 0).kind, .string (tkAt L 0).text, .int .i64 (tkAt L 0).num, .int .i64 0], .int .i64 ((tkAt L 0).bs.length : Nat)]) ∧ Below w0.heap.size w0 w' from by
    unfold SignP at h
    rw [HQ.out.first.1] at h
    simpa [sgK, sgT, sgN, sgA, sgE, tkSg] using h))
  go_wp2_with fail
  refine (CI.out _ HB2.out).mono ?_
  rintro e w3 ⟨⟨a3, c3, rfl, hs3⟩, hb3⟩
  have hal3 := alloc_below w3 #[.int .i64 0, .int .i64 0, .string ⟨#[]⟩] 32
  have H3 := Lib.hid (And.intro (hs3.keep hal3) (And.intro (bnext HB2.out (bnext hb3 hal3)) (cell_f0 w3 (.int .i64 0) (.int .i64 0) (.string ⟨#[]⟩) 32)))
  clear hs3 hb3 hal3 CI HB2
  go_wp2_with fail
  generalize w3.alloc (.cells #[.int .i64 0, .int .i64 0, .string ⟨#[]⟩] 32) = w4 at H3 ⊢
  refine (CS.out _).mono ?_
  rintro e w5 ⟨⟨a5, c5, rfl, hs5⟩, hb5⟩
  have hal5 := alloc_below w5 #[.int .i64 0, .int .i64 0, .string ⟨#[]⟩] 32
  have H5 := Lib.hid (And.intro (H3.out.1.keep (bnext hb5 hal5)) (And.intro (hs5.keep hal5) (And.intro (bnext H3.out.2.1 (bnext hb5 hal5)) (bkeep (bnext hb5 hal5) H3.out.2.2))))
  clear hs5 hb5 hal5 CS H3
  go_wp2_with fail
  generalize w5.alloc (.cells #[.int .i64 0, .int .i64 0, .string ⟨#[]⟩] 32) = w6 at H5 ⊢
  refine (sameSigns_same a3 a5 c3 c5 _ (by omega) H5.out.1 H5.out.2.1).mono ?_
  rintro e w7 ⟨rfl, hb7⟩
  have H7 := Lib.hid (And.intro (H5.out.1.keep hb7) (And.intro (bnext H5.out.2.2.1 hb7) (bkeep hb7 H5.out.2.2.2)))
  clear hb7 H5
  go_wp2
  go_loop [8, 9] (fun s8 s9 => ∃ k : Nat, k ≤ L.length ∧ s8 = .string (textS L k) ∧ s9 = .int .i64 k) (fun _ s9 => L.length - (intOf s9).toNat)
  case atStart => exact ⟨0, by omega, by rw [textS_zero], rfl⟩
  case round =>
    obtain ⟨k, hk, rfl, rfl⟩ := hrel
    have hz1 := textS_size HQ.out k
    by_cases hlt : k < L.length
    · have hz2 := textS_size HQ.out (k + 1)
      have HN2 := Lib.hid (textS_next HQ.out.txt hlt)
      have hp0 : posG [] L k ≤ posG [] L (k + 1) := by rw [posG_next hlt]; omega
      have hp1 : posG [] L (k + 1) ≤ T.size := by
        rw [← posG_end HQ.out.txt]
        simp only [posG]
        have := spr_drop [] (L.take L.length) (k + 1)
        have e2 : (spr [] L).length = (spr [] (L.take (k + 1))).length + (spr [] (L.drop (k + 1))).length := by rw [← List.length_append, ← spr_drop]
        rw [List.take_of_length_le (Nat.le_refl L.length)]
        omega
      obtain ⟨q, qo, rfl, hcell⟩ := H7.out.1.at (by omega)
      have d0 : w7.cell? ⟨q, qo + k * 4 + 3, none⟩ = some (.int .i64 (posG [] L k : Nat)) := by have := hcell k hlt 3 (by omega); rw [(fs_at [] hlt).2.2.2] at this; exact this
      have n0 : decide (((posG [] L k : Nat) : Int) < 0) = false := decide_eq_false (by omega)
      by_cases hk1 : k + 1 < L.length
      · have d1 : w7.cell? ⟨q, qo + (k + 1) * 4 + 3, none⟩ = some (.int .i64 (posG [] L (k + 1) : Nat)) := by have := hcell (k + 1) hk1 3 (by omega); rw [(fs_at [] hk1).2.2.2] at this; exact this
        clear hcell
        generalize posG [] L (k + 1) = P1 at *
        generalize posG [] L k = P0 at *
        have n1 : decide (P1 < P0) = false := decide_eq_false (by omega)
        go_wp2
        go_round
        case rel => exact ⟨k + 1, by omega, by rw [← HN2.out], by go_num⟩
        case measure => simp [intOf]; omega
      · have hPe : posG [] L (k + 1) = T.size := by rw [show k + 1 = L.length by omega]; exact posG_end HQ.out.txt
        rw [hPe] at HN2 hp0 hp1
        clear hcell hPe
        generalize posG [] L k = P0 at *
        have n1 : decide (T.size < P0) = false := decide_eq_false (by omega)
        go_wp2
        go_round
        case rel => exact ⟨k + 1, by omega, by rw [← HN2.out], by go_num⟩
        case measure => simp [intOf]; omega
    obtain rfl : k = L.length := by omega
    clear hlt hk
    have hSz := HQ.out.two (textS L L.length ++ ⟨#[13]⟩) textS_full
    have CJ := Lib.hid (fun (w0 : World) (hb : Below W.heap.size W w0) => (iSignsOf (textS L L.length ++ ⟨#[13]⟩) w0 (by have := hSz.1; omega) (tabs_keep HT.out.1 hb) (cases_keep HT.out.2.1 hb) (errs_keep HT.out.2.2 hb)).mono fun _ _ h => sgz_of h hSz.2.1 hSz.2.2.1 hSz.2.2.2 (places_len gapB L 0))
    clear hSz
    generalize textS L L.length = S at CJ hz1 ⊢
    go_wp2_with fail
    refine (CJ.out _ H7.out.2.1).mono ?_
    rintro e w8 ⟨⟨a8, c8, rfl, hs8⟩, hb8⟩
    have hal8 := alloc_below w8 #[.int .i64 0, .int .i64 0, .string ⟨#[]⟩] 32
    have H8 := Lib.hid (And.intro (H7.out.1.keep (bnext hb8 hal8)) (And.intro (hs8.keep hal8) (And.intro (bnext H7.out.2.1 (bnext hb8 hal8)) (And.intro (bkeep (bnext hb8 hal8) H7.out.2.2) (cell_f0 w8 (.int .i64 0) (.int .i64 0) (.string ⟨#[]⟩) 32)))))
    have f1 := H8.out.2.2.2.1
    have f2 := H8.out.2.2.2.2
    have n1 : ((L.length : Int) != (L.length : Int)) = false := by simp
    have n2 : ((L.length : Int) == 0) = false := by rw [beq_eq_false_iff_ne]; omega
    clear hs8 hb8 hal8 CJ H7
    go_wp2_with fail
    generalize w8.alloc (.cells #[.int .i64 0, .int .i64 0, .string ⟨#[]⟩] 32) = w9 at H8 ⊢
    clear f1 f2 n1 n2
    go_loopw [13] (fun s13 wr => ∃ k : Nat, k ≤ L.length ∧ s13 = .int .i64 k ∧ Hid (Below w9.heap.size w9 wr)) (fun s13 _ => L.length - (intOf s13).toNat)
    case atStart => exact ⟨0, by omega, rfl, Lib.hid (Below.refl _ _)⟩
    case round =>
      obtain ⟨k, hk, rfl, HB⟩ := hrel
      by_cases hlt : k < L.length
      · obtain ⟨p, po, haep, hcell⟩ := (H8.out.1.keep HB.out).at (by omega)
        obtain ⟨g0, g1, g2, g3⟩ := fs_at [] hlt
        have c0 : wr.cell? ⟨p, po + k * 4, none⟩ = some (.int .i64 (tkAt L k).kind) := by have := hcell k hlt 0 (by omega); rw [g0] at this; simpa using this
        have c1 : wr.cell? ⟨p, po + k * 4 + 1, none⟩ = some (.string (tkAt L k).text) := by have := hcell k hlt 1 (by omega); rw [g1] at this; exact this
        have c2 : wr.cell? ⟨p, po + k * 4 + 2, none⟩ = some (.int .i64 (tkAt L k).num) := by have := hcell k hlt 2 (by omega); rw [g2] at this; exact this
        have c3 : wr.cell? ⟨p, po + k * 4 + 3, none⟩ = some (.int .i64 (posG [] L k : Nat)) := by have := hcell k hlt 3 (by omega); rw [g3] at this; exact this
        subst haep
        clear hcell g0 g1 g2 g3
        obtain ⟨q, qo, haeq, hcell⟩ := (H8.out.2.1.keep HB.out).at (by omega)
        obtain ⟨g0, g1, g2, g3⟩ := fs_at gapB hlt
        have d0 : wr.cell? ⟨q, qo + k * 4, none⟩ = some (.int .i64 (tkAt L k).kind) := by have := hcell k hlt 0 (by omega); rw [g0] at this; simpa using this
        have d1 : wr.cell? ⟨q, qo + k * 4 + 1, none⟩ = some (.string (tkAt L k).text) := by have := hcell k hlt 1 (by omega); rw [g1] at this; exact this
        have d2 : wr.cell? ⟨q, qo + k * 4 + 2, none⟩ = some (.int .i64 (tkAt L k).num) := by have := hcell k hlt 2 (by omega); rw [g2] at this; exact this
        have d3 : wr.cell? ⟨q, qo + k * 4 + 3, none⟩ = some (.int .i64 (posG gapB L k : Nat)) := by have := hcell k hlt 3 (by omega); rw [g3] at this; exact this
        subst haeq
        clear hcell g0 g1 g2 g3
        generalize tkAt L k = X at *
        generalize posG [] L k = P1 at *
        generalize posG gapB L k = P2 at *
        have hlp := lt_of_cell c3
        have hlq := lt_of_cell d3
        have hal := alloc_below wr #[.int .i64 X.kind, .string X.text, .int .i64 X.num, .int .i64 (P1 : Nat)] 37
        obtain ⟨y0, y1, y2, y3⟩ := cell_s4 wr (.int .i64 X.kind) (.string X.text) (.int .i64 X.num) (.int .i64 (P1 : Nat)) 37
        have z0 := bkeep hal c0
        have z1 := bkeep hal c1
        have z2 := bkeep hal c2
        have z3 := bkeep hal c3
        have HBX := Lib.hid (bnext HB.out hal); clear hal
        go_wp2_with fail
        generalize wr.alloc (.cells #[.int .i64 X.kind, .string X.text, .int .i64 X.num, .int .i64 (P1 : Nat)] 37) = wx at HBX y0 y1 y2 y3 z0 z1 z2 z3 ⊢
        clear c0 c1 c2 c3 d0 d1 d2 d3
        have s0 : (X.kind == X.kind) = true := by simp
        have s1 : (X.text.toList == X.text.toList) = true := by simp
        have s2 : (X.num == X.num) = true := by simp
        have s3 : (((P1 : Nat) : Int) == ((P1 : Nat) : Int)) = true := by simp
        have y0a := aft_cell y0
        have y1a := aft_cell y1
        have y2a := aft_cell y2
        have y3a := aft_cell y3
        have z0a := aft_cell z0
        have z1a := aft_cell z1
        have z2a := aft_cell z2
        have z3a := aft_cell z3
        refine wp_region_soft_lit (by kernel_rfl) (by kernel_rfl) ?_
        repeat (go_big_quiet_step ((fail)))
        refine wpQuiet_nil ?_
        intro _ hw'
        obtain ⟨xq, hw''⟩ := hw'
        subst hw''
        go_wp2
        go_roundw
        case rel => exact ⟨k + 1, by omega, by go_num, Lib.hid (bnext HBX.out xq.bel)⟩
        case measure => simp [intOf]; omega
      · obtain rfl : k = L.length := by omega
        clear hlt hk
        go_wp2_with fail
        refine (CA.out _ (bnext H8.out.2.2.1 HB.out)).mono ?_
        rintro e w10 ⟨rfl, hb10⟩
        obtain ⟨p, po, haep, hcell⟩ := ((H8.out.1.keep HB.out).keep hb10).at (by omega)
        obtain ⟨g0, g1, g2, g3⟩ := fs_at [] hl0
        have c0 : w10.cell? ⟨p, po + 0 * 4, none⟩ = some (.int .i64 (tkAt L 0).kind) := by have := hcell 0 hl0 0 (by omega); rw [g0] at this; simpa using this
        have c1 : w10.cell? ⟨p, po + 0 * 4 + 1, none⟩ = some (.string (tkAt L 0).text) := by have := hcell 0 hl0 1 (by omega); rw [g1] at this; exact this
        have c2 : w10.cell? ⟨p, po + 0 * 4 + 2, none⟩ = some (.int .i64 (tkAt L 0).num) := by have := hcell 0 hl0 2 (by omega); rw [g2] at this; exact this
        have c3 : w10.cell? ⟨p, po + 0 * 4 + 3, none⟩ = some (.int .i64 (posG [] L 0 : Nat)) := by have := hcell 0 hl0 3 (by omega); rw [g3] at this; exact this
        subst haep
        clear hcell g0 g1 g2 g3
        rw [posG_zero] at c3
        simp only [Nat.zero_mul, Nat.add_zero] at c0 c1 c2 c3
        have hlen := HQ.out.first.2
        have HBY := Lib.hid (bnext (bnext H8.out.2.2.1 HB.out) hb10)
        clear hb10 CA HB H8 HQ
        generalize tkAt L 0 = X at *
        have hal := alloc_below w10 #[.int .i64 X.kind, .string X.text, .int .i64 X.num, .int .i64 0] 37
        obtain ⟨y0, y1, y2, y3⟩ := cell_s4 w10 (.int .i64 X.kind) (.string X.text) (.int .i64 X.num) (.int .i64 0) 37
        have z0 := bkeep hal c0
        have z1 := bkeep hal c1
        have z2 := bkeep hal c2
        have z3 := bkeep hal c3
        have HBX := Lib.hid (bnext HBY.out hal); clear hal
        go_wp2_with fail
        generalize w10.alloc (.cells #[.int .i64 X.kind, .string X.text, .int .i64 X.num, .int .i64 0] 37) = wx at HBX y0 y1 y2 y3 z0 z1 z2 z3 ⊢
        clear c0 c1 c2 c3
        have hlz : (0 : Int) < (X.bs.length : Nat) := by omega
        have s0 : (X.kind == X.kind) = true := by simp
        have s1 : (X.text.toList == X.text.toList) = true := by simp
        have s2 : (X.num == X.num) = true := by simp
        have s3 : ((0 : Int) == (0 : Int)) = true := by simp
        have y0a := aft_cell y0
        have y1a := aft_cell y1
        have y2a := aft_cell y2
        have y3a := aft_cell y3
        have z0a := aft_cell z0
        have z1a := aft_cell z1
        have z2a := aft_cell z2
        have z3a := aft_cell z3
        refine wp_region_soft_lit (by kernel_rfl) (by kernel_rfl) ?_
        repeat (go_big_quiet_step ((fail)))
        refine wpQuiet_nil ?_
        intro _ hw'
        obtain ⟨xq, hw''⟩ := hw'
        subst hw''
        go_wp2
        go_ret
        exact ⟨rfl, bnext HBX.out xq.bel⟩

end Go.Proofs.YtomhbbchflblpaaGreatDoor
