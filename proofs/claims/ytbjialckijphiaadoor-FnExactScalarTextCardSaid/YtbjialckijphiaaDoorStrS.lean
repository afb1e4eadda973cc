/- Lists of strings: szStringS, toStringS, eqStringS; one that came in, opened. -/
import Derived.Test.YtbjialckijphiaaDoorTreeO
import Derived.Deep.Strs
import Derived.ProofKit
namespace Go.Proofs.YtbjialckijphiaaDoor
open Go.RowKit Go.Deep Go.ChangeShapes Go.WideShapes

def strFits (l : List ByteArray) : Prop := l.length ≤ maxLen ∧ ∀ i, i < l.length → (strAt l i).size ≤ maxLen
def sizes (l : List ByteArray) : Nat := (l.map ByteArray.size).sum
theorem strWt_eq (l : List ByteArray) : strWt l = l.length + sizes l := rfl
theorem sizes_take : ∀ (l : List ByteArray) (k : Nat), k < l.length → sizes (l.take (k + 1)) = sizes (l.take k) + (strAt l k).size
  | [], k, h => by simp at h
  | t :: ts, 0, _ => by simp [sizes, strAt]
  | t :: ts, k + 1, h => by
    have := sizes_take ts k (by simpa using h)
    simp only [sizes, List.take_succ_cons, List.map_cons, List.sum_cons] at this ⊢
    have e : strAt (t :: ts) (k + 1) = strAt ts k := rfl
    rw [this, e]; omega
theorem sizes_le : ∀ (l : List ByteArray) (k : Nat), sizes (l.take k) ≤ sizes l
  | [], k => by simp
  | t :: ts, 0 => by simp [sizes]
  | t :: ts, k + 1 => by
    have := sizes_le ts k
    simp only [sizes, List.take_succ_cons, List.map_cons, List.sum_cons] at this ⊢; omega

theorem szStringS_any (l : List ByteArray) (S : Nat → Prop) (a : Option Addr) (cap : Nat) (w : World) (left : Int) (hf : strFits l) (hl0 : 0 ≤ left) (hl1 : left ≤ 1048576) (hc : StrsIn w S (.slice a l.length cap) l) :
    Calls Tryd.prog 15 #[.slice a l.length cap, .int .i64 left] w fun e w' => e = .returned (.int .i64 (lessZ left (strWt l : Nat))) ∧ w = w' := by
  obtain ⟨hn, hsz⟩ := hf
  unfold maxLen at hn
  have HSZ := Lib.hid hsz; clear hsz
  have HW := Lib.hid (strWt_eq l)
  by_cases hln : left - l.length < 0
  · go_enter Tryd.func15, Tryd.ntmps15
    go_wp2
    go_ret
    exact ⟨ret_int (lessZ_neg (by have := HW.out; omega)).symm, rfl⟩
  go_enter Tryd.func15, Tryd.ntmps15
  go_wp2
  go_loop [1, 5] (fun lf i => ∃ k : Nat, k ≤ l.length ∧ i = .int .i64 k ∧ ∃ l0 : Int, 0 ≤ l0 ∧ l0 ≤ left ∧ l0 + (l.length + sizes (l.take k)) = left ∧ lf = .int .i64 l0) (fun _ i => l.length - (intOf i).toNat)
  case atStart => exact ⟨0, by omega, rfl, _, by omega, by omega, by simp [sizes], rfl⟩
  case round =>
    obtain ⟨k, hk, rfl, l0, hl0, hll, hle, rfl⟩ := hrel
    have HE := Lib.hid hle; clear hle
    by_cases hlt : k < l.length
    · obtain ⟨b, o, rfl, hcell⟩ := hc.at hlt
      have c0 := hcell k hlt
      clear hcell hc
      have hs1 := HSZ.out k hlt
      unfold maxLen at hs1
      have HT := Lib.hid (sizes_take l k hlt)
      have HM := Lib.hid (sizes_le l (k + 1))
      by_cases hx : l0 - (strAt l k).size < 0
      · go_wp2
        go_ret
        exact ⟨ret_int (lessZ_neg (by have := HW.out; have := HE.out; have := HT.out; have := HM.out; omega)).symm, rfl⟩
      · go_wp2
        go_round
        case rel => exact ⟨k + 1, by omega, by go_num, _, by omega, by omega, by have := HE.out; have := HT.out; omega, rfl⟩
        case measure => simp [intOf]; omega
    · obtain rfl : k = l.length := by omega
      go_wp2
      go_ret
      exact ⟨ret_int (by have h1 := HE.out; rw [List.take_length] at h1; rw [lessZ_pos (by have := HW.out; omega)]; have := HW.out; omega), rfl⟩

theorem Tryd.infoStr : (Tryd.prog.info? 9).map (fun i => (i.zero, i.size, i.bytes)) = some (some (.string ⟨#[]⟩), 1, 16) := by kernel_rfl
def StrNew (B : Nat) (l : List ByteArray) (e : Ending) (w' : World) : Prop := ∃ v fp, e = .returned v ∧ StrOwn w' v l fp ∧ fp.Nodup ∧ ∀ b, b ∈ fp → B ≤ b
theorem str_shape {w : World} {v : Value} {l : List ByteArray} {fp : List Nat} (h : StrOwn w v l fp) : ∃ a c, v = .slice a l.length c := by
  rcases h with ⟨rfl, _, a, c, rfl, _⟩ | ⟨g, cap, e, N, F, rfl, _⟩
  · exact ⟨a, c, rfl⟩
  · exact ⟨_, cap, rfl⟩

/-- The same, with a capacity of just that length. -/
def StrNewC (B : Nat) (l : List ByteArray) (e : Ending) (w' : World) : Prop := ∃ a fp, e = .returned (.slice a l.length l.length) ∧ StrOwn w' (.slice a l.length l.length) l fp ∧ fp.Nodup ∧ ∀ b, b ∈ fp → B ≤ b

theorem toStringS_cap (l : List ByteArray) (S : Nat → Prop) (a : Option Addr) (cap : Nat) (w : World) (hn : l.length ≤ 1048576) (hc : StrsIn w S (.slice a l.length cap) l) :
    Calls Tryd.prog 20 #[.slice a l.length cap] w fun e w' => StrNewC w.heap.size l e w' ∧ Below w.heap.size w w' := by
  obtain ⟨i0, hi, hz0, hz1, hz2⟩ := info_parts Tryd.infoStr
  have hb2 : i0.bytes * l.length ≤ 281474976710656 := by rw [hz2]; omega
  have hb3 : l.length ≤ maxLen := by unfold maxLen; omega
  go_enter Tryd.func20, Tryd.ntmps20
  go_wp2_with (at_make; refine wpList_make_full _ rfl (.tmp 6) (.tmp 6) 22 rfl w.heap.size 9 i0 _ 1 Tryd.underlying22 hi hz0 hz1 .i64 .i64 _ _ l.length rfl rfl rfl rfl hb2 hb3 (Nat.le_refl _) ?_; intro w1 hown hgrow)
  obtain ⟨F0, hrow0, -, -, -, -⟩ := rowIs_of_owns hown
  have hbel1 : Below w.heap.size w w1 := (Below.refl _ _).grown hgrow (Nat.le_refl _) (fun k hk => by cases hk)
  obtain ⟨g, hg⟩ : ∃ g, g = w.heap.size := ⟨_, rfl⟩
  rw [← hg] at hrow0 ⊢
  have hgle : w.heap.size ≤ g := by omega
  have HG := Lib.hid hg; clear hg hown hgrow
  go_loopw [4] (fun i wr => ∃ k : Nat, k ≤ l.length ∧ i = .int .i64 k ∧ Below w.heap.size w wr ∧ ∃ F, wr.rowIs g 9 (l.length * 1) F ∧ ∀ i, i < k → F i = .string (strAt l i)) (fun i _ => l.length - (intOf i).toNat)
  case atStart => exact ⟨0, by omega, rfl, hbel1, F0, hrow0, fun i hi => by omega⟩
  case round =>
    obtain ⟨k, hk, rfl, hb, F, hrow, hF⟩ := hrel
    have HF := Lib.hid hF; clear hF hrow0
    by_cases hlt : k < l.length
    · obtain ⟨b, off, rfl, hcell⟩ := (hc.keep hb).at hlt
      have c0 := hcell k hlt
      clear hcell hc
      have d0 := hrow.cell (i := k) (by omega)
      have f0 := hrow.frozen k
      go_wp2
      go_roundw
      case rel => exact ⟨k + 1, by omega, by go_num, hb.setCell (by omega) _, _, hrow.set k _, fun i hi => by
        show (if i = k then _ else _) = _
        by_cases hik : i = k
        · rw [if_pos hik, hik]
        · rw [if_neg hik]; exact HF.out i (by omega)⟩
      case measure => simp [intOf]; omega
    · obtain rfl : k = l.length := by omega
      go_wp2
      go_ret
      refine ⟨⟨_, [g], rfl, ?_, ?_, ?_⟩, hb⟩
      · exact .inr ⟨g, _, _, _, F, rfl, rfl, hrow, ⟨by omega, by omega, rfl, by omega⟩, HF.out⟩
      · simp
      · intro b hb'
        simp at hb'; omega

theorem toStringS_any (l : List ByteArray) (S : Nat → Prop) (a : Option Addr) (cap : Nat) (w : World) (hn : l.length ≤ 1048576) (hc : StrsIn w S (.slice a l.length cap) l) :
    Calls Tryd.prog 20 #[.slice a l.length cap] w fun e w' => StrNew w.heap.size l e w' ∧ Below w.heap.size w w' :=
  (toStringS_cap l S a cap w hn hc).mono fun _ _ ⟨⟨_, fp, h1, h2⟩, h3⟩ => ⟨⟨_, fp, h1, h2⟩, h3⟩

theorem selfEqS (a : ByteArray) : (a.toList == a.toList) = true := beq_self_eq_true _

theorem eqStringS_same (l : List ByteArray) (S S' : Nat → Prop) (a a' : Option Addr) (cap cap' : Nat) (w : World) (hn : l.length ≤ 1048576) (hc : StrsIn w S (.slice a l.length cap) l) (hc' : StrsIn w S' (.slice a' l.length cap') l) :
    Calls Tryd.prog 25 #[.slice a l.length cap, .slice a' l.length cap'] w fun e w' => e = .returned (.bool true) ∧ Below w.heap.size w w' := by
  go_enter Tryd.func25, Tryd.ntmps25
  go_wp2
  go_loopw [5] (fun i wr => ∃ k : Nat, k ≤ l.length ∧ i = .int .i64 k ∧ Below w.heap.size w wr) (fun i _ => l.length - (intOf i).toNat)
  case atStart => exact ⟨0, by omega, rfl, Below.refl _ _⟩
  case round =>
    obtain ⟨k, hk, rfl, hb⟩ := hrel
    by_cases hlt : k < l.length
    · obtain ⟨b, o, rfl, hcell⟩ := (hc.keep hb).at hlt
      obtain ⟨b', o', rfl, hcell'⟩ := (hc'.keep hb).at hlt
      have c0 := hcell k hlt
      have c1 := hcell' k hlt
      clear hcell hcell' hc hc'
      have he := selfEqS (strAt l k)
      go_wp2_with fail
      go_quiet (fail)
      go_wp2
      go_roundw
      case rel => exact ⟨k + 1, by omega, by go_num, below_drewN hb _⟩
      case measure => simp [intOf]; omega
    · obtain rfl : k = l.length := by omega
      go_wp2
      go_ret
      exact ⟨rfl, hb⟩

theorem Tryd.cellsStr : Tryd.prog.cellsOf 9 = 1 := by kernel_rfl
def Any (_ : Nat) : Prop := True

theorem openStrs {H : Type} {enc : TypeId × Value → H} {W : World} {fuel : Nat} {v : Value} {x : DataW H × List MemPlace} (h : DataW.trod enc Tryd.prog W 0 (fun _ => true) true fuel 22 [v] = some x) :
    ∃ l, StrsIn W Any v l ∧ strFits l := by
  rcases open_strs Tryd.underlying22 Tryd.underlying9 Tryd.cellsStr h with ⟨hcs, _⟩ | ⟨a, len, cap, m, Sx, hcs, _, hl, hm, hmm, _, hx⟩
  · simp at hcs; subst hcs
    exact ⟨[], ⟨none, 0, rfl, .inl rfl⟩, by unfold strFits maxLen; simp⟩
  · simp at hcs; subst hcs
    have hlm : len ≤ m := by rw [hmm]; split <;> omega
    have hget : ∀ i, i < len → strAt ((List.range len).map Sx) i = Sx i := fun i hi => by simp [strAt, List.getD_eq_getElem?_getD, hi]
    refine ⟨(List.range len).map Sx, ⟨some a, cap, by simp, ?_⟩, by simp; omega, fun i hi => ?_⟩
    · rcases Nat.eq_zero_or_pos len with h0 | h0
      · left; simp [h0]
      · right
        obtain ⟨b, o, spot⟩ := a
        have hs : spot = none := by simpa [Addr.add] using World.cell?_spot (hx 0 (by omega)).1
        subst hs
        refine ⟨b, o, rfl, trivial, fun i hi => ?_⟩
        simp at hi
        have := (hx i (by omega)).1
        rw [addr_add] at this
        rw [hget i hi]; exact this
    · simp at hi
      rw [hget i hi]; exact (hx i (by omega)).2

end Go.Proofs.YtbjialckijphiaaDoor
