/- szNeed, toNeed, eqNeed and their slices. -/
import Derived.Test.YtlfnbldhmkbkmaaNeedP
import Derived.StillTailTactics
namespace Go.Proofs.Ytlfnbldhmkbkmaa
open Go.RowKit

theorem nd_alloc (w : World) (u : Array Value) (e : TypeId) : Below w.heap.size w (w.alloc (.cells u e)) := by repeat (first | exact Below.refl _ _ | (refine Below.alloc ?_ (by first | omega | (simp; done) | (simp; omega)) _) | (refine Below.setCell ?_ (by first | omega | (simp; done) | (simp; omega)) _) | (refine Below.drew ?_) | (refine below_drewN ?_ _))

theorem szNeed_any (n : Nd) (vv : Value) (w : World) (left : Int) (hf : n.fits) (hv : StrsIn w Any vv n.vals) (h0 : 0 ≤ left) (h1 : left ≤ 1048576) :
    Calls Try.prog 17 #[.agg #[.string n.key, .int .i64 n.op, vv], .int .i64 left] w fun e w' => e = .returned (.int .i64 (lessZ left (n.wt : Nat))) ∧ Below w.heap.size w w' := by
  obtain ⟨hks, hvf⟩ := hf
  unfold maxLen at hks
  obtain ⟨a, m, rfl⟩ := hv.len
  have HW : Hid (n.wt = n.key.size + strWt n.vals) := rfl
  by_cases hk : left - n.key.size < 0
  · go_enter Try.func17, Try.ntmps17
    go_wp2
    go_ret
    exact ⟨ret_int (lessZ_neg (by have := HW.out; omega)).symm, nd_alloc _ _ _⟩
  have hal := nd_alloc w #[.string n.key, .int .i64 n.op, .slice a n.vals.length m] 40
  by_cases hs : left - n.key.size < (strWt n.vals : Nat)
  · have hy := lessZ_neg hs
    go_enter Try.func17, Try.ntmps17
    go_wp2_with fail
    refine (szStringS_any n.vals Any a m _ _ hvf (by omega) (by omega) (hv.keep hal)).mono ?_
    rintro e w1 ⟨rfl, rfl⟩
    go_wp2
    go_ret
    exact ⟨ret_int (lessZ_neg (by have := HW.out; omega)).symm, hal⟩
  · have hy := lessZ_pos hs
    have hz : 0 ≤ left - n.key.size - (strWt n.vals : Nat) := by omega
    go_enter Try.func17, Try.ntmps17
    go_wp2_with fail
    refine (szStringS_any n.vals Any a m _ _ hvf (by omega) (by omega) (hv.keep hal)).mono ?_
    rintro e w1 ⟨rfl, rfl⟩
    go_wp2
    go_ret
    exact ⟨ret_int (by rw [lessZ_pos (by have := HW.out; omega)]; have := HW.out; omega), hal⟩

def fitsN (l : List Nd) : Prop := l.length ≤ maxLen ∧ ∀ i, i < l.length → (needAt l i).fits

set_option maxHeartbeats 1000000 in
theorem szNeedS_any (l : List Nd) (a : Option Addr) (cap : Nat) (w : World) (left : Int) (hf : fitsN l) (hl0 : 0 ≤ left) (hl1 : left ≤ 1048576) (hc : NeedsIn w (.slice a l.length cap) l) :
    Calls Try.prog 5 #[.slice a l.length cap, .int .i64 left] w fun e w' => e = .returned (.int .i64 (lessZ left ((l.length : Int) + (wtN l : Int)))) ∧ Below w.heap.size w w' := by
  obtain ⟨hn, hsz⟩ := hf
  unfold maxLen at hn
  have HSZ := Lib.hid hsz; clear hsz
  by_cases hln : left - l.length < 0
  · go_enter Try.func5, Try.ntmps5
    go_wp2
    go_ret
    exact ⟨ret_int (lessZ_neg (by omega)).symm, Below.refl _ _⟩
  go_enter Try.func5, Try.ntmps5
  go_wp2_with fail
  go_loopw [1, 5] (fun s1 s5 wr => ∃ k : Nat, k ≤ l.length ∧ s5 = .int .i64 k ∧ ∃ l0 : Int, 0 ≤ l0 ∧ l0 ≤ left ∧ Hid (l0 + ((l.length : Int) + (wtN (l.take k) : Int)) = left) ∧ s1 = .int .i64 l0 ∧ Below w.heap.size w wr) (fun _ s5 _ => l.length - (intOf s5).toNat)
  case atStart => exact ⟨0, by omega, rfl, _, by omega, by omega, by simp [Hid, wtN], rfl, Below.refl _ _⟩
  case round =>
    obtain ⟨k, hk, rfl, l0, hl0, hll, HE, rfl, hb⟩ := hrel
    by_cases hlt : k < l.length
    · obtain ⟨b, o, vv, rfl, ⟨c0, c1, c2⟩, hv⟩ := (hc.keep hb).at hlt
      obtain ⟨a1, m1, rfl⟩ := hv.len
      clear hc
      have HT := Lib.hid (wtN_take l k hlt)
      have HM := Lib.hid (wtN_le l (k + 1))
      have hz0 := hb.size
      by_cases hx : l0 < ((needAt l k).wt : Nat)
      · have hy := lessZ_neg hx
        go_wp2_with fail
        refine (szNeed_any (needAt l k) _ _ _ (HSZ.out k hlt) hv hl0 (by omega)).mono ?_
        rintro e w1 ⟨rfl, hb1⟩
        go_wp2
        go_ret
        refine ⟨ret_int (lessZ_neg ?_).symm, bnext hb hb1⟩
        have := HE.out; have := HT.out; have := HM.out; omega
      · have hy := lessZ_pos hx
        have hz : 0 ≤ l0 - ((needAt l k).wt : Nat) := by omega
        go_wp2_with fail
        refine (szNeed_any (needAt l k) _ _ _ (HSZ.out k hlt) hv hl0 (by omega)).mono ?_
        rintro e w1 ⟨rfl, hb1⟩
        go_wp2
        go_roundw
        case rel => exact ⟨k + 1, by omega, by go_num, _, hz, by omega, by unfold Hid; have := HE.out; have := HT.out; omega, rfl, bnext hb hb1⟩
        case measure => simp [intOf]; omega
    · obtain rfl : k = l.length := by omega
      go_wp2
      go_ret
      have h1 := HE.out
      rw [List.take_length] at h1
      exact ⟨ret_int (by rw [lessZ_pos (by omega)]; omega), hb⟩

theorem Try.infoNeed : (Try.prog.info? 42).map (fun i => (i.zero, i.size, i.bytes)) = some (some (.agg #[.string ⟨#[]⟩, .int .i64 0, .slice none 0 0]), 3, 48) := by kernel_rfl
def lit3 (v0 v1 v2 : Value) : Nat → Value | 0 => v0 | 1 => v1 | _ => v2
theorem lit3_get (v0 v1 v2 : Value) : ∀ i, i < (#[v0, v1, v2] : Array Value).size → (#[v0, v1, v2] : Array Value)[i]? = some (lit3 v0 v1 v2 i)
  | 0, _ => rfl
  | 1, _ => rfl
  | 2, _ => rfl
  | i + 3, h => absurd h (by simp)
/-- A need comes back, its values on blocks of their own. -/
def NeedNew (B : Nat) (n : Nd) (e : Ending) (w' : World) : Prop :=
  ∃ a m fp, e = .returned (.agg #[.string n.key, .int .i64 n.op, .slice a n.vals.length m]) ∧ StrOwn w' (.slice a n.vals.length m) n.vals fp ∧ (∀ b, b ∈ fp → B ≤ b) ∧ n.vals.length ≤ m

set_option maxHeartbeats 1000000 in
theorem toNeed_any (n : Nd) (vv : Value) (w : World) (hl : n.vals.length ≤ 1048576) (hv : StrsIn w Any vv n.vals) :
    Calls Try.prog 19 #[.agg #[.string n.key, .int .i64 n.op, vv]] w fun e w' => NeedNew w.heap.size n e w' ∧ Below w.heap.size w w' := by
  obtain ⟨a, m, rfl⟩ := hv.len
  have rowL := World.rowIs_alloc ((w.alloc (.cells #[.string n.key, .int .i64 n.op, .slice a n.vals.length m] 40)).alloc (.cells #[.string ⟨#[]⟩, .int .i64 0, .slice none 0 0] 42)) #[.string n.key, .int .i64 n.op, .slice none 0 0] 42 (lit3 (.string n.key) (.int .i64 n.op) (.slice none 0 0)) (lit3_get _ _ _)
  have rowR := (World.rowIs_alloc (w.alloc (.cells #[.string n.key, .int .i64 n.op, .slice a n.vals.length m] 40)) #[.string ⟨#[]⟩, .int .i64 0, .slice none 0 0] 42 (lit3 (.string ⟨#[]⟩) (.int .i64 0) (.slice none 0 0)) (lit3_get _ _ _)).alloc (.cells #[.string n.key, .int .i64 n.op, .slice none 0 0] 42)
  have hB : Below w.heap.size w (((w.alloc (.cells #[.string n.key, .int .i64 n.op, .slice a n.vals.length m] 40)).alloc (.cells #[.string ⟨#[]⟩, .int .i64 0, .slice none 0 0] 42)).alloc (.cells #[.string n.key, .int .i64 n.op, .slice none 0 0] 42)) := by repeat (first | exact Below.refl _ _ | (refine Below.alloc ?_ (by first | omega | (simp; done) | (simp; omega)) _) | (refine Below.setCell ?_ (by first | omega | (simp; done) | (simp; omega)) _) | (refine Below.drew ?_) | (refine below_drewN ?_ _))
  simp only [World.size_alloc] at rowL rowR
  have HR := Lib.hid (And.intro rowL (And.intro rowR (And.intro (hv.keep hB) hB))); clear rowL rowR hB hv
  go_enter Try.func19, Try.ntmps19
  go_wp2_with fail
  refine (toStringS_cap n.vals Any a m _ hl HR.out.2.2.1).mono ?_
  rintro e w1 ⟨⟨c1, fp, rfl, hso, -, hge⟩, hb1⟩
  have rowL1 := rowIs_keep HR.out.1 hb1
  have rowR1 := rowIs_keep HR.out.2.1 hb1
  have l0 : w1.cell? ⟨w.heap.size + 1 + 1, 0, none⟩ = some (.string n.key) := rowL1.cell (by simp)
  have l1 : w1.cell? ⟨w.heap.size + 1 + 1, 1, none⟩ = some (.int .i64 n.op) := rowL1.cell (by simp)
  have l2 : w1.cell? ⟨w.heap.size + 1 + 1, 2, none⟩ = some (.slice none 0 0) := rowL1.cell (by simp)
  have lf2 := rowL1.frozen 2
  have r0 : w1.cell? ⟨w.heap.size + 1, 0, none⟩ = some (.string ⟨#[]⟩) := rowR1.cell (by simp)
  have r1 : w1.cell? ⟨w.heap.size + 1, 1, none⟩ = some (.int .i64 0) := rowR1.cell (by simp)
  have r2 : w1.cell? ⟨w.heap.size + 1, 2, none⟩ = some (.slice none 0 0) := rowR1.cell (by simp)
  have rf0 := rowR1.frozen 0
  have rf1 := rowR1.frozen 1
  have rf2 := rowR1.frozen 2
  have HE := Lib.hid (And.intro hso (And.intro hge (bnext HR.out.2.2.2 hb1)))
  clear rowL1 rowR1 hso hge hb1
  go_wp2
  refine bodyPost_ret (v := .agg #[.string n.key, .int .i64 n.op, .slice c1 n.vals.length n.vals.length]) (by simp [results, Try.results19, go_sem, r0, r1, r2]) rfl ?_
  obtain ⟨hso, hge, hbw⟩ := HE.out
  refine ⟨⟨c1, n.vals.length, fp, rfl, ?_, fun b hb => by have := hge b hb; simp at this; omega, Nat.le_refl _⟩, ?_⟩
  · refine hso.same fun b hb _ => ?_
    have := hge b hb
    simp at this
    rw [Below.heap_setCell _ _ _ _ (show b ≠ w.heap.size + 1 by omega), Below.heap_setCell _ _ _ _ (show b ≠ w.heap.size + 1 by omega), Below.heap_setCell _ _ _ _ (show b ≠ w.heap.size + 1 by omega), Below.heap_setCell _ _ _ _ (show b ≠ w.heap.size + 1 + 1 by omega)]
  · exact (((hbw.setCell (p := ⟨w.heap.size + 1 + 1, 2, none⟩) (show w.heap.size ≤ w.heap.size + 1 + 1 by omega) _).setCell (p := ⟨w.heap.size + 1, 0, none⟩) (show w.heap.size ≤ w.heap.size + 1 by omega) _).setCell (p := ⟨w.heap.size + 1, 1, none⟩) (show w.heap.size ≤ w.heap.size + 1 by omega) _).setCell (p := ⟨w.heap.size + 1, 2, none⟩) (show w.heap.size ≤ w.heap.size + 1 by omega) _

def put3 (F : Nat → Value) (i : Nat) (v0 v1 v2 : Value) : Nat → Value := fun j => if j = i + 2 then v2 else if j = i + 1 then v1 else if j = i then v0 else F j
theorem rowIs_set3 {w : World} {g e N : Nat} {F : Nat → Value} (h : w.rowIs g e N F) (i : Nat) (v0 v1 v2 : Value) :
    (((w.setCell ⟨g, i, none⟩ v0).setCell ⟨g, i + 1, none⟩ v1).setCell ⟨g, i + 2, none⟩ v2).rowIs g e N (put3 F i v0 v1 v2) := ((h.set i v0).set (i + 1) v1).set (i + 2) v2

/-- Of a row that grows: the first k needs stand. -/
def NeedsUpto (w : World) (g : Nat) (F : Nat → Value) (l : List Nd) (k : Nat) : Prop :=
  ∀ i, i < k → ∃ vv, F (i * 3) = .string (needAt l i).key ∧ F (i * 3 + 1) = .int .i64 (needAt l i).op ∧ F (i * 3 + 2) = vv ∧ StrsIn w (fun b => b ≠ g) vv (needAt l i).vals
theorem NeedsUpto.same {w w' : World} {g : Nat} {F : Nat → Value} {l : List Nd} {k : Nat} (h : NeedsUpto w g F l k) (hs : ∀ b, b ≠ g → b < w.heap.size → w'.heap[b]? = w.heap[b]?) : NeedsUpto w' g F l k := fun i hi => by
  obtain ⟨vv, h0, h1, h2, h3⟩ := h i hi
  exact ⟨vv, h0, h1, h2, h3.same (fun b hb hl => hs b hb hl) fun b hb _ => hb⟩
theorem NeedsUpto.put {w : World} {g : Nat} {F : Nat → Value} {l : List Nd} {k : Nat} (h : NeedsUpto w g F l k) {vv : Value} (hv : StrsIn w (fun b => b ≠ g) vv (needAt l k).vals) :
    NeedsUpto w g (put3 F (k * 3) (.string (needAt l k).key) (.int .i64 (needAt l k).op) vv) l (k + 1) := fun i hi => by
  by_cases hik : i = k
  · subst hik
    refine ⟨vv, ?_, ?_, ?_, hv⟩
    · unfold put3; rw [if_neg (by omega), if_neg (by omega), if_pos rfl]
    · unfold put3; rw [if_neg (by omega), if_pos rfl]
    · unfold put3; rw [if_pos rfl]
  · obtain ⟨v, h0, h1, h2, h3⟩ := h i (by omega)
    refine ⟨v, ?_, ?_, ?_, h3⟩
    · unfold put3; rw [if_neg (by omega), if_neg (by omega), if_neg (by omega)]; exact h0
    · unfold put3; rw [if_neg (by omega), if_neg (by omega), if_neg (by omega)]; exact h1
    · unfold put3; rw [if_neg (by omega), if_neg (by omega), if_neg (by omega)]; exact h2

def NeedsNew (l : List Nd) (e : Ending) (w' : World) : Prop := ∃ v, e = .returned v ∧ NeedsIn w' v l

set_option maxHeartbeats 1000000 in
theorem toNeedS_any (l : List Nd) (a : Option Addr) (cap : Nat) (w : World) (hn : l.length ≤ 1048576) (hs : ∀ i, i < l.length → (needAt l i).vals.length ≤ 1048576) (hc : NeedsIn w (.slice a l.length cap) l) :
    Calls Try.prog 7 #[.slice a l.length cap] w fun e w' => NeedsNew l e w' ∧ Below w.heap.size w w' := by
  obtain ⟨i0, hi, hz0, hz1, hz2⟩ := info_parts Try.infoNeed
  have HSZ := Lib.hid hs; clear hs
  go_enter Try.func7, Try.ntmps7
  have hb2 : i0.bytes * l.length ≤ 281474976710656 := by rw [hz2]; omega
  have hb3 : l.length ≤ maxLen := by unfold maxLen; omega
  go_wp2_with (at_make; refine wpList_make_full _ rfl (.tmp 6) (.tmp 6) 25 rfl w.heap.size 42 i0 _ 3 Try.underlying25 hi hz0 hz1 .i64 .i64 _ _ l.length rfl rfl rfl rfl hb2 hb3 (Nat.le_refl _) ?_; intro w1 hown hgrow)
  obtain ⟨F0, hrow0, -, -, -, -⟩ := rowIs_of_owns hown
  have hbel1 : Below w.heap.size w w1 := (Below.refl _ _).grown hgrow (Nat.le_refl _) (fun k hk => by cases hk)
  obtain ⟨g, hg⟩ : ∃ g, g = w.heap.size := ⟨_, rfl⟩
  rw [← hg] at hrow0 ⊢
  have hgle : w.heap.size ≤ g := by omega
  have HG := Lib.hid hg; clear hg hown hgrow
  go_loopw [4] (fun i wr => ∃ k : Nat, k ≤ l.length ∧ i = .int .i64 k ∧ Below w.heap.size w wr ∧ ∃ F, wr.rowIs g 42 (l.length * 3) F ∧ Hid (NeedsUpto wr g F l k)) (fun i _ => l.length - (intOf i).toNat)
  case atStart => exact ⟨0, by omega, rfl, hbel1, F0, hrow0, fun i hi => by omega⟩
  case round =>
    obtain ⟨k, hk, rfl, hb, F, hrow, HF⟩ := hrel
    clear hrow0
    by_cases hlt : k < l.length
    · obtain ⟨b, o, vv, rfl, ⟨c0, c1, c2⟩, hv⟩ := (hc.keep hb).at hlt
      obtain ⟨a1, m1, rfl⟩ := hv.len
      clear hc
      have hgl := hrow.lt
      go_wp2_with fail
      refine (toNeed_any (needAt l k) _ _ (HSZ.out k hlt) hv).mono ?_
      rintro e w2 ⟨⟨a2, m2, fp, rfl, hso, hge, -⟩, hb2⟩
      have hrow2 := rowIs_keep hrow hb2
      have d0 := hrow2.cell (i := k * 3) (by omega)
      have d1 := hrow2.cell (i := k * 3 + 1) (by omega)
      have d2 := hrow2.cell (i := k * 3 + 2) (by omega)
      have f0 := hrow2.frozen (k * 3)
      have f1 := hrow2.frozen (k * 3 + 1)
      have f2 := hrow2.frozen (k * 3 + 2)
      have hsi : StrsIn w2 (fun b => b ≠ g) (.slice a2 (needAt l k).vals.length m2) (needAt l k).vals := hso.toIn fun b hb' => by have := hge b hb'; omega
      have hsm : ∀ (b : Nat), b ≠ g → ∀ (v0 v1 v2 : Value), (((w2.setCell ⟨g, k * 3, none⟩ v0).setCell ⟨g, k * 3 + 1, none⟩ v1).setCell ⟨g, k * 3 + 2, none⟩ v2).heap[b]? = w2.heap[b]? := fun b hbg v0 v1 v2 => by
        rw [Below.heap_setCell _ _ _ _ hbg, Below.heap_setCell _ _ _ _ hbg, Below.heap_setCell _ _ _ _ hbg]
      have HS := Lib.hid (And.intro hsi (And.intro hsm hrow2)); clear hsi hsm hso hge hrow2
      have hbw := bnext hb hb2
      have HU := Lib.hid (HF.out.same (w' := w2) fun b _ hl => hb2.block b hl)
      clear hb2
      go_wp2
      go_roundw
      case rel =>
        obtain ⟨hsi, hsm, hrow2⟩ := HS.out
        refine ⟨k + 1, by omega, by go_num, ((hbw.setCell (p := ⟨g, k * 3, none⟩) hgle _).setCell (p := ⟨g, k * 3 + 1, none⟩) hgle _).setCell (p := ⟨g, k * 3 + 2, none⟩) hgle _, _, rowIs_set3 hrow2 (k * 3) _ _ _, ?_⟩
        exact (HU.out.put hsi).same fun b hb' _ => hsm b hb' _ _ _
      case measure => simp [intOf]; omega
    · obtain rfl : k = l.length := by omega
      go_wp2
      go_ret
      refine ⟨⟨_, rfl, some ⟨g, 0, none⟩, l.length, rfl, ?_⟩, hb⟩
      by_cases h0 : l = []
      · exact .inl h0
      · refine .inr ⟨g, 0, rfl, fun j hj => ?_⟩
        obtain ⟨vv, h0, h1, h2, h3⟩ := HF.out j hj
        unfold NdCells
        rw [Nat.zero_add]
        refine ⟨vv, ⟨by rw [hrow.cell (by omega), h0], by rw [hrow.cell (by omega), h1], by rw [hrow.cell (by omega), h2]⟩, ?_⟩
        exact h3.same (SameOn.of_below (Below.refl _ _)) fun _ _ _ => trivial

theorem eqNeed_same (n : Nd) (vv vv' : Value) (w : World) (hl : n.vals.length ≤ 1048576) (hv : StrsIn w Any vv n.vals) (hv' : StrsIn w Any vv' n.vals) :
    Calls Try.prog 23 #[.agg #[.string n.key, .int .i64 n.op, vv], .agg #[.string n.key, .int .i64 n.op, vv']] w fun e w' => e = .returned (.bool true) ∧ Below w.heap.size w w' := by
  obtain ⟨a, m, rfl⟩ := hv.len
  obtain ⟨a', m', rfl⟩ := hv'.len
  have hB : Below w.heap.size w ((w.alloc (.cells #[.string n.key, .int .i64 n.op, .slice a n.vals.length m] 42)).alloc (.cells #[.string n.key, .int .i64 n.op, .slice a' n.vals.length m'] 42)) := by repeat (first | exact Below.refl _ _ | (refine Below.alloc ?_ (by first | omega | (simp; done) | (simp; omega)) _) | (refine Below.setCell ?_ (by first | omega | (simp; done) | (simp; omega)) _) | (refine Below.drew ?_) | (refine below_drewN ?_ _))
  have he := selfEqS n.key
  have HV := Lib.hid (And.intro (hv.keep hB) (And.intro (hv'.keep hB) hB)); clear hv hv' hB
  go_enter Try.func23, Try.ntmps23
  go_wp2_with fail
  refine (eqStringS_same n.vals Any Any a a' m m' _ hl HV.out.1 HV.out.2.1).mono ?_
  rintro e w1 ⟨rfl, hb1⟩
  go_wp2
  go_ret
  exact ⟨rfl, bnext HV.out.2.2 hb1⟩

set_option maxHeartbeats 1000000 in
theorem eqNeedS_same (l : List Nd) (a a' : Option Addr) (cap cap' : Nat) (w : World) (hn : l.length ≤ 1048576) (hs : ∀ i, i < l.length → (needAt l i).vals.length ≤ 1048576) (hc : NeedsIn w (.slice a l.length cap) l) (hc' : NeedsIn w (.slice a' l.length cap') l) :
    Calls Try.prog 9 #[.slice a l.length cap, .slice a' l.length cap'] w fun e w' => e = .returned (.bool true) ∧ Below w.heap.size w w' := by
  have HSZ := Lib.hid hs; clear hs
  go_enter Try.func9, Try.ntmps9
  go_wp2
  go_loopw [5] (fun i wr => ∃ k : Nat, k ≤ l.length ∧ i = .int .i64 k ∧ Below w.heap.size w wr) (fun i _ => l.length - (intOf i).toNat)
  case atStart => exact ⟨0, by omega, rfl, Below.refl _ _⟩
  case round =>
    obtain ⟨k, hk, rfl, hb⟩ := hrel
    by_cases hlt : k < l.length
    · obtain ⟨b, o, vv, rfl, ⟨c0, c1, c2⟩, hv⟩ := (hc.keep hb).at hlt
      obtain ⟨b', o', vv', rfl, ⟨d0, d1, d2⟩, hv'⟩ := (hc'.keep hb).at hlt
      obtain ⟨a1, n1, rfl⟩ := hv.len
      obtain ⟨a3, n3, rfl⟩ := hv'.len
      clear hc hc'
      go_wp2_with fail
      go_still_tail 8, (by kernel_rfl)
      change wpList _ _ _ _ _ wr.drew
      go_wp2_with (go_at_call 23; refine (eqNeed_same (needAt l k) _ _ _ (HSZ.out k hlt) (hv.keep (by repeat (first | exact Below.refl _ _ | (refine Below.alloc ?_ (by first | omega | (simp; done) | (simp; omega)) _) | (refine Below.setCell ?_ (by first | omega | (simp; done) | (simp; omega)) _) | (refine Below.drew ?_) | (refine below_drewN ?_ _)))) (hv'.keep (by repeat (first | exact Below.refl _ _ | (refine Below.alloc ?_ (by first | omega | (simp; done) | (simp; omega)) _) | (refine Below.setCell ?_ (by first | omega | (simp; done) | (simp; omega)) _) | (refine Below.drew ?_) | (refine below_drewN ?_ _))))).mono ?_; rintro e w1 ⟨rfl, hb1⟩)
      go_roundw
      case rel => exact ⟨k + 1, by omega, by go_num, bnext hb.drew hb1⟩
      case measure => simp [intOf]; omega
    · obtain rfl : k = l.length := by omega
      go_wp2
      go_ret
      exact ⟨rfl, hb⟩

end Go.Proofs.Ytlfnbldhmkbkmaa
