/- ScalP, ScalS, ScalI, Ind, Bare, ScalL, merged. -/
import Derived.Test.YtclffhejoneiaaaGreatDoorRqR
import Derived.Test.YtclffhejoneiaaaGreatDoorWhoP
import Derived.Test.YtclffhejoneiaaaGreatDoorPlainT
import Derived.Test.YtclffhejoneiaaaGreatDoorTreeI
import Derived.Test.YtclffhejoneiaaaGreatDoorZero
import Derived.Test.YtclffhejoneiaaaGreatDoorWhoU
import Derived.Test.YtclffhejoneiaaaGreatDoorWhoM
import Derived.Test.YtclffhejoneiaaaGreatDoorRqM
import Derived.Test.YtclffhejoneiaaaGreatDoorMem
import Derived.Test.YtclffhejoneiaaaGreatDoorConv
import Derived.Test.YtclffhejoneiaaaGreatDoorRuneP
import Derived.Test.YtclffhejoneiaaaGreatDoorLay
import Derived.Lib.TrimByte
import Derived.Lib.LaidU8
namespace Go.Proofs.YtclffhejoneiaaaGreatDoor
open Go.RowKit

structure Sc where
  kind : Int
  flag : Bool
  num : Int
  text : ByteArray
def noB : ByteArray := ⟨#[]⟩
def scTail (s : ByteArray) : Option Sc := if plainAll s = true then some ⟨4, false, 0, s⟩ else none
def scNum (s : ByteArray) : Option Sc := match whoQ s 0 with
  | none => scTail s
  | some (n, e) => if e = s.size then some ⟨3, false, n, noB⟩ else scTail s
def scQuote (s : ByteArray) : Option Sc := match readQ s 0 with
  | none => none
  | some (l, e) => if e = s.size ∧ l.length ≤ 400 then some ⟨4, false, 0, ⟨l.toArray⟩⟩ else none
def scalO (s : ByteArray) : Option Sc :=
  if (s.toList == [91, 93]) = true then some ⟨5, false, 0, noB⟩
  else if (s.toList == [123, 125]) = true then some ⟨6, false, 0, noB⟩
  else if (s.toList == [110, 117, 108, 108]) = true then some ⟨1, false, 0, noB⟩
  else if (s.toList == [126]) = true then some ⟨1, false, 0, noB⟩
  else if (s.toList == [116, 114, 117, 101]) = true then some ⟨2, true, 0, noB⟩
  else if (s.toList == [102, 97, 108, 115, 101]) = true then some ⟨2, false, 0, noB⟩
  else if 0 < s.size ∧ bt s 0 = 34 then scQuote s
  else scNum s
def scK : Option Sc → Int | none => 0 | some x => x.kind
def scF : Option Sc → Bool | none => false | some x => x.flag
def scN : Option Sc → Int | none => 0 | some x => x.num
def scT : Option Sc → ByteArray | none => noB | some x => x.text
/-- The answer of ReadScalar and Inline. -/
def ScalV (o : Option Sc) (w : World) (e : Ending) (w' : World) : Prop :=
  e = .returned (.tuple #[.agg #[.int .i64 (scK o), .bool (scF o), .int .i64 (scN o), .string (scT o), .slice none 0 0, .slice none 0 0], .bool o.isSome]) ∧ Below w.heap.size w w'
def ScalP (s : ByteArray) (w : World) (e : Ending) (w' : World) : Prop := ScalV (scalO s) w e w'
theorem scalP_none {s : ByteArray} {w w' : World} (h : scalO s = none) (hb : Below w.heap.size w w') :
    ScalP s w (.returned (.tuple #[.agg #[.int .i64 0, .bool false, .int .i64 0, .string ⟨#[]⟩, .slice none 0 0, .slice none 0 0], .bool false])) w' := by
  refine ⟨?_, hb⟩; rw [h]; rfl
theorem scalP_some {s : ByteArray} {w w' : World} {k n : Int} {f : Bool} {t : ByteArray} (h : scalO s = some ⟨k, f, n, t⟩) (hb : Below w.heap.size w w') :
    ScalP s w (.returned (.tuple #[.agg #[.int .i64 k, .bool f, .int .i64 n, .string t, .slice none 0 0, .slice none 0 0], .bool true])) w' := by
  refine ⟨?_, hb⟩; rw [h]; rfl
theorem beqL {s : ByteArray} {l m : List UInt8} (h : (s.toList == l) = true) (hne : l ≠ m) : (s.toList == m) = false := by
  rw [beq_iff_eq] at h
  rw [h]; exact beq_eq_false_iff_ne.2 hne
theorem sc_list {s : ByteArray} (h : (s.toList == [91, 93]) = true) : scalO s = some ⟨5, false, 0, noB⟩ := if_pos h
theorem sc_map {s : ByteArray} (h : (s.toList == [123, 125]) = true) : scalO s = some ⟨6, false, 0, noB⟩ := by
  rw [scalO, beqL h (by decide), h]; rfl
theorem sc_null {s : ByteArray} (h : (s.toList == [110, 117, 108, 108]) = true) : scalO s = some ⟨1, false, 0, noB⟩ := by
  rw [scalO, beqL h (by decide), beqL h (by decide), h]; rfl
theorem sc_tilde {s : ByteArray} (h : (s.toList == [126]) = true) : scalO s = some ⟨1, false, 0, noB⟩ := by
  rw [scalO, beqL h (by decide), beqL h (by decide), beqL h (by decide), h]; rfl
theorem sc_true {s : ByteArray} (h : (s.toList == [116, 114, 117, 101]) = true) : scalO s = some ⟨2, true, 0, noB⟩ := by
  rw [scalO, beqL h (by decide), beqL h (by decide), beqL h (by decide), beqL h (by decide), h]; rfl
theorem sc_false {s : ByteArray} (h : (s.toList == [102, 97, 108, 115, 101]) = true) : scalO s = some ⟨2, false, 0, noB⟩ := by
  rw [scalO, beqL h (by decide), beqL h (by decide), beqL h (by decide), beqL h (by decide), beqL h (by decide), h]; rfl
/-- None of the six words. -/
def noWord (s : ByteArray) : Prop := (s.toList == [91, 93]) = false ∧ (s.toList == [123, 125]) = false ∧ (s.toList == [110, 117, 108, 108]) = false ∧ (s.toList == [126]) = false ∧ (s.toList == [116, 114, 117, 101]) = false ∧ (s.toList == [102, 97, 108, 115, 101]) = false
theorem sc_quote {s : ByteArray} (h : noWord s) (hq : 0 < s.size ∧ bt s 0 = 34) : scalO s = scQuote s := by
  obtain ⟨h1, h2, h3, h4, h5, h6⟩ := h
  rw [scalO, h1, h2, h3, h4, h5, h6, if_pos hq]; rfl
theorem sc_num {s : ByteArray} (h : noWord s) (hq : ¬ (0 < s.size ∧ bt s 0 = 34)) : scalO s = scNum s := by
  obtain ⟨h1, h2, h3, h4, h5, h6⟩ := h
  rw [scalO, h1, h2, h3, h4, h5, h6, if_neg hq]; rfl
theorem sc_q_none {s : ByteArray} (h : noWord s) (hq : 0 < s.size ∧ bt s 0 = 34) (hr : readQ s 0 = none) : scalO s = none := by rw [sc_quote h hq, scQuote, hr]
theorem sc_q_bad {s : ByteArray} {l : List UInt8} {e : Nat} (h : noWord s) (hq : 0 < s.size ∧ bt s 0 = 34) (hr : readQ s 0 = some (l, e)) (hb : ¬ (e = s.size ∧ l.length ≤ 400)) : scalO s = none := by rw [sc_quote h hq, scQuote, hr]; exact if_neg hb
theorem sc_q_yes {s : ByteArray} {l : List UInt8} {e : Nat} (h : noWord s) (hq : 0 < s.size ∧ bt s 0 = 34) (hr : readQ s 0 = some (l, e)) (hb : e = s.size ∧ l.length ≤ 400) : scalO s = some ⟨4, false, 0, ⟨l.toArray⟩⟩ := by rw [sc_quote h hq, scQuote, hr]; exact if_pos hb
theorem sc_n_yes {s : ByteArray} {n : Int} {e : Nat} (h : noWord s) (hq : ¬ (0 < s.size ∧ bt s 0 = 34)) (hr : whoQ s 0 = some (n, e)) (hb : e = s.size) : scalO s = some ⟨3, false, n, noB⟩ := by rw [sc_num h hq, scNum, hr]; exact if_pos hb
theorem sc_n_no {s : ByteArray} (h : noWord s) (hq : ¬ (0 < s.size ∧ bt s 0 = 34)) (hr : whoE (whoQ s 0) ≠ s.size ∨ whoE (whoQ s 0) ≤ 0) : scalO s = scTail s := by
  rw [sc_num h hq, scNum]
  cases hw : whoQ s 0 with
  | none => rfl
  | some x =>
    obtain ⟨n, e⟩ := x
    rw [hw] at hr
    simp only [whoE] at hr
    refine if_neg fun he => ?_
    subst he
    have h0 : 0 < s.size := by
      by_cases h0 : 0 < s.size
      · exact h0
      · rw [who_out (by omega)] at hw; cases hw
    omega
theorem sc_plain {s : ByteArray} (h : scalO s = scTail s) (hp : plainAll s = true) : scalO s = some ⟨4, false, 0, s⟩ := by rw [h, scTail, if_pos hp]
theorem sc_no {s : ByteArray} (h : scalO s = scTail s) (hp : plainAll s = false) : scalO s = none := by rw [h, scTail, hp]; rfl

end Go.Proofs.YtclffhejoneiaaaGreatDoor
namespace Go.Proofs.YtclffhejoneiaaaGreatDoor
open Go.RowKit

set_option maxHeartbeats 1000000 in
set_option maxRecDepth 100000 in
theorem sScal_w0 (s : ByteArray) (w : World) (_hs : s.size ≤ 1048576) (c0 : (s.toList == [91, 93]) = true) : Calls Tryz.prog 6 #[.string s] w (ScalP s w) := by
  have HZ := Lib.hid (ZT.new w)
  have H := Lib.hid (sc_list c0)
  have c1 : (s.toList == [123, 125]) = false := beqL c0 (by decide)
  have c2 : (s.toList == [110, 117, 108, 108]) = false := beqL c0 (by decide)
  have c3 : (s.toList == [126]) = false := beqL c0 (by decide)
  have c4 : (s.toList == [116, 114, 117, 101]) = false := beqL c0 (by decide)
  have c5 : (s.toList == [102, 97, 108, 115, 101]) = false := beqL c0 (by decide)
  go_enter Tryz.func6, Tryz.ntmps6
  go_wp2_with fail
  refine bodyPost_ret (v := .tuple #[.agg #[.int .i64 5, .bool false, .int .i64 0, .string ⟨#[]⟩, .slice none 0 0, .slice none 0 0], .bool true]) (by simp [results, Tryz.results6, go_sem]) rfl ?_
  exact scalP_some H.out ((Below.refl _ _).alloc (Nat.le_refl _) _)

set_option maxHeartbeats 1000000 in
set_option maxRecDepth 100000 in
theorem sScal_w1 (s : ByteArray) (w : World) (_hs : s.size ≤ 1048576) (c1 : (s.toList == [123, 125]) = true) : Calls Tryz.prog 6 #[.string s] w (ScalP s w) := by
  have HZ := Lib.hid (ZT.new w)
  have H := Lib.hid (sc_map c1)
  have c0 : (s.toList == [91, 93]) = false := beqL c1 (by decide)
  have c2 : (s.toList == [110, 117, 108, 108]) = false := beqL c1 (by decide)
  have c3 : (s.toList == [126]) = false := beqL c1 (by decide)
  have c4 : (s.toList == [116, 114, 117, 101]) = false := beqL c1 (by decide)
  have c5 : (s.toList == [102, 97, 108, 115, 101]) = false := beqL c1 (by decide)
  go_enter Tryz.func6, Tryz.ntmps6
  go_wp2_with fail
  refine bodyPost_ret (v := .tuple #[.agg #[.int .i64 6, .bool false, .int .i64 0, .string ⟨#[]⟩, .slice none 0 0, .slice none 0 0], .bool true]) (by simp [results, Tryz.results6, go_sem]) rfl ?_
  exact scalP_some H.out ((Below.refl _ _).alloc (Nat.le_refl _) _)

set_option maxHeartbeats 1000000 in
set_option maxRecDepth 100000 in
theorem sScal_w2 (s : ByteArray) (w : World) (_hs : s.size ≤ 1048576) (c2 : (s.toList == [110, 117, 108, 108]) = true) : Calls Tryz.prog 6 #[.string s] w (ScalP s w) := by
  have HZ := Lib.hid (ZT.new w)
  have H := Lib.hid (sc_null c2)
  have c0 : (s.toList == [91, 93]) = false := beqL c2 (by decide)
  have c1 : (s.toList == [123, 125]) = false := beqL c2 (by decide)
  have c3 : (s.toList == [126]) = false := beqL c2 (by decide)
  have c4 : (s.toList == [116, 114, 117, 101]) = false := beqL c2 (by decide)
  have c5 : (s.toList == [102, 97, 108, 115, 101]) = false := beqL c2 (by decide)
  go_enter Tryz.func6, Tryz.ntmps6
  go_wp2_with fail
  refine bodyPost_ret (v := .tuple #[.agg #[.int .i64 1, .bool false, .int .i64 0, .string ⟨#[]⟩, .slice none 0 0, .slice none 0 0], .bool true]) (by simp [results, Tryz.results6, go_sem]) rfl ?_
  exact scalP_some H.out ((Below.refl _ _).alloc (Nat.le_refl _) _)

set_option maxHeartbeats 1000000 in
set_option maxRecDepth 100000 in
theorem sScal_w3 (s : ByteArray) (w : World) (_hs : s.size ≤ 1048576) (c3 : (s.toList == [126]) = true) : Calls Tryz.prog 6 #[.string s] w (ScalP s w) := by
  have HZ := Lib.hid (ZT.new w)
  have H := Lib.hid (sc_tilde c3)
  have c0 : (s.toList == [91, 93]) = false := beqL c3 (by decide)
  have c1 : (s.toList == [123, 125]) = false := beqL c3 (by decide)
  have c2 : (s.toList == [110, 117, 108, 108]) = false := beqL c3 (by decide)
  have c4 : (s.toList == [116, 114, 117, 101]) = false := beqL c3 (by decide)
  have c5 : (s.toList == [102, 97, 108, 115, 101]) = false := beqL c3 (by decide)
  go_enter Tryz.func6, Tryz.ntmps6
  go_wp2_with fail
  refine bodyPost_ret (v := .tuple #[.agg #[.int .i64 1, .bool false, .int .i64 0, .string ⟨#[]⟩, .slice none 0 0, .slice none 0 0], .bool true]) (by simp [results, Tryz.results6, go_sem]) rfl ?_
  exact scalP_some H.out ((Below.refl _ _).alloc (Nat.le_refl _) _)

set_option maxHeartbeats 1000000 in
set_option maxRecDepth 100000 in
theorem sScal_w4 (s : ByteArray) (w : World) (_hs : s.size ≤ 1048576) (c4 : (s.toList == [116, 114, 117, 101]) = true) : Calls Tryz.prog 6 #[.string s] w (ScalP s w) := by
  have HZ := Lib.hid (ZT.new w)
  have H := Lib.hid (sc_true c4)
  have c0 : (s.toList == [91, 93]) = false := beqL c4 (by decide)
  have c1 : (s.toList == [123, 125]) = false := beqL c4 (by decide)
  have c2 : (s.toList == [110, 117, 108, 108]) = false := beqL c4 (by decide)
  have c3 : (s.toList == [126]) = false := beqL c4 (by decide)
  have c5 : (s.toList == [102, 97, 108, 115, 101]) = false := beqL c4 (by decide)
  go_enter Tryz.func6, Tryz.ntmps6
  go_wp2_with fail
  refine bodyPost_ret (v := .tuple #[.agg #[.int .i64 2, .bool true, .int .i64 0, .string ⟨#[]⟩, .slice none 0 0, .slice none 0 0], .bool true]) (by simp [results, Tryz.results6, go_sem]) rfl ?_
  exact scalP_some H.out ((Below.refl _ _).alloc (Nat.le_refl _) _)

set_option maxHeartbeats 1000000 in
set_option maxRecDepth 100000 in
theorem sScal_w5 (s : ByteArray) (w : World) (_hs : s.size ≤ 1048576) (c5 : (s.toList == [102, 97, 108, 115, 101]) = true) : Calls Tryz.prog 6 #[.string s] w (ScalP s w) := by
  have HZ := Lib.hid (ZT.new w)
  have H := Lib.hid (sc_false c5)
  have c0 : (s.toList == [91, 93]) = false := beqL c5 (by decide)
  have c1 : (s.toList == [123, 125]) = false := beqL c5 (by decide)
  have c2 : (s.toList == [110, 117, 108, 108]) = false := beqL c5 (by decide)
  have c3 : (s.toList == [126]) = false := beqL c5 (by decide)
  have c4 : (s.toList == [116, 114, 117, 101]) = false := beqL c5 (by decide)
  go_enter Tryz.func6, Tryz.ntmps6
  go_wp2_with fail
  refine bodyPost_ret (v := .tuple #[.agg #[.int .i64 2, .bool false, .int .i64 0, .string ⟨#[]⟩, .slice none 0 0, .slice none 0 0], .bool true]) (by simp [results, Tryz.results6, go_sem]) rfl ?_
  exact scalP_some H.out ((Below.refl _ _).alloc (Nat.le_refl _) _)

set_option maxHeartbeats 1000000 in
set_option maxRecDepth 100000 in
theorem sScal_q0 (s : ByteArray) (w : World) (hs : s.size ≤ 1048576) (hnw : noWord s) (hq : 0 < s.size ∧ bt s 0 = 34) (hr : readQ s 0 = none) : Calls Tryz.prog 6 #[.string s] w (ScalP s w) := by
  have HZ := Lib.hid (ZT.new w)
  have HNW := Lib.hid hnw
  obtain ⟨c0, c1, c2, c3, c4, c5⟩ := hnw
  have HQ := Lib.hid hq
  obtain ⟨h0, hb0⟩ := hq
  have e0 : ((s[0].toNat : Int) == 34) = true := by rw [← bt_eq s 0 h0, hb0]; rfl
  have hpos : (0 : Int) < (s.size : Int) := by omega
  clear hb0
  have HR := Lib.hid (fun w0 => sReadQuoted s 0 w0 hs)
  have H := Lib.hid (sc_q_none HNW.out HQ.out hr)
  rw [hr] at HR
  simp only [qText, qEnd] at HR
  have n0 : ((-1 : Int) != (s.size : Int)) = true := by
    have : ((-1 : Int) == (s.size : Int)) = false := by rw [beq_eq_false_iff_ne]; omega
    rw [bne, this]; rfl
  have n1 : ((-1 : Int) == (s.size : Int)) = false := by rw [beq_eq_false_iff_ne]; omega
  clear hr
  go_enter Tryz.func6, Tryz.ntmps6
  go_wp2_with fail
  refine (HR.out _).mono ?_; rintro e w1 ⟨rfl, hb1⟩
  have HZ := Lib.hid (HZ.out.keep hb1); clear hb1
  obtain ⟨r0, r1, r2, r3, r4, r5⟩ := HZ.out.cells
  obtain ⟨g0, g1, g2, g3, g4, g5⟩ := HZ.out.frozen
  go_wp2_with fail
  refine bodyPost_ret (v := .tuple #[.agg #[.int .i64 0, .bool false, .int .i64 0, .string ⟨#[]⟩, .slice none 0 0, .slice none 0 0], .bool false]) (by simp [results, Tryz.results6, go_sem, HZ.out.cells]) rfl ?_
  exact scalP_none H.out ((((((HZ.out.2.setCell (p := ⟨w.heap.size, 0, none⟩) (Nat.le_refl _) _).setCell (p := ⟨w.heap.size, 1, none⟩) (Nat.le_refl _) _).setCell (p := ⟨w.heap.size, 2, none⟩) (Nat.le_refl _) _).setCell (p := ⟨w.heap.size, 3, none⟩) (Nat.le_refl _) _).setCell (p := ⟨w.heap.size, 4, none⟩) (Nat.le_refl _) _).setCell (p := ⟨w.heap.size, 5, none⟩) (Nat.le_refl _) _)

set_option maxHeartbeats 1000000 in
set_option maxRecDepth 100000 in
theorem sScal_q1 (s : ByteArray) (w : World) (hs : s.size ≤ 1048576) (hnw : noWord s) (hq : 0 < s.size ∧ bt s 0 = 34) (l : List UInt8) (e : Nat) (hr : readQ s 0 = some (l, e)) (he : ¬ e = s.size) : Calls Tryz.prog 6 #[.string s] w (ScalP s w) := by
  have HZ := Lib.hid (ZT.new w)
  have HNW := Lib.hid hnw
  obtain ⟨c0, c1, c2, c3, c4, c5⟩ := hnw
  have HQ := Lib.hid hq
  obtain ⟨h0, hb0⟩ := hq
  have e0 : ((s[0].toNat : Int) == 34) = true := by rw [← bt_eq s 0 h0, hb0]; rfl
  have hpos : (0 : Int) < (s.size : Int) := by omega
  clear hb0
  have HR := Lib.hid (fun w0 => sReadQuoted s 0 w0 hs)
  have H := Lib.hid (sc_q_bad HNW.out HQ.out hr (fun h => he h.1))
  rw [hr] at HR
  simp only [qText, qEnd] at HR
  obtain ⟨key, hkey⟩ : ∃ key : ByteArray, key = ⟨l.toArray⟩ := ⟨_, rfl⟩
  have hks : key.size = l.length := by rw [hkey]; show l.toArray.size = _; simp
  rw [← hkey] at HR
  have n1 : ((e : Int) == (s.size : Int)) = false := by rw [beq_eq_false_iff_ne]; omega
  have n0 : ((e : Int) != (s.size : Int)) = true := by rw [bne, n1]; rfl
  clear hr hkey hks he
  go_enter Tryz.func6, Tryz.ntmps6
  go_wp2_with fail
  refine (HR.out _).mono ?_; rintro e w1 ⟨rfl, hb1⟩
  have HZ := Lib.hid (HZ.out.keep hb1); clear hb1
  obtain ⟨r0, r1, r2, r3, r4, r5⟩ := HZ.out.cells
  obtain ⟨g0, g1, g2, g3, g4, g5⟩ := HZ.out.frozen
  go_wp2_with fail
  refine bodyPost_ret (v := .tuple #[.agg #[.int .i64 0, .bool false, .int .i64 0, .string ⟨#[]⟩, .slice none 0 0, .slice none 0 0], .bool false]) (by simp [results, Tryz.results6, go_sem, HZ.out.cells]) rfl ?_
  exact scalP_none H.out ((((((HZ.out.2.setCell (p := ⟨w.heap.size, 0, none⟩) (Nat.le_refl _) _).setCell (p := ⟨w.heap.size, 1, none⟩) (Nat.le_refl _) _).setCell (p := ⟨w.heap.size, 2, none⟩) (Nat.le_refl _) _).setCell (p := ⟨w.heap.size, 3, none⟩) (Nat.le_refl _) _).setCell (p := ⟨w.heap.size, 4, none⟩) (Nat.le_refl _) _).setCell (p := ⟨w.heap.size, 5, none⟩) (Nat.le_refl _) _)

set_option maxHeartbeats 1000000 in
set_option maxRecDepth 100000 in
theorem sScal_q2 (s : ByteArray) (w : World) (hs : s.size ≤ 1048576) (hnw : noWord s) (hq : 0 < s.size ∧ bt s 0 = 34) (l : List UInt8) (e : Nat) (hr : readQ s 0 = some (l, e)) (he : e = s.size) (hk : l.length ≤ 400) : Calls Tryz.prog 6 #[.string s] w (ScalP s w) := by
  have HZ := Lib.hid (ZT.new w)
  have HNW := Lib.hid hnw
  obtain ⟨c0, c1, c2, c3, c4, c5⟩ := hnw
  have HQ := Lib.hid hq
  obtain ⟨h0, hb0⟩ := hq
  have e0 : ((s[0].toNat : Int) == 34) = true := by rw [← bt_eq s 0 h0, hb0]; rfl
  have hpos : (0 : Int) < (s.size : Int) := by omega
  clear hb0
  have HR := Lib.hid (fun w0 => sReadQuoted s 0 w0 hs)
  have H := Lib.hid (sc_q_yes HNW.out HQ.out hr ⟨he, hk⟩)
  rw [hr] at HR
  simp only [qText, qEnd] at HR
  obtain ⟨key, hkey⟩ : ∃ key : ByteArray, key = ⟨l.toArray⟩ := ⟨_, rfl⟩
  have hks : key.size = l.length := by rw [hkey]; show l.toArray.size = _; simp
  rw [← hkey] at HR H
  have n1 : ((e : Int) == (s.size : Int)) = true := by rw [he]; simp
  have n0 : ((e : Int) != (s.size : Int)) = false := by rw [bne, n1]; rfl
  have n2 : decide (400 < key.size) = false := decide_eq_false (by omega)
  have n3 : decide ((400 : Int) < (key.size : Int)) = false := decide_eq_false (by omega)
  clear hr hkey hks he hk
  go_enter Tryz.func6, Tryz.ntmps6
  go_wp2_with fail
  refine (HR.out _).mono ?_; rintro e w1 ⟨rfl, hb1⟩
  have HZ := Lib.hid (HZ.out.keep hb1); clear hb1
  go_wp2_with fail
  refine (sTextTree _ _).mono ?_; rintro e w1 ⟨rfl, hb1⟩
  have HZ := Lib.hid (HZ.out.keep hb1); clear hb1
  obtain ⟨r0, r1, r2, r3, r4, r5⟩ := HZ.out.cells
  obtain ⟨g0, g1, g2, g3, g4, g5⟩ := HZ.out.frozen
  go_wp2_with fail
  refine bodyPost_ret (v := .tuple #[.agg #[.int .i64 4, .bool false, .int .i64 0, .string key, .slice none 0 0, .slice none 0 0], .bool true]) (by simp [results, Tryz.results6, go_sem, HZ.out.cells]) rfl ?_
  exact scalP_some H.out ((((((HZ.out.2.setCell (p := ⟨w.heap.size, 0, none⟩) (Nat.le_refl _) _).setCell (p := ⟨w.heap.size, 1, none⟩) (Nat.le_refl _) _).setCell (p := ⟨w.heap.size, 2, none⟩) (Nat.le_refl _) _).setCell (p := ⟨w.heap.size, 3, none⟩) (Nat.le_refl _) _).setCell (p := ⟨w.heap.size, 4, none⟩) (Nat.le_refl _) _).setCell (p := ⟨w.heap.size, 5, none⟩) (Nat.le_refl _) _)

set_option maxHeartbeats 1000000 in
set_option maxRecDepth 100000 in
theorem sScal_q3 (s : ByteArray) (w : World) (hs : s.size ≤ 1048576) (hnw : noWord s) (hq : 0 < s.size ∧ bt s 0 = 34) (l : List UInt8) (e : Nat) (hr : readQ s 0 = some (l, e)) (he : e = s.size) (hk : ¬ l.length ≤ 400) : Calls Tryz.prog 6 #[.string s] w (ScalP s w) := by
  have HZ := Lib.hid (ZT.new w)
  have HNW := Lib.hid hnw
  obtain ⟨c0, c1, c2, c3, c4, c5⟩ := hnw
  have HQ := Lib.hid hq
  obtain ⟨h0, hb0⟩ := hq
  have e0 : ((s[0].toNat : Int) == 34) = true := by rw [← bt_eq s 0 h0, hb0]; rfl
  have hpos : (0 : Int) < (s.size : Int) := by omega
  clear hb0
  have HR := Lib.hid (fun w0 => sReadQuoted s 0 w0 hs)
  have H := Lib.hid (sc_q_bad HNW.out HQ.out hr (fun h => hk h.2))
  rw [hr] at HR
  simp only [qText, qEnd] at HR
  obtain ⟨key, hkey⟩ : ∃ key : ByteArray, key = ⟨l.toArray⟩ := ⟨_, rfl⟩
  have hks : key.size = l.length := by rw [hkey]; show l.toArray.size = _; simp
  rw [← hkey] at HR
  have n1 : ((e : Int) == (s.size : Int)) = true := by rw [he]; simp
  have n0 : ((e : Int) != (s.size : Int)) = false := by rw [bne, n1]; rfl
  have n2 : decide (400 < key.size) = true := decide_eq_true (by omega)
  have n3 : decide ((400 : Int) < (key.size : Int)) = true := decide_eq_true (by omega)
  clear hr hkey hks he hk
  go_enter Tryz.func6, Tryz.ntmps6
  go_wp2_with fail
  refine (HR.out _).mono ?_; rintro e w1 ⟨rfl, hb1⟩
  have HZ := Lib.hid (HZ.out.keep hb1); clear hb1
  obtain ⟨r0, r1, r2, r3, r4, r5⟩ := HZ.out.cells
  obtain ⟨g0, g1, g2, g3, g4, g5⟩ := HZ.out.frozen
  go_wp2_with fail
  refine bodyPost_ret (v := .tuple #[.agg #[.int .i64 0, .bool false, .int .i64 0, .string ⟨#[]⟩, .slice none 0 0, .slice none 0 0], .bool false]) (by simp [results, Tryz.results6, go_sem, HZ.out.cells]) rfl ?_
  exact scalP_none H.out ((((((HZ.out.2.setCell (p := ⟨w.heap.size, 0, none⟩) (Nat.le_refl _) _).setCell (p := ⟨w.heap.size, 1, none⟩) (Nat.le_refl _) _).setCell (p := ⟨w.heap.size, 2, none⟩) (Nat.le_refl _) _).setCell (p := ⟨w.heap.size, 3, none⟩) (Nat.le_refl _) _).setCell (p := ⟨w.heap.size, 4, none⟩) (Nat.le_refl _) _).setCell (p := ⟨w.heap.size, 5, none⟩) (Nat.le_refl _) _)

set_option maxHeartbeats 1000000 in
set_option maxRecDepth 100000 in
theorem sScal_n1 (s : ByteArray) (w : World) (hs : s.size ≤ 1048576) (hnw : noWord s) (hq : ¬ (0 < s.size ∧ bt s 0 = 34)) (n : Int) (e : Nat) (hr : whoQ s 0 = some (n, e)) (he : e = s.size) (hp : 0 < e) : Calls Tryz.prog 6 #[.string s] w (ScalP s w) := by
  have HZ := Lib.hid (ZT.new w)
  have HNW := Lib.hid hnw
  obtain ⟨c0, c1, c2, c3, c4, c5⟩ := hnw
  have HQ := Lib.hid hq; clear hq
  have HW := Lib.hid (fun w0 => sReadWhole s 0 w0 hs)
  have H := Lib.hid (sc_n_yes HNW.out HQ.out hr he)
  rw [hr] at HW
  simp only [whoE, whoN] at HW
  have n1 : ((e : Int) == (s.size : Int)) = true := by rw [he]; simp
  have n2 : decide ((0 : Int) < (e : Int)) = true := decide_eq_true (by omega)
  have n3 : decide (0 < e) = true := decide_eq_true hp
  have h0 : 0 < s.size := by omega
  have e0 : ((s[0].toNat : Int) == 34) = false := by
    rw [beq_eq_false_iff_ne]; intro h; exact HQ.out ⟨h0, by rw [bt_eq s 0 h0]; omega⟩
  have hpos : (0 : Int) < (s.size : Int) := by omega
  clear hr he hp
  go_enter Tryz.func6, Tryz.ntmps6
  go_wp2_with fail
  refine (HW.out _).mono ?_; rintro e w1 ⟨rfl, hb1⟩
  have HZ := Lib.hid (HZ.out.keep hb1); clear hb1
  go_wp2_with fail
  refine (sIntTree _ _).mono ?_; rintro e w1 ⟨rfl, hb1⟩
  have HZ := Lib.hid (HZ.out.keep hb1); clear hb1
  obtain ⟨r0, r1, r2, r3, r4, r5⟩ := HZ.out.cells
  obtain ⟨g0, g1, g2, g3, g4, g5⟩ := HZ.out.frozen
  go_wp2_with fail
  refine bodyPost_ret (v := .tuple #[.agg #[.int .i64 3, .bool false, .int .i64 n, .string ⟨#[]⟩, .slice none 0 0, .slice none 0 0], .bool true]) (by simp [results, Tryz.results6, go_sem, HZ.out.cells]) rfl ?_
  exact scalP_some H.out ((((((HZ.out.2.setCell (p := ⟨w.heap.size, 0, none⟩) (Nat.le_refl _) _).setCell (p := ⟨w.heap.size, 1, none⟩) (Nat.le_refl _) _).setCell (p := ⟨w.heap.size, 2, none⟩) (Nat.le_refl _) _).setCell (p := ⟨w.heap.size, 3, none⟩) (Nat.le_refl _) _).setCell (p := ⟨w.heap.size, 4, none⟩) (Nat.le_refl _) _).setCell (p := ⟨w.heap.size, 5, none⟩) (Nat.le_refl _) _)

set_option maxHeartbeats 1000000 in
set_option maxRecDepth 100000 in
theorem sScal_p1a (s : ByteArray) (w : World) (hs : s.size ≤ 1048576) (hnw : noWord s) (hq : ¬ (0 < s.size ∧ bt s 0 = 34)) (hw : whoE (whoQ s 0) ≠ s.size ∨ whoE (whoQ s 0) ≤ 0) (hp : plainAll s = true) (h0 : 0 < s.size) : Calls Tryz.prog 6 #[.string s] w (ScalP s w) := by
  have HZ := Lib.hid (ZT.new w)
  have HNW := Lib.hid hnw
  obtain ⟨c0, c1, c2, c3, c4, c5⟩ := hnw
  have HQ := Lib.hid hq; clear hq
  have HW := Lib.hid (fun w0 => sReadWhole s 0 w0 hs)
  have H := Lib.hid (sc_plain (sc_n_no HNW.out HQ.out hw) hp)
  generalize whoE (whoQ s 0) = E at HW hw
  generalize whoN (whoQ s 0) = n at HW
  have hfx : ((E == (s.size : Int)) = true ∧ decide (0 < E) = false) ∨ (E == (s.size : Int)) = false := by
    by_cases g : E = s.size
    · left; exact ⟨by rw [g]; simp, decide_eq_false (by omega)⟩
    · right; rw [beq_eq_false_iff_ne]; exact g
  clear hw
  have hpl := fun w0 => sPlainAll s w0 hs
  rw [hp] at hpl
  have HPL := Lib.hid hpl; clear hpl hp
  have e0 : ((s[0].toNat : Int) == 34) = false := by
    rw [beq_eq_false_iff_ne]; intro h; exact HQ.out ⟨h0, by rw [bt_eq s 0 h0]; omega⟩
  have hpos : (0 : Int) < (s.size : Int) := by omega
  rcases hfx with ⟨f1, f2⟩ | f1
  all_goals
    go_enter Tryz.func6, Tryz.ntmps6
    go_wp2_with fail
    refine (HW.out _).mono ?_; rintro e w1 ⟨rfl, hb1⟩
    have HZ := Lib.hid (HZ.out.keep hb1); clear hb1
    go_wp2_with fail
    refine (HPL.out _).mono ?_; rintro e w1 ⟨rfl, hb1⟩
    have HZ := Lib.hid (HZ.out.keep hb1); clear hb1
    go_wp2_with fail
    refine (sTextTree _ _).mono ?_; rintro e w1 ⟨rfl, hb1⟩
    have HZ := Lib.hid (HZ.out.keep hb1); clear hb1
    obtain ⟨r0, r1, r2, r3, r4, r5⟩ := HZ.out.cells
    obtain ⟨g0, g1, g2, g3, g4, g5⟩ := HZ.out.frozen
    go_wp2_with fail
    refine bodyPost_ret (v := .tuple #[.agg #[.int .i64 4, .bool false, .int .i64 0, .string s, .slice none 0 0, .slice none 0 0], .bool true]) (by simp [results, Tryz.results6, go_sem, HZ.out.cells]) rfl ?_
    exact scalP_some H.out ((((((HZ.out.2.setCell (p := ⟨w.heap.size, 0, none⟩) (Nat.le_refl _) _).setCell (p := ⟨w.heap.size, 1, none⟩) (Nat.le_refl _) _).setCell (p := ⟨w.heap.size, 2, none⟩) (Nat.le_refl _) _).setCell (p := ⟨w.heap.size, 3, none⟩) (Nat.le_refl _) _).setCell (p := ⟨w.heap.size, 4, none⟩) (Nat.le_refl _) _).setCell (p := ⟨w.heap.size, 5, none⟩) (Nat.le_refl _) _)

set_option maxHeartbeats 1000000 in
set_option maxRecDepth 100000 in
theorem sScal_p1b (s : ByteArray) (w : World) (hs : s.size ≤ 1048576) (hnw : noWord s) (hq : ¬ (0 < s.size ∧ bt s 0 = 34)) (hw : whoE (whoQ s 0) ≠ s.size ∨ whoE (whoQ s 0) ≤ 0) (hp : plainAll s = true) (hz : s.size = 0) : Calls Tryz.prog 6 #[.string s] w (ScalP s w) := by
  have HZ := Lib.hid (ZT.new w)
  have HNW := Lib.hid hnw
  obtain ⟨c0, c1, c2, c3, c4, c5⟩ := hnw
  have HQ := Lib.hid hq; clear hq
  have HW := Lib.hid (fun w0 => sReadWhole s 0 w0 hs)
  have H := Lib.hid (sc_plain (sc_n_no HNW.out HQ.out hw) hp)
  generalize whoE (whoQ s 0) = E at HW hw
  generalize whoN (whoQ s 0) = n at HW
  have hfx : ((E == (s.size : Int)) = true ∧ decide (0 < E) = false) ∨ (E == (s.size : Int)) = false := by
    by_cases g : E = s.size
    · left; exact ⟨by rw [g]; simp, decide_eq_false (by omega)⟩
    · right; rw [beq_eq_false_iff_ne]; exact g
  clear hw
  have hpl := fun w0 => sPlainAll s w0 hs
  rw [hp] at hpl
  have HPL := Lib.hid hpl; clear hpl hp
  have hpos : decide ((0 : Int) < (s.size : Int)) = false := decide_eq_false (by omega)
  have hpos2 : decide (0 < s.size) = false := decide_eq_false (by omega)
  have HZ0 := Lib.hid hz
  clear hz
  rcases hfx with ⟨f1, f2⟩ | f1
  all_goals
    go_enter Tryz.func6, Tryz.ntmps6
    go_wp2_with fail
    refine (HW.out _).mono ?_; rintro e w1 ⟨rfl, hb1⟩
    have HZ := Lib.hid (HZ.out.keep hb1); clear hb1
    go_wp2_with fail
    refine (HPL.out _).mono ?_; rintro e w1 ⟨rfl, hb1⟩
    have HZ := Lib.hid (HZ.out.keep hb1); clear hb1
    go_wp2_with fail
    refine (sTextTree _ _).mono ?_; rintro e w1 ⟨rfl, hb1⟩
    have HZ := Lib.hid (HZ.out.keep hb1); clear hb1
    obtain ⟨r0, r1, r2, r3, r4, r5⟩ := HZ.out.cells
    obtain ⟨g0, g1, g2, g3, g4, g5⟩ := HZ.out.frozen
    go_wp2_with fail
    refine bodyPost_ret (v := .tuple #[.agg #[.int .i64 4, .bool false, .int .i64 0, .string s, .slice none 0 0, .slice none 0 0], .bool true]) (by simp [results, Tryz.results6, go_sem, HZ.out.cells]) rfl ?_
    exact scalP_some H.out ((((((HZ.out.2.setCell (p := ⟨w.heap.size, 0, none⟩) (Nat.le_refl _) _).setCell (p := ⟨w.heap.size, 1, none⟩) (Nat.le_refl _) _).setCell (p := ⟨w.heap.size, 2, none⟩) (Nat.le_refl _) _).setCell (p := ⟨w.heap.size, 3, none⟩) (Nat.le_refl _) _).setCell (p := ⟨w.heap.size, 4, none⟩) (Nat.le_refl _) _).setCell (p := ⟨w.heap.size, 5, none⟩) (Nat.le_refl _) _)

set_option maxHeartbeats 1000000 in
set_option maxRecDepth 100000 in
theorem sScal_p0a (s : ByteArray) (w : World) (hs : s.size ≤ 1048576) (hnw : noWord s) (hq : ¬ (0 < s.size ∧ bt s 0 = 34)) (hw : whoE (whoQ s 0) ≠ s.size ∨ whoE (whoQ s 0) ≤ 0) (hp : plainAll s = false) (h0 : 0 < s.size) : Calls Tryz.prog 6 #[.string s] w (ScalP s w) := by
  have HZ := Lib.hid (ZT.new w)
  have HNW := Lib.hid hnw
  obtain ⟨c0, c1, c2, c3, c4, c5⟩ := hnw
  have HQ := Lib.hid hq; clear hq
  have HW := Lib.hid (fun w0 => sReadWhole s 0 w0 hs)
  have H := Lib.hid (sc_no (sc_n_no HNW.out HQ.out hw) hp)
  generalize whoE (whoQ s 0) = E at HW hw
  generalize whoN (whoQ s 0) = n at HW
  have hfx : ((E == (s.size : Int)) = true ∧ decide (0 < E) = false) ∨ (E == (s.size : Int)) = false := by
    by_cases g : E = s.size
    · left; exact ⟨by rw [g]; simp, decide_eq_false (by omega)⟩
    · right; rw [beq_eq_false_iff_ne]; exact g
  clear hw
  have hpl := fun w0 => sPlainAll s w0 hs
  rw [hp] at hpl
  have HPL := Lib.hid hpl; clear hpl hp
  have e0 : ((s[0].toNat : Int) == 34) = false := by
    rw [beq_eq_false_iff_ne]; intro h; exact HQ.out ⟨h0, by rw [bt_eq s 0 h0]; omega⟩
  have hpos : (0 : Int) < (s.size : Int) := by omega
  rcases hfx with ⟨f1, f2⟩ | f1
  all_goals
    go_enter Tryz.func6, Tryz.ntmps6
    go_wp2_with fail
    refine (HW.out _).mono ?_; rintro e w1 ⟨rfl, hb1⟩
    have HZ := Lib.hid (HZ.out.keep hb1); clear hb1
    go_wp2_with fail
    refine (HPL.out _).mono ?_; rintro e w1 ⟨rfl, hb1⟩
    have HZ := Lib.hid (HZ.out.keep hb1); clear hb1
    obtain ⟨r0, r1, r2, r3, r4, r5⟩ := HZ.out.cells
    obtain ⟨g0, g1, g2, g3, g4, g5⟩ := HZ.out.frozen
    go_wp2_with fail
    refine bodyPost_ret (v := .tuple #[.agg #[.int .i64 0, .bool false, .int .i64 0, .string ⟨#[]⟩, .slice none 0 0, .slice none 0 0], .bool false]) (by simp [results, Tryz.results6, go_sem, HZ.out.cells]) rfl ?_
    exact scalP_none H.out ((((((HZ.out.2.setCell (p := ⟨w.heap.size, 0, none⟩) (Nat.le_refl _) _).setCell (p := ⟨w.heap.size, 1, none⟩) (Nat.le_refl _) _).setCell (p := ⟨w.heap.size, 2, none⟩) (Nat.le_refl _) _).setCell (p := ⟨w.heap.size, 3, none⟩) (Nat.le_refl _) _).setCell (p := ⟨w.heap.size, 4, none⟩) (Nat.le_refl _) _).setCell (p := ⟨w.heap.size, 5, none⟩) (Nat.le_refl _) _)

set_option maxHeartbeats 1000000 in
set_option maxRecDepth 100000 in
theorem sScal_p0b (s : ByteArray) (w : World) (hs : s.size ≤ 1048576) (hnw : noWord s) (hq : ¬ (0 < s.size ∧ bt s 0 = 34)) (hw : whoE (whoQ s 0) ≠ s.size ∨ whoE (whoQ s 0) ≤ 0) (hp : plainAll s = false) (hz : s.size = 0) : Calls Tryz.prog 6 #[.string s] w (ScalP s w) := by
  have HZ := Lib.hid (ZT.new w)
  have HNW := Lib.hid hnw
  obtain ⟨c0, c1, c2, c3, c4, c5⟩ := hnw
  have HQ := Lib.hid hq; clear hq
  have HW := Lib.hid (fun w0 => sReadWhole s 0 w0 hs)
  have H := Lib.hid (sc_no (sc_n_no HNW.out HQ.out hw) hp)
  generalize whoE (whoQ s 0) = E at HW hw
  generalize whoN (whoQ s 0) = n at HW
  have hfx : ((E == (s.size : Int)) = true ∧ decide (0 < E) = false) ∨ (E == (s.size : Int)) = false := by
    by_cases g : E = s.size
    · left; exact ⟨by rw [g]; simp, decide_eq_false (by omega)⟩
    · right; rw [beq_eq_false_iff_ne]; exact g
  clear hw
  have hpl := fun w0 => sPlainAll s w0 hs
  rw [hp] at hpl
  have HPL := Lib.hid hpl; clear hpl hp
  have hpos : decide ((0 : Int) < (s.size : Int)) = false := decide_eq_false (by omega)
  have hpos2 : decide (0 < s.size) = false := decide_eq_false (by omega)
  have HZ0 := Lib.hid hz
  clear hz
  rcases hfx with ⟨f1, f2⟩ | f1
  all_goals
    go_enter Tryz.func6, Tryz.ntmps6
    go_wp2_with fail
    refine (HW.out _).mono ?_; rintro e w1 ⟨rfl, hb1⟩
    have HZ := Lib.hid (HZ.out.keep hb1); clear hb1
    go_wp2_with fail
    refine (HPL.out _).mono ?_; rintro e w1 ⟨rfl, hb1⟩
    have HZ := Lib.hid (HZ.out.keep hb1); clear hb1
    obtain ⟨r0, r1, r2, r3, r4, r5⟩ := HZ.out.cells
    obtain ⟨g0, g1, g2, g3, g4, g5⟩ := HZ.out.frozen
    go_wp2_with fail
    refine bodyPost_ret (v := .tuple #[.agg #[.int .i64 0, .bool false, .int .i64 0, .string ⟨#[]⟩, .slice none 0 0, .slice none 0 0], .bool false]) (by simp [results, Tryz.results6, go_sem, HZ.out.cells]) rfl ?_
    exact scalP_none H.out ((((((HZ.out.2.setCell (p := ⟨w.heap.size, 0, none⟩) (Nat.le_refl _) _).setCell (p := ⟨w.heap.size, 1, none⟩) (Nat.le_refl _) _).setCell (p := ⟨w.heap.size, 2, none⟩) (Nat.le_refl _) _).setCell (p := ⟨w.heap.size, 3, none⟩) (Nat.le_refl _) _).setCell (p := ⟨w.heap.size, 4, none⟩) (Nat.le_refl _) _).setCell (p := ⟨w.heap.size, 5, none⟩) (Nat.le_refl _) _)

theorem sReadScalar (s : ByteArray) (w : World) (hs : s.size ≤ 1048576) : Calls Tryz.prog 6 #[.string s] w (ScalP s w) := by
  cases c0 : (s.toList == [91, 93])
  rotate_left
  · exact sScal_w0 s w hs c0
  cases c1 : (s.toList == [123, 125])
  rotate_left
  · exact sScal_w1 s w hs c1
  cases c2 : (s.toList == [110, 117, 108, 108])
  rotate_left
  · exact sScal_w2 s w hs c2
  cases c3 : (s.toList == [126])
  rotate_left
  · exact sScal_w3 s w hs c3
  cases c4 : (s.toList == [116, 114, 117, 101])
  rotate_left
  · exact sScal_w4 s w hs c4
  cases c5 : (s.toList == [102, 97, 108, 115, 101])
  rotate_left
  · exact sScal_w5 s w hs c5
  have hnw : noWord s := ⟨c0, c1, c2, c3, c4, c5⟩
  by_cases hq : 0 < s.size ∧ bt s 0 = 34
  · cases hr : readQ s 0 with
    | none => exact sScal_q0 s w hs hnw hq hr
    | some x =>
      obtain ⟨l, e⟩ := x
      by_cases he : e = s.size
      · by_cases hk : l.length ≤ 400
        · exact sScal_q2 s w hs hnw hq l e hr he hk
        · exact sScal_q3 s w hs hnw hq l e hr he hk
      · exact sScal_q1 s w hs hnw hq l e hr he
  by_cases hw : whoE (whoQ s 0) = s.size ∧ 0 < whoE (whoQ s 0)
  · cases hr : whoQ s 0 with
    | none => rw [hr] at hw; simp only [whoE] at hw; omega
    | some x =>
      obtain ⟨n, e⟩ := x
      rw [hr] at hw
      simp only [whoE] at hw
      exact sScal_n1 s w hs hnw hq n e hr (by omega) (by omega)
  have hw2 : whoE (whoQ s 0) ≠ s.size ∨ whoE (whoQ s 0) ≤ 0 := by omega
  by_cases h0 : 0 < s.size
  · cases hp : plainAll s
    · exact sScal_p0a s w hs hnw hq hw2 hp h0
    · exact sScal_p1a s w hs hnw hq hw2 hp h0
  · cases hp : plainAll s
    · exact sScal_p0b s w hs hnw hq hw2 hp (by omega)
    · exact sScal_p1b s w hs hnw hq hw2 hp (by omega)

end Go.Proofs.YtclffhejoneiaaaGreatDoor
namespace Go.Proofs.YtclffhejoneiaaaGreatDoor
open Go.RowKit

theorem pre_quote (s : ByteArray) : Lib.hasPrefix s.data.toList [34] = decide (0 < s.size ∧ bt s 0 = 34) := by
  have hlen : s.data.toList.length = s.size := by simp
  by_cases h : 0 < s.size
  · have hb := bt_eq s 0 h
    have hc : ∃ r, s.data.toList = s[0] :: r := by
      have h2 : 0 < s.data.toList.length := by omega
      exact ⟨s.data.toList.drop 1, (List.drop_eq_getElem_cons h2 : s.data.toList.drop 0 = _)⟩
    obtain ⟨r, hr⟩ := hc
    rw [hr]
    by_cases hq : s[0] = 34
    · have : bt s 0 = 34 := by rw [hb, hq]; rfl
      rw [hq, decide_eq_true ⟨h, this⟩]; rfl
    · have : bt s 0 ≠ 34 := fun e => hq (UInt8.toNat_inj.1 (by rw [← hb, e]; rfl))
      rw [decide_eq_false (fun hh => this hh.2)]
      show ((34 : UInt8) == s[0] && _) = false
      rw [beq_eq_false_iff_ne.2 (Ne.symm hq)]; rfl
  · have hz : s.data.toList = [] := List.eq_nil_of_length_eq_zero (by omega)
    rw [hz, decide_eq_false (fun hh => h hh.1)]; rfl
set_option maxHeartbeats 2000000 in
set_option maxRecDepth 100000 in
theorem iScal_w0 (s : ByteArray) (w : World) (_hs : s.size ≤ 1048576) (_hT : Tabs w) (_hV : Cases w) (_hE : Errs w) (c0 : (s.toList == [91, 93]) = true) : Calls Tryz.prog 7 #[.string s] w (ScalP s w) := by
  have HZ := Lib.hid (ZT.new w)
  have H := Lib.hid (sc_list c0)
  have c1 : (s.toList == [123, 125]) = false := beqL c0 (by decide)
  have c2 : (s.toList == [110, 117, 108, 108]) = false := beqL c0 (by decide)
  have c3 : (s.toList == [126]) = false := beqL c0 (by decide)
  have c4 : (s.toList == [116, 114, 117, 101]) = false := beqL c0 (by decide)
  have c5 : (s.toList == [102, 97, 108, 115, 101]) = false := beqL c0 (by decide)
  go_enter Tryz.func7, Tryz.ntmps7
  go_wp2_with (go_at_call 20; refine (HP.out _).mono ?_; rintro e w' ⟨rfl, rfl⟩)
  refine bodyPost_ret (v := .tuple #[.agg #[.int .i64 5, .bool false, .int .i64 0, .string ⟨#[]⟩, .slice none 0 0, .slice none 0 0], .bool true]) (by simp [results, Tryz.results7, go_sem]) rfl ?_
  exact scalP_some H.out ((Below.refl _ _).alloc (Nat.le_refl _) _)

set_option maxHeartbeats 2000000 in
set_option maxRecDepth 100000 in
theorem iScal_w1 (s : ByteArray) (w : World) (_hs : s.size ≤ 1048576) (_hT : Tabs w) (_hV : Cases w) (_hE : Errs w) (c1 : (s.toList == [123, 125]) = true) : Calls Tryz.prog 7 #[.string s] w (ScalP s w) := by
  have HZ := Lib.hid (ZT.new w)
  have H := Lib.hid (sc_map c1)
  have c0 : (s.toList == [91, 93]) = false := beqL c1 (by decide)
  have c2 : (s.toList == [110, 117, 108, 108]) = false := beqL c1 (by decide)
  have c3 : (s.toList == [126]) = false := beqL c1 (by decide)
  have c4 : (s.toList == [116, 114, 117, 101]) = false := beqL c1 (by decide)
  have c5 : (s.toList == [102, 97, 108, 115, 101]) = false := beqL c1 (by decide)
  go_enter Tryz.func7, Tryz.ntmps7
  go_wp2_with (go_at_call 20; refine (HP.out _).mono ?_; rintro e w' ⟨rfl, rfl⟩)
  refine bodyPost_ret (v := .tuple #[.agg #[.int .i64 6, .bool false, .int .i64 0, .string ⟨#[]⟩, .slice none 0 0, .slice none 0 0], .bool true]) (by simp [results, Tryz.results7, go_sem]) rfl ?_
  exact scalP_some H.out ((Below.refl _ _).alloc (Nat.le_refl _) _)

set_option maxHeartbeats 2000000 in
set_option maxRecDepth 100000 in
theorem iScal_w2 (s : ByteArray) (w : World) (_hs : s.size ≤ 1048576) (_hT : Tabs w) (_hV : Cases w) (_hE : Errs w) (c2 : (s.toList == [110, 117, 108, 108]) = true) : Calls Tryz.prog 7 #[.string s] w (ScalP s w) := by
  have HZ := Lib.hid (ZT.new w)
  have H := Lib.hid (sc_null c2)
  have c0 : (s.toList == [91, 93]) = false := beqL c2 (by decide)
  have c1 : (s.toList == [123, 125]) = false := beqL c2 (by decide)
  have c3 : (s.toList == [126]) = false := beqL c2 (by decide)
  have c4 : (s.toList == [116, 114, 117, 101]) = false := beqL c2 (by decide)
  have c5 : (s.toList == [102, 97, 108, 115, 101]) = false := beqL c2 (by decide)
  go_enter Tryz.func7, Tryz.ntmps7
  go_wp2_with (go_at_call 20; refine (HP.out _).mono ?_; rintro e w' ⟨rfl, rfl⟩)
  refine bodyPost_ret (v := .tuple #[.agg #[.int .i64 1, .bool false, .int .i64 0, .string ⟨#[]⟩, .slice none 0 0, .slice none 0 0], .bool true]) (by simp [results, Tryz.results7, go_sem]) rfl ?_
  exact scalP_some H.out ((Below.refl _ _).alloc (Nat.le_refl _) _)

set_option maxHeartbeats 2000000 in
set_option maxRecDepth 100000 in
theorem iScal_w3 (s : ByteArray) (w : World) (_hs : s.size ≤ 1048576) (_hT : Tabs w) (_hV : Cases w) (_hE : Errs w) (c3 : (s.toList == [126]) = true) : Calls Tryz.prog 7 #[.string s] w (ScalP s w) := by
  have HZ := Lib.hid (ZT.new w)
  have H := Lib.hid (sc_tilde c3)
  have c0 : (s.toList == [91, 93]) = false := beqL c3 (by decide)
  have c1 : (s.toList == [123, 125]) = false := beqL c3 (by decide)
  have c2 : (s.toList == [110, 117, 108, 108]) = false := beqL c3 (by decide)
  have c4 : (s.toList == [116, 114, 117, 101]) = false := beqL c3 (by decide)
  have c5 : (s.toList == [102, 97, 108, 115, 101]) = false := beqL c3 (by decide)
  go_enter Tryz.func7, Tryz.ntmps7
  go_wp2_with (go_at_call 20; refine (HP.out _).mono ?_; rintro e w' ⟨rfl, rfl⟩)
  refine bodyPost_ret (v := .tuple #[.agg #[.int .i64 1, .bool false, .int .i64 0, .string ⟨#[]⟩, .slice none 0 0, .slice none 0 0], .bool true]) (by simp [results, Tryz.results7, go_sem]) rfl ?_
  exact scalP_some H.out ((Below.refl _ _).alloc (Nat.le_refl _) _)

set_option maxHeartbeats 2000000 in
set_option maxRecDepth 100000 in
theorem iScal_w4 (s : ByteArray) (w : World) (_hs : s.size ≤ 1048576) (_hT : Tabs w) (_hV : Cases w) (_hE : Errs w) (c4 : (s.toList == [116, 114, 117, 101]) = true) : Calls Tryz.prog 7 #[.string s] w (ScalP s w) := by
  have HZ := Lib.hid (ZT.new w)
  have H := Lib.hid (sc_true c4)
  have c0 : (s.toList == [91, 93]) = false := beqL c4 (by decide)
  have c1 : (s.toList == [123, 125]) = false := beqL c4 (by decide)
  have c2 : (s.toList == [110, 117, 108, 108]) = false := beqL c4 (by decide)
  have c3 : (s.toList == [126]) = false := beqL c4 (by decide)
  have c5 : (s.toList == [102, 97, 108, 115, 101]) = false := beqL c4 (by decide)
  go_enter Tryz.func7, Tryz.ntmps7
  go_wp2_with (go_at_call 20; refine (HP.out _).mono ?_; rintro e w' ⟨rfl, rfl⟩)
  refine bodyPost_ret (v := .tuple #[.agg #[.int .i64 2, .bool true, .int .i64 0, .string ⟨#[]⟩, .slice none 0 0, .slice none 0 0], .bool true]) (by simp [results, Tryz.results7, go_sem]) rfl ?_
  exact scalP_some H.out ((Below.refl _ _).alloc (Nat.le_refl _) _)

set_option maxHeartbeats 2000000 in
set_option maxRecDepth 100000 in
theorem iScal_w5 (s : ByteArray) (w : World) (_hs : s.size ≤ 1048576) (_hT : Tabs w) (_hV : Cases w) (_hE : Errs w) (c5 : (s.toList == [102, 97, 108, 115, 101]) = true) : Calls Tryz.prog 7 #[.string s] w (ScalP s w) := by
  have HZ := Lib.hid (ZT.new w)
  have H := Lib.hid (sc_false c5)
  have c0 : (s.toList == [91, 93]) = false := beqL c5 (by decide)
  have c1 : (s.toList == [123, 125]) = false := beqL c5 (by decide)
  have c2 : (s.toList == [110, 117, 108, 108]) = false := beqL c5 (by decide)
  have c3 : (s.toList == [126]) = false := beqL c5 (by decide)
  have c4 : (s.toList == [116, 114, 117, 101]) = false := beqL c5 (by decide)
  go_enter Tryz.func7, Tryz.ntmps7
  go_wp2_with (go_at_call 20; refine (HP.out _).mono ?_; rintro e w' ⟨rfl, rfl⟩)
  refine bodyPost_ret (v := .tuple #[.agg #[.int .i64 2, .bool false, .int .i64 0, .string ⟨#[]⟩, .slice none 0 0, .slice none 0 0], .bool true]) (by simp [results, Tryz.results7, go_sem]) rfl ?_
  exact scalP_some H.out ((Below.refl _ _).alloc (Nat.le_refl _) _)

set_option maxHeartbeats 2000000 in
set_option maxRecDepth 100000 in
theorem iScal_q0 (s : ByteArray) (w : World) (hs : s.size ≤ 1048576) (hT : Tabs w) (hV : Cases w) (hE : Errs w) (hnw : noWord s) (hq : 0 < s.size ∧ bt s 0 = 34) (hr : readQ s 0 = none) : Calls Tryz.prog 7 #[.string s] w (ScalP s w) := by
  have HX := Lib.hid (And.intro hT (And.intro hV hE)); clear hT hV hE
  have HZ := Lib.hid (ZT.new w)
  have HNW := Lib.hid hnw
  obtain ⟨c0, c1, c2, c3, c4, c5⟩ := hnw
  have HQ := Lib.hid hq; clear hq
  have HP := Lib.hid (fun w0 => (show Calls Tryz.prog 20 #[.string s, .string ⟨#[34]⟩] w0 fun e w' => e = .returned (.bool true) ∧ w0 = w' by
    have h := Tryz.strings_HasPrefix s ⟨#[34]⟩ w0
    refine h.mono fun e w' ⟨h1, h2⟩ => ⟨?_, h2.symm⟩
    rw [h1]
    have := pre_quote s
    rw [decide_eq_true HQ.out] at this
    exact congrArg (fun b => Ending.returned (.bool b)) this))
  have HR := Lib.hid (fun w0 hT hV => iReadQuoted s 0 w0 hs hT hV)
  have H := Lib.hid (sc_q_none HNW.out HQ.out hr)
  rw [hr] at HR
  simp only [qText, qEnd] at HR
  have n0 : ((-1 : Int) != (s.size : Int)) = true := by
    have : ((-1 : Int) == (s.size : Int)) = false := by rw [beq_eq_false_iff_ne]; omega
    rw [bne, this]; rfl
  have n1 : ((-1 : Int) == (s.size : Int)) = false := by rw [beq_eq_false_iff_ne]; omega
  clear hr
  go_enter Tryz.func7, Tryz.ntmps7
  go_wp2_with (go_at_call 20; refine (HP.out _).mono ?_; rintro e w' ⟨rfl, rfl⟩)
  refine (HR.out _ (tabs_keep HX.out.1 HZ.out.2) (cases_keep HX.out.2.1 HZ.out.2)).mono ?_; rintro e w1 ⟨rfl, hb1⟩
  have HZ := Lib.hid (HZ.out.keep hb1); clear hb1
  obtain ⟨r0, r1, r2, r3, r4, r5⟩ := HZ.out.cells
  obtain ⟨g0, g1, g2, g3, g4, g5⟩ := HZ.out.frozen
  go_wp2_with (go_at_call 20; refine (HP.out _).mono ?_; rintro e w' ⟨rfl, rfl⟩)
  refine bodyPost_ret (v := .tuple #[.agg #[.int .i64 0, .bool false, .int .i64 0, .string ⟨#[]⟩, .slice none 0 0, .slice none 0 0], .bool false]) (by simp [results, Tryz.results7, go_sem, HZ.out.cells]) rfl ?_
  exact scalP_none H.out ((((((HZ.out.2.setCell (p := ⟨w.heap.size, 0, none⟩) (Nat.le_refl _) _).setCell (p := ⟨w.heap.size, 1, none⟩) (Nat.le_refl _) _).setCell (p := ⟨w.heap.size, 2, none⟩) (Nat.le_refl _) _).setCell (p := ⟨w.heap.size, 3, none⟩) (Nat.le_refl _) _).setCell (p := ⟨w.heap.size, 4, none⟩) (Nat.le_refl _) _).setCell (p := ⟨w.heap.size, 5, none⟩) (Nat.le_refl _) _)

set_option maxHeartbeats 2000000 in
set_option maxRecDepth 100000 in
theorem iScal_q1 (s : ByteArray) (w : World) (hs : s.size ≤ 1048576) (hT : Tabs w) (hV : Cases w) (hE : Errs w) (hnw : noWord s) (hq : 0 < s.size ∧ bt s 0 = 34) (l : List UInt8) (e : Nat) (hr : readQ s 0 = some (l, e)) (he : ¬ e = s.size) : Calls Tryz.prog 7 #[.string s] w (ScalP s w) := by
  have HX := Lib.hid (And.intro hT (And.intro hV hE)); clear hT hV hE
  have HZ := Lib.hid (ZT.new w)
  have HNW := Lib.hid hnw
  obtain ⟨c0, c1, c2, c3, c4, c5⟩ := hnw
  have HQ := Lib.hid hq; clear hq
  have HP := Lib.hid (fun w0 => (show Calls Tryz.prog 20 #[.string s, .string ⟨#[34]⟩] w0 fun e w' => e = .returned (.bool true) ∧ w0 = w' by
    have h := Tryz.strings_HasPrefix s ⟨#[34]⟩ w0
    refine h.mono fun e w' ⟨h1, h2⟩ => ⟨?_, h2.symm⟩
    rw [h1]
    have := pre_quote s
    rw [decide_eq_true HQ.out] at this
    exact congrArg (fun b => Ending.returned (.bool b)) this))
  have HR := Lib.hid (fun w0 hT hV => iReadQuoted s 0 w0 hs hT hV)
  have H := Lib.hid (sc_q_bad HNW.out HQ.out hr (fun h => he h.1))
  rw [hr] at HR
  simp only [qText, qEnd] at HR
  obtain ⟨key, hkey⟩ : ∃ key : ByteArray, key = ⟨l.toArray⟩ := ⟨_, rfl⟩
  have hks : key.size = l.length := by rw [hkey]; show l.toArray.size = _; simp
  rw [← hkey] at HR
  have n1 : ((e : Int) == (s.size : Int)) = false := by rw [beq_eq_false_iff_ne]; omega
  have n0 : ((e : Int) != (s.size : Int)) = true := by rw [bne, n1]; rfl
  clear hr hkey hks he
  go_enter Tryz.func7, Tryz.ntmps7
  go_wp2_with (go_at_call 20; refine (HP.out _).mono ?_; rintro e w' ⟨rfl, rfl⟩)
  refine (HR.out _ (tabs_keep HX.out.1 HZ.out.2) (cases_keep HX.out.2.1 HZ.out.2)).mono ?_; rintro e w1 ⟨rfl, hb1⟩
  have HZ := Lib.hid (HZ.out.keep hb1); clear hb1
  obtain ⟨r0, r1, r2, r3, r4, r5⟩ := HZ.out.cells
  obtain ⟨g0, g1, g2, g3, g4, g5⟩ := HZ.out.frozen
  go_wp2_with (go_at_call 20; refine (HP.out _).mono ?_; rintro e w' ⟨rfl, rfl⟩)
  refine bodyPost_ret (v := .tuple #[.agg #[.int .i64 0, .bool false, .int .i64 0, .string ⟨#[]⟩, .slice none 0 0, .slice none 0 0], .bool false]) (by simp [results, Tryz.results7, go_sem, HZ.out.cells]) rfl ?_
  exact scalP_none H.out ((((((HZ.out.2.setCell (p := ⟨w.heap.size, 0, none⟩) (Nat.le_refl _) _).setCell (p := ⟨w.heap.size, 1, none⟩) (Nat.le_refl _) _).setCell (p := ⟨w.heap.size, 2, none⟩) (Nat.le_refl _) _).setCell (p := ⟨w.heap.size, 3, none⟩) (Nat.le_refl _) _).setCell (p := ⟨w.heap.size, 4, none⟩) (Nat.le_refl _) _).setCell (p := ⟨w.heap.size, 5, none⟩) (Nat.le_refl _) _)

set_option maxHeartbeats 2000000 in
set_option maxRecDepth 100000 in
theorem iScal_q2 (s : ByteArray) (w : World) (hs : s.size ≤ 1048576) (hT : Tabs w) (hV : Cases w) (hE : Errs w) (hnw : noWord s) (hq : 0 < s.size ∧ bt s 0 = 34) (l : List UInt8) (e : Nat) (hr : readQ s 0 = some (l, e)) (he : e = s.size) (hk : l.length ≤ 400) : Calls Tryz.prog 7 #[.string s] w (ScalP s w) := by
  have HX := Lib.hid (And.intro hT (And.intro hV hE)); clear hT hV hE
  have HZ := Lib.hid (ZT.new w)
  have HNW := Lib.hid hnw
  obtain ⟨c0, c1, c2, c3, c4, c5⟩ := hnw
  have HQ := Lib.hid hq; clear hq
  have HP := Lib.hid (fun w0 => (show Calls Tryz.prog 20 #[.string s, .string ⟨#[34]⟩] w0 fun e w' => e = .returned (.bool true) ∧ w0 = w' by
    have h := Tryz.strings_HasPrefix s ⟨#[34]⟩ w0
    refine h.mono fun e w' ⟨h1, h2⟩ => ⟨?_, h2.symm⟩
    rw [h1]
    have := pre_quote s
    rw [decide_eq_true HQ.out] at this
    exact congrArg (fun b => Ending.returned (.bool b)) this))
  have HR := Lib.hid (fun w0 hT hV => iReadQuoted s 0 w0 hs hT hV)
  have H := Lib.hid (sc_q_yes HNW.out HQ.out hr ⟨he, hk⟩)
  rw [hr] at HR
  simp only [qText, qEnd] at HR
  obtain ⟨key, hkey⟩ : ∃ key : ByteArray, key = ⟨l.toArray⟩ := ⟨_, rfl⟩
  have hks : key.size = l.length := by rw [hkey]; show l.toArray.size = _; simp
  rw [← hkey] at HR H
  have n1 : ((e : Int) == (s.size : Int)) = true := by rw [he]; simp
  have n0 : ((e : Int) != (s.size : Int)) = false := by rw [bne, n1]; rfl
  have n2 : decide (400 < key.size) = false := decide_eq_false (by omega)
  have n3 : decide ((400 : Int) < (key.size : Int)) = false := decide_eq_false (by omega)
  clear hr hkey hks he hk
  go_enter Tryz.func7, Tryz.ntmps7
  go_wp2_with (go_at_call 20; refine (HP.out _).mono ?_; rintro e w' ⟨rfl, rfl⟩)
  refine (HR.out _ (tabs_keep HX.out.1 HZ.out.2) (cases_keep HX.out.2.1 HZ.out.2)).mono ?_; rintro e w1 ⟨rfl, hb1⟩
  have HZ := Lib.hid (HZ.out.keep hb1); clear hb1
  go_wp2_with (go_at_call 20; refine (HP.out _).mono ?_; rintro e w' ⟨rfl, rfl⟩)
  refine (iTextTree _ _).mono ?_; rintro e w1 ⟨rfl, hb1⟩
  have HZ := Lib.hid (HZ.out.keep hb1); clear hb1
  obtain ⟨r0, r1, r2, r3, r4, r5⟩ := HZ.out.cells
  obtain ⟨g0, g1, g2, g3, g4, g5⟩ := HZ.out.frozen
  go_wp2_with (go_at_call 20; refine (HP.out _).mono ?_; rintro e w' ⟨rfl, rfl⟩)
  refine bodyPost_ret (v := .tuple #[.agg #[.int .i64 4, .bool false, .int .i64 0, .string key, .slice none 0 0, .slice none 0 0], .bool true]) (by simp [results, Tryz.results7, go_sem, HZ.out.cells]) rfl ?_
  exact scalP_some H.out ((((((HZ.out.2.setCell (p := ⟨w.heap.size, 0, none⟩) (Nat.le_refl _) _).setCell (p := ⟨w.heap.size, 1, none⟩) (Nat.le_refl _) _).setCell (p := ⟨w.heap.size, 2, none⟩) (Nat.le_refl _) _).setCell (p := ⟨w.heap.size, 3, none⟩) (Nat.le_refl _) _).setCell (p := ⟨w.heap.size, 4, none⟩) (Nat.le_refl _) _).setCell (p := ⟨w.heap.size, 5, none⟩) (Nat.le_refl _) _)

set_option maxHeartbeats 2000000 in
set_option maxRecDepth 100000 in
theorem iScal_q3 (s : ByteArray) (w : World) (hs : s.size ≤ 1048576) (hT : Tabs w) (hV : Cases w) (hE : Errs w) (hnw : noWord s) (hq : 0 < s.size ∧ bt s 0 = 34) (l : List UInt8) (e : Nat) (hr : readQ s 0 = some (l, e)) (he : e = s.size) (hk : ¬ l.length ≤ 400) : Calls Tryz.prog 7 #[.string s] w (ScalP s w) := by
  have HX := Lib.hid (And.intro hT (And.intro hV hE)); clear hT hV hE
  have HZ := Lib.hid (ZT.new w)
  have HNW := Lib.hid hnw
  obtain ⟨c0, c1, c2, c3, c4, c5⟩ := hnw
  have HQ := Lib.hid hq; clear hq
  have HP := Lib.hid (fun w0 => (show Calls Tryz.prog 20 #[.string s, .string ⟨#[34]⟩] w0 fun e w' => e = .returned (.bool true) ∧ w0 = w' by
    have h := Tryz.strings_HasPrefix s ⟨#[34]⟩ w0
    refine h.mono fun e w' ⟨h1, h2⟩ => ⟨?_, h2.symm⟩
    rw [h1]
    have := pre_quote s
    rw [decide_eq_true HQ.out] at this
    exact congrArg (fun b => Ending.returned (.bool b)) this))
  have HR := Lib.hid (fun w0 hT hV => iReadQuoted s 0 w0 hs hT hV)
  have H := Lib.hid (sc_q_bad HNW.out HQ.out hr (fun h => hk h.2))
  rw [hr] at HR
  simp only [qText, qEnd] at HR
  obtain ⟨key, hkey⟩ : ∃ key : ByteArray, key = ⟨l.toArray⟩ := ⟨_, rfl⟩
  have hks : key.size = l.length := by rw [hkey]; show l.toArray.size = _; simp
  rw [← hkey] at HR
  have n1 : ((e : Int) == (s.size : Int)) = true := by rw [he]; simp
  have n0 : ((e : Int) != (s.size : Int)) = false := by rw [bne, n1]; rfl
  have n2 : decide (400 < key.size) = true := decide_eq_true (by omega)
  have n3 : decide ((400 : Int) < (key.size : Int)) = true := decide_eq_true (by omega)
  clear hr hkey hks he hk
  go_enter Tryz.func7, Tryz.ntmps7
  go_wp2_with (go_at_call 20; refine (HP.out _).mono ?_; rintro e w' ⟨rfl, rfl⟩)
  refine (HR.out _ (tabs_keep HX.out.1 HZ.out.2) (cases_keep HX.out.2.1 HZ.out.2)).mono ?_; rintro e w1 ⟨rfl, hb1⟩
  have HZ := Lib.hid (HZ.out.keep hb1); clear hb1
  obtain ⟨r0, r1, r2, r3, r4, r5⟩ := HZ.out.cells
  obtain ⟨g0, g1, g2, g3, g4, g5⟩ := HZ.out.frozen
  go_wp2_with (go_at_call 20; refine (HP.out _).mono ?_; rintro e w' ⟨rfl, rfl⟩)
  refine bodyPost_ret (v := .tuple #[.agg #[.int .i64 0, .bool false, .int .i64 0, .string ⟨#[]⟩, .slice none 0 0, .slice none 0 0], .bool false]) (by simp [results, Tryz.results7, go_sem, HZ.out.cells]) rfl ?_
  exact scalP_none H.out ((((((HZ.out.2.setCell (p := ⟨w.heap.size, 0, none⟩) (Nat.le_refl _) _).setCell (p := ⟨w.heap.size, 1, none⟩) (Nat.le_refl _) _).setCell (p := ⟨w.heap.size, 2, none⟩) (Nat.le_refl _) _).setCell (p := ⟨w.heap.size, 3, none⟩) (Nat.le_refl _) _).setCell (p := ⟨w.heap.size, 4, none⟩) (Nat.le_refl _) _).setCell (p := ⟨w.heap.size, 5, none⟩) (Nat.le_refl _) _)

set_option maxHeartbeats 2000000 in
set_option maxRecDepth 100000 in
theorem iScal_n1 (s : ByteArray) (w : World) (hs : s.size ≤ 1048576) (hT : Tabs w) (hV : Cases w) (hE : Errs w) (hnw : noWord s) (hq : ¬ (0 < s.size ∧ bt s 0 = 34)) (n : Int) (e : Nat) (hr : whoQ s 0 = some (n, e)) (he : e = s.size) (hp : 0 < e) : Calls Tryz.prog 7 #[.string s] w (ScalP s w) := by
  have HX := Lib.hid (And.intro hT (And.intro hV hE)); clear hT hV hE
  have HZ := Lib.hid (ZT.new w)
  have HNW := Lib.hid hnw
  obtain ⟨c0, c1, c2, c3, c4, c5⟩ := hnw
  have HQ := Lib.hid hq; clear hq
  have HP := Lib.hid (fun w0 => (show Calls Tryz.prog 20 #[.string s, .string ⟨#[34]⟩] w0 fun e w' => e = .returned (.bool false) ∧ w0 = w' by
    have h := Tryz.strings_HasPrefix s ⟨#[34]⟩ w0
    refine h.mono fun e w' ⟨h1, h2⟩ => ⟨?_, h2.symm⟩
    rw [h1]
    have := pre_quote s
    rw [decide_eq_false HQ.out] at this
    exact congrArg (fun b => Ending.returned (.bool b)) this))
  have HW := Lib.hid (fun w0 hE => iReadWhole s 0 w0 hs hE)
  have H := Lib.hid (sc_n_yes HNW.out HQ.out hr he)
  rw [hr] at HW
  simp only [whoE, whoN] at HW
  have n1 : ((e : Int) == (s.size : Int)) = true := by rw [he]; simp
  have n2 : decide ((0 : Int) < (e : Int)) = true := decide_eq_true (by omega)
  have n3 : decide (0 < e) = true := decide_eq_true hp
  clear hr he hp
  go_enter Tryz.func7, Tryz.ntmps7
  go_wp2_with (go_at_call 20; refine (HP.out _).mono ?_; rintro e w' ⟨rfl, rfl⟩)
  refine (HW.out _ (errs_keep HX.out.2.2 HZ.out.2)).mono ?_; rintro e w1 ⟨rfl, hb1⟩
  have HZ := Lib.hid (HZ.out.keep hb1); clear hb1
  go_wp2_with (go_at_call 20; refine (HP.out _).mono ?_; rintro e w' ⟨rfl, rfl⟩)
  refine (iIntTree _ _).mono ?_; rintro e w1 ⟨rfl, hb1⟩
  have HZ := Lib.hid (HZ.out.keep hb1); clear hb1
  obtain ⟨r0, r1, r2, r3, r4, r5⟩ := HZ.out.cells
  obtain ⟨g0, g1, g2, g3, g4, g5⟩ := HZ.out.frozen
  go_wp2_with (go_at_call 20; refine (HP.out _).mono ?_; rintro e w' ⟨rfl, rfl⟩)
  refine bodyPost_ret (v := .tuple #[.agg #[.int .i64 3, .bool false, .int .i64 n, .string ⟨#[]⟩, .slice none 0 0, .slice none 0 0], .bool true]) (by simp [results, Tryz.results7, go_sem, HZ.out.cells]) rfl ?_
  exact scalP_some H.out ((((((HZ.out.2.setCell (p := ⟨w.heap.size, 0, none⟩) (Nat.le_refl _) _).setCell (p := ⟨w.heap.size, 1, none⟩) (Nat.le_refl _) _).setCell (p := ⟨w.heap.size, 2, none⟩) (Nat.le_refl _) _).setCell (p := ⟨w.heap.size, 3, none⟩) (Nat.le_refl _) _).setCell (p := ⟨w.heap.size, 4, none⟩) (Nat.le_refl _) _).setCell (p := ⟨w.heap.size, 5, none⟩) (Nat.le_refl _) _)

set_option maxHeartbeats 2000000 in
set_option maxRecDepth 100000 in
theorem iScal_p1 (s : ByteArray) (w : World) (hs : s.size ≤ 1048576) (hT : Tabs w) (hV : Cases w) (hE : Errs w) (hnw : noWord s) (hq : ¬ (0 < s.size ∧ bt s 0 = 34)) (hw : whoE (whoQ s 0) ≠ s.size ∨ whoE (whoQ s 0) ≤ 0) (hp : plainAll s = true) : Calls Tryz.prog 7 #[.string s] w (ScalP s w) := by
  have HX := Lib.hid (And.intro hT (And.intro hV hE)); clear hT hV hE
  have HZ := Lib.hid (ZT.new w)
  have HNW := Lib.hid hnw
  obtain ⟨c0, c1, c2, c3, c4, c5⟩ := hnw
  have HQ := Lib.hid hq; clear hq
  have HP := Lib.hid (fun w0 => (show Calls Tryz.prog 20 #[.string s, .string ⟨#[34]⟩] w0 fun e w' => e = .returned (.bool false) ∧ w0 = w' by
    have h := Tryz.strings_HasPrefix s ⟨#[34]⟩ w0
    refine h.mono fun e w' ⟨h1, h2⟩ => ⟨?_, h2.symm⟩
    rw [h1]
    have := pre_quote s
    rw [decide_eq_false HQ.out] at this
    exact congrArg (fun b => Ending.returned (.bool b)) this))
  have HW := Lib.hid (fun w0 hE => iReadWhole s 0 w0 hs hE)
  have H := Lib.hid (sc_plain (sc_n_no HNW.out HQ.out hw) hp)
  generalize whoE (whoQ s 0) = E at HW hw
  generalize whoN (whoQ s 0) = n at HW
  have hfx : ((E == (s.size : Int)) = true ∧ decide (0 < E) = false) ∨ (E == (s.size : Int)) = false := by
    by_cases g : E = s.size
    · left; exact ⟨by rw [g]; simp, decide_eq_false (by omega)⟩
    · right; rw [beq_eq_false_iff_ne]; exact g
  clear hw
  have hpl := fun w0 hT => iPlainAll s w0 hs hT
  rw [hp] at hpl
  have HPL := Lib.hid hpl; clear hpl hp
  rcases hfx with ⟨f1, f2⟩ | f1
  all_goals
    go_enter Tryz.func7, Tryz.ntmps7
    go_wp2_with (go_at_call 20; refine (HP.out _).mono ?_; rintro e w' ⟨rfl, rfl⟩)
    refine (HW.out _ (errs_keep HX.out.2.2 HZ.out.2)).mono ?_; rintro e w1 ⟨rfl, hb1⟩
    have HZ := Lib.hid (HZ.out.keep hb1); clear hb1
    go_wp2_with (go_at_call 20; refine (HP.out _).mono ?_; rintro e w' ⟨rfl, rfl⟩)
    refine (HPL.out _ (tabs_keep HX.out.1 HZ.out.2)).mono ?_; rintro e w1 ⟨rfl, hb1⟩
    have HZ := Lib.hid (HZ.out.keep hb1); clear hb1
    go_wp2_with (go_at_call 20; refine (HP.out _).mono ?_; rintro e w' ⟨rfl, rfl⟩)
    refine (iTextTree _ _).mono ?_; rintro e w1 ⟨rfl, hb1⟩
    have HZ := Lib.hid (HZ.out.keep hb1); clear hb1
    obtain ⟨r0, r1, r2, r3, r4, r5⟩ := HZ.out.cells
    obtain ⟨g0, g1, g2, g3, g4, g5⟩ := HZ.out.frozen
    go_wp2_with (go_at_call 20; refine (HP.out _).mono ?_; rintro e w' ⟨rfl, rfl⟩)
    refine bodyPost_ret (v := .tuple #[.agg #[.int .i64 4, .bool false, .int .i64 0, .string s, .slice none 0 0, .slice none 0 0], .bool true]) (by simp [results, Tryz.results7, go_sem, HZ.out.cells]) rfl ?_
    exact scalP_some H.out ((((((HZ.out.2.setCell (p := ⟨w.heap.size, 0, none⟩) (Nat.le_refl _) _).setCell (p := ⟨w.heap.size, 1, none⟩) (Nat.le_refl _) _).setCell (p := ⟨w.heap.size, 2, none⟩) (Nat.le_refl _) _).setCell (p := ⟨w.heap.size, 3, none⟩) (Nat.le_refl _) _).setCell (p := ⟨w.heap.size, 4, none⟩) (Nat.le_refl _) _).setCell (p := ⟨w.heap.size, 5, none⟩) (Nat.le_refl _) _)

set_option maxHeartbeats 2000000 in
set_option maxRecDepth 100000 in
theorem iScal_p0 (s : ByteArray) (w : World) (hs : s.size ≤ 1048576) (hT : Tabs w) (hV : Cases w) (hE : Errs w) (hnw : noWord s) (hq : ¬ (0 < s.size ∧ bt s 0 = 34)) (hw : whoE (whoQ s 0) ≠ s.size ∨ whoE (whoQ s 0) ≤ 0) (hp : plainAll s = false) : Calls Tryz.prog 7 #[.string s] w (ScalP s w) := by
  have HX := Lib.hid (And.intro hT (And.intro hV hE)); clear hT hV hE
  have HZ := Lib.hid (ZT.new w)
  have HNW := Lib.hid hnw
  obtain ⟨c0, c1, c2, c3, c4, c5⟩ := hnw
  have HQ := Lib.hid hq; clear hq
  have HP := Lib.hid (fun w0 => (show Calls Tryz.prog 20 #[.string s, .string ⟨#[34]⟩] w0 fun e w' => e = .returned (.bool false) ∧ w0 = w' by
    have h := Tryz.strings_HasPrefix s ⟨#[34]⟩ w0
    refine h.mono fun e w' ⟨h1, h2⟩ => ⟨?_, h2.symm⟩
    rw [h1]
    have := pre_quote s
    rw [decide_eq_false HQ.out] at this
    exact congrArg (fun b => Ending.returned (.bool b)) this))
  have HW := Lib.hid (fun w0 hE => iReadWhole s 0 w0 hs hE)
  have H := Lib.hid (sc_no (sc_n_no HNW.out HQ.out hw) hp)
  generalize whoE (whoQ s 0) = E at HW hw
  generalize whoN (whoQ s 0) = n at HW
  have hfx : ((E == (s.size : Int)) = true ∧ decide (0 < E) = false) ∨ (E == (s.size : Int)) = false := by
    by_cases g : E = s.size
    · left; exact ⟨by rw [g]; simp, decide_eq_false (by omega)⟩
    · right; rw [beq_eq_false_iff_ne]; exact g
  clear hw
  have hpl := fun w0 hT => iPlainAll s w0 hs hT
  rw [hp] at hpl
  have HPL := Lib.hid hpl; clear hpl hp
  rcases hfx with ⟨f1, f2⟩ | f1
  all_goals
    go_enter Tryz.func7, Tryz.ntmps7
    go_wp2_with (go_at_call 20; refine (HP.out _).mono ?_; rintro e w' ⟨rfl, rfl⟩)
    refine (HW.out _ (errs_keep HX.out.2.2 HZ.out.2)).mono ?_; rintro e w1 ⟨rfl, hb1⟩
    have HZ := Lib.hid (HZ.out.keep hb1); clear hb1
    go_wp2_with (go_at_call 20; refine (HP.out _).mono ?_; rintro e w' ⟨rfl, rfl⟩)
    refine (HPL.out _ (tabs_keep HX.out.1 HZ.out.2)).mono ?_; rintro e w1 ⟨rfl, hb1⟩
    have HZ := Lib.hid (HZ.out.keep hb1); clear hb1
    obtain ⟨r0, r1, r2, r3, r4, r5⟩ := HZ.out.cells
    obtain ⟨g0, g1, g2, g3, g4, g5⟩ := HZ.out.frozen
    go_wp2_with (go_at_call 20; refine (HP.out _).mono ?_; rintro e w' ⟨rfl, rfl⟩)
    refine bodyPost_ret (v := .tuple #[.agg #[.int .i64 0, .bool false, .int .i64 0, .string ⟨#[]⟩, .slice none 0 0, .slice none 0 0], .bool false]) (by simp [results, Tryz.results7, go_sem, HZ.out.cells]) rfl ?_
    exact scalP_none H.out ((((((HZ.out.2.setCell (p := ⟨w.heap.size, 0, none⟩) (Nat.le_refl _) _).setCell (p := ⟨w.heap.size, 1, none⟩) (Nat.le_refl _) _).setCell (p := ⟨w.heap.size, 2, none⟩) (Nat.le_refl _) _).setCell (p := ⟨w.heap.size, 3, none⟩) (Nat.le_refl _) _).setCell (p := ⟨w.heap.size, 4, none⟩) (Nat.le_refl _) _).setCell (p := ⟨w.heap.size, 5, none⟩) (Nat.le_refl _) _)

theorem iReadScalar (s : ByteArray) (w : World) (hs : s.size ≤ 1048576) (hT : Tabs w) (hV : Cases w) (hE : Errs w) : Calls Tryz.prog 7 #[.string s] w (ScalP s w) := by
  cases c0 : (s.toList == [91, 93])
  rotate_left
  · exact iScal_w0 s w hs hT hV hE c0
  cases c1 : (s.toList == [123, 125])
  rotate_left
  · exact iScal_w1 s w hs hT hV hE c1
  cases c2 : (s.toList == [110, 117, 108, 108])
  rotate_left
  · exact iScal_w2 s w hs hT hV hE c2
  cases c3 : (s.toList == [126])
  rotate_left
  · exact iScal_w3 s w hs hT hV hE c3
  cases c4 : (s.toList == [116, 114, 117, 101])
  rotate_left
  · exact iScal_w4 s w hs hT hV hE c4
  cases c5 : (s.toList == [102, 97, 108, 115, 101])
  rotate_left
  · exact iScal_w5 s w hs hT hV hE c5
  have hnw : noWord s := ⟨c0, c1, c2, c3, c4, c5⟩
  by_cases hq : 0 < s.size ∧ bt s 0 = 34
  · cases hr : readQ s 0 with
    | none => exact iScal_q0 s w hs hT hV hE hnw hq hr
    | some x =>
      obtain ⟨l, e⟩ := x
      by_cases he : e = s.size
      · by_cases hk : l.length ≤ 400
        · exact iScal_q2 s w hs hT hV hE hnw hq l e hr he hk
        · exact iScal_q3 s w hs hT hV hE hnw hq l e hr he hk
      · exact iScal_q1 s w hs hT hV hE hnw hq l e hr he
  by_cases hw : whoE (whoQ s 0) = s.size ∧ 0 < whoE (whoQ s 0)
  · cases hr : whoQ s 0 with
    | none => rw [hr] at hw; simp only [whoE] at hw; omega
    | some x =>
      obtain ⟨n, e⟩ := x
      rw [hr] at hw
      simp only [whoE] at hw
      exact iScal_n1 s w hs hT hV hE hnw hq n e hr (by omega) (by omega)
  have hw2 : whoE (whoQ s 0) ≠ s.size ∨ whoE (whoQ s 0) ≤ 0 := by omega
  cases hp : plainAll s
  · exact iScal_p0 s w hs hT hV hE hnw hq hw2 hp
  · exact iScal_p1 s w hs hT hV hE hnw hq hw2 hp

end Go.Proofs.YtclffhejoneiaaaGreatDoor
namespace Go.Proofs.YtclffhejoneiaaaGreatDoor
open Go.RowKit

def ind (l : List UInt8) : Nat := (l.takeWhile (· == 32)).length
theorem ind_eq : ∀ (l : List UInt8) (j : Nat), j ≤ l.length → (∀ i, i < j → l.getD i 0 = 32) → (j < l.length → l.getD j 0 ≠ 32) → ind l = j
  | [], j, hj, _, _ => by
    simp at hj; subst hj; rfl
  | b :: r, 0, _, _, h => by
    have h1 : b ≠ 32 := h (by simp)
    simp [ind, h1]
  | b :: r, j + 1, hj, ha, h => by
    have h1 : b = 32 := ha 0 (by omega)
    have ih := ind_eq r j (by simpa using hj) (fun i hi => ha (i + 1) (by omega)) (fun hl => h (by simpa using hl))
    subst h1
    simp only [ind] at ih ⊢
    simp [ih]
theorem ind_le (l : List UInt8) : ind l ≤ l.length := (List.takeWhile_sublist _).length_le
theorem trim_drop : ∀ l : List UInt8, Lib.trimLeftB l 32 = l.drop (ind l)
  | [] => rfl
  | b :: r => by
    have ih := trim_drop r
    unfold Lib.trimLeftB ind at ih ⊢
    by_cases h : b = 32
    · subst h; simp; exact ih
    · simp [h]
theorem ext_drop (t : ByteArray) (n : Nat) : t.extract n t.size = ⟨(t.data.toList.drop n).toArray⟩ := by
  apply ByteArray.ext
  apply Array.ext'
  have h := Lib.extract_data t n t.size
  rw [h, List.take_of_length_le (by simp)]
/-- What stands behind place k, without the blanks ahead of it. -/
def restB (s : ByteArray) (k : Nat) : ByteArray := ⟨((s.extract k s.size).data.toList.drop (ind (s.extract k s.size).data.toList)).toArray⟩
theorem sIndentOf (t : ByteArray) (w : World) (hs : t.size ≤ 1048576) : Calls Tryz.prog 35 #[.string t] w fun e w' => e = .returned (.int .i64 (ind t.data.toList)) ∧ w = w' := by
  have hlen : t.data.toList.length = t.size := by simp
  have HL := Lib.hid hlen; clear hlen
  go_enter Tryz.func35, Tryz.ntmps35
  go_wp2
  go_loop [3] (fun i => ∃ j : Nat, j ≤ t.size ∧ i = .int .i64 (j : Int) ∧ ∀ i, i < j → t.data.toList.getD i 0 = 32) (fun i => t.size - (intOf i).toNat)
  case atStart => exact ⟨0, by omega, rfl, fun i hi => by omega⟩
  case round =>
    obtain ⟨j, hj, rfl, hall⟩ := hrel
    have HA := Lib.hid hall; clear hall
    by_cases hlt : j < t.size
    · have HB := Lib.hid (show t.data.toList.getD j 0 = t[j] by
        have : t.data.toList[j]? = some t[j] := by
          rw [List.getElem?_eq_getElem (by simpa using hlt)]; rfl
        rw [List.getD_eq_getElem?_getD, this]; rfl)
      cases hc : ((t[j].toNat : Int) == 32)
      · have H := Lib.hid (ind_eq t.data.toList j (by rw [HL.out]; exact hj) HA.out (fun _ => by rw [HB.out]; intro e; rw [e] at hc; cases hc))
        go_wp2
        go_ret
        exact ⟨ret_int (by rw [H.out]), rfl⟩
      · have H := Lib.hid (show t[j] = 32 from UInt8.toNat_inj.1 (by have g := hc; rw [beq_iff_eq] at g; show t[j].toNat = 32; omega))
        go_wp2
        go_round
        case rel => exact ⟨j + 1, by omega, by go_num, fun i hi => by
          rcases Nat.lt_or_ge i j with h | h
          · exact HA.out i h
          · obtain rfl : i = j := by omega
            rw [HB.out, H.out]⟩
        case measure => simp [intOf]; omega
    · obtain rfl : j = t.size := by omega
      have H := Lib.hid (ind_eq t.data.toList t.size (by rw [HL.out]; exact Nat.le_refl _) HA.out (fun h => by rw [HL.out] at h; omega))
      go_wp2
      go_ret
      exact ⟨ret_int (by rw [H.out]), rfl⟩

theorem iTrim (t : ByteArray) (w : World) : Calls Tryz.prog 36 #[.string t, .string ⟨#[32]⟩] w fun e w' => e = .returned (.string ⟨(t.data.toList.drop (ind t.data.toList)).toArray⟩) ∧ w = w' := by
  have h := Tryz.strings_TrimLeft_one t 32 (by decide) w
  rw [trim_drop] at h
  exact h.mono fun e w' ⟨h1, h2⟩ => ⟨h1, h2.symm⟩
theorem rest_def (s : ByteArray) (k : Nat) : (⟨((s.extract k s.size).data.toList.drop (ind (s.extract k s.size).data.toList)).toArray⟩ : ByteArray) = restB s k := rfl

theorem ind_cons (r : List UInt8) : ind (32 :: r) = 1 + ind r := by simp [ind]; omega
theorem restB_size (s : ByteArray) (k : Nat) (h : k ≤ s.size) : (restB s k).size + (k + ind (s.extract k s.size).data.toList) = s.size := by
  have h1 := ind_le (s.extract k s.size).data.toList
  have h2 : (s.extract k s.size).data.toList.length = s.size - k := by
    have : (s.extract k s.size).data.toList.length = (s.extract k s.size).size := by simp
    rw [this, ByteArray.size_extract]; omega
  have h3 : (restB s k).size = ((s.extract k s.size).data.toList.drop (ind (s.extract k s.size).data.toList)).length := by
    show (restB s k).data.size = _
    rw [restB]; simp
  rw [h3, List.length_drop]
  omega

end Go.Proofs.YtclffhejoneiaaaGreatDoor
namespace Go.Proofs.YtclffhejoneiaaaGreatDoor
open Go.RowKit

def fst (s : ByteArray) (i : Nat) : Bool := decide (i = 0) || bt s (i - 1) == 32
/-- Where the bare line ends, from a place on, inside quotes or not. -/
def bareF (s : ByteArray) : Nat → Nat → Bool → Nat
  | 0, _, _ => s.size
  | f + 1, i, true => if s.size ≤ i then s.size else if bt s i = 92 then bareF s f (i + 2) true else if bt s i = 34 then bareF s f (i + 1) false else bareF s f (i + 1) true
  | f + 1, i, false => if s.size ≤ i then s.size else if fst s i = true ∧ bt s i = 34 then bareF s f (i + 1) true else if fst s i = true ∧ bt s i = 35 then i else bareF s f (i + 1) false
theorem bareF_le (s : ByteArray) : ∀ f i q, bareF s f i q ≤ s.size
  | 0, _, _ => Nat.le_refl _
  | f + 1, i, true => by
    rw [bareF]
    by_cases h : s.size ≤ i
    · rw [if_pos h]; exact Nat.le_refl _
    rw [if_neg h]
    by_cases h1 : bt s i = 92
    · rw [if_pos h1]; exact bareF_le s f _ _
    rw [if_neg h1]
    by_cases h2 : bt s i = 34
    · rw [if_pos h2]; exact bareF_le s f _ _
    · rw [if_neg h2]; exact bareF_le s f _ _
  | f + 1, i, false => by
    rw [bareF]
    by_cases h : s.size ≤ i
    · rw [if_pos h]; exact Nat.le_refl _
    rw [if_neg h]
    by_cases h1 : fst s i = true ∧ bt s i = 34
    · rw [if_pos h1]; exact bareF_le s f _ _
    rw [if_neg h1]
    by_cases h2 : fst s i = true ∧ bt s i = 35
    · rw [if_pos h2]; omega
    · rw [if_neg h2]; exact bareF_le s f _ _
def BAt (s : ByteArray) (E i : Nat) (q : Bool) : Prop := ∃ f, s.size < i + f ∧ bareF s f i q = E
theorem bat_le {s : ByteArray} {E i : Nat} {q : Bool} (h : BAt s E i q) : E ≤ s.size := by
  obtain ⟨f, -, rfl⟩ := h; exact bareF_le _ _ _ _
theorem bareF_out {s : ByteArray} {f i : Nat} {q : Bool} (h : s.size ≤ i) : bareF s f i q = s.size := by
  cases f with
  | zero => rfl
  | succ f => cases q <;> rw [bareF, if_pos h]
theorem bat_out {s : ByteArray} {E i : Nat} {q : Bool} (h : BAt s E i q) (hi : s.size ≤ i) : E = s.size := by
  obtain ⟨f, -, rfl⟩ := h; exact bareF_out hi
theorem bat_end (s : ByteArray) (i : Nat) (q : Bool) (hi : s.size ≤ i) : BAt s s.size i q := ⟨1, by omega, bareF_out hi⟩
theorem bat_q92 {s : ByteArray} {E i : Nat} (h : BAt s E i true) (hi : i < s.size) (hb : bt s i = 92) : BAt s E (i + 2) true := by
  obtain ⟨f, hf, he⟩ := h
  cases f with
  | zero => omega
  | succ f => rw [bareF, if_neg (by omega), if_pos hb] at he; exact ⟨f, by omega, he⟩
theorem bat_q34 {s : ByteArray} {E i : Nat} (h : BAt s E i true) (hi : i < s.size) (hb : bt s i = 34) : BAt s E (i + 1) false := by
  obtain ⟨f, hf, he⟩ := h
  cases f with
  | zero => omega
  | succ f => rw [bareF, if_neg (by omega), if_neg (by omega), if_pos hb] at he; exact ⟨f, by omega, he⟩
theorem bat_qn {s : ByteArray} {E i : Nat} (h : BAt s E i true) (hi : i < s.size) (hb : bt s i ≠ 92) (hc : bt s i ≠ 34) : BAt s E (i + 1) true := by
  obtain ⟨f, hf, he⟩ := h
  cases f with
  | zero => omega
  | succ f => rw [bareF, if_neg (by omega), if_neg hb, if_neg hc] at he; exact ⟨f, by omega, he⟩
theorem bat_n34 {s : ByteArray} {E i : Nat} (h : BAt s E i false) (hi : i < s.size) (hf : fst s i = true) (hb : bt s i = 34) : BAt s E (i + 1) true := by
  obtain ⟨f, hf', he⟩ := h
  cases f with
  | zero => omega
  | succ f => rw [bareF, if_neg (by omega), if_pos ⟨hf, hb⟩] at he; exact ⟨f, by omega, he⟩
theorem bat_n35 {s : ByteArray} {E i : Nat} (h : BAt s E i false) (hi : i < s.size) (hf : fst s i = true) (hb : bt s i = 35) : i = E := by
  obtain ⟨f, hf', he⟩ := h
  cases f with
  | zero => omega
  | succ f => rw [bareF, if_neg (by omega), if_neg (fun hh => by have := hh.2; omega), if_pos ⟨hf, hb⟩] at he; exact he
theorem bat_nn {s : ByteArray} {E i : Nat} (h : BAt s E i false) (hi : i < s.size) (hn : fst s i = false ∨ (bt s i ≠ 34 ∧ bt s i ≠ 35)) : BAt s E (i + 1) false := by
  obtain ⟨f, hf', he⟩ := h
  cases f with
  | zero => omega
  | succ f =>
    rw [bareF, if_neg (by omega), if_neg (fun hh => by rcases hn with g | g; (· rw [g] at hh; cases hh.1); exact g.1 hh.2), if_neg (fun hh => by rcases hn with g | g; (· rw [g] at hh; cases hh.1); exact g.2 hh.2)] at he
    exact ⟨f, by omega, he⟩
theorem fst_zero (s : ByteArray) : fst s 0 = true := rfl
theorem fst_pos {s : ByteArray} {k : Nat} (h : 0 < k) (hk : k - 1 < s.size) : fst s k = ((s[k - 1].toNat : Int) == 32) := by
  rw [fst, decide_eq_false (by omega), Bool.false_or, bt_eq s _ hk]
  by_cases g : s[k - 1].toNat = 32
  · rw [g]; rfl
  · rw [beq_eq_false_iff_ne.2 g, beq_eq_false_iff_ne.2 (by omega)]
def bareE (s : ByteArray) : Nat := bareF s (s.size + 1) 0 false
theorem bat_start (s : ByteArray) : BAt s (bareE s) 0 false := ⟨s.size + 1, by omega, rfl⟩
def bareB (s : ByteArray) : ByteArray := ⟨(Lib.trimRightB (s.extract 0 (bareE s)).data.toList 32).toArray⟩
theorem bare_at {s : ByteArray} {E j : Nat} (hE : E = bareE s) (hj : j ≤ E) (h1 : ∀ i, j ≤ i → i < E → bt s i = 32) (h2 : 0 < j → bt s (j - 1) ≠ 32) : s.extract 0 j = bareB s := by
  have hle : E ≤ s.size := by rw [hE]; exact bareF_le _ _ _ _
  have hlen : s.data.toList.length = s.size := by simp
  have hget : ∀ (i : Nat) b, s.data.toList[i]? = some b → b.toNat = bt s i := by
    intro i b hb
    have hi : i < s.size := by
      have := (List.getElem?_eq_some_iff.1 hb).1; omega
    rw [bt_eq s i hi]
    have : s.data.toList[i]? = some s[i] := by
      rw [List.getElem?_eq_getElem (by omega)]; rfl
    rw [hb] at this; cases this; rfl
  have ht := Lib.trimRightB_take (s.data.toList.take E) 32 j (by rw [List.length_take]; omega)
    (fun i b hi hb => by
      rw [List.getElem?_take] at hb
      split at hb
      · rename_i hlt
        have g := hget i b hb
        rw [h1 i hi hlt] at g
        exact UInt8.toNat_inj.1 g
      · cases hb)
    (fun b hpos hb he => by
      rw [List.getElem?_take] at hb
      split at hb
      · have g := hget _ b hb
        rw [he] at g
        exact h2 hpos g.symm
      · cases hb)
  rw [bareB, ← hE, Lib.extract_upto s E]
  show _ = (⟨(Lib.trimRightB (s.data.toList.take E) 32).toArray⟩ : ByteArray)
  rw [ht, List.take_take, Nat.min_eq_left hj, Lib.extract_upto]

set_option maxHeartbeats 1000000 in
theorem iQuoteEnd (s : ByteArray) (E k : Nat) (w : World) (hs : s.size ≤ 1048576) (hk : k < s.size) (hA : BAt s E (k + 1) true) : Calls Tryz.prog 62 #[.string s, .int .i64 k] w fun e w' => (∃ j : Nat, e = .returned (.int .i64 j) ∧ k < j ∧ j ≤ s.size + 1 ∧ BAt s E (j + 1) false) ∧ w = w' := by
  have HA := Lib.hid hA; clear hA
  go_enter Tryz.func62, Tryz.ntmps62
  go_wp2
  go_loop [1] (fun i => ∃ j : Nat, i = .int .i64 j ∧ k < j ∧ j ≤ s.size + 1 ∧ Hid (BAt s E j true)) (fun i => s.size + 2 - (intOf i).toNat)
  case atStart => exact ⟨k + 1, by go_num, by omega, by omega, HA⟩
  case round =>
    obtain ⟨j, rfl, hkj, hjs, hB⟩ := hrel
    by_cases hlt : j < s.size
    rotate_left
    · have H := Lib.hid (show BAt s E (j + 1) false by
        rw [bat_out hB.out (by omega)]; exact bat_end s _ _ (by omega))
      go_wp2
      go_ret
      exact ⟨⟨j, rfl, hkj, hjs, H.out⟩, rfl⟩
    have hq := bt_eq s j hlt
    cases h34 : ((s[j].toNat : Int) == 34)
    rotate_left
    · have h34' : ((s[j].toNat : Int) != 34) = false := by rw [bne, h34]; rfl
      have H := Lib.hid (bat_q34 hB.out hlt (by rw [beq_iff_eq] at h34; omega))
      clear hq
      go_wp2
      go_ret
      exact ⟨⟨j, rfl, hkj, hjs, H.out⟩, rfl⟩
    have h34' : ((s[j].toNat : Int) != 34) = true := by rw [bne, h34]; rfl
    have n34 : bt s j ≠ 34 := by rw [beq_eq_false_iff_ne] at h34; omega
    cases h92 : ((s[j].toNat : Int) == 92)
    · have H := Lib.hid (bat_qn hB.out hlt (by rw [beq_eq_false_iff_ne] at h92; omega) n34)
      clear hq n34
      go_wp2
      go_round
      case rel => exact ⟨j + 1, by go_num, by omega, by omega, H⟩
      case measure => simp [intOf] <;> omega
    · have H := Lib.hid (bat_q92 hB.out hlt (by rw [beq_iff_eq] at h92; omega))
      clear hq n34
      go_wp2
      go_round
      case rel => exact ⟨j + 2, by go_num, by omega, by omega, H⟩
      case measure => simp [intOf] <;> omega

theorem iTrimR (t : ByteArray) (w : World) (h : t.size ≤ 1048576) : Calls Tryz.prog 63 #[.string t, .string ⟨#[32]⟩] w fun e w' => e = .returned (.string ⟨(Lib.trimRightB t.data.toList 32).toArray⟩) ∧ w = w' :=
  (Tryz.strings_TrimRight_one t 32 (by decide) w (Nat.le_trans h (by decide))).mono fun e w' ⟨h1, h2⟩ => ⟨h1, h2.symm⟩

set_option maxHeartbeats 2000000 in
theorem iBareLine (s : ByteArray) (w : World) (hs : s.size ≤ 1048576) : Calls Tryz.prog 37 #[.string s] w fun e w' => e = .returned (.string (bareB s)) ∧ w = w' := by
  obtain ⟨E, hE⟩ : ∃ E, E = bareE s := ⟨_, rfl⟩
  have hEs : E ≤ s.size := by rw [hE]; exact bareF_le _ _ _ _
  have HA := Lib.hid (show BAt s E 0 false by rw [hE]; exact bat_start s)
  have HT := Lib.hid (fun w0 => iTrimR (s.extract 0 E) w0 (by rw [ByteArray.size_extract]; omega))
  rw [show (⟨(Lib.trimRightB (s.extract 0 E).data.toList 32).toArray⟩ : ByteArray) = bareB s by rw [hE]; rfl] at HT
  clear hE
  go_enter Tryz.func37, Tryz.ntmps37
  go_wp2
  go_loop [3, 4] (fun e i => ∃ k : Nat, e = .int .i64 s.size ∧ i = .int .i64 k ∧ k ≤ s.size + 2 ∧ Hid (BAt s E k false)) (fun _ i => s.size + 3 - (intOf i).toNat)
  case atStart => exact ⟨0, rfl, rfl, by omega, HA⟩
  case round =>
    obtain ⟨k, rfl, rfl, hks, hB⟩ := hrel
    by_cases hlt : k < s.size
    rotate_left
    · have hE2 := bat_out hB.out (by omega)
      subst hE2
      have hx : s.extract 0 s.size = s := by simp
      rw [hx] at HT
      go_wp2_with (go_at_call 63; refine (HT.out _).mono ?_; rintro e w' ⟨rfl, rfl⟩)
      go_ret
      exact ⟨rfl, rfl⟩
    have hq := bt_eq s k hlt
    obtain ⟨fs, hfs⟩ : ∃ fs, fs = fst s k := ⟨_, rfl⟩
    have HF := Lib.hid hfs
    have step : ∀ {Q : Prop}, (k = 0 → fs = true → Q) → (∀ (h0 : 0 < k) (hk : k - 1 < s.size), ((s[k - 1].toNat : Int) == 32) = fs → Q) → Q := fun a b => by
      rcases Nat.eq_zero_or_pos k with h | h
      · exact a h (by rw [hfs, h]; rfl)
      · exact b h (by omega) (by rw [hfs, fst_pos h (by omega)])
    clear hfs
    cases fs
    · have H := Lib.hid (bat_nn hB.out hlt (Or.inl HF.out.symm))
      clear hq
      refine step (fun _ h => by cases h) (fun h0 hk1 hp => ?_)
      have hk0 : ((k : Int) == 0) = false := by rw [beq_eq_false_iff_ne]; omega
      clear step
      go_wp2_with fail
      go_round
      case rel => exact ⟨k + 1, rfl, by go_num, by omega, H⟩
      case measure => simp [intOf] <;> omega
    cases h35 : ((s[k].toNat : Int) == 35)
    rotate_left
    · obtain rfl := bat_n35 hB.out hlt HF.out.symm (by rw [beq_iff_eq] at h35; omega)
      clear hq
      refine step (fun h0 _ => ?_) (fun h0 hk1 hp => ?_)
      · subst h0
        have hx : s.extract 0 0 = ByteArray.empty := by simp
        rw [hx] at HT
        clear step
        go_wp2_with (go_at_call 63; refine (HT.out _).mono ?_; rintro e w' ⟨rfl, rfl⟩)
        go_ret
        exact ⟨rfl, rfl⟩
      · have hk0 : ((k : Int) == 0) = false := by rw [beq_eq_false_iff_ne]; omega
        clear step
        go_wp2_with (go_at_call 63; refine (HT.out _).mono ?_; rintro e w' ⟨rfl, rfl⟩)
        go_ret
        exact ⟨rfl, rfl⟩
    have n35 : bt s k ≠ 35 := by rw [beq_eq_false_iff_ne] at h35; omega
    cases h34 : ((s[k].toNat : Int) == 34)
    · have H := Lib.hid (bat_nn hB.out hlt (Or.inr ⟨by rw [beq_eq_false_iff_ne] at h34; omega, n35⟩))
      clear hq n35
      refine step (fun h0 _ => ?_) (fun h0 hk1 hp => ?_)
      · subst h0
        clear step
        go_wp2_with fail
        go_round
        case rel => exact ⟨1, rfl, by go_num, by omega, H⟩
        case measure => simp [intOf] <;> omega
      · have hk0 : ((k : Int) == 0) = false := by rw [beq_eq_false_iff_ne]; omega
        clear step
        go_wp2_with fail
        go_round
        case rel => exact ⟨k + 1, rfl, by go_num, by omega, H⟩
        case measure => simp [intOf] <;> omega
    · have HQ := Lib.hid (fun w0 => iQuoteEnd s E k w0 hs hlt (bat_n34 hB.out hlt HF.out.symm (by rw [beq_iff_eq] at h34; omega)))
      clear hq n35
      refine step (fun h0 _ => ?_) (fun h0 hk1 hp => ?_)
      · subst h0
        clear step
        go_wp2_with (go_at_call 62; refine (HQ.out _).mono ?_; rintro e w' ⟨⟨j, rfl, hj1, hj2, hj3⟩, rfl⟩)
        have H := Lib.hid hj3
        go_round
        case rel => exact ⟨j + 1, rfl, by go_num, by omega, H⟩
        case measure => simp [intOf] <;> omega
      · have hk0 : ((k : Int) == 0) = false := by rw [beq_eq_false_iff_ne]; omega
        clear step
        go_wp2_with (go_at_call 62; refine (HQ.out _).mono ?_; rintro e w' ⟨⟨j, rfl, hj1, hj2, hj3⟩, rfl⟩)
        have H := Lib.hid hj3
        go_round
        case rel => exact ⟨j + 1, rfl, by go_num, by omega, H⟩
        case measure => simp [intOf] <;> omega

set_option maxHeartbeats 2000000 in
theorem sBareLine (s : ByteArray) (w : World) (hs : s.size ≤ 1048576) : Calls Tryz.prog 34 #[.string s] w fun e w' => e = .returned (.string (bareB s)) ∧ w = w' := by
  obtain ⟨E, hE⟩ : ∃ E, E = bareE s := ⟨_, rfl⟩
  have hEs : E ≤ s.size := by rw [hE]; exact bareF_le _ _ _ _
  have HA := Lib.hid (show BAt s E 0 false by rw [hE]; exact bat_start s)
  have HX := Lib.hid (fun j => bare_at (j := j) hE)
  clear hE
  go_enter Tryz.func34, Tryz.ntmps34
  go_wp2
  go_loop [3, 4, 5] (fun e q i => ∃ (n k : Nat) (b : Bool), e = .int .i64 n ∧ q = .bool b ∧ i = .int .i64 k ∧ k ≤ s.size + 2 ∧ n ≤ s.size ∧ Hid ((n = s.size ∧ BAt s E k b) ∨ (n = E ∧ k = n + 1))) (fun _ _ i => s.size + 3 - (intOf i).toNat)
  case atStart => exact ⟨s.size, 0, false, rfl, rfl, rfl, by omega, by omega, Lib.hid (Or.inl ⟨rfl, HA.out⟩)⟩
  case round =>
    obtain ⟨n, k, b, rfl, rfl, rfl, hks, hns, hr⟩ := hrel
    by_cases hlt : k < n
    rotate_left
    · obtain rfl : n = E := by
        rcases hr.out with ⟨h1, h2⟩ | ⟨h1, _⟩
        · rw [bat_out h2 (by omega)]; exact h1
        · exact h1
      go_wp2
      go_loop [3] (fun e => ∃ j : Nat, e = .int .i64 j ∧ j ≤ n ∧ Hid (∀ i, j ≤ i → i < n → bt s i = 32)) (fun i => (intOf i).toNat)
      case atStart => exact ⟨n, rfl, by omega, Lib.hid (fun i h1 h2 => by omega)⟩
      case round =>
        obtain ⟨j, rfl, hjn, hall⟩ := hrel
        rcases Nat.eq_zero_or_pos j with h0 | h0
        · subst h0
          have H := Lib.hid (show ByteArray.empty = bareB s by rw [← HX.out 0 (by omega) hall.out (fun h => by omega)]; simp)
          go_wp2
          go_ret
          exact ⟨ret_str H.out, rfl⟩
        have hj1 : j - 1 < s.size := by omega
        have hq := bt_eq s (j - 1) hj1
        cases h32 : ((s[j - 1].toNat : Int) == 32)
        · have H := Lib.hid (HX.out j hjn hall.out (fun _ => by rw [beq_eq_false_iff_ne] at h32; omega))
          clear hq
          go_wp2
          go_ret
          exact ⟨ret_str H.out, rfl⟩
        · have H := Lib.hid (show ∀ i, j - 1 ≤ i → i < n → bt s i = 32 from fun i h1 h2 => by
            rcases Nat.lt_or_ge i j with h | h
            · obtain rfl : i = j - 1 := by omega
              rw [beq_iff_eq] at h32; omega
            · exact hall.out i h h2)
          clear hq
          go_wp2
          go_round
          case rel => exact ⟨j - 1, by go_num, by omega, H⟩
          case measure => simp [intOf] <;> omega
    obtain ⟨rfl, hB⟩ : n = s.size ∧ BAt s E k b := by
      rcases hr.out with h | ⟨h1, h2⟩
      · exact h
      · omega
    have hBH := Lib.hid hB
    have hq := bt_eq s k hlt
    obtain ⟨fs, hfs⟩ : ∃ fs, fs = fst s k := ⟨_, rfl⟩
    have HF := Lib.hid hfs
    have step : ∀ {Q : Prop}, (k = 0 → fs = true → Q) → (∀ (h0 : 0 < k) (hk : k - 1 < s.size), ((s[k - 1].toNat : Int) == 32) = fs → Q) → Q := fun a b => by
      rcases Nat.eq_zero_or_pos k with h | h
      · exact a h (by rw [hfs, h]; rfl)
      · exact b h (by omega) (by rw [hfs, fst_pos h (by omega)])
    clear hfs hr hB
    cases b
    · cases h34 : ((s[k].toNat : Int) == 34) <;> cases h35 : ((s[k].toNat : Int) == 35) <;> cases fs
      · have q34 : bt s k ≠ 34 := by rw [beq_eq_false_iff_ne] at h34; omega
        have q35 : bt s k ≠ 35 := by rw [beq_eq_false_iff_ne] at h35; omega
        have H := Lib.hid (bat_nn hBH.out hlt (Or.inl HF.out.symm))
        clear hq q34 q35
        refine step (fun _ h => by cases h) (fun h0 hk1 hp => ?_)
        · have hk0 : ((k : Int) == 0) = false := by rw [beq_eq_false_iff_ne]; omega
          clear step
          go_wp2_with fail
          go_round
          case rel => exact ⟨s.size, k + 1, false, rfl, rfl, by go_num, by omega, by omega, Lib.hid (Or.inl ⟨rfl, H.out⟩)⟩
          case measure => simp [intOf] <;> omega
      · have q34 : bt s k ≠ 34 := by rw [beq_eq_false_iff_ne] at h34; omega
        have q35 : bt s k ≠ 35 := by rw [beq_eq_false_iff_ne] at h35; omega
        have H := Lib.hid (bat_nn hBH.out hlt (Or.inr ⟨q34, q35⟩))
        clear hq q34 q35
        refine step (fun h0 _ => ?_) (fun h0 hk1 hp => ?_)
        · subst h0
          clear step
          go_wp2_with fail
          go_round
          case rel => exact ⟨s.size, 1, false, rfl, rfl, by go_num, by omega, by omega, Lib.hid (Or.inl ⟨rfl, H.out⟩)⟩
          case measure => simp [intOf] <;> omega
        · have hk0 : ((k : Int) == 0) = false := by rw [beq_eq_false_iff_ne]; omega
          clear step
          go_wp2_with fail
          go_round
          case rel => exact ⟨s.size, k + 1, false, rfl, rfl, by go_num, by omega, by omega, Lib.hid (Or.inl ⟨rfl, H.out⟩)⟩
          case measure => simp [intOf] <;> omega
      · have q34 : bt s k ≠ 34 := by rw [beq_eq_false_iff_ne] at h34; omega
        have q35 : bt s k = 35 := by rw [beq_iff_eq] at h35; omega
        have H := Lib.hid (bat_nn hBH.out hlt (Or.inl HF.out.symm))
        clear hq q34 q35
        refine step (fun _ h => by cases h) (fun h0 hk1 hp => ?_)
        · have hk0 : ((k : Int) == 0) = false := by rw [beq_eq_false_iff_ne]; omega
          clear step
          go_wp2_with fail
          go_round
          case rel => exact ⟨s.size, k + 1, false, rfl, rfl, by go_num, by omega, by omega, Lib.hid (Or.inl ⟨rfl, H.out⟩)⟩
          case measure => simp [intOf] <;> omega
      · have q34 : bt s k ≠ 34 := by rw [beq_eq_false_iff_ne] at h34; omega
        have q35 : bt s k = 35 := by rw [beq_iff_eq] at h35; omega
        have H := Lib.hid (bat_n35 hBH.out hlt HF.out.symm q35)
        clear hq q34 q35
        refine step (fun h0 _ => ?_) (fun h0 hk1 hp => ?_)
        · subst h0
          clear step
          go_wp2_with fail
          go_round
          case rel => exact ⟨0, 1, false, rfl, rfl, by go_num, by omega, by omega, Lib.hid (Or.inr ⟨H.out, rfl⟩)⟩
          case measure => simp [intOf] <;> omega
        · have hk0 : ((k : Int) == 0) = false := by rw [beq_eq_false_iff_ne]; omega
          clear step
          go_wp2_with fail
          go_round
          case rel => exact ⟨k, k + 1, false, rfl, rfl, by go_num, by omega, by omega, Lib.hid (Or.inr ⟨H.out, rfl⟩)⟩
          case measure => simp [intOf] <;> omega
      · have q34 : bt s k = 34 := by rw [beq_iff_eq] at h34; omega
        have q35 : bt s k ≠ 35 := by rw [beq_eq_false_iff_ne] at h35; omega
        have H := Lib.hid (bat_nn hBH.out hlt (Or.inl HF.out.symm))
        clear hq q34 q35
        refine step (fun _ h => by cases h) (fun h0 hk1 hp => ?_)
        · have hk0 : ((k : Int) == 0) = false := by rw [beq_eq_false_iff_ne]; omega
          clear step
          go_wp2_with fail
          go_round
          case rel => exact ⟨s.size, k + 1, false, rfl, rfl, by go_num, by omega, by omega, Lib.hid (Or.inl ⟨rfl, H.out⟩)⟩
          case measure => simp [intOf] <;> omega
      · have q34 : bt s k = 34 := by rw [beq_iff_eq] at h34; omega
        have q35 : bt s k ≠ 35 := by rw [beq_eq_false_iff_ne] at h35; omega
        have H := Lib.hid (bat_n34 hBH.out hlt HF.out.symm q34)
        clear hq q34 q35
        refine step (fun h0 _ => ?_) (fun h0 hk1 hp => ?_)
        · subst h0
          clear step
          go_wp2_with fail
          go_round
          case rel => exact ⟨s.size, 1, true, rfl, rfl, by go_num, by omega, by omega, Lib.hid (Or.inl ⟨rfl, H.out⟩)⟩
          case measure => simp [intOf] <;> omega
        · have hk0 : ((k : Int) == 0) = false := by rw [beq_eq_false_iff_ne]; omega
          clear step
          go_wp2_with fail
          go_round
          case rel => exact ⟨s.size, k + 1, true, rfl, rfl, by go_num, by omega, by omega, Lib.hid (Or.inl ⟨rfl, H.out⟩)⟩
          case measure => simp [intOf] <;> omega
      · exfalso; rw [beq_iff_eq] at h34 h35; omega
      · exfalso; rw [beq_iff_eq] at h34 h35; omega
    · cases h92 : ((s[k].toNat : Int) == 92) <;> cases h34 : ((s[k].toNat : Int) == 34)
      · have q34 : bt s k ≠ 34 := by rw [beq_eq_false_iff_ne] at h34; omega
        have q92 : bt s k ≠ 92 := by rw [beq_eq_false_iff_ne] at h92; omega
        have h34' : ((s[k].toNat : Int) != 34) = true := by rw [bne, h34]; rfl
        have H := Lib.hid (bat_qn hBH.out hlt q92 q34)
        clear hq q34 q92
        refine step (fun h0 _ => ?_) (fun h0 hk1 hp => ?_)
        · subst h0
          clear step
          go_wp2_with fail
          go_round
          case rel => exact ⟨s.size, 1, true, rfl, rfl, by go_num, by omega, by omega, Lib.hid (Or.inl ⟨rfl, H.out⟩)⟩
          case measure => simp [intOf] <;> omega
        · have hk0 : ((k : Int) == 0) = false := by rw [beq_eq_false_iff_ne]; omega
          clear step
          go_wp2_with fail
          go_round
          case rel => exact ⟨s.size, k + 1, true, rfl, rfl, by go_num, by omega, by omega, Lib.hid (Or.inl ⟨rfl, H.out⟩)⟩
          case measure => simp [intOf] <;> omega
      · have q34 : bt s k = 34 := by rw [beq_iff_eq] at h34; omega
        have q92 : bt s k ≠ 92 := by rw [beq_eq_false_iff_ne] at h92; omega
        have h34' : ((s[k].toNat : Int) != 34) = false := by rw [bne, h34]; rfl
        have H := Lib.hid (bat_q34 hBH.out hlt q34)
        clear hq q34 q92
        refine step (fun h0 _ => ?_) (fun h0 hk1 hp => ?_)
        · subst h0
          clear step
          go_wp2_with fail
          go_round
          case rel => exact ⟨s.size, 1, false, rfl, rfl, by go_num, by omega, by omega, Lib.hid (Or.inl ⟨rfl, H.out⟩)⟩
          case measure => simp [intOf] <;> omega
        · have hk0 : ((k : Int) == 0) = false := by rw [beq_eq_false_iff_ne]; omega
          clear step
          go_wp2_with fail
          go_round
          case rel => exact ⟨s.size, k + 1, false, rfl, rfl, by go_num, by omega, by omega, Lib.hid (Or.inl ⟨rfl, H.out⟩)⟩
          case measure => simp [intOf] <;> omega
      · have q34 : bt s k ≠ 34 := by rw [beq_eq_false_iff_ne] at h34; omega
        have q92 : bt s k = 92 := by rw [beq_iff_eq] at h92; omega
        have h34' : ((s[k].toNat : Int) != 34) = true := by rw [bne, h34]; rfl
        have H := Lib.hid (bat_q92 hBH.out hlt q92)
        clear hq q34 q92
        refine step (fun h0 _ => ?_) (fun h0 hk1 hp => ?_)
        · subst h0
          clear step
          go_wp2_with fail
          go_round
          case rel => exact ⟨s.size, 2, true, rfl, rfl, by go_num, by omega, by omega, Lib.hid (Or.inl ⟨rfl, H.out⟩)⟩
          case measure => simp [intOf] <;> omega
        · have hk0 : ((k : Int) == 0) = false := by rw [beq_eq_false_iff_ne]; omega
          clear step
          go_wp2_with fail
          go_round
          case rel => exact ⟨s.size, k + 2, true, rfl, rfl, by go_num, by omega, by omega, Lib.hid (Or.inl ⟨rfl, H.out⟩)⟩
          case measure => simp [intOf] <;> omega
      · exfalso; rw [beq_iff_eq] at h34 h92; omega

end Go.Proofs.YtclffhejoneiaaaGreatDoor
namespace Go.Proofs.YtclffhejoneiaaaGreatDoor
open Go.RowKit

theorem scT_size (s : ByteArray) : (scT (scalO s)).size ≤ 400 := by
  have h0 : noB.size = 0 := rfl
  have ht : (scT (scTail s)).size ≤ 400 := by
    unfold scTail
    split
    · rename_i h
      simp only [plainAll, betweenB, Bool.and_eq_true, decide_eq_true_eq] at h
      simp only [scT]; omega
    · simp only [scT]; omega
  have hn : (scT (scNum s)).size ≤ 400 := by
    unfold scNum
    split
    · exact ht
    · split
      · simp only [scT]; omega
      · exact ht
  have hq : (scT (scQuote s)).size ≤ 400 := by
    unfold scQuote
    split
    · simp only [scT]; omega
    · split
      · rename_i h
        simp only [scT]
        show (List.toArray _).size ≤ 400
        rw [List.size_toArray]; exact h.2
      · simp only [scT]; omega
  unfold scalO
  repeat' split
  all_goals first | exact hq | exact hn | (simp only [scT]; omega)

def inlB (s : ByteArray) : ByteArray := (bareB s).extract (ind (bareB s).data.toList) (bareB s).size
theorem trimR_len (l : List UInt8) (c : UInt8) : (Lib.trimRightB l c).length ≤ l.length := by
  unfold Lib.trimRightB
  first
    | (rw [List.length_reverse]; refine Nat.le_trans (List.dropWhile_sublist _).length_le ?_; rw [List.length_reverse]; exact Nat.le_refl _)
    | (exact (List.rdropWhile_sublist _ _).length_le)
    | (simp)
theorem bareB_size (s : ByteArray) : (bareB s).size ≤ s.size := by
  have h1 := trimR_len (s.extract 0 (bareE s)).data.toList 32
  have h2 : (s.extract 0 (bareE s)).data.toList.length = (s.extract 0 (bareE s)).size := by simp
  rw [h2, ByteArray.size_extract] at h1
  unfold bareB
  show (List.toArray _).size ≤ _
  rw [List.size_toArray]; omega
set_option maxRecDepth 100000 in
theorem sInline (s : ByteArray) (w : World) (hs : s.size ≤ 1048576) : Calls Tryz.prog 13 #[.string s] w (ScalV (scalO (inlB s)) w) := by
  have hb0 := bareB_size s
  have HB := Lib.hid (fun w0 => sBareLine s w0 hs)
  have HR := Lib.hid (fun w0 => sReadScalar (inlB s) w0 (by unfold inlB; rw [ByteArray.size_extract]; omega))
  unfold inlB at HR ⊢
  have hle : ind (bareB s).data.toList ≤ (bareB s).size := by
    have h1 := ind_le (bareB s).data.toList
    have h2 : (bareB s).data.toList.length = (bareB s).size := by simp
    omega
  have HI := Lib.hid (fun w0 => sIndentOf (bareB s) w0 (by omega))
  generalize ind (bareB s).data.toList = m at HR HI hle ⊢
  generalize bareB s = t at HR HI HB hle hb0 ⊢
  have HZ := Lib.hid (ZT.new w)
  go_enter Tryz.func13, Tryz.ntmps13
  go_wp2_with (first | (go_at_call 34; refine (HB.out _).mono ?_; rintro e w' ⟨rfl, rfl⟩) | (go_at_call 35; refine (HI.out _).mono ?_; rintro e w' ⟨rfl, rfl⟩))
  refine (HR.out _).mono ?_; rintro e w1 ⟨rfl, hb1⟩
  have HZ := Lib.hid (HZ.out.keep hb1); clear hb1
  obtain ⟨r0, r1, r2, r3, r4, r5⟩ := HZ.out.cells
  obtain ⟨g0, g1, g2, g3, g4, g5⟩ := HZ.out.frozen
  go_wp2
  refine bodyPost_ret (v := .tuple #[.agg #[.int .i64 (scK (scalO (t.extract m t.size))), .bool (scF (scalO (t.extract m t.size))), .int .i64 (scN (scalO (t.extract m t.size))), .string (scT (scalO (t.extract m t.size))), .slice none 0 0, .slice none 0 0], .bool (scalO (t.extract m t.size)).isSome]) (by simp [results, Tryz.results13, go_sem, HZ.out.cells]) rfl ?_
  exact ⟨rfl, ((((((HZ.out.2.setCell (p := ⟨w.heap.size, 0, none⟩) (Nat.le_refl _) _).setCell (p := ⟨w.heap.size, 1, none⟩) (Nat.le_refl _) _).setCell (p := ⟨w.heap.size, 2, none⟩) (Nat.le_refl _) _).setCell (p := ⟨w.heap.size, 3, none⟩) (Nat.le_refl _) _).setCell (p := ⟨w.heap.size, 4, none⟩) (Nat.le_refl _) _).setCell (p := ⟨w.heap.size, 5, none⟩) (Nat.le_refl _) _)⟩
set_option maxRecDepth 100000 in
theorem iInline (s : ByteArray) (w : World) (hs : s.size ≤ 1048576) (hT : Tabs w) (hV : Cases w) (hE : Errs w) : Calls Tryz.prog 14 #[.string s] w (ScalV (scalO (inlB s)) w) := by
  have hb0 := bareB_size s
  have HX := Lib.hid (And.intro hT (And.intro hV hE)); clear hT hV hE
  have HB := Lib.hid (fun w0 => iBareLine s w0 hs)
  have HR := Lib.hid (fun w0 hT hV hE => iReadScalar (inlB s) w0 (by unfold inlB; rw [ByteArray.size_extract]; omega) hT hV hE)
  have HI := Lib.hid (fun w0 => iTrim (bareB s) w0)
  rw [← ext_drop] at HI
  have he : inlB s = (bareB s).extract (ind (bareB s).data.toList) (bareB s).size := rfl
  rw [← he] at HI
  clear he
  generalize inlB s = u at HR HI ⊢
  generalize bareB s = t at HI HB hb0 ⊢
  have HZ := Lib.hid (ZT.new w)
  go_enter Tryz.func14, Tryz.ntmps14
  go_wp2_with (first | (go_at_call 37; refine (HB.out _).mono ?_; rintro e w' ⟨rfl, rfl⟩) | (go_at_call 36; refine (HI.out _).mono ?_; rintro e w' ⟨rfl, rfl⟩))
  refine (HR.out _ (tabs_keep HX.out.1 HZ.out.2) (cases_keep HX.out.2.1 HZ.out.2) (errs_keep HX.out.2.2 HZ.out.2)).mono ?_; rintro e w1 ⟨rfl, hb1⟩
  have HZ := Lib.hid (HZ.out.keep hb1); clear hb1
  obtain ⟨r0, r1, r2, r3, r4, r5⟩ := HZ.out.cells
  obtain ⟨g0, g1, g2, g3, g4, g5⟩ := HZ.out.frozen
  go_wp2
  refine bodyPost_ret (v := .tuple #[.agg #[.int .i64 (scK (scalO u)), .bool (scF (scalO u)), .int .i64 (scN (scalO u)), .string (scT (scalO u)), .slice none 0 0, .slice none 0 0], .bool (scalO u).isSome]) (by simp [results, Tryz.results14, go_sem, HZ.out.cells]) rfl ?_
  exact ⟨rfl, ((((((HZ.out.2.setCell (p := ⟨w.heap.size, 0, none⟩) (Nat.le_refl _) _).setCell (p := ⟨w.heap.size, 1, none⟩) (Nat.le_refl _) _).setCell (p := ⟨w.heap.size, 2, none⟩) (Nat.le_refl _) _).setCell (p := ⟨w.heap.size, 3, none⟩) (Nat.le_refl _) _).setCell (p := ⟨w.heap.size, 4, none⟩) (Nat.le_refl _) _).setCell (p := ⟨w.heap.size, 5, none⟩) (Nat.le_refl _) _)⟩

set_option maxRecDepth 100000 in
set_option maxHeartbeats 2000000 in
theorem lawReadScalar (s : ByteArray) (hm : s.size ≤ maxLen) {w : World} (_h1 : Lib.VarReads Tryz.prog w "math/bits.deBruijn32tab" Rows.laid_math_bits_deBruijn32tab) (_h2 : Lib.VarReads Tryz.prog w "math/bits.deBruijn64tab" Rows.laid_math_bits_deBruijn64tab) (_h3 : Lib.VarReads Tryz.prog w "internal/strconv.uint64pow10" Rows.laid_internal_strconv_uint64pow10) (h4 : Lib.VarReads Tryz.prog w "unicode/utf8.acceptRanges" Rows.laid_unicode_utf8_acceptRanges) (h5 : Lib.VarReads Tryz.prog w "strconv.ErrRange" Rows.laid_strconv_ErrRange) (_h6 : Lib.VarReads Tryz.prog w "strconv.ErrSyntax" Rows.laid_strconv_ErrSyntax) (h7 : Lib.VarReads Tryz.prog w "unicode.CaseRanges" Rows.laid_unicode_CaseRanges) (h8 : Lib.VarReads Tryz.prog w "unicode/utf8.first" Rows.laid_unicode_utf8_first) :
    Calls Tryz.prog 3 #[.string s] w fun e w' => e = .returned (.bool true) ∧ Below w.heap.size w w' := by
  have hT := tabs_of h4 h8
  have hV := cases_of h7
  have hE := errs_of h5
  clear h4 h5 h7 h8
  unfold maxLen at hm
  by_cases hs : s.size ≤ 1048576
  rotate_left
  · go_enter Tryz.func3, Tryz.ntmps3
    go_wp2
    go_ret
    exact ⟨rfl, Below.refl _ _⟩
  have HX := Lib.hid (And.intro hT (And.intro hV hE)); clear hT hV hE
  have hsz := scT_size s
  have hc1 : ∀ w0, Calls Tryz.prog 6 #[.string s] w0 fun e w' => e = .returned (.tuple #[.agg #[.int .i64 (scK (scalO s)), .bool (scF (scalO s)), .int .i64 (scN (scalO s)), .string (scT (scalO s)), .slice none 0 0, .slice none 0 0], .bool (scalO s).isSome]) ∧ Below w0.heap.size w0 w' := fun w0 => sReadScalar s w0 hs
  have hc2 : ∀ w0, Tabs w0 → Cases w0 → Errs w0 → Calls Tryz.prog 7 #[.string s] w0 fun e w' => e = .returned (.tuple #[.agg #[.int .i64 (scK (scalO s)), .bool (scF (scalO s)), .int .i64 (scN (scalO s)), .string (scT (scalO s)), .slice none 0 0, .slice none 0 0], .bool (scalO s).isSome]) ∧ Below w0.heap.size w0 w' := fun w0 hT hV hE => iReadScalar s w0 hs hT hV hE
  generalize scalO s = o at hsz hc1 hc2
  generalize scK o = k at hc1 hc2
  generalize scF o = f at hc1 hc2
  generalize scN o = n at hc1 hc2
  generalize scT o = x at hsz hc1 hc2
  generalize o.isSome = b at hc1 hc2
  have HS := Lib.hid (show x.size ≤ 1048576 by omega)
  have HC1 := Lib.hid hc1; have HC2 := Lib.hid hc2
  have eb : (b != b) = false := by simp
  clear hc1 hc2 hsz
  go_enter Tryz.func3, Tryz.ntmps3
  go_wp2_with fail
  refine (HC1.out _).mono ?_; rintro e w1 ⟨rfl, hb1⟩
  have hsp1 := Spill.new w1 (.mk k f n x [] []) (.slice none 0 0) (.slice none 0 0) 25
  have hbw1 := hb1.trans ((alloc_below w1 #[.int .i64 k, .bool f, .int .i64 n, .string x, .slice none 0 0, .slice none 0 0] 25).mono hb1.size)
  obtain ⟨b3, hb3⟩ : ∃ b3, b3 = w1.heap.size := ⟨_, rfl⟩
  go_wp2_with fail
  refine (HC2.out _ (tabs_keep HX.out.1 hbw1) (cases_keep HX.out.2.1 hbw1) (errs_keep HX.out.2.2 hbw1)).mono ?_; rintro e w2 ⟨rfl, hb2⟩
  have hsp1 := hsp1.keep hb2
  have hbw2 := bnext hbw1 hb2
  have hsp2 := Spill.new w2 (.mk k f n x [] []) (.slice none 0 0) (.slice none 0 0) 25
  have hal := alloc_below w2 #[.int .i64 k, .bool f, .int .i64 n, .string x, .slice none 0 0, .slice none 0 0] 25
  have hsp1 := hsp1.keep hal
  have hbw2 := bnext hbw2 hal
  clear hal hb1 hb2 hbw1
  obtain ⟨b4, hb4⟩ : ∃ b4, b4 = w2.heap.size := ⟨_, rfl⟩
  rw [← hb3] at hsp1
  rw [← hb4] at hsp2
  have HI := Lib.hid (And.intro hsp1 (And.intro hsp2 hbw2)); clear hsp1 hsp2 hbw2
  have HB := Lib.hid (And.intro hb3 hb4)
  clear hb3 hb4
  obtain ⟨p0, p1, p2, p3, p4, p5⟩ := HI.out.1.cells
  obtain ⟨q0, q1, q2, q3, q4, q5⟩ := HI.out.2.1.cells
  simp only [kind_mk, flag_mk, num_mk, text_mk] at p0 p1 p2 p3 q0 q1 q2 q3
  rw [HB.out.1] at p0 p1 p2 p3 p4 p5
  rw [HB.out.2] at q0 q1 q2 q3 q4 q5
  go_wp2_with fail
  clear p0 p1 p2 p3 p4 p5 q0 q1 q2 q3 q4 q5
  refine (eqLeaf k f n x _ HS.out).mono ?_; rintro e w9 ⟨rfl, hb9⟩
  have HI := Lib.hid (And.intro (HI.out.1.keep hb9) (And.intro (HI.out.2.1.keep hb9) (bnext HI.out.2.2 hb9))); clear hb9
  obtain ⟨p0, p1, p2, p3, p4, p5⟩ := HI.out.1.cells
  obtain ⟨q0, q1, q2, q3, q4, q5⟩ := HI.out.2.1.cells
  simp only [kind_mk, flag_mk, num_mk, text_mk] at p0 p1 p2 p3 q0 q1 q2 q3
  rw [HB.out.1] at p0 p1 p2 p3 p4 p5
  rw [HB.out.2] at q0 q1 q2 q3 q4 q5
  go_wp2_with fail
  clear p0 p1 p2 p3 p4 p5 q0 q1 q2 q3 q4 q5
  refine (markLeaf k f n x _).mono ?_; rintro e w9 ⟨rfl, hb9⟩
  have HI := Lib.hid (And.intro (HI.out.1.keep hb9) (And.intro (HI.out.2.1.keep hb9) (bnext HI.out.2.2 hb9))); clear hb9
  obtain ⟨p0, p1, p2, p3, p4, p5⟩ := HI.out.1.cells
  obtain ⟨q0, q1, q2, q3, q4, q5⟩ := HI.out.2.1.cells
  simp only [kind_mk, flag_mk, num_mk, text_mk] at p0 p1 p2 p3 q0 q1 q2 q3
  rw [HB.out.1] at p0 p1 p2 p3 p4 p5
  rw [HB.out.2] at q0 q1 q2 q3 q4 q5
  go_wp2_with fail
  clear p0 p1 p2 p3 p4 p5 q0 q1 q2 q3 q4 q5
  refine (heldLeaf k f n x _).mono ?_; rintro e w9 ⟨rfl, hb9⟩
  have HI := Lib.hid (And.intro (HI.out.1.keep hb9) (And.intro (HI.out.2.1.keep hb9) (bnext HI.out.2.2 hb9))); clear hb9
  go_wp2_with fail
  refine (HC2.out _ (tabs_keep HX.out.1 HI.out.2.2) (cases_keep HX.out.2.1 HI.out.2.2) (errs_keep HX.out.2.2 HI.out.2.2)).mono ?_; rintro e w5 ⟨rfl, hb5⟩
  have hal := alloc_below w5 #[.int .i64 k, .bool f, .int .i64 n, .string x, .slice none 0 0, .slice none 0 0] 25
  have hsp5 := (Spill.new w5 (.mk k f n x [] []) (.slice none 0 0) (.slice none 0 0) 25).cells
  have HI := Lib.hid (And.intro ((HI.out.1.keep hb5).keep hal) (And.intro ((HI.out.2.1.keep hb5).keep hal) (bnext (bnext HI.out.2.2 hb5) hal))); clear hb5 hal
  obtain ⟨r0, r1, r2, r3, r4, r5⟩ := hsp5
  simp only [kind_mk, flag_mk, num_mk, text_mk] at r0 r1 r2 r3
  obtain ⟨p0, p1, p2, p3, p4, p5⟩ := HI.out.1.cells
  obtain ⟨q0, q1, q2, q3, q4, q5⟩ := HI.out.2.1.cells
  simp only [kind_mk, flag_mk, num_mk, text_mk] at p0 p1 p2 p3 q0 q1 q2 q3
  rw [HB.out.1] at p0 p1 p2 p3 p4 p5
  rw [HB.out.2] at q0 q1 q2 q3 q4 q5
  go_wp2_with fail
  clear p0 p1 p2 p3 p4 p5 q0 q1 q2 q3 q4 q5
  clear r0 r1 r2 r3 r4 r5
  refine (eqLeaf k f n x _ HS.out).mono ?_; rintro e w9 ⟨rfl, hb9⟩
  have HI := Lib.hid (And.intro (HI.out.1.keep hb9) (And.intro (HI.out.2.1.keep hb9) (bnext HI.out.2.2 hb9))); clear hb9
  obtain ⟨p0, p1, p2, p3, p4, p5⟩ := HI.out.1.cells
  obtain ⟨q0, q1, q2, q3, q4, q5⟩ := HI.out.2.1.cells
  simp only [kind_mk, flag_mk, num_mk, text_mk] at p0 p1 p2 p3 q0 q1 q2 q3
  rw [HB.out.1] at p0 p1 p2 p3 p4 p5
  rw [HB.out.2] at q0 q1 q2 q3 q4 q5
  go_wp2_with fail
  clear p0 p1 p2 p3 p4 p5 q0 q1 q2 q3 q4 q5
  refine (heldLeaf k f n x _).mono ?_; rintro e w9 ⟨rfl, hb9⟩
  have HI := Lib.hid (And.intro (HI.out.1.keep hb9) (And.intro (HI.out.2.1.keep hb9) (bnext HI.out.2.2 hb9))); clear hb9
  go_wp2
  go_ret
  exact ⟨rfl, HI.out.2.2⟩

set_option maxRecDepth 100000 in
set_option maxHeartbeats 2000000 in
theorem lawInline (s : ByteArray) (hm : s.size ≤ maxLen) {w : World} (_h1 : Lib.VarReads Tryz.prog w "math/bits.deBruijn32tab" Rows.laid_math_bits_deBruijn32tab) (_h2 : Lib.VarReads Tryz.prog w "math/bits.deBruijn64tab" Rows.laid_math_bits_deBruijn64tab) (_h3 : Lib.VarReads Tryz.prog w "internal/strconv.uint64pow10" Rows.laid_internal_strconv_uint64pow10) (h4 : Lib.VarReads Tryz.prog w "unicode/utf8.acceptRanges" Rows.laid_unicode_utf8_acceptRanges) (h5 : Lib.VarReads Tryz.prog w "strconv.ErrRange" Rows.laid_strconv_ErrRange) (_h6 : Lib.VarReads Tryz.prog w "strconv.ErrSyntax" Rows.laid_strconv_ErrSyntax) (h7 : Lib.VarReads Tryz.prog w "unicode.CaseRanges" Rows.laid_unicode_CaseRanges) (h8 : Lib.VarReads Tryz.prog w "unicode/utf8.first" Rows.laid_unicode_utf8_first) :
    Calls Tryz.prog 5 #[.string s] w fun e w' => e = .returned (.bool true) ∧ Below w.heap.size w w' := by
  have hT := tabs_of h4 h8
  have hV := cases_of h7
  have hE := errs_of h5
  clear h4 h5 h7 h8
  unfold maxLen at hm
  by_cases hs : s.size ≤ 1048576
  rotate_left
  · go_enter Tryz.func5, Tryz.ntmps5
    go_wp2
    go_ret
    exact ⟨rfl, Below.refl _ _⟩
  have HX := Lib.hid (And.intro hT (And.intro hV hE)); clear hT hV hE
  have hsz := scT_size (inlB s)
  have hc1 : ∀ w0, Calls Tryz.prog 13 #[.string s] w0 fun e w' => e = .returned (.tuple #[.agg #[.int .i64 (scK (scalO (inlB s))), .bool (scF (scalO (inlB s))), .int .i64 (scN (scalO (inlB s))), .string (scT (scalO (inlB s))), .slice none 0 0, .slice none 0 0], .bool (scalO (inlB s)).isSome]) ∧ Below w0.heap.size w0 w' := fun w0 => sInline s w0 hs
  have hc2 : ∀ w0, Tabs w0 → Cases w0 → Errs w0 → Calls Tryz.prog 14 #[.string s] w0 fun e w' => e = .returned (.tuple #[.agg #[.int .i64 (scK (scalO (inlB s))), .bool (scF (scalO (inlB s))), .int .i64 (scN (scalO (inlB s))), .string (scT (scalO (inlB s))), .slice none 0 0, .slice none 0 0], .bool (scalO (inlB s)).isSome]) ∧ Below w0.heap.size w0 w' := fun w0 hT hV hE => iInline s w0 hs hT hV hE
  generalize scalO (inlB s) = o at hsz hc1 hc2
  generalize scK o = k at hc1 hc2
  generalize scF o = f at hc1 hc2
  generalize scN o = n at hc1 hc2
  generalize scT o = x at hsz hc1 hc2
  generalize o.isSome = b at hc1 hc2
  have HS := Lib.hid (show x.size ≤ 1048576 by omega)
  have HC1 := Lib.hid hc1; have HC2 := Lib.hid hc2
  have eb : (b != b) = false := by simp
  clear hc1 hc2 hsz
  go_enter Tryz.func5, Tryz.ntmps5
  go_wp2_with fail
  refine (HC1.out _).mono ?_; rintro e w1 ⟨rfl, hb1⟩
  have hsp1 := Spill.new w1 (.mk k f n x [] []) (.slice none 0 0) (.slice none 0 0) 25
  have hbw1 := hb1.trans ((alloc_below w1 #[.int .i64 k, .bool f, .int .i64 n, .string x, .slice none 0 0, .slice none 0 0] 25).mono hb1.size)
  obtain ⟨b3, hb3⟩ : ∃ b3, b3 = w1.heap.size := ⟨_, rfl⟩
  go_wp2_with fail
  refine (HC2.out _ (tabs_keep HX.out.1 hbw1) (cases_keep HX.out.2.1 hbw1) (errs_keep HX.out.2.2 hbw1)).mono ?_; rintro e w2 ⟨rfl, hb2⟩
  have hsp1 := hsp1.keep hb2
  have hbw2 := bnext hbw1 hb2
  have hsp2 := Spill.new w2 (.mk k f n x [] []) (.slice none 0 0) (.slice none 0 0) 25
  have hal := alloc_below w2 #[.int .i64 k, .bool f, .int .i64 n, .string x, .slice none 0 0, .slice none 0 0] 25
  have hsp1 := hsp1.keep hal
  have hbw2 := bnext hbw2 hal
  clear hal hb1 hb2 hbw1
  obtain ⟨b4, hb4⟩ : ∃ b4, b4 = w2.heap.size := ⟨_, rfl⟩
  rw [← hb3] at hsp1
  rw [← hb4] at hsp2
  have HI := Lib.hid (And.intro hsp1 (And.intro hsp2 hbw2)); clear hsp1 hsp2 hbw2
  have HB := Lib.hid (And.intro hb3 hb4)
  clear hb3 hb4
  obtain ⟨p0, p1, p2, p3, p4, p5⟩ := HI.out.1.cells
  obtain ⟨q0, q1, q2, q3, q4, q5⟩ := HI.out.2.1.cells
  simp only [kind_mk, flag_mk, num_mk, text_mk] at p0 p1 p2 p3 q0 q1 q2 q3
  rw [HB.out.1] at p0 p1 p2 p3 p4 p5
  rw [HB.out.2] at q0 q1 q2 q3 q4 q5
  go_wp2_with fail
  clear p0 p1 p2 p3 p4 p5 q0 q1 q2 q3 q4 q5
  refine (eqLeaf k f n x _ HS.out).mono ?_; rintro e w9 ⟨rfl, hb9⟩
  have HI := Lib.hid (And.intro (HI.out.1.keep hb9) (And.intro (HI.out.2.1.keep hb9) (bnext HI.out.2.2 hb9))); clear hb9
  obtain ⟨p0, p1, p2, p3, p4, p5⟩ := HI.out.1.cells
  obtain ⟨q0, q1, q2, q3, q4, q5⟩ := HI.out.2.1.cells
  simp only [kind_mk, flag_mk, num_mk, text_mk] at p0 p1 p2 p3 q0 q1 q2 q3
  rw [HB.out.1] at p0 p1 p2 p3 p4 p5
  rw [HB.out.2] at q0 q1 q2 q3 q4 q5
  go_wp2_with fail
  clear p0 p1 p2 p3 p4 p5 q0 q1 q2 q3 q4 q5
  refine (markLeaf k f n x _).mono ?_; rintro e w9 ⟨rfl, hb9⟩
  have HI := Lib.hid (And.intro (HI.out.1.keep hb9) (And.intro (HI.out.2.1.keep hb9) (bnext HI.out.2.2 hb9))); clear hb9
  obtain ⟨p0, p1, p2, p3, p4, p5⟩ := HI.out.1.cells
  obtain ⟨q0, q1, q2, q3, q4, q5⟩ := HI.out.2.1.cells
  simp only [kind_mk, flag_mk, num_mk, text_mk] at p0 p1 p2 p3 q0 q1 q2 q3
  rw [HB.out.1] at p0 p1 p2 p3 p4 p5
  rw [HB.out.2] at q0 q1 q2 q3 q4 q5
  go_wp2_with fail
  clear p0 p1 p2 p3 p4 p5 q0 q1 q2 q3 q4 q5
  refine (heldLeaf k f n x _).mono ?_; rintro e w9 ⟨rfl, hb9⟩
  have HI := Lib.hid (And.intro (HI.out.1.keep hb9) (And.intro (HI.out.2.1.keep hb9) (bnext HI.out.2.2 hb9))); clear hb9
  go_wp2_with fail
  refine (HC2.out _ (tabs_keep HX.out.1 HI.out.2.2) (cases_keep HX.out.2.1 HI.out.2.2) (errs_keep HX.out.2.2 HI.out.2.2)).mono ?_; rintro e w5 ⟨rfl, hb5⟩
  have hal := alloc_below w5 #[.int .i64 k, .bool f, .int .i64 n, .string x, .slice none 0 0, .slice none 0 0] 25
  have hsp5 := (Spill.new w5 (.mk k f n x [] []) (.slice none 0 0) (.slice none 0 0) 25).cells
  have HI := Lib.hid (And.intro ((HI.out.1.keep hb5).keep hal) (And.intro ((HI.out.2.1.keep hb5).keep hal) (bnext (bnext HI.out.2.2 hb5) hal))); clear hb5 hal
  obtain ⟨r0, r1, r2, r3, r4, r5⟩ := hsp5
  simp only [kind_mk, flag_mk, num_mk, text_mk] at r0 r1 r2 r3
  obtain ⟨p0, p1, p2, p3, p4, p5⟩ := HI.out.1.cells
  obtain ⟨q0, q1, q2, q3, q4, q5⟩ := HI.out.2.1.cells
  simp only [kind_mk, flag_mk, num_mk, text_mk] at p0 p1 p2 p3 q0 q1 q2 q3
  rw [HB.out.1] at p0 p1 p2 p3 p4 p5
  rw [HB.out.2] at q0 q1 q2 q3 q4 q5
  go_wp2_with fail
  clear p0 p1 p2 p3 p4 p5 q0 q1 q2 q3 q4 q5
  clear r0 r1 r2 r3 r4 r5
  refine (eqLeaf k f n x _ HS.out).mono ?_; rintro e w9 ⟨rfl, hb9⟩
  have HI := Lib.hid (And.intro (HI.out.1.keep hb9) (And.intro (HI.out.2.1.keep hb9) (bnext HI.out.2.2 hb9))); clear hb9
  obtain ⟨p0, p1, p2, p3, p4, p5⟩ := HI.out.1.cells
  obtain ⟨q0, q1, q2, q3, q4, q5⟩ := HI.out.2.1.cells
  simp only [kind_mk, flag_mk, num_mk, text_mk] at p0 p1 p2 p3 q0 q1 q2 q3
  rw [HB.out.1] at p0 p1 p2 p3 p4 p5
  rw [HB.out.2] at q0 q1 q2 q3 q4 q5
  go_wp2_with fail
  clear p0 p1 p2 p3 p4 p5 q0 q1 q2 q3 q4 q5
  refine (heldLeaf k f n x _).mono ?_; rintro e w9 ⟨rfl, hb9⟩
  have HI := Lib.hid (And.intro (HI.out.1.keep hb9) (And.intro (HI.out.2.1.keep hb9) (bnext HI.out.2.2 hb9))); clear hb9
  go_wp2
  go_ret
  exact ⟨rfl, HI.out.2.2⟩

end Go.Proofs.YtclffhejoneiaaaGreatDoor
