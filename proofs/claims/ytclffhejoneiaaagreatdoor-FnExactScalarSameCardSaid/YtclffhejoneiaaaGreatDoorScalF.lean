/- ScalP, ScalS, ScalI, ScalR, ScalE, merged. -/
import Derived.Test.YtclffhejoneiaaaGreatDoorRqR
import Derived.Test.YtclffhejoneiaaaGreatDoorWhoP
import Derived.Test.YtclffhejoneiaaaGreatDoorPlainT
import Derived.Test.YtclffhejoneiaaaGreatDoorTreeI
import Derived.Test.YtclffhejoneiaaaGreatDoorZero
import Derived.Test.YtclffhejoneiaaaGreatDoorWhoU
import Derived.Test.YtclffhejoneiaaaGreatDoorWhoM
import Derived.Test.YtclffhejoneiaaaGreatDoorRqM
import Derived.Test.YtclffhejoneiaaaGreatDoorTreeQ
namespace Go.Proofs.YtclffhejoneiaaaGreatDoor
open Go.RowKit

structure Sc where
  kind : Int
  flag : Bool
  num : Int
  text : ByteArray
def noB : ByteArray := ⟨#[]⟩
def scTail (s : ByteArray) : Option Sc := if plainAll s = true then some ⟨4, false, 0, s⟩ else none
def scNum (s : ByteArray) : Option Sc := match whoQ s 0 with
  | none => scTail s
  | some (n, e) => if e = s.size then some ⟨3, false, n, noB⟩ else scTail s
def scQuote (s : ByteArray) : Option Sc := match readQ s 0 with
  | none => none
  | some (l, e) => if e = s.size ∧ l.length ≤ 400 then some ⟨4, false, 0, ⟨l.toArray⟩⟩ else none
def scalO (s : ByteArray) : Option Sc :=
  if (s.toList == [91, 93]) = true then some ⟨5, false, 0, noB⟩
  else if (s.toList == [123, 125]) = true then some ⟨6, false, 0, noB⟩
  else if (s.toList == [110, 117, 108, 108]) = true then some ⟨1, false, 0, noB⟩
  else if (s.toList == [126]) = true then some ⟨1, false, 0, noB⟩
  else if (s.toList == [116, 114, 117, 101]) = true then some ⟨2, true, 0, noB⟩
  else if (s.toList == [102, 97, 108, 115, 101]) = true then some ⟨2, false, 0, noB⟩
  else if 0 < s.size ∧ bt s 0 = 34 then scQuote s
  else scNum s
def scK : Option Sc → Int | none => 0 | some x => x.kind
def scF : Option Sc → Bool | none => false | some x => x.flag
def scN : Option Sc → Int | none => 0 | some x => x.num
def scT : Option Sc → ByteArray | none => noB | some x => x.text
/-- The answer of ReadScalar and Inline. -/
def ScalV (o : Option Sc) (w : World) (e : Ending) (w' : World) : Prop :=
  e = .returned (.tuple #[.agg #[.int .i64 (scK o), .bool (scF o), .int .i64 (scN o), .string (scT o), .slice none 0 0, .slice none 0 0], .bool o.isSome]) ∧ Below w.heap.size w w'
def ScalP (s : ByteArray) (w : World) (e : Ending) (w' : World) : Prop := ScalV (scalO s) w e w'
theorem scalP_none {s : ByteArray} {w w' : World} (h : scalO s = none) (hb : Below w.heap.size w w') :
    ScalP s w (.returned (.tuple #[.agg #[.int .i64 0, .bool false, .int .i64 0, .string ⟨#[]⟩, .slice none 0 0, .slice none 0 0], .bool false])) w' := by
  refine ⟨?_, hb⟩; rw [h]; rfl
theorem scalP_some {s : ByteArray} {w w' : World} {k n : Int} {f : Bool} {t : ByteArray} (h : scalO s = some ⟨k, f, n, t⟩) (hb : Below w.heap.size w w') :
    ScalP s w (.returned (.tuple #[.agg #[.int .i64 k, .bool f, .int .i64 n, .string t, .slice none 0 0, .slice none 0 0], .bool true])) w' := by
  refine ⟨?_, hb⟩; rw [h]; rfl
theorem beqL {s : ByteArray} {l m : List UInt8} (h : (s.toList == l) = true) (hne : l ≠ m) : (s.toList == m) = false := by
  rw [beq_iff_eq] at h
  rw [h]; exact beq_eq_false_iff_ne.2 hne
theorem sc_list {s : ByteArray} (h : (s.toList == [91, 93]) = true) : scalO s = some ⟨5, false, 0, noB⟩ := if_pos h
theorem sc_map {s : ByteArray} (h : (s.toList == [123, 125]) = true) : scalO s = some ⟨6, false, 0, noB⟩ := by
  rw [scalO, beqL h (by decide), h]; rfl
theorem sc_null {s : ByteArray} (h : (s.toList == [110, 117, 108, 108]) = true) : scalO s = some ⟨1, false, 0, noB⟩ := by
  rw [scalO, beqL h (by decide), beqL h (by decide), h]; rfl
theorem sc_tilde {s : ByteArray} (h : (s.toList == [126]) = true) : scalO s = some ⟨1, false, 0, noB⟩ := by
  rw [scalO, beqL h (by decide), beqL h (by decide), beqL h (by decide), h]; rfl
theorem sc_true {s : ByteArray} (h : (s.toList == [116, 114, 117, 101]) = true) : scalO s = some ⟨2, true, 0, noB⟩ := by
  rw [scalO, beqL h (by decide), beqL h (by decide), beqL h (by decide), beqL h (by decide), h]; rfl
theorem sc_false {s : ByteArray} (h : (s.toList == [102, 97, 108, 115, 101]) = true) : scalO s = some ⟨2, false, 0, noB⟩ := by
  rw [scalO, beqL h (by decide), beqL h (by decide), beqL h (by decide), beqL h (by decide), beqL h (by decide), h]; rfl
/-- None of the six words. -/
def noWord (s : ByteArray) : Prop := (s.toList == [91, 93]) = false ∧ (s.toList == [123, 125]) = false ∧ (s.toList == [110, 117, 108, 108]) = false ∧ (s.toList == [126]) = false ∧ (s.toList == [116, 114, 117, 101]) = false ∧ (s.toList == [102, 97, 108, 115, 101]) = false
theorem sc_quote {s : ByteArray} (h : noWord s) (hq : 0 < s.size ∧ bt s 0 = 34) : scalO s = scQuote s := by
  obtain ⟨h1, h2, h3, h4, h5, h6⟩ := h
  rw [scalO, h1, h2, h3, h4, h5, h6, if_pos hq]; rfl
theorem sc_num {s : ByteArray} (h : noWord s) (hq : ¬ (0 < s.size ∧ bt s 0 = 34)) : scalO s = scNum s := by
  obtain ⟨h1, h2, h3, h4, h5, h6⟩ := h
  rw [scalO, h1, h2, h3, h4, h5, h6, if_neg hq]; rfl
theorem sc_q_none {s : ByteArray} (h : noWord s) (hq : 0 < s.size ∧ bt s 0 = 34) (hr : readQ s 0 = none) : scalO s = none := by rw [sc_quote h hq, scQuote, hr]
theorem sc_q_bad {s : ByteArray} {l : List UInt8} {e : Nat} (h : noWord s) (hq : 0 < s.size ∧ bt s 0 = 34) (hr : readQ s 0 = some (l, e)) (hb : ¬ (e = s.size ∧ l.length ≤ 400)) : scalO s = none := by rw [sc_quote h hq, scQuote, hr]; exact if_neg hb
theorem sc_q_yes {s : ByteArray} {l : List UInt8} {e : Nat} (h : noWord s) (hq : 0 < s.size ∧ bt s 0 = 34) (hr : readQ s 0 = some (l, e)) (hb : e = s.size ∧ l.length ≤ 400) : scalO s = some ⟨4, false, 0, ⟨l.toArray⟩⟩ := by rw [sc_quote h hq, scQuote, hr]; exact if_pos hb
theorem sc_n_yes {s : ByteArray} {n : Int} {e : Nat} (h : noWord s) (hq : ¬ (0 < s.size ∧ bt s 0 = 34)) (hr : whoQ s 0 = some (n, e)) (hb : e = s.size) : scalO s = some ⟨3, false, n, noB⟩ := by rw [sc_num h hq, scNum, hr]; exact if_pos hb
theorem sc_n_no {s : ByteArray} (h : noWord s) (hq : ¬ (0 < s.size ∧ bt s 0 = 34)) (hr : whoE (whoQ s 0) ≠ s.size ∨ whoE (whoQ s 0) ≤ 0) : scalO s = scTail s := by
  rw [sc_num h hq, scNum]
  cases hw : whoQ s 0 with
  | none => rfl
  | some x =>
    obtain ⟨n, e⟩ := x
    rw [hw] at hr
    simp only [whoE] at hr
    refine if_neg fun he => ?_
    subst he
    have h0 : 0 < s.size := by
      by_cases h0 : 0 < s.size
      · exact h0
      · rw [who_out (by omega)] at hw; cases hw
    omega
theorem sc_plain {s : ByteArray} (h : scalO s = scTail s) (hp : plainAll s = true) : scalO s = some ⟨4, false, 0, s⟩ := by rw [h, scTail, if_pos hp]
theorem sc_no {s : ByteArray} (h : scalO s = scTail s) (hp : plainAll s = false) : scalO s = none := by rw [h, scTail, hp]; rfl

end Go.Proofs.YtclffhejoneiaaaGreatDoor
namespace Go.Proofs.YtclffhejoneiaaaGreatDoor
open Go.RowKit

set_option maxHeartbeats 1000000 in
set_option maxRecDepth 100000 in
theorem sScal_w0 (s : ByteArray) (w : World) (_hs : s.size ≤ 1048576) (c0 : (s.toList == [91, 93]) = true) : Calls Tryz.prog 6 #[.string s] w (ScalP s w) := by
  have HZ := Lib.hid (ZT.new w)
  have H := Lib.hid (sc_list c0)
  have c1 : (s.toList == [123, 125]) = false := beqL c0 (by decide)
  have c2 : (s.toList == [110, 117, 108, 108]) = false := beqL c0 (by decide)
  have c3 : (s.toList == [126]) = false := beqL c0 (by decide)
  have c4 : (s.toList == [116, 114, 117, 101]) = false := beqL c0 (by decide)
  have c5 : (s.toList == [102, 97, 108, 115, 101]) = false := beqL c0 (by decide)
  go_enter Tryz.func6, Tryz.ntmps6
  go_wp2_with fail
  refine bodyPost_ret (v := .tuple #[.agg #[.int .i64 5, .bool false, .int .i64 0, .string ⟨#[]⟩, .slice none 0 0, .slice none 0 0], .bool true]) (by simp [results, Tryz.results6, go_sem]) rfl ?_
  exact scalP_some H.out ((Below.refl _ _).alloc (Nat.le_refl _) _)

set_option maxHeartbeats 1000000 in
set_option maxRecDepth 100000 in
theorem sScal_w1 (s : ByteArray) (w : World) (_hs : s.size ≤ 1048576) (c1 : (s.toList == [123, 125]) = true) : Calls Tryz.prog 6 #[.string s] w (ScalP s w) := by
  have HZ := Lib.hid (ZT.new w)
  have H := Lib.hid (sc_map c1)
  have c0 : (s.toList == [91, 93]) = false := beqL c1 (by decide)
  have c2 : (s.toList == [110, 117, 108, 108]) = false := beqL c1 (by decide)
  have c3 : (s.toList == [126]) = false := beqL c1 (by decide)
  have c4 : (s.toList == [116, 114, 117, 101]) = false := beqL c1 (by decide)
  have c5 : (s.toList == [102, 97, 108, 115, 101]) = false := beqL c1 (by decide)
  go_enter Tryz.func6, Tryz.ntmps6
  go_wp2_with fail
  refine bodyPost_ret (v := .tuple #[.agg #[.int .i64 6, .bool false, .int .i64 0, .string ⟨#[]⟩, .slice none 0 0, .slice none 0 0], .bool true]) (by simp [results, Tryz.results6, go_sem]) rfl ?_
  exact scalP_some H.out ((Below.refl _ _).alloc (Nat.le_refl _) _)

set_option maxHeartbeats 1000000 in
set_option maxRecDepth 100000 in
theorem sScal_w2 (s : ByteArray) (w : World) (_hs : s.size ≤ 1048576) (c2 : (s.toList == [110, 117, 108, 108]) = true) : Calls Tryz.prog 6 #[.string s] w (ScalP s w) := by
  have HZ := Lib.hid (ZT.new w)
  have H := Lib.hid (sc_null c2)
  have c0 : (s.toList == [91, 93]) = false := beqL c2 (by decide)
  have c1 : (s.toList == [123, 125]) = false := beqL c2 (by decide)
  have c3 : (s.toList == [126]) = false := beqL c2 (by decide)
  have c4 : (s.toList == [116, 114, 117, 101]) = false := beqL c2 (by decide)
  have c5 : (s.toList == [102, 97, 108, 115, 101]) = false := beqL c2 (by decide)
  go_enter Tryz.func6, Tryz.ntmps6
  go_wp2_with fail
  refine bodyPost_ret (v := .tuple #[.agg #[.int .i64 1, .bool false, .int .i64 0, .string ⟨#[]⟩, .slice none 0 0, .slice none 0 0], .bool true]) (by simp [results, Tryz.results6, go_sem]) rfl ?_
  exact scalP_some H.out ((Below.refl _ _).alloc (Nat.le_refl _) _)

set_option maxHeartbeats 1000000 in
set_option maxRecDepth 100000 in
theorem sScal_w3 (s : ByteArray) (w : World) (_hs : s.size ≤ 1048576) (c3 : (s.toList == [126]) = true) : Calls Tryz.prog 6 #[.string s] w (ScalP s w) := by
  have HZ := Lib.hid (ZT.new w)
  have H := Lib.hid (sc_tilde c3)
  have c0 : (s.toList == [91, 93]) = false := beqL c3 (by decide)
  have c1 : (s.toList == [123, 125]) = false := beqL c3 (by decide)
  have c2 : (s.toList == [110, 117, 108, 108]) = false := beqL c3 (by decide)
  have c4 : (s.toList == [116, 114, 117, 101]) = false := beqL c3 (by decide)
  have c5 : (s.toList == [102, 97, 108, 115, 101]) = false := beqL c3 (by decide)
  go_enter Tryz.func6, Tryz.ntmps6
  go_wp2_with fail
  refine bodyPost_ret (v := .tuple #[.agg #[.int .i64 1, .bool false, .int .i64 0, .string ⟨#[]⟩, .slice none 0 0, .slice none 0 0], .bool true]) (by simp [results, Tryz.results6, go_sem]) rfl ?_
  exact scalP_some H.out ((Below.refl _ _).alloc (Nat.le_refl _) _)

set_option maxHeartbeats 1000000 in
set_option maxRecDepth 100000 in
theorem sScal_w4 (s : ByteArray) (w : World) (_hs : s.size ≤ 1048576) (c4 : (s.toList == [116, 114, 117, 101]) = true) : Calls Tryz.prog 6 #[.string s] w (ScalP s w) := by
  have HZ := Lib.hid (ZT.new w)
  have H := Lib.hid (sc_true c4)
  have c0 : (s.toList == [91, 93]) = false := beqL c4 (by decide)
  have c1 : (s.toList == [123, 125]) = false := beqL c4 (by decide)
  have c2 : (s.toList == [110, 117, 108, 108]) = false := beqL c4 (by decide)
  have c3 : (s.toList == [126]) = false := beqL c4 (by decide)
  have c5 : (s.toList == [102, 97, 108, 115, 101]) = false := beqL c4 (by decide)
  go_enter Tryz.func6, Tryz.ntmps6
  go_wp2_with fail
  refine bodyPost_ret (v := .tuple #[.agg #[.int .i64 2, .bool true, .int .i64 0, .string ⟨#[]⟩, .slice none 0 0, .slice none 0 0], .bool true]) (by simp [results, Tryz.results6, go_sem]) rfl ?_
  exact scalP_some H.out ((Below.refl _ _).alloc (Nat.le_refl _) _)

set_option maxHeartbeats 1000000 in
set_option maxRecDepth 100000 in
theorem sScal_w5 (s : ByteArray) (w : World) (_hs : s.size ≤ 1048576) (c5 : (s.toList == [102, 97, 108, 115, 101]) = true) : Calls Tryz.prog 6 #[.string s] w (ScalP s w) := by
  have HZ := Lib.hid (ZT.new w)
  have H := Lib.hid (sc_false c5)
  have c0 : (s.toList == [91, 93]) = false := beqL c5 (by decide)
  have c1 : (s.toList == [123, 125]) = false := beqL c5 (by decide)
  have c2 : (s.toList == [110, 117, 108, 108]) = false := beqL c5 (by decide)
  have c3 : (s.toList == [126]) = false := beqL c5 (by decide)
  have c4 : (s.toList == [116, 114, 117, 101]) = false := beqL c5 (by decide)
  go_enter Tryz.func6, Tryz.ntmps6
  go_wp2_with fail
  refine bodyPost_ret (v := .tuple #[.agg #[.int .i64 2, .bool false, .int .i64 0, .string ⟨#[]⟩, .slice none 0 0, .slice none 0 0], .bool true]) (by simp [results, Tryz.results6, go_sem]) rfl ?_
  exact scalP_some H.out ((Below.refl _ _).alloc (Nat.le_refl _) _)

set_option maxHeartbeats 1000000 in
set_option maxRecDepth 100000 in
theorem sScal_q0 (s : ByteArray) (w : World) (hs : s.size ≤ 1048576) (hnw : noWord s) (hq : 0 < s.size ∧ bt s 0 = 34) (hr : readQ s 0 = none) : Calls Tryz.prog 6 #[.string s] w (ScalP s w) := by
  have HZ := Lib.hid (ZT.new w)
  have HNW := Lib.hid hnw
  obtain ⟨c0, c1, c2, c3, c4, c5⟩ := hnw
  have HQ := Lib.hid hq
  obtain ⟨h0, hb0⟩ := hq
  have e0 : ((s[0].toNat : Int) == 34) = true := by rw [← bt_eq s 0 h0, hb0]; rfl
  have hpos : (0 : Int) < (s.size : Int) := by omega
  clear hb0
  have HR := Lib.hid (fun w0 => sReadQuoted s 0 w0 hs)
  have H := Lib.hid (sc_q_none HNW.out HQ.out hr)
  rw [hr] at HR
  simp only [qText, qEnd] at HR
  have n0 : ((-1 : Int) != (s.size : Int)) = true := by
    have : ((-1 : Int) == (s.size : Int)) = false := by rw [beq_eq_false_iff_ne]; omega
    rw [bne, this]; rfl
  have n1 : ((-1 : Int) == (s.size : Int)) = false := by rw [beq_eq_false_iff_ne]; omega
  clear hr
  go_enter Tryz.func6, Tryz.ntmps6
  go_wp2_with fail
  refine (HR.out _).mono ?_; rintro e w1 ⟨rfl, hb1⟩
  have HZ := Lib.hid (HZ.out.keep hb1); clear hb1
  obtain ⟨r0, r1, r2, r3, r4, r5⟩ := HZ.out.cells
  obtain ⟨g0, g1, g2, g3, g4, g5⟩ := HZ.out.frozen
  go_wp2_with fail
  refine bodyPost_ret (v := .tuple #[.agg #[.int .i64 0, .bool false, .int .i64 0, .string ⟨#[]⟩, .slice none 0 0, .slice none 0 0], .bool false]) (by simp [results, Tryz.results6, go_sem, HZ.out.cells]) rfl ?_
  exact scalP_none H.out ((((((HZ.out.2.setCell (p := ⟨w.heap.size, 0, none⟩) (Nat.le_refl _) _).setCell (p := ⟨w.heap.size, 1, none⟩) (Nat.le_refl _) _).setCell (p := ⟨w.heap.size, 2, none⟩) (Nat.le_refl _) _).setCell (p := ⟨w.heap.size, 3, none⟩) (Nat.le_refl _) _).setCell (p := ⟨w.heap.size, 4, none⟩) (Nat.le_refl _) _).setCell (p := ⟨w.heap.size, 5, none⟩) (Nat.le_refl _) _)

set_option maxHeartbeats 1000000 in
set_option maxRecDepth 100000 in
theorem sScal_q1 (s : ByteArray) (w : World) (hs : s.size ≤ 1048576) (hnw : noWord s) (hq : 0 < s.size ∧ bt s 0 = 34) (l : List UInt8) (e : Nat) (hr : readQ s 0 = some (l, e)) (he : ¬ e = s.size) : Calls Tryz.prog 6 #[.string s] w (ScalP s w) := by
  have HZ := Lib.hid (ZT.new w)
  have HNW := Lib.hid hnw
  obtain ⟨c0, c1, c2, c3, c4, c5⟩ := hnw
  have HQ := Lib.hid hq
  obtain ⟨h0, hb0⟩ := hq
  have e0 : ((s[0].toNat : Int) == 34) = true := by rw [← bt_eq s 0 h0, hb0]; rfl
  have hpos : (0 : Int) < (s.size : Int) := by omega
  clear hb0
  have HR := Lib.hid (fun w0 => sReadQuoted s 0 w0 hs)
  have H := Lib.hid (sc_q_bad HNW.out HQ.out hr (fun h => he h.1))
  rw [hr] at HR
  simp only [qText, qEnd] at HR
  obtain ⟨key, hkey⟩ : ∃ key : ByteArray, key = ⟨l.toArray⟩ := ⟨_, rfl⟩
  have hks : key.size = l.length := by rw [hkey]; show l.toArray.size = _; simp
  rw [← hkey] at HR
  have n1 : ((e : Int) == (s.size : Int)) = false := by rw [beq_eq_false_iff_ne]; omega
  have n0 : ((e : Int) != (s.size : Int)) = true := by rw [bne, n1]; rfl
  clear hr hkey hks he
  go_enter Tryz.func6, Tryz.ntmps6
  go_wp2_with fail
  refine (HR.out _).mono ?_; rintro e w1 ⟨rfl, hb1⟩
  have HZ := Lib.hid (HZ.out.keep hb1); clear hb1
  obtain ⟨r0, r1, r2, r3, r4, r5⟩ := HZ.out.cells
  obtain ⟨g0, g1, g2, g3, g4, g5⟩ := HZ.out.frozen
  go_wp2_with fail
  refine bodyPost_ret (v := .tuple #[.agg #[.int .i64 0, .bool false, .int .i64 0, .string ⟨#[]⟩, .slice none 0 0, .slice none 0 0], .bool false]) (by simp [results, Tryz.results6, go_sem, HZ.out.cells]) rfl ?_
  exact scalP_none H.out ((((((HZ.out.2.setCell (p := ⟨w.heap.size, 0, none⟩) (Nat.le_refl _) _).setCell (p := ⟨w.heap.size, 1, none⟩) (Nat.le_refl _) _).setCell (p := ⟨w.heap.size, 2, none⟩) (Nat.le_refl _) _).setCell (p := ⟨w.heap.size, 3, none⟩) (Nat.le_refl _) _).setCell (p := ⟨w.heap.size, 4, none⟩) (Nat.le_refl _) _).setCell (p := ⟨w.heap.size, 5, none⟩) (Nat.le_refl _) _)

set_option maxHeartbeats 1000000 in
set_option maxRecDepth 100000 in
theorem sScal_q2 (s : ByteArray) (w : World) (hs : s.size ≤ 1048576) (hnw : noWord s) (hq : 0 < s.size ∧ bt s 0 = 34) (l : List UInt8) (e : Nat) (hr : readQ s 0 = some (l, e)) (he : e = s.size) (hk : l.length ≤ 400) : Calls Tryz.prog 6 #[.string s] w (ScalP s w) := by
  have HZ := Lib.hid (ZT.new w)
  have HNW := Lib.hid hnw
  obtain ⟨c0, c1, c2, c3, c4, c5⟩ := hnw
  have HQ := Lib.hid hq
  obtain ⟨h0, hb0⟩ := hq
  have e0 : ((s[0].toNat : Int) == 34) = true := by rw [← bt_eq s 0 h0, hb0]; rfl
  have hpos : (0 : Int) < (s.size : Int) := by omega
  clear hb0
  have HR := Lib.hid (fun w0 => sReadQuoted s 0 w0 hs)
  have H := Lib.hid (sc_q_yes HNW.out HQ.out hr ⟨he, hk⟩)
  rw [hr] at HR
  simp only [qText, qEnd] at HR
  obtain ⟨key, hkey⟩ : ∃ key : ByteArray, key = ⟨l.toArray⟩ := ⟨_, rfl⟩
  have hks : key.size = l.length := by rw [hkey]; show l.toArray.size = _; simp
  rw [← hkey] at HR H
  have n1 : ((e : Int) == (s.size : Int)) = true := by rw [he]; simp
  have n0 : ((e : Int) != (s.size : Int)) = false := by rw [bne, n1]; rfl
  have n2 : decide (400 < key.size) = false := decide_eq_false (by omega)
  have n3 : decide ((400 : Int) < (key.size : Int)) = false := decide_eq_false (by omega)
  clear hr hkey hks he hk
  go_enter Tryz.func6, Tryz.ntmps6
  go_wp2_with fail
  refine (HR.out _).mono ?_; rintro e w1 ⟨rfl, hb1⟩
  have HZ := Lib.hid (HZ.out.keep hb1); clear hb1
  go_wp2_with fail
  refine (sTextTree _ _).mono ?_; rintro e w1 ⟨rfl, hb1⟩
  have HZ := Lib.hid (HZ.out.keep hb1); clear hb1
  obtain ⟨r0, r1, r2, r3, r4, r5⟩ := HZ.out.cells
  obtain ⟨g0, g1, g2, g3, g4, g5⟩ := HZ.out.frozen
  go_wp2_with fail
  refine bodyPost_ret (v := .tuple #[.agg #[.int .i64 4, .bool false, .int .i64 0, .string key, .slice none 0 0, .slice none 0 0], .bool true]) (by simp [results, Tryz.results6, go_sem, HZ.out.cells]) rfl ?_
  exact scalP_some H.out ((((((HZ.out.2.setCell (p := ⟨w.heap.size, 0, none⟩) (Nat.le_refl _) _).setCell (p := ⟨w.heap.size, 1, none⟩) (Nat.le_refl _) _).setCell (p := ⟨w.heap.size, 2, none⟩) (Nat.le_refl _) _).setCell (p := ⟨w.heap.size, 3, none⟩) (Nat.le_refl _) _).setCell (p := ⟨w.heap.size, 4, none⟩) (Nat.le_refl _) _).setCell (p := ⟨w.heap.size, 5, none⟩) (Nat.le_refl _) _)

set_option maxHeartbeats 1000000 in
set_option maxRecDepth 100000 in
theorem sScal_q3 (s : ByteArray) (w : World) (hs : s.size ≤ 1048576) (hnw : noWord s) (hq : 0 < s.size ∧ bt s 0 = 34) (l : List UInt8) (e : Nat) (hr : readQ s 0 = some (l, e)) (he : e = s.size) (hk : ¬ l.length ≤ 400) : Calls Tryz.prog 6 #[.string s] w (ScalP s w) := by
  have HZ := Lib.hid (ZT.new w)
  have HNW := Lib.hid hnw
  obtain ⟨c0, c1, c2, c3, c4, c5⟩ := hnw
  have HQ := Lib.hid hq
  obtain ⟨h0, hb0⟩ := hq
  have e0 : ((s[0].toNat : Int) == 34) = true := by rw [← bt_eq s 0 h0, hb0]; rfl
  have hpos : (0 : Int) < (s.size : Int) := by omega
  clear hb0
  have HR := Lib.hid (fun w0 => sReadQuoted s 0 w0 hs)
  have H := Lib.hid (sc_q_bad HNW.out HQ.out hr (fun h => hk h.2))
  rw [hr] at HR
  simp only [qText, qEnd] at HR
  obtain ⟨key, hkey⟩ : ∃ key : ByteArray, key = ⟨l.toArray⟩ := ⟨_, rfl⟩
  have hks : key.size = l.length := by rw [hkey]; show l.toArray.size = _; simp
  rw [← hkey] at HR
  have n1 : ((e : Int) == (s.size : Int)) = true := by rw [he]; simp
  have n0 : ((e : Int) != (s.size : Int)) = false := by rw [bne, n1]; rfl
  have n2 : decide (400 < key.size) = true := decide_eq_true (by omega)
  have n3 : decide ((400 : Int) < (key.size : Int)) = true := decide_eq_true (by omega)
  clear hr hkey hks he hk
  go_enter Tryz.func6, Tryz.ntmps6
  go_wp2_with fail
  refine (HR.out _).mono ?_; rintro e w1 ⟨rfl, hb1⟩
  have HZ := Lib.hid (HZ.out.keep hb1); clear hb1
  obtain ⟨r0, r1, r2, r3, r4, r5⟩ := HZ.out.cells
  obtain ⟨g0, g1, g2, g3, g4, g5⟩ := HZ.out.frozen
  go_wp2_with fail
  refine bodyPost_ret (v := .tuple #[.agg #[.int .i64 0, .bool false, .int .i64 0, .string ⟨#[]⟩, .slice none 0 0, .slice none 0 0], .bool false]) (by simp [results, Tryz.results6, go_sem, HZ.out.cells]) rfl ?_
  exact scalP_none H.out ((((((HZ.out.2.setCell (p := ⟨w.heap.size, 0, none⟩) (Nat.le_refl _) _).setCell (p := ⟨w.heap.size, 1, none⟩) (Nat.le_refl _) _).setCell (p := ⟨w.heap.size, 2, none⟩) (Nat.le_refl _) _).setCell (p := ⟨w.heap.size, 3, none⟩) (Nat.le_refl _) _).setCell (p := ⟨w.heap.size, 4, none⟩) (Nat.le_refl _) _).setCell (p := ⟨w.heap.size, 5, none⟩) (Nat.le_refl _) _)

set_option maxHeartbeats 1000000 in
set_option maxRecDepth 100000 in
theorem sScal_n1 (s : ByteArray) (w : World) (hs : s.size ≤ 1048576) (hnw : noWord s) (hq : ¬ (0 < s.size ∧ bt s 0 = 34)) (n : Int) (e : Nat) (hr : whoQ s 0 = some (n, e)) (he : e = s.size) (hp : 0 < e) : Calls Tryz.prog 6 #[.string s] w (ScalP s w) := by
  have HZ := Lib.hid (ZT.new w)
  have HNW := Lib.hid hnw
  obtain ⟨c0, c1, c2, c3, c4, c5⟩ := hnw
  have HQ := Lib.hid hq; clear hq
  have HW := Lib.hid (fun w0 => sReadWhole s 0 w0 hs)
  have H := Lib.hid (sc_n_yes HNW.out HQ.out hr he)
  rw [hr] at HW
  simp only [whoE, whoN] at HW
  have n1 : ((e : Int) == (s.size : Int)) = true := by rw [he]; simp
  have n2 : decide ((0 : Int) < (e : Int)) = true := decide_eq_true (by omega)
  have n3 : decide (0 < e) = true := decide_eq_true hp
  have h0 : 0 < s.size := by omega
  have e0 : ((s[0].toNat : Int) == 34) = false := by
    rw [beq_eq_false_iff_ne]; intro h; exact HQ.out ⟨h0, by rw [bt_eq s 0 h0]; omega⟩
  have hpos : (0 : Int) < (s.size : Int) := by omega
  clear hr he hp
  go_enter Tryz.func6, Tryz.ntmps6
  go_wp2_with fail
  refine (HW.out _).mono ?_; rintro e w1 ⟨rfl, hb1⟩
  have HZ := Lib.hid (HZ.out.keep hb1); clear hb1
  go_wp2_with fail
  refine (sIntTree _ _).mono ?_; rintro e w1 ⟨rfl, hb1⟩
  have HZ := Lib.hid (HZ.out.keep hb1); clear hb1
  obtain ⟨r0, r1, r2, r3, r4, r5⟩ := HZ.out.cells
  obtain ⟨g0, g1, g2, g3, g4, g5⟩ := HZ.out.frozen
  go_wp2_with fail
  refine bodyPost_ret (v := .tuple #[.agg #[.int .i64 3, .bool false, .int .i64 n, .string ⟨#[]⟩, .slice none 0 0, .slice none 0 0], .bool true]) (by simp [results, Tryz.results6, go_sem, HZ.out.cells]) rfl ?_
  exact scalP_some H.out ((((((HZ.out.2.setCell (p := ⟨w.heap.size, 0, none⟩) (Nat.le_refl _) _).setCell (p := ⟨w.heap.size, 1, none⟩) (Nat.le_refl _) _).setCell (p := ⟨w.heap.size, 2, none⟩) (Nat.le_refl _) _).setCell (p := ⟨w.heap.size, 3, none⟩) (Nat.le_refl _) _).setCell (p := ⟨w.heap.size, 4, none⟩) (Nat.le_refl _) _).setCell (p := ⟨w.heap.size, 5, none⟩) (Nat.le_refl _) _)

set_option maxHeartbeats 1000000 in
set_option maxRecDepth 100000 in
theorem sScal_p1a (s : ByteArray) (w : World) (hs : s.size ≤ 1048576) (hnw : noWord s) (hq : ¬ (0 < s.size ∧ bt s 0 = 34)) (hw : whoE (whoQ s 0) ≠ s.size ∨ whoE (whoQ s 0) ≤ 0) (hp : plainAll s = true) (h0 : 0 < s.size) : Calls Tryz.prog 6 #[.string s] w (ScalP s w) := by
  have HZ := Lib.hid (ZT.new w)
  have HNW := Lib.hid hnw
  obtain ⟨c0, c1, c2, c3, c4, c5⟩ := hnw
  have HQ := Lib.hid hq; clear hq
  have HW := Lib.hid (fun w0 => sReadWhole s 0 w0 hs)
  have H := Lib.hid (sc_plain (sc_n_no HNW.out HQ.out hw) hp)
  generalize whoE (whoQ s 0) = E at HW hw
  generalize whoN (whoQ s 0) = n at HW
  have hfx : ((E == (s.size : Int)) = true ∧ decide (0 < E) = false) ∨ (E == (s.size : Int)) = false := by
    by_cases g : E = s.size
    · left; exact ⟨by rw [g]; simp, decide_eq_false (by omega)⟩
    · right; rw [beq_eq_false_iff_ne]; exact g
  clear hw
  have hpl := fun w0 => sPlainAll s w0 hs
  rw [hp] at hpl
  have HPL := Lib.hid hpl; clear hpl hp
  have e0 : ((s[0].toNat : Int) == 34) = false := by
    rw [beq_eq_false_iff_ne]; intro h; exact HQ.out ⟨h0, by rw [bt_eq s 0 h0]; omega⟩
  have hpos : (0 : Int) < (s.size : Int) := by omega
  rcases hfx with ⟨f1, f2⟩ | f1
  all_goals
    go_enter Tryz.func6, Tryz.ntmps6
    go_wp2_with fail
    refine (HW.out _).mono ?_; rintro e w1 ⟨rfl, hb1⟩
    have HZ := Lib.hid (HZ.out.keep hb1); clear hb1
    go_wp2_with fail
    refine (HPL.out _).mono ?_; rintro e w1 ⟨rfl, hb1⟩
    have HZ := Lib.hid (HZ.out.keep hb1); clear hb1
    go_wp2_with fail
    refine (sTextTree _ _).mono ?_; rintro e w1 ⟨rfl, hb1⟩
    have HZ := Lib.hid (HZ.out.keep hb1); clear hb1
    obtain ⟨r0, r1, r2, r3, r4, r5⟩ := HZ.out.cells
    obtain ⟨g0, g1, g2, g3, g4, g5⟩ := HZ.out.frozen
    go_wp2_with fail
    refine bodyPost_ret (v := .tuple #[.agg #[.int .i64 4, .bool false, .int .i64 0, .string s, .slice none 0 0, .slice none 0 0], .bool true]) (by simp [results, Tryz.results6, go_sem, HZ.out.cells]) rfl ?_
    exact scalP_some H.out ((((((HZ.out.2.setCell (p := ⟨w.heap.size, 0, none⟩) (Nat.le_refl _) _).setCell (p := ⟨w.heap.size, 1, none⟩) (Nat.le_refl _) _).setCell (p := ⟨w.heap.size, 2, none⟩) (Nat.le_refl _) _).setCell (p := ⟨w.heap.size, 3, none⟩) (Nat.le_refl _) _).setCell (p := ⟨w.heap.size, 4, none⟩) (Nat.le_refl _) _).setCell (p := ⟨w.heap.size, 5, none⟩) (Nat.le_refl _) _)

set_option maxHeartbeats 1000000 in
set_option maxRecDepth 100000 in
theorem sScal_p1b (s : ByteArray) (w : World) (hs : s.size ≤ 1048576) (hnw : noWord s) (hq : ¬ (0 < s.size ∧ bt s 0 = 34)) (hw : whoE (whoQ s 0) ≠ s.size ∨ whoE (whoQ s 0) ≤ 0) (hp : plainAll s = true) (hz : s.size = 0) : Calls Tryz.prog 6 #[.string s] w (ScalP s w) := by
  have HZ := Lib.hid (ZT.new w)
  have HNW := Lib.hid hnw
  obtain ⟨c0, c1, c2, c3, c4, c5⟩ := hnw
  have HQ := Lib.hid hq; clear hq
  have HW := Lib.hid (fun w0 => sReadWhole s 0 w0 hs)
  have H := Lib.hid (sc_plain (sc_n_no HNW.out HQ.out hw) hp)
  generalize whoE (whoQ s 0) = E at HW hw
  generalize whoN (whoQ s 0) = n at HW
  have hfx : ((E == (s.size : Int)) = true ∧ decide (0 < E) = false) ∨ (E == (s.size : Int)) = false := by
    by_cases g : E = s.size
    · left; exact ⟨by rw [g]; simp, decide_eq_false (by omega)⟩
    · right; rw [beq_eq_false_iff_ne]; exact g
  clear hw
  have hpl := fun w0 => sPlainAll s w0 hs
  rw [hp] at hpl
  have HPL := Lib.hid hpl; clear hpl hp
  have hpos : decide ((0 : Int) < (s.size : Int)) = false := decide_eq_false (by omega)
  have hpos2 : decide (0 < s.size) = false := decide_eq_false (by omega)
  have HZ0 := Lib.hid hz
  clear hz
  rcases hfx with ⟨f1, f2⟩ | f1
  all_goals
    go_enter Tryz.func6, Tryz.ntmps6
    go_wp2_with fail
    refine (HW.out _).mono ?_; rintro e w1 ⟨rfl, hb1⟩
    have HZ := Lib.hid (HZ.out.keep hb1); clear hb1
    go_wp2_with fail
    refine (HPL.out _).mono ?_; rintro e w1 ⟨rfl, hb1⟩
    have HZ := Lib.hid (HZ.out.keep hb1); clear hb1
    go_wp2_with fail
    refine (sTextTree _ _).mono ?_; rintro e w1 ⟨rfl, hb1⟩
    have HZ := Lib.hid (HZ.out.keep hb1); clear hb1
    obtain ⟨r0, r1, r2, r3, r4, r5⟩ := HZ.out.cells
    obtain ⟨g0, g1, g2, g3, g4, g5⟩ := HZ.out.frozen
    go_wp2_with fail
    refine bodyPost_ret (v := .tuple #[.agg #[.int .i64 4, .bool false, .int .i64 0, .string s, .slice none 0 0, .slice none 0 0], .bool true]) (by simp [results, Tryz.results6, go_sem, HZ.out.cells]) rfl ?_
    exact scalP_some H.out ((((((HZ.out.2.setCell (p := ⟨w.heap.size, 0, none⟩) (Nat.le_refl _) _).setCell (p := ⟨w.heap.size, 1, none⟩) (Nat.le_refl _) _).setCell (p := ⟨w.heap.size, 2, none⟩) (Nat.le_refl _) _).setCell (p := ⟨w.heap.size, 3, none⟩) (Nat.le_refl _) _).setCell (p := ⟨w.heap.size, 4, none⟩) (Nat.le_refl _) _).setCell (p := ⟨w.heap.size, 5, none⟩) (Nat.le_refl _) _)

set_option maxHeartbeats 1000000 in
set_option maxRecDepth 100000 in
theorem sScal_p0a (s : ByteArray) (w : World) (hs : s.size ≤ 1048576) (hnw : noWord s) (hq : ¬ (0 < s.size ∧ bt s 0 = 34)) (hw : whoE (whoQ s 0) ≠ s.size ∨ whoE (whoQ s 0) ≤ 0) (hp : plainAll s = false) (h0 : 0 < s.size) : Calls Tryz.prog 6 #[.string s] w (ScalP s w) := by
  have HZ := Lib.hid (ZT.new w)
  have HNW := Lib.hid hnw
  obtain ⟨c0, c1, c2, c3, c4, c5⟩ := hnw
  have HQ := Lib.hid hq; clear hq
  have HW := Lib.hid (fun w0 => sReadWhole s 0 w0 hs)
  have H := Lib.hid (sc_no (sc_n_no HNW.out HQ.out hw) hp)
  generalize whoE (whoQ s 0) = E at HW hw
  generalize whoN (whoQ s 0) = n at HW
  have hfx : ((E == (s.size : Int)) = true ∧ decide (0 < E) = false) ∨ (E == (s.size : Int)) = false := by
    by_cases g : E = s.size
    · left; exact ⟨by rw [g]; simp, decide_eq_false (by omega)⟩
    · right; rw [beq_eq_false_iff_ne]; exact g
  clear hw
  have hpl := fun w0 => sPlainAll s w0 hs
  rw [hp] at hpl
  have HPL := Lib.hid hpl; clear hpl hp
  have e0 : ((s[0].toNat : Int) == 34) = false := by
    rw [beq_eq_false_iff_ne]; intro h; exact HQ.out ⟨h0, by rw [bt_eq s 0 h0]; omega⟩
  have hpos : (0 : Int) < (s.size : Int) := by omega
  rcases hfx with ⟨f1, f2⟩ | f1
  all_goals
    go_enter Tryz.func6, Tryz.ntmps6
    go_wp2_with fail
    refine (HW.out _).mono ?_; rintro e w1 ⟨rfl, hb1⟩
    have HZ := Lib.hid (HZ.out.keep hb1); clear hb1
    go_wp2_with fail
    refine (HPL.out _).mono ?_; rintro e w1 ⟨rfl, hb1⟩
    have HZ := Lib.hid (HZ.out.keep hb1); clear hb1
    obtain ⟨r0, r1, r2, r3, r4, r5⟩ := HZ.out.cells
    obtain ⟨g0, g1, g2, g3, g4, g5⟩ := HZ.out.frozen
    go_wp2_with fail
    refine bodyPost_ret (v := .tuple #[.agg #[.int .i64 0, .bool false, .int .i64 0, .string ⟨#[]⟩, .slice none 0 0, .slice none 0 0], .bool false]) (by simp [results, Tryz.results6, go_sem, HZ.out.cells]) rfl ?_
    exact scalP_none H.out ((((((HZ.out.2.setCell (p := ⟨w.heap.size, 0, none⟩) (Nat.le_refl _) _).setCell (p := ⟨w.heap.size, 1, none⟩) (Nat.le_refl _) _).setCell (p := ⟨w.heap.size, 2, none⟩) (Nat.le_refl _) _).setCell (p := ⟨w.heap.size, 3, none⟩) (Nat.le_refl _) _).setCell (p := ⟨w.heap.size, 4, none⟩) (Nat.le_refl _) _).setCell (p := ⟨w.heap.size, 5, none⟩) (Nat.le_refl _) _)

set_option maxHeartbeats 1000000 in
set_option maxRecDepth 100000 in
theorem sScal_p0b (s : ByteArray) (w : World) (hs : s.size ≤ 1048576) (hnw : noWord s) (hq : ¬ (0 < s.size ∧ bt s 0 = 34)) (hw : whoE (whoQ s 0) ≠ s.size ∨ whoE (whoQ s 0) ≤ 0) (hp : plainAll s = false) (hz : s.size = 0) : Calls Tryz.prog 6 #[.string s] w (ScalP s w) := by
  have HZ := Lib.hid (ZT.new w)
  have HNW := Lib.hid hnw
  obtain ⟨c0, c1, c2, c3, c4, c5⟩ := hnw
  have HQ := Lib.hid hq; clear hq
  have HW := Lib.hid (fun w0 => sReadWhole s 0 w0 hs)
  have H := Lib.hid (sc_no (sc_n_no HNW.out HQ.out hw) hp)
  generalize whoE (whoQ s 0) = E at HW hw
  generalize whoN (whoQ s 0) = n at HW
  have hfx : ((E == (s.size : Int)) = true ∧ decide (0 < E) = false) ∨ (E == (s.size : Int)) = false := by
    by_cases g : E = s.size
    · left; exact ⟨by rw [g]; simp, decide_eq_false (by omega)⟩
    · right; rw [beq_eq_false_iff_ne]; exact g
  clear hw
  have hpl := fun w0 => sPlainAll s w0 hs
  rw [hp] at hpl
  have HPL := Lib.hid hpl; clear hpl hp
  have hpos : decide ((0 : Int) < (s.size : Int)) = false := decide_eq_false (by omega)
  have hpos2 : decide (0 < s.size) = false := decide_eq_false (by omega)
  have HZ0 := Lib.hid hz
  clear hz
  rcases hfx with ⟨f1, f2⟩ | f1
  all_goals
    go_enter Tryz.func6, Tryz.ntmps6
    go_wp2_with fail
    refine (HW.out _).mono ?_; rintro e w1 ⟨rfl, hb1⟩
    have HZ := Lib.hid (HZ.out.keep hb1); clear hb1
    go_wp2_with fail
    refine (HPL.out _).mono ?_; rintro e w1 ⟨rfl, hb1⟩
    have HZ := Lib.hid (HZ.out.keep hb1); clear hb1
    obtain ⟨r0, r1, r2, r3, r4, r5⟩ := HZ.out.cells
    obtain ⟨g0, g1, g2, g3, g4, g5⟩ := HZ.out.frozen
    go_wp2_with fail
    refine bodyPost_ret (v := .tuple #[.agg #[.int .i64 0, .bool false, .int .i64 0, .string ⟨#[]⟩, .slice none 0 0, .slice none 0 0], .bool false]) (by simp [results, Tryz.results6, go_sem, HZ.out.cells]) rfl ?_
    exact scalP_none H.out ((((((HZ.out.2.setCell (p := ⟨w.heap.size, 0, none⟩) (Nat.le_refl _) _).setCell (p := ⟨w.heap.size, 1, none⟩) (Nat.le_refl _) _).setCell (p := ⟨w.heap.size, 2, none⟩) (Nat.le_refl _) _).setCell (p := ⟨w.heap.size, 3, none⟩) (Nat.le_refl _) _).setCell (p := ⟨w.heap.size, 4, none⟩) (Nat.le_refl _) _).setCell (p := ⟨w.heap.size, 5, none⟩) (Nat.le_refl _) _)

theorem sReadScalar (s : ByteArray) (w : World) (hs : s.size ≤ 1048576) : Calls Tryz.prog 6 #[.string s] w (ScalP s w) := by
  cases c0 : (s.toList == [91, 93])
  rotate_left
  · exact sScal_w0 s w hs c0
  cases c1 : (s.toList == [123, 125])
  rotate_left
  · exact sScal_w1 s w hs c1
  cases c2 : (s.toList == [110, 117, 108, 108])
  rotate_left
  · exact sScal_w2 s w hs c2
  cases c3 : (s.toList == [126])
  rotate_left
  · exact sScal_w3 s w hs c3
  cases c4 : (s.toList == [116, 114, 117, 101])
  rotate_left
  · exact sScal_w4 s w hs c4
  cases c5 : (s.toList == [102, 97, 108, 115, 101])
  rotate_left
  · exact sScal_w5 s w hs c5
  have hnw : noWord s := ⟨c0, c1, c2, c3, c4, c5⟩
  by_cases hq : 0 < s.size ∧ bt s 0 = 34
  · cases hr : readQ s 0 with
    | none => exact sScal_q0 s w hs hnw hq hr
    | some x =>
      obtain ⟨l, e⟩ := x
      by_cases he : e = s.size
      · by_cases hk : l.length ≤ 400
        · exact sScal_q2 s w hs hnw hq l e hr he hk
        · exact sScal_q3 s w hs hnw hq l e hr he hk
      · exact sScal_q1 s w hs hnw hq l e hr he
  by_cases hw : whoE (whoQ s 0) = s.size ∧ 0 < whoE (whoQ s 0)
  · cases hr : whoQ s 0 with
    | none => rw [hr] at hw; simp only [whoE] at hw; omega
    | some x =>
      obtain ⟨n, e⟩ := x
      rw [hr] at hw
      simp only [whoE] at hw
      exact sScal_n1 s w hs hnw hq n e hr (by omega) (by omega)
  have hw2 : whoE (whoQ s 0) ≠ s.size ∨ whoE (whoQ s 0) ≤ 0 := by omega
  by_cases h0 : 0 < s.size
  · cases hp : plainAll s
    · exact sScal_p0a s w hs hnw hq hw2 hp h0
    · exact sScal_p1a s w hs hnw hq hw2 hp h0
  · cases hp : plainAll s
    · exact sScal_p0b s w hs hnw hq hw2 hp (by omega)
    · exact sScal_p1b s w hs hnw hq hw2 hp (by omega)

end Go.Proofs.YtclffhejoneiaaaGreatDoor
namespace Go.Proofs.YtclffhejoneiaaaGreatDoor
open Go.RowKit

theorem pre_quote (s : ByteArray) : Lib.hasPrefix s.data.toList [34] = decide (0 < s.size ∧ bt s 0 = 34) := by
  have hlen : s.data.toList.length = s.size := by simp
  by_cases h : 0 < s.size
  · have hb := bt_eq s 0 h
    have hc : ∃ r, s.data.toList = s[0] :: r := by
      have h2 : 0 < s.data.toList.length := by omega
      exact ⟨s.data.toList.drop 1, (List.drop_eq_getElem_cons h2 : s.data.toList.drop 0 = _)⟩
    obtain ⟨r, hr⟩ := hc
    rw [hr]
    by_cases hq : s[0] = 34
    · have : bt s 0 = 34 := by rw [hb, hq]; rfl
      rw [hq, decide_eq_true ⟨h, this⟩]; rfl
    · have : bt s 0 ≠ 34 := fun e => hq (UInt8.toNat_inj.1 (by rw [← hb, e]; rfl))
      rw [decide_eq_false (fun hh => this hh.2)]
      show ((34 : UInt8) == s[0] && _) = false
      rw [beq_eq_false_iff_ne.2 (Ne.symm hq)]; rfl
  · have hz : s.data.toList = [] := List.eq_nil_of_length_eq_zero (by omega)
    rw [hz, decide_eq_false (fun hh => h hh.1)]; rfl
set_option maxHeartbeats 2000000 in
set_option maxRecDepth 100000 in
theorem iScal_w0 (s : ByteArray) (w : World) (_hs : s.size ≤ 1048576) (_hT : Tabs w) (_hV : Cases w) (_hE : Errs w) (c0 : (s.toList == [91, 93]) = true) : Calls Tryz.prog 7 #[.string s] w (ScalP s w) := by
  have HZ := Lib.hid (ZT.new w)
  have H := Lib.hid (sc_list c0)
  have c1 : (s.toList == [123, 125]) = false := beqL c0 (by decide)
  have c2 : (s.toList == [110, 117, 108, 108]) = false := beqL c0 (by decide)
  have c3 : (s.toList == [126]) = false := beqL c0 (by decide)
  have c4 : (s.toList == [116, 114, 117, 101]) = false := beqL c0 (by decide)
  have c5 : (s.toList == [102, 97, 108, 115, 101]) = false := beqL c0 (by decide)
  go_enter Tryz.func7, Tryz.ntmps7
  go_wp2_with (go_at_call 20; refine (HP.out _).mono ?_; rintro e w' ⟨rfl, rfl⟩)
  refine bodyPost_ret (v := .tuple #[.agg #[.int .i64 5, .bool false, .int .i64 0, .string ⟨#[]⟩, .slice none 0 0, .slice none 0 0], .bool true]) (by simp [results, Tryz.results7, go_sem]) rfl ?_
  exact scalP_some H.out ((Below.refl _ _).alloc (Nat.le_refl _) _)

set_option maxHeartbeats 2000000 in
set_option maxRecDepth 100000 in
theorem iScal_w1 (s : ByteArray) (w : World) (_hs : s.size ≤ 1048576) (_hT : Tabs w) (_hV : Cases w) (_hE : Errs w) (c1 : (s.toList == [123, 125]) = true) : Calls Tryz.prog 7 #[.string s] w (ScalP s w) := by
  have HZ := Lib.hid (ZT.new w)
  have H := Lib.hid (sc_map c1)
  have c0 : (s.toList == [91, 93]) = false := beqL c1 (by decide)
  have c2 : (s.toList == [110, 117, 108, 108]) = false := beqL c1 (by decide)
  have c3 : (s.toList == [126]) = false := beqL c1 (by decide)
  have c4 : (s.toList == [116, 114, 117, 101]) = false := beqL c1 (by decide)
  have c5 : (s.toList == [102, 97, 108, 115, 101]) = false := beqL c1 (by decide)
  go_enter Tryz.func7, Tryz.ntmps7
  go_wp2_with (go_at_call 20; refine (HP.out _).mono ?_; rintro e w' ⟨rfl, rfl⟩)
  refine bodyPost_ret (v := .tuple #[.agg #[.int .i64 6, .bool false, .int .i64 0, .string ⟨#[]⟩, .slice none 0 0, .slice none 0 0], .bool true]) (by simp [results, Tryz.results7, go_sem]) rfl ?_
  exact scalP_some H.out ((Below.refl _ _).alloc (Nat.le_refl _) _)

set_option maxHeartbeats 2000000 in
set_option maxRecDepth 100000 in
theorem iScal_w2 (s : ByteArray) (w : World) (_hs : s.size ≤ 1048576) (_hT : Tabs w) (_hV : Cases w) (_hE : Errs w) (c2 : (s.toList == [110, 117, 108, 108]) = true) : Calls Tryz.prog 7 #[.string s] w (ScalP s w) := by
  have HZ := Lib.hid (ZT.new w)
  have H := Lib.hid (sc_null c2)
  have c0 : (s.toList == [91, 93]) = false := beqL c2 (by decide)
  have c1 : (s.toList == [123, 125]) = false := beqL c2 (by decide)
  have c3 : (s.toList == [126]) = false := beqL c2 (by decide)
  have c4 : (s.toList == [116, 114, 117, 101]) = false := beqL c2 (by decide)
  have c5 : (s.toList == [102, 97, 108, 115, 101]) = false := beqL c2 (by decide)
  go_enter Tryz.func7, Tryz.ntmps7
  go_wp2_with (go_at_call 20; refine (HP.out _).mono ?_; rintro e w' ⟨rfl, rfl⟩)
  refine bodyPost_ret (v := .tuple #[.agg #[.int .i64 1, .bool false, .int .i64 0, .string ⟨#[]⟩, .slice none 0 0, .slice none 0 0], .bool true]) (by simp [results, Tryz.results7, go_sem]) rfl ?_
  exact scalP_some H.out ((Below.refl _ _).alloc (Nat.le_refl _) _)

set_option maxHeartbeats 2000000 in
set_option maxRecDepth 100000 in
theorem iScal_w3 (s : ByteArray) (w : World) (_hs : s.size ≤ 1048576) (_hT : Tabs w) (_hV : Cases w) (_hE : Errs w) (c3 : (s.toList == [126]) = true) : Calls Tryz.prog 7 #[.string s] w (ScalP s w) := by
  have HZ := Lib.hid (ZT.new w)
  have H := Lib.hid (sc_tilde c3)
  have c0 : (s.toList == [91, 93]) = false := beqL c3 (by decide)
  have c1 : (s.toList == [123, 125]) = false := beqL c3 (by decide)
  have c2 : (s.toList == [110, 117, 108, 108]) = false := beqL c3 (by decide)
  have c4 : (s.toList == [116, 114, 117, 101]) = false := beqL c3 (by decide)
  have c5 : (s.toList == [102, 97, 108, 115, 101]) = false := beqL c3 (by decide)
  go_enter Tryz.func7, Tryz.ntmps7
  go_wp2_with (go_at_call 20; refine (HP.out _).mono ?_; rintro e w' ⟨rfl, rfl⟩)
  refine bodyPost_ret (v := .tuple #[.agg #[.int .i64 1, .bool false, .int .i64 0, .string ⟨#[]⟩, .slice none 0 0, .slice none 0 0], .bool true]) (by simp [results, Tryz.results7, go_sem]) rfl ?_
  exact scalP_some H.out ((Below.refl _ _).alloc (Nat.le_refl _) _)

set_option maxHeartbeats 2000000 in
set_option maxRecDepth 100000 in
theorem iScal_w4 (s : ByteArray) (w : World) (_hs : s.size ≤ 1048576) (_hT : Tabs w) (_hV : Cases w) (_hE : Errs w) (c4 : (s.toList == [116, 114, 117, 101]) = true) : Calls Tryz.prog 7 #[.string s] w (ScalP s w) := by
  have HZ := Lib.hid (ZT.new w)
  have H := Lib.hid (sc_true c4)
  have c0 : (s.toList == [91, 93]) = false := beqL c4 (by decide)
  have c1 : (s.toList == [123, 125]) = false := beqL c4 (by decide)
  have c2 : (s.toList == [110, 117, 108, 108]) = false := beqL c4 (by decide)
  have c3 : (s.toList == [126]) = false := beqL c4 (by decide)
  have c5 : (s.toList == [102, 97, 108, 115, 101]) = false := beqL c4 (by decide)
  go_enter Tryz.func7, Tryz.ntmps7
  go_wp2_with (go_at_call 20; refine (HP.out _).mono ?_; rintro e w' ⟨rfl, rfl⟩)
  refine bodyPost_ret (v := .tuple #[.agg #[.int .i64 2, .bool true, .int .i64 0, .string ⟨#[]⟩, .slice none 0 0, .slice none 0 0], .bool true]) (by simp [results, Tryz.results7, go_sem]) rfl ?_
  exact scalP_some H.out ((Below.refl _ _).alloc (Nat.le_refl _) _)

set_option maxHeartbeats 2000000 in
set_option maxRecDepth 100000 in
theorem iScal_w5 (s : ByteArray) (w : World) (_hs : s.size ≤ 1048576) (_hT : Tabs w) (_hV : Cases w) (_hE : Errs w) (c5 : (s.toList == [102, 97, 108, 115, 101]) = true) : Calls Tryz.prog 7 #[.string s] w (ScalP s w) := by
  have HZ := Lib.hid (ZT.new w)
  have H := Lib.hid (sc_false c5)
  have c0 : (s.toList == [91, 93]) = false := beqL c5 (by decide)
  have c1 : (s.toList == [123, 125]) = false := beqL c5 (by decide)
  have c2 : (s.toList == [110, 117, 108, 108]) = false := beqL c5 (by decide)
  have c3 : (s.toList == [126]) = false := beqL c5 (by decide)
  have c4 : (s.toList == [116, 114, 117, 101]) = false := beqL c5 (by decide)
  go_enter Tryz.func7, Tryz.ntmps7
  go_wp2_with (go_at_call 20; refine (HP.out _).mono ?_; rintro e w' ⟨rfl, rfl⟩)
  refine bodyPost_ret (v := .tuple #[.agg #[.int .i64 2, .bool false, .int .i64 0, .string ⟨#[]⟩, .slice none 0 0, .slice none 0 0], .bool true]) (by simp [results, Tryz.results7, go_sem]) rfl ?_
  exact scalP_some H.out ((Below.refl _ _).alloc (Nat.le_refl _) _)

set_option maxHeartbeats 2000000 in
set_option maxRecDepth 100000 in
theorem iScal_q0 (s : ByteArray) (w : World) (hs : s.size ≤ 1048576) (hT : Tabs w) (hV : Cases w) (hE : Errs w) (hnw : noWord s) (hq : 0 < s.size ∧ bt s 0 = 34) (hr : readQ s 0 = none) : Calls Tryz.prog 7 #[.string s] w (ScalP s w) := by
  have HX := Lib.hid (And.intro hT (And.intro hV hE)); clear hT hV hE
  have HZ := Lib.hid (ZT.new w)
  have HNW := Lib.hid hnw
  obtain ⟨c0, c1, c2, c3, c4, c5⟩ := hnw
  have HQ := Lib.hid hq; clear hq
  have HP := Lib.hid (fun w0 => (show Calls Tryz.prog 20 #[.string s, .string ⟨#[34]⟩] w0 fun e w' => e = .returned (.bool true) ∧ w0 = w' by
    have h := Tryz.strings_HasPrefix s ⟨#[34]⟩ w0
    refine h.mono fun e w' ⟨h1, h2⟩ => ⟨?_, h2.symm⟩
    rw [h1]
    have := pre_quote s
    rw [decide_eq_true HQ.out] at this
    exact congrArg (fun b => Ending.returned (.bool b)) this))
  have HR := Lib.hid (fun w0 hT hV => iReadQuoted s 0 w0 hs hT hV)
  have H := Lib.hid (sc_q_none HNW.out HQ.out hr)
  rw [hr] at HR
  simp only [qText, qEnd] at HR
  have n0 : ((-1 : Int) != (s.size : Int)) = true := by
    have : ((-1 : Int) == (s.size : Int)) = false := by rw [beq_eq_false_iff_ne]; omega
    rw [bne, this]; rfl
  have n1 : ((-1 : Int) == (s.size : Int)) = false := by rw [beq_eq_false_iff_ne]; omega
  clear hr
  go_enter Tryz.func7, Tryz.ntmps7
  go_wp2_with (go_at_call 20; refine (HP.out _).mono ?_; rintro e w' ⟨rfl, rfl⟩)
  refine (HR.out _ (tabs_keep HX.out.1 HZ.out.2) (cases_keep HX.out.2.1 HZ.out.2)).mono ?_; rintro e w1 ⟨rfl, hb1⟩
  have HZ := Lib.hid (HZ.out.keep hb1); clear hb1
  obtain ⟨r0, r1, r2, r3, r4, r5⟩ := HZ.out.cells
  obtain ⟨g0, g1, g2, g3, g4, g5⟩ := HZ.out.frozen
  go_wp2_with (go_at_call 20; refine (HP.out _).mono ?_; rintro e w' ⟨rfl, rfl⟩)
  refine bodyPost_ret (v := .tuple #[.agg #[.int .i64 0, .bool false, .int .i64 0, .string ⟨#[]⟩, .slice none 0 0, .slice none 0 0], .bool false]) (by simp [results, Tryz.results7, go_sem, HZ.out.cells]) rfl ?_
  exact scalP_none H.out ((((((HZ.out.2.setCell (p := ⟨w.heap.size, 0, none⟩) (Nat.le_refl _) _).setCell (p := ⟨w.heap.size, 1, none⟩) (Nat.le_refl _) _).setCell (p := ⟨w.heap.size, 2, none⟩) (Nat.le_refl _) _).setCell (p := ⟨w.heap.size, 3, none⟩) (Nat.le_refl _) _).setCell (p := ⟨w.heap.size, 4, none⟩) (Nat.le_refl _) _).setCell (p := ⟨w.heap.size, 5, none⟩) (Nat.le_refl _) _)

set_option maxHeartbeats 2000000 in
set_option maxRecDepth 100000 in
theorem iScal_q1 (s : ByteArray) (w : World) (hs : s.size ≤ 1048576) (hT : Tabs w) (hV : Cases w) (hE : Errs w) (hnw : noWord s) (hq : 0 < s.size ∧ bt s 0 = 34) (l : List UInt8) (e : Nat) (hr : readQ s 0 = some (l, e)) (he : ¬ e = s.size) : Calls Tryz.prog 7 #[.string s] w (ScalP s w) := by
  have HX := Lib.hid (And.intro hT (And.intro hV hE)); clear hT hV hE
  have HZ := Lib.hid (ZT.new w)
  have HNW := Lib.hid hnw
  obtain ⟨c0, c1, c2, c3, c4, c5⟩ := hnw
  have HQ := Lib.hid hq; clear hq
  have HP := Lib.hid (fun w0 => (show Calls Tryz.prog 20 #[.string s, .string ⟨#[34]⟩] w0 fun e w' => e = .returned (.bool true) ∧ w0 = w' by
    have h := Tryz.strings_HasPrefix s ⟨#[34]⟩ w0
    refine h.mono fun e w' ⟨h1, h2⟩ => ⟨?_, h2.symm⟩
    rw [h1]
    have := pre_quote s
    rw [decide_eq_true HQ.out] at this
    exact congrArg (fun b => Ending.returned (.bool b)) this))
  have HR := Lib.hid (fun w0 hT hV => iReadQuoted s 0 w0 hs hT hV)
  have H := Lib.hid (sc_q_bad HNW.out HQ.out hr (fun h => he h.1))
  rw [hr] at HR
  simp only [qText, qEnd] at HR
  obtain ⟨key, hkey⟩ : ∃ key : ByteArray, key = ⟨l.toArray⟩ := ⟨_, rfl⟩
  have hks : key.size = l.length := by rw [hkey]; show l.toArray.size = _; simp
  rw [← hkey] at HR
  have n1 : ((e : Int) == (s.size : Int)) = false := by rw [beq_eq_false_iff_ne]; omega
  have n0 : ((e : Int) != (s.size : Int)) = true := by rw [bne, n1]; rfl
  clear hr hkey hks he
  go_enter Tryz.func7, Tryz.ntmps7
  go_wp2_with (go_at_call 20; refine (HP.out _).mono ?_; rintro e w' ⟨rfl, rfl⟩)
  refine (HR.out _ (tabs_keep HX.out.1 HZ.out.2) (cases_keep HX.out.2.1 HZ.out.2)).mono ?_; rintro e w1 ⟨rfl, hb1⟩
  have HZ := Lib.hid (HZ.out.keep hb1); clear hb1
  obtain ⟨r0, r1, r2, r3, r4, r5⟩ := HZ.out.cells
  obtain ⟨g0, g1, g2, g3, g4, g5⟩ := HZ.out.frozen
  go_wp2_with (go_at_call 20; refine (HP.out _).mono ?_; rintro e w' ⟨rfl, rfl⟩)
  refine bodyPost_ret (v := .tuple #[.agg #[.int .i64 0, .bool false, .int .i64 0, .string ⟨#[]⟩, .slice none 0 0, .slice none 0 0], .bool false]) (by simp [results, Tryz.results7, go_sem, HZ.out.cells]) rfl ?_
  exact scalP_none H.out ((((((HZ.out.2.setCell (p := ⟨w.heap.size, 0, none⟩) (Nat.le_refl _) _).setCell (p := ⟨w.heap.size, 1, none⟩) (Nat.le_refl _) _).setCell (p := ⟨w.heap.size, 2, none⟩) (Nat.le_refl _) _).setCell (p := ⟨w.heap.size, 3, none⟩) (Nat.le_refl _) _).setCell (p := ⟨w.heap.size, 4, none⟩) (Nat.le_refl _) _).setCell (p := ⟨w.heap.size, 5, none⟩) (Nat.le_refl _) _)

set_option maxHeartbeats 2000000 in
set_option maxRecDepth 100000 in
theorem iScal_q2 (s : ByteArray) (w : World) (hs : s.size ≤ 1048576) (hT : Tabs w) (hV : Cases w) (hE : Errs w) (hnw : noWord s) (hq : 0 < s.size ∧ bt s 0 = 34) (l : List UInt8) (e : Nat) (hr : readQ s 0 = some (l, e)) (he : e = s.size) (hk : l.length ≤ 400) : Calls Tryz.prog 7 #[.string s] w (ScalP s w) := by
  have HX := Lib.hid (And.intro hT (And.intro hV hE)); clear hT hV hE
  have HZ := Lib.hid (ZT.new w)
  have HNW := Lib.hid hnw
  obtain ⟨c0, c1, c2, c3, c4, c5⟩ := hnw
  have HQ := Lib.hid hq; clear hq
  have HP := Lib.hid (fun w0 => (show Calls Tryz.prog 20 #[.string s, .string ⟨#[34]⟩] w0 fun e w' => e = .returned (.bool true) ∧ w0 = w' by
    have h := Tryz.strings_HasPrefix s ⟨#[34]⟩ w0
    refine h.mono fun e w' ⟨h1, h2⟩ => ⟨?_, h2.symm⟩
    rw [h1]
    have := pre_quote s
    rw [decide_eq_true HQ.out] at this
    exact congrArg (fun b => Ending.returned (.bool b)) this))
  have HR := Lib.hid (fun w0 hT hV => iReadQuoted s 0 w0 hs hT hV)
  have H := Lib.hid (sc_q_yes HNW.out HQ.out hr ⟨he, hk⟩)
  rw [hr] at HR
  simp only [qText, qEnd] at HR
  obtain ⟨key, hkey⟩ : ∃ key : ByteArray, key = ⟨l.toArray⟩ := ⟨_, rfl⟩
  have hks : key.size = l.length := by rw [hkey]; show l.toArray.size = _; simp
  rw [← hkey] at HR H
  have n1 : ((e : Int) == (s.size : Int)) = true := by rw [he]; simp
  have n0 : ((e : Int) != (s.size : Int)) = false := by rw [bne, n1]; rfl
  have n2 : decide (400 < key.size) = false := decide_eq_false (by omega)
  have n3 : decide ((400 : Int) < (key.size : Int)) = false := decide_eq_false (by omega)
  clear hr hkey hks he hk
  go_enter Tryz.func7, Tryz.ntmps7
  go_wp2_with (go_at_call 20; refine (HP.out _).mono ?_; rintro e w' ⟨rfl, rfl⟩)
  refine (HR.out _ (tabs_keep HX.out.1 HZ.out.2) (cases_keep HX.out.2.1 HZ.out.2)).mono ?_; rintro e w1 ⟨rfl, hb1⟩
  have HZ := Lib.hid (HZ.out.keep hb1); clear hb1
  go_wp2_with (go_at_call 20; refine (HP.out _).mono ?_; rintro e w' ⟨rfl, rfl⟩)
  refine (iTextTree _ _).mono ?_; rintro e w1 ⟨rfl, hb1⟩
  have HZ := Lib.hid (HZ.out.keep hb1); clear hb1
  obtain ⟨r0, r1, r2, r3, r4, r5⟩ := HZ.out.cells
  obtain ⟨g0, g1, g2, g3, g4, g5⟩ := HZ.out.frozen
  go_wp2_with (go_at_call 20; refine (HP.out _).mono ?_; rintro e w' ⟨rfl, rfl⟩)
  refine bodyPost_ret (v := .tuple #[.agg #[.int .i64 4, .bool false, .int .i64 0, .string key, .slice none 0 0, .slice none 0 0], .bool true]) (by simp [results, Tryz.results7, go_sem, HZ.out.cells]) rfl ?_
  exact scalP_some H.out ((((((HZ.out.2.setCell (p := ⟨w.heap.size, 0, none⟩) (Nat.le_refl _) _).setCell (p := ⟨w.heap.size, 1, none⟩) (Nat.le_refl _) _).setCell (p := ⟨w.heap.size, 2, none⟩) (Nat.le_refl _) _).setCell (p := ⟨w.heap.size, 3, none⟩) (Nat.le_refl _) _).setCell (p := ⟨w.heap.size, 4, none⟩) (Nat.le_refl _) _).setCell (p := ⟨w.heap.size, 5, none⟩) (Nat.le_refl _) _)

set_option maxHeartbeats 2000000 in
set_option maxRecDepth 100000 in
theorem iScal_q3 (s : ByteArray) (w : World) (hs : s.size ≤ 1048576) (hT : Tabs w) (hV : Cases w) (hE : Errs w) (hnw : noWord s) (hq : 0 < s.size ∧ bt s 0 = 34) (l : List UInt8) (e : Nat) (hr : readQ s 0 = some (l, e)) (he : e = s.size) (hk : ¬ l.length ≤ 400) : Calls Tryz.prog 7 #[.string s] w (ScalP s w) := by
  have HX := Lib.hid (And.intro hT (And.intro hV hE)); clear hT hV hE
  have HZ := Lib.hid (ZT.new w)
  have HNW := Lib.hid hnw
  obtain ⟨c0, c1, c2, c3, c4, c5⟩ := hnw
  have HQ := Lib.hid hq; clear hq
  have HP := Lib.hid (fun w0 => (show Calls Tryz.prog 20 #[.string s, .string ⟨#[34]⟩] w0 fun e w' => e = .returned (.bool true) ∧ w0 = w' by
    have h := Tryz.strings_HasPrefix s ⟨#[34]⟩ w0
    refine h.mono fun e w' ⟨h1, h2⟩ => ⟨?_, h2.symm⟩
    rw [h1]
    have := pre_quote s
    rw [decide_eq_true HQ.out] at this
    exact congrArg (fun b => Ending.returned (.bool b)) this))
  have HR := Lib.hid (fun w0 hT hV => iReadQuoted s 0 w0 hs hT hV)
  have H := Lib.hid (sc_q_bad HNW.out HQ.out hr (fun h => hk h.2))
  rw [hr] at HR
  simp only [qText, qEnd] at HR
  obtain ⟨key, hkey⟩ : ∃ key : ByteArray, key = ⟨l.toArray⟩ := ⟨_, rfl⟩
  have hks : key.size = l.length := by rw [hkey]; show l.toArray.size = _; simp
  rw [← hkey] at HR
  have n1 : ((e : Int) == (s.size : Int)) = true := by rw [he]; simp
  have n0 : ((e : Int) != (s.size : Int)) = false := by rw [bne, n1]; rfl
  have n2 : decide (400 < key.size) = true := decide_eq_true (by omega)
  have n3 : decide ((400 : Int) < (key.size : Int)) = true := decide_eq_true (by omega)
  clear hr hkey hks he hk
  go_enter Tryz.func7, Tryz.ntmps7
  go_wp2_with (go_at_call 20; refine (HP.out _).mono ?_; rintro e w' ⟨rfl, rfl⟩)
  refine (HR.out _ (tabs_keep HX.out.1 HZ.out.2) (cases_keep HX.out.2.1 HZ.out.2)).mono ?_; rintro e w1 ⟨rfl, hb1⟩
  have HZ := Lib.hid (HZ.out.keep hb1); clear hb1
  obtain ⟨r0, r1, r2, r3, r4, r5⟩ := HZ.out.cells
  obtain ⟨g0, g1, g2, g3, g4, g5⟩ := HZ.out.frozen
  go_wp2_with (go_at_call 20; refine (HP.out _).mono ?_; rintro e w' ⟨rfl, rfl⟩)
  refine bodyPost_ret (v := .tuple #[.agg #[.int .i64 0, .bool false, .int .i64 0, .string ⟨#[]⟩, .slice none 0 0, .slice none 0 0], .bool false]) (by simp [results, Tryz.results7, go_sem, HZ.out.cells]) rfl ?_
  exact scalP_none H.out ((((((HZ.out.2.setCell (p := ⟨w.heap.size, 0, none⟩) (Nat.le_refl _) _).setCell (p := ⟨w.heap.size, 1, none⟩) (Nat.le_refl _) _).setCell (p := ⟨w.heap.size, 2, none⟩) (Nat.le_refl _) _).setCell (p := ⟨w.heap.size, 3, none⟩) (Nat.le_refl _) _).setCell (p := ⟨w.heap.size, 4, none⟩) (Nat.le_refl _) _).setCell (p := ⟨w.heap.size, 5, none⟩) (Nat.le_refl _) _)

set_option maxHeartbeats 2000000 in
set_option maxRecDepth 100000 in
theorem iScal_n1 (s : ByteArray) (w : World) (hs : s.size ≤ 1048576) (hT : Tabs w) (hV : Cases w) (hE : Errs w) (hnw : noWord s) (hq : ¬ (0 < s.size ∧ bt s 0 = 34)) (n : Int) (e : Nat) (hr : whoQ s 0 = some (n, e)) (he : e = s.size) (hp : 0 < e) : Calls Tryz.prog 7 #[.string s] w (ScalP s w) := by
  have HX := Lib.hid (And.intro hT (And.intro hV hE)); clear hT hV hE
  have HZ := Lib.hid (ZT.new w)
  have HNW := Lib.hid hnw
  obtain ⟨c0, c1, c2, c3, c4, c5⟩ := hnw
  have HQ := Lib.hid hq; clear hq
  have HP := Lib.hid (fun w0 => (show Calls Tryz.prog 20 #[.string s, .string ⟨#[34]⟩] w0 fun e w' => e = .returned (.bool false) ∧ w0 = w' by
    have h := Tryz.strings_HasPrefix s ⟨#[34]⟩ w0
    refine h.mono fun e w' ⟨h1, h2⟩ => ⟨?_, h2.symm⟩
    rw [h1]
    have := pre_quote s
    rw [decide_eq_false HQ.out] at this
    exact congrArg (fun b => Ending.returned (.bool b)) this))
  have HW := Lib.hid (fun w0 hE => iReadWhole s 0 w0 hs hE)
  have H := Lib.hid (sc_n_yes HNW.out HQ.out hr he)
  rw [hr] at HW
  simp only [whoE, whoN] at HW
  have n1 : ((e : Int) == (s.size : Int)) = true := by rw [he]; simp
  have n2 : decide ((0 : Int) < (e : Int)) = true := decide_eq_true (by omega)
  have n3 : decide (0 < e) = true := decide_eq_true hp
  clear hr he hp
  go_enter Tryz.func7, Tryz.ntmps7
  go_wp2_with (go_at_call 20; refine (HP.out _).mono ?_; rintro e w' ⟨rfl, rfl⟩)
  refine (HW.out _ (errs_keep HX.out.2.2 HZ.out.2)).mono ?_; rintro e w1 ⟨rfl, hb1⟩
  have HZ := Lib.hid (HZ.out.keep hb1); clear hb1
  go_wp2_with (go_at_call 20; refine (HP.out _).mono ?_; rintro e w' ⟨rfl, rfl⟩)
  refine (iIntTree _ _).mono ?_; rintro e w1 ⟨rfl, hb1⟩
  have HZ := Lib.hid (HZ.out.keep hb1); clear hb1
  obtain ⟨r0, r1, r2, r3, r4, r5⟩ := HZ.out.cells
  obtain ⟨g0, g1, g2, g3, g4, g5⟩ := HZ.out.frozen
  go_wp2_with (go_at_call 20; refine (HP.out _).mono ?_; rintro e w' ⟨rfl, rfl⟩)
  refine bodyPost_ret (v := .tuple #[.agg #[.int .i64 3, .bool false, .int .i64 n, .string ⟨#[]⟩, .slice none 0 0, .slice none 0 0], .bool true]) (by simp [results, Tryz.results7, go_sem, HZ.out.cells]) rfl ?_
  exact scalP_some H.out ((((((HZ.out.2.setCell (p := ⟨w.heap.size, 0, none⟩) (Nat.le_refl _) _).setCell (p := ⟨w.heap.size, 1, none⟩) (Nat.le_refl _) _).setCell (p := ⟨w.heap.size, 2, none⟩) (Nat.le_refl _) _).setCell (p := ⟨w.heap.size, 3, none⟩) (Nat.le_refl _) _).setCell (p := ⟨w.heap.size, 4, none⟩) (Nat.le_refl _) _).setCell (p := ⟨w.heap.size, 5, none⟩) (Nat.le_refl _) _)

set_option maxHeartbeats 2000000 in
set_option maxRecDepth 100000 in
theorem iScal_p1 (s : ByteArray) (w : World) (hs : s.size ≤ 1048576) (hT : Tabs w) (hV : Cases w) (hE : Errs w) (hnw : noWord s) (hq : ¬ (0 < s.size ∧ bt s 0 = 34)) (hw : whoE (whoQ s 0) ≠ s.size ∨ whoE (whoQ s 0) ≤ 0) (hp : plainAll s = true) : Calls Tryz.prog 7 #[.string s] w (ScalP s w) := by
  have HX := Lib.hid (And.intro hT (And.intro hV hE)); clear hT hV hE
  have HZ := Lib.hid (ZT.new w)
  have HNW := Lib.hid hnw
  obtain ⟨c0, c1, c2, c3, c4, c5⟩ := hnw
  have HQ := Lib.hid hq; clear hq
  have HP := Lib.hid (fun w0 => (show Calls Tryz.prog 20 #[.string s, .string ⟨#[34]⟩] w0 fun e w' => e = .returned (.bool false) ∧ w0 = w' by
    have h := Tryz.strings_HasPrefix s ⟨#[34]⟩ w0
    refine h.mono fun e w' ⟨h1, h2⟩ => ⟨?_, h2.symm⟩
    rw [h1]
    have := pre_quote s
    rw [decide_eq_false HQ.out] at this
    exact congrArg (fun b => Ending.returned (.bool b)) this))
  have HW := Lib.hid (fun w0 hE => iReadWhole s 0 w0 hs hE)
  have H := Lib.hid (sc_plain (sc_n_no HNW.out HQ.out hw) hp)
  generalize whoE (whoQ s 0) = E at HW hw
  generalize whoN (whoQ s 0) = n at HW
  have hfx : ((E == (s.size : Int)) = true ∧ decide (0 < E) = false) ∨ (E == (s.size : Int)) = false := by
    by_cases g : E = s.size
    · left; exact ⟨by rw [g]; simp, decide_eq_false (by omega)⟩
    · right; rw [beq_eq_false_iff_ne]; exact g
  clear hw
  have hpl := fun w0 hT => iPlainAll s w0 hs hT
  rw [hp] at hpl
  have HPL := Lib.hid hpl; clear hpl hp
  rcases hfx with ⟨f1, f2⟩ | f1
  all_goals
    go_enter Tryz.func7, Tryz.ntmps7
    go_wp2_with (go_at_call 20; refine (HP.out _).mono ?_; rintro e w' ⟨rfl, rfl⟩)
    refine (HW.out _ (errs_keep HX.out.2.2 HZ.out.2)).mono ?_; rintro e w1 ⟨rfl, hb1⟩
    have HZ := Lib.hid (HZ.out.keep hb1); clear hb1
    go_wp2_with (go_at_call 20; refine (HP.out _).mono ?_; rintro e w' ⟨rfl, rfl⟩)
    refine (HPL.out _ (tabs_keep HX.out.1 HZ.out.2)).mono ?_; rintro e w1 ⟨rfl, hb1⟩
    have HZ := Lib.hid (HZ.out.keep hb1); clear hb1
    go_wp2_with (go_at_call 20; refine (HP.out _).mono ?_; rintro e w' ⟨rfl, rfl⟩)
    refine (iTextTree _ _).mono ?_; rintro e w1 ⟨rfl, hb1⟩
    have HZ := Lib.hid (HZ.out.keep hb1); clear hb1
    obtain ⟨r0, r1, r2, r3, r4, r5⟩ := HZ.out.cells
    obtain ⟨g0, g1, g2, g3, g4, g5⟩ := HZ.out.frozen
    go_wp2_with (go_at_call 20; refine (HP.out _).mono ?_; rintro e w' ⟨rfl, rfl⟩)
    refine bodyPost_ret (v := .tuple #[.agg #[.int .i64 4, .bool false, .int .i64 0, .string s, .slice none 0 0, .slice none 0 0], .bool true]) (by simp [results, Tryz.results7, go_sem, HZ.out.cells]) rfl ?_
    exact scalP_some H.out ((((((HZ.out.2.setCell (p := ⟨w.heap.size, 0, none⟩) (Nat.le_refl _) _).setCell (p := ⟨w.heap.size, 1, none⟩) (Nat.le_refl _) _).setCell (p := ⟨w.heap.size, 2, none⟩) (Nat.le_refl _) _).setCell (p := ⟨w.heap.size, 3, none⟩) (Nat.le_refl _) _).setCell (p := ⟨w.heap.size, 4, none⟩) (Nat.le_refl _) _).setCell (p := ⟨w.heap.size, 5, none⟩) (Nat.le_refl _) _)

set_option maxHeartbeats 2000000 in
set_option maxRecDepth 100000 in
theorem iScal_p0 (s : ByteArray) (w : World) (hs : s.size ≤ 1048576) (hT : Tabs w) (hV : Cases w) (hE : Errs w) (hnw : noWord s) (hq : ¬ (0 < s.size ∧ bt s 0 = 34)) (hw : whoE (whoQ s 0) ≠ s.size ∨ whoE (whoQ s 0) ≤ 0) (hp : plainAll s = false) : Calls Tryz.prog 7 #[.string s] w (ScalP s w) := by
  have HX := Lib.hid (And.intro hT (And.intro hV hE)); clear hT hV hE
  have HZ := Lib.hid (ZT.new w)
  have HNW := Lib.hid hnw
  obtain ⟨c0, c1, c2, c3, c4, c5⟩ := hnw
  have HQ := Lib.hid hq; clear hq
  have HP := Lib.hid (fun w0 => (show Calls Tryz.prog 20 #[.string s, .string ⟨#[34]⟩] w0 fun e w' => e = .returned (.bool false) ∧ w0 = w' by
    have h := Tryz.strings_HasPrefix s ⟨#[34]⟩ w0
    refine h.mono fun e w' ⟨h1, h2⟩ => ⟨?_, h2.symm⟩
    rw [h1]
    have := pre_quote s
    rw [decide_eq_false HQ.out] at this
    exact congrArg (fun b => Ending.returned (.bool b)) this))
  have HW := Lib.hid (fun w0 hE => iReadWhole s 0 w0 hs hE)
  have H := Lib.hid (sc_no (sc_n_no HNW.out HQ.out hw) hp)
  generalize whoE (whoQ s 0) = E at HW hw
  generalize whoN (whoQ s 0) = n at HW
  have hfx : ((E == (s.size : Int)) = true ∧ decide (0 < E) = false) ∨ (E == (s.size : Int)) = false := by
    by_cases g : E = s.size
    · left; exact ⟨by rw [g]; simp, decide_eq_false (by omega)⟩
    · right; rw [beq_eq_false_iff_ne]; exact g
  clear hw
  have hpl := fun w0 hT => iPlainAll s w0 hs hT
  rw [hp] at hpl
  have HPL := Lib.hid hpl; clear hpl hp
  rcases hfx with ⟨f1, f2⟩ | f1
  all_goals
    go_enter Tryz.func7, Tryz.ntmps7
    go_wp2_with (go_at_call 20; refine (HP.out _).mono ?_; rintro e w' ⟨rfl, rfl⟩)
    refine (HW.out _ (errs_keep HX.out.2.2 HZ.out.2)).mono ?_; rintro e w1 ⟨rfl, hb1⟩
    have HZ := Lib.hid (HZ.out.keep hb1); clear hb1
    go_wp2_with (go_at_call 20; refine (HP.out _).mono ?_; rintro e w' ⟨rfl, rfl⟩)
    refine (HPL.out _ (tabs_keep HX.out.1 HZ.out.2)).mono ?_; rintro e w1 ⟨rfl, hb1⟩
    have HZ := Lib.hid (HZ.out.keep hb1); clear hb1
    obtain ⟨r0, r1, r2, r3, r4, r5⟩ := HZ.out.cells
    obtain ⟨g0, g1, g2, g3, g4, g5⟩ := HZ.out.frozen
    go_wp2_with (go_at_call 20; refine (HP.out _).mono ?_; rintro e w' ⟨rfl, rfl⟩)
    refine bodyPost_ret (v := .tuple #[.agg #[.int .i64 0, .bool false, .int .i64 0, .string ⟨#[]⟩, .slice none 0 0, .slice none 0 0], .bool false]) (by simp [results, Tryz.results7, go_sem, HZ.out.cells]) rfl ?_
    exact scalP_none H.out ((((((HZ.out.2.setCell (p := ⟨w.heap.size, 0, none⟩) (Nat.le_refl _) _).setCell (p := ⟨w.heap.size, 1, none⟩) (Nat.le_refl _) _).setCell (p := ⟨w.heap.size, 2, none⟩) (Nat.le_refl _) _).setCell (p := ⟨w.heap.size, 3, none⟩) (Nat.le_refl _) _).setCell (p := ⟨w.heap.size, 4, none⟩) (Nat.le_refl _) _).setCell (p := ⟨w.heap.size, 5, none⟩) (Nat.le_refl _) _)

theorem iReadScalar (s : ByteArray) (w : World) (hs : s.size ≤ 1048576) (hT : Tabs w) (hV : Cases w) (hE : Errs w) : Calls Tryz.prog 7 #[.string s] w (ScalP s w) := by
  cases c0 : (s.toList == [91, 93])
  rotate_left
  · exact iScal_w0 s w hs hT hV hE c0
  cases c1 : (s.toList == [123, 125])
  rotate_left
  · exact iScal_w1 s w hs hT hV hE c1
  cases c2 : (s.toList == [110, 117, 108, 108])
  rotate_left
  · exact iScal_w2 s w hs hT hV hE c2
  cases c3 : (s.toList == [126])
  rotate_left
  · exact iScal_w3 s w hs hT hV hE c3
  cases c4 : (s.toList == [116, 114, 117, 101])
  rotate_left
  · exact iScal_w4 s w hs hT hV hE c4
  cases c5 : (s.toList == [102, 97, 108, 115, 101])
  rotate_left
  · exact iScal_w5 s w hs hT hV hE c5
  have hnw : noWord s := ⟨c0, c1, c2, c3, c4, c5⟩
  by_cases hq : 0 < s.size ∧ bt s 0 = 34
  · cases hr : readQ s 0 with
    | none => exact iScal_q0 s w hs hT hV hE hnw hq hr
    | some x =>
      obtain ⟨l, e⟩ := x
      by_cases he : e = s.size
      · by_cases hk : l.length ≤ 400
        · exact iScal_q2 s w hs hT hV hE hnw hq l e hr he hk
        · exact iScal_q3 s w hs hT hV hE hnw hq l e hr he hk
      · exact iScal_q1 s w hs hT hV hE hnw hq l e hr he
  by_cases hw : whoE (whoQ s 0) = s.size ∧ 0 < whoE (whoQ s 0)
  · cases hr : whoQ s 0 with
    | none => rw [hr] at hw; simp only [whoE] at hw; omega
    | some x =>
      obtain ⟨n, e⟩ := x
      rw [hr] at hw
      simp only [whoE] at hw
      exact iScal_n1 s w hs hT hV hE hnw hq n e hr (by omega) (by omega)
  have hw2 : whoE (whoQ s 0) ≠ s.size ∨ whoE (whoQ s 0) ≤ 0 := by omega
  cases hp : plainAll s
  · exact iScal_p0 s w hs hT hV hE hnw hq hw2 hp
  · exact iScal_p1 s w hs hT hV hE hnw hq hw2 hp

end Go.Proofs.YtclffhejoneiaaaGreatDoor
namespace Go.Proofs.YtclffhejoneiaaaGreatDoor
open Go.RowKit

theorem scT_size (s : ByteArray) : (scT (scalO s)).size ≤ 400 := by
  have h0 : noB.size = 0 := rfl
  have ht : (scT (scTail s)).size ≤ 400 := by
    unfold scTail
    split
    · rename_i h
      simp only [plainAll, betweenB, Bool.and_eq_true, decide_eq_true_eq] at h
      simp only [scT]; omega
    · simp only [scT]; omega
  have hn : (scT (scNum s)).size ≤ 400 := by
    unfold scNum
    split
    · exact ht
    · split
      · simp only [scT]; omega
      · exact ht
  have hq : (scT (scQuote s)).size ≤ 400 := by
    unfold scQuote
    split
    · simp only [scT]; omega
    · split
      · rename_i h
        simp only [scT]
        show (List.toArray _).size ≤ 400
        rw [List.size_toArray]; exact h.2
      · simp only [scT]; omega
  unfold scalO
  repeat' split
  all_goals first | exact hq | exact hn | (simp only [scT]; omega)

set_option maxRecDepth 100000 in
set_option maxHeartbeats 2000000 in
theorem lawReadScalar (s : ByteArray) (hm : s.size ≤ maxLen) {w : World} (_h1 : Lib.VarReads Tryz.prog w "math/bits.deBruijn32tab" Rows.laid_math_bits_deBruijn32tab) (_h2 : Lib.VarReads Tryz.prog w "math/bits.deBruijn64tab" Rows.laid_math_bits_deBruijn64tab) (_h3 : Lib.VarReads Tryz.prog w "internal/strconv.uint64pow10" Rows.laid_internal_strconv_uint64pow10) (h4 : Lib.VarReads Tryz.prog w "unicode/utf8.acceptRanges" Rows.laid_unicode_utf8_acceptRanges) (h5 : Lib.VarReads Tryz.prog w "strconv.ErrRange" Rows.laid_strconv_ErrRange) (_h6 : Lib.VarReads Tryz.prog w "strconv.ErrSyntax" Rows.laid_strconv_ErrSyntax) (h7 : Lib.VarReads Tryz.prog w "unicode.CaseRanges" Rows.laid_unicode_CaseRanges) (h8 : Lib.VarReads Tryz.prog w "unicode/utf8.first" Rows.laid_unicode_utf8_first) :
    Calls Tryz.prog 3 #[.string s] w fun e w' => e = .returned (.bool true) ∧ Below w.heap.size w w' := by
  have hT := tabs_of h4 h8
  have hV := cases_of h7
  have hE := errs_of h5
  clear h4 h5 h7 h8
  unfold maxLen at hm
  by_cases hs : s.size ≤ 1048576
  rotate_left
  · go_enter Tryz.func3, Tryz.ntmps3
    go_wp2
    go_ret
    exact ⟨rfl, Below.refl _ _⟩
  have HX := Lib.hid (And.intro hT (And.intro hV hE)); clear hT hV hE
  have hsz := scT_size s
  have hc1 : ∀ w0, Calls Tryz.prog 6 #[.string s] w0 fun e w' => e = .returned (.tuple #[.agg #[.int .i64 (scK (scalO s)), .bool (scF (scalO s)), .int .i64 (scN (scalO s)), .string (scT (scalO s)), .slice none 0 0, .slice none 0 0], .bool (scalO s).isSome]) ∧ Below w0.heap.size w0 w' := fun w0 => sReadScalar s w0 hs
  have hc2 : ∀ w0, Tabs w0 → Cases w0 → Errs w0 → Calls Tryz.prog 7 #[.string s] w0 fun e w' => e = .returned (.tuple #[.agg #[.int .i64 (scK (scalO s)), .bool (scF (scalO s)), .int .i64 (scN (scalO s)), .string (scT (scalO s)), .slice none 0 0, .slice none 0 0], .bool (scalO s).isSome]) ∧ Below w0.heap.size w0 w' := fun w0 hT hV hE => iReadScalar s w0 hs hT hV hE
  generalize scalO s = o at hsz hc1 hc2
  generalize scK o = k at hc1 hc2
  generalize scF o = f at hc1 hc2
  generalize scN o = n at hc1 hc2
  generalize scT o = x at hsz hc1 hc2
  generalize o.isSome = b at hc1 hc2
  have HS := Lib.hid (show x.size ≤ 1048576 by omega)
  have HC1 := Lib.hid hc1; have HC2 := Lib.hid hc2
  have eb : (b != b) = false := by simp
  clear hc1 hc2 hsz
  go_enter Tryz.func3, Tryz.ntmps3
  go_wp2_with fail
  refine (HC1.out _).mono ?_; rintro e w1 ⟨rfl, hb1⟩
  have hsp1 := Spill.new w1 (.mk k f n x [] []) (.slice none 0 0) (.slice none 0 0) 25
  have hbw1 := hb1.trans ((alloc_below w1 #[.int .i64 k, .bool f, .int .i64 n, .string x, .slice none 0 0, .slice none 0 0] 25).mono hb1.size)
  obtain ⟨b3, hb3⟩ : ∃ b3, b3 = w1.heap.size := ⟨_, rfl⟩
  go_wp2_with fail
  refine (HC2.out _ (tabs_keep HX.out.1 hbw1) (cases_keep HX.out.2.1 hbw1) (errs_keep HX.out.2.2 hbw1)).mono ?_; rintro e w2 ⟨rfl, hb2⟩
  have hsp1 := hsp1.keep hb2
  have hbw2 := bnext hbw1 hb2
  have hsp2 := Spill.new w2 (.mk k f n x [] []) (.slice none 0 0) (.slice none 0 0) 25
  have hal := alloc_below w2 #[.int .i64 k, .bool f, .int .i64 n, .string x, .slice none 0 0, .slice none 0 0] 25
  have hsp1 := hsp1.keep hal
  have hbw2 := bnext hbw2 hal
  clear hal hb1 hb2 hbw1
  obtain ⟨b4, hb4⟩ : ∃ b4, b4 = w2.heap.size := ⟨_, rfl⟩
  rw [← hb3] at hsp1
  rw [← hb4] at hsp2
  have HI := Lib.hid (And.intro hsp1 (And.intro hsp2 hbw2)); clear hsp1 hsp2 hbw2
  have HB := Lib.hid (And.intro hb3 hb4)
  clear hb3 hb4
  obtain ⟨p0, p1, p2, p3, p4, p5⟩ := HI.out.1.cells
  obtain ⟨q0, q1, q2, q3, q4, q5⟩ := HI.out.2.1.cells
  simp only [kind_mk, flag_mk, num_mk, text_mk] at p0 p1 p2 p3 q0 q1 q2 q3
  rw [HB.out.1] at p0 p1 p2 p3 p4 p5
  rw [HB.out.2] at q0 q1 q2 q3 q4 q5
  go_wp2_with fail
  clear p0 p1 p2 p3 p4 p5 q0 q1 q2 q3 q4 q5
  refine (eqLeaf k f n x _ HS.out).mono ?_; rintro e w9 ⟨rfl, hb9⟩
  have HI := Lib.hid (And.intro (HI.out.1.keep hb9) (And.intro (HI.out.2.1.keep hb9) (bnext HI.out.2.2 hb9))); clear hb9
  obtain ⟨p0, p1, p2, p3, p4, p5⟩ := HI.out.1.cells
  obtain ⟨q0, q1, q2, q3, q4, q5⟩ := HI.out.2.1.cells
  simp only [kind_mk, flag_mk, num_mk, text_mk] at p0 p1 p2 p3 q0 q1 q2 q3
  rw [HB.out.1] at p0 p1 p2 p3 p4 p5
  rw [HB.out.2] at q0 q1 q2 q3 q4 q5
  go_wp2_with fail
  clear p0 p1 p2 p3 p4 p5 q0 q1 q2 q3 q4 q5
  refine (markLeaf k f n x _).mono ?_; rintro e w9 ⟨rfl, hb9⟩
  have HI := Lib.hid (And.intro (HI.out.1.keep hb9) (And.intro (HI.out.2.1.keep hb9) (bnext HI.out.2.2 hb9))); clear hb9
  obtain ⟨p0, p1, p2, p3, p4, p5⟩ := HI.out.1.cells
  obtain ⟨q0, q1, q2, q3, q4, q5⟩ := HI.out.2.1.cells
  simp only [kind_mk, flag_mk, num_mk, text_mk] at p0 p1 p2 p3 q0 q1 q2 q3
  rw [HB.out.1] at p0 p1 p2 p3 p4 p5
  rw [HB.out.2] at q0 q1 q2 q3 q4 q5
  go_wp2_with fail
  clear p0 p1 p2 p3 p4 p5 q0 q1 q2 q3 q4 q5
  refine (heldLeaf k f n x _).mono ?_; rintro e w9 ⟨rfl, hb9⟩
  have HI := Lib.hid (And.intro (HI.out.1.keep hb9) (And.intro (HI.out.2.1.keep hb9) (bnext HI.out.2.2 hb9))); clear hb9
  go_wp2_with fail
  refine (HC2.out _ (tabs_keep HX.out.1 HI.out.2.2) (cases_keep HX.out.2.1 HI.out.2.2) (errs_keep HX.out.2.2 HI.out.2.2)).mono ?_; rintro e w5 ⟨rfl, hb5⟩
  have hal := alloc_below w5 #[.int .i64 k, .bool f, .int .i64 n, .string x, .slice none 0 0, .slice none 0 0] 25
  have hsp5 := (Spill.new w5 (.mk k f n x [] []) (.slice none 0 0) (.slice none 0 0) 25).cells
  have HI := Lib.hid (And.intro ((HI.out.1.keep hb5).keep hal) (And.intro ((HI.out.2.1.keep hb5).keep hal) (bnext (bnext HI.out.2.2 hb5) hal))); clear hb5 hal
  obtain ⟨r0, r1, r2, r3, r4, r5⟩ := hsp5
  simp only [kind_mk, flag_mk, num_mk, text_mk] at r0 r1 r2 r3
  obtain ⟨p0, p1, p2, p3, p4, p5⟩ := HI.out.1.cells
  obtain ⟨q0, q1, q2, q3, q4, q5⟩ := HI.out.2.1.cells
  simp only [kind_mk, flag_mk, num_mk, text_mk] at p0 p1 p2 p3 q0 q1 q2 q3
  rw [HB.out.1] at p0 p1 p2 p3 p4 p5
  rw [HB.out.2] at q0 q1 q2 q3 q4 q5
  go_wp2_with fail
  clear p0 p1 p2 p3 p4 p5 q0 q1 q2 q3 q4 q5
  clear r0 r1 r2 r3 r4 r5
  refine (eqLeaf k f n x _ HS.out).mono ?_; rintro e w9 ⟨rfl, hb9⟩
  have HI := Lib.hid (And.intro (HI.out.1.keep hb9) (And.intro (HI.out.2.1.keep hb9) (bnext HI.out.2.2 hb9))); clear hb9
  obtain ⟨p0, p1, p2, p3, p4, p5⟩ := HI.out.1.cells
  obtain ⟨q0, q1, q2, q3, q4, q5⟩ := HI.out.2.1.cells
  simp only [kind_mk, flag_mk, num_mk, text_mk] at p0 p1 p2 p3 q0 q1 q2 q3
  rw [HB.out.1] at p0 p1 p2 p3 p4 p5
  rw [HB.out.2] at q0 q1 q2 q3 q4 q5
  go_wp2_with fail
  clear p0 p1 p2 p3 p4 p5 q0 q1 q2 q3 q4 q5
  refine (heldLeaf k f n x _).mono ?_; rintro e w9 ⟨rfl, hb9⟩
  have HI := Lib.hid (And.intro (HI.out.1.keep hb9) (And.intro (HI.out.2.1.keep hb9) (bnext HI.out.2.2 hb9))); clear hb9
  go_wp2
  go_ret
  exact ⟨rfl, HI.out.2.2⟩

end Go.Proofs.YtclffhejoneiaaaGreatDoor
namespace Go.Proofs.YtclffhejoneiaaaGreatDoor
open Go.RowKit

def sameSc (o p : Option Sc) : Bool := o.isSome && (p.isSome && sameTr (.mk (scK o) (scF o) (scN o) (scT o) [] []) (.mk (scK p) (scF p) (scN p) (scT p) [] []))
set_option maxRecDepth 100000 in
set_option maxHeartbeats 2000000 in
theorem sScalarSame (a b : ByteArray) (w : World) (ha : a.size ≤ 1048576) (hb : b.size ≤ 1048576) : Calls Tryz.prog 11 #[.string a, .string b] w fun e w' => e = .returned (.bool (sameSc (scalO a) (scalO b))) ∧ Below w.heap.size w w' := by
  have hsz1 := scT_size a
  have hsz2 := scT_size b
  have hc1 : ∀ w0, Calls Tryz.prog 6 #[.string a] w0 fun e w' => e = .returned (.tuple #[.agg #[.int .i64 (scK (scalO a)), .bool (scF (scalO a)), .int .i64 (scN (scalO a)), .string (scT (scalO a)), .slice none 0 0, .slice none 0 0], .bool (scalO a).isSome]) ∧ Below w0.heap.size w0 w' := fun w0 => sReadScalar a w0 ha
  have hc2 : ∀ w0, Calls Tryz.prog 6 #[.string b] w0 fun e w' => e = .returned (.tuple #[.agg #[.int .i64 (scK (scalO b)), .bool (scF (scalO b)), .int .i64 (scN (scalO b)), .string (scT (scalO b)), .slice none 0 0, .slice none 0 0], .bool (scalO b).isSome]) ∧ Below w0.heap.size w0 w' := fun w0 => sReadScalar b w0 hb
  have HSM : Hid (sameSc (scalO a) (scalO b) = ((scalO a).isSome && ((scalO b).isSome && sameTr (.mk (scK (scalO a)) (scF (scalO a)) (scN (scalO a)) (scT (scalO a)) [] []) (.mk (scK (scalO b)) (scF (scalO b)) (scN (scalO b)) (scT (scalO b)) [] [])))) := rfl
  generalize sameSc (scalO a) (scalO b) = R at HSM ⊢
  generalize scalO a = o1 at hsz1 hc1 HSM
  generalize scK o1 = k1 at hc1 HSM
  generalize scF o1 = f1 at hc1 HSM
  generalize scN o1 = n1 at hc1 HSM
  generalize scT o1 = x1 at hsz1 hc1 HSM
  generalize o1.isSome = b1 at hc1 HSM
  generalize scalO b = o2 at hsz2 hc2 HSM
  generalize scK o2 = k2 at hc2 HSM
  generalize scF o2 = f2 at hc2 HSM
  generalize scN o2 = n2 at hc2 HSM
  generalize scT o2 = x2 at hsz2 hc2 HSM
  generalize o2.isSome = b2 at hc2 HSM
  have HC1 := Lib.hid hc1; have HC2 := Lib.hid hc2
  have hST := fun w0 => sameTS 1 (.mk k1 f1 n1 x1 [] []) (.mk k2 f2 n2 x2 [] []) Any Any (.slice none 0 0) (.slice none 0 0) (.slice none 0 0) (.slice none 0 0) w0 (by simp [Tr.nodes, nodesL]) (by simp [Tr.wt, strWt, wtL]; omega) (leaf_in _ _ _ _ _) (leaf_in _ _ _ _ _)
  simp only [kind_mk, flag_mk, num_mk, text_mk] at hST
  have HST := Lib.hid hST
  clear hc1 hc2 hST hsz1 hsz2
  go_enter Tryz.func11, Tryz.ntmps11
  go_wp2_with fail
  refine (HC1.out _).mono ?_; rintro e w1 ⟨rfl, hb1⟩
  have hsp1 := Spill.new w1 (.mk k1 f1 n1 x1 [] []) (.slice none 0 0) (.slice none 0 0) 25
  have hbw1 := hb1.trans ((alloc_below w1 #[.int .i64 k1, .bool f1, .int .i64 n1, .string x1, .slice none 0 0, .slice none 0 0] 25).mono hb1.size)
  obtain ⟨b3, hb3⟩ : ∃ b3, b3 = w1.heap.size := ⟨_, rfl⟩
  go_wp2_with fail
  refine (HC2.out _).mono ?_; rintro e w2 ⟨rfl, hb2⟩
  have hsp1 := hsp1.keep hb2
  have hbw2 := bnext hbw1 hb2
  have hsp2 := Spill.new w2 (.mk k2 f2 n2 x2 [] []) (.slice none 0 0) (.slice none 0 0) 25
  have hal := alloc_below w2 #[.int .i64 k2, .bool f2, .int .i64 n2, .string x2, .slice none 0 0, .slice none 0 0] 25
  have hsp1 := hsp1.keep hal
  have hbw2 := bnext hbw2 hal
  clear hal hb1 hb2 hbw1
  obtain ⟨b4, hb4⟩ : ∃ b4, b4 = w2.heap.size := ⟨_, rfl⟩
  rw [← hb3] at hsp1
  rw [← hb4] at hsp2
  have HI := Lib.hid (And.intro hsp1 (And.intro hsp2 hbw2)); clear hsp1 hsp2 hbw2
  have HB := Lib.hid (And.intro hb3 hb4)
  clear hb3 hb4
  obtain ⟨p0, p1, p2, p3, p4, p5⟩ := HI.out.1.cells
  obtain ⟨q0, q1, q2, q3, q4, q5⟩ := HI.out.2.1.cells
  simp only [kind_mk, flag_mk, num_mk, text_mk] at p0 p1 p2 p3 q0 q1 q2 q3
  rw [HB.out.1] at p0 p1 p2 p3 p4 p5
  rw [HB.out.2] at q0 q1 q2 q3 q4 q5
  cases b1
  · go_wp2_with fail
    go_ret
    exact ⟨ret_bool (by rw [HSM.out]; rfl), HI.out.2.2⟩
  cases b2
  · go_wp2_with fail
    go_ret
    exact ⟨ret_bool (by rw [HSM.out]; rfl), HI.out.2.2⟩
  go_wp2_with (go_at_call 32; refine (HST.out _).mono ?_; rintro e w3 ⟨rfl, hb9⟩)
  go_ret
  exact ⟨ret_bool (by rw [HSM.out]; rfl), bnext HI.out.2.2 hb9⟩

set_option maxRecDepth 100000 in
set_option maxHeartbeats 2000000 in
theorem iScalarSame (a b : ByteArray) (w : World) (ha : a.size ≤ 1048576) (hb : b.size ≤ 1048576) (hT : Tabs w) (hV : Cases w) (hE : Errs w) : Calls Tryz.prog 12 #[.string a, .string b] w fun e w' => e = .returned (.bool (sameSc (scalO a) (scalO b))) ∧ Below w.heap.size w w' := by
  have HX := Lib.hid (And.intro hT (And.intro hV hE)); clear hT hV hE
  have hsz1 := scT_size a
  have hsz2 := scT_size b
  have hc1 : ∀ w0, Tabs w0 → Cases w0 → Errs w0 → Calls Tryz.prog 7 #[.string a] w0 fun e w' => e = .returned (.tuple #[.agg #[.int .i64 (scK (scalO a)), .bool (scF (scalO a)), .int .i64 (scN (scalO a)), .string (scT (scalO a)), .slice none 0 0, .slice none 0 0], .bool (scalO a).isSome]) ∧ Below w0.heap.size w0 w' := fun w0 hT hV hE => iReadScalar a w0 ha hT hV hE
  have hc2 : ∀ w0, Tabs w0 → Cases w0 → Errs w0 → Calls Tryz.prog 7 #[.string b] w0 fun e w' => e = .returned (.tuple #[.agg #[.int .i64 (scK (scalO b)), .bool (scF (scalO b)), .int .i64 (scN (scalO b)), .string (scT (scalO b)), .slice none 0 0, .slice none 0 0], .bool (scalO b).isSome]) ∧ Below w0.heap.size w0 w' := fun w0 hT hV hE => iReadScalar b w0 hb hT hV hE
  have HSM : Hid (sameSc (scalO a) (scalO b) = ((scalO a).isSome && ((scalO b).isSome && sameTr (.mk (scK (scalO a)) (scF (scalO a)) (scN (scalO a)) (scT (scalO a)) [] []) (.mk (scK (scalO b)) (scF (scalO b)) (scN (scalO b)) (scT (scalO b)) [] [])))) := rfl
  generalize sameSc (scalO a) (scalO b) = R at HSM ⊢
  generalize scalO a = o1 at hsz1 hc1 HSM
  generalize scK o1 = k1 at hc1 HSM
  generalize scF o1 = f1 at hc1 HSM
  generalize scN o1 = n1 at hc1 HSM
  generalize scT o1 = x1 at hsz1 hc1 HSM
  generalize o1.isSome = b1 at hc1 HSM
  generalize scalO b = o2 at hsz2 hc2 HSM
  generalize scK o2 = k2 at hc2 HSM
  generalize scF o2 = f2 at hc2 HSM
  generalize scN o2 = n2 at hc2 HSM
  generalize scT o2 = x2 at hsz2 hc2 HSM
  generalize o2.isSome = b2 at hc2 HSM
  have HC1 := Lib.hid hc1; have HC2 := Lib.hid hc2
  have hST := fun w0 => sameT 1 (.mk k1 f1 n1 x1 [] []) (.mk k2 f2 n2 x2 [] []) Any Any (.slice none 0 0) (.slice none 0 0) (.slice none 0 0) (.slice none 0 0) w0 (by simp [Tr.nodes, nodesL]) (by simp [Tr.wt, strWt, wtL]; omega) (leaf_in _ _ _ _ _) (leaf_in _ _ _ _ _)
  simp only [kind_mk, flag_mk, num_mk, text_mk] at hST
  have HST := Lib.hid hST
  clear hc1 hc2 hST hsz1 hsz2
  go_enter Tryz.func12, Tryz.ntmps12
  go_wp2_with fail
  refine (HC1.out _ HX.out.1 HX.out.2.1 HX.out.2.2).mono ?_; rintro e w1 ⟨rfl, hb1⟩
  have hsp1 := Spill.new w1 (.mk k1 f1 n1 x1 [] []) (.slice none 0 0) (.slice none 0 0) 25
  have hbw1 := hb1.trans ((alloc_below w1 #[.int .i64 k1, .bool f1, .int .i64 n1, .string x1, .slice none 0 0, .slice none 0 0] 25).mono hb1.size)
  obtain ⟨b3, hb3⟩ : ∃ b3, b3 = w1.heap.size := ⟨_, rfl⟩
  go_wp2_with fail
  refine (HC2.out _ (tabs_keep HX.out.1 hbw1) (cases_keep HX.out.2.1 hbw1) (errs_keep HX.out.2.2 hbw1)).mono ?_; rintro e w2 ⟨rfl, hb2⟩
  have hsp1 := hsp1.keep hb2
  have hbw2 := bnext hbw1 hb2
  have hsp2 := Spill.new w2 (.mk k2 f2 n2 x2 [] []) (.slice none 0 0) (.slice none 0 0) 25
  have hal := alloc_below w2 #[.int .i64 k2, .bool f2, .int .i64 n2, .string x2, .slice none 0 0, .slice none 0 0] 25
  have hsp1 := hsp1.keep hal
  have hbw2 := bnext hbw2 hal
  clear hal hb1 hb2 hbw1
  obtain ⟨b4, hb4⟩ : ∃ b4, b4 = w2.heap.size := ⟨_, rfl⟩
  rw [← hb3] at hsp1
  rw [← hb4] at hsp2
  have HI := Lib.hid (And.intro hsp1 (And.intro hsp2 hbw2)); clear hsp1 hsp2 hbw2
  have HB := Lib.hid (And.intro hb3 hb4)
  clear hb3 hb4
  obtain ⟨p0, p1, p2, p3, p4, p5⟩ := HI.out.1.cells
  obtain ⟨q0, q1, q2, q3, q4, q5⟩ := HI.out.2.1.cells
  simp only [kind_mk, flag_mk, num_mk, text_mk] at p0 p1 p2 p3 q0 q1 q2 q3
  rw [HB.out.1] at p0 p1 p2 p3 p4 p5
  rw [HB.out.2] at q0 q1 q2 q3 q4 q5
  cases b1
  · go_wp2_with fail
    go_ret
    exact ⟨ret_bool (by rw [HSM.out]; rfl), HI.out.2.2⟩
  cases b2
  · go_wp2_with fail
    go_ret
    exact ⟨ret_bool (by rw [HSM.out]; rfl), HI.out.2.2⟩
  go_wp2_with (go_at_call 33; refine (HST.out _).mono ?_; rintro e w3 ⟨rfl, hb9⟩)
  go_ret
  exact ⟨ret_bool (by rw [HSM.out]; rfl), bnext HI.out.2.2 hb9⟩

set_option maxRecDepth 100000 in
theorem lawScalarSame (a : ByteArray) (hma : a.size ≤ maxLen) (b : ByteArray) (hmb : b.size ≤ maxLen) {w : World} (_h1 : Lib.VarReads Tryz.prog w "math/bits.deBruijn32tab" Rows.laid_math_bits_deBruijn32tab) (_h2 : Lib.VarReads Tryz.prog w "math/bits.deBruijn64tab" Rows.laid_math_bits_deBruijn64tab) (_h3 : Lib.VarReads Tryz.prog w "internal/strconv.uint64pow10" Rows.laid_internal_strconv_uint64pow10) (h4 : Lib.VarReads Tryz.prog w "unicode/utf8.acceptRanges" Rows.laid_unicode_utf8_acceptRanges) (h5 : Lib.VarReads Tryz.prog w "strconv.ErrRange" Rows.laid_strconv_ErrRange) (_h6 : Lib.VarReads Tryz.prog w "strconv.ErrSyntax" Rows.laid_strconv_ErrSyntax) (h7 : Lib.VarReads Tryz.prog w "unicode.CaseRanges" Rows.laid_unicode_CaseRanges) (h8 : Lib.VarReads Tryz.prog w "unicode/utf8.first" Rows.laid_unicode_utf8_first) :
    Calls Tryz.prog 4 #[.string a, .string b] w fun e w' => e = .returned (.bool true) ∧ Below w.heap.size w w' := by
  have hT := tabs_of h4 h8
  have hV := cases_of h7
  have hE := errs_of h5
  clear h4 h5 h7 h8
  unfold maxLen at hma hmb
  by_cases hs : a.size ≤ 1048576
  rotate_left
  · go_enter Tryz.func4, Tryz.ntmps4
    go_wp2
    go_ret
    exact ⟨rfl, Below.refl _ _⟩
  by_cases hs2 : b.size ≤ 1048576
  rotate_left
  · go_enter Tryz.func4, Tryz.ntmps4
    go_wp2
    go_ret
    exact ⟨rfl, Below.refl _ _⟩
  have HX := Lib.hid (And.intro hT (And.intro hV hE)); clear hT hV hE
  have HC1 := Lib.hid (fun w0 => sScalarSame a b w0 hs hs2)
  have HC2 := Lib.hid (fun w0 hT hV hE => iScalarSame a b w0 hs hs2 hT hV hE)
  generalize sameSc (scalO a) (scalO b) = R at HC1 HC2
  have e1 := beq_self_eq_true R
  have e2 : (R != R) = false := by simp
  go_enter Tryz.func4, Tryz.ntmps4
  go_wp2_with fail
  refine (HC1.out _).mono ?_; rintro e w1 ⟨rfl, hb1⟩
  go_wp2_with fail
  refine (HC2.out _ (tabs_keep HX.out.1 hb1) (cases_keep HX.out.2.1 hb1) (errs_keep HX.out.2.2 hb1)).mono ?_; rintro e w2 ⟨rfl, hb2⟩
  go_wp2
  go_ret
  exact ⟨rfl, bnext hb1 hb2⟩

end Go.Proofs.YtclffhejoneiaaaGreatDoor
