/- DrawA, DrawS, Wrd, DrawI, DrawT, DrawL, merged. -/
import Derived.Test.YtomhbbchflblpaaGreatDoorDraw
import Derived.Test.YtomhbbchflblpaaGreatDoorVB
import Derived.Test.YtomhbbchflblpaaGreatDoorVA
import Derived.OpenShut
namespace Go.Proofs.YtomhbbchflblpaaGreatDoor
open Go.RowKit

def intF (l : List Int) (i _j : Nat) : Value := .int .i64 (l.getD i 0)
theorem take_succ_getD (l : List Int) (j : Nat) (h : j < l.length) : l.take (j + 1) = l.take j ++ [l.getD j 0] := by
  rw [List.take_succ_eq_append_getElem h, List.getD_eq_getElem?_getD, List.getElem?_eq_getElem h]; rfl

set_option maxHeartbeats 1000000 in
theorem sRunesText (l : List Int) (a : Option Addr) (cap : Nat) (w : World) (hn : l.length ≤ 10000000) (hc : SlAt w a l.length 1 (intF l)) :
    Calls Tryz.prog 113 #[.slice a l.length cap] w fun e w' => e = .returned (.string ⟨(rtexts l).toArray⟩) ∧ Below w.heap.size w w' := by
  have HSL := Lib.hid hc; clear hc
  go_enter Tryz.func113, Tryz.ntmps113
  go_wp2_with fail
  go_loopw [3, 4] (fun v i wr => ∃ j : Nat, j ≤ l.length ∧ i = .int .i64 j ∧ Buf w wr v (rtexts (l.take j))) (fun _ i _ => l.length - (intOf i).toNat)
  case atStart => exact ⟨0, by omega, rfl, Buf.lit w [] _ 0 rfl rfl (by omega)⟩
  case round =>
    obtain ⟨j, hj, rfl, hbuf⟩ := hrel
    have HB := Lib.hid hbuf
    have hlen : (rtexts (l.take j)).length ≤ 4 * j := by
      have := rtexts_len (l.take j)
      have h2 : (l.take j).length ≤ j := List.length_take_le _ _
      omega
    by_cases hlt : j < l.length
    · obtain ⟨b, off, rfl, hcell⟩ := (HSL.out.keep hbuf.bel).at (by omega)
      have c0 : wr.cell? ⟨b, off + j, none⟩ = some (.int .i64 (l.getD j 0)) := by
        have := hcell j hlt 0 (by omega); simpa [intF] using this
      have HE := Lib.hid (show rtexts (l.take (j + 1)) = rtexts (l.take j) ++ rtext (l.getD j 0) by rw [take_succ_getD l j hlt, rtexts_snoc])
      generalize l.getD j 0 = n at c0 HE
      have HN := Lib.hid (rtext_len4 n)
      clear hcell hbuf
      go_wp2_with (first | (go_at_call 90; refine (sRuneText _ _).mono ?_; rintro e w4 ⟨rfl, hb4⟩) | (at_builtin; refine wpList_bufS (by rfl) _ _ (by rfl) _ _ w _ (by rfl) (HB.out.keep hb4) _ (by rfl) (by have := HN.out; show _ + (rtext n).length ≤ _; omega) ?_; intro v2 w2 hb2))
      go_roundw
      case rel => exact ⟨j + 1, by omega, by go_num, by rw [HE.out]; exact hb2⟩
      case measure => simp [intOf]; omega
    · obtain rfl : j = l.length := by omega
      have ht := hbuf.text
      rw [List.take_length] at ht
      clear hbuf
      go_wp2
      go_ret
      exact ⟨rfl, HB.out.bel⟩

end Go.Proofs.YtomhbbchflblpaaGreatDoor
namespace Go.Proofs.YtomhbbchflblpaaGreatDoor
open Go.RowKit

theorem lit_ints (w : World) (l : List Int) (cs : Array Value) (hcs : cs = (l.map (Value.int .i64)).toArray) : SlAt (w.alloc (.cells cs 3)) (some ⟨w.heap.size, 0, none⟩) l.length 1 (fun i _ => .int .i64 (l.getD i 0)) := by
  subst hcs
  refine SlAt.of_row (World.rowIs_alloc w (l.map (Value.int .i64)).toArray 3 (fun j => .int .i64 (l.getD j 0)) (fun i hi => ?_)) (by simp) (fun i hi j hj => ?_)
  · simp at hi
    simp [List.getD_eq_getElem?_getD, hi]
  · have : i * 1 + j = i := by omega
    rw [this]
theorem lit_strs (w : World) (l : List ByteArray) (cs : Array Value) (hcs : cs = (l.map Value.string).toArray) : SlAt (w.alloc (.cells cs 9)) (some ⟨w.heap.size, 0, none⟩) l.length 1 (fun i _ => .string (l.getD i ⟨#[]⟩)) := by
  subst hcs
  refine SlAt.of_row (World.rowIs_alloc w (l.map Value.string).toArray 9 (fun j => .string (l.getD j ⟨#[]⟩)) (fun i hi => ?_)) (by simp) (fun i hi j hj => ?_)
  · simp at hi
    simp [List.getD_eq_getElem?_getD, hi]
  · have : i * 1 + j = i := by omega
    rw [this]
theorem Cur.alloc {w : World} {g : Nat} (h : Cur w g) (o : Obj) : Cur (w.alloc o) g := h.keep ((Below.refl _ _).alloc (Nat.le_refl _) _)
theorem Apart.alloc {L : List Nat} {a w : World} (h : Apart L a w) (o : Obj) : Apart L a (w.alloc o) := h.trans (Apart.of_below ((Below.refl _ _).alloc (Nat.le_refl _) _) _)

def IntP (g : Nat) (w : World) (e : Ending) (w' : World) : Prop := ∃ x : Int, e = .returned (.int .i64 x) ∧ Cur w' g ∧ Apart [g] w w'

def runeList : List Int := [0, 9, 10, 31, 32, 34, 92, 126, 127, 128, 2047, 2048, 55295, 55296, 57343, 57344, 65533, 65535, 65536, 1114111, 1114112, -1]
set_option maxRecDepth 100000 in
theorem l07Rune_any (g : Nat) (w : World) (hC : Cur w g) : Calls Tryz.prog 112 #[.pointer (some ⟨g, 0, none⟩)] w (IntP g w) := by
  go_enter Tryz.func112, Tryz.ntmps112
  go_wp2_with fail
  refine (l01Below_any g 5 _ (by omega) (by omega) hC).mono ?_
  rintro e w1 ⟨x, hx0, hx1, rfl, hc1, ha1⟩
  have HX := Lib.hid (And.intro hc1 ha1); clear hc1 ha1
  have hgl := HX.out.1.lt
  by_cases h0 : x = 0
  · subst h0
    go_wp2_with fail
    refine (l01PickInt_any g _ 22 22 (fun i => runeList.getD i 0) _ (fun _ => True) (by omega) (by omega) (HX.out.1.alloc _) (lit_ints w1 runeList _ rfl) (fun b o h => by cases h; omega) (fun _ _ => trivial)).mono ?_
    rintro e w2 ⟨y, -, rfl, hc2, ha2⟩
    go_wp2
    go_ret
    exact ⟨y, rfl, hc2, (HX.out.2.alloc _).trans ha2⟩
  by_cases h1 : x = 1
  · subst h1
    go_wp2_with fail
    refine (l01Below_any g 1114112 _ (by omega) (by omega) HX.out.1).mono ?_
    rintro e w2 ⟨y, -, -, rfl, hc2, ha2⟩
    go_wp2
    go_ret
    exact ⟨y, rfl, hc2, HX.out.2.trans ha2⟩
  · have d0 : (x == 0) = false := by simp; omega
    have d1 : (x == 1) = false := by simp; omega
    clear h0 h1
    go_wp2_with fail
    refine (l01Below_any g 95 _ (by omega) (by omega) HX.out.1).mono ?_
    rintro e w2 ⟨y, hy0, hy1, rfl, hc2, ha2⟩
    go_wp2
    go_ret
    exact ⟨_, rfl, hc2, HX.out.2.trans ha2⟩

/-- A list of numbers that grows in the call's own memory while a cursor lies in block g. -/
structure IT (W0 : World) (g : Nat) (w : World) (v : Value) (l : List Int) : Prop where
  own : w.ownsRow W0.heap.size 3 1 v l.length (l.map (Value.int .i64))
  cur : Cur w g
  ap : Apart [g] W0 w
  lt : g < W0.heap.size
theorem ownsRow_apart {w w' : World} {L : List Nat} {base e size : Nat} {v : Value} {n : Nat} {xs : List Value} (h : w.ownsRow base e size v n xs) (ha : Apart L w w') (hL : ∀ x, x ∈ L → x < base) : w'.ownsRow base e size v n xs := by
  obtain ⟨h1, h2⟩ := h
  refine ⟨h1, ?_⟩
  rcases h2 with h2 | ⟨b, cap, cur, hv, hb, hh, r⟩
  · exact .inl h2
  · have : b < w.heap.size := (Array.getElem?_eq_some_iff.1 hh).1
    exact .inr ⟨b, cap, cur, hv, hb, by rw [ha.block b this (fun hx => by have := hL b hx; omega)]; exact hh, r⟩
theorem IT.go {W0 : World} {g : Nat} {w w' : World} {v : Value} {l : List Int} (h : IT W0 g w v l) (hc : Cur w' g) (ha : Apart [g] w w') : IT W0 g w' v l :=
  ⟨ownsRow_apart h.own ha (fun x hx => by simp at hx; subst hx; exact h.lt), hc, h.ap.trans ha, h.lt⟩
theorem IT.alloc {W0 : World} {g : Nat} {w : World} {v : Value} {l : List Int} (h : IT W0 g w v l) (o : Obj) : IT W0 g (w.alloc o) v l := h.go (h.cur.alloc o) ((Apart.refl _ _).alloc o)
theorem IT.grown {W0 : World} {g : Nat} {w w' : World} {v v' : Value} {l l' : List Int} (h : IT W0 g w v l) (ho : w'.ownsRow W0.heap.size 3 1 v' l'.length (l'.map (Value.int .i64))) (hg : w.grownBy w' v.ownBlock) : IT W0 g w' v' l' := by
  have hne : ∀ k, k < W0.heap.size → some k ≠ v.ownBlock := fun k hk e => by
    have := own_base h.own k e.symm; omega
  have hs0 := h.ap.size
  exact ⟨ho, h.cur.same fun k hk hl => hg.block k hl (hne k (by have := h.lt; omega)), ⟨hg.os.trans h.ap.os, hg.tape.trans h.ap.tape, hg.output.trans h.ap.output, Nat.le_trans hs0 hg.size,
    fun k hk hn => (hg.block k (by omega) (hne k hk)).trans (h.ap.block k hk hn)⟩, h.lt⟩
theorem IT.slice {W0 : World} {g : Nat} {w : World} {v : Value} {l : List Int} (h : IT W0 g w v l) : ∃ a cap, v = .slice a l.length cap ∧ SlAt w a l.length 1 (intF l) := by
  obtain ⟨fp, h1, -⟩ := FlatOwn.of_owns (f := intF l) (c := 1) h.own (fun i hi j hj => by
    obtain rfl : j = 0 := by omega
    simp [intF, List.getD_eq_getElem?_getD, hi])
  obtain ⟨a, cap, rfl⟩ := h1.shape
  exact ⟨a, cap, rfl, h1.sl⟩
theorem IT.start (w : World) (g : Nat) (h : Cur w g) (o : Array Value) (ho : o = #[]) : IT w g (w.alloc (.cells o 3)) (.slice (some ⟨w.heap.size, 0, none⟩) 0 0) [] := by
  subst ho
  exact ⟨World.ownsRow_lit (base := w.heap.size) (e := 3) (size := 1) w #[] 0 (Nat.le_refl _) (by unfold maxLen; omega) rfl, h.alloc _, (Apart.refl _ _).alloc _, h.lt⟩

/-- 'append(list, x)'. -/
theorem wpList_it {ops : Array Oper} {rest : List Oper} {o : Oper} {a : Act} {Q : Exit → Act → World → Prop} (hgd : o.guard = none) (s x : Operand)
    (ho : o.op = .call { callee := .builtin .append, args := #[s, x], argTypes := #[74, 74] })
    (v : Value) (l : List Int) (y : Int) (W0 : World) (g : Nat) (w : World) (hs : a.eval s = v) (hb : IT W0 g w v l)
    (hx : a.eval x = .slice (some ⟨w.heap.size, 0, none⟩) 1 1) (hlen : l.length ≤ 1000000)
    (h : ∀ v' w', IT W0 g w' v' (l ++ [y]) → wpList Tryz.prog ops Q rest (a.put o.dst v') w') : wpList Tryz.prog ops Q (o :: rest) a (w.alloc (.cells #[.int .i64 y] 3)) := by
  obtain ⟨i0, hi, hz0, hz1, hz2⟩ := info_parts Tryz.infoInt
  have hb' := hb.alloc (.cells #[.int .i64 y] 3)
  have hnews : ∀ j u, [Value.int .i64 y][j]? = some u → (w.alloc (.cells #[.int .i64 y] 3)).cell? ((⟨w.heap.size, 0, none⟩ : Addr).add j) = some u := cell_one_new _ _ _
  refine wpList_append_own _ hgd s x 74 ho W0.heap.size 3 i0 (.int .i64 0) 1 8 Tryz.underlying74 hi hz0 hz1 hz2 rfl (by decide) v l.length _ hs hb'.own ⟨w.heap.size, 0, none⟩ 1 1 [.int .i64 y] hx rfl hnews (by intro u hu; simp at hu; subst hu; rfl) (by unfold maxLen; omega) (by omega) hb'.ap.size ?_
  intro v' w' ho' hg _
  exact h v' w' (hb'.grown (l' := l ++ [y]) (by simpa using ho') hg)

set_option maxHeartbeats 1000000 in
theorem l07Text_any (g : Nat) (m : Nat) (w : World) (hm : m ≤ 100) (hC : Cur w g) : Calls Tryz.prog 92 #[.pointer (some ⟨g, 0, none⟩), .int .i64 m] w (StrP g (fun s => s.size ≤ 4 * m ∧ ∃ l, s = ⟨(rtexts l).toArray⟩) w) := by
  have HI := Lib.hid (IT.start w g hC #[] rfl); clear hC
  go_enter Tryz.func92, Tryz.ntmps92
  go_wp2_with fail
  go_loopw [5, 6] (fun v i wr => ∃ (j : Nat) (l : List Int), j ≤ m ∧ l.length = j ∧ i = .int .i64 j ∧ IT w g wr v l) (fun _ i _ => m - (intOf i).toNat)
  case atStart => exact ⟨0, [], by omega, rfl, rfl, HI.out⟩
  case round =>
    obtain ⟨j, l, hj, hl, rfl, hit⟩ := hrel
    have HJ := Lib.hid hit; have HL := Lib.hid hl; clear hit hl
    go_wp2_with fail
    refine (l01Below_any g ((m : Int) + 1) _ (by omega) (by omega) HJ.out.cur).mono ?_
    rintro e w1 ⟨x, hx0, hx1, rfl, hc1, ha1⟩
    have H1 := Lib.hid (HJ.out.go hc1 ha1); clear hc1 ha1
    cases hlt : decide ((j : Int) < x)
    · obtain ⟨a, cap, rfl, hsl⟩ := H1.out.slice
      have HSL := Lib.hid hsl; clear hsl
      have hll := HL.out
      subst hll
      go_wp2_with fail
      refine (sRunesText l a cap _ (by omega) HSL.out).mono ?_
      rintro e w2 ⟨rfl, hb2⟩
      go_wp2
      go_ret
      exact ⟨_, ⟨by have := rtexts_len l; show (rtexts l).length ≤ _; omega, l, rfl⟩, rfl, H1.out.cur.keep hb2, H1.out.ap.trans (Apart.of_below hb2 _)⟩
    · have hj1 : (j : Int) < x := by simpa using hlt
      go_wp2_with fail
      refine (l07Rune_any g _ H1.out.cur).mono ?_
      rintro e w2 ⟨y, rfl, hc2, ha2⟩
      have H2 := Lib.hid (H1.out.go hc2 ha2); clear hc2 ha2
      go_wp2_with (at_builtin; refine wpList_it (by rfl) _ _ (by rfl) _ l y w g _ (by rfl) H2.out (by rfl) (by have := HL.out; omega) ?_; intro v3 w3 hit3)
      go_roundw
      case rel => exact ⟨j + 1, l ++ [y], by omega, by have := HL.out; simp; omega, by go_num, hit3⟩
      case measure => simp [intOf]; omega

end Go.Proofs.YtomhbbchflblpaaGreatDoor
namespace Go.Proofs.YtomhbbchflblpaaGreatDoor
open Go.RowKit

def WordOk (t : ByteArray) : Prop := t.size ≤ 20 ∧ (runesO t).isSome = true
theorem word_at {l : List ByteArray} (h : l.all (fun t => decide (t.size ≤ 20) && (runesO t).isSome) = true) (i : Nat) (hi : i < l.length) : WordOk (l.getD i ⟨#[]⟩) := by
  have hm : l.getD i ⟨#[]⟩ ∈ l := by
    rw [List.getD_eq_getElem?_getD, List.getElem?_eq_getElem hi]; exact List.getElem_mem _
  have := List.all_eq_true.1 h _ hm
  rw [Bool.and_eq_true, decide_eq_true_eq] at this
  exact this
def wordsA : List ByteArray := [⟨#[]⟩, ⟨#[110, 117, 108, 108]⟩, ⟨#[116, 114, 117, 101]⟩, ⟨#[126]⟩, ⟨#[45]⟩, ⟨#[45, 32, 97]⟩, ⟨#[97, 58, 32, 98]⟩, ⟨#[97, 32, 35, 98]⟩, ⟨#[49, 50]⟩, ⟨#[45, 48]⟩, ⟨#[48, 48, 55]⟩, ⟨#[120, 10, 121]⟩, ⟨#[32, 97]⟩, ⟨#[97, 32]⟩, ⟨#[34, 113, 34]⟩, ⟨#[91]⟩, ⟨#[123, 125]⟩, ⟨#[107, 58]⟩, ⟨#[35]⟩, ⟨#[53, 48, 48, 109]⟩, ⟨#[50, 71, 105]⟩]
def wordsB : List ByteArray := [⟨#[97]⟩, ⟨#[98]⟩, ⟨#[110, 97, 109, 101]⟩, ⟨#[107, 105, 110, 100]⟩, ⟨#[120, 45, 121]⟩, ⟨#[108, 97, 98, 101, 108, 115]⟩]
theorem wordsA_good : wordsA.all (fun t => decide (t.size ≤ 20) && (runesO t).isSome) = true := by decide +kernel
theorem wordsB_good : wordsB.all (fun t => decide (t.size ≤ 20) && (runesO t).isSome) = true := by decide +kernel

set_option maxRecDepth 100000 in
set_option maxHeartbeats 1000000 in
theorem l08Word_ok (g : Nat) (w : World) (hC : Cur w g) : Calls Tryz.prog 56 #[.pointer (some ⟨g, 0, none⟩)] w (StrP g WordOk w) := by
  go_enter Tryz.func56, Tryz.ntmps56
  go_wp2_with fail
  refine (l01Below_any g 4 _ (by omega) (by omega) hC).mono ?_
  rintro e w1 ⟨x, hx0, hx1, rfl, hc1, ha1⟩
  have HX := Lib.hid (And.intro hc1 ha1); clear hc1 ha1
  have hgl := HX.out.1.lt
  by_cases h0 : x = 0
  · subst h0
    go_wp2_with fail
    refine (l07Text_any g 5 _ (by omega) HX.out.1).mono ?_
    rintro e w2 ⟨t, ht, rfl, hc2, ha2⟩
    have HT := Lib.hid ht; clear ht
    go_wp2
    go_ret
    exact ⟨t, ⟨HT.out.1, by obtain ⟨l, hl⟩ := HT.out.2; rw [hl]; exact rtexts_some l⟩, rfl, hc2, HX.out.2.trans ha2⟩
  by_cases h1 : x = 1
  · subst h1
    go_wp2_with fail
    refine (l01Pick_any g _ 21 21 (fun i => wordsA.getD i ⟨#[]⟩) WordOk _ (by omega) (by omega) (HX.out.1.alloc _) (lit_strs w1 wordsA _ rfl) (fun b o h => by cases h; omega) (fun i hi => word_at wordsA_good i hi)).mono ?_
    rintro e w3 ⟨t, ht, rfl, hc3, ha3⟩
    have HT := Lib.hid ht; clear ht
    go_wp2
    go_ret
    exact ⟨t, HT.out, rfl, hc3, (HX.out.2.alloc _).trans ha3⟩
  · have d0 : (x == 0) = false := by rw [beq_eq_false_iff_ne]; omega
    have d1 : (x == 1) = false := by rw [beq_eq_false_iff_ne]; omega
    clear h0 h1
    go_wp2_with fail
    refine (l01Pick_any g _ 6 6 (fun i => wordsB.getD i ⟨#[]⟩) WordOk _ (by omega) (by omega) (HX.out.1.alloc _) (lit_strs w1 wordsB _ rfl) (fun b o h => by cases h; omega) (fun i hi => word_at wordsB_good i hi)).mono ?_
    rintro e w3 ⟨t, ht, rfl, hc3, ha3⟩
    have HT := Lib.hid ht; clear ht
    go_wp2
    go_ret
    exact ⟨t, HT.out, rfl, hc3, (HX.out.2.alloc _).trans ha3⟩

end Go.Proofs.YtomhbbchflblpaaGreatDoor
namespace Go.Proofs.YtomhbbchflblpaaGreatDoor
open Go.RowKit

def IntR (g : Nat) (w : World) (e : Ending) (w' : World) : Prop := ∃ x : Int, (-9223372036854775808 ≤ x ∧ x ≤ 9223372036854775807) ∧ e = .returned (.int .i64 x) ∧ Cur w' g ∧ Apart [g] w w'
def numList : List Int := [0, 1, -1, 9223372036854775807, 9223372036854775806, 4611686018427387904, 4611686018427387903, -9223372036854775808, 3037000499, 3037000500]
theorem num_bd : ∀ i : Fin 10, -9223372036854775808 ≤ numList.getD i.val 0 ∧ numList.getD i.val 0 ≤ 9223372036854775807 := by decide +kernel
set_option maxRecDepth 100000 in
theorem l02Num_any (g : Nat) (w : World) (hC : Cur w g) : Calls Tryz.prog 54 #[.pointer (some ⟨g, 0, none⟩)] w (IntR g w) := by
  go_enter Tryz.func54, Tryz.ntmps54
  go_wp2_with fail
  refine (l01Below_any g 5 _ (by omega) (by omega) hC).mono ?_
  rintro e w1 ⟨x, hx0, hx1, rfl, hc1, ha1⟩
  have HX := Lib.hid (And.intro hc1 ha1); clear hc1 ha1
  have hgl := HX.out.1.lt
  by_cases h0 : x = 0
  · subst h0
    go_wp2_with fail
    refine (l01PickInt_any g _ 10 10 (fun i => numList.getD i 0) _ (fun x => -9223372036854775808 ≤ x ∧ x ≤ 9223372036854775807) (by omega) (by omega) (HX.out.1.alloc _) (lit_ints w1 numList _ rfl) (fun b o h => by cases h; omega) (fun i hi => num_bd ⟨i, hi⟩)).mono ?_
    rintro e w2 ⟨y, hy, rfl, hc2, ha2⟩
    have HY := Lib.hid hy; clear hy
    go_wp2
    go_ret
    exact ⟨y, HY.out, rfl, hc2, (HX.out.2.alloc _).trans ha2⟩
  by_cases h1 : x = 1
  · subst h1
    go_wp2_with fail
    refine (l01Below_any g 1000000000 _ (by omega) (by omega) HX.out.1).mono ?_
    rintro e w2 ⟨y, hy0, hy1, rfl, hc2, ha2⟩
    have H2 := Lib.hid (And.intro hc2 (HX.out.2.trans ha2)); clear hc2 ha2
    go_wp2_with fail
    refine (l01Below_any g 1000000000 _ (by omega) (by omega) H2.out.1).mono ?_
    rintro e w3 ⟨z, hz0, hz1, rfl, hc3, ha3⟩
    have H3 := Lib.hid (And.intro hc3 (H2.out.2.trans ha3)); clear hc3 ha3
    have hm0 : 0 ≤ y * (1 + z) := Int.mul_nonneg hy0 (by omega)
    have hm1 : y * (1 + z) ≤ 1000000000 * 1000000000 := Int.mul_le_mul (by omega) (by omega) (by omega) (by omega)
    have hm2 : y * (1 + z) ≤ 1000000000000000000 := by omega
    go_wp2
    go_ret
    exact ⟨_, by first | (constructor <;> omega) | exact ⟨by omega, by omega⟩, rfl, H3.out.1, H3.out.2⟩
  · have d0 : (x == 0) = false := by rw [beq_eq_false_iff_ne]; omega
    have d1 : (x == 1) = false := by rw [beq_eq_false_iff_ne]; omega
    clear h0 h1
    go_wp2_with fail
    refine (l01Below_any g 5000 _ (by omega) (by omega) HX.out.1).mono ?_
    rintro e w2 ⟨y, hy0, hy1, rfl, hc2, ha2⟩
    go_wp2
    go_ret
    exact ⟨y, ⟨by omega, by omega⟩, rfl, hc2, HX.out.2.trans ha2⟩

end Go.Proofs.YtomhbbchflblpaaGreatDoor
namespace Go.Proofs.YtomhbbchflblpaaGreatDoor
open Go.RowKit Go.ChangeShapes Go.WideShapes

theorem Tryz.cellsU8 : Tryz.prog.cellsOf 5 = 1 := by kernel_rfl
set_option maxRecDepth 100000 in
theorem openCode {H : Type} {enc : TypeId × Value → H} {W : World} {base : Nat} {v : Value} {d : DataW H} {p : List MemPlace} (hval : Value.okWide Tryz.prog W .any base 22 v)
    (h : DataW.Trod enc Tryz.prog W 0 (fun _ => true) true 22 v d p) :
    ∃ (a : Option Addr) (n cap : Nat), v = .slice a n cap ∧ n ≤ maxLen ∧ CodeAt W W.heap.size a n := by
  obtain ⟨a, len, cap, rfl⟩ := okWide_slice Tryz.underlying22 hval
  obtain ⟨fuel, hf⟩ := h
  rcases open_ints Tryz.underlying22 Tryz.underlying5 Tryz.cellsU8 hf with ⟨hcs, _⟩ | ⟨x, l, c, zs, hcs, _, hl, hm, hz, _, hx, hw⟩
  · simp [Value.cells] at hcs
    obtain ⟨rfl, rfl, rfl⟩ := hcs
    exact ⟨none, 0, 0, rfl, Nat.zero_le _, fun _ => 0, fun _ => ⟨Int.le_refl _, (by decide : (0 : Int) ≤ 255)⟩, .inl rfl⟩
  · simp [Value.cells] at hcs
    obtain ⟨rfl, rfl, rfl⟩ := hcs
    have hzl : len ≤ zs.length := by rw [hz]; split <;> omega
    refine ⟨some x, len, cap, rfl, Nat.le_trans hl hm, fun i => zs[i]?.getD 0, fun i => range_u8 hw i, ?_⟩
    rcases Nat.eq_zero_or_pos len with h0 | h0
    · exact .inl h0
    · obtain ⟨b, o, spot⟩ := x
      have hs : spot = none := by simpa [Addr.add] using World.cell?_spot (hx 0 (by omega))
      subst hs
      refine .inr ⟨b, o, rfl, ?_, fun i hi => ?_⟩
      · have := hx 0 (by omega)
        rw [addr_add] at this
        exact lt_of_cell this
      · have := hx i (by omega)
        rw [addr_add, List.getD_eq_getElem?_getD] at this
        exact this
theorem CodeAt.keep {w w' : World} {a : Option Addr} {n : Nat} (h : CodeAt w w.heap.size a n) (hb : Below w.heap.size w w') : CodeAt w' w'.heap.size a n :=
  (h.same fun k hk _ => hb.block k hk).mono hb.size

theorem big_any (a : Option Addr) (n cap : Nat) (w : World) : Calls Tryz.prog 5 #[.slice a n cap] w fun e w' => e = .returned (.bool (decide (1048576 < (n : Int)))) ∧ w = w' := by
  go_enter Tryz.func5, Tryz.ntmps5
  go_wp2
  go_ret
  exact ⟨rfl, rfl⟩

def IntQ (w : World) (e : Ending) (w' : World) : Prop := ∃ x : Int, e = .returned (.int .i64 x) ∧ Below w.heap.size w w'
def ListQ (m : Nat) (w : World) (e : Ending) (w' : World) : Prop := ∃ (l : List Int) (a : Option Addr) (cap : Nat), e = .returned (.slice a l.length cap) ∧ l.length ≤ m ∧ SlAt w' a l.length 1 (intF l) ∧ Below w.heap.size w w'
def StrQ (Q : ByteArray → Prop) (w : World) (e : Ending) (w' : World) : Prop := ∃ s : ByteArray, Q s ∧ e = .returned (.string s) ∧ Below w.heap.size w w'

end Go.Proofs.YtomhbbchflblpaaGreatDoor
namespace Go.Proofs.YtomhbbchflblpaaGreatDoor
open Go.RowKit

theorem conv_backL (w : World) (g n cap : Nat) (l : List UInt8) (hl : l.length = n) (hc : ∀ j, j < n → w.cell? ⟨g, j, none⟩ = some (.int .u8 (l.getD j 0).toNat)) :
    (convert 22 9 (.slice (some ⟨g, 0, none⟩) n cap)).run Tryz.prog w = .ok (.string ⟨l.toArray⟩) w := by
  subst hl
  refine run_convert_bytes_back w _ _ _ _ cap l Tryz.underlying22 Tryz.underlying5 Tryz.underlying9 fun j hj => ?_
  rw [addr_add, Nat.zero_add, hc j hj, List.getD_eq_getElem?_getD, List.getElem?_eq_getElem hj]
  rfl
theorem l01LongL (n : Nat) (x : UInt8) (w : World) (hn : n ≤ 1000000) : Calls Tryz.prog 70 #[.int .i64 n, .int .u8 x.toNat] w fun e w' => e = .returned (.string ⟨(List.replicate n x).toArray⟩) ∧ Below w.heap.size w w' := by
  obtain ⟨i0, hi, hz0, hz1, hz2⟩ := info_parts Tryz.infoU8
  have hb2 : i0.bytes * n ≤ 281474976710656 := by rw [hz2]; omega
  have hb3 : n ≤ maxLen := by unfold maxLen; omega
  go_enter Tryz.func70, Tryz.ntmps70
  go_wp2_with (at_make; refine wpList_make_full _ rfl (.tmp 7) (.tmp 7) 22 rfl w.heap.size 5 i0 _ 1 Tryz.underlying22 hi hz0 hz1 .i64 .i64 _ _ n rfl rfl rfl rfl hb2 hb3 (Nat.le_refl _) ?_; intro w1 hown hgrow)
  obtain ⟨F0, hrow0, -, -, -, -⟩ := rowIs_of_owns hown
  have hbel1 : Below w.heap.size w w1 := (Below.refl _ _).grown hgrow (Nat.le_refl _) (fun k hk => by cases hk)
  obtain ⟨g, hg⟩ : ∃ g, g = w.heap.size := ⟨_, rfl⟩
  rw [← hg] at hrow0 ⊢
  have hgle : w.heap.size ≤ g := by omega
  have HG := Lib.hid hg; clear hg hown hgrow
  go_loopw [6] (fun i wr => ∃ k : Nat, k ≤ n ∧ i = .int .i64 k ∧ Below w.heap.size w wr ∧ ∃ F, wr.rowIs g 5 (n * 1) F ∧ ∀ i, i < k → F i = .int .u8 x.toNat) (fun i _ => n - (intOf i).toNat)
  case atStart => exact ⟨0, by omega, rfl, hbel1, F0, hrow0, fun i hi => by omega⟩
  case round =>
    obtain ⟨k, hk, rfl, hb, F, hrow, hF⟩ := hrel
    have HF := Lib.hid hF; clear hF hrow0
    by_cases hlt : k < n
    · have d0 := hrow.cell (i := k) (by omega)
      have f0 := hrow.frozen k
      go_wp2
      go_roundw
      case rel => exact ⟨k + 1, by omega, by go_num, hb.setCell (by omega) _, _, hrow.set k _, fun i hi => by
        show (if i = k then _ else _) = _
        by_cases hik : i = k
        · rw [if_pos hik]
        · rw [if_neg hik]; exact HF.out i (by omega)⟩
      case measure => simp [intOf] <;> omega
    · obtain rfl : k = n := by omega
      have hcv := conv_backL wr g k k (List.replicate k x) (by simp) (fun j hj => by
        have hc := hrow.cell (i := j) (by omega)
        rw [HF.out j hj] at hc
        rw [hc, List.getD_eq_getElem?_getD, List.getElem?_replicate, if_pos hj]; rfl)
      go_wp2
      go_ret
      exact ⟨rfl, hb⟩
theorem long_sz (n : Nat) (x : UInt8) (w : World) (hn : n ≤ 1000000) : Calls Tryz.prog 70 #[.int .i64 n, .int .u8 x.toNat] w fun e w' => ∃ s : ByteArray, s.size = n ∧ e = .returned (.string s) ∧ Below w.heap.size w w' :=
  (l01LongL n x w hn).mono fun _ _ ⟨h1, h2⟩ => ⟨_, by show Array.size _ = n; simp, h1, h2⟩

end Go.Proofs.YtomhbbchflblpaaGreatDoor
