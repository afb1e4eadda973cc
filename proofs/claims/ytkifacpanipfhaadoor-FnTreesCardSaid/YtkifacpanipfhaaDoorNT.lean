/- PutK, PutQ, TrsF, merged. -/
import Derived.Test.YtkifacpanipfhaaDoorNE
import Derived.Test.YtkifacpanipfhaaDoorNS
import Derived.Test.YtkifacpanipfhaaDoorNH
import Derived.Test.YtkifacpanipfhaaDoorNI
import Derived.Test.YtkifacpanipfhaaDoorTreeQ
import Derived.Test.YtkifacpanipfhaaDoorSoft
import Derived.Deep.RegionHeld3
namespace Go.Proofs.YtkifacpanipfhaaDoor
open Go.RowKit

mutual
theorem shape_wt (a c : Nat) (hac : a = 802 ∧ c = 402) : ∀ t : Tr, shapeB t = true → t.wt + c ≤ a * t.nodes
  | .mk k f n s keys kids, h => by
    obtain ⟨h1, h2, h3⟩ := shape_parts h
    obtain ⟨-, -, a3, -, -, -⟩ := head_kind h1
    have hk := keys_le h1
    simp only [Tr.text, Tr.keys, Tr.kids] at a3 h2 h3 hk
    have hs : s.size ≤ 400 := by simp only [textOkB, Bool.and_eq_true, decide_eq_true_eq] at a3; exact a3.1
    have hL := shapeL_wt a c hac kids h3
    have hkw := strWt_le (B := 400) (fun i => key_size h2 i) (Nat.le_refl keys.length)
    have hck : c * kids.length = 402 * kids.length := by rw [hac.2]
    obtain ⟨ea, ec⟩ := hac
    simp only [Tr.wt, Tr.nodes]
    rw [Nat.mul_add]
    omega
theorem shapeL_wt (a c : Nat) (hac : a = 802 ∧ c = 402) : ∀ l : List Tr, shapeL l = true → wtL l + c * l.length ≤ a * nodesL l
  | [], _ => by simp [wtL]
  | t :: ts, h => by
    rw [shapeL, Bool.and_eq_true] at h
    have e1 := shape_wt a c hac t h.1
    have e2 := shapeL_wt a c hac ts h.2
    simp only [wtL, nodesL, List.length_cons]
    rw [Nat.mul_add a, Nat.mul_succ c]
    omega
end
theorem putR_wt {t kid : Tr} {key : ByteArray} (hw : t.wt ≤ 1048576) : (putR t key kid).wt ≤ 1048576 := by
  cases h : putOk t key kid
  · rw [put_no h]; exact hw
  · rw [put_yes h]
    simp only [putOk, Bool.and_eq_true, treeOkB, decide_eq_true_eq] at h
    have a := shape_wt 802 402 ⟨rfl, rfl⟩ _ h.2.2.2.2
    have b := h.2.2.2.1
    omega
end Go.Proofs.YtkifacpanipfhaaDoor
namespace Go.Proofs.YtkifacpanipfhaaDoor
open Go.RowKit

theorem find_from {l : List ByteArray} (hs : SortedK l) {j : Nat} (hj : j < l.length) : ∀ d k : Nat, k + d = j → findIx (strAt l j) (l.drop k) k = (j : Int)
  | 0, k, h => by
    obtain rfl : k = j := by omega
    rw [findIx_at _ l k k hj, if_pos (by simp)]
  | d + 1, k, h => by
    have hne : ¬ ((strAt l k).toList == (strAt l j).toList) = true := by
      intro e
      have h1 := hs k j (by omega) hj
      rw [ba_inj (eq_of_beq e), lsT, lsT_irr] at h1
      cases h1
    rw [findIx_at _ l k k (by omega), if_neg hne, find_from hs hj d (k + 1) (by omega)]
theorem keyIx_at {t : Tr} (h6 : t.kind = 6) (hs : SortedK t.keys) {j : Nat} (hj : j < t.keys.length) : keyIx (strAt t.keys j) t = (j : Int) := by
  have h := find_from hs hj j 0 (by omega)
  rw [keyIx, h6, if_pos (by rfl)]
  simpa using h

theorem app_low {α : Type} (l : List α) (x : α) (p n i : Nat) (hp : p ≤ l.length) (h : i < p) : (l.take p ++ x :: l.drop (p + n))[i]? = l[i]? := by
  rw [List.getElem?_append_left (by simp; omega), List.getElem?_take_of_lt h]
theorem app_mid {α : Type} (l : List α) (x : α) (p n : Nat) (hp : p ≤ l.length) : (l.take p ++ x :: l.drop (p + n))[p]? = some x := by
  rw [List.getElem?_append_right (by simp; omega), List.length_take, Nat.min_eq_left hp, Nat.sub_self]; rfl
theorem app_high {α : Type} (l : List α) (x : α) (p n r : Nat) (hp : p ≤ l.length) : (l.take p ++ x :: l.drop (p + n))[p + 1 + r]? = l[p + n + r]? := by
  rw [List.getElem?_append_right (by simp; omega), List.length_take, Nat.min_eq_left hp, show p + 1 + r - p = r + 1 by omega, List.getElem?_cons_succ, List.getElem?_drop]

structure PutQ (t : Tr) (key : ByteArray) (kid o : Tr) : Prop where
  kind : o.kind = 6
  ok : treeOkB o = true
  len : o.keys.length = o.kids.length
  lens : t.keys.length = t.kids.length
  pos : ∃ j : Nat, j < o.keys.length ∧ strAt o.keys j = key ∧ keyIx key o = (j : Int) ∧ kidAt o.kids j = kid
  old : ∀ i, i < t.keys.length → ∃ j : Nat, j < o.keys.length ∧ keyIx (strAt t.keys i) o = (j : Int) ∧ (strAt t.keys i ≠ key → kidAt o.kids j = kidAt t.kids i)

theorem ok_map {t : Tr} (h6 : t.kind = 6) (h : treeOkB t = true) : t.keys.length = t.kids.length ∧ SortedK t.keys := by
  simp only [treeOkB, Bool.and_eq_true, decide_eq_true_eq] at h
  obtain ⟨h1, h2, -⟩ := shape_parts h.2.2
  exact ⟨(head_kind h1).2.2.2.1 h6, sorted_keys h2⟩
theorem put_q {t : Tr} {key : ByteArray} {kid : Tr} (h : putOk t key kid = true) : PutQ t key kid (putO t key kid) := by
  have h0 := h
  simp only [putOk, Bool.and_eq_true, beq_iff_eq] at h0
  obtain ⟨h6, ht, ho⟩ := h0
  obtain ⟨hl, -⟩ := ok_map h6 ht
  obtain ⟨hlo, hso⟩ := ok_map (t := putO t key kid) rfl ho
  have hp := pos_le key t.keys
  have hn := hitN_le key t.keys
  have ek : (putO t key kid).keys = t.keys.take (posK key t.keys) ++ key :: t.keys.drop (posK key t.keys + hitN key t.keys) := rfl
  have et : (putO t key kid).kids = t.kids.take (posK key t.keys) ++ kid :: t.kids.drop (posK key t.keys + hitN key t.keys) := rfl
  have hlen : (putO t key kid).keys.length = posK key t.keys + 1 + (t.keys.length - (posK key t.keys + hitN key t.keys)) := by
    rw [ek]; simp; omega
  have hpos : ∃ j : Nat, j < (putO t key kid).keys.length ∧ strAt (putO t key kid).keys j = key ∧ keyIx key (putO t key kid) = (j : Int) ∧ kidAt (putO t key kid).kids j = kid := by
    have e1 : strAt (putO t key kid).keys (posK key t.keys) = key := by
      rw [ek, strAt, List.getD_eq_getElem?_getD, app_mid _ _ _ _ hp]; rfl
    have h2 := keyIx_at (t := putO t key kid) rfl hso (j := posK key t.keys) (by omega)
    rw [e1] at h2
    refine ⟨posK key t.keys, by omega, e1, h2, ?_⟩
    rw [et, kidAt, List.getD_eq_getElem?_getD, app_mid _ _ _ _ (by omega)]; rfl
  refine ⟨rfl, ho, hlo, hl, hpos, fun i hi => ?_⟩
  by_cases h1 : i < posK key t.keys
  · have e1 : strAt (putO t key kid).keys i = strAt t.keys i := by
      rw [ek, strAt, strAt, List.getD_eq_getElem?_getD, List.getD_eq_getElem?_getD, app_low _ _ _ _ _ hp h1]
    have h2 := keyIx_at (t := putO t key kid) rfl hso (j := i) (by omega)
    rw [e1] at h2
    refine ⟨i, by omega, h2, fun _ => ?_⟩
    rw [et, kidAt, kidAt, List.getD_eq_getElem?_getD, List.getD_eq_getElem?_getD, app_low _ _ _ _ _ (by omega) h1]
  by_cases h2 : posK key t.keys + hitN key t.keys ≤ i
  · obtain ⟨r, rfl⟩ : ∃ r, i = posK key t.keys + hitN key t.keys + r := ⟨i - (posK key t.keys + hitN key t.keys), by omega⟩
    have e1 : strAt (putO t key kid).keys (posK key t.keys + 1 + r) = strAt t.keys (posK key t.keys + hitN key t.keys + r) := by
      rw [ek, strAt, strAt, List.getD_eq_getElem?_getD, List.getD_eq_getElem?_getD, app_high _ _ _ _ _ hp]
    have h3 := keyIx_at (t := putO t key kid) rfl hso (j := posK key t.keys + 1 + r) (by omega)
    rw [e1] at h3
    refine ⟨posK key t.keys + 1 + r, by omega, h3, fun _ => ?_⟩
    rw [et, kidAt, kidAt, List.getD_eq_getElem?_getD, List.getD_eq_getElem?_getD, app_high _ _ _ _ _ (by omega)]
  · have hh : hitK key t.keys = true := by
      cases hc : hitK key t.keys
      · have : hitN key t.keys = 0 := if_neg (by simp [hc])
        omega
      · rfl
    have hi2 : i = posK key t.keys := by omega
    subst hi2
    obtain ⟨j, hj, e1, e2, -⟩ := hpos
    have e3 := (hit_eq hh).2
    exact ⟨j, hj, by rw [e3]; exact e2, fun hne => absurd e3 hne⟩
theorem put_hit {t : Tr} {key : ByteArray} {kid o : Tr} (h : PutQ t key kid o) : kidHit key o = true ∧ kidTr key o = kid := by
  obtain ⟨j, hj, e1, e2, e3⟩ := h.pos
  have hh : kidHit key o = true := by
    rw [kidHit, e2, Bool.and_eq_true, decide_eq_true_eq, decide_eq_true_eq]; exact ⟨by omega, h.len⟩
  refine ⟨hh, ?_⟩
  rw [kidTr, if_pos hh, e2]; exact e3
theorem put_old {t : Tr} {key : ByteArray} {kid o : Tr} (h : PutQ t key kid o) {i : Nat} (hi : i < t.keys.length) : kidHit (strAt t.keys i) o = true ∧ (((strAt t.keys i).toList == key.toList) = false → kidTr (strAt t.keys i) o = kidAt t.kids i) := by
  obtain ⟨j, hj, e2, e3⟩ := h.old i hi
  have hh : kidHit (strAt t.keys i) o = true := by
    rw [kidHit, e2, Bool.and_eq_true, decide_eq_true_eq, decide_eq_true_eq]; exact ⟨by omega, h.len⟩
  refine ⟨hh, fun hne => ?_⟩
  rw [kidTr, if_pos hh, e2]
  exact e3 fun e => by rw [e, beq_self_eq_true] at hne; cases hne

end Go.Proofs.YtkifacpanipfhaaDoor
namespace Go.Proofs.YtkifacpanipfhaaDoor
open Go.RowKit

theorem sameStrs_refl : ∀ l : List ByteArray, sameStrs l l = true
  | [] => rfl
  | x :: xs => by simp [sameStrs, sameStrs_refl xs]
mutual
theorem sameTr_refl : ∀ t : Tr, sameTr t t = true
  | .mk k f n s ks kids => by simp [sameTr, sameStrs_refl ks, sameKids_refl kids]
theorem sameKids_refl : ∀ l : List Tr, sameKids l l = true
  | [] => rfl
  | t :: ts => by simp [sameKids, sameTr_refl t, sameKids_refl ts]
end

/-- What stands through the law: the three trees in their locals. -/
structure TS (W w : World) (bt bk bo : Nat) (t kid o : Tr) (vk vs uk us ok os : Value) : Prop where
  st : Spill w bt t vk vs
  sk : Spill w bk kid uk us
  so : Spill w bo o ok os
  bel : Below W.heap.size W w
  ti : TreeIn w Any t vk vs
  ki : TreeIn w Any kid uk us
  oi : TreeIn w Any o ok os
theorem TS.keep {W w w' : World} {bt bk bo : Nat} {t kid o : Tr} {vk vs uk us ok os : Value} (h : TS W w bt bk bo t kid o vk vs uk us ok os) (hb : Below w.heap.size w w') : TS W w' bt bk bo t kid o vk vs uk us ok os :=
  ⟨h.st.keep hb, h.sk.keep hb, h.so.keep hb, bnext h.bel hb, h.ti.keep hb, h.ki.keep hb, h.oi.keep hb⟩

theorem zkT {w w' : World} (hb : Below (w.alloc (.cells #[.int .i64 0, .bool false, .int .i64 0, .string ⟨#[]⟩, .slice none 0 0, .slice none 0 0] 27)).heap.size (w.alloc (.cells #[.int .i64 0, .bool false, .int .i64 0, .string ⟨#[]⟩, .slice none 0 0, .slice none 0 0] 27)) w') : Hid (ZeroAt w' w.heap.size) := Lib.hid ((ZeroAt.new w).keep hb)
theorem zkdT {w w' : World} (hb : Below (w.alloc (.cells #[.int .i64 0, .bool false, .int .i64 0, .string ⟨#[]⟩, .slice none 0 0, .slice none 0 0] 27)).drew.heap.size (w.alloc (.cells #[.int .i64 0, .bool false, .int .i64 0, .string ⟨#[]⟩, .slice none 0 0, .slice none 0 0] 27)).drew w') : Hid (ZeroAt w' w.heap.size) := Lib.hid ((ZeroAt.new w).keep ((Below.refl _ _).drew.trans hb))
theorem below_put6 {w0 w : World} {b : Nat} (h : Below w0.heap.size w0 w) (hb : w0.heap.size ≤ b) {v0 v1 v2 v3 v4 v5 : Value} : Below w0.heap.size w0 ((((((w.setCell ⟨b, 0, none⟩ v0).setCell ⟨b, 1, none⟩ v1).setCell ⟨b, 2, none⟩ v2).setCell ⟨b, 3, none⟩ v3).setCell ⟨b, 4, none⟩ v4).setCell ⟨b, 5, none⟩ v5) := put6w_below h b hb v0 v1 v2 v3 v4 v5
theorem kid_put {w7 wr w : World} {b : Nat} {x : Tr} {vk vs : Value} {fx : List Nat} (hz : ZeroAt w b) (ho : TreeOwn w x vk vs fx) (hge : ∀ y, y ∈ fx → y ≠ b) (hb : Below w7.heap.size w7 wr) (hd : Below wr.heap.size wr w) (hl : wr.heap.size ≤ b := by omega) :
    Below w7.heap.size w7 ((((((w.setCell ⟨b, 0, none⟩ (.int .i64 x.kind)).setCell ⟨b, 1, none⟩ (.bool x.flag)).setCell ⟨b, 2, none⟩ (.int .i64 x.num)).setCell ⟨b, 3, none⟩ (.string x.text)).setCell ⟨b, 4, none⟩ vk).setCell ⟨b, 5, none⟩ vs) ∧ Spill ((((((w.setCell ⟨b, 0, none⟩ (.int .i64 x.kind)).setCell ⟨b, 1, none⟩ (.bool x.flag)).setCell ⟨b, 2, none⟩ (.int .i64 x.num)).setCell ⟨b, 3, none⟩ (.string x.text)).setCell ⟨b, 4, none⟩ vk).setCell ⟨b, 5, none⟩ vs) b x vk vs ∧ TreeIn ((((((w.setCell ⟨b, 0, none⟩ (.int .i64 x.kind)).setCell ⟨b, 1, none⟩ (.bool x.flag)).setCell ⟨b, 2, none⟩ (.int .i64 x.num)).setCell ⟨b, 3, none⟩ (.string x.text)).setCell ⟨b, 4, none⟩ vk).setCell ⟨b, 5, none⟩ vs) Any x vk vs := by
  have hs : Spill w b noTree (.slice none 0 0) (.slice none 0 0) := ⟨_, _, hz, rfl, rfl, rfl, rfl, rfl, rfl⟩
  have h1 := hs.put6 (u := x) (uk := vk) (us := vs)
  have h2 := TreeOwn.same _ _ _ _ ho (w' := put6w w b (.int .i64 x.kind) (.bool x.flag) (.int .i64 x.num) (.string x.text) vk vs) fun y hy _ => put6w_heap _ _ _ _ _ _ _ _ _ (hge y hy)
  exact ⟨put6w_below (bnext hb hd) b (by have := hb.size; omega) _ _ _ _ _ _, h1, TreeOwn.toIn _ _ _ _ h2 (fun _ _ => trivial)⟩
theorem kid_new {w7 wr w : World} {x : Tr} {vk vs : Value} {fx : List Nat} (ho : TreeOwn w x vk vs fx) (hb : Below w7.heap.size w7 wr) (hd : Below wr.heap.size wr w) :
    Below w7.heap.size w7 (w.alloc (.cells #[.int .i64 x.kind, .bool x.flag, .int .i64 x.num, .string x.text, vk, vs] 27)) ∧ Spill (w.alloc (.cells #[.int .i64 x.kind, .bool x.flag, .int .i64 x.num, .string x.text, vk, vs] 27)) w.heap.size x vk vs ∧ TreeIn (w.alloc (.cells #[.int .i64 x.kind, .bool x.flag, .int .i64 x.num, .string x.text, vk, vs] 27)) Any x vk vs :=
  ⟨bnext (bnext hb hd) (alloc_below _ _ _), Spill.new _ _ _ _ _, (TreeOwn.toIn _ _ _ _ ho (fun _ _ => trivial)).keep (alloc_below _ _ _)⟩

set_option maxRecDepth 100000 in
set_option maxHeartbeats 8000000 in
theorem lawTrees {H : Type} {enc : TypeId × Value → H} {W : World} {base : Nat} {v : Value} {d : DataW H} {p : List MemPlace} (hval : Value.okWide Tryd.prog W .any base 22 v)
    (h : DataW.Trod enc Tryd.prog W 0 (fun _ => true) true 22 v d p) (ha : Lib.VarReads Tryd.prog W "unicode/utf8.acceptRanges" Rows.laid_unicode_utf8_acceptRanges) (hf : Lib.VarReads Tryd.prog W "unicode/utf8.first" Rows.laid_unicode_utf8_first) :
    Calls Tryd.prog 4 #[v] W fun e w' => e = .returned (.bool true) ∧ Below W.heap.size W w' := by
  obtain ⟨a, n, cap, rfl, hnm, hcode⟩ := openCode hval h
  have hT := tabs_of ha hf
  clear hval h ha hf hnm
  by_cases hn : n ≤ 1048576
  rotate_left
  · have hd : decide ((1048576 : Int) < (n : Int)) = true := decide_eq_true (by omega)
    clear hn hT hcode
    go_enter Tryd.func4, Tryd.ntmps4
    go_wp2_with (go_at_call 7; refine (big_any _ _ _ _).mono ?_; rintro e w' ⟨rfl, rfl⟩)
    go_ret
    exact ⟨rfl, Below.refl _ _⟩
  have hd : decide ((1048576 : Int) < (n : Int)) = false := decide_eq_false (by omega)
  have HN := Lib.hid hn; have HT := Lib.hid hT; have HC := Lib.hid hcode
  clear hn hT hcode
  go_enter Tryd.func4, Tryd.ntmps4
  go_wp2_with (go_at_call 7; refine (big_any _ _ _ _).mono ?_; rintro e w' ⟨rfl, rfl⟩)
  clear hd
  refine (drawPutKid a n cap _ HN.out HC.out).mono ?_
  rintro e w1 ⟨t, vk, vs, key, kid, uk, us, hta, hka, rfl, hti, hki, hb1⟩
  obtain ⟨hk9, hs9⟩ := treeIn_iff.1 hti
  obtain ⟨a1, m1, rfl⟩ := hk9.len
  obtain ⟨b1, c1, rfl⟩ := hs9.len
  clear hk9 hs9
  obtain ⟨hk9, hs9⟩ := treeIn_iff.1 hki
  obtain ⟨a2, m2, rfl⟩ := hk9.len
  obtain ⟨b2, c2, rfl⟩ := hs9.len
  clear hk9 hs9
  have HA := Lib.hid (And.intro hta hka)
  have hal := alloc_below w1 #[.int .i64 t.kind, .bool t.flag, .int .i64 t.num, .string t.text, .slice a1 t.keys.length m1, .slice b1 t.kids.length c1] 27
  have hal2 := alloc_below (w1.alloc (.cells #[.int .i64 t.kind, .bool t.flag, .int .i64 t.num, .string t.text, .slice a1 t.keys.length m1, .slice b1 t.kids.length c1] 27)) #[.int .i64 kid.kind, .bool kid.flag, .int .i64 kid.num, .string kid.text, .slice a2 kid.keys.length m2, .slice b2 kid.kids.length c2] 27
  have hst := Spill.new w1 t (.slice a1 t.keys.length m1) (.slice b1 t.kids.length c1) 27
  have hsk := Spill.new (w1.alloc (.cells #[.int .i64 t.kind, .bool t.flag, .int .i64 t.num, .string t.text, .slice a1 t.keys.length m1, .slice b1 t.kids.length c1] 27)) kid (.slice a2 kid.keys.length m2) (.slice b2 kid.kids.length c2) 27
  simp only [World.size_alloc] at hsk
  have H2 := Lib.hid (And.intro (hst.keep hal2) (And.intro hsk (And.intro (bnext hb1 (bnext hal hal2)) (And.intro (hti.keep (bnext hal hal2)) (hki.keep (bnext hal hal2))))))
  have HT2 := Lib.hid (tabs_keep HT.out H2.out.2.2.1)
  obtain ⟨o, ho⟩ : ∃ o, o = putR t key kid := ⟨_, rfl⟩
  obtain ⟨ok, hok⟩ : ∃ c, c = putOk t key kid := ⟨_, rfl⟩
  have HPI := Lib.hid (fun (w : World) (ht : TreeIn w Any t (.slice a1 t.keys.length m1) (.slice b1 t.kids.length c1)) (ht' : TreeIn w Any kid (.slice a2 kid.keys.length m2) (.slice b2 kid.kids.length c2)) (hT : Tabs w) => iPutKid t kid Any Any key _ _ _ _ w (by have := HA.out.1.1; omega) (by have := HA.out.2.1; omega) (by have := HA.out.1.2; have := HA.out.2.2; omega) ht ht' hT)
  rw [← ho, ← hok] at HPI
  have HOW := Lib.hid (show o.wt ≤ 1048576 ∧ o.nodes ≤ 2000000 from by
    rw [ho]
    refine ⟨putR_wt (by have := HA.out.1.1; omega), ?_⟩
    cases hc : putOk t key kid
    · rw [put_no hc]; have := HA.out.1.2; omega
    · rw [put_yes hc]; have := putO_nodes t key kid; have := HA.out.1.2; have := HA.out.2.2; omega)
  have HOF := Lib.hid (show ok = false → o = t from fun h => by rw [ho, put_no (by rw [← hok]; exact h)])
  have HOT := Lib.hid (show ok = true → PutQ t key kid o from fun h => by rw [ho, put_yes (by rw [← hok]; exact h)]; exact put_q (by rw [← hok]; exact h))
  clear hta hka hti hki hb1 hal hal2 hst hsk HT HN HC ho hok
  go_wp2_with fail
  generalize (w1.alloc (.cells #[.int .i64 t.kind, .bool t.flag, .int .i64 t.num, .string t.text, .slice a1 t.keys.length m1, .slice b1 t.kids.length c1] 27)).alloc (.cells #[.int .i64 kid.kind, .bool kid.flag, .int .i64 kid.num, .string kid.text, .slice a2 kid.keys.length m2, .slice b2 kid.kids.length c2] 27) = w2 at H2 HT2 ⊢
  refine (HPI.out _ H2.out.2.2.2.1 H2.out.2.2.2.2 HT2.out).mono ?_
  rintro e w3 ⟨⟨rk, rs, fr, rfl, hro, hrn, hrg⟩, hb3⟩
  obtain ⟨fk9, fs9, hfe9, hso9, hko9⟩ := treeOwn_iff.1 hro
  obtain ⟨a3, m3, rfl⟩ := str_shape hso9
  obtain ⟨b3, c3, rfl⟩ := kids_shape hko9
  clear hfe9 hso9 hko9
  have hri := hro.toIn (S := Any) _ _ _ _ (fun _ _ => trivial)
  have hal3 := alloc_below w3 #[.int .i64 o.kind, .bool o.flag, .int .i64 o.num, .string o.text, .slice a3 o.keys.length m3, .slice b3 o.kids.length c3] 27
  have hs3 := Spill.new w3 o (.slice a3 o.keys.length m3) (.slice b3 o.kids.length c3) 27
  have H4 := Lib.hid (show TS W (w3.alloc (.cells #[.int .i64 o.kind, .bool o.flag, .int .i64 o.num, .string o.text, .slice a3 o.keys.length m3, .slice b3 o.kids.length c3] 27)) w1.heap.size (w1.heap.size + 1) w3.heap.size t kid o (.slice a1 t.keys.length m1) (.slice b1 t.kids.length c1) (.slice a2 kid.keys.length m2) (.slice b2 kid.kids.length c2) (.slice a3 o.keys.length m3) (.slice b3 o.kids.length c3) from
    ⟨(H2.out.1.keep hb3).keep hal3, (H2.out.2.1.keep hb3).keep hal3, hs3, bnext (bnext H2.out.2.2.1 hb3) hal3, (H2.out.2.2.2.1.keep hb3).keep hal3, (H2.out.2.2.2.2.keep hb3).keep hal3, hri.keep hal3⟩)
  have HT4 := Lib.hid (tabs_keep HT2.out (bnext hb3 hal3))
  clear hro hrn hrg hri hb3 hal3 hs3 H2 HT2 HPI
  cases ok
  · obtain ⟨p0, p1, p2, p3, p4, p5⟩ := H4.out.st.cells
    obtain ⟨q0, q1, q2, q3, q4, q5⟩ := H4.out.so.cells
    have HS := Lib.hid (show ∀ w : World, TreeIn w Any o (.slice a3 o.keys.length m3) (.slice b3 o.kids.length c3) → TreeIn w Any t (.slice a1 t.keys.length m1) (.slice b1 t.kids.length c1) → Calls Tryd.prog 22 #[.agg #[.int .i64 o.kind, .bool o.flag, .int .i64 o.num, .string o.text, .slice a3 o.keys.length m3, .slice b3 o.kids.length c3], .agg #[.int .i64 t.kind, .bool t.flag, .int .i64 t.num, .string t.text, .slice a1 t.keys.length m1, .slice b1 t.kids.length c1]] w fun e w' => e = .returned (.bool true) ∧ Below w.heap.size w w' from fun w h1 h2 => by
      have h := sameTS _ o t Any Any (.slice a3 o.keys.length m3) (.slice b3 o.kids.length c3) (.slice a1 t.keys.length m1) (.slice b1 t.kids.length c1) w (Nat.le_refl _) HOW.out.1 h1 h2
      have e : sameTr o t = true := by rw [HOF.out rfl]; exact sameTr_refl t
      rw [e] at h; exact h)
    go_wp2_with fail
    generalize w3.alloc (.cells #[.int .i64 o.kind, .bool o.flag, .int .i64 o.num, .string o.text, .slice a3 o.keys.length m3, .slice b3 o.kids.length c3] 27) = w4 at H4 HT4 p0 p1 p2 p3 p4 p5 q0 q1 q2 q3 q4 q5 ⊢
    refine (HS.out _ H4.out.oi H4.out.ti).mono ?_
    rintro e w5 ⟨rfl, hb5⟩
    go_wp2
    go_ret
    exact ⟨rfl, bnext H4.out.bel hb5⟩
  have HQ := Lib.hid (HOT.out rfl)
  clear HOF HOT
  have HK1 := Lib.hid (show ∀ w : World, TreeIn w Any o (.slice a3 o.keys.length m3) (.slice b3 o.kids.length c3) → Calls Tryd.prog 23 #[.agg #[.int .i64 o.kind, .bool o.flag, .int .i64 o.num, .string o.text, .slice a3 o.keys.length m3, .slice b3 o.kids.length c3], .string key] w fun e w' => TreeNew2 w.heap.size kid true e w' ∧ Below w.heap.size w w' from fun w h1 => by
    have h := iKidOf o Any (.slice a3 o.keys.length m3) (.slice b3 o.kids.length c3) key w HOW.out.1 h1
    rw [(put_hit HQ.out).1, (put_hit HQ.out).2] at h; exact h)
  have HK2 := Lib.hid (show ∀ (i : Nat) (_ : i < t.keys.length) (w : World), TreeIn w Any o (.slice a3 o.keys.length m3) (.slice b3 o.kids.length c3) → Calls Tryd.prog 23 #[.agg #[.int .i64 o.kind, .bool o.flag, .int .i64 o.num, .string o.text, .slice a3 o.keys.length m3, .slice b3 o.kids.length c3], .string (strAt t.keys i)] w fun e w' => TreeNew2 w.heap.size (kidTr (strAt t.keys i) o) true e w' ∧ Below w.heap.size w w' from fun i hi w h1 => by
    have h := iKidOf o Any (.slice a3 o.keys.length m3) (.slice b3 o.kids.length c3) (strAt t.keys i) w HOW.out.1 h1
    rw [(put_old HQ.out hi).1] at h; exact h)
  have HXE := Lib.hid (fun (i : Nat) (hi : i < t.keys.length) => (put_old HQ.out hi).2)
  obtain ⟨jj, hj1, hj2, hj3, -⟩ := HQ.out.pos
  have HKA := Lib.hid (show ∀ w : World, TreeIn w Any o (.slice a3 o.keys.length m3) (.slice b3 o.kids.length c3) → Calls Tryd.prog 24 #[.agg #[.int .i64 o.kind, .bool o.flag, .int .i64 o.num, .string o.text, .slice a3 o.keys.length m3, .slice b3 o.kids.length c3], .string key] w fun e w' => e = .returned (.int .i64 (jj : Int)) ∧ Below w.heap.size w w' from fun w h1 => by
    have h := iKeyAt o Any (.slice a3 o.keys.length m3) (.slice b3 o.kids.length c3) key w (by have := HOW.out.1; have := keys_wtE o; omega) h1
    rw [hj3] at h; exact h)
  have HJ := Lib.hid hj2
  clear hj2 hj3
  obtain ⟨q0, q1, q2, q3, q4, q5⟩ := H4.out.so.cells
  go_wp2_with fail
  generalize w3.alloc (.cells #[.int .i64 o.kind, .bool o.flag, .int .i64 o.num, .string o.text, .slice a3 o.keys.length m3, .slice b3 o.kids.length c3] 27) = w4 at H4 HT4 q0 q1 q2 q3 q4 q5 ⊢
  refine (HK1.out _ H4.out.oi).mono ?_
  rintro e w5 ⟨⟨gk, gs, fg, rfl, hgo, hgn, hgg⟩, hb5⟩
  obtain ⟨fk9, fs9, hfe9, hso9, hko9⟩ := treeOwn_iff.1 hgo
  obtain ⟨a4, m4, rfl⟩ := str_shape hso9
  obtain ⟨b4, c4, rfl⟩ := kids_shape hko9
  clear hfe9 hso9 hko9
  have hgi := hgo.toIn (S := Any) _ _ _ _ (fun _ _ => trivial)
  have hal5 := alloc_below w5 #[.int .i64 kid.kind, .bool kid.flag, .int .i64 kid.num, .string kid.text, .slice a4 kid.keys.length m4, .slice b4 kid.kids.length c4] 27
  have hs5 := Spill.new w5 kid (.slice a4 kid.keys.length m4) (.slice b4 kid.kids.length c4) 27
  have H6 := Lib.hid (And.intro ((H4.out.keep hb5).keep hal5) (And.intro hs5 (hgi.keep hal5)))
  have HT6 := Lib.hid (tabs_keep HT4.out (bnext hb5 hal5))
  clear hgo hgn hgg hgi hb5 hal5 hs5 H4 HT4 HK1 q0 q1 q2 q3 q4 q5
  obtain ⟨q0, q1, q2, q3, q4, q5⟩ := H6.out.1.so.cells
  go_wp2_with fail
  refine (HKA.out _ H6.out.1.oi).mono ?_
  generalize w5.alloc (.cells #[.int .i64 kid.kind, .bool kid.flag, .int .i64 kid.num, .string kid.text, .slice a4 kid.keys.length m4, .slice b4 kid.kids.length c4] 27) = w6 at H6 HT6 ⊢
  rintro e w7 ⟨rfl, hb7⟩
  have H7 := Lib.hid (And.intro (H6.out.1.keep hb7) (And.intro (H6.out.2.1.keep hb7) (H6.out.2.2.keep hb7)))
  have HT7 := Lib.hid (tabs_keep HT6.out hb7)
  clear hb7 H6 HT6 HKA q0 q1 q2 q3 q4 q5
  go_wp2_with fail
  go_loopw [11] (fun s11 wr => ∃ k : Nat, k ≤ t.keys.length ∧ s11 = .int .i64 k ∧ Hid (Below w7.heap.size w7 wr)) (fun s11 _ => t.keys.length - (intOf s11).toNat)
  case atStart => exact ⟨0, by omega, rfl, Lib.hid (Below.refl _ _)⟩
  case round =>
    obtain ⟨k, hk, rfl, HB⟩ := hrel
    have HW := Lib.hid (H7.out.1.keep HB.out)
    have p4 := HW.out.st.cells.2.2.2.2.1
    by_cases hlt : k < t.keys.length
    · have hk0 : (0 : Int) ≤ (k : Int) := by omega
      have hkb : t.keys.length ≤ 10000 := by have := HA.out.1.1; have := keys_wtE t; omega
      have hk1 : (k : Int) < (t.keys.length : Int) := by omega
      have hkk : k < t.kids.length := by have := HQ.out.lens; omega
      have hk2 : (k : Int) < (t.kids.length : Int) := by omega
      obtain ⟨kb, ko, rfl, hcell⟩ := (treeIn_iff.1 HW.out.ti).1.at hlt
      have c0 := hcell k hlt
      clear hcell
      have HKC := Lib.hid (show w7.cell? ⟨kb, ko + k, none⟩ = some (.string (strAt t.keys k)) from by
        obtain ⟨kb2, ko2, e2, hcell2⟩ := (treeIn_iff.1 H7.out.1.ti).1.at hlt
        cases e2
        exact hcell2 k hlt)
      go_wp2_with fail
      go_upto_region 12 with fail
      go_cut [12, 13] (fun s12 s13 wx => ∃ (bx : Nat) (xa xb : Option Addr) (xm xn : Nat), s12 = .pointer (some ⟨bx, 0, none⟩) ∧ s13 = .bool true ∧ Hid (Below w7.heap.size w7 wx ∧ Spill wx bx (kidTr (strAt t.keys k) o) (.slice xa (kidTr (strAt t.keys k) o).keys.length xm) (.slice xb (kidTr (strAt t.keys k) o).kids.length xn) ∧ TreeIn wx Any (kidTr (strAt t.keys k) o) (.slice xa (kidTr (strAt t.keys k) o).keys.length xm) (.slice xb (kidTr (strAt t.keys k) o).kids.length xn)))
      case first =>
        obtain ⟨q0, q1, q2, q3, q4, q5⟩ := HW.out.so.cells
        have HD := Lib.hid (Below.refl wr.heap.size wr)
        have HSK := Lib.hid (fun (w' : World) (hb : Below wr.heap.size wr w') => And.intro (And.intro (bkeep hb q0) (And.intro (bkeep hb q1) (And.intro (bkeep hb q2) (And.intro (bkeep hb q3) (And.intro (bkeep hb q4) (bkeep hb q5)))))) (And.intro (bkeep hb p4) (bkeep hb c0)))
        have hlo := HW.out.so.lt
        clear q0 q1 q2 q3 q4 q5 p4 c0
        go_region_held3 (fun w' => (w'.cell? ⟨w3.heap.size, 0, none⟩ = some (.int .i64 o.kind) ∧ w'.cell? ⟨w3.heap.size, 1, none⟩ = some (.bool o.flag) ∧ w'.cell? ⟨w3.heap.size, 2, none⟩ = some (.int .i64 o.num) ∧ w'.cell? ⟨w3.heap.size, 3, none⟩ = some (.string o.text) ∧ w'.cell? ⟨w3.heap.size, 4, none⟩ = some (.slice a3 o.keys.length m3) ∧ w'.cell? ⟨w3.heap.size, 5, none⟩ = some (.slice b3 o.kids.length c3)) ∧ w'.cell? ⟨w1.heap.size, 4, none⟩ = some (.slice (some ⟨kb, ko, none⟩) t.keys.length m1) ∧ w'.cell? ⟨kb, ko + k, none⟩ = some (.string (strAt t.keys k)))
          (first | (with_reducible refine HSK.out _ (below_put6 HD.out ?_); omega) | (with_reducible exact HSK.out _ HD.out) | (with_reducible exact HSK.out _ HD.out.drew) | (with_reducible exact HSK.out _ (bnext HD.out (alloc_below _ _ _))) | (with_reducible exact HSK.out _ (bnext HD.out (alloc_below _ _ _)).drew) | (with_reducible exact HSK.out _ (bnext HD.out.drew (alloc_below _ _ _))))
          (first
          | (go_at_call 23; (refine (HK2.out k hlt _ (HW.out.oi.keep (bnext HD.out (by repeat (first | exact Below.refl _ _ | (refine Below.alloc ?_ (by first | omega | (simp; done) | (simp; omega)) _) | (refine Below.setCell ?_ (by first | omega | (simp; done) | (simp; omega)) _) | (refine Below.drew ?_) | (refine below_drewN ?_ _)))))).mono ?_; rintro e w9 ⟨⟨xk, xs, fx, rfl, hxo, hxn, hxg⟩, hb9⟩; obtain ⟨fk9, fs9, hfe9, hso9, hko9⟩ := treeOwn_iff.1 hxo; obtain ⟨xa, xm, rfl⟩ := str_shape hso9; obtain ⟨xb, xn, rfl⟩ := kids_shape hko9; clear hfe9 hso9 hko9; (first | (have HZL : Hid (ZeroAt w9 wr.heap.size) := by with_reducible exact zkT hb9) | (have HZL : Hid (ZeroAt w9 wr.heap.size) := by with_reducible exact zkdT hb9) | (have HZL : Hid (ZeroAt w9 wr.heap.size) := (show Hid (ZeroAt w9 wr.drew.heap.size) by with_reducible exact zkT hb9)) | skip); have HD := Lib.hid (show Below wr.heap.size wr w9 from bnext (bnext HD.out (by repeat (first | exact Below.refl _ _ | (refine Below.alloc ?_ (by first | omega | (simp; done) | (simp; omega)) _) | (refine Below.setCell ?_ (by first | omega | (simp; done) | (simp; omega)) _) | (refine Below.drew ?_) | (refine below_drewN ?_ _)))) hb9); have HXO := Lib.hid (And.intro hxo hxg); clear hxo hxn hxg hb9; (try obtain ⟨r0, r1, r2, r3, r4, r5⟩ := HZL.out.cells); (try obtain ⟨g0, g1, g2, g3, g4, g5⟩ := HZL.out.frozen))))
        all_goals (first
          | (have HZQ := HZL; have hge := HXO.out.2; (try simp at hge); go_wp2_with fail; go_meet; exact ⟨_, _, _, _, _, rfl, rfl, Lib.hid (kid_put HZL.out HXO.out.1 (fun y hy => by have := hge y hy; omega) HB.out HD.out)⟩)
          | (go_wp2_with fail; go_meet; exact ⟨_, _, _, _, _, rfl, rfl, Lib.hid (kid_new HXO.out.1 HB.out HD.out)⟩))
      case rest =>
        obtain ⟨wx0, rfl⟩ : ∃ x : World, x = wc := ⟨wc, rfl⟩
        obtain ⟨bx, xa, xb, xm, xn, rfl, rfl, HC⟩ := hcut
        clear HW p4 c0
        have HW := Lib.hid (H7.out.1.keep HC.out.1)
        have c0 := bkeep HC.out.1 (show w7.cell? ⟨kb, ko + k, none⟩ = some (.string (strAt t.keys k)) from HKC.out)
        obtain ⟨p0, p1, p2, p3, p4, p5⟩ := HW.out.st.cells
        obtain ⟨x0, x1, x2, x3, x4, x5⟩ := HC.out.2.1.cells
        obtain ⟨b9, o9, kk9, ks9, hv9, ⟨e0, e1, e2, e3, e4, e5⟩, hin⟩ := (treeIn_iff.1 HW.out.ti).2.at hkk
        cases hv9
        obtain ⟨hk9, hs9⟩ := treeIn_iff.1 hin
        obtain ⟨a7, n7, rfl⟩ := hk9.len
        obtain ⟨a8, n8, rfl⟩ := hs9.len
        clear hk9 hs9 p0 p1 p2 p3
        have HIN := Lib.hid hin; clear hin
        have p4a := aft_cell p4
        have p5a := aft_cell p5
        have c0a := aft_cell c0
        have x0a := aft_cell x0
        have x1a := aft_cell x1
        have x2a := aft_cell x2
        have x3a := aft_cell x3
        have x4a := aft_cell x4
        have x5a := aft_cell x5
        have e0a := aft_cell e0
        have e1a := aft_cell e1
        have e2a := aft_cell e2
        have e3a := aft_cell e3
        have e4a := aft_cell e4
        have e5a := aft_cell e5
        clear p4 p5 c0 x0 x1 x2 x3 x4 x5 e0 e1 e2 e3 e4 e5
        cases hne : ((strAt t.keys k).toList == key.toList)
        · have HSX := Lib.hid (show ∀ x : Aft wx0, Calls Tryd.prog 22 #[.agg #[.int .i64 (kidTr (strAt t.keys k) o).kind, .bool (kidTr (strAt t.keys k) o).flag, .int .i64 (kidTr (strAt t.keys k) o).num, .string (kidTr (strAt t.keys k) o).text, .slice xa (kidTr (strAt t.keys k) o).keys.length xm, .slice xb (kidTr (strAt t.keys k) o).kids.length xn], .agg #[.int .i64 (kidAt t.kids k).kind, .bool (kidAt t.kids k).flag, .int .i64 (kidAt t.kids k).num, .string (kidAt t.kids k).text, .slice a7 (kidAt t.kids k).keys.length n7, .slice a8 (kidAt t.kids k).kids.length n8]] x.now fun e w' => e = .returned (.bool true) ∧ Below x.now.heap.size x.now w' from fun x => by
            have e := HXE.out k hlt hne
            have h := sameTS _ (kidTr (strAt t.keys k) o) (kidAt t.kids k) Any Any _ _ _ _ x.now (Nat.le_refl _) (by rw [e]; have := HA.out.1.1; have := wt_eq t; have := wt_kid t.kids k hkk; omega) (HC.out.2.2.keep x.bel) (HIN.out.keep x.bel)
            have e2 : sameTr (kidTr (strAt t.keys k) o) (kidAt t.kids k) = true := by rw [e]; exact sameTr_refl _
            rw [e2] at h; exact h)
          go_wp2_with fail
          refine wp_region_soft_lit (by kernel_rfl) (by kernel_rfl) ?_
          repeat (go_big_quiet_step ((go_at_call 22; exact soft_call (HSX.out _))))
          refine wpQuiet_nil ?_
          intro _ hw'
          obtain ⟨xq, hw''⟩ := hw'
          subst hw''
          go_wp2
          go_roundw
          case rel => exact ⟨k + 1, by omega, by go_num, Lib.hid (bnext HC.out.1 xq.bel)⟩
          case measure => simp [intOf]; omega
        · go_wp2_with fail
          refine wp_region_soft_lit (by kernel_rfl) (by kernel_rfl) ?_
          repeat (go_big_quiet_step ((fail)))
          refine wpQuiet_nil ?_
          intro _ hw'
          obtain ⟨xq, hw''⟩ := hw'
          subst hw''
          go_wp2
          go_roundw
          case rel => exact ⟨k + 1, by omega, by go_num, Lib.hid (bnext HC.out.1 xq.bel)⟩
          case measure => simp [intOf]; omega
    · have hd : decide ((k : Int) < (t.keys.length : Int)) = false := decide_eq_false (by omega)
      have hj0 : (0 : Int) ≤ (jj : Int) := by omega
      have hjl : (jj : Int) < (o.keys.length : Int) := by omega
      have HO1 := Lib.hid (show ∀ w : World, TreeIn w Any o (.slice a3 o.keys.length m3) (.slice b3 o.kids.length c3) → Calls Tryd.prog 25 #[.agg #[.int .i64 o.kind, .bool o.flag, .int .i64 o.num, .string o.text, .slice a3 o.keys.length m3, .slice b3 o.kids.length c3]] w fun e w' => e = .returned (.bool true) ∧ Below w.heap.size w w' from fun w h1 => by
        have h := sTreeOk o Any (.slice a3 o.keys.length m3) (.slice b3 o.kids.length c3) w HOW.out.2 h1
        rw [HQ.out.ok] at h; exact h)
      have HO2 := Lib.hid (show ∀ w : World, TreeIn w Any o (.slice a3 o.keys.length m3) (.slice b3 o.kids.length c3) → Tabs w → Calls Tryd.prog 17 #[.agg #[.int .i64 o.kind, .bool o.flag, .int .i64 o.num, .string o.text, .slice a3 o.keys.length m3, .slice b3 o.kids.length c3]] w fun e w' => e = .returned (.bool true) ∧ Below w.heap.size w w' from fun w h1 h2 => by
        have h := iTreeOk o Any (.slice a3 o.keys.length m3) (.slice b3 o.kids.length c3) w HOW.out.2 h1 h2
        rw [HQ.out.ok] at h; exact h)
      have HO3 := Lib.hid (show ∀ w : World, TreeIn w Any kid (.slice a4 kid.keys.length m4) (.slice b4 kid.kids.length c4) → TreeIn w Any kid (.slice a2 kid.keys.length m2) (.slice b2 kid.kids.length c2) → Calls Tryd.prog 22 #[.agg #[.int .i64 kid.kind, .bool kid.flag, .int .i64 kid.num, .string kid.text, .slice a4 kid.keys.length m4, .slice b4 kid.kids.length c4], .agg #[.int .i64 kid.kind, .bool kid.flag, .int .i64 kid.num, .string kid.text, .slice a2 kid.keys.length m2, .slice b2 kid.kids.length c2]] w fun e w' => e = .returned (.bool true) ∧ Below w.heap.size w w' from fun w h1 h2 => by
        have h := sameTS _ kid kid Any Any (.slice a4 kid.keys.length m4) (.slice b4 kid.kids.length c4) (.slice a2 kid.keys.length m2) (.slice b2 kid.kids.length c2) w (Nat.le_refl _) (by have := HA.out.2.1; omega) h1 h2
        rw [sameTr_refl] at h; exact h)
      have HG := Lib.hid (And.intro (H7.out.2.1.keep HB.out) (H7.out.2.2.keep HB.out))
      have HTT := Lib.hid (tabs_keep HT7.out HB.out)
      obtain ⟨q0, q1, q2, q3, q4, q5⟩ := HW.out.so.cells
      go_wp2_with fail
      refine (HO1.out _ HW.out.oi).mono ?_
      rintro e w10 ⟨rfl, hb10⟩
      have HW1 := Lib.hid (HW.out.keep hb10)
      have HG1 := Lib.hid (And.intro (HG.out.1.keep hb10) (HG.out.2.keep hb10))
      have HT1 := Lib.hid (tabs_keep HTT.out hb10)
      clear hb10 q0 q1 q2 q3 q4 q5 p4 HW HG HTT
      obtain ⟨q0, q1, q2, q3, q4, q5⟩ := HW1.out.so.cells
      go_wp2_with fail
      refine (HO2.out _ HW1.out.oi HT1.out).mono ?_
      rintro e w11 ⟨rfl, hb11⟩
      have HW2 := Lib.hid (HW1.out.keep hb11)
      have HG2 := Lib.hid (And.intro (HG1.out.1.keep hb11) (HG1.out.2.keep hb11))
      clear hb11 q0 q1 q2 q3 q4 q5 HW1 HG1 HT1
      obtain ⟨y0, y1, y2, y3, y4, y5⟩ := HG2.out.1.cells
      obtain ⟨z0, z1, z2, z3, z4, z5⟩ := HW2.out.sk.cells
      go_wp2_with fail
      refine (HO3.out _ HG2.out.2 HW2.out.ki).mono ?_
      rintro e w12 ⟨rfl, hb12⟩
      have HW3 := Lib.hid (HW2.out.keep hb12)
      clear hb12 y0 y1 y2 y3 y4 y5 z0 z1 z2 z3 z4 z5 HW2 HG2
      have q4 := HW3.out.so.cells.2.2.2.2.1
      obtain ⟨lb, lo, rfl, hcell⟩ := (treeIn_iff.1 HW3.out.oi).1.at hj1
      have c0 := hcell jj hj1
      rw [HJ.out] at c0
      have hke : (key.toList == key.toList) = true := beq_self_eq_true _
      clear hcell
      go_wp2
      go_ret
      exact ⟨rfl, HW3.out.bel⟩

end Go.Proofs.YtkifacpanipfhaaDoor
