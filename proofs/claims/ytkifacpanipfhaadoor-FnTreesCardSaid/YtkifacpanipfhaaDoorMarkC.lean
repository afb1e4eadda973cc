/- markTreeS, markTree write their marks into a tree of the call's own; heldTreeS, heldTree find them. -/
import Derived.Test.YtkifacpanipfhaaDoorMarkB
import Derived.Test.YtkifacpanipfhaaDoorTreeT
namespace Go.Proofs.YtkifacpanipfhaaDoor
open Go.RowKit

def put4 (F : Nat → Value) (i : Nat) (v0 v1 v2 v3 : Value) : Nat → Value := fun j =>
  if j = i + 3 then v3 else if j = i + 2 then v2 else if j = i + 1 then v1 else if j = i then v0 else F j
theorem put4_new (F : Nat → Value) (i : Nat) (v0 v1 v2 v3 : Value) :
    put4 F i v0 v1 v2 v3 i = v0 ∧ put4 F i v0 v1 v2 v3 (i + 1) = v1 ∧ put4 F i v0 v1 v2 v3 (i + 2) = v2 ∧ put4 F i v0 v1 v2 v3 (i + 3) = v3 := by
  unfold put4
  refine ⟨?_, ?_, ?_, ?_⟩
  · rw [if_neg (by omega), if_neg (by omega), if_neg (by omega), if_pos rfl]
  · rw [if_neg (by omega), if_neg (by omega), if_pos rfl]
  · rw [if_neg (by omega), if_pos rfl]
  · rw [if_pos rfl]
theorem put4_old (F : Nat → Value) (i : Nat) (v0 v1 v2 v3 : Value) (m : Nat) (h : m < i ∨ i + 3 < m) : put4 F i v0 v1 v2 v3 m = F m := by
  unfold put4
  rw [if_neg (by omega), if_neg (by omega), if_neg (by omega), if_neg (by omega)]
theorem len_cnt : ∀ l : List Tr, l.length ≤ cntL l
  | [] => by simp [cntL]
  | t :: ts => by have := len_cnt ts; simp only [cntL, List.length_cons]; omega

def MarkT (N : Nat) : Prop := ∀ (l : List Tr) (a : Option Addr) (cap : Nat) (fp : List Nat) (k : Nat) (w : World), nodesL l < N → k + cntL l ≤ 1073741824 → fp.Nodup → KidsOwn w (.slice a l.length cap) l fp →
    Calls Tryd.prog 61 #[.slice a l.length cap, .int .i64 k] w fun e w' => e = .returned (.int .i64 ((k : Int) + (cntL l : Int))) ∧ KidsOwn w' (.slice a l.length cap) (markKids k l) fp ∧ Apart fp w w'

set_option maxRecDepth 100000 in
set_option maxHeartbeats 4000000 in
theorem markT : ∀ N, MarkT N
  | 0 => fun l a cap fp k w h _ _ _ => by omega
  | N + 1 => fun l a cap fp k w h hk hnd ho => by
    have HIH := Lib.hid (markT N)
    have hlc := len_cnt l
    have hq1 : l.length ≤ 1073741824 := by omega
    have HND := Lib.hid hnd; clear hnd
    go_enter Tryd.func61, Tryd.ntmps61
    go_wp2
    go_loopw [1, 5] (fun s1 s5 wr => ∃ j kk : Nat, j ≤ l.length ∧ s5 = .int .i64 j ∧ s1 = .int .i64 kk ∧ Hid (kk = k + cntL (l.take j)) ∧ Hid (KidsOwn wr (.slice a l.length cap) (partMarked k j l) fp) ∧ Apart fp w wr) (fun _ s5 _ => l.length - (intOf s5).toNat)
    case atStart => exact ⟨0, k, by omega, rfl, rfl, by simp [Hid, cntL], by unfold Hid; rw [partMarked_zero]; exact ho, Apart.refl _ _⟩
    case round =>
      obtain ⟨j, kk, hj, rfl, rfl, HKK, HO, hap⟩ := hrel
      clear ho
      by_cases hlt : j < l.length
      · have HPL := Lib.hid (partMarked_len k j l hj)
        rcases HO.out with ⟨e, _⟩ | ⟨g, cap', e, M, F, ff, hv, hfp, hrow, hM, hkr⟩
        · have := HPL.out; rw [e] at this; simp at this; omega
        simp only [Value.slice.injEq] at hv
        obtain ⟨rfl, -, rfl⟩ := hv
        obtain ⟨f1, fj, f3, vk, vs, hff, ⟨c0, c1, c2, c3, c4, c5⟩, hto, hall⟩ := KidsRow.split _ 0 ff j (by rw [HPL.out]; exact hlt) hkr
        rw [Nat.zero_add] at c0 c1 c2 c3 c4 c5
        rw [partMarked_at k j l hlt] at c0 c1 c2 c3 hto
        obtain ⟨fk, fs, hfj, hso, hko⟩ := treeOwn_iff.1 hto
        obtain ⟨a1, n1, rfl⟩ := str_shape hso
        obtain ⟨a2, n2, rfl⟩ := kids_shape hko
        have HALL := Lib.hid hall; clear hall hto hkr HO
        have HFP := Lib.hid (And.intro hfp (And.intro hff hfj)); clear hfp hff hfj
        have hcj := cntL_take l j hlt
        have hce := cnt_eq (kidAt l j)
        have hcl := cntL_le l (j + 1)
        have hnk := nodes_kid l j hlt
        have hne := nodes_eq (kidAt l j)
        have hkk := HKK.out
        have hM' : l.length * 6 ≤ M := by have := HPL.out; omega
        have HB := Lib.hid (show nodesL (kidAt l j).kids < N ∧ kk + 4 + (kidAt l j).keys.length + cntL (kidAt l j).kids ≤ 1073741824 ∧ kk + 4 + (kidAt l j).cnt = k + cntL (l.take (j + 1)) ∧ (kidAt l j).cnt = (kidAt l j).keys.length + cntL (kidAt l j).kids by omega)
        have hq2 : kk + 4 + (kidAt l j).keys.length ≤ 1073741824 := by have := HB.out; omega
        have hq3 : kk + 4 + (kidAt l j).keys.length + cntL (kidAt l j).kids ≤ 1073741824 := by have := HB.out; omega
        clear hcj hce hcl hnk hne hkk hM
        obtain ⟨fl, hfl⟩ : ∃ fl : Bool, fl = ((((kk : Int) + 1) % 3) == 0) := ⟨_, rfl⟩
        have hflN : decide ((kk + 1) % 3 = 0) = fl := by rw [hfl, Bool.eq_iff_iff]; simp; omega
        have HFL := Lib.hid hflN; clear hflN
        have d0 := hrow.cell (i := j * 6) (by omega)
        have d1 := hrow.cell (i := j * 6 + 1) (by omega)
        have d2 := hrow.cell (i := j * 6 + 2) (by omega)
        have f0 := hrow.frozen (j * 6)
        have g1 := hrow.frozen (j * 6 + 1)
        have g2 := hrow.frozen (j * 6 + 2)
        rw [c0] at d0; rw [c1] at d1; rw [c2] at d2
        have hfl' := hfl.symm
        clear hfl
        have C4 := Lib.hid c4; have C5 := Lib.hid c5
        clear c0 c1 c2 c3 c4 c5
        obtain ⟨ks, hks⟩ : ∃ ks : List ByteArray, ks = (kidAt l j).keys := ⟨_, rfl⟩
        obtain ⟨cs, hcs⟩ : ∃ cs : List Tr, cs = (kidAt l j).kids := ⟨_, rfl⟩
        have HKS := Lib.hid (And.intro hks hcs)
        rw [← hks] at hso C4 hq2 hq3; rw [← hcs] at hko C5 hq3
        clear hks hcs
        have hmt : ∀ w0 : World, Calls Tryd.prog 91 #[.int .i64 ((kk : Int) + 1 + 1 + 1)] w0 fun e w' => e = .returned (.string (mtext (kk + 3))) ∧ Below w0.heap.size w0 w' := fun w0 => by
          have := markText_any (kk + 3) w0 (by omega)
          rw [show ((kk : Int) + 1 + 1 + 1) = ((kk + 3 : Nat) : Int) by omega]; exact this
        have hms : ∀ w0 : World, StrOwn w0 (.slice a1 ks.length n1) ks fk → Calls Tryd.prog 60 #[.slice a1 ks.length n1, .int .i64 ((kk : Int) + 1 + 1 + 1 + 1)] w0 fun e w' =>
            e = .returned (.int .i64 ((kk : Int) + 4 + (ks.length : Int))) ∧ StrOwn w' (.slice a1 ks.length n1) (markStrs (kk + 4) ks.length) fk ∧ Apart fk w0 w' := fun w0 h0 => by
          have := markStringS_own ks a1 n1 fk (kk + 4) w0 (by omega) h0
          rw [show ((kk + 4 : Nat) : Int) = (kk : Int) + 4 by omega] at this
          rw [show ((kk : Int) + 1 + 1 + 1 + 1) = (kk : Int) + 4 by omega]; exact this
        have hmk : ∀ w0 : World, KidsOwn w0 (.slice a2 cs.length n2) cs fs → fs.Nodup → Calls Tryd.prog 61 #[.slice a2 cs.length n2, .int .i64 ((kk : Int) + 4 + (ks.length : Int))] w0 fun e w' =>
            e = .returned (.int .i64 ((kk : Int) + 4 + (ks.length : Int) + (cntL cs : Int))) ∧ KidsOwn w' (.slice a2 cs.length n2) (markKids (kk + 4 + ks.length) cs) fs ∧ Apart fs w0 w' := fun w0 h0 hf => by
          have := HIH.out cs a2 n2 fs (kk + 4 + ks.length) w0 (by have := HB.out.1; rw [← HKS.out.2] at this; exact this) hq3 hf h0
          rw [show ((kk + 4 + ks.length : Nat) : Int) = (kk : Int) + 4 + (ks.length : Int) by omega] at this
          exact this
        have hnd := HND.out
        rw [HFP.out.1, HFP.out.2.1, HFP.out.2.2] at hnd
        have hnd1 : g ∉ fk ∧ g ∉ fs ∧ fs.Nodup ∧ (∀ x, x ∈ fk → x ∉ fs) ∧ (∀ x, x ∈ f1 ++ f3 → x ≠ g ∧ x ∉ fk ∧ x ∉ fs) := by
          simp only [List.nodup_cons, List.nodup_append, List.mem_append, not_or] at hnd
          obtain ⟨⟨n1, ⟨⟨n2, n3⟩, n4⟩⟩, m1, ⟨⟨m2, m3, m4⟩, m5, m6⟩, m7⟩ := hnd
          refine ⟨n2, n3, m3, fun x hx hy => m4 x hx x hy rfl, fun x hx => ?_⟩
          rw [List.mem_append] at hx
          rcases hx with hx | hx
          · exact ⟨fun e => n1 (e ▸ hx), fun hy => m7 x hx x (.inl (.inl hy)) rfl, fun hy => m7 x hx x (.inl (.inr hy)) rfl⟩
          · exact ⟨fun e => n4 (e ▸ hx), fun hy => m6 x (.inl hy) x hx rfl, fun hy => m6 x (.inr hy) x hx rfl⟩
        have HN1 := Lib.hid hnd1; clear hnd hnd1
        have HMT := Lib.hid hmt; have HMS := Lib.hid hms; have HMK := Lib.hid hmk
        clear hmt hms hmk
        go_wp2_with fail
        refine (HMT.out _).mono ?_
        rintro e w2 ⟨rfl, hb2⟩
        have hrow2 := rowIs_keep (((hrow.set (j * 6) (.int .i64 kk)).set (j * 6 + 1) (.bool fl)).set (j * 6 + 2) (.int .i64 ((kk : Int) + 1 + 1))) hb2
        have hap2 : Apart [g] wr w2 := ((((Apart.refl [g] wr).setCell (p := ⟨g, j * 6, none⟩) (by simp) _).setCell (p := ⟨g, j * 6 + 1, none⟩) (by simp) _).setCell (p := ⟨g, j * 6 + 2, none⟩) (by simp) _).trans (Apart.of_below hb2 _)
        clear hb2 d0 d1 d2 f0 g1 g2
        have d3 : w2.cell? ⟨g, j * 6 + 3, none⟩ = some (F (j * 6 + 3)) := by rw [hrow2.cell (by omega)]; simp
        have d4 : w2.cell? ⟨g, j * 6 + 4, none⟩ = some (.slice a1 ks.length n1) := by rw [hrow2.cell (by omega)]; simp [C4.out]
        have f3' := hrow2.frozen (j * 6 + 3)
        have HR2 := Lib.hid hrow2
        go_wp2_with fail
        clear d3 d4 f3'
        have hrow3 := HR2.out.set (j * 6 + 3) (.string (mtext (kk + 3)))
        have hap3 : Apart [g] wr (w2.setCell ⟨g, j * 6 + 3, none⟩ (.string (mtext (kk + 3)))) := hap2.setCell (by simp) _
        refine (HMS.out _ (hso.same fun b hb hl => hap3.block b hl (by simp; intro e; subst e; exact HN1.out.1 hb))).mono ?_
        rintro e w4 ⟨rfl, hso4, hap4⟩
        have hrow4 := hap4.row hrow3 HN1.out.1
        have d5 : w4.cell? ⟨g, j * 6 + 5, none⟩ = some (.slice a2 cs.length n2) := by rw [hrow4.cell (by omega)]; simp [C5.out]
        have HR4 := Lib.hid hrow4
        have hko4 : KidsOwn w4 (.slice a2 cs.length n2) cs fs := (hko.same fun b hb hl => hap3.block b hl (by simp; intro e; subst e; exact HN1.out.2.1 hb)).same fun b hb hl => hap4.block b hl fun hx => HN1.out.2.2.2.1 b hx hb
        have HA := Lib.hid (And.intro hap3 hap4)
        have HK4 := Lib.hid (And.intro hso4 hko4)
        clear hap3 hap4 hso4 hko4 hrow3 hrow4 hap2 hrow2
        go_wp2_with fail
        refine (HMK.out _ HK4.out.2 HN1.out.2.2.1).mono ?_
        rintro e w5 ⟨rfl, hko5, hap5⟩
        go_wp2
        go_roundw
        case rel =>
          have hapl : ∀ x, x ∈ fk ++ fs → x ∈ fp := fun x hx => by rw [HFP.out.1, HFP.out.2.1, HFP.out.2.2]; simp only [List.mem_append, List.mem_cons] at hx ⊢; rcases hx with hx | hx <;> simp [hx]
          have hgf : g ∈ fp := by rw [HFP.out.1]; simp
          refine ⟨j + 1, kk + 4 + ks.length + cntL cs, by omega, by go_num, by go_num, ?_, ?_, ?_⟩
          · have := HB.out.2.2; rw [← HKS.out.1, ← HKS.out.2] at this; unfold Hid; omega
          · have hr5 := hap5.row HR4.out HN1.out.2.1
            have e5 := partMarked_succ k j l hlt
            rw [← HKK.out, topped_markTr, ← HKS.out.1, ← HKS.out.2, HFL.out] at e5
            refine .inr ⟨g, cap, e, M, _, f1 ++ ((fk ++ fs) ++ f3), by rw [partMarked_len k (j + 1) l (by omega)], by rw [HFP.out.1, HFP.out.2.1, HFP.out.2.2], hr5, by rw [partMarked_len k (j + 1) l (by omega)]; exact hM', ?_⟩
            rw [← e5]
            have := HALL.out w5 (fun i => if i = j * 6 + 3 then .string (mtext (kk + 3)) else if i = j * 6 + 2 then .int .i64 ((kk : Int) + 1 + 1) else if i = j * 6 + 1 then .bool fl else if i = j * 6 then .int .i64 kk else F i)
              (.mk (kk : Nat) fl ((kk + 2 : Nat) : Int) (mtext (kk + 3)) (markStrs (kk + 4) ks.length) (markKids (kk + 4 + ks.length) cs))
            rw [HFP.out.2.1, HFP.out.2.2] at this
            rw [← HKS.out.1, ← HKS.out.2] at this
            refine this (fun b hb hl => ?_) (fun m hm => ?_) ?_ ?_
            · obtain ⟨h1, h2, h3⟩ := HN1.out.2.2.2.2 b hb
              have l3 := HA.out.1.size
              have l4 := HA.out.2.size
              rw [hap5.block b (by omega) h3, HA.out.2.block b (by omega) h2, HA.out.1.block b hl (by simpa using h1)]
            · rw [if_neg (by omega), if_neg (by omega), if_neg (by omega), if_neg (by omega)]
            · rw [Nat.zero_add]
              refine ⟨by simp [Tr.kind], by simp [Tr.flag], ?_, by simp [Tr.text], by simp [C4.out], by simp [C5.out]⟩
              simp [Tr.num]; omega
            · refine treeOwn_iff.2 ⟨fk, fs, rfl, ?_, hko5⟩
              exact HK4.out.1.same fun b hb hl => hap5.block b hl (HN1.out.2.2.2.1 b hb)
          · exact (((hap.trans (HA.out.1.mono fun x hx => by simp at hx; rw [hx]; exact hgf)).trans (HA.out.2.mono fun x hx => hapl x (by simp [hx]))).trans (hap5.mono fun x hx => hapl x (by simp [hx])))
        case measure => simp [intOf]; omega
      · obtain rfl : j = l.length := by omega
        go_wp2
        go_ret
        refine ⟨ret_int (by have := HKK.out; rw [List.take_length] at this; omega), ?_, hap⟩
        have := HO.out
        rw [partMarked_end] at this; exact this

/-- markTree at a tree that the call has made. -/
theorem markTree_own (t : Tr) (vk vs : Value) (fp : List Nat) (k : Nat) (w : World) (hk : k + t.cnt ≤ 1073741824) (hnd : fp.Nodup) (ho : TreeOwn w t vk vs fp) :
    Calls Tryd.prog 30 #[.agg #[.int .i64 t.kind, .bool t.flag, .int .i64 t.num, .string t.text, vk, vs], .int .i64 k] w fun e w' => e = .returned (.int .i64 ((k : Int) + (t.cnt : Int))) ∧ TreeOwn w' (markTr k t) vk vs fp ∧ Apart fp w w' := by
  obtain ⟨fk, fs, rfl, hso, hko⟩ := treeOwn_iff.1 ho
  obtain ⟨a1, n1, rfl⟩ := str_shape hso
  obtain ⟨a2, n2, rfl⟩ := kids_shape hko
  clear ho
  have hc := cnt_eq t
  rw [hc] at hk
  have HC := Lib.hid hc; clear hc
  rw [List.nodup_append] at hnd
  have HND := Lib.hid hnd; clear hnd
  have hlf := hso.lt
  have hlg : ∀ b, b ∈ fs → b < w.heap.size := by
    rcases hko with ⟨_, rfl, _⟩ | ⟨g, cap, e, N, F, ff, h2, rfl, h3, h4, h5⟩
    · intro b hb; simp at hb
    · intro b hb
      rw [List.mem_cons] at hb
      rcases hb with rfl | hb
      · exact h3.lt
      · exact KidsRow.lt F _ 0 ff h5 b hb
  have HLF := Lib.hid (And.intro hlf hlg); clear hlf hlg
  have hal : Below w.heap.size w (w.alloc (.cells #[.int .i64 t.kind, .bool t.flag, .int .i64 t.num, .string t.text, .slice a1 t.keys.length n1, .slice a2 t.kids.length n2] 27)) := by repeat (first | exact Below.refl _ _ | (refine Below.alloc ?_ (by first | omega | (simp; done) | (simp; omega)) _) | (refine Below.setCell ?_ (by first | omega | (simp; done) | (simp; omega)) _) | (refine Below.drew ?_) | (refine below_drewN ?_ _))
  have hrow := World.rowIs_alloc w #[.int .i64 t.kind, .bool t.flag, .int .i64 t.num, .string t.text, .slice a1 t.keys.length n1, .slice a2 t.kids.length n2] 27 (lit6 (.int .i64 t.kind) (.bool t.flag) (.int .i64 t.num) (.string t.text) (.slice a1 t.keys.length n1) (.slice a2 t.kids.length n2)) (lit6_get _ _ _ _ _ _)
  have HAL := Lib.hid hal; clear hal
  have HR := Lib.hid hrow; clear hrow
  go_enter Tryd.func30, Tryd.ntmps30
  go_wp2_with fail
  refine (markStringS_own t.keys a1 n1 fk k _ (by omega) (hso.keep HAL.out)).mono ?_
  rintro e w2 ⟨rfl, hso2, hap2⟩
  have hrow2 := hap2.row HR.out (fun h => by have := HLF.out.1 _ h; omega)
  have d5 : w2.cell? ⟨w.heap.size, 5, none⟩ = some (.slice a2 t.kids.length n2) := hrow2.cell (by simp)
  have hko2 : KidsOwn w2 (.slice a2 t.kids.length n2) t.kids fs := (hko.keep HAL.out).same fun b hb hl => hap2.block b hl fun hx => HND.out.2.2 b hx b hb rfl
  have HS2 := Lib.hid (And.intro hso2 (And.intro hap2 hko2))
  clear hso2 hap2 hko2 hrow2
  go_wp2_with fail
  have hmk : ∀ w0 : World, KidsOwn w0 (.slice a2 t.kids.length n2) t.kids fs → Calls Tryd.prog 61 #[.slice a2 t.kids.length n2, .int .i64 ((k : Int) + (t.keys.length : Int))] w0 fun e w' =>
      e = .returned (.int .i64 ((k : Int) + (t.keys.length : Int) + (cntL t.kids : Int))) ∧ KidsOwn w' (.slice a2 t.kids.length n2) (markKids (k + t.keys.length) t.kids) fs ∧ Apart fs w0 w' := fun w0 h0 => by
    have := markT (nodesL t.kids + 1) t.kids a2 n2 fs (k + t.keys.length) w0 (by omega) (by omega) HND.out.2.1 h0
    rw [show ((k + t.keys.length : Nat) : Int) = (k : Int) + (t.keys.length : Int) by omega] at this
    exact this
  refine (hmk _ HS2.out.2.2).mono ?_
  rintro e w3 ⟨rfl, hko3, hap3⟩
  clear hmk
  go_wp2
  go_ret
  refine ⟨ret_int (by have := HC.out; omega), ?_, ?_⟩
  · rw [markTr_eq]
    exact treeOwn_iff.2 ⟨fk, fs, rfl, HS2.out.1.same fun b hb hl => hap3.block b hl fun hx => HND.out.2.2 b hb b hx rfl, hko3⟩
  · exact ((Apart.of_below HAL.out _).trans (HS2.out.2.1.mono fun x hx => by simp [hx])).trans (hap3.mono fun x hx => by simp [hx])

end Go.Proofs.YtkifacpanipfhaaDoor
