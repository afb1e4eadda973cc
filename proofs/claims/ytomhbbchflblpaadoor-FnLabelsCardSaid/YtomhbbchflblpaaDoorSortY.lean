/- SortLabels of the reference: the contract. -/
import Derived.Test.YtomhbbchflblpaaDoorSortX
namespace Go.Proofs.YtomhbbchflblpaaDoor
open Go.RowKit

/-- What stands while the reference sorts. -/
def OutIs (W0 wr : World) (L : List Lb) (i g c : Nat) : Prop := wr.ownsRow W0.heap.size 35 2 (.slice (some ⟨g, 0, none⟩) i c) i (cellsLab (sortN L i)) ∧ Below W0.heap.size W0 wr
theorem OutIs.sl {W0 wr : World} {L : List Lb} {i g c : Nat} (h : OutIs W0 wr L i g c) : SlAt wr (some ⟨g, 0, none⟩) (sortN L i).length 2 (labF (sortN L i)) := own_sl h.1 (sortN_len L i)
theorem OutIs.cap {W0 wr : World} {L : List Lb} {i g c : Nat} (h : OutIs W0 wr L i g c) : i ≤ c ∧ c ≤ maxLen := by
  rcases h.1.2 with ⟨e, _⟩ | ⟨g, cap, cur, e, _, _, hn, hc, _⟩
  · cases e
  · cases e; exact ⟨hn, hc⟩
theorem OutIs.keep {W0 wr w' : World} {L : List Lb} {i g c : Nat} (h : OutIs W0 wr L i g c) (hb : Below wr.heap.size wr w') : OutIs W0 w' L i g c := ⟨own_stay h.1 hb, bnext h.2 hb⟩

/-- What the reference's SortLabels returns, its row whole. -/
def SortO (L : List Lb) (w : World) (e : Ending) (w' : World) : Prop :=
  (∃ v, e = .returned (.tuple #[v, .bool (sortOk L)]) ∧ w'.ownsRow w.heap.size 35 2 v (sortR L).length (cellsLab (sortR L))) ∧ Below w.heap.size w w'
theorem SortO.flat {L : List Lb} {w w' : World} {e : Ending} (h : SortO L w e w') : SortV L w e w' := by
  obtain ⟨⟨v, rfl, ho⟩, hb⟩ := h
  obtain ⟨fp, h1, h2⟩ := FlatOwn.of_owns ho (f := labF (sortR L)) (cellsLab_at (sortR L))
  obtain ⟨a, c, rfl⟩ := h1.shape
  exact ⟨⟨a, c, fp, rfl, h1, h2⟩, hb⟩
theorem le_low (x y : List UInt8) : (Op.bytesLess y x || y == x) = !Op.bytesLess x y := by
  cases h : Op.bytesLess x y
  · cases k : Op.bytesLess y x
    · rw [bl_tri y x k h]; simp
    · rfl
  · have h2 : Op.bytesLess y x = false := by
      cases k : Op.bytesLess y x
      · rfl
      · have := bl_trans x y x h k; rw [bl_irr] at this; cases this
    rw [h2]
    have h3 : (y == x) = false := by
      rw [beq_eq_false_iff_ne]; rintro rfl; rw [bl_irr] at h; cases h
    rw [h3]; rfl
theorem two_src {w : World} {D : Nat} {k v : ByteArray} (h : w.heap[D]? = some (.cells #[.string k, .string v] 35 (0, 0))) : (1 : Nat) = 0 ∨ ∃ b o, (some ⟨D, 0, none⟩ : Option Addr) = some ⟨b, o, none⟩ ∧ ∀ (j : Nat) (u : Value), (cellsLab [(k, v)])[j]? = some u → w.cell? ⟨b, o + j, none⟩ = some u := by
  refine .inr ⟨_, _, rfl, fun j u hj => ?_⟩
  rw [Nat.zero_add, World.cell?, h]
  rcases j with _ | _ | j <;> simp [cellsLab] at hj ⊢ <;> exact hj
theorem heap_at {w : World} {o : Obj} {n : Nat} (h : n = w.heap.size) : (w.alloc o).heap[n]? = some o := by subst h; exact heap_alloc_new _ _
theorem heap_below {w : World} {o o' : Obj} {n : Nat} (h : n = w.heap.size) : ((w.alloc o).alloc o').heap[n]? = some o := by subst h; rw [(show Below (w.alloc o).heap.size (w.alloc o) ((w.alloc o).alloc o') from (Below.refl _ _).alloc (Nat.le_refl _) _).block _ (by simp)]; exact heap_alloc_new _ _
/-- append([]Label{}, out[:k]...) of the region that draws its order. -/
theorem step_first {ops : Array Oper} {o : Oper} {a : Act} {K : Act → World → Prop} {Q : Exit → Act → World → Prop} {X : Prop} {w : World} (hgd : o.guard = none) (wy : World) (E : List Lb) (k g c B : Nat)
    (ho : o.op = .call { callee := .builtin .append, args := #[.tmp 42, .tmp 45], argTypes := #[24, 24] })
    (hs : a.eval (.tmp 42) = .slice (some ⟨B, 0, none⟩) 0 0) (hx : a.eval (.tmp 45) = .slice (some ⟨g, 0, none⟩) k c)
    (hB : w.heap[B]? = some (.cells #[] 35 (0, 0))) (hbel : Below wy.heap.size wy w) (hB2 : wy.heap.size ≤ B) (hk : k ≤ E.length) (hE : E.length ≤ 6) (hsl : SlAt wy (some ⟨g, 0, none⟩) E.length 2 (labF E))
    (h : ∀ v2 w2, w2.ownsRow wy.heap.size 35 2 v2 k (cellsLab (E.take k)) → Below wy.heap.size wy w2 → (∀ b, b < w.heap.size → b ≠ B → w2.heap[b]? = w.heap[b]?) → K (a.put o.dst v2) w2) :
    if Region.wanted o (yielded ops a.tmps) = true then Oper.wp Tryd.prog o a w K Q else X := by
  obtain ⟨i0, hi, hz0, hz1, hz2⟩ := info_parts Tryd.infoLabel
  have hown := own_nil (size := 2) hB hB2
  have hl : (cellsLab (E.take k)).length = k * 2 := by rw [cellsLab_len, List.length_take, Nat.min_eq_left hk]
  have hsrc := part_src (hsl.keep hbel) 0 k (by omega)
  rw [List.drop_zero, Nat.zero_mul] at hsrc
  refine step_append_in hgd (.tmp 42) (.tmp 45) 24 ho wy.heap.size 35 i0 _ 2 32 Tryd.underlying24 hi hz0 hz1 hz2 rfl (by decide) _ 0 [] hs hown _ k c (cellsLab (E.take k)) hx hl hsrc (cellsLab_one _) (by unfold maxLen; omega) (by omega) hbel.size ?_
  intro v2 w2 hown2 hgrow2 _
  rw [Nat.zero_add, List.nil_append] at hown2
  exact h v2 w2 hown2 (Below.trans hbel (own_over hown hgrow2 hbel.size)) (fun b hb hne => hgrow2.block b hb (fun e => hne (by simpa [Value.ownBlock, eq_comm] using e)))
/-- append(that, list[i]). -/
theorem step_second {ops : Array Oper} {o : Oper} {a : Act} {K : Act → World → Prop} {Q : Exit → Act → World → Prop} {X : Prop} {w : World} (hgd : o.guard = none) (wy w2 : World) (E : List Lb) (k D : Nat) (v2 : Value) (ky vl : ByteArray)
    (ho : o.op = .call { callee := .builtin .append, args := #[.tmp 46, .tmp 51], argTypes := #[24, 24] })
    (hs : a.eval (.tmp 46) = v2) (hx : a.eval (.tmp 51) = .slice (some ⟨D, 0, none⟩) 1 1) (hD : w.heap[D]? = some (.cells #[.string ky, .string vl] 35 (0, 0)))
    (hown : w2.ownsRow wy.heap.size 35 2 v2 k (cellsLab E)) (hb2 : Below wy.heap.size wy w2) (hbel : Below w2.heap.size w2 w) (hk : k ≤ 6)
    (h : ∀ v3 w3, w3.ownsRow wy.heap.size 35 2 v3 (k + 1) (cellsLab (E ++ [(ky, vl)])) → Below wy.heap.size wy w3 → K (a.put o.dst v3) w3) :
    if Region.wanted o (yielded ops a.tmps) = true then Oper.wp Tryd.prog o a w K Q else X := by
  obtain ⟨i0, hi, hz0, hz1, hz2⟩ := info_parts Tryd.infoLabel
  have hown' := own_stay hown hbel
  have hbw : Below wy.heap.size wy w := bnext hb2 hbel
  refine step_append_in hgd (.tmp 46) (.tmp 51) 24 ho wy.heap.size 35 i0 _ 2 32 Tryd.underlying24 hi hz0 hz1 hz2 rfl (by decide) _ k _ hs hown' _ 1 1 (cellsLab [(ky, vl)]) hx rfl (two_src hD) (cellsLab_one _) (by unfold maxLen; omega) (by omega) hbw.size ?_
  intro v3 w3 hown3 hgrow3 _
  rw [← cells_app] at hown3
  exact h v3 w3 hown3 (Below.trans hbw (own_over hown' hgrow3 hbw.size))
theorem ins_cells {L : List Lb} {i k : Nat} (hp : posL (labN L i) (sortN L i) = k) : cellsLab ((sortN L i).take k ++ [(keyAt L i, valAt L i)]) ++ cellsLab (((sortN L i).drop k).take (i - k)) = cellsLab (sortN L (i + 1)) := by
  have hl : ((sortN L i).drop k).length ≤ i - k := by rw [List.length_drop, sortN_len]; exact Nat.le_refl _
  rw [← cells_app, List.take_of_length_le hl, sortN, insL, hp, List.append_assoc]
  rfl
theorem low_succ {L E : List Lb} {i k : Nat} (h : ∀ m, m < k → ltL (labN L i) (labN E m) = false) (hk : ltL (labN L i) (labN E k) = false) : ∀ m, m < k + 1 → ltL (labN L i) (labN E m) = false := fun m hm => by
  rcases Nat.lt_or_ge m k with g | g
  · exact h m g
  · obtain rfl : m = k := by omega
    exact hk

set_option maxRecDepth 100000 in
set_option maxHeartbeats 4000000 in
theorem sSortLabelsO (L : List Lb) (a : Option Addr) (cap : Nat) (w : World) (hn : L.length ≤ 1048576) (hc : SlAt w a L.length 2 (labF L)) (hsz : ∀ i, i < L.length → (keyAt L i).size ≤ 1048576 ∧ (valAt L i).size ≤ 1048576) :
    Calls Tryd.prog 7 #[.slice a L.length cap] w (SortO L w) := by
  obtain ⟨i0, hi, hz0, hz1, hz2⟩ := info_parts Tryd.infoLabel
  have HSZ := Lib.hid (show ∀ C : List Lb, (∀ x, x ∈ C → x ∈ L) → ∀ i, i < C.length → (keyAt C i).size ≤ 1048576 ∧ (valAt C i).size ≤ 1048576 from fun C hC i hi => by
    obtain ⟨j, hj, e⟩ := List.getElem_of_mem (hC _ (labN_mem hi))
    have h := hsz j hj
    have e1 : labN L j = labN C i := by rw [labN_get hj, e]
    have k1 : keyAt C i = keyAt L j := (congrArg Prod.fst e1).symm
    have k2 : valAt C i = valAt L j := (congrArg Prod.snd e1).symm
    rw [k1, k2]; exact h)
  clear hsz
  have hal : Below w.heap.size w (w.alloc (.cells #[] 35)) := (Below.refl _ _).alloc (Nat.le_refl _) _
  have hsrc := lab_src (hc.keep hal)
  have hown0 : (w.alloc (.cells #[] 35)).ownsRow w.heap.size 35 2 (.slice (some ⟨w.heap.size, 0, none⟩) 0 0) 0 [] := World.ownsRow_made w #[] 0 (Nat.le_refl _) (by unfold maxLen; omega) rfl
  by_cases h6 : L.length ≤ 6
  rotate_left
  · have hd : decide ((6 : Int) < (L.length : Int)) = true := decide_eq_true (by omega)
    have hno : sortOk L = false := by rw [sortOk, decide_eq_false h6, Bool.false_and]
    have hr := sortR_no hno
    go_enter Tryd.func7, Tryd.ntmps7
    go_wp2_with (at_builtin; refine wpList_append_in rfl (.tmp 9) (.tmp 10) 24 rfl w.heap.size 35 i0 _ 2 32 Tryd.underlying24 hi hz0 hz1 hz2 rfl (by decide) (.slice (some ⟨w.heap.size, 0, none⟩) 0 0) 0 [] rfl hown0 a L.length cap (cellsLab L) rfl (cellsLab_len L) hsrc (cellsLab_one L) (by unfold maxLen; omega) (by omega) (by simp) ?_; intro v1 w1 hown1 hgrow1 _)
    have hb1 : Below w.heap.size w w1 := hal.grown hgrow1 (by simp) (fun k hk => by simp [Value.ownBlock] at hk; omega)
    simp only [Nat.zero_add, List.nil_append] at hown1
    obtain ⟨a1, c1, rfl⟩ := own_shape hown1
    have HB1 := Lib.hid hb1
    have HS1 := Lib.hid hown1
    clear hb1 hown1 hgrow1 hal hsrc hown0
    go_wp2
    go_ret2
    unfold SortO
    rw [hr, hno]
    exact ⟨⟨_, rfl, HS1.out⟩, HB1.out⟩
  have hd : decide ((6 : Int) < (L.length : Int)) = false := decide_eq_false (by omega)
  go_enter Tryd.func7, Tryd.ntmps7
  go_wp2_with (at_builtin; refine wpList_append_in rfl (.tmp 9) (.tmp 10) 24 rfl w.heap.size 35 i0 _ 2 32 Tryd.underlying24 hi hz0 hz1 hz2 rfl (by decide) (.slice (some ⟨w.heap.size, 0, none⟩) 0 0) 0 [] rfl hown0 a L.length cap (cellsLab L) rfl (cellsLab_len L) hsrc (cellsLab_one L) (by unfold maxLen; omega) (by omega) (by simp) ?_; intro v1 w1 hown1 hgrow1 _)
  have hb1 : Below w.heap.size w w1 := hal.grown hgrow1 (by simp) (fun k hk => by simp [Value.ownBlock] at hk; omega)
  simp only [Nat.zero_add, List.nil_append] at hown1
  obtain ⟨a1, c1, rfl⟩ := own_shape hown1
  have HB1 := Lib.hid hb1
  have HS1 := Lib.hid hown1
  clear hb1 hown1 hgrow1 hal hsrc hown0
  go_wp2_with fail
  have HO0 := Lib.hid (show OutIs w1 (w1.alloc (.cells #[] 35)) L 0 w1.heap.size 0 from ⟨World.ownsRow_made w1 #[] 0 (Nat.le_refl _) (by unfold maxLen; omega) rfl, (Below.refl _ _).alloc (Nat.le_refl _) _⟩)
  go_loopw [5, 6] (fun s5 s6 wr => ∃ (i g c : Nat), i ≤ L.length ∧ s5 = .slice (some ⟨g, 0, none⟩) i c ∧ s6 = .int .i64 i ∧ Hid (OutIs w1 wr L i g c)) (fun _ s6 _ => L.length - (intOf s6).toNat)
  case atStart => exact ⟨0, w1.heap.size, 0, by omega, rfl, rfl, HO0⟩
  case round =>
    obtain ⟨i, g, c, hil, rfl, rfl, HO⟩ := hrel
    clear HO0
    by_cases hlt : i < L.length
    · go_wp2_with fail
      obtain ⟨wo, hwo⟩ : ∃ x : World, x = wr := ⟨wr, rfl⟩
      rw [← hwo] at HO ⊢
      clear hwo wr
      go_loopw [7] (fun s7 wx => ∃ k : Nat, k ≤ i ∧ s7 = .int .i64 k ∧ Hid (∀ m, m < k → ltL (labN L i) (labN (sortN L i) m) = false) ∧ Hid (Below wo.heap.size wo wx)) (fun s7 _ => i - (intOf s7).toNat)
      case atStart => exact ⟨0, by omega, rfl, Lib.hid (fun m hm => by omega), Lib.hid (Below.refl _ _)⟩
      case round =>
        obtain ⟨k, hki, rfl, HK, HWX⟩ := hrel
        by_cases hke : k < i
        · have HQ := Lib.hid (HO.out.sl.keep HWX.out)
          obtain ⟨b1, o1, e1, hcell1⟩ := HQ.out.at (by rw [sortN_len]; omega)
          cases e1
          have c0 : wr.cell? ⟨g, 0 + k * 2, none⟩ = some (.string (keyAt (sortN L i) k)) := by simpa [labF] using hcell1 k (by rw [sortN_len]; omega) 0 (by omega)
          obtain ⟨b, o, rfl, hcell⟩ := (hc.keep (bnext HB1.out (bnext HO.out.2 HWX.out))).at (by omega)
          have e0 : wr.cell? ⟨b, o + i * 2, none⟩ = some (.string (keyAt L i)) := by simpa [labF] using hcell i hlt 0 (by omega)
          rw [Nat.zero_add] at c0
          clear hcell hcell1
          have c0a := aft_cell c0
          have e0a := aft_cell e0
          have k0 : (0 : Int) ≤ (k : Int) := by omega
          have k1 : (k : Int) < (i : Int) := by omega
          have k2 : (0 : Int) ≤ (i : Int) := by omega
          have k3 : (i : Int) < (L.length : Int) := by omega
          have hlx : ltL (labN L i) (labN (sortN L i) k) = Op.bytesLess (keyAt L i).toList (keyAt (sortN L i) k).toList := rfl
          have hle := le_low (keyAt L i).toList (keyAt (sortN L i) k).toList
          clear c0 e0
          cases hcmp : Op.bytesLess (keyAt L i).toList (keyAt (sortN L i) k).toList
          · rw [hcmp] at hlx
            have HLX := Lib.hid hlx; clear hlx
            rw [hcmp] at hle
            replace hle : (Op.bytesLess (keyAt (sortN L i) k).toList (keyAt L i).toList || (keyAt (sortN L i) k).toList == (keyAt L i).toList) = true := hle
            go_wp2_with fail
            refine wp_region_soft_lit (by kernel_rfl) (by kernel_rfl) ?_
            repeat (go_big_quiet_step ((fail)))
            refine wpQuiet_nil ?_
            intro _ hw'
            obtain ⟨xq, hw''⟩ := hw'
            subst hw''
            clear c0a e0a hcmp hle
            go_wp2
            go_roundw
            case rel => exact ⟨k + 1, by omega, by go_num, Lib.hid (low_succ HK.out HLX.out), Lib.hid (bnext HWX.out xq.bel)⟩
            case measure => simp [intOf]; omega
          · rw [hcmp] at hlx
            have HP := Lib.hid (show posL (labN L i) (sortN L i) = k from posL_eq _ _ k (by rw [sortN_len]; omega) HK.out (.inr hlx))
            clear hlx
            rw [hcmp] at hle
            replace hle : (Op.bytesLess (keyAt (sortN L i) k).toList (keyAt L i).toList || (keyAt (sortN L i) k).toList == (keyAt L i).toList) = false := hle
            go_wp2_with fail
            refine wp_region_soft_lit (by kernel_rfl) (by kernel_rfl) ?_
            repeat (go_big_quiet_step ((fail)))
            refine wpQuiet_nil ?_
            intro _ hw'
            obtain ⟨xq, hw''⟩ := hw'
            subst hw''
            clear c0a e0a hcmp hle k0 k1 k2 k3
            have HWY := Lib.hid (bnext HWX.out xq.bel)
            generalize xq.now = wy at HWY ⊢
            have HO2 := Lib.hid (HO.out.keep HWY.out)
            have HL := Lib.hid (hc.keep (bnext HB1.out (bnext HO.out.2 HWY.out)))
            clear HK HWX
            have hcap := HO2.out.cap
            have hc1 : (k : Int) ≤ (c : Int) := by omega
            have hc2 : (k : Int) ≤ (i : Int) := by omega
            obtain ⟨b, o, e9, hcell⟩ := HL.out.at (by omega)
            cases e9
            have e0 : wy.cell? ⟨b, o + i * 2, none⟩ = some (.string (keyAt L i)) := by simpa [labF] using hcell i hlt 0 (by omega)
            have e1 : wy.cell? ⟨b, o + i * 2 + 1, none⟩ = some (.string (valAt L i)) := by simpa [labF] using hcell i hlt 1 (by omega)
            clear hcell
            have hlb := lt_of_cell e0
            have hi0 : (0 : Int) ≤ (i : Int) := by omega
            have hi1 : (i : Int) < (L.length : Int) := by omega
            have HSRC1 := Lib.hid (fun (w' : World) (hb : Below wy.heap.size wy w') => part_src (HO2.out.sl.keep hb) 0 k (by rw [sortN_len]; omega))
            go_wp2_with fail
            have HE := Lib.hid (And.intro e0 e1)
            go_region_law (first
              | (refine step_first (by rfl) wy (sortN L i) k g _ _ (by rfl) (by rfl) (by rfl) (heap_at (by simp)) (by repeat (first | exact Below.refl _ _ | (refine Below.alloc ?_ (by first | omega | (simp; done) | (simp; omega)) _) | (refine Below.setCell ?_ (by first | omega | (simp; done) | (simp; omega)) _) | (refine Below.drew ?_) | (refine below_drewN ?_ _))) (by simp) (by rw [sortN_len]; omega) (by rw [sortN_len]; omega) HO2.out.sl ?_; intro v2 w2 hown2 hb2 hgr; have x0 := bkeep hb2 HE.out.1; have x1 := bkeep hb2 HE.out.2; (first | (have hD := (hgr (wy.heap.size + 1) (by first | (simp; done) | (simp; omega)) (by simp)).trans (heap_at (o := (.cells #[.string (keyAt L i), .string (valAt L i)] 35)) (by simp)); have HD := Lib.hid hD; clear hD) | (have hD := (hgr wy.heap.size (by first | (simp; done) | (simp; omega)) (by simp)).trans (heap_below (o := (.cells #[.string (keyAt L i), .string (valAt L i)] 35)) (by simp)); have HD := Lib.hid hD; clear hD) | skip); have H2 := Lib.hid (And.intro hown2 hb2); clear hb2 hown2 hgr)
              | (refine step_first (by rfl) wy (sortN L i) k g _ _ (by rfl) (by rfl) (by rfl) (heap_below (by simp)) (by repeat (first | exact Below.refl _ _ | (refine Below.alloc ?_ (by first | omega | (simp; done) | (simp; omega)) _) | (refine Below.setCell ?_ (by first | omega | (simp; done) | (simp; omega)) _) | (refine Below.drew ?_) | (refine below_drewN ?_ _))) (by simp) (by rw [sortN_len]; omega) (by rw [sortN_len]; omega) HO2.out.sl ?_; intro v2 w2 hown2 hb2 hgr; have x0 := bkeep hb2 HE.out.1; have x1 := bkeep hb2 HE.out.2; (first | (have hD := (hgr (wy.heap.size + 1) (by first | (simp; done) | (simp; omega)) (by simp)).trans (heap_at (o := (.cells #[.string (keyAt L i), .string (valAt L i)] 35)) (by simp)); have HD := Lib.hid hD; clear hD) | (have hD := (hgr wy.heap.size (by first | (simp; done) | (simp; omega)) (by simp)).trans (heap_below (o := (.cells #[.string (keyAt L i), .string (valAt L i)] 35)) (by simp)); have HD := Lib.hid hD; clear hD) | skip); have H2 := Lib.hid (And.intro hown2 hb2); clear hb2 hown2 hgr)
              | (refine step_second (by rfl) wy w2 _ k _ _ (keyAt L i) (valAt L i) (by rfl) (by rfl) (by rfl) (heap_at (by simp)) H2.out.1 H2.out.2 (by repeat (first | exact Below.refl _ _ | (refine Below.alloc ?_ (by first | omega | (simp; done) | (simp; omega)) _) | (refine Below.setCell ?_ (by first | omega | (simp; done) | (simp; omega)) _) | (refine Below.drew ?_) | (refine below_drewN ?_ _))) (by omega) ?_; intro v3 w3 hown3 hb3; have H3 := Lib.hid (And.intro hown3 hb3); clear hown3 hb3)
              | (refine step_second (by rfl) wy w2 _ k _ _ (keyAt L i) (valAt L i) (by rfl) (by rfl) (by rfl) (HD.out) H2.out.1 H2.out.2 (by repeat (first | exact Below.refl _ _ | (refine Below.alloc ?_ (by first | omega | (simp; done) | (simp; omega)) _) | (refine Below.setCell ?_ (by first | omega | (simp; done) | (simp; omega)) _) | (refine Below.drew ?_) | (refine below_drewN ?_ _))) (by omega) ?_; intro v3 w3 hown3 hb3; have H3 := Lib.hid (And.intro hown3 hb3); clear hown3 hb3))
            all_goals (
              clear x0 x1 e0 e1
              have HSR := Lib.hid (fun (w' : World) (hb : Below wy.heap.size wy w') => part_src (HO2.out.sl.keep hb) k (i - k) (by rw [sortN_len]; omega))
              go_wp2_with (at_builtin; refine wpList_append_in rfl (.tmp 53) (.tmp 56) 24 rfl wy.heap.size 35 i0 _ 2 32 Tryd.underlying24 hi hz0 hz1 hz2 rfl (by decide) _ (k + 1) _ rfl (own_stay H3.out.1 (by repeat (first | exact Below.refl _ _ | (refine Below.alloc ?_ (by first | omega | (simp; done) | (simp; omega)) _) | (refine Below.setCell ?_ (by first | omega | (simp; done) | (simp; omega)) _) | (refine Below.drew ?_) | (refine below_drewN ?_ _)))) _ (i - k) _ (cellsLab (((sortN L i).drop k).take (i - k))) (by rfl) (by rw [cellsLab_len, List.length_take, List.length_drop, sortN_len]; omega) (HSR.out _ (bnext H3.out.2 (by repeat (first | exact Below.refl _ _ | (refine Below.alloc ?_ (by first | omega | (simp; done) | (simp; omega)) _) | (refine Below.setCell ?_ (by first | omega | (simp; done) | (simp; omega)) _) | (refine Below.drew ?_) | (refine below_drewN ?_ _))))) (cellsLab_one _) (by unfold maxLen; omega) (by omega) (by have := H3.out.2.size; simp; omega) ?_; intro v4 w4 hown4 hgrow4 _)
              have hins := ins_cells HP.out
              try simp only [Nat.sub_self] at hins
              rw [hins, show k + 1 + (i - k) = i + 1 by omega] at hown4
              have hb4 : Below wy.heap.size wy w4 := Below.trans (bnext H3.out.2 (by repeat (first | exact Below.refl _ _ | (refine Below.alloc ?_ (by first | omega | (simp; done) | (simp; omega)) _) | (refine Below.setCell ?_ (by first | omega | (simp; done) | (simp; omega)) _) | (refine Below.drew ?_) | (refine below_drewN ?_ _)))) (own_over (own_stay H3.out.1 (by repeat (first | exact Below.refl _ _ | (refine Below.alloc ?_ (by first | omega | (simp; done) | (simp; omega)) _) | (refine Below.setCell ?_ (by first | omega | (simp; done) | (simp; omega)) _) | (refine Below.drew ?_) | (refine below_drewN ?_ _)))) hgrow4 (by have := H3.out.2.size; simp; omega))
              obtain ⟨g4, c4, rfl, -, -⟩ := own_some hown4 (by omega)
              have HN := Lib.hid (show OutIs w1 w4 L (i + 1) g4 c4 from ⟨own_sink hown4 (bnext HO.out.2 HWY.out).size, bnext (bnext HO.out.2 HWY.out) hb4⟩)
              clear hown4 hgrow4 hb4
              go_roundw
              case rel => exact ⟨i + 1, g4, c4, by omega, rfl, by go_num, HN⟩
              case measure => simp [intOf]; omega)
        · obtain rfl : k = i := by omega
          have HP := Lib.hid (show posL (labN L k) (sortN L k) = k from posL_eq _ _ k (by rw [sortN_len]; omega) HK.out (.inl (sortN_len L k).symm))
          have k1 : decide ((k : Int) < (k : Int)) = false := decide_eq_false (by omega)
          go_wp2_with fail
          refine wp_region_soft_lit (by kernel_rfl) (by kernel_rfl) ?_
          repeat (go_big_quiet_step ((fail)))
          refine wpQuiet_nil ?_
          intro _ hw'
          obtain ⟨xq, hw''⟩ := hw'
          subst hw''
          clear k1
          have HWY := Lib.hid (bnext HWX.out xq.bel)
          generalize xq.now = wy at HWY ⊢
          have HO2 := Lib.hid (HO.out.keep HWY.out)
          have HL := Lib.hid (hc.keep (bnext HB1.out (bnext HO.out.2 HWY.out)))
          clear HK HWX
          have hcap := HO2.out.cap
          have hc1 : (k : Int) ≤ (c : Int) := by omega
          have hc2 : (k : Int) ≤ (k : Int) := by omega
          obtain ⟨b, o, e9, hcell⟩ := HL.out.at (by omega)
          cases e9
          have e0 : wy.cell? ⟨b, o + k * 2, none⟩ = some (.string (keyAt L k)) := by simpa [labF] using hcell k hlt 0 (by omega)
          have e1 : wy.cell? ⟨b, o + k * 2 + 1, none⟩ = some (.string (valAt L k)) := by simpa [labF] using hcell k hlt 1 (by omega)
          clear hcell
          have hlb := lt_of_cell e0
          have hi0 : (0 : Int) ≤ (k : Int) := by omega
          have hi1 : (k : Int) < (L.length : Int) := by omega
          have HSRC1 := Lib.hid (fun (w' : World) (hb : Below wy.heap.size wy w') => part_src (HO2.out.sl.keep hb) 0 k (by rw [sortN_len]; omega))
          go_wp2_with fail
          have HE := Lib.hid (And.intro e0 e1)
          go_region_law (first
            | (refine step_first (by rfl) wy (sortN L k) k g _ _ (by rfl) (by rfl) (by rfl) (heap_at (by simp)) (by repeat (first | exact Below.refl _ _ | (refine Below.alloc ?_ (by first | omega | (simp; done) | (simp; omega)) _) | (refine Below.setCell ?_ (by first | omega | (simp; done) | (simp; omega)) _) | (refine Below.drew ?_) | (refine below_drewN ?_ _))) (by simp) (by rw [sortN_len]; omega) (by rw [sortN_len]; omega) HO2.out.sl ?_; intro v2 w2 hown2 hb2 hgr; have x0 := bkeep hb2 HE.out.1; have x1 := bkeep hb2 HE.out.2; (first | (have hD := (hgr (wy.heap.size + 1) (by first | (simp; done) | (simp; omega)) (by simp)).trans (heap_at (o := (.cells #[.string (keyAt L k), .string (valAt L k)] 35)) (by simp)); have HD := Lib.hid hD; clear hD) | (have hD := (hgr wy.heap.size (by first | (simp; done) | (simp; omega)) (by simp)).trans (heap_below (o := (.cells #[.string (keyAt L k), .string (valAt L k)] 35)) (by simp)); have HD := Lib.hid hD; clear hD) | skip); have H2 := Lib.hid (And.intro hown2 hb2); clear hb2 hown2 hgr)
            | (refine step_first (by rfl) wy (sortN L k) k g _ _ (by rfl) (by rfl) (by rfl) (heap_below (by simp)) (by repeat (first | exact Below.refl _ _ | (refine Below.alloc ?_ (by first | omega | (simp; done) | (simp; omega)) _) | (refine Below.setCell ?_ (by first | omega | (simp; done) | (simp; omega)) _) | (refine Below.drew ?_) | (refine below_drewN ?_ _))) (by simp) (by rw [sortN_len]; omega) (by rw [sortN_len]; omega) HO2.out.sl ?_; intro v2 w2 hown2 hb2 hgr; have x0 := bkeep hb2 HE.out.1; have x1 := bkeep hb2 HE.out.2; (first | (have hD := (hgr (wy.heap.size + 1) (by first | (simp; done) | (simp; omega)) (by simp)).trans (heap_at (o := (.cells #[.string (keyAt L k), .string (valAt L k)] 35)) (by simp)); have HD := Lib.hid hD; clear hD) | (have hD := (hgr wy.heap.size (by first | (simp; done) | (simp; omega)) (by simp)).trans (heap_below (o := (.cells #[.string (keyAt L k), .string (valAt L k)] 35)) (by simp)); have HD := Lib.hid hD; clear hD) | skip); have H2 := Lib.hid (And.intro hown2 hb2); clear hb2 hown2 hgr)
            | (refine step_second (by rfl) wy w2 _ k _ _ (keyAt L k) (valAt L k) (by rfl) (by rfl) (by rfl) (heap_at (by simp)) H2.out.1 H2.out.2 (by repeat (first | exact Below.refl _ _ | (refine Below.alloc ?_ (by first | omega | (simp; done) | (simp; omega)) _) | (refine Below.setCell ?_ (by first | omega | (simp; done) | (simp; omega)) _) | (refine Below.drew ?_) | (refine below_drewN ?_ _))) (by omega) ?_; intro v3 w3 hown3 hb3; have H3 := Lib.hid (And.intro hown3 hb3); clear hown3 hb3)
            | (refine step_second (by rfl) wy w2 _ k _ _ (keyAt L k) (valAt L k) (by rfl) (by rfl) (by rfl) (HD.out) H2.out.1 H2.out.2 (by repeat (first | exact Below.refl _ _ | (refine Below.alloc ?_ (by first | omega | (simp; done) | (simp; omega)) _) | (refine Below.setCell ?_ (by first | omega | (simp; done) | (simp; omega)) _) | (refine Below.drew ?_) | (refine below_drewN ?_ _))) (by omega) ?_; intro v3 w3 hown3 hb3; have H3 := Lib.hid (And.intro hown3 hb3); clear hown3 hb3))
          all_goals (
            clear x0 x1 e0 e1
            have _hsr := Lib.hid (fun (w' : World) (hb : Below wy.heap.size wy w') => part_src (HO2.out.sl.keep hb) k 0 (by rw [sortN_len]; omega))
            go_wp2_with (at_builtin; refine wpList_append_in rfl (.tmp 53) (.tmp 56) 24 rfl wy.heap.size 35 i0 _ 2 32 Tryd.underlying24 hi hz0 hz1 hz2 rfl (by decide) _ (k + 1) _ rfl (own_stay H3.out.1 (by repeat (first | exact Below.refl _ _ | (refine Below.alloc ?_ (by first | omega | (simp; done) | (simp; omega)) _) | (refine Below.setCell ?_ (by first | omega | (simp; done) | (simp; omega)) _) | (refine Below.drew ?_) | (refine below_drewN ?_ _)))) _ 0 _ (cellsLab (((sortN L k).drop k).take 0)) (by rfl) (by rw [cellsLab_len, List.length_take, List.length_drop, sortN_len]; omega) (.inl rfl) (cellsLab_one _) (by unfold maxLen; omega) (by omega) (by have := H3.out.2.size; simp; omega) ?_; intro v4 w4 hown4 hgrow4 _)
            have hins := ins_cells HP.out
            try simp only [Nat.sub_self] at hins
            rw [hins, show k + 1 + 0 = k + 1 by omega] at hown4
            have hb4 : Below wy.heap.size wy w4 := Below.trans (bnext H3.out.2 (by repeat (first | exact Below.refl _ _ | (refine Below.alloc ?_ (by first | omega | (simp; done) | (simp; omega)) _) | (refine Below.setCell ?_ (by first | omega | (simp; done) | (simp; omega)) _) | (refine Below.drew ?_) | (refine below_drewN ?_ _)))) (own_over (own_stay H3.out.1 (by repeat (first | exact Below.refl _ _ | (refine Below.alloc ?_ (by first | omega | (simp; done) | (simp; omega)) _) | (refine Below.setCell ?_ (by first | omega | (simp; done) | (simp; omega)) _) | (refine Below.drew ?_) | (refine below_drewN ?_ _)))) hgrow4 (by have := H3.out.2.size; simp; omega))
            obtain ⟨g4, c4, rfl, -, -⟩ := own_some hown4 (by omega)
            have HN := Lib.hid (show OutIs w1 w4 L (k + 1) g4 c4 from ⟨own_sink hown4 (bnext HO.out.2 HWY.out).size, bnext (bnext HO.out.2 HWY.out) hb4⟩)
            clear hown4 hgrow4 hb4
            go_roundw
            case rel => exact ⟨k + 1, g4, c4, by omega, rfl, by go_num, HN⟩
            case measure => simp [intOf]; omega)
    · obtain rfl : i = L.length := by omega
      have HOK := Lib.hid (show Calls Tryd.prog 21 #[.slice (some ⟨g, 0, none⟩) L.length c] wr fun e w' => e = .returned (.bool (labsOkB (sortN L L.length))) ∧ Below wr.heap.size wr w' from by
        have h := sLabelsOk (sortN L L.length) (some ⟨g, 0, none⟩) c wr (by rw [sortN_len]; omega) HO.out.sl (HSZ.out _ (fun x hx => sortN_mem L.length (Nat.le_refl _) hx))
        rw [sortN_len] at h
        exact h)
      cases hok : labsOkB (sortN L L.length)
      · rw [hok] at HOK
        have HR := Lib.hid (show sortOk L = false from by rw [sortOk, hok, Bool.and_false])
        clear hok
        go_wp2_with fail
        refine HOK.out.mono ?_
        rintro e w5 ⟨rfl, hb5⟩
        have H5 := Lib.hid (bnext HO.out.2 hb5); clear hb5 HOK
        go_wp2
        go_ret2
        have hr := sortR_no HR.out
        unfold SortO
        rw [hr, HR.out]
        exact ⟨⟨_, rfl, own_stay HS1.out H5.out⟩, bnext HB1.out H5.out⟩
      · rw [hok] at HOK
        have HR := Lib.hid (show sortOk L = true from by rw [sortOk, hok, decide_eq_true h6]; rfl)
        clear hok
        go_wp2_with fail
        refine HOK.out.mono ?_
        rintro e w5 ⟨rfl, hb5⟩
        have H5 := Lib.hid (HO.out.keep hb5); clear hb5 HOK
        go_wp2
        go_ret2
        have hr := sortR_yes HR.out
        have hl : (sortN L L.length).length = L.length := sortN_len _ _
        unfold SortO
        rw [hr, HR.out, hl]
        exact ⟨⟨_, rfl, own_sink H5.out.1 HB1.out.size⟩, bnext HB1.out H5.out.2⟩

theorem sSortLabels (L : List Lb) (a : Option Addr) (cap : Nat) (w : World) (hn : L.length ≤ 1048576) (hc : SlAt w a L.length 2 (labF L)) (hsz : ∀ i, i < L.length → (keyAt L i).size ≤ 1048576 ∧ (valAt L i).size ≤ 1048576) :
    Calls Tryd.prog 7 #[.slice a L.length cap] w (SortV L w) := (sSortLabelsO L a cap w hn hc hsz).mono fun _ _ h => h.flat

end Go.Proofs.YtomhbbchflblpaaDoor
