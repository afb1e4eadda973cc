/- spec.LinesIn: the contract. -/
import Derived.Test.YtpcojfcbomkgpaaDoorLnsV
namespace Go.Proofs.YtpcojfcbomkgpaaDoor
open Go.RowKit

set_option maxRecDepth 100000 in
set_option maxHeartbeats 4000000 in
theorem sLinesIn (s : ByteArray) (w : World) (hs : s.size ≤ 1048576) : Calls Tryd.prog 22 #[.string s] w (LnsV s w) := by
  have HZ := Lib.hid (ZF.new w)
  by_cases hl : 20000 < s.size
  · have H := Lib.hid (lns_fault (ft_long hl))
    have hd : decide ((20000 : Int) < (s.size : Int)) = true := decide_eq_true (by omega)
    have hd2 : decide (20000 < s.size) = true := decide_eq_true hl
    have HZ := Lib.hid (HZ.out.keep (allocBel _ (.cells #[] 74)))
    clear hl
    go_enter Tryd.func22, Tryd.ntmps22
    obtain ⟨r0, r1, r2⟩ := HZ.out.cells
    obtain ⟨g0, g1, g2⟩ := HZ.out.frozen
    go_wp2
    refine bodyPost_ret (v := .tuple #[.slice (some ⟨w.heap.size + 1, 0, none⟩) 0 0, .agg #[.int .i64 1, .int .i64 0, .string ⟨#[]⟩]]) (by first | (simp [results, Tryd.results22, go_sem]; done) | simp [results, Tryd.results22, go_sem, r0, r1, r2]) rfl ?_
    exact lns_no _ _ H.out (by repeat (first | exact (by first | exact HZ.out.2 | exact Below.refl _ _) | (refine Below.alloc ?_ (by first | omega | (simp; done) | (simp; omega)) _) | (refine Below.setCell ?_ (by first | omega | (simp; done) | (simp; omega)) _) | (refine Below.drew ?_) | (refine below_drewN ?_ _)))
  have hd : decide ((20000 : Int) < (s.size : Int)) = false := decide_eq_false (by omega)
  have hd2 : decide (20000 < s.size) = false := decide_eq_false hl
  have HZ := Lib.hid (HZ.out.keep (allocBel _ (.cells #[] 74)))
  have HC := Lib.hid (fun w0 => sRunes s w0 hs)
  cases hb : badA s with
  | some k =>
    have H := Lib.hid (lns_fault (ft_bad hl hb))
    rw [hb] at HC
    have hc : decide ((0 : Int) ≤ badZ (some k)) = true := decide_eq_true (by show (0 : Int) ≤ (k : Int); omega)
    clear hl hb
    go_enter Tryd.func22, Tryd.ntmps22
    go_wp2_with fail
    refine (HC.out _).mono ?_; rintro e w1 ⟨rfl, hb1⟩
    have HZ := Lib.hid (HZ.out.keep hb1)
    obtain ⟨r0, r1, r2⟩ := HZ.out.cells
    obtain ⟨g0, g1, g2⟩ := HZ.out.frozen
    go_wp2
    refine bodyPost_ret (v := .tuple #[.slice (some ⟨w.heap.size + 1, 0, none⟩) 0 0, .agg #[.int .i64 2, .int .i64 (k : Int), .string ⟨#[]⟩]]) (by first | (simp [results, Tryd.results22, go_sem, badZ]; done) | simp [results, Tryd.results22, go_sem, badZ, r0, r1, r2]) rfl ?_
    exact lns_no _ _ H.out (by repeat (first | exact (by first | exact HZ.out.2 | exact Below.refl _ _) | (refine Below.alloc ?_ (by first | omega | (simp; done) | (simp; omega)) _) | (refine Below.setCell ?_ (by first | omega | (simp; done) | (simp; omega)) _) | (refine Below.drew ?_) | (refine below_drewN ?_ _)))
  | none =>
    have hft := ft_none hl hb
    rw [hb] at HC
    have hc : decide ((0 : Int) ≤ badZ none) = false := decide_eq_false (by show ¬ (0 : Int) ≤ -1; omega)
    have hpl := parts_len 10 s
    have HFB := Lib.hid (fun k h => lns_bad (k := k) hft h)
    have HFG := Lib.hid (fun L h => lns_good (L := L) hft h)
    have HLS := Lib.hid (lgAt_start s)
    have HPZ := Lib.hid (fun k h => partAt (c := 10) (s := s) (k := k) h)
    have HCUT := Lib.hid (fun w0 => sCut10 s w0 hs)
    unfold CutRow at HCUT
    generalize linesR s = R at HLS HFB HFG
    generalize partsL 10 s = P at HCUT HPZ HLS hpl
    clear hl hb hft
    go_enter Tryd.func22, Tryd.ntmps22
    go_wp2_with fail
    refine (HC.out _).mono ?_; rintro e w1 ⟨rfl, hb1⟩
    have HZ1 := Lib.hid (HZ.out.keep hb1)
    have HR0 := Lib.hid (RowB.start 74 3 w1 #[] rfl)
    clear hb1 HZ
    go_wp2_with fail
    refine (HCUT.out _).mono ?_; rintro e w3 ⟨v3, rfl, hr3⟩
    obtain ⟨a, cap, fp, rfl, hG⟩ := strsOf hr3
    have HRS := Lib.hid (rowSof HR0.out hr3.bel)
    have HG := Lib.hid hG
    have hlw := HZ1.out.lt
    clear hr3 hG HR0
    go_wp2_with fail
    go_loopw [6, 8] (fun v i wr => ∃ (k : Nat) (acc : List Ln), k ≤ P.length ∧ acc.length ≤ k ∧ i = .int .i64 k ∧ Hid (RowS 74 3 (w1.alloc (.cells #[] 74)).heap.size w3.heap.size w1 wr v acc.length (cellsLine acc)) ∧ Hid (GFlat wr (w1.alloc (.cells #[] 74)).heap.size w3.heap.size (.slice a P.length cap) P.length 1 (strF P) fp) ∧ Hid (LgAt P R k acc)) (fun _ i _ => P.length - (intOf i).toNat)
    case atStart => exact ⟨0, [], by omega, by simp, rfl, HRS, HG, HLS⟩
    case round =>
      obtain ⟨k, acc, hk, hak, rfl, HRS, HG, HLG⟩ := hrel
      obtain ⟨wo, hwo⟩ : ∃ wo : World, wo = wr := ⟨_, rfl⟩
      subst hwo
      by_cases hlt : k < P.length
      rotate_left
      · have H := Lib.hid (HFG.out acc (lgAt_end HLG.out (by omega)))
        have HZ := Lib.hid (HZ1.out.keep HRS.out.row.bel)
        obtain ⟨r0, r1, r2⟩ := HZ.out.cells
        obtain ⟨g0, g1, g2⟩ := HZ.out.frozen
        go_wp2
        refine bodyPost_ret (v := .tuple #[u6, .agg #[.int .i64 0, .int .i64 0, .string ⟨#[]⟩]]) (by first | (simp [results, Tryd.results22, go_sem]; done) | simp [results, Tryd.results22, go_sem, r0, r1, r2]) rfl ?_
        exact lns_yes H.out (RowB.past (b := w.heap.size) HRS.out.row HZ1.out.2 (Nat.le_refl _) hlw (by repeat (first | exact Apart.refl _ _ | refine Apart.setCell ?_ (by simp) _)))
      obtain ⟨b, off, rfl, hcell⟩ := HG.out.own.sl.at (by omega)
      have c0 : wo.cell? ⟨b, off + k, none⟩ = some (.string (strAt P k)) := by simpa [strF] using hcell k hlt 0 (by omega)
      have hps := HPZ.out k hlt
      have HBA := Lib.hid (fun hc => HFB.out (k + 1) (lgAt_bad HLG.out hlt hc))
      have HEM := Lib.hid (fun hc he => lgAt_empty HLG.out hlt hc he)
      have HSP := Lib.hid (fun hc he => lgAt_step HLG.out hlt hc he)
      have HBR := Lib.hid (fun w0 => sBareLine (strAt P k) w0 (by omega))
      have hBz : (bareB (strAt P k)).size ≤ (strAt P k).size := bareB_le _
      have HLC := Lib.hid (fun B hB => ln_cells acc (strAt P k) B hB k)
      clear hcell HLG
      generalize strAt P k = p at c0 hps HBA HEM HSP HBR hBz HLC
      go_wp2_with fail
      go_loopw [9] (fun i wv => ∃ j : Nat, i = .int .i64 j ∧ j ≤ p.size ∧ wv = wo ∧ Hid (∀ m (hm : m < p.size), m < j → ¬ p[m].toNat < 32)) (fun i _ => p.size - (intOf i).toNat)
      case atStart => exact ⟨0, rfl, by omega, rfl, Lib.hid (fun m hm h => by omega)⟩
      case round =>
        obtain ⟨j, rfl, hj, rfl, HJ⟩ := hrel
        by_cases hjl : j < p.size
        · by_cases hb : p[j].toNat < 32
          · have hd : decide ((p[j].toNat : Int) < 32) = true := decide_eq_true (by omega)
            have H := Lib.hid (HBA.out (ctl_at hjl hb))
            have HZ := Lib.hid (HZ1.out.keep HRS.out.row.bel)
            obtain ⟨r0, r1, r2⟩ := HZ.out.cells
            obtain ⟨g0, g1, g2⟩ := HZ.out.frozen
            go_wp2
            refine bodyPost_ret (v := .tuple #[.slice (some ⟨w.heap.size + 1, 0, none⟩) 0 0, .agg #[.int .i64 3, .int .i64 ((k : Int) + 1), .string ⟨#[]⟩]]) (by first | (simp [results, Tryd.results22, go_sem]; done) | simp [results, Tryd.results22, go_sem, r0, r1, r2]) rfl ?_
            exact lns_no _ _ H.out (by repeat (first | exact (by first | exact HZ.out.2 | exact Below.refl _ _) | (refine Below.alloc ?_ (by first | omega | (simp; done) | (simp; omega)) _) | (refine Below.setCell ?_ (by first | omega | (simp; done) | (simp; omega)) _) | (refine Below.drew ?_) | (refine below_drewN ?_ _)))
          · have hd : decide ((p[j].toNat : Int) < 32) = false := decide_eq_false (by omega)
            go_wp2_with fail
            go_roundw
            case rel => exact ⟨j + 1, by go_num, by omega, by first | rfl | trivial, Lib.hid (fun m hm h => by rcases Nat.lt_or_ge m j with g | g; (· exact HJ.out m hm g); (obtain rfl : m = j := by omega); exact hb)⟩
            case measure => simp [intOf]; omega
        · have hct := ctl_no (p := p) (fun m hm => HJ.out m hm (by omega))
          have HEM := Lib.hid (HEM.out hct); have HSP := Lib.hid (HSP.out hct)
          clear HBA HJ hct
          obtain ⟨B, hB⟩ : ∃ B, bareB p = B := ⟨_, rfl⟩
          have HLC := Lib.hid (HLC.out B hB)
          rw [hB] at HBR HEM HSP hBz
          have HB := Lib.hid hB; clear hB
          cases he : B.toList.isEmpty
          · have hSP := HSP.out he
            have hil : ind B.data.toList ≤ B.size := by have := ind_le B.data.toList; simpa using this
            have HIN := Lib.hid (fun w0 => sIndentOf B w0 (by omega))
            have hnn : (B.toList == ([] : List UInt8)) = false := by rw [beq_eq_false_iff_ne]; intro h; rw [h] at he; simp at he
            generalize ind B.data.toList = n at HIN HLC hil
            go_wp2_with (first | (go_at_call 84; refine (HBR.out _).mono ?_; rintro e w4 ⟨rfl, rfl⟩) | (go_at_call 85; refine (HIN.out _).mono ?_; rintro e w5 ⟨rfl, rfl⟩) | (at_builtin; refine wpList_rowS Tryd.elLine (by rfl) _ _ (by rfl) _ _ _ [.int .i64 n, .string (B.extract n B.size), .int .i64 ((k : Int) + 1)] w1 _ (by rfl) HRS.out _ 1 1 (by rfl) rfl (by simp [Value.oneCell']) (by rfl) (by omega) ?_; intro v' w' hrow' hg'; have HG' := Lib.hid (GFlat.grown (HRS.out.alloc _) hg' (HG.out.keep (allocBel _ _)))))
            go_roundw
            case rel => exact ⟨k + 1, acc ++ [lnOf p k], by omega, by simp; omega, by go_num, Lib.hid (by rw [HLC.out, List.length_append]; exact hrow'), HG', Lib.hid hSP⟩
            case measure => simp [intOf]; omega
          · obtain rfl := empty_is he
            have hEM := HEM.out he
            go_wp2_with (go_at_call 84; refine (HBR.out _).mono ?_; rintro e w4 ⟨rfl, rfl⟩)
            go_roundw
            case rel => exact ⟨k + 1, acc, by omega, by omega, by go_num, HRS, HG, Lib.hid hEM⟩
            case measure => simp [intOf]; omega

end Go.Proofs.YtpcojfcbomkgpaaDoor
