/- impl.LinesIn: the contract. -/
import Derived.Test.YtpcojfcbomkgpaaDoorLnsS
namespace Go.Proofs.YtpcojfcbomkgpaaDoor
open Go.RowKit

def low (n : Nat) : Bool := decide (n < 32)
theorem dec_far (s : ByteArray) (k : Nat) (h : 128 ≤ bt s k) : 128 ≤ (Utf8.decode s k).1 ∧ ∀ i, i < (Utf8.decode s k).2 → 128 ≤ bt s (k + i) := by
  have one : ∀ i, i < 1 → 128 ≤ bt s (k + i) := fun i hi => by (obtain rfl : i = 0 := (by omega)); exact h
  rw [decode_eq, if_neg (by omega)]
  split
  · rename_i h0
    simp only [Bool.and_eq_true, beq_iff_eq, decide_eq_true_eq] at h0
    split
    · refine ⟨by show 128 ≤ _; omega, fun i hi => ?_⟩
      have hi : i < 2 := hi
      rcases (show i = 0 ∨ i = 1 by omega) with rfl | rfl
      · exact h
      · omega
    · exact ⟨by show 128 ≤ 65533; omega, one⟩
  split
  · rename_i h0
    simp only [Bool.and_eq_true, beq_iff_eq, decide_eq_true_eq] at h0
    split
    · rename_i h1
      simp only [Bool.and_eq_true, decide_eq_true_eq] at h1
      refine ⟨by show 128 ≤ _; omega, fun i hi => ?_⟩
      have hi : i < 3 := hi
      rcases (show i = 0 ∨ i = 1 ∨ i = 2 by omega) with rfl | rfl | rfl
      · exact h
      · omega
      · omega
    · exact ⟨by show 128 ≤ 65533; omega, one⟩
  split
  · rename_i h0
    simp only [Bool.and_eq_true, beq_iff_eq, decide_eq_true_eq] at h0
    split
    · rename_i h1
      simp only [Bool.and_eq_true, decide_eq_true_eq] at h1
      refine ⟨by show 128 ≤ _; omega, fun i hi => ?_⟩
      have hi : i < 4 := hi
      rcases (show i = 0 ∨ i = 1 ∨ i = 2 ∨ i = 3 by omega) with rfl | rfl | rfl | rfl
      · exact h
      · omega
      · omega
      · omega
    · exact ⟨by show 128 ≤ 65533; omega, one⟩
  · exact ⟨by show 128 ≤ 65533; omega, one⟩
theorem dec_near (s : ByteArray) (k : Nat) (h : bt s k < 128) : Utf8.decode s k = (bt s k, 1) := by rw [decode_eq, if_pos h]
theorem idx_low (p : ByteArray) : ∀ f pos, p.size ≤ pos + f → (0 ≤ Lib.idxFuncFrom low true p f pos ↔ ∃ k, pos ≤ k ∧ k < p.size ∧ bt p k < 32)
  | 0, pos, hf => by
    unfold Lib.idxFuncFrom
    constructor
    · intro h; omega
    · rintro ⟨k, h1, h2, h3⟩; omega
  | f + 1, pos, hf => by
    unfold Lib.idxFuncFrom
    by_cases hp : pos < p.size
    rotate_left
    · rw [if_neg hp]
      constructor
      · intro h; omega
      · rintro ⟨k, h1, h2, h3⟩; omega
    rw [if_pos hp]
    by_cases hb : bt p pos < 128
    · rw [dec_near p pos hb]
      by_cases h32 : bt p pos < 32
      · rw [if_pos (by simpa [low] using h32)]
        exact ⟨fun _ => ⟨pos, Nat.le_refl _, hp, h32⟩, fun _ => by omega⟩
      · rw [if_neg (by simpa [low] using h32), idx_low p f (pos + 1) (by omega)]
        constructor
        · rintro ⟨k, h1, h2, h3⟩; exact ⟨k, by omega, h2, h3⟩
        · rintro ⟨k, h1, h2, h3⟩
          refine ⟨k, ?_, h2, h3⟩
          rcases Nat.lt_or_ge pos k with g | g
          · exact g
          · obtain rfl : k = pos := by omega
            exact absurd h3 h32
    · have hd := dec_far p pos (by omega)
      have hw := Lib.decode_width_pos p pos hp
      rw [if_neg (by simp [low]; omega), idx_low p f (pos + (Utf8.decode p pos).2) (by omega)]
      constructor
      · rintro ⟨k, h1, h2, h3⟩; exact ⟨k, by omega, h2, h3⟩
      · rintro ⟨k, h1, h2, h3⟩
        refine ⟨k, ?_, h2, h3⟩
        rcases Nat.lt_or_ge k (pos + (Utf8.decode p pos).2) with g | g
        · have := hd.2 (k - pos) (by omega)
          rw [show pos + (k - pos) = k by omega] at this
          omega
        · exact g
theorem idx_ctl (p : ByteArray) : decide ((0 : Int) ≤ Lib.idxFunc low true p) = ctlB p := by
  have h := idx_low p p.size 0 (by omega)
  unfold Lib.idxFunc
  cases hc : ctlB p
  · refine decide_eq_false fun hh => ?_
    obtain ⟨k, -, h2, h3⟩ := h.1 hh
    rw [bt_eq p k h2] at h3
    rw [ctl_at h2 h3] at hc; cases hc
  · refine decide_eq_true (h.2 ?_)
    rcases Classical.em (∃ k, 0 ≤ k ∧ k < p.size ∧ bt p k < 32) with g | g
    · exact g
    · exact absurd hc (by rw [ctl_no (fun k hk hh => g ⟨k, Nat.zero_le _, hk, by rw [bt_eq p k hk]; exact hh⟩)]; decide)

def MaxOk (w : World) : Prop := ∃ m, w.cell? ⟨0, 0, none⟩ = some (.int .i64 m)
theorem MaxOk.keep {w w' : World} (h : MaxOk w) (hb : Below w.heap.size w w') : MaxOk w' := by
  obtain ⟨m, hm⟩ := h
  exact ⟨m, bkeep hb hm⟩
theorem iSplit (s : ByteArray) (c : UInt8) (w : World) (hs : s.size ≤ 1048576) (hM : MaxOk w) : Calls Tryd.prog 86 #[.string s, .string ⟨#[c]⟩] w (CutRow c s w) := by
  obtain ⟨m, hm⟩ := hM
  refine (Tryd.strings_Split s ⟨#[c]⟩ m w (by omega) hm (by show 1 ≤ 1; omega)).mono ?_
  rintro e w' ⟨rfl, rfl⟩
  have hl : Lib.countB s ⟨#[c]⟩ + 1 = (partsL c s).length := by
    rw [← Lib.splitB_all ⟨#[c]⟩ (by show 1 ≤ 1; omega) 0 _ s rfl, split_parts]
  rw [hl, split_parts]
  refine ⟨_, rfl, ?_, allocBel _ _⟩
  have hp := parts_len c s
  have := World.ownsRow_lit (base := w.heap.size) (e := 9) (size := 1) w ((partsL c s).map Value.string).toArray (partsL c s).length (Nat.le_refl _) (by unfold maxLen; omega) (by simp)
  simpa using this

theorem iLow (x : Nat) (w : World) : Calls Tryd.prog 88 #[.int .i32 (x : Int)] w fun e w' => e = .returned (.bool (low x)) ∧ ∃ q, w' = w.drewN q := by
  rcases Nat.lt_or_ge x 32 with h | h
  · have hd : decide ((x : Int) < 32) = true := decide_eq_true (by omega)
    have H := Lib.hid (show low x = true from decide_eq_true h)
    clear h
    go_enter Tryd.func88, Tryd.ntmps88
    go_wp2
    go_ret
    exact ⟨ret_bool H.out.symm, 0, rfl⟩
  · have hd : decide ((x : Int) < 32) = false := decide_eq_false (by omega)
    have H := Lib.hid (show low x = false from decide_eq_false (by omega))
    clear h
    go_enter Tryd.func88, Tryd.ntmps88
    go_wp2
    go_ret
    exact ⟨ret_bool H.out.symm, 0, rfl⟩
theorem iIndexLow (p : ByteArray) (w : World) : Calls Tryd.prog 87 #[.string p, .func (.func 88) #[] #[]] w fun e w' => e = .returned (.int .i64 (Lib.idxFunc low true p)) ∧ Below w.heap.size w w' :=
  Tryd.strings_IndexFunc_runes 88 #[] (enters_of Tryd.func88 (by kernel_rfl) rfl) low p w (fun W x _ _ => iLow x W)

set_option maxRecDepth 100000 in
set_option maxHeartbeats 4000000 in
theorem iLinesIn (s : ByteArray) (w : World) (hs : s.size ≤ 1048576) (hT : Tabs w) (hM : MaxOk w) : Calls Tryd.prog 23 #[.string s] w (LnsV s w) := by
  have HZ := Lib.hid (ZF.new w)
  have HTM := Lib.hid (And.intro hT hM); clear hT hM
  have HC := Lib.hid (fun w0 (hb : Below w.heap.size w w0) => iFault s w0 hs (tabs_keep HTM.out.1 hb))
  rcases ft_code (s := s) with ⟨h0, hft⟩ | ⟨h1, h2, x, hft⟩
  rotate_left
  · obtain ⟨c, p⟩ := x
    have H := Lib.hid (lns_fault hft)
    rw [hft] at HC h1 h2
    have h1 : (0 : Int) < c := h1
    have hc : (c == 0) = false := by rw [beq_eq_false_iff_ne]; omega
    have hc2 : (c != 0) = true := by rw [bne, hc]; rfl
    have HC2 : Hid (∀ w0, Below w.heap.size w w0 → Calls Tryd.prog 81 #[.string s] w0 fun e w' => e = .returned (.agg #[.int .i64 c, .int .i64 p, .string ⟨#[]⟩]) ∧ Below w0.heap.size w0 w') := Lib.hid (fun w0 hb => HC.out w0 hb)
    clear HC h1 h2 hft
    go_enter Tryd.func23, Tryd.ntmps23
    go_wp2_with fail
    refine (HC2.out _ HZ.out.2).mono ?_; rintro e w1 ⟨rfl, hb1⟩
    have HZ1 := Lib.hid (HZ.out.keep hb1)
    have HZ2 := Lib.hid (HZ1.out.keep (allocBel w1 (.cells #[.int .i64 c, .int .i64 p, .string ⟨#[]⟩] 30)))
    obtain ⟨r0, r1, r2⟩ := HZ2.out.cells
    obtain ⟨g0, g1, g2⟩ := HZ2.out.frozen
    go_wp2_with fail
    go_region
    all_goals
      go_wp2
      refine bodyPost_ret (v := .tuple #[.slice none 0 0, .agg #[.int .i64 c, .int .i64 p, .string ⟨#[]⟩]]) (by first | (simp [results, Tryd.results23, go_sem]; done) | simp [results, Tryd.results23, go_sem, r0, r1, r2]) rfl ?_
      exact lns_no _ _ H.out (by repeat (first | exact (by first | exact HZ2.out.2 | exact Below.refl _ _) | (refine Below.alloc ?_ (by first | omega | (simp; done) | (simp; omega)) _) | (refine Below.setCell ?_ (by first | omega | (simp; done) | (simp; omega)) _) | (refine Below.drew ?_) | (refine below_drewN ?_ _)))
  · have hpl := parts_len 10 s
    have HFB := Lib.hid (fun k h => lns_bad (k := k) hft h)
    have HFG := Lib.hid (fun L h => lns_good (L := L) hft h)
    have HLS := Lib.hid (lgAt_start s)
    have HPZ := Lib.hid (fun k h => partAt (c := 10) (s := s) (k := k) h)
    have HCUT := Lib.hid (fun w0 (hb : Below w.heap.size w w0) => iSplit s 10 w0 hs (HTM.out.2.keep hb))
    unfold CutRow at HCUT
    rw [hft] at HC
    have HC2 : Hid (∀ w0, Below w.heap.size w w0 → Calls Tryd.prog 81 #[.string s] w0 fun e w' => e = .returned (.agg #[.int .i64 0, .int .i64 0, .string ⟨#[]⟩]) ∧ Below w0.heap.size w0 w') := Lib.hid (fun w0 hb => HC.out w0 hb)
    generalize linesR s = R at HLS HFB HFG
    generalize partsL 10 s = P at HCUT HPZ HLS hpl
    clear HC h0 hft HTM
    go_enter Tryd.func23, Tryd.ntmps23
    go_wp2_with fail
    refine (HC2.out _ HZ.out.2).mono ?_; rintro e w1 ⟨rfl, hb1⟩
    have HZ0 := Lib.hid (HZ.out.keep hb1)
    obtain ⟨wf, hwf⟩ : ∃ wf, wf = w1.alloc (.cells #[.int .i64 0, .int .i64 0, .string ⟨#[]⟩] 30) := ⟨_, rfl⟩
    have HSZ := Lib.hid (show w1.heap.size + 1 = wf.heap.size by rw [hwf]; exact (World.size_alloc ..).symm)
    have HZ1 := Lib.hid (show ZF w wf by rw [hwf]; exact HZ0.out.keep (allocBel _ _))
    have HR0 := Lib.hid (RowB.start 74 3 wf #[] rfl)
    have HBW := Lib.hid (bnext HZ1.out.2 (allocBel wf (.cells #[] 74)))
    clear hb1 HZ HZ0
    subst hwf
    go_wp2_with fail
    refine (HCUT.out _ HBW.out).mono ?_; rintro e w3 ⟨v3, rfl, hr3⟩
    generalize w1.alloc (.cells #[.int .i64 0, .int .i64 0, .string ⟨#[]⟩] 30) = wf at HZ1 HR0 hr3 HBW HSZ ⊢
    obtain ⟨a, cap, fp, rfl, hG⟩ := strsOf hr3
    have HRS := Lib.hid (rowSof HR0.out hr3.bel)
    have HG := Lib.hid hG
    have hlw := HZ1.out.lt
    clear hr3 hG HR0 HBW
    go_wp2_with fail
    go_loopw [5, 20] (fun v i wr => ∃ (k : Nat) (acc : List Ln), k ≤ P.length ∧ acc.length ≤ k ∧ i = .int .i64 k ∧ Hid (RowS 74 3 (wf.alloc (.cells #[] 74)).heap.size w3.heap.size wf wr v acc.length (cellsLine acc)) ∧ Hid (GFlat wr (wf.alloc (.cells #[] 74)).heap.size w3.heap.size (.slice a P.length cap) P.length 1 (strF P) fp) ∧ Hid (LgAt P R k acc)) (fun _ i _ => P.length - (intOf i).toNat)
    case atStart => exact ⟨0, [], by omega, by simp, rfl, by rw [HSZ.out]; exact HRS, HG, HLS⟩
    case round =>
      obtain ⟨k, acc, hk, hak, rfl, HRS, HG, HLG⟩ := hrel
      by_cases hlt : k < P.length
      rotate_left
      · have H := Lib.hid (HFG.out acc (lgAt_end HLG.out (by omega)))
        have HZ := Lib.hid (HZ1.out.keep HRS.out.row.bel)
        obtain ⟨r0, r1, r2⟩ := HZ.out.cells
        obtain ⟨g0, g1, g2⟩ := HZ.out.frozen
        go_wp2
        refine bodyPost_ret (v := .tuple #[u5, .agg #[.int .i64 0, .int .i64 0, .string ⟨#[]⟩]]) (by first | (simp [results, Tryd.results23, go_sem]; done) | simp [results, Tryd.results23, go_sem, r0, r1, r2]) rfl ?_
        exact lns_yes H.out (RowB.past (b := w.heap.size) HRS.out.row HZ1.out.2 (Nat.le_refl _) hlw (by repeat (first | exact Apart.refl _ _ | refine Apart.setCell ?_ (by simp) _)))
      obtain ⟨b, off, rfl, hcell⟩ := HG.out.own.sl.at (by omega)
      have c0 : wr.cell? ⟨b, off + k, none⟩ = some (.string (strAt P k)) := by simpa [strF] using hcell k hlt 0 (by omega)
      have hps := HPZ.out k hlt
      have HBA := Lib.hid (fun hc => HFB.out (k + 1) (lgAt_bad HLG.out hlt hc))
      have HEM := Lib.hid (fun hc he => lgAt_empty HLG.out hlt hc he)
      have HSP := Lib.hid (fun hc he => lgAt_step HLG.out hlt hc he)
      have HBR := Lib.hid (fun w0 => iBareLine (strAt P k) w0 (by omega))
      have HIX := Lib.hid (fun w0 => iIndexLow (strAt P k) w0)
      have hdx := idx_ctl (strAt P k)
      have hBz : (bareB (strAt P k)).size ≤ (strAt P k).size := bareB_le _
      have HLC := Lib.hid (fun B hB => ln_cells acc (strAt P k) B hB k)
      clear hcell HLG
      generalize strAt P k = p at c0 hps HBA HEM HSP HBR hBz HLC HIX hdx
      generalize Lib.idxFunc low true p = ix at HIX hdx
      cases hct : ctlB p
      rotate_left
      · rw [hct] at hdx
        have H := Lib.hid (HBA.out hct)
        clear hct
        go_wp2_with fail
        refine (HIX.out _).mono ?_; rintro e w4 ⟨rfl, hb4⟩
        have HZ := Lib.hid ((HZ1.out.keep HRS.out.row.bel).keep hb4)
        obtain ⟨r0, r1, r2⟩ := HZ.out.cells
        obtain ⟨g0, g1, g2⟩ := HZ.out.frozen
        go_wp2
        refine bodyPost_ret (v := .tuple #[.slice none 0 0, .agg #[.int .i64 3, .int .i64 ((k : Int) + 1), .string ⟨#[]⟩]]) (by first | (simp [results, Tryd.results23, go_sem]; done) | simp [results, Tryd.results23, go_sem, r0, r1, r2]) rfl ?_
        exact lns_no _ _ H.out (by repeat (first | exact (by first | exact HZ.out.2 | exact Below.refl _ _) | (refine Below.alloc ?_ (by first | omega | (simp; done) | (simp; omega)) _) | (refine Below.setCell ?_ (by first | omega | (simp; done) | (simp; omega)) _) | (refine Below.drew ?_) | (refine below_drewN ?_ _)))
      rw [hct] at hdx
      have HEM := Lib.hid (HEM.out hct); have HSP := Lib.hid (HSP.out hct)
      clear HBA hct
      obtain ⟨B, hB⟩ : ∃ B, bareB p = B := ⟨_, rfl⟩
      have HLC := Lib.hid (HLC.out B hB)
      rw [hB] at HBR HEM HSP hBz
      clear hB
      go_wp2_with fail
      refine (HIX.out _).mono ?_; rintro e w4 ⟨rfl, hb4⟩
      have HRS := Lib.hid (HRS.out.keep hb4); have HG := Lib.hid (HG.out.keep hb4)
      clear c0 hb4
      cases he : B.toList.isEmpty
      · have hSP := HSP.out he
        have hil : ind B.data.toList ≤ B.size := by have := ind_le B.data.toList; simpa using this
        have HIN := Lib.hid (fun w0 => iIndentOf B w0 (by omega))
        generalize ind B.data.toList = n at HIN HLC hil
        go_wp2_with (first | (go_at_call 60; refine (HBR.out _).mono ?_; rintro e w5 ⟨rfl, rfl⟩) | (go_at_call 59; refine (HIN.out _).mono ?_; rintro e w6 ⟨rfl, rfl⟩) | (at_builtin; refine wpList_rowS Tryd.elLine (by rfl) _ _ (by rfl) _ _ _ [.int .i64 n, .string (B.extract n B.size), .int .i64 ((k : Int) + 1)] wf _ (by rfl) HRS.out _ 1 1 (by rfl) rfl (by simp [Value.oneCell']) (by rfl) (by omega) ?_; intro v' w' hrow' hg'; have HG' := Lib.hid (GFlat.grown (HRS.out.alloc _) hg' (HG.out.keep (allocBel _ _)))))
        go_roundw
        case rel => exact ⟨k + 1, acc ++ [lnOf p k], by omega, by simp; omega, by go_num, Lib.hid (by rw [HLC.out, List.length_append]; exact hrow'), HG', Lib.hid hSP⟩
        case measure => simp [intOf]; omega
      · obtain rfl := empty_is he
        have hEM := HEM.out he
        go_wp2_with (go_at_call 60; refine (HBR.out _).mono ?_; rintro e w5 ⟨rfl, rfl⟩)
        go_roundw
        case rel => exact ⟨k + 1, acc, by omega, by omega, by go_num, HRS, HG, Lib.hid hEM⟩
        case measure => simp [intOf]; omega

end Go.Proofs.YtpcojfcbomkgpaaDoor
