/- spec.ReadLabelsLine: the contract. -/
import Derived.Test.YtjkfjdapkkhkfaaDoorCutS
import Derived.Test.YtjkfjdapkkhkfaaDoorSpot
namespace Go.Proofs.YtjkfjdapkkhkfaaDoor
open Go.RowKit

theorem rowAlloc (w : World) (o : Obj) : Below w.heap.size w (w.alloc o) := (Below.refl _ _).alloc (Nat.le_refl _) _
theorem rowAllocLt (w : World) (o : Obj) : w.heap.size < (w.alloc o).heap.size := by simp
def dashB (s : ByteArray) : Bool := s.toList == [45]
def readOkB (s : ByteArray) : Bool := dashB s || (decide (s.size ≤ 400) && (allTwo s && labsOkB (labsOf s)))
def readL (s : ByteArray) : List (ByteArray × ByteArray) := if dashB s = true then [] else if readOkB s = true then labsOf s else []
def ReadF (s : ByteArray) (w : World) (e : Ending) (w' : World) : Prop := ∃ a cap fp, e = .returned (.tuple #[.slice a (readL s).length cap, .bool (readOkB s)]) ∧ GFlat w' w.heap.size w'.heap.size (.slice a (readL s).length cap) (readL s).length 2 (labF (readL s)) fp
def ReadP (s : ByteArray) (w : World) (e : Ending) (w' : World) : Prop := ReadF s w e w' ∧ Below w.heap.size w w'
theorem read_none {s : ByteArray} {w w' : World} (a : Option Addr) (cap : Nat) (h : readOkB s = false) (hb : Below w.heap.size w w') : ReadP s w (.returned (.tuple #[.slice a 0 cap, .bool false])) w' := by
  have hd : dashB s = false := by
    cases h2 : dashB s
    · rfl
    · rw [readOkB, h2] at h; cases h
  have e : readL s = [] := by rw [readL, hd, h]; rfl
  unfold ReadP ReadF
  rw [e, h]
  exact ⟨⟨a, cap, [], rfl, ⟨.inl ⟨rfl, rfl, a, cap, rfl⟩, fun x hx => by simp at hx⟩⟩, hb⟩
theorem read_dash {s : ByteArray} {w w' : World} (a : Option Addr) (cap : Nat) (h : dashB s = true) (hb : Below w.heap.size w w') : ReadP s w (.returned (.tuple #[.slice a 0 cap, .bool true])) w' := by
  have e : readL s = [] := by rw [readL, if_pos h]
  have ho : readOkB s = true := by rw [readOkB, h]; rfl
  unfold ReadP ReadF
  rw [e, ho]
  exact ⟨⟨a, cap, [], rfl, ⟨.inl ⟨rfl, rfl, a, cap, rfl⟩, fun x hx => by simp at hx⟩⟩, hb⟩
theorem read_some {s : ByteArray} {w w' : World} {v : Value} (h : dashB s = false) (ho : readOkB s = true) (hr : RowB 40 2 w w' v (labsOf s).length (labCells (labsOf s))) : ReadP s w (.returned (.tuple #[v, .bool true])) w' := by
  have e : readL s = labsOf s := by rw [readL, h, ho]; rfl
  obtain ⟨a, cap, fp, rfl, h1, h2, -⟩ := hr.sl (labCell _)
  unfold ReadP ReadF
  rw [e, ho]
  exact ⟨⟨a, cap, fp, rfl, GFlat.new h1 h2⟩, hr.bel⟩
theorem ok_two {s : ByteArray} (hd : dashB s = false) (h : allTwo s = false) : readOkB s = false := by rw [readOkB, hd, h]; simp
theorem ok_labs {s : ByteArray} (hd : dashB s = false) (h : labsOkB (labsOf s) = false) : readOkB s = false := by rw [readOkB, hd, h]; simp
theorem ok_long {s : ByteArray} (hd : dashB s = false) (h : ¬ s.size ≤ 400) : readOkB s = false := by rw [readOkB, hd, decide_eq_false h]; rfl
theorem ok_yes {s : ByteArray} (hd : dashB s = false) (h : s.size ≤ 400) (h2 : allTwo s = true) (h3 : labsOkB (labsOf s) = true) : readOkB s = true := by rw [readOkB, hd, decide_eq_true h, h2, h3]; rfl
theorem two_all {s : ByteArray} (h : ∀ i, i < (partsL 44 s).length → twoB (strAt (partsL 44 s) i) = true) : allTwo s = true := by
  apply List.all_eq_true.2
  intro p hp
  obtain ⟨i, hi, rfl⟩ := List.getElem_of_mem hp
  have := h i hi
  rw [strAt, List.getD_eq_getElem?_getD, List.getElem?_eq_getElem hi] at this
  exact this
theorem two_not {s : ByteArray} {i : Nat} (hi : i < (partsL 44 s).length) (h : twoB (strAt (partsL 44 s) i) = false) : allTwo s = false := by
  rw [allTwo, List.all_eq_false]
  refine ⟨_, List.getElem_mem hi, ?_⟩
  rw [strAt, List.getD_eq_getElem?_getD, List.getElem?_eq_getElem hi] at h
  simpa using h
theorem labs_take {s : ByteArray} {k : Nat} (hk : k < (partsL 44 s).length) : labCells ((labsOf s).take (k + 1)) = labCells ((labsOf s).take k) ++ [.string (kvB (strAt (partsL 44 s) k)).1, .string (kvB (strAt (partsL 44 s) k)).2] := by
  have hl : k < (labsOf s).length := by rw [labsOf, List.length_map]; exact hk
  rw [List.take_succ_eq_append_getElem hl, labCells_snoc]
  have : (labsOf s)[k] = kvB (strAt (partsL 44 s) k) := by
    simp [labsOf, strAt, List.getD_eq_getElem?_getD, hk]
  rw [this]
theorem part_at {s : ByteArray} {k : Nat} (hk : k < (partsL 44 s).length) : (strAt (partsL 44 s) k).size ≤ s.size := by
  have := part_size (List.getElem_mem hk)
  rw [strAt, List.getD_eq_getElem?_getD, List.getElem?_eq_getElem hk]
  exact this
theorem sCut44 (s : ByteArray) (w : World) (hs : s.size ≤ 1048576) : Calls Tryd.prog 33 #[.string s, .int .u8 44] w (CutRow 44 s w) := sCut s 44 w hs
theorem sCut61 (s : ByteArray) (w : World) (hs : s.size ≤ 1048576) : Calls Tryd.prog 33 #[.string s, .int .u8 61] w (CutRow 61 s w) := sCut s 61 w hs

set_option maxRecDepth 100000 in
set_option maxHeartbeats 2000000 in
theorem sReadLabels (s : ByteArray) (w : World) (hs : s.size ≤ 1048576) : Calls Tryd.prog 14 #[.string s] w (ReadP s w) := by
  cases hd : (s.toList == [45])
  rotate_left
  · have HD := Lib.hid (show dashB s = true from hd)
    go_enter Tryd.func14, Tryd.ntmps14
    go_wp2
    go_ret2
    exact read_dash _ _ HD.out (rowAlloc _ _)
  have HD := Lib.hid (show dashB s = false from hd)
  by_cases h400 : s.size ≤ 400
  rotate_left
  · have H := Lib.hid (ok_long HD.out h400)
    have h4 : decide ((400 : Int) < (s.size : Int)) = true := decide_eq_true (by omega)
    go_enter Tryd.func14, Tryd.ntmps14
    go_wp2
    go_ret2
    exact read_none _ _ H.out (rowAlloc _ _)
  have h4 : decide ((400 : Int) < (s.size : Int)) = false := decide_eq_false (by omega)
  have hLn : (partsL 44 s).length = (labsOf s).length := by rw [labsOf, List.length_map]
  have hlen := parts_len 44 s
  have HR0 := Lib.hid (RowB.start 40 2 w #[] rfl)
  have H400 := Lib.hid h400
  go_enter Tryd.func14, Tryd.ntmps14
  go_wp2_with fail
  refine (sCut44 s _ hs).mono ?_
  rintro e w2 ⟨v2, rfl, hr2⟩
  rw [hLn] at hr2
  obtain ⟨a, cap, fp, rfl, hfo, hge, -⟩ := hr2.sl (fun i hi => strCell _ i (by rw [hLn]; exact hi))
  have hz2 := hr2.bel.size
  have G2 := Lib.hid (GFlat.new hfo hge)
  have R2 := Lib.hid (show RowS 40 2 (w.alloc (.cells #[] 40)).heap.size w2.heap.size w w2 (.slice (some ⟨w.heap.size, 0, none⟩) 0 0) 0 [] from ⟨HR0.out.keep hr2.bel, fun b hb => by simp [Value.ownBlock] at hb; subst hb; left; exact rowAllocLt _ _, Nat.le_refl _⟩)
  have HLN := Lib.hid hLn
  clear hr2 hfo hge HR0 hLn
  go_wp2
  go_loopw [4, 6] (fun v i wr => ∃ k : Nat, k ≤ (labsOf s).length ∧ i = .int .i64 k ∧ Hid (RowS 40 2 (w.alloc (.cells #[] 40)).heap.size w2.heap.size w wr v k (labCells ((labsOf s).take k))) ∧ Hid (GFlat wr (w.alloc (.cells #[] 40)).heap.size w2.heap.size (.slice a (labsOf s).length cap) (labsOf s).length 1 (strF (partsL 44 s)) fp) ∧ Hid (∀ i, i < k → twoB (strAt (partsL 44 s) i) = true)) (fun _ i _ => (labsOf s).length - (intOf i).toNat)
  case atStart => exact ⟨0, by omega, rfl, R2, G2, Lib.hid (fun i hi => by omega)⟩
  case round =>
    obtain ⟨k, hk, rfl, HR, HG, HT⟩ := hrel
    by_cases hlt : k < (labsOf s).length
    · have hltP : k < (partsL 44 s).length := by rw [HLN.out]; exact hlt
      obtain ⟨b, off, rfl, hcell⟩ := HG.out.own.sl.at (by omega)
      have c0 : wr.cell? ⟨b, off + k, none⟩ = some (.string (strAt (partsL 44 s) k)) := by simpa [strF] using hcell k hlt 0 (by omega)
      have hps := part_at hltP
      clear hcell
      go_wp2_with fail
      refine (sCut61 (strAt (partsL 44 s) k) _ (by omega)).mono ?_
      rintro e w3 ⟨v3, rfl, hr3⟩
      obtain ⟨a3, cap3, fp3, rfl, -, -, hsl3⟩ := hr3.sl (strCell _)
      have HB3 := Lib.hid hr3.bel
      by_cases h2 : (partsL 61 (strAt (partsL 44 s) k)).length = 2
      rotate_left
      · have h2' : (((partsL 61 (strAt (partsL 44 s) k)).length : Int) != 2) = true := by simp; omega
        have H := Lib.hid (ok_two HD.out (two_not hltP (by rw [twoB, decide_eq_false h2])))
        have HBW := Lib.hid (bnext HR.out.row.bel HB3.out)
        clear hr3 hsl3 h2
        go_wp2
        go_ret2
        exact read_none _ _ H.out (HBW.out.trans ((rowAlloc _ _).mono HBW.out.size))
      have H2 := Lib.hid (show twoB (strAt (partsL 44 s) k) = true by rw [twoB, decide_eq_true h2])
      have hkv := (two_kv H2.out).1
      rw [hkv] at hsl3
      obtain ⟨b3, off3, rfl, hcell3⟩ := hsl3.at (by simp)
      have q0 : w3.cell? ⟨b3, off3, none⟩ = some (.string (kvB (strAt (partsL 44 s) k)).1) := by simpa [strF, strAt] using hcell3 0 (by simp) 0 (by omega)
      have q1 : w3.cell? ⟨b3, off3 + 1, none⟩ = some (.string (kvB (strAt (partsL 44 s) k)).2) := by simpa [strF, strAt] using hcell3 1 (by simp) 0 (by omega)
      have R3 := Lib.hid (HR.out.keep HB3.out)
      have G3 := Lib.hid (HG.out.keep HB3.out)
      have HL := Lib.hid (labs_take hltP)
      rw [h2]
      clear hr3 hsl3 h2 hkv hcell3 HR HG
      go_wp2_with fail
      go_region_law ((refine step_rowS Tryd.elLab (by rfl) _ _ (by rfl) _ _ _ [.string (kvB (strAt (partsL 44 s) k)).1, .string (kvB (strAt (partsL 44 s) k)).2] w (by rfl) ((R3.out.alloc _).keep ((Below.refl _ _).drew)) _ _ (heap_alloc_new _ _) 1 1 (by rfl) rfl (by simp [Value.oneCell']) (by rfl) (by omega) ?_; intro v4 w4 hrow4 hg4; have G4 := Lib.hid (GFlat.grown ((R3.out.alloc _).keep ((Below.refl _ _).drew)) hg4 (G3.out.keep (((Below.refl _ _).alloc (Nat.le_refl _) _).drew)))))
      all_goals
        go_wp2_with fail
        go_roundw
        case rel => exact ⟨k + 1, by omega, by go_num, Lib.hid (by rw [HL.out]; exact hrow4), G4, Lib.hid (fun i hi => by
          rcases Nat.lt_or_ge i k with h | h
          · exact HT.out i h
          · obtain rfl : i = k := by omega
            exact H2.out)⟩
        case measure => simp [intOf] <;> omega
    · obtain rfl : k = (labsOf s).length := by omega
      have H2 := Lib.hid (two_all (fun i hi => HT.out i (by rw [← HLN.out]; exact hi)))
      have hrow := HR.out.row
      rw [List.take_length] at hrow
      have HROW := Lib.hid hrow
      obtain ⟨a5, cap5, fp5, rfl, -, -, hsl5⟩ := hrow.sl (labCell _)
      have HSL := Lib.hid hsl5
      have HSZ := Lib.hid (fun i hi => labs_sizes s i hi)
      clear hrow hsl5
      have hln2 : (labsOf s).length ≤ 401 := by have := HLN.out; omega
      cases hok : labsOkB (labsOf s)
      · have H := Lib.hid (ok_labs HD.out hok)
        go_wp2_with fail
        refine (sLabelsOk (labsOf s) a5 cap5 _ (by omega) HSL.out (fun i hi => ⟨by have := (HSZ.out i hi).1; omega, by have := (HSZ.out i hi).2; omega⟩)).mono ?_
        rw [hok]
        rintro e w6 ⟨rfl, hb6⟩
        have HB6 := Lib.hid (bnext HROW.out.bel hb6)
        go_wp2
        go_ret2
        exact read_none _ _ H.out (HB6.out.trans ((rowAlloc _ _).mono HB6.out.size))
      · have H := Lib.hid (ok_yes HD.out H400.out H2.out hok)
        go_wp2_with fail
        refine (sLabelsOk (labsOf s) a5 cap5 _ (by omega) HSL.out (fun i hi => ⟨by have := (HSZ.out i hi).1; omega, by have := (HSZ.out i hi).2; omega⟩)).mono ?_
        rw [hok]
        rintro e w6 ⟨rfl, hb6⟩
        have HROW6 := Lib.hid (HROW.out.keep hb6)
        go_wp2
        go_ret2
        exact read_some HD.out H.out HROW6.out

end Go.Proofs.YtjkfjdapkkhkfaaDoor
