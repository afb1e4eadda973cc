/- LabelsLine: contracts of both texts. -/
import Derived.Test.YtomhbbchflblpaaDoorLabOk
import Derived.Test.YtomhbbchflblpaaDoorStrS
import Derived.Test.YtomhbbchflblpaaDoorLay
import Derived.Lib.Join
import Derived.Lib.JoinFns
namespace Go.Proofs.YtomhbbchflblpaaDoor
open Go.RowKit

theorem ret_strB {a b : ByteArray} (h : a = b) : Ending.returned (.string a) = .returned (.string b) := by rw [h]
def labB (x : ByteArray × ByteArray) : ByteArray := x.1 ++ ⟨#[61]⟩ ++ x.2
def labTexts (L : List (ByteArray × ByteArray)) : List (List UInt8) := L.map fun x => (labB x).data.toList
def labLine (L : List (ByteArray × ByteArray)) : ByteArray := ⟨(Lib.join (labTexts L) [44]).toArray⟩
def lineB (L : List (ByteArray × ByteArray)) : ByteArray := if labsOkB L = true then (if L.length = 0 then ⟨#[45]⟩ else labLine L) else ⟨#[]⟩
def accB (L : List (ByteArray × ByteArray)) : Nat → ByteArray
  | 0 => ⟨#[]⟩
  | k + 1 => (if 0 < k then accB L k ++ ⟨#[44]⟩ else accB L k) ++ keyAt L k ++ ⟨#[61]⟩ ++ valAt L k

theorem join_snoc (xs : List (List UInt8)) (x sep : List UInt8) : Lib.join (xs ++ [x]) sep = if xs = [] then x else Lib.join xs sep ++ sep ++ x := by
  cases xs with
  | nil => simp [Lib.join_one]
  | cons y ys => simp [Lib.join_cons, Lib.joinTail]
theorem lab_get (L : List (ByteArray × ByteArray)) (k : Nat) (h : k < L.length) : L[k] = (keyAt L k, valAt L k) := by
  have e : (L.getD k (ByteArray.empty, ByteArray.empty)) = L[k] := by rw [List.getD_eq_getElem?_getD, List.getElem?_eq_getElem h]; rfl
  unfold keyAt valAt
  rw [e]
theorem app_data (a b : ByteArray) : (a ++ b).data.toList = a.data.toList ++ b.data.toList := by
  rw [ByteArray.data_append, Array.toList_append]
theorem accB_join (L : List (ByteArray × ByteArray)) : ∀ k, k ≤ L.length → (accB L k).data.toList = Lib.join (labTexts (L.take k)) [44]
  | 0, _ => rfl
  | k + 1, h => by
    have ih := accB_join L k (by omega)
    have e : labTexts (L.take (k + 1)) = labTexts (L.take k) ++ [(labB (keyAt L k, valAt L k)).data.toList] := by
      rw [List.take_succ_eq_append_getElem (show k < L.length by omega), lab_get L k (by omega)]; simp [labTexts]
    rw [e, join_snoc]
    simp only [accB, app_data, labB]
    by_cases hk : 0 < k
    · have h0 : labTexts (L.take k) ≠ [] := by
        intro e
        have h1 : (labTexts (L.take k)).length = k := by simp [labTexts]; omega
        rw [e] at h1
        simp at h1
        omega
      rw [if_pos hk, app_data, ih, if_neg h0]
      simp [List.append_assoc]
    · obtain rfl : k = 0 := by omega
      simp [accB, labTexts]
theorem accB_line (L : List (ByteArray × ByteArray)) : accB L L.length = labLine L := by
  have h := accB_join L L.length (Nat.le_refl _)
  rw [List.take_length] at h
  unfold labLine
  rw [← h]
theorem labs_len {L : List (ByteArray × ByteArray)} (h : labsOkB L = true) : L.length ≤ 6 ∧ ∀ k, k < L.length → (keyAt L k).size ≤ 30 ∧ (valAt L k).size ≤ 20 := by
  unfold labsOkB at h
  rw [Bool.and_eq_true, decide_eq_true_eq, List.all_eq_true] at h
  refine ⟨h.1, fun k hk => ?_⟩
  have := h.2 k (List.mem_range.2 hk)
  unfold labAt labelKeyB labelValueB at this
  simp only [Bool.and_eq_true, Bool.or_eq_true, decide_eq_true_eq] at this
  refine ⟨this.1.1.1, ?_⟩
  rcases this.1.2 with g | g
  · rw [List.isEmpty_iff] at g
    have := toList_length (valAt L k)
    rw [g] at this
    simp at this
    omega
  · exact g.1
theorem accB_size {L : List (ByteArray × ByteArray)} (h : labsOkB L = true) : ∀ k, k ≤ L.length → (accB L k).size ≤ 52 * k
  | 0, _ => Nat.le_refl _
  | k + 1, hk => by
    have ih := accB_size h k (by omega)
    obtain ⟨h1, h2⟩ := (labs_len h).2 k (by omega)
    simp only [accB, ByteArray.size_append]
    have e1 : (⟨#[61]⟩ : ByteArray).size = 1 := rfl
    have e2 : (⟨#[44]⟩ : ByteArray).size = 1 := rfl
    split
    · rw [ByteArray.size_append]; omega
    · omega

theorem lab_own (L : List (ByteArray × ByteArray)) : (L.map labB).map (·.data.toList) = labTexts L := by simp [labTexts]
theorem lens_le (X : List (List UInt8)) (h : ∀ x ∈ X, x.length ≤ 51) : Lib.lens X ≤ 51 * X.length := by
  induction X with
  | nil => simp [Lib.lens]
  | cons x xs ih =>
    have h1 := h x (by simp)
    have h2 := ih fun y hy => h y (by simp [hy])
    simp only [Lib.lens, List.map_cons, List.sum_cons, List.length_cons] at h2 ⊢
    omega
theorem line_len {L : List (ByteArray × ByteArray)} (h : labsOkB L = true) : (Lib.join (labTexts L) [44]).length ≤ 312 := by
  obtain ⟨h6, h2⟩ := labs_len h
  have h3 : ∀ x ∈ labTexts L, x.length ≤ 51 := by
    intro x hx
    simp only [labTexts, List.mem_map] at hx
    obtain ⟨y, hy, rfl⟩ := hx
    obtain ⟨i, hi, rfl⟩ := List.getElem_of_mem hy
    rw [lab_get L i hi]
    obtain ⟨g1, g2⟩ := h2 i hi
    have e1 : (⟨#[61]⟩ : ByteArray).size = 1 := rfl
    have : (labB (keyAt L i, valAt L i)).data.toList.length = (labB (keyAt L i, valAt L i)).size := by simp
    rw [this]
    simp only [labB, ByteArray.size_append]
    omega
  have h4 := lens_le _ h3
  have h5 : (labTexts L).length = L.length := by simp [labTexts]
  cases hX : labTexts L with
  | nil => simp [Lib.join_nil]
  | cons x r =>
    rw [hX] at h4 h5
    rw [Lib.join_length]
    simp only [List.length_cons, List.length_nil] at h4 h5 ⊢
    omega

set_option maxHeartbeats 1000000 in
theorem iLabelsLine (L : List (ByteArray × ByteArray)) (a : Option Addr) (cap : Nat) (w : World) (hn : L.length ≤ 2000000) (hc : SlAt w a L.length 2 (labF L)) (hsz : ∀ i, i < L.length → (keyAt L i).size ≤ 1048576 ∧ (valAt L i).size ≤ 1048576) :
    Calls Tryd.prog 11 #[.slice a L.length cap] w fun e w' => e = .returned (.string (lineB L)) ∧ Below w.heap.size w w' := by
  obtain ⟨i0, hi, hz0, hz1, hz2⟩ := info_parts Tryd.infoStr
  have HSZ := Lib.hid hsz; clear hsz
  have HL : Hid (lineB L = if labsOkB L = true then (if L.length = 0 then ⟨#[45]⟩ else labLine L) else ⟨#[]⟩) := rfl
  cases hok : labsOkB L
  · go_enter Tryd.func11, Tryd.ntmps11
    go_wp2_with fail
    refine (iLabelsOk L a cap _ hn hc HSZ.out).mono ?_
    rintro e w1 ⟨rfl, hb1⟩
    go_wp2
    go_ret
    exact ⟨ret_strB (by rw [HL.out, hok]; rfl), hb1⟩
  have HLEN := Lib.hid (labs_len hok)
  have HLL := Lib.hid (line_len hok)
  by_cases h0 : L.length = 0
  · have e0 : ((L.length : Int) == 0) = true := by rw [beq_iff_eq]; omega
    have H0 := Lib.hid h0; clear h0
    go_enter Tryd.func11, Tryd.ntmps11
    go_wp2_with fail
    refine (iLabelsOk L a cap _ hn hc HSZ.out).mono ?_
    rintro e w1 ⟨rfl, hb1⟩
    go_wp2
    go_ret
    exact ⟨ret_strB (by rw [HL.out, hok, if_pos rfl, if_pos H0.out]), hb1⟩
  have e0 : ((L.length : Int) == 0) = false := by rw [beq_eq_false_iff_ne]; omega
  have hpos : 0 < L.length := by omega
  have H0 := Lib.hid (show lineB L = labLine L by rw [HL.out, hok, if_pos rfl, if_neg h0]); clear h0
  go_enter Tryd.func11, Tryd.ntmps11
  go_wp2_with fail
  refine (iLabelsOk L a cap _ hn hc HSZ.out).mono ?_
  rintro e w1 ⟨rfl, hb1⟩
  have hz1' := hb1.size
  go_wp2
  go_loopw [3, 15] (fun s3 s15 wr => ∃ (k : Nat) (v : Value), k ≤ L.length ∧ s15 = .int .i64 k ∧ v = s3 ∧ Hid (wr.ownsRow w.heap.size 9 1 v k (((L.take k).map labB).map Value.string)) ∧ Below w.heap.size w wr) (fun _ s15 _ => L.length - (intOf s15).toNat)
  case atStart => exact ⟨0, _, by omega, rfl, rfl, World.ownsRow_made w1 #[] 0 hz1' (by unfold maxLen; omega) rfl, by repeat (first | exact hb1 | (refine Below.alloc ?_ (by first | omega | (simp; done) | (simp; omega)) _) | (refine Below.setCell ?_ (by first | omega | (simp; done) | (simp; omega)) _) | (refine Below.drew ?_) | (refine below_drewN ?_ _))⟩
  case round =>
    obtain ⟨k, v, hk, rfl, rfl, HO, hb⟩ := hrel
    have hl6 := HLEN.out.1
    by_cases hlt : k < L.length
    · obtain ⟨hs1, hs2⟩ := HLEN.out.2 k hlt
      obtain ⟨b, off, rfl, hcell⟩ := (hc.keep hb).at (by omega)
      have c0 : wr.cell? ⟨b, off + k * 2, none⟩ = some (.string (keyAt L k)) := by simpa [labF] using hcell k hlt 0 (by omega)
      have c1 : wr.cell? ⟨b, off + k * 2 + 1, none⟩ = some (.string (valAt L k)) := by simpa [labF] using hcell k hlt 1 (by omega)
      clear hcell hc
      have hown := (HO.out.alloc (.cells #[.string (keyAt L k), .string (valAt L k)] 35)).alloc (.cells #[.string (keyAt L k ++ ⟨#[61]⟩ ++ valAt L k)] 9)
      have HT := Lib.hid (show ((L.take (k + 1)).map labB).map Value.string = ((L.take k).map labB).map Value.string ++ [.string (keyAt L k ++ ⟨#[61]⟩ ++ valAt L k)] by
        rw [List.take_succ_eq_append_getElem hlt, lab_get L k hlt]; simp [labB])
      have hz := hb.size
      have hbw : Below w.heap.size w ((wr.alloc (.cells #[.string (keyAt L k), .string (valAt L k)] 35)).alloc (.cells #[.string (keyAt L k ++ ⟨#[61]⟩ ++ valAt L k)] 9)) := by repeat (first | exact hb | (refine Below.alloc ?_ (by first | omega | (simp; done) | (simp; omega)) _) | (refine Below.setCell ?_ (by first | omega | (simp; done) | (simp; omega)) _) | (refine Below.drew ?_) | (refine below_drewN ?_ _))
      go_wp2_with (at_builtin; refine wpList_append_own _ rfl (.tmp 19) (.tmp 26) 46 rfl w.heap.size 9 i0 (.string ⟨#[]⟩) 1 16 Tryd.underlying46 hi hz0 hz1 hz2 rfl (by decide) v k _ rfl hown ⟨wr.heap.size + 1, 0, none⟩ 1 1 [.string (keyAt L k ++ ⟨#[61]⟩ ++ valAt L k)] rfl rfl (by intro j u hu; match j, hu with | 0, hu => (simp at hu; subst hu; go_simp) | j + 1, hu => simp at hu) (by simp [Value.oneCell']) (by unfold maxLen; omega) (by omega) (by simp; omega) ?_; intro v' w2 hown2 hgrow2 _)
      go_roundw
      case rel => exact ⟨k + 1, v', by omega, by go_num, rfl, by unfold Hid; rw [HT.out]; exact hown2, hbw.grown hgrow2 (by simp; omega) (fun q hq => (hown.lt q hq).1)⟩
      case measure => simp [intOf]; omega
    · obtain rfl : k = L.length := by omega
      have hown := HO.out
      rw [List.take_length] at hown
      obtain ⟨g, cap', cur, rfl, hbg, hg, hnc, -⟩ := hown.2.resolve_left (fun h => by omega)
      have hjn := fun W : World => Tryd.strings_Join g 0 cap' (L.map labB) ⟨#[44]⟩ W
      rw [lab_own, List.length_map] at hjn
      have HJ := Lib.hid hjn; clear hjn
      have HC := Lib.hid (hown.cells (g := g) rfl)
      have hgl := (Array.getElem?_eq_some_iff.1 hg).1
      clear hg
      go_wp2_with fail
      refine (HJ.out _ (fun j x hx => ?_) hgl (by omega) (by omega) (by have := HLL.out; show (Lib.join (labTexts L) [44]).length ≤ _; omega)).mono ?_
      · have := HC.out j (.string x) (by rw [List.getElem?_map, hx]; rfl)
        rw [addr_add] at this
        exact this
      rintro e w2 ⟨rfl, hb2⟩
      go_wp2
      go_ret
      exact ⟨ret_strB (by rw [H0.out]; rfl), bnext hb hb2⟩

end Go.Proofs.YtomhbbchflblpaaDoor
