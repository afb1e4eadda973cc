/- Blanks ahead of a text, what stands behind them: IndentOf, ItemOf, both texts. -/
import Derived.Test.YtpcojfcbomkgpaaDoorMem
import Derived.Test.YtpcojfcbomkgpaaDoorConv
import Derived.Test.YtpcojfcbomkgpaaDoorRuneP
import Derived.Test.YtpcojfcbomkgpaaDoorLayC
import Derived.Lib.TrimByte
import Derived.Lib.LaidU8
namespace Go.Proofs.YtpcojfcbomkgpaaDoor
open Go.RowKit

def ind (l : List UInt8) : Nat := (l.takeWhile (· == 32)).length
theorem ind_eq : ∀ (l : List UInt8) (j : Nat), j ≤ l.length → (∀ i, i < j → l.getD i 0 = 32) → (j < l.length → l.getD j 0 ≠ 32) → ind l = j
  | [], j, hj, _, _ => by
    simp at hj; subst hj; rfl
  | b :: r, 0, _, _, h => by
    have h1 : b ≠ 32 := h (by simp)
    simp [ind, h1]
  | b :: r, j + 1, hj, ha, h => by
    have h1 : b = 32 := ha 0 (by omega)
    have ih := ind_eq r j (by simpa using hj) (fun i hi => ha (i + 1) (by omega)) (fun hl => h (by simpa using hl))
    subst h1
    simp only [ind] at ih ⊢
    simp [ih]
theorem ind_le (l : List UInt8) : ind l ≤ l.length := (List.takeWhile_sublist _).length_le
theorem trim_drop : ∀ l : List UInt8, Lib.trimLeftB l 32 = l.drop (ind l)
  | [] => rfl
  | b :: r => by
    have ih := trim_drop r
    unfold Lib.trimLeftB ind at ih ⊢
    by_cases h : b = 32
    · subst h; simp; exact ih
    · simp [h]
theorem ext_drop (t : ByteArray) (n : Nat) : t.extract n t.size = ⟨(t.data.toList.drop n).toArray⟩ := by
  apply ByteArray.ext
  apply Array.ext'
  have h := Lib.extract_data t n t.size
  rw [h, List.take_of_length_le (by simp)]
/-- What stands behind place k, without the blanks ahead of it. -/
def restB (s : ByteArray) (k : Nat) : ByteArray := ⟨((s.extract k s.size).data.toList.drop (ind (s.extract k s.size).data.toList)).toArray⟩
theorem sIndentOf (t : ByteArray) (w : World) (hs : t.size ≤ 1048576) : Calls Tryd.prog 85 #[.string t] w fun e w' => e = .returned (.int .i64 (ind t.data.toList)) ∧ w = w' := by
  have hlen : t.data.toList.length = t.size := by simp
  have HL := Lib.hid hlen; clear hlen
  go_enter Tryd.func85, Tryd.ntmps85
  go_wp2
  go_loop [3] (fun i => ∃ j : Nat, j ≤ t.size ∧ i = .int .i64 (j : Int) ∧ ∀ i, i < j → t.data.toList.getD i 0 = 32) (fun i => t.size - (intOf i).toNat)
  case atStart => exact ⟨0, by omega, rfl, fun i hi => by omega⟩
  case round =>
    obtain ⟨j, hj, rfl, hall⟩ := hrel
    have HA := Lib.hid hall; clear hall
    by_cases hlt : j < t.size
    · have HB := Lib.hid (show t.data.toList.getD j 0 = t[j] by
        have : t.data.toList[j]? = some t[j] := by
          rw [List.getElem?_eq_getElem (by simpa using hlt)]; rfl
        rw [List.getD_eq_getElem?_getD, this]; rfl)
      cases hc : ((t[j].toNat : Int) == 32)
      · have H := Lib.hid (ind_eq t.data.toList j (by rw [HL.out]; exact hj) HA.out (fun _ => by rw [HB.out]; intro e; rw [e] at hc; cases hc))
        go_wp2
        go_ret
        exact ⟨ret_int (by rw [H.out]), rfl⟩
      · have H := Lib.hid (show t[j] = 32 from UInt8.toNat_inj.1 (by have g := hc; rw [beq_iff_eq] at g; show t[j].toNat = 32; omega))
        go_wp2
        go_round
        case rel => exact ⟨j + 1, by omega, by go_num, fun i hi => by
          rcases Nat.lt_or_ge i j with h | h
          · exact HA.out i h
          · obtain rfl : i = j := by omega
            rw [HB.out, H.out]⟩
        case measure => simp [intOf]; omega
    · obtain rfl : j = t.size := by omega
      have H := Lib.hid (ind_eq t.data.toList t.size (by rw [HL.out]; exact Nat.le_refl _) HA.out (fun h => by rw [HL.out] at h; omega))
      go_wp2
      go_ret
      exact ⟨ret_int (by rw [H.out]), rfl⟩

theorem iTrim (t : ByteArray) (w : World) : Calls Tryd.prog 118 #[.string t, .string ⟨#[32]⟩] w fun e w' => e = .returned (.string ⟨(t.data.toList.drop (ind t.data.toList)).toArray⟩) ∧ w = w' := by
  have h := Tryd.strings_TrimLeft_one t 32 (by decide) w
  rw [trim_drop] at h
  exact h.mono fun e w' ⟨h1, h2⟩ => ⟨h1, h2.symm⟩
theorem rest_def (s : ByteArray) (k : Nat) : (⟨((s.extract k s.size).data.toList.drop (ind (s.extract k s.size).data.toList)).toArray⟩ : ByteArray) = restB s k := rfl

theorem ind_cons (r : List UInt8) : ind (32 :: r) = 1 + ind r := by simp [ind]; omega
theorem restB_size (s : ByteArray) (k : Nat) (h : k ≤ s.size) : (restB s k).size + (k + ind (s.extract k s.size).data.toList) = s.size := by
  have h1 := ind_le (s.extract k s.size).data.toList
  have h2 : (s.extract k s.size).data.toList.length = s.size - k := by
    have : (s.extract k s.size).data.toList.length = (s.extract k s.size).size := by simp
    rw [this, ByteArray.size_extract]; omega
  have h3 : (restB s k).size = ((s.extract k s.size).data.toList.drop (ind (s.extract k s.size).data.toList)).length := by
    show (restB s k).data.size = _
    rw [restB]; simp
  rw [h3, List.length_drop]
  omega

theorem iIndentOf (t : ByteArray) (w : World) (hs : t.size ≤ 1048576) : Calls Tryd.prog 59 #[.string t] w fun e w' => e = .returned (.int .i64 (ind t.data.toList)) ∧ w = w' := by
  have HT := Lib.hid (fun w0 => iTrim t w0)
  have h1 := restB_size t 0 (Nat.zero_le _)
  have h2 : t.extract 0 t.size = t := by simp
  rw [restB, h2] at h1
  obtain ⟨r, hr⟩ : ∃ r : ByteArray, r = ⟨(t.data.toList.drop (ind t.data.toList)).toArray⟩ := ⟨_, rfl⟩
  rw [← hr] at h1 HT
  clear hr h2
  go_enter Tryd.func59, Tryd.ntmps59
  go_wp2_with (go_at_call 118; refine (HT.out _).mono ?_; rintro e w' ⟨rfl, rfl⟩)
  go_ret
  exact ⟨ret_int (by omega), rfl⟩

end Go.Proofs.YtpcojfcbomkgpaaDoor
