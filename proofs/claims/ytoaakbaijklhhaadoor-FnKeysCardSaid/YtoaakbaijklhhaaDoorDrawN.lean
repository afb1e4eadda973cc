/- Spoilt texts; drawn texts that may be no texts of code points; the law's walk of FnNoRunes. -/
import Derived.Test.YtoaakbaijklhhaaDoorDrawT
import Derived.Test.YtoaakbaijklhhaaDoorRqD
namespace Go.Proofs.YtoaakbaijklhhaaDoor
open Go.RowKit

/-- '[]byte(s)': a row of the call's own that may be written. -/
theorem conv_own (w1 : World) (s : ByteArray) : ∃ W cap, (convert 9 29 (.string s)).run Tryd.prog w1 = .ok (.slice (some ⟨w1.heap.size, 0, none⟩) s.size cap) W ∧ Below w1.heap.size w1 W ∧
    (∀ j, j < s.size → W.cell? ⟨w1.heap.size, j, none⟩ = some (.int .u8 (s.data.toList.getD j 0).toNat)) ∧ (∀ j, j < s.size → W.frozen? ⟨w1.heap.size, j, none⟩ = false) := by
  refine ⟨Lib.bytesWorld w1 5 s, _, Lib.run_convert_string_bytes w1 _ _ _ s Tryd.underlying9 Tryd.underlying29 Tryd.underlying5,
    ⟨rfl, rfl, rfl, by rw [Lib.bytesWorld_size]; omega, fun k hk => Lib.bytesWorld_at_old _ _ _ _ hk⟩,
    fun j hj => Lib.bytesWorld_cell w1 5 s j hj, fun j hj => ?_⟩
  have hn := Lib.bytesWorld_at_new w1 5 s
  have hsz : s.size ≤ (Lib.bytesCells w1 5 s).size := by simp [Lib.bytesCells]
  simp only [World.frozen?, hn]
  simp; omega

/-- 'string(b)' of bytes that lie in a block. -/
theorem conv_back (w : World) (g n cap : Nat) (l : List UInt8) (hl : l.length = n) (hc : ∀ j, j < n → w.cell? ⟨g, j, none⟩ = some (.int .u8 (l.getD j 0).toNat)) :
    (convert 29 9 (.slice (some ⟨g, 0, none⟩) n cap)).run Tryd.prog w = .ok (.string ⟨l.toArray⟩) w := by
  subst hl
  refine run_convert_bytes_back w _ _ _ _ cap l Tryd.underlying29 Tryd.underlying5 Tryd.underlying9 fun j hj => ?_
  rw [addr_add, Nat.zero_add, hc j hj, List.getD_eq_getElem?_getD, List.getElem?_eq_getElem hj]
  rfl

set_option maxHeartbeats 1000000 in
set_option maxRecDepth 100000 in
theorem l04Spoilt_any (g : Nat) (s : ByteArray) (w : World) (hs : s.size ≤ 1000000) (hC : Cur w g) : Calls Tryd.prog 81 #[.pointer (some ⟨g, 0, none⟩), .string s] w (StrP g (fun t => t.size ≤ s.size + 1) w) := by
  by_cases h0 : s.size = 0
  · have e0 : ((s.size : Int) == 0) = true := by rw [beq_iff_eq]; omega
    clear h0
    go_enter Tryd.func81, Tryd.ntmps81
    go_wp2
    go_ret
    exact ⟨⟨#[120]⟩, by show 1 ≤ s.size + 1; omega, rfl, hC, Apart.refl _ _⟩
  have e0 : ((s.size : Int) == 0) = false := by rw [beq_eq_false_iff_ne]; omega
  have hpos : 1 ≤ s.size := by omega
  clear h0
  obtain ⟨W, cap, hcv, hbW, hcW, hfW⟩ := conv_own w s
  have HC := Lib.hid (hC.keep hbW); have HB := Lib.hid hbW; have HCW := Lib.hid hcW; have HFW := Lib.hid hfW
  have hzW := hbW.size
  have hgl := hC.lt
  clear hC hbW hcW hfW
  go_enter Tryd.func81, Tryd.ntmps81
  go_wp2_with fail
  clear hcv
  refine (l01Below_any g s.size _ (by omega) (by omega) HC.out).mono ?_
  rintro e w1 ⟨x, hx0, hx1, rfl, hc1, ha1⟩
  obtain ⟨k, rfl⟩ := Int.eq_ofNat_of_zero_le hx0
  have hk : k < s.size := by omega
  have H1 := Lib.hid (And.intro hc1 ha1); clear hc1 ha1
  go_wp2_with fail
  refine (l01Below_any g 4 _ (by omega) (by omega) H1.out.1).mono ?_
  rintro e w2 ⟨y, hy0, hy1, rfl, hc2, ha2⟩
  have H2 := Lib.hid (And.intro hc2 (H1.out.2.trans ha2)); clear hc2 ha2
  by_cases g0 : y = 0
  · subst g0
    have hf1 : (0 : Int) ≤ (s.size : Int) - 1 := by omega
    go_wp2
    go_ret
    refine ⟨_, ?_, rfl, H2.out.1, (Apart.of_below HB.out _).trans H2.out.2⟩
    show (s.extract 0 (s.size - 1)).size ≤ s.size + 1
    rw [ByteArray.size_extract]; omega
  by_cases g1 : y = 1
  · subst g1
    clear g0
    go_wp2_with fail
    refine (l01Byte_any g _ H2.out.1).mono ?_
    rintro e w3 ⟨z, hz0, hz1, rfl, hc3, ha3⟩
    have k1 := conv1 w3 z
    have H3 := Lib.hid (And.intro hc3 (H2.out.2.trans ha3)); clear hc3 ha3
    go_wp2
    go_ret
    exact ⟨_, by show (s ++ _).size ≤ s.size + 1; rw [ByteArray.size_append]; exact Nat.le_refl _, rfl, H3.out.1.alloc _, ((Apart.of_below HB.out _).trans H3.out.2).alloc _⟩
  · have d0 : (y == 0) = false := by simp; omega
    have d1 : (y == 1) = false := by simp; omega
    clear g0 g1
    go_wp2_with fail
    refine (l01Byte_any g _ H2.out.1).mono ?_
    rintro e w3 ⟨z, hz0, hz1, rfl, hc3, ha3⟩
    have H3 := Lib.hid (And.intro hc3 (H2.out.2.trans ha3)); clear hc3 ha3
    have hne : ∀ x ∈ [g], x < w.heap.size := fun x hx => by simp at hx; omega
    have hwr : ∀ j, j < s.size → w3.cell? ⟨w.heap.size, j, none⟩ = some (.int .u8 (s.data.toList.getD j 0).toNat) ∧ w3.frozen? ⟨w.heap.size, j, none⟩ = false := fun j hj => by
      have hl := lt_of_cell (HCW.out j hj)
      have hb := H3.out.2.block w.heap.size hl (by simp; omega)
      exact ⟨(World.cell?_of_block hb).trans (HCW.out j hj), (World.frozen?_of_block hb).trans (HFW.out j hj)⟩
    have p0 := (hwr k hk).1
    have p1 := (hwr k hk).2
    have hk1 : (k : Int) < (s.size : Int) := by omega
    have hcv2 := conv_back (w3.setCell ⟨w.heap.size, k, none⟩ (.int .u8 z)) w.heap.size s.size cap (s.data.toList.set k (UInt8.ofNat z.toNat)) (by simp) (fun j hj => by
      by_cases hjk : j = k
      · subst hjk
        rw [World.cell?_setCell_same _ _ _ (hwr j hj).1, List.getD_eq_getElem?_getD, List.getElem?_set_self (by simpa using hj)]
        simp; omega
      · rw [World.cell?_setCell_other _ _ _ _ (fun e => by injection e; omega), (hwr j hj).1, List.getD_eq_getElem?_getD, List.getD_eq_getElem?_getD, List.getElem?_set_ne (by omega)])
    clear hwr
    have hgw : g ≠ w.heap.size := by omega
    have hapx := ((Apart.of_below HB.out [g]).trans H3.out.2)
    go_wp2
    go_ret
    refine ⟨_, ?_, rfl, H3.out.1.same fun q hq hl => Below.heap_setCell _ _ _ _ (by simp; omega), ?_⟩
    · show (s.data.toList.set k (UInt8.ofNat z.toNat)).length ≤ _
      simp
    · refine ⟨hapx.os, hapx.tape, hapx.output, by simpa [World.setCell] using hapx.size, fun q hq hn => ?_⟩
      exact (Below.heap_setCell _ _ _ _ (by simp; omega)).trans (hapx.block q hq hn)

def badList : List ByteArray := [⟨#[192, 128]⟩, ⟨#[193, 191]⟩, ⟨#[224, 128, 128]⟩, ⟨#[237, 160, 128]⟩, ⟨#[244, 144, 128, 128]⟩, ⟨#[248, 136, 128, 128, 128]⟩, ⟨#[128]⟩, ⟨#[255]⟩, ⟨#[226, 130]⟩]
set_option maxRecDepth 100000 in
set_option maxHeartbeats 1000000 in
theorem l07Any_any (g : Nat) (w : World) (hC : Cur w g) : Calls Tryd.prog 59 #[.pointer (some ⟨g, 0, none⟩)] w (StrP g (fun t => t.size ≤ 100) w) := by
  have HC := Lib.hid hC; clear hC
  go_enter Tryd.func59, Tryd.ntmps59
  go_wp2_with fail
  refine (l07Text_any g 6 _ (by omega) HC.out).mono ?_
  rintro e w1 ⟨s, ⟨hs, -⟩, rfl, hc1, ha1⟩
  have H1 := Lib.hid (And.intro hc1 ha1); clear hc1 ha1
  go_wp2_with fail
  refine (l01Below_any g 5 _ (by omega) (by omega) H1.out.1).mono ?_
  rintro e w2 ⟨y, hy0, hy1, rfl, hc2, ha2⟩
  have H2 := Lib.hid (And.intro hc2 (H1.out.2.trans ha2)); clear hc2 ha2
  have hgl := H2.out.1.lt
  by_cases g0 : y = 0
  · subst g0
    go_wp2_with fail
    refine (l04Spoilt_any g s _ (by omega) H2.out.1).mono ?_
    rintro e w3 ⟨t, ht, rfl, hc3, ha3⟩
    go_wp2
    go_ret
    exact ⟨t, by show t.size ≤ 100; omega, rfl, hc3, H2.out.2.trans ha3⟩
  by_cases g1 : y = 1
  · subst g1
    clear g0
    go_wp2_with fail
    refine (l01Pick_any g _ 9 9 (fun i => badList.getD i ⟨#[]⟩) (fun t => t.size ≤ 5) _ (by omega) (by omega) (H2.out.1.alloc _) (lit_strs w2 badList _ rfl) (fun b o h => by cases h; omega) (fun i hi => by
      rcases (show i = 0 ∨ i = 1 ∨ i = 2 ∨ i = 3 ∨ i = 4 ∨ i = 5 ∨ i = 6 ∨ i = 7 ∨ i = 8 by omega) with rfl | rfl | rfl | rfl | rfl | rfl | rfl | rfl | rfl <;> decide)).mono ?_
    rintro e w3 ⟨t, ht, rfl, hc3, ha3⟩
    have H3 := Lib.hid (And.intro hc3 ((H2.out.2.alloc _).trans ha3)); clear hc3 ha3
    have ht5 : t.size ≤ 5 := ht
    clear ht
    go_wp2
    go_ret
    exact ⟨_, by show (s ++ t ++ s).size ≤ 100; rw [ByteArray.size_append, ByteArray.size_append]; omega, rfl, H3.out.1, H3.out.2⟩
  · have d0 : (y == 0) = false := by rw [beq_eq_false_iff_ne]; omega
    have d1 : (y == 1) = false := by rw [beq_eq_false_iff_ne]; omega
    clear g0 g1
    go_wp2
    go_ret
    exact ⟨s, by show s.size ≤ 100; omega, rfl, H2.out.1, H2.out.2⟩

theorem drawUtf8Ok (a : Option Addr) (n cap : Nat) (w : World) (hn : n ≤ 1048576) (hc : CodeAt w w.heap.size a n) : Calls Tryd.prog 29 #[.slice a n cap] w (StrQ (fun t => t.size ≤ 100) w) := by
  go_enter Tryd.func29, Tryd.ntmps29
  go_wp2_with fail
  refine (l01New_any a n cap _ hn hc).mono ?_
  rintro e w1 ⟨g, rfl, hg, hc1, hb1⟩
  have H1 := Lib.hid hb1; clear hb1
  go_wp2_with fail
  refine (l07Any_any g _ hc1).mono ?_
  rintro e w2 ⟨t, ht, rfl, hc2, ha2⟩
  go_wp2
  go_ret
  exact ⟨t, ht, rfl, H1.out.trans (ha2.below H1.out.size (fun y hy => by simp at hy; omega))⟩

end Go.Proofs.YtoaakbaijklhhaaDoor
