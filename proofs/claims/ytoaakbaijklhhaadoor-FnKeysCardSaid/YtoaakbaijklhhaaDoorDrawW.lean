/- Drawn words and lines: contracts. -/
import Derived.Test.YtoaakbaijklhhaaDoorDrawT
import Derived.Test.YtoaakbaijklhhaaDoorDrawN
namespace Go.Proofs.YtoaakbaijklhhaaDoor
open Go.RowKit

theorem strs_size {l : List ByteArray} (h : l.all (fun t => decide (t.size ≤ 30)) = true) (i : Nat) (hi : i < l.length) : (l.getD i ⟨#[]⟩).size ≤ 30 := by
  have hm : l.getD i ⟨#[]⟩ ∈ l := by
    rw [List.getD_eq_getElem?_getD, List.getElem?_eq_getElem hi]; exact List.getElem_mem _
  simpa using List.all_eq_true.1 h _ hm
def wordsA : List ByteArray := [⟨#[]⟩, ⟨#[110, 117, 108, 108]⟩, ⟨#[116, 114, 117, 101]⟩, ⟨#[126]⟩, ⟨#[45]⟩, ⟨#[45, 32, 97]⟩, ⟨#[97, 58, 32, 98]⟩, ⟨#[97, 32, 35, 98]⟩, ⟨#[49, 50]⟩, ⟨#[45, 48]⟩, ⟨#[48, 48, 55]⟩, ⟨#[120, 10, 121]⟩, ⟨#[32, 97]⟩, ⟨#[97, 32]⟩, ⟨#[34, 113, 34]⟩, ⟨#[91]⟩, ⟨#[123, 125]⟩, ⟨#[107, 58]⟩, ⟨#[35]⟩, ⟨#[53, 48, 48, 109]⟩, ⟨#[50, 71, 105]⟩]
def wordsB : List ByteArray := [⟨#[97]⟩, ⟨#[98]⟩, ⟨#[110, 97, 109, 101]⟩, ⟨#[107, 105, 110, 100]⟩, ⟨#[120, 45, 121]⟩, ⟨#[108, 97, 98, 101, 108, 115]⟩]
theorem wordsA_ok : wordsA.all (fun t => decide (t.size ≤ 30)) = true := by decide +kernel
theorem wordsB_ok : wordsB.all (fun t => decide (t.size ≤ 30)) = true := by decide +kernel

set_option maxRecDepth 100000 in
set_option maxHeartbeats 1000000 in
theorem l08Word_any (g : Nat) (w : World) (hC : Cur w g) : Calls Tryd.prog 69 #[.pointer (some ⟨g, 0, none⟩)] w (StrP g (fun t => t.size ≤ 30) w) := by
  go_enter Tryd.func69, Tryd.ntmps69
  go_wp2_with fail
  refine (l01Below_any g 4 _ (by omega) (by omega) hC).mono ?_
  rintro e w1 ⟨x, hx0, hx1, rfl, hc1, ha1⟩
  have HX := Lib.hid (And.intro hc1 ha1); clear hc1 ha1
  have hgl := HX.out.1.lt
  by_cases h0 : x = 0
  · subst h0
    go_wp2_with fail
    refine (l07Text_any g 5 _ (by omega) HX.out.1).mono ?_
    rintro e w2 ⟨t, ⟨ht, -⟩, rfl, hc2, ha2⟩
    go_wp2
    go_ret
    exact ⟨t, by show t.size ≤ 30; omega, rfl, hc2, HX.out.2.trans ha2⟩
  by_cases h1 : x = 1
  · subst h1
    go_wp2_with fail
    refine (l01Pick_any g _ 21 21 (fun i => wordsA.getD i ⟨#[]⟩) (fun t => t.size ≤ 30) _ (by omega) (by omega) (HX.out.1.alloc _) (lit_strs w1 wordsA _ rfl) (fun b o h => by cases h; omega) (fun i hi => strs_size wordsA_ok i hi)).mono ?_
    rintro e w3 ⟨t, ht, rfl, hc3, ha3⟩
    have ht30 : t.size ≤ 30 := ht
    clear ht
    go_wp2
    go_ret
    exact ⟨t, ht30, rfl, hc3, (HX.out.2.alloc _).trans ha3⟩
  · have d0 : (x == 0) = false := by rw [beq_eq_false_iff_ne]; omega
    have d1 : (x == 1) = false := by rw [beq_eq_false_iff_ne]; omega
    clear h0 h1
    go_wp2_with fail
    refine (l01Pick_any g _ 6 6 (fun i => wordsB.getD i ⟨#[]⟩) (fun t => t.size ≤ 30) _ (by omega) (by omega) (HX.out.1.alloc _) (lit_strs w1 wordsB _ rfl) (fun b o h => by cases h; omega) (fun i hi => strs_size wordsB_ok i hi)).mono ?_
    rintro e w3 ⟨t, ht, rfl, hc3, ha3⟩
    have ht30 : t.size ≤ 30 := ht
    clear ht
    go_wp2
    go_ret
    exact ⟨t, ht30, rfl, hc3, (HX.out.2.alloc _).trans ha3⟩

theorem drawKeyText (a : Option Addr) (n cap : Nat) (w : World) (hn : n ≤ 1048576) (hc : CodeAt w w.heap.size a n) : Calls Tryd.prog 43 #[.slice a n cap] w (StrQ (fun t => t.size ≤ 30) w) := by
  go_enter Tryd.func43, Tryd.ntmps43
  go_wp2_with fail
  refine (l01New_any a n cap _ hn hc).mono ?_
  rintro e w1 ⟨g, rfl, hg, hc1, hb1⟩
  have H1 := Lib.hid hb1; clear hb1
  go_wp2_with fail
  refine (l08Word_any g _ hc1).mono ?_
  rintro e w2 ⟨t, ht, rfl, hc2, ha2⟩
  have ht30 : t.size ≤ 30 := ht
  clear ht
  go_wp2
  go_ret
  exact ⟨t, ht30, rfl, H1.out.trans (ha2.below H1.out.size (fun y hy => by simp at hy; omega))⟩

end Go.Proofs.YtoaakbaijklhhaaDoor
