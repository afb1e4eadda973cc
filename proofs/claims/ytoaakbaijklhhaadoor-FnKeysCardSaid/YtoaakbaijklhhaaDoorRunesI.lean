/- impl.RunesOf: the contract. -/
import Derived.Test.YtoaakbaijklhhaaDoorUtf8I
import Derived.Lib.OthersKept
import Derived.WalkSmall
namespace Go.Proofs.YtoaakbaijklhhaaDoor
open Go.RowKit

theorem own_iter {w : World} {B e size n : Nat} {v : Value} {xs : List Value} {k : Nat} {s : ByteArray} {pos : Nat} (h : w.ownsRow B e size v n xs) (hk : w.heap[k]? = some (.stringIter s pos)) (pos' : Nat) : (w.iterAt k s pos').ownsRow B e size v n xs := by
  refine ⟨h.1, ?_⟩
  rcases h.2 with h0 | ⟨g, cap, cur, hv, hb, hg, rest⟩
  · exact .inl h0
  · refine .inr ⟨g, cap, cur, hv, hb, ?_, rest⟩
    rw [Lib.iterAt_other _ _ _ _ _ (fun e => by subst e; rw [hk] at hg; cases hg)]
    exact hg
theorem own_not_iter {w : World} {B e size n : Nat} {v : Value} {xs : List Value} {k : Nat} {s : ByteArray} {pos : Nat} (h : w.ownsRow B e size v n xs) (hk : w.heap[k]? = some (.stringIter s pos)) : some k ≠ v.ownBlock := by
  rcases h.2 with ⟨rfl, _⟩ | ⟨g, cap, cur, rfl, hb, hg, rest⟩
  · simp [Value.ownBlock]
  · intro e
    simp only [Value.ownBlock, Option.some.injEq] at e
    subst e
    rw [hk] at hg
    cases hg

theorem own_mono {w : World} {B B' e size n : Nat} {v : Value} {xs : List Value} (h : w.ownsRow B e size v n xs) (hB : B' ≤ B) : w.ownsRow B' e size v n xs := by
  refine ⟨h.1, ?_⟩
  rcases h.2 with h0 | ⟨g, cap, cur, hv, hb, rest⟩
  · exact .inl h0
  · exact .inr ⟨g, cap, cur, hv, by omega, rest⟩

set_option maxHeartbeats 1000000 in
set_option maxRecDepth 100000 in
theorem iRunesOf (s : ByteArray) (w : World) (hs : s.size ≤ 1048576) (hT : Tabs w) :
    Calls Tryd.prog 16 #[.string s] w fun e w' => RunesPost s w.heap.size e w' ∧ Below w.heap.size w w' := by
  have c : Calls Tryd.prog 49 #[.string s] w fun e w' => e = .returned (.bool (runesO s).isSome) ∧ Below w.heap.size w w' := by
    rw [runes_valid]; exact Any.utf8_ValidString Tryd.laysValid s w (by omega) hT
  obtain ⟨i0, hi, hz0, hz1, hz2⟩ := info_parts Tryd.infoInt
  clear hT
  cases hO : runesO s with
  | none =>
    rw [hO] at c
    go_enter Tryd.func16, Tryd.ntmps16
    go_wp2_with (go_at_call 49; refine c.mono ?_; rintro e w1 ⟨rfl, hb1⟩)
    go_ret2
    exact ⟨⟨_, [], by rw [hO]; rfl, ⟨by simp [ints], .inl ⟨rfl, rfl⟩⟩, by rw [hO]; rfl⟩, hb1⟩
  | some L =>
    rw [hO] at c
    go_enter Tryd.func16, Tryd.ntmps16
    go_wp2_with (go_at_call 49; refine c.mono ?_; rintro e w1 ⟨rfl, hb1⟩)
    have h0 := World.ownsRow_lit (e := 3) (size := 1) w1 #[] 0 (Nat.le_refl _) (by unfold maxLen; omega) rfl
    have H0 := Lib.hid (h0.alloc (.stringIter s 0)); clear h0
    have hz1' := hb1.size
    clear c
    obtain ⟨IB, hIB⟩ : ∃ IB, IB = w1.heap.size + 1 := ⟨_, rfl⟩
    have HB1 := Lib.hid hb1; clear hb1
    go_loopw [4] (fun v wr => ∃ (k : Nat) (acc : List Nat) (f : Nat), k ≤ s.size ∧ acc.length ≤ k ∧ s.size < k + f ∧ rgo s f k acc = some L ∧ wr.ownsRow w1.heap.size 3 1 v acc.length (ints acc) ∧ wr.heap[w1.heap.size + 1]? = some (.stringIter s k) ∧ Below w1.heap.size w1 wr) (fun _ wr => s.size - wr.iterPos (w1.heap.size + 1))
    case atStart => exact ⟨0, [], s.size + 1, by omega, by simp, by omega, hO, H0.out, by have := World.iter_heap (w1.alloc (.cells #[] 3)) s 0; simpa using this, Below.alloc (Below.alloc (Below.refl _ _) (Nat.le_refl _) _) (by simp) _⟩
    case round =>
      obtain ⟨k, acc, f, hk, hac, hf, hg, hown, hit, hb⟩ := hrel
      have HG := Lib.hid hg; clear hg
      by_cases hlt : k < s.size
      · cases hbad : badD (Utf8.decode s k)
        · obtain ⟨f', hf', hg'⟩ := rgo_step s f k acc (by omega) hbad hf
          have HG' := Lib.hid hg'; clear hg'
          obtain ⟨d1, d2, hd⟩ : ∃ d1 d2, Utf8.decode s k = (d1, d2) := ⟨_, _, rfl⟩
          have hnx0 := fun ty => Lib.run_next_any_at (P := Tryd.prog) wr (w1.heap.size + 1) s k ty hit hlt
          have hw1 := Lib.decode_width_pos s k hlt
          have hw2 := width_le s k hlt
          have hle := decode_le s k
          rw [hd] at HG' hf' hw1 hw2 hbad hle
          have hnx : ∀ ty, (Instr.next (.pointer (some ⟨w1.heap.size + 1, 0, none⟩)) true ty).run Tryd.prog wr = .ok (.tuple #[.bool true, .int .i64 k, .int .i32 (d1 : Int)]) (wr.iterAt (w1.heap.size + 1) s (k + d2)) := by
            intro ty; rw [hnx0 ty, hd]
          clear hnx0 hd hbad
          simp only at HG' hf' hw1 hw2 hle
          have hit2 := Lib.iterAt_heap wr (w1.heap.size + 1) s k (k + d2) hit
          have hbw2 := Lib.below_iterAt hb (k := w1.heap.size + 1) (by omega) s (k + d2)
          have hown2 := own_iter hown hit (k + d2)
          have hne := own_not_iter hown hit
          obtain ⟨W, hWd⟩ : ∃ W, wr.iterAt (w1.heap.size + 1) s (k + d2) = W := ⟨_, rfl⟩
          rw [hWd] at hnx hit2 hbw2 hown2
          clear hWd
          have hnews : ∀ j u, [Value.int .i64 (d1 : Int)][j]? = some u → (W.alloc (.cells #[.int .i64 (d1 : Int)] 3)).cell? ((⟨W.heap.size, 0, none⟩ : Addr).add j) = some u := cell_one_new _ _ _
          have HNE := Lib.hid hnews
          have HOA := Lib.hid (hown2.alloc (.cells #[.int .i64 (d1 : Int)] 3))
          have HOB := Lib.hid (own_base hown)
          have HNI := Lib.hid hne
          have HIT := Lib.hid hit2
          have HI0 := Lib.hid hit
          have HBW := Lib.hid hbw2
          have hzW := hbw2.size
          clear hown hown2 hnews hne hit hit2 hbw2 hb
          go_wp2_with (at_builtin; refine wpList_append_own _ rfl (.tmp 16) (.tmp 19) 22 rfl w1.heap.size 3 i0 (.int .i64 0) 1 8 Tryd.underlying22 hi hz0 hz1 hz2 rfl (by decide) _ _ _ rfl HOA.out ⟨W.heap.size, 0, none⟩ 1 1 [.int .i64 (d1 : Int)] rfl rfl HNE.out (by intro u hu; simp at hu; subst hu; rfl) (by unfold maxLen; omega) (by omega) (by simp; omega) ?_; intro v' w2 hown3 hgrow _)
          have hltW := (Array.getElem?_eq_some_iff.1 HIT.out).1
          have HIN := Lib.hid ((hgrow.block (w1.heap.size + 1) (by simp; omega) HNI.out).trans ((Below.heap_alloc W _ (w1.heap.size + 1) hltW).trans HIT.out))
          have hbN : Below w1.heap.size w1 w2 := (Below.alloc HBW.out (by omega) _).grown hgrow (by simp; omega) HOB.out
          go_roundw
          case rel => exact ⟨k + d2, acc ++ [d1], f', hw2, by simp; omega, hf', by rw [HG'.out, HG.out], by simpa [ints] using hown3, HIN.out, hbN⟩
          case measure => rw [iterPos_of HIN.out, iterPos_of HI0.out]; omega
        · exfalso
          have := rgo_bad s f k acc (by omega) hbad
          rw [HG.out] at this; cases this
      · obtain rfl : k = s.size := by omega
        have HN := Lib.hid (rgo_end s f s.size acc (by omega) (by omega))
        have hnx := fun ty => Lib.run_next_end_at (P := Tryd.prog) wr (w1.heap.size + 1) s s.size ty hit hlt
        go_wp2
        go_ret2
        have he : acc = L := by have := HN.out; rw [HG.out] at this; cases this; rfl
        subst he
        exact ⟨⟨_, acc, by rw [hO]; rfl, own_mono hown hz1', by rw [hO]; rfl⟩, HB1.out.trans (hb.mono hz1')⟩

end Go.Proofs.YtoaakbaijklhhaaDoor
