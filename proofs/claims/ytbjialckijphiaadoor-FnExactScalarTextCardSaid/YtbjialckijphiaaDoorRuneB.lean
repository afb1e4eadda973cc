/- spec.RunesOf and Utf8Ok: contracts. -/
import Derived.Test.YtbjialckijphiaaDoorRuneA
import Derived.Lib.MapLaws
namespace Go.Proofs.YtbjialckijphiaaDoor
open Go.RowKit

/-- The code points from k on, behind those of acc; none where something is no code point. -/
def rgo (s : ByteArray) : Nat → Nat → List Nat → Option (List Nat)
  | 0, _, _ => none
  | f + 1, k, acc => if s.size ≤ k then some acc else if badD (Utf8.decode s k) then none else rgo s f (k + (Utf8.decode s k).2) (acc ++ [(Utf8.decode s k).1])
def runesO (s : ByteArray) : Option (List Nat) := rgo s (s.size + 1) 0 []

theorem rgo_end (s : ByteArray) (f k : Nat) (acc : List Nat) (h : s.size ≤ k) (hf : 0 < f) : rgo s f k acc = some acc := by
  cases f with
  | zero => omega
  | succ f => rw [rgo, if_pos h]
theorem rgo_bad (s : ByteArray) (f k : Nat) (acc : List Nat) (h : ¬ s.size ≤ k) (hb : badD (Utf8.decode s k) = true) : rgo s f k acc = none := by
  cases f with
  | zero => rfl
  | succ f => rw [rgo, if_neg h, if_pos hb]
theorem rgo_step (s : ByteArray) (f k : Nat) (acc : List Nat) (h : ¬ s.size ≤ k) (hb : badD (Utf8.decode s k) = false) (hf : s.size < k + f) :
    ∃ f', s.size < k + (Utf8.decode s k).2 + f' ∧ rgo s f' (k + (Utf8.decode s k).2) (acc ++ [(Utf8.decode s k).1]) = rgo s f k acc := by
  cases f with
  | zero => omega
  | succ f =>
    have := Lib.decode_width_pos s k (by omega)
    exact ⟨f, by omega, by rw [rgo, if_neg h, if_neg (by simp [hb])]⟩

theorem badD_iff (d : Nat × Nat) : badD d = true ↔ d.1 = 65533 ∧ d.2 = 1 := by simp [badD]
theorem width_le (s : ByteArray) (k : Nat) (h : k < s.size) : k + (Utf8.decode s k).2 ≤ s.size := by
  have hne : s.data.toList.drop k ≠ [] := by simp; omega
  have := Lib.decodeL_le _ hne
  rw [Lib.decodeL_drop] at this
  simp at this; omega
/-- utf8.ValidString says the same. -/
theorem rgo_valid (s : ByteArray) : ∀ f k acc, s.size < k + f → k ≤ s.size → (rgo s f k acc).isSome = Lib.validD (s.data.toList.drop k)
  | 0, k, acc, h, h' => by omega
  | f + 1, k, acc, h, h' => by
    rw [rgo]
    by_cases hk : s.size ≤ k
    · have : s.data.toList.drop k = [] := List.drop_of_length_le (by simp; omega)
      rw [if_pos hk, this]; rfl
    · have hne : s.data.toList.drop k ≠ [] := by simp; omega
      rw [if_neg hk, Lib.validD_step _ hne, Lib.decodeL_drop]
      by_cases hb : badD (Utf8.decode s k) = true
      · rw [if_pos hb, if_pos ((badD_iff _).1 hb)]; rfl
      · rw [if_neg hb, if_neg (fun h => hb ((badD_iff _).2 h)), List.drop_drop]
        have := Lib.decode_width_pos s k (by omega)
        exact rgo_valid s f _ _ (by omega) (width_le s k (by omega))
theorem runes_valid (s : ByteArray) : (runesO s).isSome = Lib.validD s.data.toList := rgo_valid s _ 0 [] (by omega) (by omega)

theorem Tryd.infoInt : (Tryd.prog.info? 3).map (fun i => (i.zero, i.size, i.bytes)) = some (some (.int .i64 0), 1, 8) := by kernel_rfl

def ints (l : List Nat) : List Value := l.map fun n : Nat => Value.int .i64 (n : Int)

def RunesPost (s : ByteArray) (B : Nat) (e : Ending) (w' : World) : Prop := ∃ v l, e = .returned (.tuple #[v, .bool (runesO s).isSome]) ∧ w'.ownsRow B 3 1 v l.length (ints l) ∧ l = (runesO s).getD []

theorem own_base {w : World} {base e size : Nat} {v : Value} {n : Nat} {xs : List Value} (h : w.ownsRow base e size v n xs) : ∀ k, v.ownBlock = some k → base ≤ k := by
  intro k hk
  rcases h.2 with ⟨rfl, _⟩ | ⟨g, cap, cur, rfl, hg, _⟩
  · simp [Value.ownBlock] at hk
  · simp [Value.ownBlock] at hk; omega

theorem ownsRow_keep {w w' : World} {base e size : Nat} {v : Value} {n : Nat} {xs : List Value} (h : w.ownsRow base e size v n xs) (hb : Below w.heap.size w w') : w'.ownsRow base e size v n xs := by
  obtain ⟨h1, h2⟩ := h
  refine ⟨h1, ?_⟩
  rcases h2 with h2 | ⟨g, cap, cur, hv, hg, hh, r⟩
  · exact .inl h2
  · have : g < w.heap.size := by
      rcases Nat.lt_or_ge g w.heap.size with h | h
      · exact h
      · rw [Array.getElem?_eq_none h] at hh; cases hh
    exact .inr ⟨g, cap, cur, hv, hg, by rw [hb.block g this]; exact hh, r⟩

set_option maxHeartbeats 1000000 in
set_option maxRecDepth 100000 in
theorem sRunesOf (s : ByteArray) (w : World) (hs : s.size ≤ 1048576) :
    Calls Tryd.prog 45 #[.string s] w fun e w' => RunesPost s w.heap.size e w' ∧ Below w.heap.size w w' := by
  obtain ⟨i0, hi, hz0, hz1, hz2⟩ := info_parts Tryd.infoInt
  go_enter Tryd.func45, Tryd.ntmps45
  go_wp2_with fail
  have h0 := World.ownsRow_lit (e := 3) (size := 1) w #[] 0 (Nat.le_refl _) (by unfold maxLen; omega) rfl
  have H0 := Lib.hid h0; clear h0
  go_loopw [4, 5] (fun v i wr => ∃ (k : Nat) (acc : List Nat) (f : Nat), k ≤ s.size ∧ acc.length ≤ k ∧ i = .int .i64 k ∧ s.size < k + f ∧ rgo s f k acc = runesO s ∧ wr.ownsRow w.heap.size 3 1 v acc.length (ints acc) ∧ Below w.heap.size w wr) (fun _ i _ => s.size - (intOf i).toNat)
  case atStart => exact ⟨0, [], s.size + 1, by omega, by simp, rfl, by omega, rfl, H0.out, by repeat (first | exact Below.refl _ _ | (refine Below.alloc ?_ (by first | omega | (simp; done) | (simp; omega)) _) | (refine Below.setCell ?_ (by first | omega | (simp; done) | (simp; omega)) _) | (refine Below.drew ?_) | (refine below_drewN ?_ _))⟩
  case round =>
    obtain ⟨k, acc, f, hk, hac, rfl, hf, hg, hown, hb⟩ := hrel
    have HG := Lib.hid hg; clear hg
    by_cases hlt : k < s.size
    · cases hbad : badD (Utf8.decode s k)
      · obtain ⟨f', hf', hg'⟩ := rgo_step s f k acc (by omega) hbad hf
        have HG' := Lib.hid hg'; clear hg'
        obtain ⟨d1, d2, hd⟩ : ∃ d1 d2, Utf8.decode s k = (d1, d2) := ⟨_, _, rfl⟩
        have hw1 := Lib.decode_width_pos s k hlt
        have hw2 := width_le s k hlt
        have hg := rAt_good s k d1 d2 hlt hd hbad
        rw [hd] at HG' hf' hw1 hw2 hbad
        clear hd hbad
        simp only at HG' hf' hw1 hw2
        obtain ⟨e1, e2⟩ := hg
        go_wp2_with fail
        refine (sRuneAt _ _ _ hs (by omega)).mono ?_; rintro e w1 ⟨rfl, hb1⟩
        rw [e1, e2]
        clear e1 e2
        have hown1 : w1.ownsRow w.heap.size 3 1 _ acc.length (ints acc) := ownsRow_keep hown hb1
        have hz := hb.size
        have hz1' := hb1.size
        have hnews : ∀ j u, [Value.int .i64 (d1 : Int)][j]? = some u → (w1.alloc (.cells #[.int .i64 (d1 : Int)] 3)).cell? ((⟨w1.heap.size, 0, none⟩ : Addr).add j) = some u := cell_one_new _ _ _
        have HNE := Lib.hid hnews
        have HOA := Lib.hid (hown1.alloc (.cells #[.int .i64 (d1 : Int)] 3))
        have HOB := Lib.hid (own_base hown)
        clear hown hown1 hnews
        go_wp2_with (at_builtin; refine wpList_append_own _ rfl (.tmp 22) (.tmp 24) 53 rfl w.heap.size 3 i0 (.int .i64 0) 1 8 Tryd.underlying53 hi hz0 hz1 hz2 rfl (by decide) _ _ _ rfl HOA.out ⟨w1.heap.size, 0, none⟩ 1 1 [.int .i64 (d1 : Int)] rfl rfl HNE.out (by intro u hu; simp at hu; subst hu; rfl) (by unfold maxLen; omega) (by omega) (by simp; omega) ?_; intro v' w2 hown2 hgrow _)
        have hb2 : Below w.heap.size w w2 := (by repeat (first | exact bnext hb hb1 | (refine Below.alloc ?_ (by first | omega | (simp; done) | (simp; omega)) _) | (refine Below.setCell ?_ (by first | omega | (simp; done) | (simp; omega)) _) | (refine Below.drew ?_) | (refine below_drewN ?_ _)) : Below w.heap.size w (w1.alloc (.cells #[.int .i64 (d1 : Int)] 3))).grown hgrow (by simp; omega) HOB.out
        go_roundw
        case rel => exact ⟨k + d2, acc ++ [d1], f', hw2, by simp; omega, by go_num, hf', by rw [HG'.out, HG.out], by simpa [ints] using hown2, hb2⟩
        case measure => simp [intOf]; omega
      · obtain ⟨e1, e2⟩ := rAt_bad s k hbad
        have HN := Lib.hid (rgo_bad s f k acc (by omega) hbad)
        clear hbad
        go_wp2_with fail
        refine (sRuneAt _ _ _ hs (by omega)).mono ?_; rintro e w1 ⟨rfl, hb1⟩
        rw [e1, e2]
        clear e1 e2 hown
        go_wp2
        go_ret2
        have hz := hb.size
        have hz1' := hb1.size
        exact ⟨⟨_, [], by rw [← HG.out, HN.out]; rfl, World.ownsRow_lit (e := 3) (size := 1) w1 #[] 0 (by omega) (by unfold maxLen; omega) rfl, by rw [← HG.out, HN.out]; rfl⟩, by repeat (first | exact bnext hb hb1 | (refine Below.alloc ?_ (by first | omega | (simp; done) | (simp; omega)) _) | (refine Below.setCell ?_ (by first | omega | (simp; done) | (simp; omega)) _) | (refine Below.drew ?_) | (refine below_drewN ?_ _))⟩
    · obtain rfl : k = s.size := by omega
      have HN := Lib.hid (rgo_end s f s.size acc (by omega) (by omega))
      go_wp2
      go_ret2
      exact ⟨⟨_, acc, by rw [← HG.out, HN.out]; rfl, hown, by rw [← HG.out, HN.out]; rfl⟩, hb⟩

theorem sUtf8Ok (s : ByteArray) (w : World) (hs : s.size ≤ 1048576) :
    Calls Tryd.prog 43 #[.string s] w fun e w' => e = .returned (.bool (runesO s).isSome) ∧ Below w.heap.size w w' := by
  go_enter Tryd.func43, Tryd.ntmps43
  go_wp2_with fail
  refine (sRunesOf _ _ hs).mono ?_; rintro e w1 ⟨⟨v, l, rfl, -, -⟩, hb1⟩
  go_wp2
  go_ret
  exact ⟨rfl, hb1⟩

end Go.Proofs.YtbjialckijphiaaDoor
