/- 'string([]byte{..})' of bytes that a statement has just laid. -/
import Derived.Test.YtbjialckijphiaaDoorMem
import Derived.Laws.BytesString
import Derived.Laws.IdiomStrings
namespace Go.Proofs.YtbjialckijphiaaDoor
open Go.RowKit

theorem ret_str {a b : ByteArray} (h : a = b) : Ending.returned (.string a) = .returned (.string b) := by rw [h]

/-- 'string([]byte{..})' of bytes that the statement itself has just laid. -/
theorem fold_push (l : List Int) : ∀ r : ByteArray, l.foldl (fun r n => r.push (UInt8.ofNat n.toNat)) r = ⟨r.data ++ (l.map fun n => UInt8.ofNat n.toNat).toArray⟩ := by
  induction l with
  | nil => intro r; simp
  | cons c l ih => intro r; rw [List.foldl_cons, ih]; simp [ByteArray.push]

theorem conv_lit (W : World) (cs : List Int) : (convert 44 9 (.slice (some ⟨W.heap.size, 0, none⟩) cs.length cs.length)).run Tryd.prog (W.alloc (.cells (cs.map (Value.int .u8)).toArray 5)) =
    .ok (.string ⟨(cs.map fun n => UInt8.ofNat n.toNat).toArray⟩) (W.alloc (.cells (cs.map (Value.int .u8)).toArray 5)) := by
  rw [run_convert_bytes_string _ _ _ _ _ _ _ Tryd.underlying44 Tryd.underlying5 Tryd.underlying9]
  have hl := run_loadCells_list (P := Tryd.prog) (W.alloc (.cells (cs.map (Value.int .u8)).toArray 5)) ⟨W.heap.size, 0, none⟩ (cs.map (Value.int .u8)) (fun j v hj => by
    have hj' : j < cs.length := by have := (List.getElem?_eq_some_iff.1 hj).1; simpa using this
    rw [addr_add, Nat.zero_add]
    have hr := World.rowIs_alloc W (cs.map (Value.int .u8)).toArray 5 (fun j => (cs.map (Value.int .u8)).getD j undef) (fun i hi => by
      simp at hi
      simp [hi])
    rw [hr.cell (by simpa using hj'), List.getD_eq_getElem?_getD, hj]; rfl)
  simp only [List.length_map] at hl
  rw [run_bytesToString _ _ cs.length cs.length _ hl, fold_push]
  have he0 : ByteArray.empty.data = #[] := rfl
  rw [he0]; simp
theorem conv1 (W : World) (a : Int) : (convert 44 9 (.slice (some ⟨W.heap.size, 0, none⟩) 1 1)).run Tryd.prog (W.alloc (.cells #[.int .u8 a] 5)) = .ok (.string ⟨#[UInt8.ofNat a.toNat]⟩) (W.alloc (.cells #[.int .u8 a] 5)) := conv_lit W [a]
theorem conv2 (W : World) (a b : Int) : (convert 44 9 (.slice (some ⟨W.heap.size, 0, none⟩) 2 2)).run Tryd.prog (W.alloc (.cells #[.int .u8 a, .int .u8 b] 5)) = .ok (.string ⟨#[UInt8.ofNat a.toNat, UInt8.ofNat b.toNat]⟩) (W.alloc (.cells #[.int .u8 a, .int .u8 b] 5)) := conv_lit W [a, b]
theorem conv3 (W : World) (a b c : Int) : (convert 44 9 (.slice (some ⟨W.heap.size, 0, none⟩) 3 3)).run Tryd.prog (W.alloc (.cells #[.int .u8 a, .int .u8 b, .int .u8 c] 5)) = .ok (.string ⟨#[UInt8.ofNat a.toNat, UInt8.ofNat b.toNat, UInt8.ofNat c.toNat]⟩) (W.alloc (.cells #[.int .u8 a, .int .u8 b, .int .u8 c] 5)) := conv_lit W [a, b, c]
theorem conv4 (W : World) (a b c d : Int) : (convert 44 9 (.slice (some ⟨W.heap.size, 0, none⟩) 4 4)).run Tryd.prog (W.alloc (.cells #[.int .u8 a, .int .u8 b, .int .u8 c, .int .u8 d] 5)) = .ok (.string ⟨#[UInt8.ofNat a.toNat, UInt8.ofNat b.toNat, UInt8.ofNat c.toNat, UInt8.ofNat d.toNat]⟩) (W.alloc (.cells #[.int .u8 a, .int .u8 b, .int .u8 c, .int .u8 d] 5)) := conv_lit W [a, b, c, d]

end Go.Proofs.YtbjialckijphiaaDoor
