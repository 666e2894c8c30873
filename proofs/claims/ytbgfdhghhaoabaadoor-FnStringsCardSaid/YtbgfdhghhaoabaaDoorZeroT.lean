/- A new text of zero bytes: make and conversion. -/
import Derived.Test.YtbgfdhghhaoabaaDoorCurD
namespace Go.Proofs.YtbgfdhghhaoabaaDoor
open Go.RowKit

/-- a text of zero bytes -/
def zeroT (n : Nat) : ByteArray := ⟨(List.replicate n (0 : UInt8)).toArray⟩
theorem zeroT_size (n : Nat) : (zeroT n).size = n := by
  show (List.replicate n (0 : UInt8)).toArray.size = n
  simp
abbrev zeroV (n : Nat) : List Value := List.replicate n (Value.int .u8 0)
theorem info_u8 : (Tryd.prog.info? 5).map (fun i => (i.zero, i.size, i.bytes)) = some (some (.int .u8 0), 1, 1) := by kernel_rfl
theorem make_zero (n : Nat) (hn : n ≤ 2097152) (u : World) : (Instr.makeSlice 35 (.int .i64 (n : Int)) (.int .i64 (n : Int))).run Tryd.prog u =
    .ok (.slice (some ⟨u.heap.size, 0, none⟩) n n) (u.alloc (.cells (zeroV n).toArray 5)) := by
  obtain ⟨i0, hi, hz0, hz1, hz2⟩ := info_parts info_u8
  have h := run_make (P := Tryd.prog) u 35 5 i0 (.int .u8 0) Tryd.underlying35 hi hz0 .i64 .i64 (n : Int) (n : Int) (by omega) (Int.le_refl _) (by rw [hz2]; omega) (by omega)
  have e1 : madeCells #[Value.int .u8 0] n = (zeroV n).toArray := by
    apply Array.ext'
    rw [toList_madeCells_one]
  rw [← e1]
  simpa [hz1, Value.cells] using h
theorem make_zero2 (k : Int) (m q : Nat) (hk : k = (m : Int)) (hn : m + q ≤ 2097152) (u : World) : (Instr.makeSlice 35 (.int .i64 (k + (q : Int))) (.int .i64 (k + (q : Int)))).run Tryd.prog u =
    .ok (.slice (some ⟨u.heap.size, 0, none⟩) (m + q) (m + q)) (u.alloc (.cells (zeroV (m + q)).toArray 5)) := by
  have h := make_zero (m + q) hn u
  rw [show ((m + q : Nat) : Int) = k + (q : Int) by omega] at h
  exact h
theorem conv_zero (n : Nat) (u : World) : (convert 35 9 (.slice (some ⟨u.heap.size, 0, none⟩) n n)).run Tryd.prog (u.alloc (.cells (zeroV n).toArray 5)) = .ok (.string (zeroT n)) (u.alloc (.cells (zeroV n).toArray 5)) := by
  have h := run_convert_bytes_back (P := Tryd.prog) (u.alloc (.cells (zeroV n).toArray 5)) 35 9 5 ⟨u.heap.size, 0, none⟩ n (List.replicate n 0) Tryd.underlying35 Tryd.underlying5 Tryd.underlying9 (fun j hj => by
    have hj0 : j < n := by simpa using hj
    rw [show ((⟨u.heap.size, 0, none⟩ : Addr).add j) = ⟨u.heap.size, j, none⟩ from by simp [Addr.add]; omega, Go.Joins.cell_of_block (heap_alloc_new u _) j]
    simp [hj0])
  rw [List.length_replicate] at h
  exact h
theorem conv_zero2 (n : Nat) (u : World) : (convert 35 9 (.slice (some ⟨u.heap.size, 0, none⟩) n n)).run Tryd.prog (u.alloc (.cells (Array.replicate n (Value.int .u8 0)) 5)) = .ok (.string (zeroT n)) (u.alloc (.cells (Array.replicate n (Value.int .u8 0)) 5)) := by
  have h := conv_zero n u
  rw [show (zeroV n).toArray = Array.replicate n (Value.int .u8 0) from by simp] at h
  exact h
end Go.Proofs.YtbgfdhghhaoabaaDoor
