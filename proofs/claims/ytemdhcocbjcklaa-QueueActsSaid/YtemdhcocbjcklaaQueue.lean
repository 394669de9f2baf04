/- queue: its block, New, Len, Room, Oldest. -/
import Derived.Test.YtemdhcocbjcklaaBase
namespace Go.Proofs.Ytemdhcocbjcklaa.Print
open Go.RowKit

/-- An item without anything, as cells. -/
noncomputable def item0 : List Value := ((Try.prog.info? 39).bind (·.zero)).elim [] fun v => v.cells.toList
theorem item0_length : item0.length = 23 := by kernel_rfl
/-- A new queue's cells: sixteen items without anything, first, n, room. -/
noncomputable def queue0 (room : Int) : Array Value := ((List.replicate 16 item0).flatten ++ [Value.int .i64 0, Value.int .i64 0, Value.int .i64 room]).toArray
theorem queue0_build (room : Int) (w : World) : (Instr.build 116 #[(3, .int .i64 room)]).run Try.prog w = .ok (.agg (queue0 room)) w := run_build w 116 _ _ (by kernel_rfl)

set_option maxRecDepth 100000 in
theorem qnew_bad (room : Int) (h : room < 1 ∨ 16 < room) (w : World) :
    Calls Try.prog 15 #[.int .i64 room] w fun x w' => x = .returned (.tuple #[.pointer none, .int .i64 1]) ∧ w = w' := by
  by_cases h1 : room < 1
  · have k1 : decide (room < 1) = true := by simp; omega
    go_enter Try.func15, Try.ntmps15
    go_wp2
    go_ret2
    exact ⟨rfl, rfl⟩
  · have k1 : decide (room < 1) = false := by simp; omega
    have k2 : decide (16 < room) = true := by simp; omega
    go_enter Try.func15, Try.ntmps15
    go_wp2
    go_ret2
    exact ⟨rfl, rfl⟩

set_option maxRecDepth 100000 in
theorem qnew_ok (room : Int) (h1 : 1 ≤ room) (h2 : room ≤ 16) (w : World) :
    Calls Try.prog 15 #[.int .i64 room] w fun x w' => x = .returned (.tuple #[.pointer (some ⟨w.heap.size, 0, none⟩), .int .i64 0]) ∧ w' = w.alloc (.cells (queue0 room) 116) := by
  have k1 : decide (room < 1) = false := by simp; omega
  have k2 : decide (16 < room) = false := by simp; omega
  have hb := queue0_build room
  go_enter Try.func15, Try.ntmps15
  go_wp2
  go_ret2
  exact ⟨rfl, rfl⟩

theorem qlen_nil (w : World) : Calls Try.prog 23 #[.pointer none] w fun x w' => x = .returned (.int .i64 0) ∧ w = w' := by
  go_enter Try.func23, Try.ntmps23
  go_wp2
  go_ret
  exact ⟨rfl, rfl⟩
theorem qroom_nil (w : World) : Calls Try.prog 24 #[.pointer none] w fun x w' => x = .returned (.int .i64 0) ∧ w = w' := by
  go_enter Try.func24, Try.ntmps24
  go_wp2
  go_ret
  exact ⟨rfl, rfl⟩
theorem qoldest_nil (w : World) : Calls Try.prog 25 #[.pointer none] w fun x w' => x = .returned (.int .i64 (-1)) ∧ w = w' := by
  go_enter Try.func25, Try.ntmps25
  go_wp2_with fail
  refine (qlen_nil _).mono ?_
  rintro x w1 ⟨rfl, rfl⟩
  go_wp2
  go_ret
  exact ⟨rfl, rfl⟩
/-- A queue's block, read. -/
structure QAt (w : World) (b : Nat) (Q : Array Value) (first n room : Nat) : Prop where
  at_ : w.heap[b]? = some (.cells Q 116)
  first_ : Q[368]? = some (.int .i64 first)
  n_ : Q[369]? = some (.int .i64 n)
  room_ : Q[370]? = some (.int .i64 room)
  n_le : n ≤ room
  room_le : room ≤ 16
  first_lt : first < 16
theorem qlen_any (b : Nat) (Q : Array Value) (first n room : Nat) (w : World) (h : QAt w b Q first n room) : Calls Try.prog 23 #[.pointer (some ⟨b, 0, none⟩)] w fun x w' => x = .returned (.int .i64 n) ∧ w = w' := by
  have c := (cell_of h.at_ 369).trans h.n_
  go_enter Try.func23, Try.ntmps23
  go_wp2
  go_ret
  exact ⟨rfl, rfl⟩
theorem qat_any (b : Nat) (Q : Array Value) (first n room : Nat) (i : Nat) (hi : i ≤ 16) (w : World) (h : QAt w b Q first n room) : Calls Try.prog 54 #[.pointer (some ⟨b, 0, none⟩), .int .i64 i] w fun x w' => x = .returned (.int .i64 ((first + i) % 16 : Nat)) ∧ w = w' := by
  have c := (cell_of h.at_ 368).trans h.first_
  have hf := h.first_lt
  go_enter Try.func54, Try.ntmps54
  go_wp2
  go_ret
  exact ⟨ret_int (by omega), rfl⟩
end Go.Proofs.Ytemdhcocbjcklaa.Print
