/- queue: items; a nil queue. -/
import Derived.Test.YtemdhcocbjcklaaQueue
namespace Go.Proofs.Ytemdhcocbjcklaa.Print
open Go.RowKit

/-- An item as the laws make it: its session, the request's ID and kind, bytes, tick. -/
abbrev itemV (s id k b t : Int) : Array Value := #[.int .i64 s, .int .i64 id, .int .i64 k, .int .i64 0, .string ⟨#[]⟩, .int .i64 0, .string ⟨#[]⟩, .int .i64 0, .string ⟨#[]⟩, .int .i64 0, .int .i64 0, .int .i64 0, .bool false, .string ⟨#[]⟩, .string ⟨#[]⟩,
  .int .i64 0, .int .i64 0, .int .i64 0, .int .i64 0, .int .i64 0, .slice none 0 0, .int .i64 b, .int .i64 t]

set_option maxRecDepth 100000 in
set_option maxHeartbeats 800000 in
theorem push_nil (s id k b t : Int) (w : World) : Calls Try.prog 17 #[.pointer none, .agg (itemV s id k b t)] w fun x w' => x = .returned (.int .i64 7) ∧ Below w.heap.size w w' := by
  go_enter Try.func17, Try.ntmps17
  go_wp2
  go_ret
  exact ⟨rfl, (Below.refl _ _).alloc (Nat.le_refl _) _⟩

set_option maxRecDepth 100000 in
set_option maxHeartbeats 800000 in
theorem drop_nil (s : Int) (w : World) : Calls Try.prog 20 #[.pointer none, .int .i64 s] w fun x w' => x = .returned (.int .i64 0) ∧ w = w' := by
  go_enter Try.func20, Try.ntmps20
  go_wp2_with fail
  refine (qlen_nil _).mono ?_
  rintro x w1 ⟨rfl, rfl⟩
  go_wp2
  go_loopw [5, 10] (fun d i wr => d = .int .i64 0 ∧ i = .int .i64 0 ∧ w = wr) (fun _ _ _ => 0)
  case atStart => exact ⟨rfl, rfl, rfl⟩
  case round =>
    obtain ⟨rfl, rfl, rfl⟩ := hrel
    go_wp2
    go_ret
    exact ⟨rfl, rfl⟩
end Go.Proofs.Ytemdhcocbjcklaa.Print
