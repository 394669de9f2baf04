/- queue: Room, Oldest, a Push that has no room. -/
import Derived.Test.YtemdhcocbjcklaaItem3
namespace Go.Proofs.Ytemdhcocbjcklaa.Print
open Go.RowKit
set_option maxRecDepth 100000 in
theorem qroom_any (b : Nat) (Q : Array Value) (first n room : Nat) (w : World) (h : QAt w b Q first n room) : Calls Try.prog 24 #[.pointer (some ⟨b, 0, none⟩)] w fun x w' => x = .returned (.int .i64 ((room : Int) - n)) ∧ Below w.heap.size w w' := by
  have c := (cell_of h.at_ 369).trans h.n_
  have d := (cell_of h.at_ 370).trans h.room_
  have h1 := h.n_le
  have h2 := h.room_le
  go_enter Try.func24, Try.ntmps24
  go_wp2
  go_quiet (fail)
  go_wp2
  go_ret
  exact ⟨ret_int (by first | rfl | (rw [IntKind.wrap_i64]; omega)), below_drewN (Below.refl _ _) _⟩
theorem qoldest_none (b : Nat) (Q : Array Value) (first room : Nat) (w : World) (h : QAt w b Q first 0 room) : Calls Try.prog 25 #[.pointer (some ⟨b, 0, none⟩)] w fun x w' => x = .returned (.int .i64 (-1)) ∧ w = w' := by
  have hl := qlen_any b Q first 0 room w h
  go_enter Try.func25, Try.ntmps25
  go_wp2_with fail
  refine hl.mono ?_
  rintro x w1 ⟨rfl, rfl⟩
  go_wp2
  go_ret
  exact ⟨rfl, rfl⟩
set_option maxRecDepth 100000 in
theorem push_full (b : Nat) (Q : Array Value) (first room : Nat) (I : Array Value) (w : World) (h : QAt w b Q first room room) : Calls Try.prog 17 #[.pointer (some ⟨b, 0, none⟩), .agg I] w fun x w' => x = .returned (.int .i64 31) ∧ Below w.heap.size w w' := by
  have h' := alloc_old h.at_ (.cells I 39)
  have hB : Below w.heap.size w (w.alloc (.cells I 39)) := (Below.refl _ _).alloc (Nat.le_refl _) _
  have c := (cell_of h' 369).trans h.n_
  have d := (cell_of h' 370).trans h.room_
  go_enter Try.func17, Try.ntmps17
  go_wp2
  go_quiet (fail)
  go_wp2
  go_ret
  exact ⟨rfl, below_drewN hB _⟩
set_option maxRecDepth 100000 in
set_option maxHeartbeats 400000 in
theorem pop_none (b : Nat) (Q : Array Value) (first room : Nat) (w : World) (h : QAt w b Q first 0 room) : Calls Try.prog 19 #[.pointer (some ⟨b, 0, none⟩)] w fun x w' => x = .returned (.tuple #[.agg (itemV 0 0 0 0 0), .int .i64 6]) ∧ Below w.heap.size w w' := by
  have hz := zero_item
  have hb := build_item0
  have hI : (itemV 0 0 0 0 0).size = 23 := rfl
  have h' := alloc_old h.at_ (.cells (itemV 0 0 0 0 0) 39)
  have c := (cell_of h' 369).trans h.n_
  have hst := store_item_new w (itemV 0 0 0 0 0) (itemV 0 0 0 0 0) rfl (item_one 0 0 0 0 0)
  have hld := load_item (w.alloc (.cells (itemV 0 0 0 0 0) 39)) w.heap.size 39 (0, 0) (itemV 0 0 0 0 0) rfl (alloc_at _ _)
  obtain ⟨I0, hI0⟩ : ∃ I0, itemV 0 0 0 0 0 = I0 := ⟨_, rfl⟩
  have hlt := lt_of h.at_
  have hne : b ≠ w.heap.size := Nat.ne_of_lt hlt
  have hq := (cell_of h.at_ 369).trans h.n_
  rw [hI0] at hz hb hI hst hld c ⊢
  clear hI0 h'
  go_enter Try.func19, Try.ntmps19
  go_wp2
  exact bodyPost_ret (v := .tuple #[.agg I0, .int .i64 6]) (by simp [results, Try.results19, asAddr, hld]) rfl ⟨rfl, (Below.refl _ _).alloc (Nat.le_refl _) _⟩
end Go.Proofs.Ytemdhcocbjcklaa.Print
