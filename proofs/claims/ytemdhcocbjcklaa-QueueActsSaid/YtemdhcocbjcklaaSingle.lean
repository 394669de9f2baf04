/- queue: New; a queue of one item. -/
import Derived.Test.YtemdhcocbjcklaaSame2
namespace Go.Proofs.Ytemdhcocbjcklaa.Print
open Go.RowKit
attribute [local go_sem] run_loadVar_scalar

theorem queue0_size (room : Int) : (queue0 room).size = 371 := by kernel_rfl
theorem queue0_first (room : Int) : (queue0 room)[368]? = some (.int .i64 0) := by kernel_rfl
theorem queue0_n (room : Int) : (queue0 room)[369]? = some (.int .i64 0) := by kernel_rfl
theorem queue0_room (room : Int) : (queue0 room)[370]? = some (.int .i64 room) := by kernel_rfl
theorem qnew_z (room : Nat) (h1 : 1 ≤ room) (h2 : room ≤ 16) (i : Int) (hi : i = room) (w : World) : Calls Try.prog 15 #[.int .i64 i] w fun x w' =>
    x = .returned (.tuple #[.pointer (some ⟨w.heap.size, 0, none⟩), .int .i64 0]) ∧ QIs w' w.heap.size [] room ∧ Below w.heap.size w w' ∧ w'.heap.size = w.heap.size + 1 := by
  subst hi
  refine (qnew_ok room (by omega) (by omega) w).mono fun x w' ⟨hx, hw⟩ => ⟨hx, ?_, by subst hw; exact (Below.refl _ _).alloc (Nat.le_refl _) _, by subst hw; simp⟩
  subst hw
  exact ⟨queue0 room, 0, ⟨alloc_at _ _, queue0_first _, queue0_n _, queue0_room _, Nat.zero_le _, h2, by omega⟩, queue0_size _, fun j h => by cases h⟩
theorem qlen_z {w : World} {b room : Nat} {its : List It} (q : QIs w b its room) : Calls Try.prog 23 #[.pointer (some ⟨b, 0, none⟩)] w fun x w' => x = .returned (.int .i64 its.length) ∧ w = w' := by
  obtain ⟨Q, first, hq, _⟩ := q
  exact qlen_any b Q first _ room w hq
theorem qroom_z {w : World} {b room : Nat} {its : List It} (q : QIs w b its room) : Calls Try.prog 24 #[.pointer (some ⟨b, 0, none⟩)] w fun x w' => x = .returned (.int .i64 ((room : Int) - its.length)) ∧ Below w.heap.size w w' := by
  obtain ⟨Q, first, hq, _⟩ := q
  exact qroom_any b Q first _ room w hq
def oldest (its : List It) : Int := match its with | [] => -1 | x :: _ => x.2.2.2.2
theorem qoldest_z {w : World} {b room : Nat} {its : List It} (q : QIs w b its room) : Calls Try.prog 25 #[.pointer (some ⟨b, 0, none⟩)] w fun x w' => x = .returned (.int .i64 (oldest its)) ∧ Below w.heap.size w w' := by
  cases its with
  | nil =>
    obtain ⟨Q, first, hq, _⟩ := q
    exact (qoldest_none b Q first room w hq).mono fun x w' ⟨hx, hw⟩ => ⟨hx, by subst hw; exact Below.refl _ _⟩
  | cons x r => exact qoldest_some q
theorem push_over {w : World} {b room : Nat} {its : List It} (q : QIs w b its room) (h : its.length = room) (X : Array Value) :
    Calls Try.prog 17 #[.pointer (some ⟨b, 0, none⟩), .agg X] w fun e w' => e = .returned (.int .i64 31) ∧ Below w.heap.size w w' := by
  obtain ⟨Q, first, hq, _⟩ := q
  rw [h] at hq
  exact push_full b Q first room X w hq
theorem pop_empty {w : World} {b room : Nat} (q : QIs w b [] room) : Calls Try.prog 19 #[.pointer (some ⟨b, 0, none⟩)] w fun x w' => x = .returned (.tuple #[.agg itZ, .int .i64 6]) ∧ Below w.heap.size w w' := by
  obtain ⟨Q, first, hq, _⟩ := q
  exact pop_none b Q first room w hq
set_option maxRecDepth 100000 in
set_option maxHeartbeats 1600000 in
attribute [-go_sem] Instr.build Instr.fill loadVar in
theorem single_any (w : World) : Calls Try.prog 14 #[] w fun x w' => x = .returned (.bool true) ∧ Below w.heap.size w w' := by
  have hb1 : ∀ w, (Instr.build 39 #[(0, .int .i64 3), (3, .int .i64 7)]).run Try.prog w = .ok (.agg (itV (3, 0, 0, 0, 7))) w := fun w => run_build w 39 _ _ (by kernel_rfl)
  have hb2 : ∀ w, (Instr.build 39 #[(0, .int .i64 4)]).run Try.prog w = .ok (.agg (itV (4, 0, 0, 0, 0))) w := fun w => run_build w 39 _ _ (by kernel_rfl)
  have hz : ∀ w, (zeroValue 39).run Try.prog w = .ok (.agg itZ) w := zero_item
  have hZs := itZ_size
  have hst0 := fun (w : World) (x : It) => store_row (P := Try.prog) (alloc_at w (.cells itZ 39)) (itV x) rfl (itV_one x)
  have hpush := fun (w : World) (b : Nat) (q : QIs w b [] 1) => push_ok q (by simp) (3, 0, 0, 0, 7)
  have hpop := fun (w : World) (b : Nat) (q : QIs w b [(3, 0, 0, 0, 7)] 1) => pop_ok q
  have h0 : (itV (3, 0, 0, 0, 7))[0]? = some (.int .i64 3) := rfl
  have h22 : (itV (3, 0, 0, 0, 7))[22]? = some (.int .i64 7) := rfl
  have hXs := itV_size (3, 0, 0, 0, 7)
  have hst1 := fun w => hst0 w (3, 0, 0, 0, 7)
  generalize itV (3, 0, 0, 0, 7) = X at hb1 hpush hpop h0 h22 hXs hst1
  generalize itV (4, 0, 0, 0, 0) = Y at hb2
  generalize itZ = Z at hz hZs hst1
  have HPU := Lib.hid hpush
  have HPO := Lib.hid hpop
  have HST := Lib.hid hst1
  have H0 := Lib.hid h0
  have H22 := Lib.hid h22
  clear hst0 hpush hpop hst1 h0 h22
  go_enter Try.func14, Try.ntmps14
  go_wp2_with fail
  refine (qnew_z 1 (by omega) (by omega) _ rfl w).mono ?_
  rintro y w1 ⟨rfl, q1, hB1, hz1⟩
  have hbW : w.heap.size < w1.heap.size := by omega
  clear hz1
  go_wp2_with fail
  refine (HPU.out _ _ q1).mono ?_
  rintro y w2 ⟨rfl, q2, U2⟩
  have hB2 : Below w.heap.size w w2 := hB1.trans (U2.below hB1.size (fun i hi e => by omega))
  clear q1 U2 hB1
  go_wp2_with fail
  refine (push_over q2 rfl Y).mono ?_
  rintro y w3 ⟨rfl, hb3⟩
  have q3 := q2.below hb3
  have hB3 := below_chain hB2 hb3
  clear q2 hB2 hb3
  go_wp2_with fail
  refine (HPO.out _ _ q3).mono ?_
  rintro y w4 ⟨rfl, q4, U4⟩
  have hB4 : Below w.heap.size w w4 := hB3.trans (U4.below hB3.size (fun i hi e => by omega))
  have hst4 := HST.out w4
  rw [World.setRow_alloc_new] at hst4
  have g5 := alloc_at w4 (.cells X 39)
  have c0 := (cell_of g5 0).trans H0.out
  have c22 := (cell_of g5 22).trans H22.out
  have q5 := q4.below ((Below.refl _ _).alloc (Nat.le_refl _) (.cells X 39))
  have hB5 := hB4.alloc hB4.size (.cells X 39)
  have HQ5 := Lib.hid q5
  have HB5 := Lib.hid hB5
  clear q3 U4 hB3 q4 hB4 g5 q5 hB5
  go_wp2_with fail
  refine (qlen_z HQ5.out).mono ?_
  rintro y w6 ⟨rfl, rfl⟩
  go_wp2_with fail
  refine (qroom_z HQ5.out).mono ?_
  rintro y w6 ⟨rfl, hb6⟩
  go_wp2_with fail
  refine (qoldest_z (HQ5.out.below hb6)).mono ?_
  rintro y w7 ⟨rfl, hb7⟩
  go_wp2
  go_ret
  exact ⟨rfl, below_chain (below_chain HB5.out hb6) hb7⟩
end Go.Proofs.Ytemdhcocbjcklaa.Print
