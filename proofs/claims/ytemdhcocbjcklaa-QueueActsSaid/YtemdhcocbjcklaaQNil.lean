/- QueueNil, the walk. -/
import Derived.Test.YtemdhcocbjcklaaSingle
namespace Go.Proofs.Ytemdhcocbjcklaa.Print
open Go.RowKit
attribute [local go_sem] run_loadVar_scalar
theorem actSize : (Try.prog.info? 30).map (·.size) = some 5 := by kernel_rfl
theorem load_act {w : World} {g : Nat} {A : Array Value} (hg : w.heap[g]? = some (.cells A 30)) (hA : A.size = 5) : (loadVar 30 ⟨g, 0, none⟩).run Try.prog w = .ok (.agg A) w :=
  run_loadVar_row w g 30 30 A (0, 0) _ hg Try.underlying30 rfl (by rw [hA]; exact actSize)
set_option maxRecDepth 100000 in
set_option maxHeartbeats 1600000 in
attribute [-go_sem] Instr.build Instr.fill loadVar in
theorem qnil_any (k s id b t : Int) (w : World) : Calls Try.prog 4 #[.agg #[.int .i64 k, .int .i64 s, .int .i64 id, .int .i64 b, .int .i64 t]] w fun x w' => x = .returned (.bool true) ∧ Below w.heap.size w w' := by
  have hz : ∀ w, (zeroValue 39).run Try.prog w = .ok (.agg itZ) w := zero_item
  have hb0 : ∀ w, (Instr.build 39 #[]).run Try.prog w = .ok (.agg itZ) w := build_item0
  have hZs := itZ_size
  have hst0 := fun (w : World) => store_row (P := Try.prog) (alloc_at w (.cells itZ 39)) itZ rfl itZ_one
  have hpop : ∀ w, Calls Try.prog 19 #[.pointer none] w fun x w' => x = .returned (.tuple #[.agg itZ, .int .i64 7]) ∧ Below w.heap.size w w' := fun w => pop_nil w
  have hsame : ∀ w, Calls Try.prog 21 #[.agg itZ, .agg itZ] w fun x w' => x = .returned (.bool true) ∧ Below w.heap.size w w' := fun w => same_same 0 0 0 0 0 w
  have hitem := fun w => item_any k s id b t w
  have hpush := fun w => push_nil s id 11 b t w
  generalize itemV s id 11 b t = Y at hitem hpush
  generalize itZ = Z at hz hb0 hZs hst0 hpop hsame
  have hA5 : (#[.int .i64 k, .int .i64 s, .int .i64 id, .int .i64 b, .int .i64 t] : Array Value).size = 5 := rfl
  have hA1 : (#[.int .i64 k, .int .i64 s, .int .i64 id, .int .i64 b, .int .i64 t] : Array Value)[1]? = some (.int .i64 s) := rfl
  generalize (#[.int .i64 k, .int .i64 s, .int .i64 id, .int .i64 b, .int .i64 t] : Array Value) = A at hitem hA5 hA1 ⊢
  have g0 := alloc_at w (.cells A 30)
  have hB0 : Below w.heap.size w (w.alloc (.cells A 30)) := (Below.refl _ _).alloc (Nat.le_refl _) _
  have HPO := Lib.hid hpop
  have HSA := Lib.hid hsame
  have HIT := Lib.hid hitem
  have HPU := Lib.hid hpush
  have HST := Lib.hid hst0
  have HA1 := Lib.hid hA1
  have HB0 := Lib.hid hB0
  have HG0 := Lib.hid g0
  clear hpop hsame hitem hpush hst0 hA1 hB0 g0
  go_enter Try.func4, Try.ntmps4
  go_wp2_with fail
  refine (HPO.out _).mono ?_
  rintro y w1 ⟨rfl, hb1⟩
  have g1 := later_of HG0.out hb1
  have hB1 := below_chain HB0.out hb1
  have hst1 := HST.out w1
  rw [World.setRow_alloc_new] at hst1
  have g2 := alloc_old g1 (.cells Z 39)
  have x2 := alloc_at w1 (.cells Z 39)
  have hldx := load_row23 x2 hZs
  have hB2 := hB1.alloc hB1.size (.cells Z 39)
  clear g1 hB1 hb1 x2
  go_wp2_with fail
  refine (HSA.out _).mono ?_
  rintro y w3 ⟨rfl, hb3⟩
  have g3 := later_of g2 hb3
  have hB3 := below_chain hB2 hb3
  have hld3 := load_act g3 hA5
  clear g2 hB2 hb3
  go_wp2_with fail
  refine (HIT.out _).mono ?_
  rintro y w4 ⟨rfl, hb4⟩
  have g4 := later_of g3 hb4
  have hB4 := below_chain hB3 hb4
  clear g3 hB3 hb4 hld3
  go_wp2_with fail
  refine (HPU.out _).mono ?_
  rintro y w5 ⟨rfl, hb5⟩
  have g5 := later_of g4 hb5
  have hB5 := below_chain hB4 hb5
  have c51 := (cell_of g5 1).trans HA1.out
  clear g4 hB4 hb5 g5
  go_wp2_with fail
  refine (drop_nil s _).mono ?_
  rintro y w6 ⟨rfl, rfl⟩
  go_wp2_with fail
  refine (qlen_nil _).mono ?_
  rintro y w6 ⟨rfl, rfl⟩
  go_wp2_with fail
  refine (qroom_nil _).mono ?_
  rintro y w6 ⟨rfl, rfl⟩
  go_wp2_with fail
  refine (qoldest_nil _).mono ?_
  rintro y w6 ⟨rfl, rfl⟩
  go_wp2_with fail
  refine (single_any _).mono ?_
  rintro y w7 ⟨rfl, hb7⟩
  go_wp2
  go_ret
  exact ⟨rfl, below_chain hB5 hb7⟩
end Go.Proofs.Ytemdhcocbjcklaa.Print
