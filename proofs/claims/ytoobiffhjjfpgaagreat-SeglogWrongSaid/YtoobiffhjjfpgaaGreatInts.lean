/- Numbers in memory; pointers' zero; a header's base. -/
import Derived.Test.YtoobiffhjjfpgaaGreatOff
namespace Go.Proofs.YtoobiffhjjfpgaaGreat.Print
open Go.RowKit
attribute [local go_sem] run_loadVar_scalar

abbrev ptrV (s : Nat) : Value := .pointer (some ⟨s, 0, none⟩)
theorem info_ptr : (Tryz.prog.info? 83).map (fun i => (i.zero, i.size, i.bytes)) = some (some (.pointer none), 1, 8) := by kernel_rfl
theorem info_ptr2 : (Tryz.prog.info? 83).map (fun i => (i.zero, i.size)) = some (some (.pointer none), 1) := by kernel_rfl
theorem field_base (a b c d : Int) (w : World) : (Instr.field 138 (hdV a b c d) 3).run Tryz.prog w = .ok (.int .i64 d) w := by kernel_rfl
/-- Numbers in memory. -/
def IntsAt (w : World) (ao : Option Addr) (l : List Nat) : Prop := ∀ i (h : i < l.length), ∃ a, ao = some a ∧ w.cell? (a.add i) = some (.int .i64 l[i])
theorem IntsAt.below {w w1 : World} {ao : Option Addr} {l : List Nat} (h : IntsAt w ao l) (hb : Below w.heap.size w w1) : IntsAt w1 ao l := by
  intro i hi
  obtain ⟨a, ha, hc⟩ := h i hi
  refine ⟨a, ha, ?_⟩
  rw [World.cell?_of_block (hb.block _ (World.block_lt_of_cell? w _ hc))]
  exact hc
theorem IntsAt.of_row {w : World} {B : Nat} {v : Value} {l : List Nat} {n : Nat} (hn : n = l.length) (h : w.ownsRow B 3 1 v n (oC l)) : ∃ ao ac, v = .slice ao n ac ∧ IntsAt w ao l := by
  subst hn
  rcases h.2 with ⟨rfl, h0⟩ | ⟨g, cap, cur, rfl, _, hg, _, _, hsz, htake⟩
  · exact ⟨none, 0, by rw [h0], fun i hi => by omega⟩
  · refine ⟨_, _, rfl, fun i hi => ⟨⟨g, 0, none⟩, rfl, ?_⟩⟩
    rw [Addr.add_lit, Nat.zero_add, cell_of hg, ← oC_at l i hi, ← htake, List.getElem?_take_of_lt (by omega)]
    simp
set_option maxRecDepth 100000 in
set_option maxHeartbeats 800000 in
/-- The same numbers are the same. -/
theorem ints_any {w : World} {ao bo : Option Addr} {l : List Nat} (h : IntsAt w ao l) (g : IntsAt w bo l) (ca cb : Nat) (hl : l.length ≤ 1000000) :
    Calls Tryz.prog 47 #[.slice ao l.length ca, .slice bo l.length cb] w fun x w' => x = .returned (.bool true) ∧ Below w.heap.size w w' := by
  have H := Lib.hid h
  have H2 := Lib.hid g
  clear h g
  go_enter Tryz.func47, Tryz.ntmps47
  go_wp2_with fail
  go_loopw [13] (fun i wr => ∃ j : Nat, j ≤ l.length ∧ i = .int .i64 j ∧ Below w.heap.size w wr) (fun i _ => l.length - (intOf i).toNat)
  case atStart => exact ⟨0, Nat.zero_le _, rfl, Below.refl _ _⟩
  case round =>
    obtain ⟨j, hj, rfl, hB⟩ := hrel
    by_cases hlt : j < l.length
    · obtain ⟨a, ha, hc⟩ := (H.out.below hB) j hlt
      obtain ⟨b, hb, hd⟩ := (H2.out.below hB) j hlt
      have HA := Lib.hid ha
      have HB2 := Lib.hid hb
      subst ha
      subst hb
      obtain ⟨y, hy⟩ : ∃ y, l[j] = y := ⟨_, rfl⟩
      rw [hy] at hc hd
      have q1 : (j : Int) < (l.length : Int) := by omega
      clear hy
      go_wp2_with fail
      go_quiet (fail)
      go_wp2
      go_roundw
      case rel => exact ⟨j + 1, hlt, by simp, below_drewN hB _⟩
      case measure => simp [intOf]; omega
    · obtain rfl : j = l.length := by omega
      go_wp2
      go_ret
      exact ⟨rfl, hB⟩
end Go.Proofs.YtoobiffhjjfpgaaGreat.Print
