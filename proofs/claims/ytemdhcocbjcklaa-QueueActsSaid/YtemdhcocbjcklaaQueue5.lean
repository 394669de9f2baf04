/- queue: Oldest, Drop. -/
import Derived.Test.YtemdhcocbjcklaaQueue4
namespace Go.Proofs.Ytemdhcocbjcklaa.Print
open Go.RowKit
attribute [local go_sem] run_loadVar_scalar

set_option maxRecDepth 100000 in
theorem qoldest_some {w : World} {b room : Nat} {x : It} {r : List It} (q : QIs w b (x :: r) room) : Calls Try.prog 25 #[.pointer (some ⟨b, 0, none⟩)] w fun e w' => e = .returned (.int .i64 x.2.2.2.2) ∧ Below w.heap.size w w' := by
  obtain ⟨Q, first, hq, hQ, hit⟩ := q
  have hF := hq.first_lt
  have hl := qlen_any b Q first _ room w hq
  have c8 := (cell_of hq.at_ 368).trans hq.first_
  have cx : w.cell? ⟨b, first * 23 + 22, none⟩ = some (.int .i64 x.2.2.2.2) := by
    have := hit 0 (by simp) 22 (by omega)
    simp only [Nat.add_zero, Nat.mod_eq_of_lt hF] at this
    rw [cell_of hq.at_, this]; rfl
  have hne : (((x :: r).length : Int) == 0) = false := by simp; omega
  have hi0 : (0 : Int) ≤ (first : Int) := Int.natCast_nonneg _
  have hi1 : (first : Int) < 16 := by omega
  generalize (x :: r).length = n at hl hne
  have HL := Lib.hid hl
  clear hq hit hQ hl
  go_enter Try.func25, Try.ntmps25
  go_wp2_with fail
  refine HL.out.mono ?_
  rintro y w1 ⟨rfl, rfl⟩
  go_wp2
  go_quiet (fail)
  go_wp2
  go_ret
  exact ⟨rfl, below_drewN (Below.refl _ _) _⟩
/-- How many items are of a session. -/
def cnt (s : Int) (l : List It) : Nat := (l.filter (fun x => x.1 == s)).length
def others (s : Int) (l : List It) : List It := l.filter (fun x => !(x.1 == s))
theorem cnt_yes (s : Int) (l : List It) (x : It) (h : (x.1 == s) = true) : cnt s (l ++ [x]) = cnt s l + 1 := by simp [cnt, List.filter_append, h]
theorem cnt_no (s : Int) (l : List It) (x : It) (h : (x.1 == s) = false) : cnt s (l ++ [x]) = cnt s l := by simp [cnt, List.filter_append, h]
theorem others_yes (s : Int) (l : List It) (x : It) (h : (x.1 == s) = true) : others s (l ++ [x]) = others s l := by simp [others, List.filter_append, h]
theorem others_no (s : Int) (l : List It) (x : It) (h : (x.1 == s) = false) : others s (l ++ [x]) = others s l ++ [x] := by simp [others, List.filter_append, h]
def DropRel (w : World) (b : Nat) (its : List It) (s : Int) (room : Nat) (d i : Value) (wr : World) : Prop :=
  ∃ j : Nat, j ≤ its.length ∧ i = .int .i64 j ∧ d = .int .i64 (cnt s (its.take j)) ∧ QIs wr b (its.drop j ++ others s (its.take j)) room ∧ Upd (fun i => i = b) w wr
set_option maxRecDepth 100000 in
set_option maxHeartbeats 1600000 in
attribute [-go_sem] Instr.build Instr.fill loadVar in
theorem drop_any {w : World} {b room : Nat} {its : List It} (q : QIs w b its room) (s : Int) :
    Calls Try.prog 20 #[.pointer (some ⟨b, 0, none⟩), .int .i64 s] w fun e w' => e = .returned (.int .i64 (cnt s its)) ∧ QPost w b (others s its) room w' := by
  have hle := q.le
  have hl : Calls Try.prog 23 #[.pointer (some ⟨b, 0, none⟩)] w fun x w' => x = .returned (.int .i64 its.length) ∧ w = w' := by
    obtain ⟨Q, first, hq, _⟩ := q
    exact qlen_any b Q first _ room w hq
  have HL := Lib.hid hl
  have HQ := Lib.hid q
  clear hl q
  have hz : ∀ w, (zeroValue 39).run Try.prog w = .ok (.agg itZ) w := zero_item
  have hZs := itZ_size
  have hst0 := fun (w : World) (x : It) => store_row (P := Try.prog) (alloc_at w (.cells itZ 39)) (itV x) rfl (itV_one x)
  generalize itZ = Z at hz hZs hst0
  have HST := Lib.hid hst0
  clear hst0
  go_enter Try.func20, Try.ntmps20
  go_wp2_with fail
  refine HL.out.mono ?_
  rintro y w1 ⟨rfl, rfl⟩
  go_wp2
  go_loopw [5, 10] (fun d i wr => DropRel w b its s room d i wr) (fun _ i _ => its.length - (intOf i).toNat)
  case atStart => exact ⟨0, Nat.zero_le _, rfl, rfl, by simpa [others] using HQ.out, Upd.refl _ _⟩
  case round =>
    obtain ⟨j, hj, rfl, rfl, hq, hU⟩ := hrel
    have hcl : cnt s (its.take j) ≤ j := Nat.le_trans (List.length_filter_le _ _) (List.length_take_le _ _)
    by_cases hlj : j < its.length
    · have hd : its.drop j = its[j] :: its.drop (j + 1) := List.drop_eq_getElem_cons hlj
      have htk : its.take (j + 1) = its.take j ++ [its[j]] := List.take_succ_eq_append_getElem hlj
      have hpop : Calls Try.prog 19 #[.pointer (some ⟨b, 0, none⟩)] wr fun e w' => e = .returned (.tuple #[.agg (itV its[j]), .int .i64 0]) ∧ QPost wr b (its.drop (j + 1) ++ others s (its.take j)) room w' := by
        rw [hd] at hq; exact pop_ok hq
      have hroom : (its.drop (j + 1) ++ others s (its.take j)).length < room := by
        have : (others s (its.take j)).length ≤ j := Nat.le_trans (List.length_filter_le _ _) (List.length_take_le _ _)
        rw [List.length_append, List.length_drop]; omega
      have hpush := fun (w' : World) (q' : QIs w' b (its.drop (j + 1) ++ others s (its.take j)) room) => push_ok q' hroom its[j]
      have hst1 := fun (w' : World) => HST.out w' its[j]
      have hX0 : (itV its[j])[0]? = some (.int .i64 (its[j]).1) := rfl
      have hXs := itV_size its[j]
      generalize itV its[j] = X at hpop hpush hst1 hX0 hXs
      have HP := Lib.hid hpop
      have HPU := Lib.hid hpush
      have HS1 := Lib.hid hst1
      have HTK := Lib.hid htk
      have HX0 := Lib.hid hX0
      have HXS := Lib.hid hXs
      clear hd htk hpop hpush hst1 hroom hX0
      go_wp2_with fail
      refine HP.out.mono ?_
      rintro y w2 ⟨rfl, q2, U2⟩
      have hst2 := HS1.out w2
      rw [World.setRow_alloc_new] at hst2
      have c0 : (w2.alloc (.cells X 39)).cell? ⟨w2.heap.size, 0, none⟩ = some (.int .i64 (its[j]).1) := (cell_of (alloc_at _ _) 0).trans HX0.out
      have hld2 := load_row23 (alloc_at w2 (.cells X 39)) hXs
      have hU3 : Upd (fun i => i = b) w (w2.alloc (.cells X 39)) := (hU.trans U2 (fun _ _ h => h)).alloc _
      have q3 := q2.below ((Below.refl _ _).alloc (Nat.le_refl _) (.cells X 39))
      have HU3 := Lib.hid hU3
      have HQ3 := Lib.hid q3
      clear q2 U2 hU hq hU3 q3
      by_cases he : (its[j]).1 = s
      · have hb : ((its[j]).1 == s) = true := by simpa using he
        have HB := Lib.hid hb
        clear he
        go_wp2
        go_roundw
        case rel => exact ⟨j + 1, by omega, by go_num, by rw [HTK.out, cnt_yes _ _ _ HB.out]; go_num, by rw [HTK.out, others_yes _ _ _ HB.out]; exact HQ3.out, HU3.out⟩
        case measure => simp [intOf]; omega
      · have hb : ((its[j]).1 == s) = false := by simpa using he
        have HB := Lib.hid hb
        clear he
        go_wp2_with fail
        refine (HPU.out _ HQ3.out).mono ?_
        rintro y w4 ⟨rfl, q4, U4⟩
        have HU4 := Lib.hid (HU3.out.trans U4 (fun _ _ h => h))
        have HQ4 := Lib.hid q4
        clear q4 U4
        go_wp2
        go_roundw
        case rel => exact ⟨j + 1, by omega, by go_num, by rw [HTK.out, cnt_no _ _ _ HB.out], by rw [HTK.out, others_no _ _ _ HB.out, ← List.append_assoc]; exact HQ4.out, HU4.out⟩
        case measure => simp [intOf]; omega
    · have hj' : j = its.length := by omega
      subst hj'
      rw [List.drop_length, List.take_length, List.nil_append] at hq
      have HQ5 := Lib.hid hq
      have HU5 := Lib.hid hU
      clear hq hU
      go_wp2
      go_ret
      exact ⟨by rw [List.take_length]; rfl, HQ5.out, HU5.out⟩
end Go.Proofs.Ytemdhcocbjcklaa.Print
