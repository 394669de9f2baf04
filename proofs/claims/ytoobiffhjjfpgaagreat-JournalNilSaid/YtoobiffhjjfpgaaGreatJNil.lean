/- JournalNil: a nil journal has no entries. -/
import Derived.Test.YtoobiffhjjfpgaaGreatTwo26
namespace Go.Proofs.YtoobiffhjjfpgaaGreat.Print
open Go.RowKit
attribute [local go_sem] run_loadVar_scalar

/-- Are frames more than are gone through? -/
def lgB6 (l : List Fr) : Bool := decide (60 < l.length) || l.any fun x => decide (900 < x.2.size)
theorem lgB6_false {l : List Fr} (h : lgB6 l = false) : l.length ≤ 60 ∧ ∀ x ∈ l, x.2.size ≤ 900 := by
  unfold lgB6 at h
  rw [Bool.or_eq_false_iff] at h
  refine ⟨by have := of_decide_eq_false h.1; omega, fun x hx => ?_⟩
  have := List.any_eq_false.1 h.2 x hx
  simp at this; omega
theorem lgB6_one {l : List Fr} {x : Fr} (hx : x ∈ l) (h : 900 < x.2.size) : lgB6 l = true := by
  unfold lgB6
  rw [Bool.or_eq_true]
  exact .inr (List.any_eq_true.2 ⟨x, hx, by simpa using h⟩)
theorem lgB6_none {l : List Fr} (h : l.length ≤ 60) (h2 : ∀ x ∈ l, x.2.size ≤ 900) : lgB6 l = false := by
  unfold lgB6
  rw [Bool.or_eq_false_iff]
  refine ⟨decide_eq_false (by omega), List.any_eq_false.2 fun x hx => ?_⟩
  have := h2 x hx
  simp; omega
set_option maxRecDepth 100000 in
set_option maxHeartbeats 800000 in
attribute [-go_sem] loadVar in
theorem large26_any {w : World} {ao : Option Addr} {l : List Fr} (h : FrsAt w ao l) (cap : Nat) (hl : l.length ≤ 9223372036854775807) (hsz : ∀ x ∈ l, x.2.size ≤ 9223372036854775807) :
    Calls Tryz.prog 15 #[.slice ao l.length cap] w fun x w' => x = .returned (.bool (lgB6 l)) ∧ Below w.heap.size w w' := by
  obtain ⟨lb, hlb⟩ : ∃ lb, lgB6 l = lb := ⟨_, rfl⟩
  rw [hlb]
  have HLB := Lib.hid hlb
  clear hlb
  have H := Lib.hid h
  clear h
  go_enter Tryz.func15, Tryz.ntmps15
  by_cases h60 : 60 < l.length
  · have k1 : decide ((60 : Int) < (l.length : Int)) = true := decide_eq_true (by omega)
    obtain rfl : true = lb := by rw [← HLB.out]; unfold lgB6; simp [h60]
    go_wp2
    go_ret
    exact ⟨rfl, Below.refl _ _⟩
  have k1 : decide ((60 : Int) < (l.length : Int)) = false := decide_eq_false (by omega)
  go_wp2
  go_loopw [10] (fun i wr => ∃ j : Nat, j ≤ l.length ∧ i = .int .i64 j ∧ Below w.heap.size w wr ∧ ∀ q (hq : q < l.length), q < j → l[q].2.size ≤ 900) (fun i _ => l.length - (intOf i).toNat)
  case atStart => exact ⟨0, Nat.zero_le _, rfl, Below.refl _ _, fun q _ hq => absurd hq (by omega)⟩
  case round =>
    obtain ⟨j, hj, rfl, hB, hall⟩ := hrel
    by_cases hlt : j < l.length
    · obtain ⟨a, rfl, hld⟩ := (H.out.below hB).load j hlt
      have hx := hsz l[j] (List.getElem_mem hlt)
      have HAll := Lib.hid hall
      clear hall
      obtain ⟨x, hxx⟩ : ∃ x, l[j] = x := ⟨_, rfl⟩
      rw [hxx] at hld hx
      have HX := Lib.hid hxx
      clear hxx
      obtain ⟨k, p⟩ := x
      by_cases h9 : 900 < p.size
      · have k2 : decide ((900 : Int) < (p.size : Int)) = true := decide_eq_true (by omega)
        obtain rfl : true = lb := by rw [← HLB.out]; exact (lgB6_one (List.getElem_mem hlt) (by rw [HX.out]; exact h9)).symm
        go_wp2
        go_ret
        exact ⟨rfl, hB.alloc hB.size _⟩
      · have k2 : decide ((900 : Int) < (p.size : Int)) = false := decide_eq_false (by omega)
        go_wp2
        go_roundw
        case rel =>
          refine ⟨j + 1, hlt, by simp, hB.alloc hB.size _, fun q hq hqj => ?_⟩
          by_cases hqk : q < j
          · exact HAll.out q hq hqk
          · obtain rfl : q = j := by omega
            rw [HX.out]; show p.size ≤ 900; omega
        case measure => simp [intOf]; omega
    · obtain rfl : j = l.length := by omega
      have HAll := Lib.hid hall
      clear hall
      obtain rfl : false = lb := by
        rw [← HLB.out]
        refine (lgB6_none (by omega) fun x hx => ?_).symm
        obtain ⟨q, hq, rfl⟩ := List.mem_iff_getElem.1 hx
        exact HAll.out q hq hq
      go_wp2
      go_ret
      exact ⟨rfl, hB⟩

set_option maxRecDepth 100000 in
set_option maxHeartbeats 800000 in
attribute [-go_sem] loadVar in
theorem jnil_any (id : Int) {w : World} {ao : Option Addr} {l : List Fr} (h : FrsAt w ao l) (cap : Nat) (hl : l.length ≤ 9223372036854775807) (hsz : ∀ x ∈ l, x.2.size ≤ 9223372036854775807) :
    Calls Tryz.prog 5 #[.int .i64 id, .slice ao l.length cap] w fun x w' => x = .returned (.bool true) ∧ Below w.heap.size w w' := by
  have KL := Lib.hid (large26_any h cap hl hsz)
  clear h
  go_enter Tryz.func5, Tryz.ntmps5
  go_wp2_with fail
  refine KL.out.mono ?_
  rintro x w1 ⟨rfl, hb1⟩
  have HB1 := Lib.hid hb1
  clear hb1 KL
  cases hlg : lgB6 l with
  | true =>
    go_wp2_with fail
    refine (two26_any _).mono ?_
    rintro x w2 ⟨rfl, hb2⟩
    go_wp2
    go_ret
    exact ⟨rfl, HB1.out.trans (hb2.mono HB1.out.size)⟩
  | false =>
    go_wp2_with fail
    refine (jnew_nil _ _ _).mono ?_
    rintro x w2 ⟨rfl, rfl⟩
    go_wp2_with fail
    refine (jopen_nil _ _ _).mono ?_
    rintro x w2 ⟨rfl, rfl⟩
    go_wp2_with fail
    refine (janew_nil _ _).mono ?_
    rintro x w2 ⟨rfl, rfl⟩
    have hbf : ∀ W : World, (Instr.build 43 #[(0, .int .i64 1)]).run Tryz.prog W = .ok (frV 1 ⟨#[]⟩) W := fun W => by kernel_rfl
    go_wp2_with fail
    refine (jappend_nil _ _ _).mono ?_
    rintro x w2 ⟨rfl, hb2⟩
    have HB2 := Lib.hid (HB1.out.trans (hb2.mono HB1.out.size))
    clear hb2
    go_wp2_with fail
    refine (jfree_nil _).mono ?_
    rintro x w3 ⟨rfl, rfl⟩
    go_wp2_with fail
    refine (jframes_nil _).mono ?_
    rintro x w3 ⟨rfl, rfl⟩
    go_wp2_with fail
    refine (jgen_nil _).mono ?_
    rintro x w3 ⟨rfl, rfl⟩
    go_wp2_with fail
    refine (jsegs_nil _).mono ?_
    rintro x w3 ⟨rfl, rfl⟩
    go_wp2_with fail
    refine (jgrown_nil _).mono ?_
    rintro x w3 ⟨rfl, rfl⟩
    go_wp2_with fail
    refine (jfits_nil _ _ _).mono ?_
    rintro x w3 ⟨rfl, hb3⟩
    have HB3 := Lib.hid (HB2.out.trans (hb3.mono HB2.out.size))
    clear hb3
    go_wp2_with fail
    refine (two26_any _).mono ?_
    rintro x w4 ⟨rfl, hb4⟩
    go_wp2
    go_ret
    exact ⟨rfl, HB3.out.trans (hb4.mono HB3.out.size)⟩
end Go.Proofs.YtoobiffhjjfpgaaGreat.Print
