/- FramePieces, the walk: whatever the input, the law answers true. -/
import Derived.Test.YtemdhcocbjcklaaRpieces
namespace Go.Proofs.Ytemdhcocbjcklaa.Print
open Go.RowKit

theorem texts_none (a b : Option Addr) (ca cb : Nat) (w : World) :
    Calls Try.prog 35 #[.slice a 0 ca, .slice b 0 cb] w fun e w' => e = .returned (.bool true) ∧ Below w.heap.size w w' := by
  go_enter Try.func35, Try.ntmps35
  go_wp2
  refine wp_loop_rounds 1 ?_
  rw [rounds_succ]
  go_wp2
  go_ret
  exact ⟨rfl, Below.refl _ _⟩

set_option maxRecDepth 100000 in
set_option maxHeartbeats 800000 in
theorem texts_same (g h ca cb n : Nat) (hn : n ≤ 200000) (A B : Array Value) (T : TypeId) (f1 f2 : Nat × Nat) (w : World) (hg : w.heap[g]? = some (.cells A T f1)) (hh : w.heap[h]? = some (.cells B T f2)) (L : List ByteArray) (hL : L.length = n)
    (hA : ∀ k, (hk : k < L.length) → A[k]? = some (.string L[k])) (hB : ∀ k, (hk : k < L.length) → B[k]? = some (.string L[k])) :
    Calls Try.prog 35 #[.slice (some ⟨g, 0, none⟩) n ca, .slice (some ⟨h, 0, none⟩) n cb] w fun e w' => e = .returned (.bool true) ∧ Below w.heap.size w w' := by
  have HA := Lib.hid hA
  have HB := Lib.hid hB
  clear hA hB
  go_enter Try.func35, Try.ntmps35
  go_wp2
  go_loopw [5, 13] (fun _ i wr => ∃ k : Nat, k ≤ n ∧ i = .int .i64 k ∧ ∃ m, wr = w.drewN m) (fun _ i _ => n - (intOf i).toNat)
  case atStart => exact ⟨0, Nat.zero_le _, rfl, 0, rfl⟩
  case round =>
    obtain ⟨k, hk, rfl, m, rfl⟩ := hrel
    by_cases hlt : k < n
    · have c1 : w.cell? ⟨g, k, none⟩ = some (.string L[k]) := by rw [cell_of hg, HA.out k (by omega)]
      have c2 : w.cell? ⟨h, k, none⟩ = some (.string L[k]) := by rw [cell_of hh, HB.out k (by omega)]
      have i1 : (0 : Int) ≤ k := by omega
      have i2 : (k : Int) < n := by omega
      go_wp2
      go_quiet (fail)
      go_wp2
      go_roundw
      case rel => exact ⟨k + 1, by omega, by go_num, _, rfl⟩
      case measure => simp [intOf]; omega
    · obtain rfl : k = n := by omega
      go_wp2
      go_ret
      exact ⟨rfl, below_drewN (Below.refl _ _) _⟩

theorem pad52_length (l : List UInt8) : (pad52 l).length = 52 := by unfold pad52; rw [List.length_append, List.length_take, List.length_replicate]; omega
theorem flat_length (n : Nat) (l : List UInt8) : (pieces n l).flatten.length = 52 * n := by
  induction n generalizing l with
  | zero => rfl
  | succ n ih => rw [pieces, List.flatten_cons, List.length_append, pad52_length, ih]; omega
/-- One behind the other the pieces begin with the bytes. -/
theorem flat_take (n : Nat) : ∀ (l : List UInt8), l.length ≤ 52 * n → (pieces n l).flatten.take l.length = l := by
  induction n with
  | zero =>
    intro l h
    have h0 : l = [] := List.length_eq_zero_iff.1 (by omega)
    rw [h0]; rfl
  | succ n ih =>
    intro l h
    rw [pieces, List.flatten_cons]
    by_cases h52 : l.length ≤ 52
    · rw [List.take_append_of_le_length (by rw [pad52_length]; exact h52)]
      unfold pad52
      rw [List.take_of_length_le h52, List.take_append_of_le_length (Nat.le_refl _), List.take_length]
    · have hp : pad52 l = l.take 52 := by unfold pad52; rw [show 52 - l.length = 0 by omega]; simp
      have h1 : (l.take 52).length = 52 := by rw [List.length_take]; omega
      have := ih (l.drop 52) (by rw [List.length_drop]; omega)
      rw [List.length_drop] at this
      rw [hp, show l.length = 52 + (l.length - 52) by omega, List.take_append, h1, List.take_of_length_le (by rw [h1]; omega), show 52 + (l.length - 52) - 52 = l.length - 52 by omega, this, List.take_append_drop]
theorem flat_snoc (L : List (List UInt8)) (k : Nat) (h : k < L.length) : (L.take (k + 1)).flatten = (L.take k).flatten ++ L[k] := by
  rw [List.take_succ_eq_append_getElem h, List.flatten_append]; simp

set_option maxRecDepth 100000 in
set_option maxHeartbeats 800000 in
theorem fpieces_long (s : ByteArray) (n : Int) (hs : 1000 < s.size) (_hs2 : s.size ≤ 140737488351232) (w : World) :
    Calls Try.prog 9 #[.string s, .int .i64 n] w fun e w' => e = .returned (.bool true) ∧ Below w.heap.size w w' := by
  go_enter Try.func9, Try.ntmps9
  go_wp2_with fail
  refine (bare_any _).mono ?_
  rintro e w1 ⟨rfl, hb1⟩
  go_wp2
  go_ret
  exact ⟨rfl, hb1⟩

set_option maxRecDepth 100000 in
set_option maxHeartbeats 1600000 in
theorem fpieces_go (s : ByteArray) (n : Int) (hs : s.size ≤ 1000) (hs1 : 1 ≤ s.size) (c : Nat) (hc : c < 3) (hn : (c = 0 ∧ n ≤ 0) ∨ (c = 1 ∧ 0 < n ∧ n < 1099511627776) ∨ (c = 2 ∧ 1099511627776 ≤ n)) (hn2 : n ≤ 9223372036854775807) (w : World) :
    Calls Try.prog 9 #[.string s, .int .i64 n] w fun e w' => e = .returned (.bool true) ∧ Below w.heap.size w w' := by
  obtain ⟨N, hN⟩ : ∃ N, many s.size = N := ⟨_, rfl⟩
  have hN1 : 1 ≤ N := by rw [← hN]; unfold many; rw [if_neg (by omega)]; omega
  have hN2 : N ≤ 20 := by rw [← hN]; unfold many; rw [if_neg (by omega)]; omega
  have hNs : s.size ≤ 52 * N := by rw [← hN]; unfold many; rw [if_neg (by omega)]; omega
  obtain ⟨L, hL⟩ : ∃ L, pieces N s.data.toList = L := ⟨_, rfl⟩
  have hLl : L.length = N := by rw [← hL]; exact pieces_length _ _
  have hp := fun w => pieces_any s (by omega) w
  have hr := fun w => rpieces_any s.size s (Nat.le_refl _) (by omega) w
  have hm := fun w => many_pos s.size (s.size : Int) rfl hs1 (by omega) w
  have hmN : (s.size - 1) / 52 + 1 = N := by rw [← hN]; unfold many; rw [if_neg (by omega)]
  rw [hN, hL] at hp hr
  rw [hmN] at hm
  have hfl : ∀ k, k ≤ N → (L.take k).flatten.length = 52 * k := by
    intro k hk
    have : ∀ (k : Nat) (L : List (List UInt8)), (∀ x ∈ L, x.length = 52) → k ≤ L.length → (L.take k).flatten.length = 52 * k := by
      intro k
      induction k with
      | zero => intro L _ _; simp
      | succ k ih =>
        intro L hx hk
        cases L with
        | nil => simp at hk
        | cons x L =>
          rw [List.take_succ_cons, List.flatten_cons, List.length_append, hx x (by simp), ih L (fun y hy => hx y (by simp [hy])) (by simpa using hk)]
          omega
    refine this k L ?_ (by omega)
    rw [← hL]
    have : ∀ (n : Nat) (l : List UInt8), ∀ x ∈ pieces n l, x.length = 52 := by
      intro n
      induction n with
      | zero => intro l x hx; cases hx
      | succ n ih =>
        intro l x hx
        rcases List.mem_cons.1 hx with rfl | hx
        · exact pad52_length _
        · exact ih _ x hx
    exact this _ _
  have htake : (bs L.flatten).extract 0 s.size = s := by
    apply list_inj
    rw [extract_list, bs_list, List.drop_zero, Nat.sub_zero, ← hL]
    have := flat_take N s.data.toList (by rw [← size_list]; exact hNs)
    rwa [← size_list] at this
  have HP := Lib.hid hp
  have HR := Lib.hid hr
  have HM := Lib.hid hm
  have HF := Lib.hid hfl
  have HT := Lib.hid htake
  have HLl := Lib.hid hLl
  have Hn := Lib.hid hn
  clear hp hr hm hN hL hLl hmN hfl htake hn
  go_enter Try.func9, Try.ntmps9
  go_wp2_with fail
  refine (HP.out _).mono ?_
  rintro e w1 ⟨v, rfl, hown, hB1⟩
  obtain ⟨g, cap, cur, rfl, hg, hh, hcap, hcur⟩ := row_of hown hN1
  have hcur2 : ∀ k, (h : k < N) → cur[k]? = some (.string (bs (L[k]'(by rw [HLl.out]; exact h)))) := fun k h => by rw [hcur k h]; simp [show k < L.length by rw [HLl.out]; exact h]
  have HC := Lib.hid hcur2
  clear hcur hcur2 hown
  go_wp2
  go_loop [6, 8, 17] (fun a _ i => ∃ k : Nat, k ≤ N ∧ i = .int .i64 k ∧ a = .string (bs (L.take k).flatten)) (fun _ _ i => N - (intOf i).toNat)
  case atStart => exact ⟨0, Nat.zero_le _, rfl, rfl⟩
  case round =>
    obtain ⟨k, hk, rfl, rfl⟩ := hrel
    by_cases hlt : k < N
    · have hkl : k < L.length := by rw [HLl.out]; exact hlt
      have ck : w1.cell? ⟨g, k, none⟩ = some (.string (bs L[k])) := by rw [cell_of hh, HC.out k hlt]
      have s1 : (bs (L.take k).flatten).size = 52 * k := by rw [bs_size, HF.out k hk]
      have s2 : (bs L[k]).size = 52 := by
        have h1 := HF.out (k + 1) (by omega)
        rw [flat_snoc L k hkl, List.length_append, HF.out k hk] at h1
        rw [bs_size]; omega
      have hsn : bs (L.take k).flatten ++ bs L[k] = bs (L.take (k + 1)).flatten := by rw [bs_append, flat_snoc L k hkl]
      go_wp2
      go_round
      case rel => exact ⟨k + 1, by omega, by go_num, rfl⟩
      case measure => simp [intOf]; omega
    · obtain rfl : k = N := by omega
      have hfull : L.take k = L := List.take_of_length_le (by rw [HLl.out]; exact Nat.le_refl _)
      have hsz := HF.out k (Nat.le_refl _)
      rw [hfull] at hsz
      rw [hfull]
      have s1 : (bs L.flatten).size = 52 * k := by rw [bs_size, hsz]
      clear hfull hsz
      rcases Hn.out with ⟨rfl, hn0⟩ | ⟨rfl, hn0, hn1⟩ | ⟨rfl, hn0⟩
      · have d1 : decide (0 < n) = false := by simp; omega
        have d2 : decide (n ≤ 0) = true := by simp; omega
        go_wp2_with fail
        refine (many_none n (by omega) _).mono ?_
        rintro e w2 ⟨rfl, rfl⟩
        go_wp2_with fail
        refine (HR.out _).mono ?_
        rintro e w3 ⟨v2, rfl, hown2, hB3⟩
        obtain ⟨g2, cap2, cur2, rfl, hg2, hh2, hcap2, hcur2⟩ := row_of hown2 hN1
        have hcur3 : ∀ j, (h : j < k) → cur2[j]? = some (.string (bs (L[j]'(by rw [HLl.out]; exact h)))) := fun j h => by rw [hcur2 j h]; simp [show j < L.length by rw [HLl.out]; exact h]
        have HC2 := Lib.hid hcur3
        clear hcur2 hcur3 hown2
        have hh1 := later_of hh hB3
        have HTx := Lib.hid (fun w hg hh => texts_same g g2 cap cap2 k (by omega) cur cur2 9 (0, 0) (0, 0) w hg hh (L.map bs) (by rw [List.length_map]; exact HLl.out)
          (fun j hj => by rw [HC.out j (by rw [List.length_map, HLl.out] at hj; exact hj)]; simp) (fun j hj => by rw [HC2.out j (by rw [List.length_map, HLl.out] at hj; exact hj)]; simp))
        go_wp2_with fail
        refine (HTx.out _ hh1 hh2).mono ?_
        rintro e w4 ⟨rfl, hB4⟩
        go_wp2_with fail
        refine (HM.out _).mono ?_
        rintro e w5 ⟨rfl, rfl⟩
        have ht := HT.out
        go_wp2_with fail
        refine (bare_any _).mono ?_
        rintro e w6 ⟨rfl, hB6⟩
        go_wp2
        go_ret
        exact ⟨rfl, below_chain (below_chain (below_chain hB1 hB3) hB4) hB6⟩
      · have d1 : decide (0 < n) = true := by simp; omega
        have d2 : decide (n < 1099511627776) = true := by simp; omega
        have d3 : decide (n ≤ 0) = false := by simp; omega
        obtain ⟨q, hq⟩ : ∃ q, (n.toNat - 1) / 52 + 1 = q := ⟨_, rfl⟩
        have d4 : ((q : Int) != (n + 51) / 52) = false := by
          have : (q : Int) = (n + 51) / 52 := by omega
          rw [this]; simp
        have km := fun w => many_pos n.toNat n (by omega) (by omega) (by omega) w
        rw [hq] at km
        have KM := Lib.hid km
        clear hq km
        go_wp2_with fail
        refine (KM.out _).mono ?_
        rintro e w2 ⟨rfl, rfl⟩
        go_wp2_with fail
        refine (HR.out _).mono ?_
        rintro e w3 ⟨v2, rfl, hown2, hB3⟩
        obtain ⟨g2, cap2, cur2, rfl, hg2, hh2, hcap2, hcur2⟩ := row_of hown2 hN1
        have hcur3 : ∀ j, (h : j < k) → cur2[j]? = some (.string (bs (L[j]'(by rw [HLl.out]; exact h)))) := fun j h => by rw [hcur2 j h]; simp [show j < L.length by rw [HLl.out]; exact h]
        have HC2 := Lib.hid hcur3
        clear hcur2 hcur3 hown2
        have hh1 := later_of hh hB3
        have HTx := Lib.hid (fun w hg hh => texts_same g g2 cap cap2 k (by omega) cur cur2 9 (0, 0) (0, 0) w hg hh (L.map bs) (by rw [List.length_map]; exact HLl.out)
          (fun j hj => by rw [HC.out j (by rw [List.length_map, HLl.out] at hj; exact hj)]; simp) (fun j hj => by rw [HC2.out j (by rw [List.length_map, HLl.out] at hj; exact hj)]; simp))
        go_wp2_with fail
        refine (HTx.out _ hh1 hh2).mono ?_
        rintro e w4 ⟨rfl, hB4⟩
        go_wp2_with fail
        refine (HM.out _).mono ?_
        rintro e w5 ⟨rfl, rfl⟩
        have ht := HT.out
        go_wp2_with fail
        refine (bare_any _).mono ?_
        rintro e w6 ⟨rfl, hB6⟩
        go_wp2
        go_ret
        exact ⟨rfl, below_chain (below_chain (below_chain hB1 hB3) hB4) hB6⟩
      · have d1 : decide (0 < n) = true := by simp; omega
        have d2 : decide (n < 1099511627776) = false := by simp; omega
        have d3 : decide (n ≤ 0) = false := by simp; omega
        go_wp2_with fail
        refine (HR.out _).mono ?_
        rintro e w3 ⟨v2, rfl, hown2, hB3⟩
        obtain ⟨g2, cap2, cur2, rfl, hg2, hh2, hcap2, hcur2⟩ := row_of hown2 hN1
        have hcur3 : ∀ j, (h : j < k) → cur2[j]? = some (.string (bs (L[j]'(by rw [HLl.out]; exact h)))) := fun j h => by rw [hcur2 j h]; simp [show j < L.length by rw [HLl.out]; exact h]
        have HC2 := Lib.hid hcur3
        clear hcur2 hcur3 hown2
        have hh1 := later_of hh hB3
        have HTx := Lib.hid (fun w hg hh => texts_same g g2 cap cap2 k (by omega) cur cur2 9 (0, 0) (0, 0) w hg hh (L.map bs) (by rw [List.length_map]; exact HLl.out)
          (fun j hj => by rw [HC.out j (by rw [List.length_map, HLl.out] at hj; exact hj)]; simp) (fun j hj => by rw [HC2.out j (by rw [List.length_map, HLl.out] at hj; exact hj)]; simp))
        go_wp2_with fail
        refine (HTx.out _ hh1 hh2).mono ?_
        rintro e w4 ⟨rfl, hB4⟩
        go_wp2_with fail
        refine (HM.out _).mono ?_
        rintro e w5 ⟨rfl, rfl⟩
        have ht := HT.out
        go_wp2_with fail
        refine (bare_any _).mono ?_
        rintro e w6 ⟨rfl, hB6⟩
        go_wp2
        go_ret
        exact ⟨rfl, below_chain (below_chain (below_chain hB1 hB3) hB4) hB6⟩

theorem nil_row {w : World} {base : Nat} {e : TypeId} {v : Value} {xs : List Value} (h : w.ownsRow base e 1 v 0 xs) : ∃ a c, v = .slice a 0 c := by
  rcases h.2 with h2 | ⟨g, cap, cur, hv, _⟩
  · exact ⟨_, _, h2.1⟩
  · exact ⟨_, _, hv⟩

set_option maxRecDepth 100000 in
set_option maxHeartbeats 1600000 in
theorem fpieces_nil (n : Int) (c : Nat) (hc : c < 3) (hn : (c = 0 ∧ n ≤ 0) ∨ (c = 1 ∧ 0 < n ∧ n < 1099511627776) ∨ (c = 2 ∧ 1099511627776 ≤ n)) (hn2 : n ≤ 9223372036854775807) (w : World) :
    Calls Try.prog 9 #[.string ⟨#[]⟩, .int .i64 n] w fun e w' => e = .returned (.bool true) ∧ Below w.heap.size w w' := by
  have hp : ∀ w, Calls Try.prog 33 #[.string ⟨#[]⟩] w fun e w' => ∃ a c, e = .returned (.slice a 0 c) ∧ Below w.heap.size w w' := fun w =>
    (pieces_any ⟨#[]⟩ (by decide) w).mono fun e w' ⟨v, he, ho, hB⟩ => by
      obtain ⟨a, c, rfl⟩ := nil_row (by exact ho)
      exact ⟨a, c, he, hB⟩
  have HP := Lib.hid hp
  have HM := Lib.hid (fun w => many_none 0 (by omega) w)
  have Hn := Lib.hid hn
  clear hp hn
  go_enter Try.func9, Try.ntmps9
  go_wp2_with fail
  refine (HP.out _).mono ?_
  rintro e w1 ⟨a, cp, rfl, hB1⟩
  go_wp2
  refine wp_loop_rounds 1 ?_
  rw [rounds_succ]
  rcases Hn.out with ⟨rfl, hn0⟩ | ⟨rfl, hn0, hn1⟩ | ⟨rfl, hn0⟩
  · have d1 : decide (0 < n) = false := by simp; omega
    have d2 : decide (n ≤ 0) = true := by simp; omega
    go_wp2_with fail
    refine (many_none n (by omega) _).mono ?_
    rintro e w2 ⟨rfl, rfl⟩
    go_wp2_with fail
    refine (rpieces_none _).mono ?_
    rintro e w3 ⟨rfl, rfl⟩
    go_wp2_with fail
    refine (texts_none _ _ _ _ _).mono ?_
    rintro e w4 ⟨rfl, hB4⟩
    go_wp2_with fail
    refine (HM.out _).mono ?_
    rintro e w5 ⟨rfl, rfl⟩
    go_wp2_with fail
    refine (bare_any _).mono ?_
    rintro e w6 ⟨rfl, hB6⟩
    go_wp2
    go_ret
    exact ⟨rfl, below_chain (below_chain hB1 hB4) hB6⟩
  · have d1 : decide (0 < n) = true := by simp; omega
    have d2 : decide (n < 1099511627776) = true := by simp; omega
    have d3 : decide (n ≤ 0) = false := by simp; omega
    obtain ⟨q, hq⟩ : ∃ q, (n.toNat - 1) / 52 + 1 = q := ⟨_, rfl⟩
    have d4 : ((q : Int) != (n + 51) / 52) = false := by
      have : (q : Int) = (n + 51) / 52 := by omega
      rw [this]; simp
    have km := fun w => many_pos n.toNat n (by omega) (by omega) (by omega) w
    rw [hq] at km
    have KM := Lib.hid km
    clear hq km
    go_wp2_with fail
    refine (KM.out _).mono ?_
    rintro e w2 ⟨rfl, rfl⟩
    go_wp2_with fail
    refine (rpieces_none _).mono ?_
    rintro e w3 ⟨rfl, rfl⟩
    go_wp2_with fail
    refine (texts_none _ _ _ _ _).mono ?_
    rintro e w4 ⟨rfl, hB4⟩
    go_wp2_with fail
    refine (HM.out _).mono ?_
    rintro e w5 ⟨rfl, rfl⟩
    go_wp2_with fail
    refine (bare_any _).mono ?_
    rintro e w6 ⟨rfl, hB6⟩
    go_wp2
    go_ret
    exact ⟨rfl, below_chain (below_chain hB1 hB4) hB6⟩
  · have d1 : decide (0 < n) = true := by simp; omega
    have d2 : decide (n < 1099511627776) = false := by simp; omega
    have d3 : decide (n ≤ 0) = false := by simp; omega
    go_wp2_with fail
    refine (rpieces_none _).mono ?_
    rintro e w3 ⟨rfl, rfl⟩
    go_wp2_with fail
    refine (texts_none _ _ _ _ _).mono ?_
    rintro e w4 ⟨rfl, hB4⟩
    go_wp2_with fail
    refine (HM.out _).mono ?_
    rintro e w5 ⟨rfl, rfl⟩
    go_wp2_with fail
    refine (bare_any _).mono ?_
    rintro e w6 ⟨rfl, hB6⟩
    go_wp2
    go_ret
    exact ⟨rfl, below_chain (below_chain hB1 hB4) hB6⟩

theorem fpieces_any (s : ByteArray) (n : Int) (hs : s.size ≤ 140737488351232) (hn : n ≤ 9223372036854775807) (w : World) :
    Calls Try.prog 9 #[.string s, .int .i64 n] w fun e w' => e = .returned (.bool true) ∧ Below w.heap.size w w' := by
  by_cases h : 1000 < s.size
  · exact fpieces_long s n h hs w
  obtain ⟨c, hc, hcn⟩ : ∃ c, c < 3 ∧ ((c = 0 ∧ n ≤ 0) ∨ (c = 1 ∧ 0 < n ∧ n < 1099511627776) ∨ (c = 2 ∧ 1099511627776 ≤ n)) := by
    by_cases h0 : n ≤ 0
    · exact ⟨0, by omega, .inl ⟨rfl, h0⟩⟩
    · by_cases h1 : n < 1099511627776
      · exact ⟨1, by omega, .inr (.inl ⟨rfl, by omega, h1⟩)⟩
      · exact ⟨2, by omega, .inr (.inr ⟨rfl, by omega⟩)⟩
  by_cases h0 : s.size = 0
  · rw [empty_of s h0]
    exact fpieces_nil n c hc hcn hn w
  · exact fpieces_go s n (by omega) (by omega) c hc hcn hn w

end Go.Proofs.Ytemdhcocbjcklaa.Print
