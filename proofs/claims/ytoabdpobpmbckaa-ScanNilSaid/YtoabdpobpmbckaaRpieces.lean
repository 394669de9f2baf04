/- The reference's Pieces, and lists of texts held against one another. -/
import Derived.Test.YtoabdpobpmbckaaPieces
import Derived.Deep.OwnRows
namespace Go.Proofs.Ytoabdpobpmbckaa.Print
open Go.RowKit

/-- A block lies as it lay, behind a call. -/
theorem later_of {w1 w2 : World} {b : Nat} {o : Obj} (h : w1.heap[b]? = some o) (hb : Below w1.heap.size w1 w2) : w2.heap[b]? = some o := (hb.block b (lt_of h)).trans h

theorem many_step (n : Nat) (h : 52 < n) : many n = many (n - 52) + 1 := by unfold many; rw [if_neg (by omega), if_neg (by omega)]; omega
theorem many_one (n : Nat) (h1 : 1 ≤ n) (h2 : n ≤ 52) : many n = 1 := by unfold many; rw [if_neg (by omega)]; omega
theorem empty_of (s : ByteArray) (h : s.size = 0) : s = ⟨#[]⟩ := by
  apply list_inj
  have := size_list s
  rw [h] at this
  rw [List.length_eq_zero_iff.1 this.symm]

set_option maxRecDepth 100000 in
set_option maxHeartbeats 800000 in
theorem rpieces_none (w : World) :
    Calls Try.prog 73 #[.string ⟨#[]⟩] w fun e w' => e = .returned (.slice none 0 0) ∧ w = w' := by
  go_enter Try.func73, Try.ntmps73
  go_wp2
  go_ret
  exact ⟨rfl, rfl⟩

theorem info_u8 : (Try.prog.info? 5).map (fun i => (i.zero, i.size, i.bytes)) = some (some (.int .u8 0), 1, 1) := by kernel_rfl

set_option maxRecDepth 100000 in
set_option maxHeartbeats 800000 in
theorem rpieces_one (s : ByteArray) (h1 : 1 ≤ s.size) (h2 : s.size ≤ 52) (w : World) :
    Calls Try.prog 73 #[.string s] w fun e w' => ∃ v, e = .returned v ∧ w'.ownsRow w.heap.size 9 1 v 1 [.string (bs (pad52 s.data.toList))] ∧ Below w.heap.size w w' := by
  have he := not_empty s h1
  have k1 : decide ((s.size : Int) ≤ 52) = true := by simp; omega
  obtain ⟨n, hn⟩ : ∃ n, 52 - s.size = n := ⟨_, rfl⟩
  have hn2 : (52 : Int) - s.size = n := by omega
  have hmk := run_make_row' (P := Try.prog) 136 5 (.int .u8 0) 1 Try.underlying136 info_u8 rfl .i64 .i64 n (by omega) (by omega) w
  have hcv := run_convert_bytes_arg (P := Try.prog) (w.alloc (.cells (madeCells #[.int .u8 0] n) 5)) 136 5 Try.underlying136 Try.underlying5 w.heap.size 0 n n (List.replicate n 0) (by simp) (by
    intro i hi
    rw [World.cell?_alloc_at _ _ _ _ rfl, Nat.zero_add]
    simp [madeCells, hi, Nat.mod_one]) 9 Try.underlying9
  have hz : strOfNums (List.replicate n 0) = bs (List.replicate n 0) := by unfold strOfNums bs; simp
  rw [hz] at hcv
  have hx : (bs (List.replicate n 0)).size = n := by rw [bs_size, List.length_replicate]
  clear hz
  go_enter Try.func73, Try.ntmps73
  go_wp2
  go_ret
  have hpad : s ++ bs (List.replicate n 0) = bs (pad52 s.data.toList) := by
    apply list_inj
    rw [append_list, bs_list, bs_list, pad52, List.take_of_length_le (by rw [← size_list]; exact h2), ← size_list, hn]
  rw [hpad]
  exact ⟨_, rfl, ⟨rfl, .inr ⟨w.heap.size + 1, 1, _, rfl, by omega, alloc_at' _ _ _ (by simp), by omega, by unfold maxLen; omega, rfl, rfl⟩⟩, ((Below.refl _ _).alloc (Nat.le_refl _) _).alloc (by simp) _⟩

/-- What the call owns is a row of memory. -/
theorem row_of {w : World} {base n : Nat} {e : TypeId} {v : Value} {xs : List Value} (h : w.ownsRow base e 1 v n xs) (hn : 1 ≤ n) :
    ∃ g cap cur, v = .slice (some ⟨g, 0, none⟩) n cap ∧ base ≤ g ∧ w.heap[g]? = some (.cells cur e (0, 0)) ∧ n ≤ cap ∧ ∀ k, k < n → cur[k]? = xs[k]? := by
  rcases h.2 with h2 | ⟨g, cap, cur, hv, hg, hh, h3, h4, h5, h6⟩
  · omega
  · refine ⟨g, cap, cur, hv, hg, hh, h3, fun k hk => ?_⟩
    rw [← h6, List.getElem?_take, if_pos (by omega)]
    simp

set_option maxRecDepth 100000 in
set_option maxHeartbeats 800000 in
theorem rpieces_more (s : ByteArray) (h1 : 52 < s.size) (h2 : s.size ≤ 100000) (M : Nat) (hM1 : 1 ≤ M) (hM : M ≤ 100000) (L : List (List UInt8)) (hL : L.length = M)
    (ih : Hid (∀ w, Calls Try.prog 73 #[.string (s.extract 52 s.size)] w fun e w' => ∃ v, e = .returned v ∧ w'.ownsRow w.heap.size 9 1 v M (L.map fun l => .string (bs l)) ∧ Below w.heap.size w w')) (w : World) :
    Calls Try.prog 73 #[.string s] w fun e w' => ∃ v, e = .returned v ∧ w'.ownsRow w.heap.size 9 1 v (M + 1) ((pad52 s.data.toList :: L).map fun l => .string (bs l)) ∧ Below w.heap.size w w' := by
  obtain ⟨i0, hi, hz0, hz1, hz2⟩ := info_parts info_str
  have he := not_empty s (by omega)
  have k1 : decide ((s.size : Int) ≤ 52) = false := by simp; omega
  have hfirst : s.extract 0 52 = bs (pad52 s.data.toList) := by
    apply list_inj
    rw [extract_list, bs_list, pad52, List.drop_zero, Nat.sub_zero, show 52 - s.data.toList.length = 0 by rw [← size_list]; omega]
    simp
  go_enter Try.func73, Try.ntmps73
  go_wp2_with fail
  refine (ih.out _).mono ?_
  rintro e w1 ⟨v, rfl, hown, hb⟩
  obtain ⟨g, cap, cur, rfl, hg, hh, hcap, hcur⟩ := row_of hown hM1
  have hgw : w.heap.size < g := by simp at hg; omega
  have o0 := later_of (alloc_at w (.cells #[.string (bs (pad52 s.data.toList))] 9)) hb
  have hB0 : Below w.heap.size w w1 := ((Below.refl _ _).alloc (Nat.le_refl _) _).trans (hb.mono (by simp))
  have hcur2 : ∀ k, (h : k < L.length) → cur[k]? = some (.string (bs L[k])) := fun k h => by rw [hcur k (by omega)]; simp [h]
  have HC := Lib.hid hcur2
  clear hcur hcur2 hown hb
  go_wp2
  go_loopw [3, 5, 26] (fun v _ i wr => ∃ k : Nat, k ≤ M ∧ i = .int .i64 k ∧ wr.ownsRow w.heap.size 9 1 v (k + 1) ((pad52 s.data.toList :: L.take k).map fun l => .string (bs l)) ∧ (∃ B, v.ownBlock = some B ∧ B ≠ g) ∧ wr.heap[g]? = some (.cells cur 9 (0, 0)) ∧ Below w.heap.size w wr) (fun _ _ i _ => M - (intOf i).toNat)
  case atStart => exact ⟨0, Nat.zero_le _, rfl, ⟨rfl, .inr ⟨w.heap.size, 1, _, rfl, Nat.le_refl _, o0, by omega, by unfold maxLen; omega, rfl, rfl⟩⟩, ⟨w.heap.size, rfl, by omega⟩, hh, hB0⟩
  case round =>
    obtain ⟨k, hk, rfl, hown, ⟨B, hvB, hBg⟩, hgr, hB⟩ := hrel
    by_cases hlt : k < M
    · have hck : wr.cell? ⟨g, k, none⟩ = some (.string (bs L[k])) := by rw [cell_of hgr, HC.out k (by omega)]
      have hsnoc : L.take (k + 1) = L.take k ++ [L[k]] := List.take_succ_eq_append_getElem (by omega)
      have HSn := Lib.hid hsnoc
      have HvB := Lib.hid hvB
      obtain ⟨XS, hXS⟩ : ∃ XS, ((pad52 s.data.toList :: L.take k).map fun l => Value.string (bs l)) = XS := ⟨_, rfl⟩
      rw [hXS] at hown
      have HX := Lib.hid hXS
      clear hsnoc hvB hXS
      go_wp2_with (at_builtin; refine wpList_append_own_at _ rfl (.tmp 30) (.tmp 32) 133 rfl w.heap.size 9 i0 (.string ⟨#[]⟩) 1 16 Try.underlying133 hi hz0 hz1 hz2 rfl (by decide) _ (k + 1) _ rfl (hown.alloc _) ⟨wr.heap.size, 0, none⟩ 1 1 [.string (bs L[k])] rfl rfl ?b1 ?b2 ?b3 ?b4 ?b5 ?_)
      case b1 => exact cell_one_new _ _ _
      case b2 => simp [Value.oneCell']
      case b3 => unfold maxLen; omega
      case b4 => omega
      case b5 => have := hB.size; simp; omega
      intro v' w2 hown2 hgrow _ hblk
      have hB2 : Below w.heap.size w w2 := (hB.alloc hB.size _).grown hgrow (by have := hB.size; simp; omega) (ownBlock_ge hown)
      have hg2 : w2.heap[g]? = some (.cells cur 9 (0, 0)) := by
        rw [hgrow.block g (by have := lt_of hgr; simp; omega) (by rw [HvB.out]; exact fun h => hBg (Option.some.inj h).symm)]
        exact alloc_old hgr _
      have hblk2 : ∃ B, v'.ownBlock = some B ∧ B ≠ g := by
        rcases hblk with h | h
        · exact ⟨B, by rw [h, HvB.out], hBg⟩
        · exact ⟨_, h, by have := lt_of hgr; simp; omega⟩
      have HB := Lib.hid hblk2
      clear hblk hblk2
      go_wp2
      go_roundw
      case rel => exact ⟨k + 1, by omega, by go_num, by
        rw [HSn.out, ← List.cons_append, List.map_append, HX.out]
        exact hown2, HB.out, hg2, hB2⟩
      case measure => simp [intOf]; omega
    · obtain rfl : k = M := by omega
      rw [List.take_of_length_le (by omega)] at hown
      go_wp2
      go_ret
      exact ⟨_, rfl, hown, hB⟩

theorem rpieces_any : ∀ (n : Nat) (s : ByteArray), s.size ≤ n → s.size ≤ 100000 → ∀ w,
    Calls Try.prog 73 #[.string s] w fun e w' => ∃ v, e = .returned v ∧ w'.ownsRow w.heap.size 9 1 v (many s.size) ((pieces (many s.size) s.data.toList).map fun l => .string (bs l)) ∧ Below w.heap.size w w'
  | n, s, hn, h2, w => by
    by_cases h0 : s.size = 0
    · rw [empty_of s h0]
      exact (rpieces_none w).mono fun e w' h => ⟨_, h.1, ⟨rfl, .inl ⟨rfl, rfl⟩⟩, by rw [← h.2]; exact Below.refl _ _⟩
    · by_cases h1 : s.size ≤ 52
      · rw [many_one s.size (by omega) h1]
        exact rpieces_one s (by omega) h1 w
      · cases n with
        | zero => omega
        | succ n =>
          have hsz : (s.extract 52 s.size).size = s.size - 52 := by rw [ByteArray.size_extract]; omega
          have hl : (s.extract 52 s.size).data.toList = s.data.toList.drop 52 := by
            rw [extract_list, List.take_of_length_le (by rw [List.length_drop, ← size_list]; exact Nat.le_refl _)]
          have ih := fun w => rpieces_any n (s.extract 52 s.size) (by omega) (by omega) w
          rw [hsz, hl] at ih
          rw [many_step s.size (by omega)]
          exact rpieces_more s (by omega) h2 (many (s.size - 52)) (by unfold many; rw [if_neg (by omega)]; omega) (by unfold many; split <;> omega) (pieces (many (s.size - 52)) (s.data.toList.drop 52)) (pieces_length _ _) ih w

end Go.Proofs.Ytoabdpobpmbckaa.Print
