/- frame.Pieces: bytes in pieces. -/
import Derived.Test.YtoobiffhjjfpgaaGreatFrame
import Derived.Test.YtoobiffhjjfpgaaGreatShelf
import Derived.Deep.RegionLaw
import Derived.Laws.AppendOwn
import Derived.Lib.Repeat
namespace Go.Proofs.YtoobiffhjjfpgaaGreat.Print
open Go.RowKit

/-- append to a slice of the call's own, as one step of a region that draws -/
theorem step_append_own {P : Program} {ops : Array Oper} {o : Oper} {a : Act} {w : World} {K : Act → World → Prop} {Q : Exit → Act → World → Prop} {E : Prop} (hgd : o.guard = none) (s x : Operand) (t : TypeId)
    (ho : o.op = .call { callee := .builtin .append, args := #[s, x], argTypes := #[t, t] })
    (base : Nat) (e : TypeId) (i : TypeInfo) (z : Value) (size bytes : Nat) (ht : P.underlying t = some (.slice e)) (hi : P.info? e = some i) (hz : i.zero = some z)
    (hsize : i.size = size) (hby : i.bytes = bytes) (hzs : z.cells.size = size) (hsz : 0 < size)
    (v : Value) (n : Nat) (xs : List Value) (hs : a.eval s = v) (hown : w.ownsRow base e size v n xs)
    (ad : Addr) (m c : Nat) (news : List Value) (hx : a.eval x = .slice (some ad) m c) (hl : news.length = m * size) (hnews : ∀ j u, news[j]? = some u → w.cell? (ad.add j) = some u) (h1 : ∀ u ∈ news, u.oneCell' = true)
    (h63 : n + m ≤ maxLen) (hbytes : (n + m) * bytes ≤ 140737488355328) (hbase : base ≤ w.heap.size)
    (h : ∀ v' w', w'.ownsRow base e size v' (n + m) (xs ++ news) → w.grownBy w' v.ownBlock → (v' = .slice none 0 0 ↔ v = .slice none 0 0 ∧ m = 0) → K (a.put o.dst v') w') :
    if Region.wanted o (yielded ops a.tmps) = true then Oper.wp P o a w K Q else E := by
  have hw : Region.wanted o (yielded ops a.tmps) = true := by simp [Region.wanted, hgd]
  rw [if_pos hw]
  exact wp_append_own w s x t ho base e i z size bytes ht hi hz hsize hby hzs hsz v n xs hs hown ad m c news hx hl hnews h1 h63 hbytes hbase h

theorem ownsRow_below {w w' : World} {base : Nat} {e : TypeId} {size : Nat} {v : Value} {n : Nat} {xs : List Value} (h : w.ownsRow base e size v n xs) (hb : Below w.heap.size w w') : w'.ownsRow base e size v n xs := by
  obtain ⟨h1, h2⟩ := h
  refine ⟨h1, ?_⟩
  rcases h2 with h2 | ⟨g, cap, cur, hv, hg, hh, r⟩
  · exact Or.inl h2
  · exact Or.inr ⟨g, cap, cur, hv, hg, (hb.block g (lt_of hh)).trans hh, r⟩
theorem ownBlock_ge {w : World} {base : Nat} {e : TypeId} {size : Nat} {v : Value} {n : Nat} {xs : List Value} (h : w.ownsRow base e size v n xs) : ∀ k, v.ownBlock = some k → base ≤ k := by
  intro k hk
  rcases h.2 with h2 | ⟨g, cap, cur, hv, hg, _⟩
  · rw [h2.1] at hk; cases hk
  · rw [hv] at hk
    have : g = k := Option.some.inj hk
    omega

/-- A piece: 52 bytes, zeros behind the last ones. -/
def pad52 (l : List UInt8) : List UInt8 := l.take 52 ++ List.replicate (52 - l.length) 0
/-- So many pieces. -/
def pieces : Nat → List UInt8 → List (List UInt8)
  | 0, _ => []
  | n + 1, l => pad52 l :: pieces n (l.drop 52)
def many (n : Nat) : Nat := if n = 0 then 0 else (n - 1) / 52 + 1
theorem pieces_length (n : Nat) (l : List UInt8) : (pieces n l).length = n := by
  induction n generalizing l with
  | zero => rfl
  | succ n ih => simp [pieces, ih]
theorem pieces_snoc (n : Nat) (l : List UInt8) : pieces (n + 1) l = pieces n l ++ [pad52 (l.drop (52 * n))] := by
  induction n generalizing l with
  | zero => simp [pieces]
  | succ n ih =>
    rw [pieces, ih, pieces]
    simp [List.drop_drop, Nat.mul_add, Nat.add_comm]

theorem info_str : (Tryz.prog.info? 9).map (fun i => (i.zero, i.size, i.bytes)) = some (some (.string ⟨#[]⟩), 1, 16) := by kernel_rfl

set_option maxRecDepth 100000 in
set_option maxHeartbeats 800000 in
theorem pieces_any (s : ByteArray) (hs : s.size ≤ 100000) (w : World) :
    Calls Tryz.prog 112 #[.string s] w fun e w' => ∃ v, e = .returned v ∧ w'.ownsRow w.heap.size 9 1 v (many s.size) ((pieces (many s.size) s.data.toList).map fun l => .string (bs l)) ∧ Below w.heap.size w w' := by
  obtain ⟨i0, hi, hz0, hz1, hz2⟩ := info_parts info_str
  obtain ⟨N, hN⟩ : ∃ N, many s.size = N := ⟨_, rfl⟩
  have hNs : N * 52 < s.size + 52 := by rw [← hN]; unfold many; split <;> omega
  have hNk : ∀ k, k < N → 52 * k < s.size := by
    intro k hk
    rw [← hN] at hk
    unfold many at hk
    split at hk <;> omega
  have hM : ∀ w, Calls Tryz.prog 72 #[.int .i64 s.size] w fun e w' => e = .returned (.int .i64 (N : Int)) ∧ w = w' := by
    intro w
    by_cases h0 : s.size = 0
    · have := many_none (s.size : Int) (by omega) w
      rw [← hN, many, if_pos h0]
      exact this
    · have := many_pos s.size _ rfl (by omega) (by omega) w
      rw [← hN, many, if_neg h0]
      exact this
  have HM := Lib.hid hM
  clear hM
  rw [hN]
  have HN := Lib.hid hN
  clear hN
  have HK := Lib.hid hNk
  clear hNk
  go_enter Tryz.func112, Tryz.ntmps112
  go_wp2_with fail
  refine (HM.out _).mono ?_
  rintro e w1 ⟨rfl, rfl⟩
  go_wp2
  go_loopw [0, 3, 4, 8] (fun r v _ i wr => ∃ k : Nat, k ≤ N ∧ i = .int .i64 k ∧ r = .string (bs (s.data.toList.drop (52 * k))) ∧ wr.ownsRow w.heap.size 9 1 v k ((pieces k s.data.toList).map fun l => .string (bs l)) ∧ Below w.heap.size w wr) (fun _ _ _ i _ => N - (intOf i).toNat)
  case atStart => exact ⟨0, Nat.zero_le _, rfl, by rw [Nat.mul_zero, List.drop_zero, bs_of], ⟨rfl, .inl ⟨rfl, rfl⟩⟩, Below.refl _ _⟩
  case round =>
    obtain ⟨k, hk, rfl, rfl, hown, hB⟩ := hrel
    by_cases hlt : k < N
    · have hpos := HK.out k hlt
      obtain ⟨R, hR⟩ : ∃ R, s.data.toList.drop (52 * k) = R := ⟨_, rfl⟩
      have hRl : R.length = s.size - 52 * k := by rw [← hR, List.length_drop, ← size_list]
      have hRp : 0 < R.length := by omega
      have hRm : R.length ≤ 100000 := by omega
      obtain ⟨n, hn⟩ : ∃ n, min R.length 52 = n := ⟨_, rfl⟩
      have hn1 : n ≤ R.length := by omega
      have hn2 : n ≤ 52 := by omega
      have hmin : min (R.length : Int) 52 = (n : Int) := by omega
      have hbs : (bs R).size = R.length := bs_size R
      have hpad : (bs R).extract 0 n ++ bs (List.replicate (52 - n) 0) = bs (pad52 R) := by
        apply list_inj
        rw [append_list, extract_list, bs_list, bs_list, bs_list, pad52, List.drop_zero, Nat.sub_zero]
        by_cases h52 : R.length ≤ 52
        · rw [show n = R.length by omega, List.take_length, List.take_of_length_le h52]
        · rw [show n = 52 by omega, show 52 - R.length = 0 by omega]
      have hdrop : (bs R).extract n R.length = bs (s.data.toList.drop (52 * (k + 1))) := by
        apply list_inj
        rw [extract_list, bs_list, bs_list, List.take_of_length_le (by simp), Nat.mul_add, ← List.drop_drop, hR]
        by_cases h52 : R.length ≤ 52
        · rw [List.drop_of_length_le (by omega), List.drop_of_length_le (by omega)]
        · rw [show n = 52 by omega]
      have hsnoc : pieces (k + 1) s.data.toList = pieces k s.data.toList ++ [pad52 R] := by rw [pieces_snoc, hR]
      have hRep : ∀ w, Calls Tryz.prog 128 #[.string ⟨#[0]⟩, .int .i64 (IntKind.i64.wrap (52 - (n : Int)))] w fun e w' => e = .returned (.string (bs (List.replicate (52 - n) 0))) ∧ Below w.heap.size w w' := by
        intro w
        have h := Tryz.strings_Repeat ⟨#[0]⟩ (52 - n) w (by omega) (by show 1 * (52 - n) ≤ _; omega)
        have e1 : (Lib.repeatL (⟨#[0]⟩ : ByteArray).data.toList (52 - n)) = List.replicate (52 - n) 0 := by
          have := Lib.repeatL_replicate 0 1 (52 - n)
          simpa using this
        rw [e1] at h
        rw [show IntKind.i64.wrap (52 - (n : Int)) = ((52 - n : Nat) : Int) by rw [IntKind.wrap_i64]; omega]
        exact h
      have KR := Lib.hid hRep
      have HP := Lib.hid hpad
      have HD := Lib.hid hdrop
      have HSn := Lib.hid hsnoc
      have HRR := Lib.hid hR
      rw [hR]
      have x1 : ((bs R).extract 0 n).size = n := by rw [ByteArray.size_extract, hbs]; omega
      have x2 : (bs (List.replicate (52 - n) 0)).size = 52 - n := by rw [bs_size, List.length_replicate]
      have x3 : n + (52 - n) ≤ 9223372036854775807 := by omega
      have x4 : ¬ 9223372036854775807 < n + (52 - n) := by omega
      have x5 : (0 : Int) ≤ n := by omega
      have x6 : (n : Int) ≤ R.length := by omega
      clear hRl hpad hdrop hsnoc hR hRep hn hpos hk
      go_wp2
      go_region_law (first | (go_simp; ((with_reducible refine (KR.out _).mono ?_); rintro e w1 ⟨rfl, hbr⟩; have hown1 := ownsRow_below (by exact hown) hbr; dsimp only)) | (refine step_append_own rfl (.tmp 13) (.tmp 21) 156 rfl w.heap.size 9 i0 (.string ⟨#[]⟩) 1 16 Tryz.underlying156 hi hz0 hz1 hz2 rfl (by decide) _ k _ rfl (hown1.alloc _) ⟨w1.heap.size, 0, none⟩ 1 1 [.string ((bs R).extract 0 n ++ bs (List.replicate (52 - n) 0))] rfl rfl ?b1 ?b2 ?b3 ?b4 ?b5 ?_; (case b1 => exact cell_one_new _ _ _); (case b2 => simp [Value.oneCell']); (case b3 => (unfold maxLen; omega)); (case b4 => omega); (case b5 => (have z := hbr.size; have z2 := hB.size; simp at z; simp; omega)); intro v' w2 hown2 hgrow _))
      rw [HP.out] at hown2
      have hB1 := hB.drew.trans (hbr.mono hB.size)
      have hB2 : Below w.heap.size w w2 := (hB1.alloc hB1.size _).grown hgrow (by have := hB1.size; simp; omega) (ownBlock_ge hown1)
      go_wp2
      go_roundw
      case rel => exact ⟨k + 1, by omega, by go_num, by rw [HD.out], by
        rw [HSn.out, List.map_append]
        exact hown2, hB2⟩
      case measure => simp [intOf]; omega
    · obtain rfl : k = N := by omega
      go_wp2
      go_ret
      exact ⟨_, rfl, hown, hB⟩

end Go.Proofs.YtoobiffhjjfpgaaGreat.Print
