/- segment: head, lies, told. segment: lies. segment: next. -/
import Derived.Test.YtoobiffhjjfpgaaGreatLd
import Derived.Test.YtoobiffhjjfpgaaGreatSegA
import Derived.Test.YtoobiffhjjfpgaaGreatShelf
namespace Go.Proofs.YtoobiffhjjfpgaaGreat.Print
open Go.RowKit
attribute [local go_sem] run_loadVar_scalar

theorem or_byte64 (v b : Nat) (hv : v < 256) (hb : b < 256) : bits .or .i64 ((v : Int) * 256) (b : Int) = ((v * 256 + b : Nat) : Int) := by
  obtain ⟨m, hm⟩ : ∃ m, m = v * 256 := ⟨_, rfl⟩
  have hc : (v : Int) * 256 = (m : Int) := by omega
  have h2 : m ||| b = m + b := by
    have := Nat.two_pow_add_eq_or_of_lt (i := 8) (b := b) (by omega) v
    rw [show m = 2 ^ 8 * v by omega]
    omega
  have h3 : (BitVec.ofInt 64 (m : Int)).toNat = m := by
    rw [BitVec.ofInt_natCast, BitVec.toNat_ofNat]; exact Nat.mod_eq_of_lt (by omega)
  have h4 : (BitVec.ofInt 64 (b : Int)).toNat = b := by
    rw [BitVec.ofInt_natCast, BitVec.toNat_ofNat]; exact Nat.mod_eq_of_lt (by omega)
  rw [hc, ← hm]
  show IntKind.i64.wrap ((BitVec.ofInt 64 (m : Int) ||| BitVec.ofInt 64 (b : Int)).toNat : Int) = _
  rw [BitVec.toNat_or, h3, h4, h2, IntKind.wrap_i64]
  omega
set_option maxRecDepth 100000 in
set_option maxHeartbeats 400000 in
theorem told_any (s : ByteArray) (h : 2 ≤ s.size) (w : World) :
    Calls Tryz.prog 139 #[.string s] w fun x w' => x = .returned (.int .i64 (many (readL (s.data.toList.take 2) + 6) : Nat)) ∧ ∃ m, w' = w.drewN m := by
  have hr := read2 s h
  have e02 : (s.extract 0 2).data.toList = s.data.toList.take 2 := by rw [extract_list]; simp
  rw [e02] at hr
  have hlt : readL (s.data.toList.take 2) < 65536 := by
    have := readL_lt (s.data.toList.take 2)
    have h2 : (s.data.toList.take 2).length = 2 := by rw [List.length_take, ← size_list]; omega
    rwa [h2] at this
  have b0 : (s[0]'(by omega)).toNat < 256 := (s[0]'(by omega)).toNat_lt
  have b1 : (s[1]'(by omega)).toNat < 256 := (s[1]'(by omega)).toNat_lt
  have q0 : 0 < s.size := by omega
  have q1 : 1 < s.size := by omega
  have q1' : (1 : Int) < (s.size : Int) := by omega
  have hor := or_byte64 _ _ b0 b1
  generalize hR : readL (s.data.toList.take 2) = R at hr hlt
  have hor2 : bits .or .i64 (((s[0]'(by omega)).toNat : Int) * 256) ((s[1]'(by omega)).toNat : Int) = (R : Int) := by rw [hor]; omega
  have hmany : many (R + 6) = (R + 6 - 1) / 52 + 1 := by unfold many; rw [if_neg (by omega)]
  have HM := Lib.hid (fun (a : Int) (ha : a = (R + 6 : Nat)) (w : World) => many_pos (R + 6) a ha (by omega) (by omega) w)
  have HMN := Lib.hid hmany
  clear hor hr e02 hmany
  go_enter Tryz.func139, Tryz.ntmps139
  go_wp2_with fail
  go_quiet (fail)
  go_wp2_with fail
  refine (HM.out _ (by omega) _).mono ?_
  rintro x w1 ⟨rfl, rfl⟩
  go_wp2
  go_ret
  refine ⟨?_, _, rfl⟩
  rw [HMN.out]
  exact ret_int (by omega)

set_option maxRecDepth 100000 in
set_option maxHeartbeats 800000 in
theorem head_of {w : World} (l s : Nat) (D : Nat → ByteArray) (S N : Nat → Nat) (hl : w.heap[l]? = some (ldObj s D S N)) (h : H4) (e : Int) (hD : ∀ w, Calls Tryz.prog 137 #[.string (D 0)] w fun x w' => x = .returned (hdD h.1 h.2.1 h.2.2.1 h.2.2.2 e) ∧ Below w.heap.size w w') (hno : N 0 ≠ 1 ∨ e ≠ 0 ∨ h.2.2.1 ≠ S 0) :
    Calls Tryz.prog 119 #[.pointer (some ⟨l, 0, none⟩)] w fun x w' => x = .returned (.bool false) ∧ Below w.heap.size w w' := by
  have d1 : w.cell? ⟨l, 1, none⟩ = some (.string (D 0)) := ld_data hl 0 (by omega)
  have HD := Lib.hid hD
  have HL := Lib.hid hl
  clear hD hl
  go_enter Tryz.func119, Tryz.ntmps119
  go_wp2_with fail
  refine (HD.out _).mono ?_
  rintro x w1 ⟨rfl, hb1⟩
  have hl1 := alloc_old (later_of HL.out hb1) (.cells #[.int .i64 h.1, .int .u32 h.2.1, .int .u32 h.2.2.1, .int .i64 h.2.2.2] 138)
  have hg1 := alloc_at w1 (.cells #[.int .i64 h.1, .int .u32 h.2.1, .int .u32 h.2.2.1, .int .i64 h.2.2.2] 138)
  have hB1 : Below w.heap.size w (w1.alloc (.cells #[.int .i64 h.1, .int .u32 h.2.1, .int .u32 h.2.2.1, .int .i64 h.2.2.2] 138)) := hb1.alloc hb1.size _
  go_wp2_with fail
  generalize hgg : w1.heap.size = g at hg1 ⊢
  generalize w1.alloc (.cells #[.int .i64 h.1, .int .u32 h.2.1, .int .u32 h.2.2.1, .int .i64 h.2.2.2] 138) = W at hl1 hg1 hB1 ⊢
  obtain ⟨g0, g1, g2, g3, _⟩ := four_of hg1
  have c1 : W.cell? ⟨l, 33, none⟩ = some (.int .i64 (N 0)) := ld_count hl1 0 (by omega)
  have c2 : W.cell? ⟨l, 17, none⟩ = some (.int .u32 (S 0)) := ld_stamp hl1 0 (by omega)
  by_cases a1 : N 0 = 1
  · rw [a1] at c1
    have c1' : W.cell? ⟨l, 33, none⟩ = some (.int .i64 1) := c1
    clear c1
    by_cases a2 : e = 0
    · subst a2
      have a3 : ¬ h.2.2.1 = S 0 := by
        rcases hno with hh | hh | hh
        · exact absurd a1 hh
        · exact absurd rfl hh
        · exact hh
      clear hno a1
      go_quiet (fail)
      go_wp2
      go_ret
      exact ⟨rfl, below_drewN hB1 _⟩
    · clear hno a1
      go_quiet (fail)
      go_wp2
      go_ret
      exact ⟨rfl, below_drewN hB1 _⟩
  · clear hno
    have k1 : (((N 0 : Nat) : Int) != 1) = true := by simp; omega
    go_quiet (fail)
    go_wp2
    go_ret
    exact ⟨rfl, below_drewN hB1 _⟩
set_option maxRecDepth 100000 in
set_option maxHeartbeats 1600000 in
attribute [-go_sem] loadVar in
theorem head_yes {w : World} (l s v : Nat) (n : Int) (h0 : H4) (fv : Value) (en : Int) (sealed : Bool) (D : Nat → ByteArray) (S N : Nat → Nat) (hl : w.heap[l]? = some (ldObj s D S N)) (hs : w.heap[s]? = some (segObj v n h0 fv en sealed))
    (h : H4) (hD : ∀ w, Calls Tryz.prog 137 #[.string (D 0)] w fun x w' => x = .returned (hdD h.1 h.2.1 h.2.2.1 h.2.2.2 0) ∧ Below w.heap.size w w') (hN : N 0 = 1) (hS : S 0 = h.2.2.1) :
    Calls Tryz.prog 119 #[.pointer (some ⟨l, 0, none⟩)] w fun x w' => x = .returned (.bool true) ∧ Upd (fun i => i = s) w w' ∧ w'.heap[s]? = some (segObj v n h fv en sealed) := by
  have d1 : w.cell? ⟨l, 1, none⟩ = some (.string (D 0)) := ld_data hl 0 (by omega)
  have HD := Lib.hid hD
  have HL := Lib.hid hl
  have HSg := Lib.hid hs
  clear hD hl
  go_enter Tryz.func119, Tryz.ntmps119
  go_wp2_with fail
  refine (HD.out _).mono ?_
  rintro x w1 ⟨rfl, hb1⟩
  have hl1 := alloc_old (later_of HL.out hb1) (.cells #[.int .i64 h.1, .int .u32 h.2.1, .int .u32 h.2.2.1, .int .i64 h.2.2.2] 138)
  have hs1 := alloc_old (later_of HSg.out hb1) (.cells #[.int .i64 h.1, .int .u32 h.2.1, .int .u32 h.2.2.1, .int .i64 h.2.2.2] 138)
  have hg1 := alloc_at w1 (.cells #[.int .i64 h.1, .int .u32 h.2.1, .int .u32 h.2.2.1, .int .i64 h.2.2.2] 138)
  have hB1 : Below w.heap.size w (w1.alloc (.cells #[.int .i64 h.1, .int .u32 h.2.1, .int .u32 h.2.2.1, .int .i64 h.2.2.2] 138)) := hb1.alloc hb1.size _
  go_wp2_with fail
  generalize hgg : w1.heap.size = g at hg1 ⊢
  generalize w1.alloc (.cells #[.int .i64 h.1, .int .u32 h.2.1, .int .u32 h.2.2.1, .int .i64 h.2.2.2] 138) = W at hl1 hs1 hg1 hB1 ⊢
  obtain ⟨g0, g1, g2, g3, _⟩ := four_of hg1
  have c0 := ld_seg hl1
  have c1 : W.cell? ⟨l, 33, none⟩ = some (.int .i64 1) := by have := ld_count hl1 0 (by omega); rw [hN] at this; exact this
  have c2 : W.cell? ⟨l, 17, none⟩ = some (.int .u32 h.2.2.1) := by have := ld_stamp hl1 0 (by omega); rw [hS] at this; exact this
  go_quiet (fail)
  have hl2 : (W.drewN nq).heap[l]? = _ := hl1
  have hs2 : (W.drewN nq).heap[s]? = _ := hs1
  have hg2 : (W.drewN nq).heap[g]? = _ := hg1
  have hB2 : Below w.heap.size w (W.drewN nq) := below_drewN hB1 _
  clear c0 c1 c2 g0 g1 g2 g3 hl1 hs1 hg1 hB1
  generalize W.drewN nq = W2 at hl2 hs2 hg2 hB2 ⊢
  have c0 := ld_seg hl2
  obtain ⟨b0, b1, b2, b3, b4, b5, b6, b7, b8, bfz⟩ := nine_of hs2
  have hldh : (loadVar 138 ⟨g, 0, none⟩).run Tryz.prog W2.drew = .ok (hdV h.1 h.2.1 h.2.2.1 h.2.2.2) W2.drew :=
    run_loadVar_row W2.drew g 138 138 #[.int .i64 h.1, .int .u32 h.2.1, .int .u32 h.2.2.1, .int .i64 h.2.2.2] (0, 0) _ hg2 Tryz.underlying138 rfl (by kernel_rfl)
  have hne : ¬ g = s := by have := lt_of HSg.out; have := hb1.size; omega
  go_wp2_with fail
  go_region
  all_goals
    go_wp2
    go_ret
    have hU : Upd (fun i => i = s) W2 ((((W2.setCell ⟨s, 2, none⟩ (.int .i64 h.1)).setCell ⟨s, 3, none⟩ (.int .u32 h.2.1)).setCell ⟨s, 4, none⟩ (.int .u32 h.2.2.1)).setCell ⟨s, 5, none⟩ (.int .i64 h.2.2.2)) :=
      ((((Upd.refl (fun i => i = s) W2).setCell (p := ⟨s, 2, none⟩) (fun _ => rfl) _).setCell (p := ⟨s, 3, none⟩) (fun _ => rfl) _).setCell (p := ⟨s, 4, none⟩) (fun _ => rfl) _).setCell (p := ⟨s, 5, none⟩) (fun _ => rfl) _
    refine ⟨rfl, ((Upd.of_below hB2).trans hU (fun i _ e => e)).drew, ?_⟩
    have e1 : (W2.setCell ⟨s, 2, none⟩ (.int .i64 h.1)).heap[s]? = some (.cells #[.pointer (some ⟨v, 0, none⟩), .int .i64 n, .int .i64 h.1, .int .u32 h0.2.1, .int .u32 h0.2.2.1, .int .i64 h0.2.2.2, fv, .int .i64 en, .bool sealed] 155) := by rw [cells_set _ _ _ _ _ _ hs2]; rfl
    have e2 : ((W2.setCell ⟨s, 2, none⟩ (.int .i64 h.1)).setCell ⟨s, 3, none⟩ (.int .u32 h.2.1)).heap[s]? = some (.cells #[.pointer (some ⟨v, 0, none⟩), .int .i64 n, .int .i64 h.1, .int .u32 h.2.1, .int .u32 h0.2.2.1, .int .i64 h0.2.2.2, fv, .int .i64 en, .bool sealed] 155) := by rw [cells_set _ _ _ _ _ _ e1]; rfl
    have e3 : (((W2.setCell ⟨s, 2, none⟩ (.int .i64 h.1)).setCell ⟨s, 3, none⟩ (.int .u32 h.2.1)).setCell ⟨s, 4, none⟩ (.int .u32 h.2.2.1)).heap[s]? = some (.cells #[.pointer (some ⟨v, 0, none⟩), .int .i64 n, .int .i64 h.1, .int .u32 h.2.1, .int .u32 h.2.2.1, .int .i64 h0.2.2.2, fv, .int .i64 en, .bool sealed] 155) := by rw [cells_set _ _ _ _ _ _ e2]; rfl
    show ((((W2.setCell ⟨s, 2, none⟩ (.int .i64 h.1)).setCell ⟨s, 3, none⟩ (.int .u32 h.2.1)).setCell ⟨s, 4, none⟩ (.int .u32 h.2.2.1)).setCell ⟨s, 5, none⟩ (.int .i64 h.2.2.2)).heap[s]? = _
    rw [cells_set _ _ _ _ _ _ e3]; rfl
end Go.Proofs.YtoobiffhjjfpgaaGreat.Print

namespace Go.Proofs.YtoobiffhjjfpgaaGreat.Print
open Go.RowKit
attribute [local go_sem] run_loadVar_scalar

set_option maxRecDepth 100000 in
set_option maxHeartbeats 1600000 in
theorem lies_any {w : World} (l s v : Nat) (sn : Int) (h : H4) (fv : Value) (e : Nat) (sealed : Bool) (D : Nat → ByteArray) (S N : Nat → Nat) (hl : w.heap[l]? = some (ldObj s D S N)) (hs : w.heap[s]? = some (segObj v sn h fv e sealed)) (he : e ≤ 16)
    (n count : Nat) (hn : n ≤ 100000) (i j : Int) (hi : i = n) (hj : j = count) (b : Bool) (hb : b = true ↔ n ≤ 16 - e ∧ ∀ k, k < n → N (e + k) = count ∧ S (e + k) = h.2.2.1) :
    Calls Tryz.prog 138 #[.pointer (some ⟨l, 0, none⟩), .int .i64 i, .int .i64 j] w fun x w' => x = .returned (.bool b) ∧ Below w.heap.size w w' := by
  subst hi hj
  have c0 := ld_seg hl
  obtain ⟨b0, b1, b2, b3, b4, b5, b6, b7, b8, bfz⟩ := nine_of hs
  have HB := Lib.hid hb
  have HL := Lib.hid hl
  have HS := Lib.hid hs
  clear hb hl hs
  go_enter Tryz.func138, Tryz.ntmps138
  by_cases hfit : n ≤ 16 - e
  · have k1 : decide ((16 : Int) - (e : Int) < (n : Int)) = false := decide_eq_false (by omega)
    go_wp2_with fail
    go_loopw [19] (fun i wr => ∃ k m : Nat, k ≤ n ∧ i = .int .i64 k ∧ wr = w.drewN m ∧ ∀ q, q < k → N (e + q) = count ∧ S (e + q) = h.2.2.1) (fun i _ => n - (intOf i).toNat)
    case atStart => exact ⟨0, 0, Nat.zero_le _, rfl, rfl, fun q hq => absurd hq (by omega)⟩
    case round =>
      obtain ⟨k, m, hk, rfl, rfl, hq⟩ := hrel
      have HQ := Lib.hid hq
      clear hq
      by_cases hlt : k < n
      · have hek : e + k < 16 := by omega
        have d1 : w.cell? ⟨l, 33 + (e + k), none⟩ = _ := ld_count HL.out (e + k) hek
        have d2 : w.cell? ⟨l, 17 + (e + k), none⟩ = _ := ld_stamp HL.out (e + k) hek
        obtain ⟨n0, hn0⟩ : ∃ n0, N (e + k) = n0 := ⟨_, rfl⟩
        obtain ⟨s0, hs0⟩ : ∃ s0, S (e + k) = s0 := ⟨_, rfl⟩
        rw [hn0] at d1
        rw [hs0] at d2
        obtain ⟨ek, hekk⟩ : ∃ ek, e + k = ek := ⟨_, rfl⟩
        have hwr : IntKind.i64.wrap ((e : Int) + (k : Int)) = (ek : Int) := by rw [IntKind.wrap_i64]; omega
        have HN0 := Lib.hid hn0
        have HS0 := Lib.hid hs0
        clear hn0 hs0
        rw [hekk] at hek d1 d2
        have HE := Lib.hid hekk
        clear hekk
        have hei : (ek : Int) < 16 := by omega
        by_cases a1 : n0 = count
        · subst a1
          by_cases a2 : s0 = h.2.2.1
          · subst a2
            go_wp2_with fail
            go_quiet (fail)
            go_wp2
            go_roundw
            case rel =>
              refine ⟨k + 1, m + nq, hlt, by simp, rfl, fun q hq => ?_⟩
              by_cases hqk : q < k
              · exact HQ.out q hqk
              · obtain rfl : q = k := by omega
                exact ⟨HN0.out, HS0.out⟩
            case measure => simp [intOf]; omega
          · obtain rfl : b = false := by
              cases b with
              | false => rfl
              | true => exact absurd (HS0.out.symm.trans ((HB.out.1 rfl).2 k hlt).2) a2
            go_wp2_with fail
            go_quiet (fail)
            go_wp2
            go_ret
            exact ⟨rfl, below_drewN (below_drewN (Below.refl _ _) _) _⟩
        · obtain rfl : b = false := by
            cases b with
            | false => rfl
            | true => exact absurd (HN0.out.symm.trans ((HB.out.1 rfl).2 k hlt).1) a1
          have k2 : ((n0 : Int) != (count : Int)) = true := by simp; omega
          go_wp2_with fail
          go_quiet (fail)
          go_wp2
          go_ret
          exact ⟨rfl, below_drewN (below_drewN (Below.refl _ _) _) _⟩
      · obtain rfl : k = n := by omega
        obtain rfl : b = true := HB.out.2 ⟨hfit, HQ.out⟩
        go_wp2
        go_ret
        exact ⟨rfl, below_drewN (Below.refl _ _) _⟩
  · have k1 : decide ((16 : Int) - (e : Int) < (n : Int)) = true := decide_eq_true (by omega)
    obtain rfl : b = false := by cases b; rfl; exact absurd (HB.out.1 rfl).1 hfit
    go_wp2
    go_ret
    exact ⟨rfl, Below.refl _ _⟩
end Go.Proofs.YtoobiffhjjfpgaaGreat.Print

namespace Go.Proofs.YtoobiffhjjfpgaaGreat.Print
open Go.RowKit
attribute [local go_sem] run_loadVar_scalar

abbrev ldO (s : Nat) (O : Nat → Op3) : Obj := ldObj s (fun k => oD (O k)) (fun k => oS (O k)) (fun k => oN (O k))
theorem arrStr : Tryz.prog.underlying 164 = some (.array (Tryz.prog.arrayLen 164) (Tryz.prog.elem 164)) := by kernel_rfl
theorem alStr : Tryz.prog.arrayLen 164 = 16 := by kernel_rfl
theorem elStr : Tryz.prog.elem 164 = 9 := by kernel_rfl
theorem strInfo : (Tryz.prog.info? 9).map (·.size) = some 1 := by kernel_rfl
theorem join_flat : ∀ l : List (List UInt8), Lib.join l [] = l.flatten
  | [] => rfl
  | x :: r => by
    rw [Lib.join_cons, List.flatten_cons]
    congr 1
    induction r with
    | nil => rfl
    | cons y r ih => simp only [Lib.joinTail, List.map_cons, List.flatten_cons, List.nil_append] at ih ⊢; rw [ih]
/-- strings.Join of the data from a place on. -/
theorem join_any {w : World} {l s : Nat} {O : Nat → Op3} (hl : w.heap[l]? = some (ldO s O)) (h52 : O52 O) (e n c : Nat) (hn : e + n ≤ 16) (hc : n ≤ c) :
    Calls Tryz.prog 141 #[.slice (some ⟨l, 1 + e, none⟩) n c, .string ⟨#[]⟩] w fun x w' => x = .returned (.string (bs (joinP O e n))) ∧ Below w.heap.size w w' := by
  obtain ⟨xs, hxs⟩ : ∃ xs, xs = (List.range n).map fun j => oD (O (e + j)) := ⟨_, rfl⟩
  have hxl : xs.length = n := by rw [hxs]; simp
  have hJ : Lib.join (xs.map (·.data.toList)) (⟨#[]⟩ : ByteArray).data.toList = joinP O e n := by
    show Lib.join _ [] = _
    rw [join_flat, hxs, List.map_map]; rfl
  have hlen : (joinP O e n).length ≤ 52 * n := by
    clear hJ hxl hxs
    induction n with
    | zero => exact Nat.le_refl _
    | succ n ih =>
      rw [joinP_succ, List.length_append]
      have := ih (by omega) (by omega)
      have h2 : (oD (O (e + n))).data.toList.length ≤ 52 := by
        cases hO : O (e + n) with
        | none => simp [oD]
        | some x => have := h52 _ _ hO; simp only [oD, bs_list]; omega
      omega
  have h := Tryz.strings_Join l (1 + e) c xs ⟨#[]⟩ w (by
    intro j x hx
    have hj : j < n := by rw [← hxl]; exact (List.getElem?_eq_some_iff.1 hx).1
    rw [show 1 + e + j = 1 + (e + j) by omega, ld_data hl (e + j) (by omega)]
    rw [hxs] at hx
    simp [hj] at hx
    rw [hx]) (lt_of hl) (by omega) (by omega) (by rw [hJ]; omega)
  rw [hJ, hxl] at h
  exact h
theorem strSlice (b o e en n : Nat) (he : e + n = en) (h : en ≤ 16) (h16 : e < 16) (w : World) : (Instr.sliceAt 164 (.pointer (some ⟨b, o, none⟩)) (some (.int .i64 e)) (some (.int .i64 en)) none).run Tryz.prog w = .ok (.slice (some ⟨b, o + e, none⟩) n (16 - e)) w := by
  rw [run_sliceAt_array_lh w 164 _ arrStr .i64 .i64 e en (by omega) (by omega) (by rw [alStr]; omega), alStr, elStr]
  go_simp
  subst he
  simp
  omega
theorem told_quiet {f : FuncId} {args : Array Value} {v : Value} (h : ∀ w, Calls Tryz.prog f args w fun x w' => x = .returned v ∧ ∃ m, w' = w.drewN m) (w : World) (n : Nat) :
    Calls Tryz.prog f args (w.drewN n) fun x w' => x = .returned v ∧ ∃ m, w' = w.drewN m :=
  (h (w.drewN n)).mono fun _ _ ⟨hx, m, hm⟩ => ⟨hx, n + m, by rw [hm]; simp [World.drewN, Nat.add_assoc]⟩
theorem O52_of {O : Nat → Op3} (h : ∀ k, ∃ L, O k = opnP L) : O52 O := by
  intro k x hx
  obtain ⟨L, hL⟩ := h k
  rw [hL] at hx
  exact (opnP_back hx).2.2.2.2

set_option maxRecDepth 100000 in
set_option maxHeartbeats 1600000 in
/-- No next frame, as no sector is sealed so. -/
theorem next_gate {w : World} {l s v n : Nat} {h : H4} {fs : List Fr} {e : Nat} {G : Foot} (S : SegIs s v n h fs e true w G) (O : Nat → Op3) (hl : w.heap[l]? = some (ldO s O)) (he : e ≤ 16) (hfs : fs.length ≤ 1000)
    (hno : e = 16 ∨ gate O h.2.2.1 (fs.length + 2) e = none) :
    Calls Tryz.prog 120 #[.pointer (some ⟨l, 0, none⟩)] w fun x w' => x = .returned (.bool false) ∧ Below w.heap.size w w' := by
  obtain ⟨fv, hs, hrow, hne, hG⟩ := S
  have hL := fun i j hi hj => lies_any l s v n h fv e true (fun k => oD (O k)) (fun k => oS (O k)) (fun k => oN (O k)) hl hs he 1 (fs.length + 2) (by omega) i j hi hj false (by
    constructor
    · intro hh; cases hh
    · rintro ⟨h1, h2⟩
      obtain ⟨d, hd⟩ := (gate_iff (O := O) (by omega)).1 (h2 0 (by omega))
      rcases hno with hh | hh
      · omega
      · have hd' : gate O h.2.2.1 (fs.length + 2) e = some d := hd
        rw [hh] at hd'; cases hd')
  have HL := Lib.hid hL
  have hlenV : ∃ ao ac, fv = .slice ao fs.length ac := by
    rcases hrow.2 with ⟨rfl, h0⟩ | ⟨g, cap, cur, rfl, _⟩
    · exact ⟨none, 0, by rw [h0]⟩
    · exact ⟨_, _, rfl⟩
  obtain ⟨ao, ac, rfl⟩ := hlenV
  have c0 := ld_seg hl
  obtain ⟨b0, b1, b2, b3, b4, b5, b6, b7, b8, bfz⟩ := nine_of hs
  clear hL hl hs hrow hno
  go_enter Tryz.func120, Tryz.ntmps120
  go_wp2_with fail
  refine (HL.out _ _ rfl (by omega)).mono ?_
  rintro x w1 ⟨rfl, hb1⟩
  go_wp2
  go_ret
  exact ⟨rfl, hb1⟩

set_option maxRecDepth 100000 in
set_option maxHeartbeats 1600000 in
/-- No next frame, as some of its sectors are not sealed so. -/
theorem next_part {w : World} {l s v n : Nat} {h : H4} {fs : List Fr} {e : Nat} {G : Foot} (S : SegIs s v n h fs e true w G) (O : Nat → Op3) (h52 : O52 O) (hl : w.heap[l]? = some (ldO s O)) (he : e < 16) (hfs : fs.length ≤ 1000)
    (d : List UInt8) (hd : gate O h.2.2.1 (fs.length + 2) e = some d) (hno : ¬ (many (readL (d.take 2) + 6) ≤ 16 - e ∧ ∀ k, k < many (readL (d.take 2) + 6) → ∃ d', gate O h.2.2.1 (fs.length + 2) (e + k) = some d')) :
    Calls Tryz.prog 120 #[.pointer (some ⟨l, 0, none⟩)] w fun x w' => x = .returned (.bool false) ∧ Below w.heap.size w w' := by
  obtain ⟨fv, hs, hrow, hne, hG⟩ := S
  have ho := gate_some hd
  have hdl := h52 _ _ ho
  have hrd := readL_lt (d.take 2)
  have hM2 : many (readL (d.take 2) + 6) ≤ 100000 := by
    have h2 : (d.take 2).length = 2 := by rw [List.length_take]; simp only at hdl; omega
    rw [h2] at hrd
    unfold many; split <;> omega
  have hT := fun (w : World) => told_any (bs d) (by rw [bs_size]; simp only at hdl; omega) w
  rw [bs_list] at hT
  generalize many (readL (d.take 2) + 6) = M at hno hM2 hT
  have HT := Lib.hid hT
  have hL1 := fun w' hl' hs' i j hi hj => lies_any (w := w') l s v n h fv e true (fun k => oD (O k)) (fun k => oS (O k)) (fun k => oN (O k)) hl' hs' (by omega) 1 (fs.length + 2) (by omega) i j hi hj true (by
    constructor
    · intro _
      refine ⟨by omega, fun k hk => ?_⟩
      obtain rfl : k = 0 := by omega
      exact (gate_iff (O := O) (by omega)).2 ⟨d, hd⟩
    · intro _; rfl)
  have hL2 := fun w' hl' hs' i j hi hj => lies_any (w := w') l s v n h fv e true (fun k => oD (O k)) (fun k => oS (O k)) (fun k => oN (O k)) hl' hs' (by omega) M (fs.length + 2) (by omega) i j hi hj false (by
    constructor
    · intro hh; cases hh
    · rintro ⟨h1, h2⟩
      exact absurd ⟨h1, fun k hk => (gate_iff (O := O) (by omega)).1 (h2 k hk)⟩ hno)
  have HL1 := Lib.hid hL1
  have HL2 := Lib.hid hL2
  have hlenV : ∃ ao ac, fv = .slice ao fs.length ac := by
    rcases hrow.2 with ⟨rfl, h0⟩ | ⟨g, cap, cur, rfl, _⟩
    · exact ⟨none, 0, by rw [h0]⟩
    · exact ⟨_, _, rfl⟩
  obtain ⟨ao, ac, rfl⟩ := hlenV
  have c0 := ld_seg hl
  have HHL := Lib.hid hl
  have HHS := Lib.hid hs
  have HO := Lib.hid ho
  obtain ⟨b0, b1, b2, b3, b4, b5, b6, b7, b8, bfz⟩ := nine_of hs
  clear hL1 hL2 hl hs hrow hno hT hd ho hrd hdl
  go_enter Tryz.func120, Tryz.ntmps120
  go_wp2_with fail
  refine (HL1.out _ HHL.out HHS.out _ _ rfl (by omega)).mono ?_
  rintro x w1 ⟨rfl, hb1⟩
  have hl1 := later_of HHL.out hb1
  have hs1 := later_of HHS.out hb1
  clear c0 b0 b1 b2 b3 b4 b5 b6 b7 b8 bfz
  have c0 := ld_seg hl1
  have d1 : w1.cell? ⟨l, 1 + e, none⟩ = some (.string (bs d)) := by
    have := ld_data hl1 e he
    rw [HO.out] at this
    exact this
  obtain ⟨b0, b1, b2, b3, b4, b5, b6, b7, b8, bfz⟩ := nine_of hs1
  have hei : (e : Int) < 16 := by omega
  have HB1 := Lib.hid hb1
  have HL1' := Lib.hid hl1
  have HS1' := Lib.hid hs1
  clear hb1 hl1 hs1
  go_wp2_with fail
  go_quiet (exact told_quiet HT.out _ _)
  have hl2 : (w1.drewN nq).heap[l]? = _ := HL1'.out
  have hs2 : (w1.drewN nq).heap[s]? = _ := HS1'.out
  have HL2' := Lib.hid (fun i j hi hj => HL2.out (w1.drewN nq) hl2 hs2 i j hi hj)
  clear hl2 hs2
  go_wp2_with fail
  refine (HL2'.out _ _ rfl (by omega)).mono ?_
  rintro x w2 ⟨rfl, hb2⟩
  go_wp2
  go_ret
  exact ⟨rfl, (below_drewN HB1.out _).trans (hb2.mono HB1.out.size)⟩
end Go.Proofs.YtoobiffhjjfpgaaGreat.Print
