/- weighlockref11: Decode. weighlockref13: run. weighlockref13: Load. -/
import Derived.Test.YtoabdpobpmbckaaRefM
import Derived.Test.YtoabdpobpmbckaaRefA
namespace Go.Proofs.Ytoabdpobpmbckaa.Print
open Go.RowKit

theorem rread8 (s : ByteArray) (h8 : s.size ≤ 8) (w : World) :
    Calls Try.prog 118 #[.string s] w fun e w' => e = .returned (.int .u64 (readL s.data.toList : Nat)) ∧ w = w' := by
  go_enter Try.func118, Try.ntmps118
  go_wp2
  go_loop [3, 4, 7] (fun v _ i => ∃ k : Nat, k ≤ s.size ∧ i = .int .i64 k ∧ v = .int .u64 (readL (s.data.toList.take k) : Nat)) (fun _ _ i => s.size - (intOf i).toNat)
  case atStart => exact ⟨0, Nat.zero_le _, rfl, rfl⟩
  case round =>
    obtain ⟨k, hk, rfl, rfl⟩ := hrel
    by_cases hlt : k < s.size
    · have hb : s[k].toNat < 256 := by have := s[k].toNat_lt; omega
      have hr := readL_lt (s.data.toList.take k)
      have hl : (s.data.toList.take k).length ≤ 7 := by rw [List.length_take]; omega
      have hp : 256 ^ (s.data.toList.take k).length ≤ 256 ^ 7 := Nat.pow_le_pow_right (by decide) hl
      have hr2 : readL (s.data.toList.take k) < 72057594037927936 := Nat.lt_of_lt_of_le hr hp
      clear hr hp
      go_wp2
      refine ⟨⟨k + 1, by omega, by go_num, ?_⟩, by simp [intOf]; omega⟩
      rw [take_byte s k hlt]
      congr 1
      omega
    · obtain rfl : k = s.size := by omega
      go_wp2
      go_ret
      exact ⟨ret_int (by rw [List.take_of_length_le (by simp)]), rfl⟩
theorem keep_l {P : Program} {T : TypeId} {q : Addr} {v : Value} {wB w1 w' : World} (KH : ∀ W, Below wB.heap.size wB W → (loadVar T q).run P W = .ok v W) (h : (loadVar T q).run P w1 = .ok v w1 ∧ Below wB.heap.size wB w1) (hb : Below w1.heap.size w1 w') :
    (loadVar T q).run P w' = .ok v w' ∧ Below wB.heap.size wB w' := ⟨KH _ (h.2.trans (hb.mono h.2.size)), h.2.trans (hb.mono h.2.size)⟩
theorem keep_l0 {P : Program} {T : TypeId} {q : Addr} {v : Value} {wB : World} (KH : ∀ W, Below wB.heap.size wB W → (loadVar T q).run P W = .ok v W) : (loadVar T q).run P wB.drew = .ok v wB.drew ∧ Below wB.heap.size wB wB.drew := ⟨KH _ (Below.refl _ _).drew, (Below.refl _ _).drew⟩
abbrev gotH (a b c d e : Int) : Value := .agg #[.int .i64 a, .int .u32 b, .int .u32 c, .int .i64 d, .int .i64 e]
theorem rhdec_short (s : ByteArray) (h : s.size < 32) (w : World) :
    Calls Try.prog 86 #[.string s] w fun x w' => x = .returned (gotH 0 0 0 0 3) ∧ Below w.heap.size w w' := by
  have k1 : decide ((s.size : Int) < 32) = true := by simp; omega
  go_enter Try.func86, Try.ntmps86
  go_wp2
  exact bodyPost_ret (v := gotH 0 0 0 0 3) (by simp [results, Try.results86, go_sem]) rfl ⟨rfl, by repeat (first | exact Below.refl _ _ | refine Below.setCell ?_ (by simp) _ | refine Below.alloc ?_ (by simp) _)⟩
set_option maxRecDepth 100000 in
set_option maxHeartbeats 6400000 in
attribute [-go_sem] loadVar in
theorem rhdec_walk (s : ByteArray) (h : 32 ≤ s.size) (v0 v1 v2 v3 : Nat) (hv0 : readL (s.extract 2 4).data.toList = v0) (hv1 : readL (s.extract 4 8).data.toList = v1) (hv2 : readL (s.extract 8 12).data.toList = v2) (hv3 : readL (s.extract 12 20).data.toList = v3)
    (l0 : v0 < 65536) (l1 : v1 < 4294967296) (l2 : v2 < 4294967296) (l3 : v3 < 18446744073709551616)
    (ok : Bool) (hok : decide (bs (hdrL (v0, v1, v2, v3)) = s.extract 0 32) = ok) (w : World) :
    Calls Try.prog 86 #[.string s] w fun x w' => x = .returned (if v3 ≤ 1099511627776 ∧ 1 ≤ v0 ∧ ok = true then gotH v0 v1 v2 v3 0 else gotH 0 0 0 0 4) ∧ Below w.heap.size w w' := by
  have k1 : decide ((s.size : Int) < 32) = false := by simp; omega
  have s1 : (12 : Int) ≤ 20 := by omega
  have s2 : (20 : Int) ≤ (s.size : Int) := by omega
  have KR := Lib.hid (fun t ht w => rread8 t ht w)
  have z1 : (s.extract 2 4).size ≤ 8 := by simp; omega
  have z2 : (s.extract 4 8).size ≤ 8 := by simp; omega
  have z3 : (s.extract 8 12).size ≤ 8 := by simp; omega
  have z4 : (s.extract 12 20).size ≤ 8 := by simp; omega
  have K0 := Lib.hid (fun w => rread8 _ z1 w)
  have K1 := Lib.hid (fun w => rread8 _ z2 w)
  have K2 := Lib.hid (fun w => rread8 _ z3 w)
  have K3 := Lib.hid (fun w => rread8 _ z4 w)
  rw [hv0] at K0
  rw [hv1] at K1
  rw [hv2] at K2
  rw [hv3] at K3
  clear hv0 hv1 hv2 hv3 z1 z2 z3 z4 KR
  have HO := Lib.hid hok
  obtain ⟨RV, hRV⟩ : ∃ RV, (if v3 ≤ 1099511627776 ∧ 1 ≤ v0 ∧ ok = true then gotH v0 v1 v2 v3 0 else gotH 0 0 0 0 4) = RV := ⟨_, rfl⟩
  rw [hRV]
  have HRV := Lib.hid hRV
  clear hRV
  have hB1 : Below w.heap.size w (w.alloc (.cells #[.int .i64 0, .int .u32 0, .int .u32 0, .int .i64 0, .int .i64 0] 152)) := (Below.refl _ _).alloc (Nat.le_refl _) _
  have z1 := alloc_at w (.cells #[.int .i64 0, .int .u32 0, .int .u32 0, .int .i64 0, .int .i64 0] 152)
  clear hok
  go_enter Try.func86, Try.ntmps86
  go_wp2_with fail
  refine (K3.out _).mono ?_
  rintro x w1 ⟨rfl, rfl⟩
  by_cases hbig : 1099511627776 < v3
  · have k2 : decide ((1099511627776 : Int) < (v3 : Int)) = true := decide_eq_true (by omega)
    go_wp2
    exact bodyPost_ret (v := gotH 0 0 0 0 4) (by simp [results, Try.results86, go_sem, loadVar]) rfl ⟨by rw [← HRV.out, if_neg (by omega)], by repeat (first | exact Below.refl _ _ | refine Below.setCell ?_ (by simp) _ | refine Below.alloc ?_ (by simp) _)⟩
  · have k2 : decide ((1099511627776 : Int) < (v3 : Int)) = false := decide_eq_false (by omega)
    generalize w.alloc (.cells #[.int .i64 0, .int .u32 0, .int .u32 0, .int .i64 0, .int .i64 0] 152) = w1 at z1 hB1 ⊢
    have u0 : IntKind.i64.wrap (v0 : Int) = v0 := by rw [IntKind.wrap_i64]; omega
    have u1 : IntKind.u32.wrap (v1 : Int) = v1 := by rw [IntKind.wrap_u32]; omega
    have u2 : IntKind.u32.wrap (v2 : Int) = v2 := by rw [IntKind.wrap_u32]; omega
    have u3 : IntKind.i64.wrap (v3 : Int) = v3 := by rw [IntKind.wrap_i64]; omega
    have s3 : (2 : Int) ≤ 4 := by omega
    have s4 : (4 : Int) ≤ 8 := by omega
    have s5 : (8 : Int) ≤ 12 := by omega
    have s6 : (4 : Int) ≤ (s.size : Int) := by omega
    have s7 : (8 : Int) ≤ (s.size : Int) := by omega
    have s8 : (12 : Int) ≤ (s.size : Int) := by omega
    go_wp2_with fail
    go_cut [4] (fun pv wx => ∃ g, pv = .pointer (some ⟨g, 0, none⟩) ∧ w1.heap.size ≤ g ∧ wx.heap[g]? = some (.cells #[.int .i64 v0, .int .u32 v1, .int .u32 v2, .int .i64 v3] 45) ∧ Below w1.heap.size w1 wx)
    case first =>
      go_region_held3 (fun w' => Below w1.heap.size w1 w')
        (first | assumption | exact (Below.refl _ _).drew | exact Below.alloc (by assumption) (Below.size (by assumption)) _ | (repeat (first | exact Below.refl _ _ | refine Below.drew ?_ | refine Below.alloc ?_ (by simp) _)))
        (first
        | (go_at_call 118; (first | (with_reducible refine (K0.out _).mono ?_) | (with_reducible refine (K1.out _).mono ?_) | (with_reducible refine (K2.out _).mono ?_)); rintro x wf ⟨rfl, rfl⟩))
      all_goals
        have hBx := ‹Below _ _ _›
        go_wp2_with fail
        go_meet
        exact ⟨_, rfl, Nat.le_refl _, alloc_at w1 _, by assumption⟩
    case rest =>
      obtain ⟨g, rfl, hg, hat, hbc⟩ := hcut
      have hB2 := hB1.trans (hbc.mono hB1.size)
      have z2 := later_of z1 hbc
      have KH := Lib.hid (fun (W : World) (hb : Below wc.heap.size wc W) => load_rhdr (later_of hat hb))
      have KM := Lib.hid (fun w => may_any (v0 : Int) (v1 : Int) (v2 : Int) (v3 : Int) w)
      have hlt2 := lt_of z2
      by_cases h1 : 1 ≤ v0
      · have hmay : mayB (v0 : Int) (v3 : Int) = true := by unfold mayB; simp; omega
        rw [hmay] at KM
        have KE := Lib.hid (fun w => rencode_any (v0, v1, v2, v3) ⟨by show 1 ≤ v0; omega, by show v0 ≤ 65535; omega, l1, l2, by show v3 ≤ 1099511627776; omega⟩ w)
        have hne := bs_beq (bs (hdrL (v0, v1, v2, v3))) (s.extract 0 32)
        have k32 : (32 : Int) ≤ (s.size : Int) := by omega
        rw [HO.out] at hne
        go_wp2_with fail
        (go_region_held3 (fun W => (loadVar 45 ⟨g, 0, none⟩).run Try.prog W = .ok (hdV v0 v1 v2 v3) W ∧ Below wc.heap.size wc W)
          (first | assumption | exact keep_l0 KH.out | exact keep_l KH.out (by assumption) hb)
          (first
          | (go_at_call 23; (with_reducible refine (KM.out _).mono ?_); rintro x we ⟨rfl, hb⟩)
          | (go_at_call 74; (with_reducible refine (KE.out _).mono ?_); rintro x we ⟨rfl, hb⟩)))
        all_goals
          have hBf := (‹_ ∧ Below _ _ _›).2
          have hl := (‹_ ∧ Below _ _ _›).1
          have z3 := later_of z2 hBf
          obtain ⟨c0, c1, c2, c3, c4, f0, f1, f2, f3, f4⟩ := five_of z3
          have hB3 := hB2.trans (hBf.mono hB2.size)
          cases ok
          · go_wp2
            exact bodyPost_ret (v := gotH 0 0 0 0 4) (by simp [results, Try.results86, go_sem, loadVar, c0, c1, c2, c3, c4]) rfl ⟨by rw [← HRV.out, if_neg (by simp)], by repeat (first | exact hB3 | refine Below.setCell ?_ (by simp) _ | refine Below.alloc ?_ (by simp) _)⟩
          · go_wp2
            exact bodyPost_ret (v := gotH v0 v1 v2 v3 0) (by simp [results, Try.results86, go_sem, loadVar, c0, c1, c2, c3, c4]) rfl ⟨by rw [← HRV.out, if_pos (by first | exact ⟨by omega, h1, rfl⟩ | exact ⟨by omega, h1⟩ | exact ⟨by omega, h1, trivial⟩)], by repeat (first | exact hB3 | refine Below.setCell ?_ (by simp) _ | refine Below.alloc ?_ (by simp) _)⟩
      · have hmay : mayB (v0 : Int) (v3 : Int) = false := by unfold mayB; simp; omega
        rw [hmay] at KM
        have hld0 := KH.out _ (Below.refl wc.heap.size wc).drew
        go_wp2_with fail
        first | (go_region_with (first | (go_at_call 23; (with_reducible refine (KM.out _).mono ?_); rintro x we ⟨rfl, hb⟩))) | fail
        all_goals
          have z3 := later_of (w1 := wc.drew) z2 hb
          obtain ⟨c0, c1, c2, c3, c4, f0, f1, f2, f3, f4⟩ := five_of z3
          have hB3 := hB2.trans ((Below.refl wc.heap.size wc).drew.trans hb |>.mono hB2.size)
          go_wp2
          exact bodyPost_ret (v := gotH 0 0 0 0 4) (by simp [results, Try.results86, go_sem, loadVar, c0, c1, c2, c3, c4]) rfl ⟨by rw [← HRV.out, if_neg (by omega)], by repeat (first | exact hB3 | refine Below.setCell ?_ (by simp) _ | refine Below.alloc ?_ (by simp) _)⟩
/-- The reference decodes by hdP. -/
theorem rhdec_all (s : ByteArray) : (hdP s.data.toList = none ∧ ∃ e : Int, e ≠ 0 ∧ ∀ w, Calls Try.prog 86 #[.string s] w fun x w' => x = .returned (gotH 0 0 0 0 e) ∧ Below w.heap.size w w') ∨
    (∃ h, hdP s.data.toList = some h ∧ ∀ w, Calls Try.prog 86 #[.string s] w fun x w' => x = .returned (gotH h.1 h.2.1 h.2.2.1 h.2.2.2 0) ∧ Below w.heap.size w w') := by
  have hsl := size_list s
  by_cases h : s.size < 32
  · refine .inl ⟨?_, 3, by decide, fun w => rhdec_short s h w⟩
    unfold hdP
    rw [if_neg]
    exact fun hc => by omega
  have h' : 32 ≤ s.size := by omega
  have hN := hNum_at s
  have hlt := hNum_lt s.data.toList
  obtain ⟨v0, e0⟩ : ∃ v0, readL (s.extract 2 4).data.toList = v0 := ⟨_, rfl⟩
  obtain ⟨v1, e1⟩ : ∃ v1, readL (s.extract 4 8).data.toList = v1 := ⟨_, rfl⟩
  obtain ⟨v2, e2⟩ : ∃ v2, readL (s.extract 8 12).data.toList = v2 := ⟨_, rfl⟩
  obtain ⟨v3, e3⟩ : ∃ v3, readL (s.extract 12 20).data.toList = v3 := ⟨_, rfl⟩
  rw [e0, e1, e2, e3] at hN
  rw [hN] at hlt
  have hA := fun w => rhdec_walk s h' v0 v1 v2 v3 e0 e1 e2 e3 hlt.1 hlt.2.1 hlt.2.2.1 hlt.2.2.2 _ rfl w
  have ht : (s.extract 0 32).data.toList = s.data.toList.take 32 := by rw [extract_list]; simp
  by_cases hb : v3 ≤ 1099511627776 ∧ 1 ≤ v0 ∧ hdrL (v0, v1, v2, v3) = s.data.toList.take 32
  · refine .inr ⟨(v0, v1, v2, v3), ?_, fun w => ?_⟩
    · unfold hdP
      rw [hN, if_pos ⟨by omega, hb.1, hb.2.1, hb.2.2⟩]
    · have := hA w
      rw [decide_eq_true (show bs (hdrL (v0, v1, v2, v3)) = s.extract 0 32 by rw [hb.2.2, ← ht, bs_of]), if_pos ⟨hb.1, hb.2.1, rfl⟩] at this
      exact this
  · refine .inl ⟨?_, 4, by decide, fun w => ?_⟩
    · unfold hdP
      rw [hN, if_neg (fun hc => hb ⟨hc.2.1, hc.2.2.1, hc.2.2.2⟩)]
    · have := hA w
      rw [if_neg (fun hc => hb ⟨hc.1, hc.2.1, by rw [← ht, ← of_decide_eq_true hc.2.2, bs_list]⟩)] at this
      exact this
end Go.Proofs.Ytoabdpobpmbckaa.Print

namespace Go.Proofs.Ytoabdpobpmbckaa.Print
open Go.RowKit
attribute [local go_sem] run_loadVar_scalar

theorem runP_none {O : Nat → Op3} {st c q k : Nat} (h : gate O st c k = none) : runP O st c q k = [] := by
  cases q with
  | zero => rfl
  | succ q => rw [runP, h]
theorem runP_some {O : Nat → Op3} {st c q k : Nat} {d : List UInt8} (h : gate O st c k = some d) : runP O st c (q + 1) k = d ++ runP O st c q (k + 1) := by rw [runP, h]
theorem gate_no {O : Nat → Op3} {st c k : Nat} (h : O k = none) : gate O st c k = none := by unfold gate; rw [h]
theorem gate_other {O : Nat → Op3} {st c k m n : Nat} {d : List UInt8} (h : O k = some (m, n, d)) (hne : ¬ (m = st ∧ n = c)) : gate O st c k = none := by unfold gate; rw [h]; exact if_neg hne
set_option maxRecDepth 100000 in
set_option maxHeartbeats 1600000 in
attribute [-go_sem] loadVar in
theorem rrun_any (X : Nat → ByteArray) (O : Nat → Op3) (hO : ∀ k, k < 16 → O k = opnP (X k).data.toList) (st c at_ : Nat) (hat : at_ ≤ 16) (w : World) (a b : Int) (ha : a = at_) (hb : b = c) :
    Calls Try.prog 88 #[.agg (secA X), .int .u32 st, .int .i64 a, .int .i64 b] w fun x w' => x = .returned (.string (bs (runP O st c (16 - at_) at_))) ∧ Below w.heap.size w w' := by
  subst ha hb
  obtain ⟨RP, hRP⟩ : ∃ RP, runP O st c (16 - at_) at_ = RP := ⟨_, rfl⟩
  rw [hRP]
  have hsx := secA_size X
  have e0 := alloc_at w (.cells (secA X) 49)
  have hB0 : Below w.heap.size w (w.alloc (.cells (secA X) 49)) := (Below.refl _ _).alloc (Nat.le_refl _) _
  have HO := Lib.hid hO
  have HRP := Lib.hid hRP
  have E0 := Lib.hid e0
  have HB0 := Lib.hid hB0
  clear hO hRP e0 hB0
  go_enter Try.func88, Try.ntmps88
  go_wp2
  go_loopw [9, 10] (fun o i wr => ∃ (j : Nat) (P : List UInt8), at_ ≤ j ∧ j ≤ 16 ∧ i = .int .i64 j ∧ o = .string (bs P) ∧ P.length ≤ 52 * j ∧ P ++ runP O st c (16 - j) j = RP ∧ wr.heap[w.heap.size]? = some (.cells (secA X) 49) ∧ Below w.heap.size w wr) (fun _ i _ => 16 - (intOf i).toNat)
  case atStart => exact ⟨at_, [], Nat.le_refl _, hat, rfl, rfl, by simp, by rw [List.nil_append]; exact HRP.out, E0.out, HB0.out⟩
  case round =>
    obtain ⟨j, P, hj1, hj2, rfl, rfl, hPl, hP, hb0, hB⟩ := hrel
    have HP := Lib.hid hP
    have hps : (bs P).size ≤ 832 := by rw [bs_size]; omega
    have HPl := Lib.hid hPl
    clear hP hPl
    by_cases hlt : j < 16
    · have cj := sec_cell hb0 j hlt
      have HOj := Lib.hid (HO.out j hlt)
      have hop := open_both (X j)
      rw [← HOj.out] at hop
      generalize X j = xj at cj hop
      rcases hop with ⟨h1, _, h2⟩ | ⟨m, n, d, h1, _, h2⟩
      · have K2 := Lib.hid h2
        have H1 := Lib.hid h1
        clear h1 h2
        go_wp2_with fail
        refine (K2.out _).mono ?_
        rintro x w1 ⟨rfl, hb1⟩
        have hB1 := hB.trans (hb1.mono hB.size)
        have hbs : bs P = bs RP := by rw [← HP.out, runP_none (gate_no H1.out), List.append_nil]
        have HBS := Lib.hid hbs
        clear hbs
        go_wp2
        go_ret
        exact ⟨by rw [HBS.out]; rfl, hB1.alloc hB1.size _⟩
      · have K2 := Lib.hid h2
        have H1 := Lib.hid h1
        clear h1 h2
        go_wp2_with fail
        refine (K2.out _).mono ?_
        rintro x w1 ⟨rfl, hb1⟩
        have hB1 := hB.trans (hb1.mono hB.size)
        have b1 := later_of hb0 hb1
        have ho : opnP (X j).data.toList = some (m, n, d) := by rw [← HOj.out, H1.out]
        have d52 : d.length = 52 := (opnP_back ho).2.2.2.2
        have hds : (bs d).size = 52 := by rw [bs_size]; exact d52
        clear ho
        by_cases hg : m = st ∧ n = c
        · obtain ⟨rfl, rfl⟩ := hg
          have hba := bs_append P d
          have HBA := Lib.hid hba
          have HD := Lib.hid d52
          have e1 : IntKind.i64.wrap ((j : Int) + 1) = (j : Int) + 1 := by rw [IntKind.wrap_i64]; omega
          clear hba d52
          go_wp2
          go_roundw
          case rel =>
            have hp := HP.out
            have hpl := HPl.out
            have hd := HD.out
            rw [show 16 - j = (16 - (j + 1)) + 1 by omega, runP_some (gate_of H1.out)] at hp
            exact ⟨j + 1, P ++ d, by omega, hlt, by simp, by rw [← HBA.out], by rw [List.length_append]; omega, by rw [List.append_assoc]; exact hp, alloc_old b1 _, hB1.alloc hB1.size _⟩
          case measure => simp [intOf]; omega
        · have HG := Lib.hid hg
          by_cases hm : m = st
          · have hn : n ≠ c := fun e => hg ⟨hm, e⟩
            have k1 : ((m : Int) != (st : Int)) = false := by rw [hm]; simp
            have k2 : ((n : Int) != (c : Int)) = true := by simp; omega
            clear hg hn hm
            have hbs : bs P = bs RP := by rw [← HP.out, runP_none (gate_other H1.out HG.out), List.append_nil]
            have HBS := Lib.hid hbs
            clear hbs
            go_wp2
            go_ret
            exact ⟨by rw [HBS.out]; rfl, hB1.alloc hB1.size _⟩
          · have k1 : ((m : Int) != (st : Int)) = true := by simp; omega
            clear hg hm
            have hbs : bs P = bs RP := by rw [← HP.out, runP_none (gate_other H1.out HG.out), List.append_nil]
            have HBS := Lib.hid hbs
            clear hbs
            go_wp2
            go_ret
            exact ⟨by rw [HBS.out]; rfl, hB1.alloc hB1.size _⟩
    · obtain rfl : j = 16 := by omega
      have hbs : bs P = bs RP := by rw [← HP.out]; simp [runP]
      have HBS := Lib.hid hbs
      clear hbs
      go_wp2
      go_ret
      exact ⟨by rw [HBS.out]; rfl, hB⟩
end Go.Proofs.Ytoabdpobpmbckaa.Print

namespace Go.Proofs.Ytoabdpobpmbckaa.Print
open Go.RowKit
attribute [local go_sem] run_loadVar_scalar

abbrev ldedA (a b c d : Int) (lv : Value) (e : Int) (ok : Bool) : Array Value := #[.int .i64 a, .int .u32 b, .int .u32 c, .int .i64 d, lv, .int .i64 e, .bool ok]
theorem ldedInfo : (Try.prog.info? 67).map (·.size) = some 7 := by kernel_rfl
theorem zero_lded (w : World) : (zeroValue 67).run Try.prog w = .ok (.agg (ldedA 0 0 0 0 (.slice none 0 0) 0 false)) w := by kernel_rfl
theorem build_lded0 (w : World) : (Instr.build 67 #[]).run Try.prog w = .ok (.agg (ldedA 0 0 0 0 (.slice none 0 0) 0 false)) w := run_build w 67 _ _ (by kernel_rfl)
theorem build_lded (h : H4) (w : World) : (Instr.build 67 #[(0, hdV h.1 h.2.1 h.2.2.1 h.2.2.2), (2, .int .i64 1), (3, .bool true)]).run Try.prog w = .ok (.agg (ldedA h.1 h.2.1 h.2.2.1 h.2.2.2 (.slice none 0 0) 1 true)) w := run_build w 67 _ _ (by kernel_rfl)
theorem load_lded {w : World} {g : Nat} {A : Array Value} {t : TypeId} {fr : Nat × Nat} (hs : A.size = 7) (hg : w.heap[g]? = some (.cells A t fr)) : (loadVar 67 ⟨g, 0, none⟩).run Try.prog w = .ok (.agg A) w :=
  run_loadVar_row w g t 67 A fr _ hg Try.underlying67 rfl (by rw [hs]; exact ldedInfo)
set_option maxRecDepth 100000 in
set_option maxHeartbeats 3200000 in
attribute [-go_sem] Instr.build Instr.fill loadVar in
/-- What is no segment. -/
theorem rload_no (X : Nat → ByteArray) (m n : Int) (dd : ByteArray) (ok : Bool) (hO : ∀ w, Calls Try.prog 71 #[.string (X 0)] w fun x w' => x = .returned (gotS m n dd ok) ∧ Below w.heap.size w w') (a b c d e : Int)
    (hD : ∀ w, Calls Try.prog 86 #[.string dd] w fun x w' => x = .returned (gotH a b c d e) ∧ Below w.heap.size w w') (hbad : ok = false ∨ n ≠ 1 ∨ e ≠ 0 ∨ c ≠ m) (w : World) :
    Calls Try.prog 33 #[.agg (secA X)] w fun x w' => x = .returned (.agg (ldedA 0 0 0 0 (.slice none 0 0) 0 false)) ∧ Below w.heap.size w w' := by
  have hz := zero_lded
  have hb := build_lded0
  obtain ⟨Z, hZ⟩ : ∃ Z, ldedA 0 0 0 0 (.slice none 0 0) 0 false = Z := ⟨_, rfl⟩
  have hsz : Z.size = 7 := by rw [← hZ]; rfl
  have hoz : ∀ v ∈ Z.toList, v.oneCell' = true := by rw [← hZ]; intro v hv; simp only [List.mem_cons, List.not_mem_nil, or_false] at hv; rcases hv with rfl | rfl | rfl | rfl | rfl | rfl | rfl <;> rfl
  rw [hZ] at hz hb ⊢
  clear hZ
  have hsx := secA_size X
  have e0 := alloc_old (alloc_at w (.cells (secA X) 49)) (.cells Z 67)
  have e1 := alloc_at' (w.alloc (.cells (secA X) 49)) (.cells Z 67) (w.heap.size + 1) (by simp)
  have hB0 : Below w.heap.size w ((w.alloc (.cells (secA X) 49)).alloc (.cells Z 67)) := ((Below.refl _ _).alloc (Nat.le_refl _) _).alloc (by simp) _
  have c0 := sec_cell e0 0 (by omega)
  have KO := Lib.hid hO
  have KD := Lib.hid hD
  obtain ⟨bn, hbn⟩ : ∃ bn, (n != 1) = bn := ⟨_, rfl⟩
  obtain ⟨be, hbe⟩ : ∃ be, (e != 0) = be := ⟨_, rfl⟩
  obtain ⟨bc, hbc⟩ : ∃ bc, (c != m) = bc := ⟨_, rfl⟩
  have hB : ok = false ∨ bn = true ∨ be = true ∨ bc = true := by
    rw [← hbn, ← hbe, ← hbc]
    rcases hbad with h | h | h | h
    · exact .inl h
    · exact .inr (.inl (by simpa using h))
    · exact .inr (.inr (.inl (by simpa using h)))
    · exact .inr (.inr (.inr (by simpa using h)))
  have HB := Lib.hid hB
  clear hO hD hbad hB
  go_enter Try.func33, Try.ntmps33
  go_wp2_with fail
  refine (KO.out _).mono ?_
  rintro x w1 ⟨rfl, hb1⟩
  have f1 := alloc_old (later_of e1 hb1) (.cells #[.int .u32 m, .int .i64 n, .string dd, .bool ok] 130)
  have g1 := alloc_at w1 (.cells #[.int .u32 m, .int .i64 n, .string dd, .bool ok] 130)
  have hB1 := (hB0.trans (hb1.mono hB0.size)).alloc (by have := hB0.size; have := hb1.size; omega) (.cells #[.int .u32 m, .int .i64 n, .string dd, .bool ok] 130)
  clear e0 e1 hB0 c0
  generalize hW1 : w1.alloc (.cells #[.int .u32 m, .int .i64 n, .string dd, .bool ok] 130) = W1 at f1 g1 hB1
  obtain ⟨a0, a1, a2, a3, _⟩ := four_of g1
  have HW1 := Lib.hid hW1
  go_wp2_with fail
  refine (KD.out _).mono ?_
  rintro x w2 ⟨rfl, hb2⟩
  have f2 := alloc_old (later_of f1 hb2) (.cells #[.int .i64 a, .int .u32 b, .int .u32 c, .int .i64 d, .int .i64 e] 152)
  have g2 := alloc_old (later_of g1 hb2) (.cells #[.int .i64 a, .int .u32 b, .int .u32 c, .int .i64 d, .int .i64 e] 152)
  have k2 := alloc_at w2 (.cells #[.int .i64 a, .int .u32 b, .int .u32 c, .int .i64 d, .int .i64 e] 152)
  have hB2 := (hB1.trans (hb2.mono hB1.size)).alloc (by have := hB1.size; have := hb2.size; omega) (.cells #[.int .i64 a, .int .u32 b, .int .u32 c, .int .i64 d, .int .i64 e] 152)
  generalize hW2 : w2.alloc (.cells #[.int .i64 a, .int .u32 b, .int .u32 c, .int .i64 d, .int .i64 e] 152) = W2 at f2 g2 k2 hB2
  have HW2 := Lib.hid hW2
  clear a0 a1 a2 a3 hW1 f1 g1 hB1
  obtain ⟨a0, a1, a2, a3, _⟩ := four_of g2
  obtain ⟨c0, c1, c2, c3, c4, _⟩ := five_of k2
  have hst := store_all f2 Z rfl hoz
  have hl := load_lded hsz (row_set f2 Z)
  have hBn := below_setRow hB2 (show w.heap.size ≤ w.heap.size + 1 by omega) Z
  rcases HB.out with rfl | rfl | rfl | rfl
  · go_wp2
    exact bodyPost_ret (v := .agg Z) (by simp [results, Try.results33, asAddr, hl]) rfl ⟨rfl, hBn⟩
  · cases ok
    all_goals
      go_wp2
      exact bodyPost_ret (v := .agg Z) (by simp [results, Try.results33, asAddr, hl]) rfl ⟨rfl, hBn⟩
  · cases ok <;> cases bn
    all_goals
      go_wp2
      exact bodyPost_ret (v := .agg Z) (by simp [results, Try.results33, asAddr, hl]) rfl ⟨rfl, hBn⟩
  · cases ok <;> cases bn <;> cases be
    all_goals
      go_wp2
      exact bodyPost_ret (v := .agg Z) (by simp [results, Try.results33, asAddr, hl]) rfl ⟨rfl, hBn⟩
theorem runP_le {O : Nat → Op3} (h52 : ∀ k, k < 16 → ∀ x, O k = some x → x.2.2.length = 52) (st c : Nat) : ∀ q k, k + q ≤ 16 → (runP O st c q k).length ≤ 52 * q
  | 0, _, _ => by simp [runP]
  | q + 1, k, hk => by
    cases hg : gate O st c k with
    | none => rw [runP_none hg]; simp
    | some d =>
      have := h52 k (by omega) _ (gate_some hg)
      have ih := runP_le h52 st c q (k + 1) (by omega)
      rw [runP_some hg, List.length_append]
      simp only at this
      omega
theorem next_fits {O : Nat → Op3} (h52 : ∀ k, k < 16 → ∀ x, O k = some x → x.2.2.length = 52) {st e c : Nat} {bd : List UInt8} (h : nextP O st e c = some bd) : e < 16 ∧ e + many (6 + bd.length) ≤ 16 ∧ 1 ≤ bd.length ∧ bd.length ≤ 774 := by
  unfold nextP at h
  by_cases he : e < 16
  · rw [if_pos he] at h
    have hl := runP_le h52 st (c + 2) (16 - e) e (by omega)
    obtain ⟨q1, q2, q3, q4, q5, _⟩ := decP_some h
    have hbl : bd.length = readL ((runP O st (c + 2) (16 - e) e).take 2) := by rw [q5, List.length_take, List.length_drop]; omega
    have hm : many (6 + bd.length) ≤ 16 - e := by unfold many; rw [if_neg (by omega)]; omega
    exact ⟨he, by omega, by omega, by omega⟩
  · rw [if_neg he] at h; cases h
abbrev ldedO (h : H4) (lv : Value) (e : Nat) : Obj := .cells #[.int .i64 h.1, .int .u32 h.2.1, .int .u32 h.2.2.1, .int .i64 h.2.2.2, lv, .int .i64 e, .bool true] 67
abbrev openO (m n : Nat) (d : List UInt8) : Obj := .cells #[.int .u32 m, .int .i64 n, .string (bs d), .bool true] 130
/-- What a round's region reads. -/
abbrev LdS (g B0 BO st e : Nat) (dv : Value) (X : Nat → ByteArray) (wB W : World) : Prop :=
  W.cell? ⟨g, 0, none⟩ = some (.int .u32 st) ∧ W.cell? ⟨BO, 5, none⟩ = some (.int .i64 e) ∧ (loadVar 49 ⟨B0, 0, none⟩).run Try.prog W = .ok (.agg (secA X)) W ∧ W.cell? ⟨BO, 4, none⟩ = some dv ∧ Below wB.heap.size wB W
theorem ldS_of {g B0 BO st e n : Nat} {d : List UInt8} {h : H4} {dv : Value} {X : Nat → ByteArray} {wB W : World} (hg : wB.heap[g]? = some (openO st n d)) (hX : wB.heap[B0]? = some (sObj X)) (hO : wB.heap[BO]? = some (ldedO h dv e)) (hb : Below wB.heap.size wB W) : LdS g B0 BO st e dv X wB W := by
  refine ⟨?_, ?_, load_secs (later_of hX hb), ?_, hb⟩
  · rw [cell_of (later_of hg hb)]; rfl
  · rw [cell_of (later_of hO hb)]; rfl
  · rw [cell_of (later_of hO hb)]; rfl
theorem below_z {wB w1 : World} {o : Obj} (h : Below wB.heap.size wB (w1.alloc o)) (hg : wB.heap.size ≤ w1.heap.size) (o' : Obj) : Below wB.heap.size wB (w1.alloc o') :=
  ⟨h.os, h.tape, h.output, by simp; omega, fun k hk => (Below.heap_alloc w1 o' k (by omega)).trans ((Below.heap_alloc w1 o k (by omega)).symm.trans (h.block k hk))⟩
theorem grown_at {w w' : World} {o : Obj} {m : Option Nat} (hg : (w.alloc o).grownBy w' m) {b : Nat} {ob : Obj} (hb : w.heap[b]? = some ob) (hn : m ≠ some b) : w'.heap[b]? = some ob :=
  (hg.block b (by have := lt_of hb; simp; omega) (fun e => hn e.symm)).trans (alloc_old hb o)
theorem zero_gv (w : World) : (zeroValue 155).run Try.prog w = .ok (.agg #[.int .i64 0, .string eB, .int .i64 0, .int .i64 0]) w := by kernel_rfl
set_option maxRecDepth 100000 in
set_option maxHeartbeats 6400000 in
attribute [-go_sem] Instr.build Instr.fill Instr.buildSlice loadVar in
theorem rload_yes (X : Nat → ByteArray) (O : Nat → Op3) (hO : ∀ k, k < 16 → O k = opnP (X k).data.toList) (h : H4) (hh : headP O = some h) (w : World) :
    Calls Try.prog 33 #[.agg (secA X)] w fun x w' => ∃ (ao : Option Addr) (cap : Nat), x = .returned (.agg (ldedA h.1 h.2.1 h.2.2.1 h.2.2.2 (.slice ao (loopP O h.2.2.1 16 [] 1).1.length cap) (loopP O h.2.2.1 16 [] 1).2 true)) ∧ FrsAt w' ao (loopP O h.2.2.1 16 [] 1).1 ∧ (loopP O h.2.2.1 16 [] 1).1.length ≤ 16 ∧ Below w.heap.size w w' := by
  obtain ⟨d, hd1, hd2⟩ := headP_some hh
  obtain ⟨i0, hi0, hz0, hz1, hz2⟩ := info_parts info_fr
  have hop0 : opnP (X 0).data.toList = some (h.2.2.1, 1, d) := by rw [← hO 0 (by omega), hd1]
  have hst : h.2.2.1 < 4294967296 := (opnP_back hop0).2.2.2.1
  have KO := Lib.hid (show ∀ w, Calls Try.prog 71 #[.string (X 0)] w fun x w' => x = .returned (gotS h.2.2.1 1 (bs d) true) ∧ Below w.heap.size w w' from by
    rcases open_both (X 0) with ⟨h1, _, h2⟩ | ⟨m, n, d', h1, _, h2⟩
    · rw [hop0] at h1; cases h1
    · rw [hop0] at h1; cases h1; exact h2)
  obtain ⟨E0, hE0⟩ : ∃ E0 : Int, E0 = 0 := ⟨0, rfl⟩
  have kE : (E0 != 0) = false := by rw [hE0]; rfl
  have KD := Lib.hid (show ∀ w, Calls Try.prog 86 #[.string (bs d)] w fun x w' => x = .returned (gotH h.1 h.2.1 h.2.2.1 h.2.2.2 E0) ∧ Below w.heap.size w w' from by
    rcases rhdec_all (bs d) with ⟨h1, _⟩ | ⟨h', h1, h2⟩
    · rw [bs_list, hd2] at h1; cases h1
    · rw [bs_list, hd2] at h1; cases h1; rw [hE0]; exact h2)
  clear hE0
  have HO := Lib.hid hO
  have H52 := Lib.hid (show ∀ k, k < 16 → ∀ x, O k = some x → x.2.2.length = 52 from fun k hk x hx => (opnP_back (m := x.1) (n := x.2.1) (d := x.2.2) (by rw [← hO k hk]; exact hx)).2.2.2.2)
  have hz := zero_lded
  have hb := build_lded h
  obtain ⟨Z, hZ⟩ : ∃ Z, ldedA 0 0 0 0 (.slice none 0 0) 0 false = Z := ⟨_, rfl⟩
  have hsz : Z.size = 7 := by rw [← hZ]; rfl
  rw [hZ] at hz
  obtain ⟨A1, hA1⟩ : ∃ A1, ldedA h.1 h.2.1 h.2.2.1 h.2.2.2 (.slice none 0 0) 1 true = A1 := ⟨_, rfl⟩
  have hs1 : A1.size = 7 := by rw [← hA1]; rfl
  have ho1 : ∀ v ∈ A1.toList, v.oneCell' = true := by rw [← hA1]; intro v hv; simp only [List.mem_cons, List.not_mem_nil, or_false] at hv; rcases hv with rfl | rfl | rfl | rfl | rfl | rfl | rfl <;> rfl
  have hst1 : ∀ W : World, (storeCells ⟨W.heap.size, 0, none⟩ A1.toList).run Try.prog (W.alloc (.cells Z 67)) = .ok () (W.alloc (.cells A1 67)) := fun W => store_new W _ rfl Z A1 _ (by rw [hsz, hs1]) ho1
  rw [hA1] at hb
  have HA1 := Lib.hid hA1
  have hgv := zero_gv
  obtain ⟨ZG, hZG⟩ : ∃ ZG : Array Value, #[.int .i64 0, .string eB, .int .i64 0, .int .i64 0] = ZG := ⟨_, rfl⟩
  have hsg : ZG.size = 4 := by rw [← hZG]; rfl
  rw [hZG] at hgv
  clear hA1 ho1 hZG
  have hsx := secA_size X
  have e0 := alloc_old (alloc_at w (.cells (secA X) 49)) (.cells Z 67)
  have e1 := alloc_at' (w.alloc (.cells (secA X) 49)) (.cells Z 67) (w.heap.size + 1) (by simp)
  have hB0 : Below w.heap.size w ((w.alloc (.cells (secA X) 49)).alloc (.cells Z 67)) := ((Below.refl _ _).alloc (Nat.le_refl _) _).alloc (by simp) _
  have c0 := sec_cell e0 0 (by omega)
  clear hO hZ hd1 hd2 hop0 hh
  go_enter Try.func33, Try.ntmps33
  go_wp2_with fail
  refine (KO.out _).mono ?_
  rintro x w1 ⟨rfl, hb1⟩
  have f0 := alloc_old (later_of e0 hb1) (.cells #[.int .u32 h.2.2.1, .int .i64 1, .string (bs d), .bool true] 130)
  have f1 := alloc_old (later_of e1 hb1) (.cells #[.int .u32 h.2.2.1, .int .i64 1, .string (bs d), .bool true] 130)
  have g1 := alloc_at w1 (.cells #[.int .u32 h.2.2.1, .int .i64 1, .string (bs d), .bool true] 130)
  have hB1 := (hB0.trans (hb1.mono hB0.size)).alloc (by have := hB0.size; have := hb1.size; omega) (.cells #[.int .u32 h.2.2.1, .int .i64 1, .string (bs d), .bool true] 130)
  generalize hW1 : w1.alloc (.cells #[.int .u32 h.2.2.1, .int .i64 1, .string (bs d), .bool true] 130) = W1 at f0 f1 g1 hB1
  obtain ⟨a0, a1, a2, a3, _⟩ := four_of g1
  clear e0 e1 hB0 c0
  go_wp2_with fail
  refine (KD.out _).mono ?_
  rintro x w2 ⟨rfl, hb2⟩
  have q0 := alloc_old (later_of f0 hb2) (.cells #[.int .i64 h.1, .int .u32 h.2.1, .int .u32 h.2.2.1, .int .i64 h.2.2.2, .int .i64 E0] 152)
  have q1 := alloc_old (later_of f1 hb2) (.cells #[.int .i64 h.1, .int .u32 h.2.1, .int .u32 h.2.2.1, .int .i64 h.2.2.2, .int .i64 E0] 152)
  have g2 := alloc_old (later_of g1 hb2) (.cells #[.int .i64 h.1, .int .u32 h.2.1, .int .u32 h.2.2.1, .int .i64 h.2.2.2, .int .i64 E0] 152)
  have k2 := alloc_at w2 (.cells #[.int .i64 h.1, .int .u32 h.2.1, .int .u32 h.2.2.1, .int .i64 h.2.2.2, .int .i64 E0] 152)
  have hB2 := (hB1.trans (hb2.mono hB1.size)).alloc (by have := hB1.size; have := hb2.size; omega) (.cells #[.int .i64 h.1, .int .u32 h.2.1, .int .u32 h.2.2.1, .int .i64 h.2.2.2, .int .i64 E0] 152)
  generalize hW2 : w2.alloc (.cells #[.int .i64 h.1, .int .u32 h.2.1, .int .u32 h.2.2.1, .int .i64 h.2.2.2, .int .i64 E0] 152) = W2 at q0 q1 g2 k2 hB2
  have hgl := lt_of g1
  clear a0 a1 a2 a3 hW1 f0 f1 g1 hB1
  obtain ⟨a0, a1, a2, a3, _⟩ := four_of g2
  obtain ⟨c0, c1, c2, c3, c4, _⟩ := five_of k2
  have hlh : (loadVar 45 ⟨w2.heap.size, 0, none⟩).run Try.prog W2 = .ok (hdV h.1 h.2.1 h.2.2.1 h.2.2.2) W2 := by
    refine run_loadVar_cells W2 ⟨w2.heap.size, 0, none⟩ 45 [.int .i64 h.1, .int .u32 h.2.1, .int .u32 h.2.2.1, .int .i64 h.2.2.2] _ (fun j v hv => ?_) Try.underlying45 rfl hdrInfo
    rw [Addr.add_lit, Nat.zero_add]
    match j, hv with
    | 0, hv => cases hv; exact c0
    | 1, hv => cases hv; exact c1
    | 2, hv => cases hv; exact c2
    | 3, hv => cases hv; exact c3
  have p0 := alloc_old q0 (.cells A1 67)
  have p1 := alloc_old q1 (.cells A1 67)
  have p2 := alloc_old g2 (.cells A1 67)
  have p3 : (W2.alloc (.cells A1 67)).heap[W2.heap.size]? = some (ldedO h (.slice none 0 0) ((1 : Nat))) := by rw [← HA1.out]; exact alloc_at W2 _
  have hBS := hB2.alloc hB2.size (.cells A1 67)
  have P0 := Lib.hid p0
  have P1 := Lib.hid p1
  have P2 := Lib.hid p2
  have P3 := Lib.hid p3
  have PB := Lib.hid hBS
  have hg2 := lt_of g2
  have hW2s := hB2.size
  have hq1 := lt_of q1
  clear p0 p1 p2 p3 hBS
  have hBO : w.heap.size + 1 < W2.heap.size := hq1
  go_wp2
  generalize W2.alloc (.cells A1 67) = WS at P0 P1 P2 P3 PB ⊢
  generalize hBOe : W2.heap.size = BO at P3 hBO ⊢
  generalize hgOe : w1.heap.size = gO at P2 ⊢
  have hBlt := lt_of P3.out
  have hsz7 := Lib.hid hsz
  go_loopw [] (fun wr => ∃ (q : Nat) (fs : List Fr) (e : Nat) (dv : Value), loopP O h.2.2.1 16 [] 1 = loopP O h.2.2.1 q fs e ∧ 17 ≤ q + e ∧ 1 ≤ e ∧ e ≤ 16 ∧ fs.length + 1 ≤ e ∧ wr.heap[w.heap.size]? = some (sObj X) ∧ wr.heap[w.heap.size + 1]? = some (.cells Z 67) ∧ wr.heap[gO]? = some (openO h.2.2.1 1 d) ∧ wr.heap[BO]? = some (ldedO h dv e) ∧ wr.ownsRow WS.heap.size 55 2 dv fs.length (fcells fs) ∧ Below w.heap.size w wr ∧ WS.heap.size ≤ wr.heap.size) (fun wr => 16 - (intOf ((wr.cell? ⟨BO, 5, none⟩).getD undef)).toNat)
  case atStart => exact ⟨16, [], 1, .slice none 0 0, rfl, by omega, by omega, by omega, by simp, P0.out, P1.out, P2.out, P3.out, ⟨rfl, .inl ⟨rfl, rfl⟩⟩, PB.out, Nat.le_refl _⟩
  case round =>
    obtain ⟨q, fs, e, dv, hlp, hq, he1, he16, hfe, b0, b1, b2, b3, hrow, hB, hsz⟩ := hrel
    obtain ⟨dO, dc, rfl⟩ := row_slice2 hrow
    have hbS := lt_of b3
    have x5 : wr.cell? ⟨BO, 5, none⟩ = some (.int .i64 e) := by rw [cell_of b3]; rfl
    by_cases hlt : e < 16
    · obtain ⟨R, hR⟩ : ∃ R, runP O h.2.2.1 (fs.length + 2) (16 - e) e = R := ⟨_, rfl⟩
      have hrr := fun w a b ha hb => rrun_any X O HO.out h.2.2.1 (fs.length + 2) e (by omega) w a b ha hb
      rw [hR] at hrr
      have KRun := Lib.hid hrr
      have hnx : nextP O h.2.2.1 e fs.length = decP h.2.2.1 e R := by unfold nextP; rw [if_pos hlt, hR]
      obtain ⟨kk, pp, nn, er, hD, hcase⟩ : ∃ (kk : Int) (pp : ByteArray) (nn er : Int), (∀ w, Calls Try.prog 87 #[.int .u32 h.2.2.1, .int .i64 e, .string (bs R)] w fun x w' => x = .returned (gotV kk pp nn er) ∧ Below w.heap.size w w') ∧
          ((er ≠ 0 ∧ nextP O h.2.2.1 e fs.length = none) ∨ (er = 0 ∧ ∃ bd, nextP O h.2.2.1 e fs.length = some bd ∧ (kk, pp) = frOf bd ∧ nn = ((6 + bd.length : Nat) : Int))) := by
        have hdb := dec_both h.2.2.1 e (bs R) hst he1 hlt
        rw [bs_list, ← hnx] at hdb
        rcases hdb with ⟨hdn, er, her, _, hD⟩ | ⟨bd, hds, _, hD⟩
        · exact ⟨_, _, _, er, hD, .inl ⟨her, hdn⟩⟩
        · exact ⟨_, _, _, 0, hD, .inr ⟨rfl, bd, hds, rfl, rfl⟩⟩
      obtain ⟨GV, hGV⟩ : ∃ GV : Array Value, #[.int .i64 kk, .string pp, .int .i64 nn, .int .i64 er] = GV := ⟨_, rfl⟩
      have hsG : GV.size = 4 := by rw [← hGV]; rfl
      have hoG : ∀ v ∈ GV.toList, v.oneCell' = true := by rw [← hGV]; intro v hv; simp only [List.mem_cons, List.not_mem_nil, or_false] at hv; rcases hv with rfl | rfl | rfl | rfl <;> rfl
      have hD2 : ∀ w, Calls Try.prog 87 #[.int .u32 h.2.2.1, .int .i64 e, .string (bs R)] w fun x w' => x = .returned (.agg GV) ∧ Below w.heap.size w w' := by rw [← hGV]; exact hD
      have KDec := Lib.hid hD2
      have hstA : ∀ W : World, (storeCells ⟨W.heap.size, 0, none⟩ GV.toList).run Try.prog (W.alloc (.cells ZG 155)) = .ok () (W.alloc (.cells GV 155)) := fun W => store_new W _ rfl ZG GV _ (by rw [hsg, hsG]) hoG
      have hstB : ∀ (W : World) (g : Nat), W.heap[g]? = some (.cells ZG 155) → (storeCells ⟨g, 0, none⟩ GV.toList).run Try.prog W = .ok () (W.setRow g GV) := fun W g hW => store_all hW GV (by rw [hsg, hsG]) hoG
      have hS0 := ldS_of (h := h) b2 b0 b3 (Below.refl wr.heap.size wr).drew
      have HSS := Lib.hid (fun (W : World) (hb : Below wr.heap.size wr W) => ldS_of (h := h) b2 b0 b3 hb)
      have k7 : IntKind.i64.wrap ((fs.length : Int) + 2) = (fs.length : Int) + 2 := by rw [IntKind.wrap_i64]; omega
      have HGV := Lib.hid hGV
      have HCS := Lib.hid hcase
      have HLP := Lib.hid hlp
      have HRW := Lib.hid hrow
      have B0' := Lib.hid b0
      have B1' := Lib.hid b1
      have B2' := Lib.hid b2
      have B3' := Lib.hid b3
      clear hGV hoG hD hD2 hcase hlp hrow hrr hR hnx b0 b1 b2 b3
      go_wp2_with fail
      go_cut [6] (fun pv wx => ∃ g, pv = .pointer (some ⟨g, 0, none⟩) ∧ wr.heap.size ≤ g ∧ wx.heap[g]? = some (.cells GV 155) ∧ Below wr.heap.size wr wx)
      case first =>
        (go_region_held3 (fun W => W.cell? ⟨gO, 0, none⟩ = some (.int .u32 h.2.2.1) ∧ W.cell? ⟨BO, 5, none⟩ = some (.int .i64 e) ∧ (loadVar 49 ⟨w.heap.size, 0, none⟩).run Try.prog W = .ok (.agg (secA X)) W ∧ W.cell? ⟨BO, 4, none⟩ = some (.slice dO fs.length dc) ∧ Below wr.heap.size wr W)
          (first | assumption | exact hS0 | exact HSS.out _ ((‹_ ∧ _ ∧ _ ∧ _ ∧ Below _ _ _›).2.2.2.2.trans (hb.mono (‹_ ∧ _ ∧ _ ∧ _ ∧ Below _ _ _›).2.2.2.2.size)) | exact HSS.out _ ((‹_ ∧ _ ∧ _ ∧ _ ∧ Below _ _ _›).2.2.2.2.alloc (‹_ ∧ _ ∧ _ ∧ _ ∧ Below _ _ _›).2.2.2.2.size _) | exact HSS.out _ (below_z (‹_ ∧ _ ∧ _ ∧ _ ∧ Below _ _ _›).2.2.2.2 hgw _) | exact HSS.out _ (below_setRow (‹_ ∧ _ ∧ _ ∧ _ ∧ Below _ _ _›).2.2.2.2 hgx _))
          (first
          | (go_at_call 88; (with_reducible refine (KRun.out _ _ _ (by omega) (by omega)).mono ?_); rintro x wf ⟨rfl, hb⟩; have hgw := Nat.le_trans (‹_ ∧ _ ∧ _ ∧ _ ∧ Below _ _ _›).2.2.2.2.size hb.size; (first | (have zx : wf.heap[wr.heap.size]? = some (.cells ZG 155) := later_of (w1 := wr.drew.alloc (.cells ZG 155)) (alloc_at wr.drew _) hb; have hgx : wr.heap.size ≤ wr.heap.size := Nat.le_refl _) | skip))
          | (go_at_call 87; (with_reducible refine (KDec.out _).mono ?_); rintro x wf ⟨rfl, hb⟩; (first | (have zx := later_of zx hb) | (have zx := later_of (alloc_at _ (.cells ZG 155)) hb; have hgx := hgw) | skip); have hgw := Nat.le_trans (‹_ ∧ _ ∧ _ ∧ _ ∧ Below _ _ _›).2.2.2.2.size hb.size)))
        all_goals
          have hBx := (‹_ ∧ _ ∧ _ ∧ _ ∧ Below _ _ _›).2.2.2.2
          go_wp2_with fail
          go_meet
          first
            | exact ⟨_, rfl, hgx, row_set zx GV, hBx⟩
            | exact ⟨_, rfl, hgw, alloc_at _ _, hBx⟩
      case rest =>
        obtain ⟨g6, rfl, hg6, h6, hbc⟩ := hcut
        rw [← HGV.out] at h6
        have x3 : wc.cell? ⟨g6, 3, none⟩ = some (.int .i64 er) := by rw [cell_of h6]; rfl
        have hsz0 := hsz7.out
        rcases HCS.out with ⟨her, hnn⟩ | ⟨rfl, bd, hnx, hfr, rfl⟩
        · have ker : (er != 0) = true := by simpa using her
          obtain ⟨q', rfl⟩ : ∃ q', q = q' + 1 := ⟨q - 1, by omega⟩
          have HLE := Lib.hid (show loopP O h.2.2.1 16 [] 1 = (fs, e) from by rw [HLP.out, loopP, hnn])
          clear hnn her hS0
          have r1 := later_of B1'.out hbc
          have r3 := later_of B3'.out hbc
          have hrw := ownsRow_below HRW.out hbc
          have hBc := hB.trans (hbc.mono hB.size)
          obtain ⟨A9, hA9⟩ : ∃ A9, ldedA h.1 h.2.1 h.2.2.1 h.2.2.2 (.slice dO fs.length dc) e true = A9 := ⟨_, rfl⟩
          have hs9 : A9.size = 7 := by rw [← hA9]; rfl
          have ho9 : ∀ v ∈ A9.toList, v.oneCell' = true := by rw [← hA9]; intro v hv; simp only [List.mem_cons, List.not_mem_nil, or_false] at hv; rcases hv with rfl | rfl | rfl | rfl | rfl | rfl | rfl <;> rfl
          have r3' : wc.heap[BO]? = some (.cells A9 67) := by rw [← hA9]; exact r3
          have hl9 := load_lded hs9 r3'
          have hst9 := store_all r1 A9 (by rw [hsz0, hs9]) ho9
          have hl10 := load_lded hs9 (row_set r1 A9)
          have HA9 := Lib.hid hA9
          have HFr := Lib.hid (show FrsAt (wc.setRow (w.heap.size + 1) A9) dO fs from by
            obtain ⟨ao, ac, hae, hfr⟩ := FrsAt.of_row hrw
            obtain ⟨rfl, rfl⟩ : dO = ao ∧ dc = ac := by simp at hae; exact hae
            refine hfr.keep (S := fun i => i = w.heap.size + 1) ((Upd.refl (fun i => i = w.heap.size + 1) _).setRow (fun _ => rfl) A9) (fun a ha h0 hc => ?_)
            have := ownBlock_ge hrw a.block (by rw [ha]; simp [Value.ownBlock])
            omega)
          have hBn := below_setRow hBc (show w.heap.size ≤ w.heap.size + 1 by omega) A9
          have HBn := Lib.hid hBn
          clear hA9 ho9 r1 r3 r3' hrw hBc hBn
          go_wp2
          exact bodyPost_ret (v := .agg A9) (by simp [results, Try.results33, asAddr, hl10]) rfl ⟨dO, dc, by rw [HLE.out, ← HA9.out], by rw [HLE.out]; exact HFr.out, by rw [HLE.out]; show fs.length ≤ 16; omega, HBn.out⟩
        · have hnf := next_fits H52.out hnx
          have hlf : (loadVar 55 ⟨g6, 0, none⟩).run Try.prog wc = .ok (frV kk pp) wc := by
            refine run_loadVar_cells wc ⟨g6, 0, none⟩ 55 [.int .i64 kk, .string pp] _ (fun j v hv => ?_) Try.underlying55 rfl (by kernel_rfl)
            rw [Addr.add_lit, Nat.zero_add]
            match j, hv with
            | 0, hv => cases hv; rw [cell_of h6]; rfl
            | 1, hv => cases hv; rw [cell_of h6]; rfl
          have hbs := fun (w' : World) => run_buildSlice_one (P := Try.prog) w' 37 55 _ 2 #[.int .i64 kk, .string pp] Try.underlying37 info_fr2 (by omega) (by omega) rfl
          have r3 := later_of B3'.out hbc
          have hrw := ownsRow_below HRW.out hbc
          have hown := ownBlock_ge hrw
          have hownl := fun i hi => (HRW.out.lt i hi).2
          have y4 : wc.cell? ⟨BO, 4, none⟩ = some (.slice dO fs.length dc) := by rw [cell_of r3]; rfl
          have hge := hbc.size
          have hN6 := Lib.hid (show (Value.slice dO fs.length dc).ownBlock ≠ some g6 from fun e => by have := hownl g6 e; omega)
          have hNO := Lib.hid (show (Value.slice dO fs.length dc).ownBlock ≠ some BO from fun e => by have := hown BO e; omega)
          have hne : ¬ g6 = BO := by omega
          have hne2 : ¬ BO = g6 := by omega
          have R3 := Lib.hid r3
          have H6 := Lib.hid h6
          have HRc := Lib.hid hrw
          have HOWN := Lib.hid hown
          have HNX := Lib.hid hnx
          have HFRr := Lib.hid hfr
          have k8 : IntKind.i64.wrap (((6 + bd.length : Nat) : Int) + 51) = ((6 + bd.length : Nat) : Int) + 51 := by rw [IntKind.wrap_i64]; omega
          clear r3 hrw hown hownl h6 hnx hfr hS0
          go_wp2_with (at_builtin; refine wpList_append_lies _ rfl (.tmp 61) (.tmp 64) 37 rfl WS.heap.size 55 i0 _ 2 24 Try.underlying37 hi0 hz0 hz1 hz2 rfl (by omega) (.slice dO fs.length dc) _ _ rfl (HRc.out.alloc _) ⟨wc.heap.size, 0, none⟩ 1 1 (frC (kk, pp)) rfl rfl (World.news_of_block (cs := #[.int .i64 kk, .string pp]) (t := 55) (fr := (0, 0)) (heap_alloc_new wc _)) (by simp [frC, Value.oneCell']) (by omega) (by unfold maxLen; omega) (by omega) (by simp; omega) _ rfl ?_; intro gg cap9 w9 hown9 hgrow hat hlt9; have s3 := grown_at hgrow R3.out hNO.out; have s6 := grown_at hgrow H6.out hN6.out; have S3 := Lib.hid s3; have HO9 := Lib.hid hown9; have HG9 := Lib.hid hgrow; have HA9' := Lib.hid hat; have z4 : w9.cell? ⟨BO, 4, none⟩ = some (.slice dO fs.length dc) := (by rw [cell_of s3]; rfl); have z5 : w9.cell? ⟨BO, 5, none⟩ = some (.int .i64 e) := (by rw [cell_of s3]; rfl); have z2 : w9.cell? ⟨g6, 2, none⟩ = some (.int .i64 ((6 + bd.length : Nat) : Int)) := (by rw [cell_of s6]; rfl); have zf := (fun o => free_of s3 o); clear hown9 hgrow hat s3 s6 y4)
          have hm1 : 1 ≤ many (6 + bd.length) := by unfold many; rw [if_neg (by omega)]; omega
          have hv : (e : Int) + (6 + (bd.length : Int) + 51) / 52 = ((e + many (6 + bd.length) : Nat) : Int) := by unfold many; rw [if_neg (by omega)]; omega
          rw [hv]
          obtain ⟨q', rfl⟩ : ∃ q', q = q' + 1 := ⟨q - 1, by omega⟩
          have hU9 : Upd (fun i => (Value.slice dO fs.length dc).ownBlock = some i) wc w9 := ⟨HG9.out.os, HG9.out.tape, HG9.out.output, Nat.le_trans (by simp) HG9.out.size, fun i hi hn => (HG9.out.block i (by simp; omega) (fun e => hn e.symm)).trans (Below.heap_alloc _ _ _ hi)⟩
          have hUs : Upd (fun i => i = BO) w9 ((w9.setCell ⟨BO, 4, none⟩ (.slice (some ⟨gg, 0, none⟩) (fs.length + 1) cap9)).setCell ⟨BO, 5, none⟩ (.int .i64 ((e + many (6 + bd.length) : Nat) : Int))) := ((Upd.refl (fun i => i = BO) w9).setCell (p := ⟨BO, 4, none⟩) (fun _ => rfl) _).setCell (p := ⟨BO, 5, none⟩) (fun _ => rfl) _
          have hsW := hB.size
          have hold : ∀ {b : Nat} {o : Obj}, wr.heap[b]? = some o → b < BO → ((w9.setCell ⟨BO, 4, none⟩ (.slice (some ⟨gg, 0, none⟩) (fs.length + 1) cap9)).setCell ⟨BO, 5, none⟩ (.int .i64 ((e + many (6 + bd.length) : Nat) : Int))).heap[b]? = some o := fun {b o} hb hlt => hUs.at_ (hU9.at_ (later_of hb hbc) (fun hc => by have := HOWN.out _ hc; omega)) (by omega)
          have t4 : (w9.setCell ⟨BO, 4, none⟩ (.slice (some ⟨gg, 0, none⟩) (fs.length + 1) cap9)).heap[BO]? = some (ldedO h (.slice (some ⟨gg, 0, none⟩) (fs.length + 1) cap9) e) := by rw [cells_set _ _ _ _ _ _ S3.out]; rfl
          have t5 : ((w9.setCell ⟨BO, 4, none⟩ (.slice (some ⟨gg, 0, none⟩) (fs.length + 1) cap9)).setCell ⟨BO, 5, none⟩ (.int .i64 ((e + many (6 + bd.length) : Nat) : Int))).heap[BO]? = some (ldedO h (.slice (some ⟨gg, 0, none⟩) (fs.length + 1) cap9) (e + many (6 + bd.length))) := by rw [cells_set _ _ _ _ _ _ t4]; rfl
          have hgg : gg ≠ BO := by
            rcases HA9'.out with hh | hh
            · have := HOWN.out _ hh; omega
            · simp at hh; omega
          have hrow9 := ownsRow_upd hUs HO9.out (fun i hi hc => by simp [Value.ownBlock] at hi; omega)
          have hB9 : Below w.heap.size w ((w9.setCell ⟨BO, 4, none⟩ (.slice (some ⟨gg, 0, none⟩) (fs.length + 1) cap9)).setCell ⟨BO, 5, none⟩ (.int .i64 ((e + many (6 + bd.length) : Nat) : Int))) := ((hB.trans (hbc.mono hsW)).trans (hU9.below (by omega) (fun i hi hc => by have := HOWN.out _ hc; omega))).trans (hUs.below (by have := hU9.size; omega) (fun i hi hc => by omega))
          refine ⟨⟨q', fs ++ [frOf bd], e + many (6 + bd.length), .slice (some ⟨gg, 0, none⟩) (fs.length + 1) cap9, ?_, by omega, by omega, hnf.2.1, by rw [List.length_append]; show fs.length + 1 + 1 ≤ _; omega, hold B0'.out (by omega), hold B1'.out (by omega), hold B2'.out (by omega), t5, ?_, hB9, by have := hU9.size; have := hUs.size; omega⟩, ?_⟩
          · rw [HLP.out, loopP, HNX.out]
          · rw [List.length_append, fcells_snoc, ← HFRr.out]; exact hrow9
          · rw [cell_of t5, cell_of B3'.out]
            simp [intOf]
            omega
    · have k16 : decide ((e : Int) < 16) = false := decide_eq_false (by omega)
      have hsz0 := hsz7.out
      obtain ⟨q', rfl⟩ : ∃ q', q = q' + 1 := ⟨q - 1, by omega⟩
      have HLE := Lib.hid (show loopP O h.2.2.1 16 [] 1 = (fs, e) from by rw [hlp, loopP, show nextP O h.2.2.1 e fs.length = none by unfold nextP; rw [if_neg hlt]])
      have hbr := Below.refl wr.heap.size wr
      have r1 := later_of b1 hbr
      have r3 := later_of b3 hbr
      have hrw := ownsRow_below hrow hbr
      have hBc := hB.trans (hbr.mono hB.size)
      obtain ⟨A9, hA9⟩ : ∃ A9, ldedA h.1 h.2.1 h.2.2.1 h.2.2.2 (.slice dO fs.length dc) e true = A9 := ⟨_, rfl⟩
      have hs9 : A9.size = 7 := by rw [← hA9]; rfl
      have ho9 : ∀ v ∈ A9.toList, v.oneCell' = true := by rw [← hA9]; intro v hv; simp only [List.mem_cons, List.not_mem_nil, or_false] at hv; rcases hv with rfl | rfl | rfl | rfl | rfl | rfl | rfl <;> rfl
      have r3' : wr.heap[BO]? = some (.cells A9 67) := by rw [← hA9]; exact r3
      have hl9 := load_lded hs9 r3'
      have hst9 := store_all r1 A9 (by rw [hsz0, hs9]) ho9
      have hl10 := load_lded hs9 (row_set r1 A9)
      have HA9 := Lib.hid hA9
      have HFr := Lib.hid (show FrsAt (wr.setRow (w.heap.size + 1) A9) dO fs from by
        obtain ⟨ao, ac, hae, hfr⟩ := FrsAt.of_row hrw
        obtain ⟨rfl, rfl⟩ : dO = ao ∧ dc = ac := by simp at hae; exact hae
        refine hfr.keep (S := fun i => i = w.heap.size + 1) ((Upd.refl (fun i => i = w.heap.size + 1) _).setRow (fun _ => rfl) A9) (fun a ha h0 hc => ?_)
        have := ownBlock_ge hrw a.block (by rw [ha]; simp [Value.ownBlock])
        omega)
      have hBn := below_setRow hBc (show w.heap.size ≤ w.heap.size + 1 by omega) A9
      have HBn := Lib.hid hBn
      clear hA9 ho9 r1 r3 r3' hrw hBc hBn
      go_wp2
      exact bodyPost_ret (v := .agg A9) (by simp [results, Try.results33, asAddr, hl10]) rfl ⟨dO, dc, by rw [HLE.out, ← HA9.out], by rw [HLE.out]; exact HFr.out, by rw [HLE.out]; show fs.length ≤ 16; omega, HBn.out⟩
end Go.Proofs.Ytoabdpobpmbckaa.Print
