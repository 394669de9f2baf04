/- FrameEncodes, the walk: whatever the input, the law answers true. -/
import Derived.Test.YtemdhcocbjcklaaFrmDecodes
import Derived.Deep.RegionHeld3
namespace Go.Proofs.Ytemdhcocbjcklaa.Print
open Go.RowKit

/-- A block lies as it lay, behind a call. -/
theorem later {w1 w2 : World} {b : Nat} {o : Obj} (h : w1.heap[b]? = some o) (hb : Below w1.heap.size w1 w2) : w2.heap[b]? = some o := (hb.block b (lt_of h)).trans h

set_option maxRecDepth 100000 in
set_option maxHeartbeats 800000 in
theorem encodes_long1 (stamp at_ k : Int) (p more : ByteArray) (hp : 900 < p.size) (hp2 : p.size ≤ 9223372036854775807) (w : World) :
    Calls Try.prog 6 #[.agg #[.int .u32 stamp, .int .i64 at_], .agg #[.int .i64 k, .string p], .string more] w fun e w' => e = .returned (.bool true) ∧ Below w.heap.size w w' := by
  have h1 : decide (900 < (p.size : Int)) = true := by simp; omega
  go_enter Try.func6, Try.ntmps6
  go_wp2_with fail
  refine (bare_any _).mono ?_
  rintro e w1 ⟨rfl, hb1⟩
  go_wp2
  go_ret
  exact ⟨rfl, (((Below.refl _ _).alloc (Nat.le_refl _) _).alloc (by simp) _).trans (hb1.mono (by simp; omega))⟩
set_option maxRecDepth 100000 in
set_option maxHeartbeats 800000 in
theorem encodes_long2 (stamp at_ k : Int) (p more : ByteArray) (hp : p.size ≤ 900) (hm : 900 < more.size) (hm2 : more.size ≤ 9223372036854775807) (w : World) :
    Calls Try.prog 6 #[.agg #[.int .u32 stamp, .int .i64 at_], .agg #[.int .i64 k, .string p], .string more] w fun e w' => e = .returned (.bool true) ∧ Below w.heap.size w w' := by
  have h1 : decide (900 < (p.size : Int)) = false := by simp; omega
  have h2 : decide (900 < (more.size : Int)) = true := by simp; omega
  go_enter Try.func6, Try.ntmps6
  go_wp2_with fail
  refine (bare_any _).mono ?_
  rintro e w1 ⟨rfl, hb1⟩
  go_wp2
  go_ret
  exact ⟨rfl, (((Below.refl _ _).alloc (Nat.le_refl _) _).alloc (by simp) _).trans (hb1.mono (by simp; omega))⟩

set_option maxRecDepth 100000 in
set_option maxHeartbeats 800000 in
theorem encodes_bad (stamp at_ k : Int) (p more : ByteArray) (hp : p.size ≤ 900) (hm : more.size ≤ 900) (e0 : Int) (he0 : (e0 == 0) = false) (w : World)
    (hd : Hid (∀ w, Calls Try.prog 27 #[.int .u32 stamp, .int .i64 at_, .agg #[.int .i64 k, .string p]] w fun x w' => x = .returned (.tuple #[.string ⟨#[]⟩, .int .i64 e0]) ∧ Below w.heap.size w w'))
    (hr : Hid (∀ w, Calls Try.prog 29 #[.int .i64 at_, .agg #[.int .i64 k, .string p]] w fun x w' => x = .returned (.int .i64 e0) ∧ Below w.heap.size w w')) :
    Calls Try.prog 6 #[.agg #[.int .u32 stamp, .int .i64 at_], .agg #[.int .i64 k, .string p], .string more] w fun e w' => e = .returned (.bool true) ∧ Below w.heap.size w w' := by
  have h1 : decide (900 < (p.size : Int)) = false := by simp; omega
  have h2 : decide (900 < (more.size : Int)) = false := by simp; omega
  go_enter Try.func6, Try.ntmps6
  go_wp2_with fail
  refine (hd.out _).mono ?_
  rintro e w1 ⟨rfl, hb1⟩
  have z1 := later (alloc_at' _ _ (w.heap.size + 1) (by simp)) hb1
  have z0 := later (alloc_old (alloc_at w _) _) hb1
  have hB : Below w.heap.size w w1 := (((Below.refl _ _).alloc (Nat.le_refl _) _).alloc (by simp) _).trans (hb1.mono (by simp; omega))
  clear hb1
  obtain ⟨c0, c1, f0, f1⟩ := two_of z1
  have hlt := lt_of z1
  go_wp2_with fail
  have v7 : IntKind.i64.wrap ((7 : Int) + (p.size : Int)) = (7 : Int) + p.size := by rw [IntKind.wrap_i64]; omega
  have K1 := Lib.hid (fun w => fsize_any k p (by omega) w)
  go_region_held3 (fun w' => w'.cell? ⟨w.heap.size + 1, 0, none⟩ = some (.int .i64 k) ∧ w'.cell? ⟨w.heap.size + 1, 1, none⟩ = some (.string p) ∧ Below w1.heap.size w1 w') ((first | assumption | exact keep_drew2 c0 c1 | exact keep_call2 hlt (by assumption) hb | exact keep_alloc2 hlt (by assumption) _))
    (first | (go_at_call 28; with_reducible refine (K1.out _).mono ?_; rintro e w2 ⟨rfl, hb⟩))
  have hS : w2.cell? ⟨w.heap.size + 1, 0, none⟩ = some (.int .i64 k) ∧ w2.cell? ⟨w.heap.size + 1, 1, none⟩ = some (.string p) ∧ Below w1.heap.size w1 w2 := by assumption
  obtain ⟨g0, g1, hB1⟩ := hS
  have hB2 := hB.trans (hB1.mono (by have := hB.size; omega))
  go_wp2_with fail
  refine (hr.out _).mono ?_
  rintro e w3 ⟨rfl, hb3⟩
  have hB3 := below_chain hB2 hb3
  go_wp2_with fail
  refine (bare_any _).mono ?_
  rintro e w4 ⟨rfl, hb4⟩
  go_wp2
  go_ret
  exact ⟨rfl, below_chain hB3 hb4⟩

set_option maxRecDepth 100000 in
set_option maxHeartbeats 800000 in
theorem encodes_ok (stamp at_ k : Int) (p more s : ByteArray) (hp : p.size ≤ 900) (hm : more.size ≤ 900) (hs : s.size = 7 + p.size) (w : World)
    (hd : Hid (∀ w, Calls Try.prog 27 #[.int .u32 stamp, .int .i64 at_, .agg #[.int .i64 k, .string p]] w fun x w' => x = .returned (.tuple #[.string s, .int .i64 0]) ∧ Below w.heap.size w w'))
    (hr : Hid (∀ w, Calls Try.prog 29 #[.int .i64 at_, .agg #[.int .i64 k, .string p]] w fun x w' => x = .returned (.int .i64 0) ∧ Below w.heap.size w w'))
    (hdd : Hid (∀ w, Calls Try.prog 30 #[.int .u32 stamp, .int .i64 at_, .string (s ++ more)] w fun x w' => x = .returned (decV k p ((7 : Int) + p.size) 0) ∧ Below w.heap.size w w'))
    (hre : Hid (∀ w, Calls Try.prog 31 #[.int .u32 stamp, .int .i64 at_, .agg #[.int .i64 k, .string p]] w fun x w' => x = .returned (.string s) ∧ Below w.heap.size w w')) :
    Calls Try.prog 6 #[.agg #[.int .u32 stamp, .int .i64 at_], .agg #[.int .i64 k, .string p], .string more] w fun e w' => e = .returned (.bool true) ∧ Below w.heap.size w w' := by
  have h1 : decide (900 < (p.size : Int)) = false := by simp; omega
  have h2 : decide (900 < (more.size : Int)) = false := by simp; omega
  go_enter Try.func6, Try.ntmps6
  go_wp2_with fail
  refine (hd.out _).mono ?_
  rintro e w1 ⟨rfl, hb1⟩
  have z1 := later (alloc_at' _ _ (w.heap.size + 1) (by simp)) hb1
  have z0 := later (alloc_old (alloc_at w _) _) hb1
  have hB : Below w.heap.size w w1 := (((Below.refl _ _).alloc (Nat.le_refl _) _).alloc (by simp) _).trans (hb1.mono (by simp; omega))
  clear hb1
  obtain ⟨c0, c1, f0, f1⟩ := two_of z1
  have hlt := lt_of z1
  go_wp2_with fail
  have v7 : IntKind.i64.wrap ((7 : Int) + (p.size : Int)) = (7 : Int) + p.size := by rw [IntKind.wrap_i64]; omega
  have K1 := Lib.hid (fun w => fsize_any k p (by omega) w)
  go_region_held3 (fun w' => w'.cell? ⟨w.heap.size + 1, 0, none⟩ = some (.int .i64 k) ∧ w'.cell? ⟨w.heap.size + 1, 1, none⟩ = some (.string p) ∧ Below w1.heap.size w1 w') ((first | assumption | exact keep_drew2 c0 c1 | exact keep_call2 hlt (by assumption) hb | exact keep_alloc2 hlt (by assumption) _))
    (first | (go_at_call 28; with_reducible refine (K1.out _).mono ?_; rintro e w2 ⟨rfl, hb⟩))
  have hS : w2.cell? ⟨w.heap.size + 1, 0, none⟩ = some (.int .i64 k) ∧ w2.cell? ⟨w.heap.size + 1, 1, none⟩ = some (.string p) ∧ Below w1.heap.size w1 w2 := by assumption
  obtain ⟨g0, g1, hB1⟩ := hS
  have hB2 := hB.trans (hB1.mono (by have := hB.size; omega))
  go_wp2_with fail
  refine (hr.out _).mono ?_
  rintro e w3 ⟨rfl, hb3⟩
  have hB3 := below_chain hB2 hb3
  have z2 := later (later (later z1 hB1) hb3) (Below.refl _ _)
  have hlt3 := lt_of z2
  obtain ⟨k0, k1, f0, f1⟩ := two_of z2
  go_wp2_with fail
  refine (hdd.out _).mono ?_
  rintro e w4 ⟨rfl, hb4⟩
  have hB4 := below_chain hB3 hb4
  have z3 := later z2 hb4
  have hlt4 := lt_of z3
  obtain ⟨m0, m1, f0, f1⟩ := two_of z3
  go_wp2_with fail
  refine (hre.out _).mono ?_
  rintro e w5 ⟨rfl, hb5⟩
  have z5 := later (alloc_old z3 _) hb5
  have y5 := later (alloc_at w4 _) hb5
  have hB5 := (hB4.alloc hB4.size _).trans (hb5.mono (by have := hB4.size; simp; omega))
  have hlt5 := lt_of z5
  obtain ⟨n0, n1, f0, f1⟩ := two_of z5
  obtain ⟨o0, o1, f0, f1⟩ := two_of y5
  go_wp2_with fail
  refine (bare_any _).mono ?_
  rintro e w6 ⟨rfl, hb6⟩
  go_wp2
  go_ret
  exact ⟨rfl, below_chain hB5 hb6⟩

theorem take_bs (l m : List UInt8) (a b : Nat) (h : b ≤ l.length) : ((bs l ++ bs m).extract a b).data.toList = ((bs l).extract a b).data.toList := by
  rw [extract_list, extract_list, append_list, bs_list, bs_list]
  by_cases ha : a ≤ l.length
  · rw [List.drop_append_of_le_length ha, List.take_append_of_le_length (by simp; omega)]
  · rw [show b - a = 0 by omega, List.take_zero, List.take_zero]

theorem encodes_any (stamp : Nat) (at_ k : Int) (p more : ByteArray) (h1 : stamp < 4294967296) (hp : p.size ≤ 9223372036854775807) (hm : more.size ≤ 9223372036854775807) (w : World) :
    Calls Try.prog 6 #[.agg #[.int .u32 stamp, .int .i64 at_], .agg #[.int .i64 k, .string p], .string more] w fun e w' => e = .returned (.bool true) ∧ Below w.heap.size w w' := by
  by_cases c1 : 900 < p.size
  · exact encodes_long1 stamp at_ k p more c1 hp w
  have c1' : p.size ≤ 900 := by omega
  by_cases c2 : 900 < more.size
  · exact encodes_long2 stamp at_ k p more c1' c2 hm w
  have c2' : more.size ≤ 900 := by omega
  by_cases c3 : k < 1 ∨ 255 < k ∨ at_ < 1 ∨ 16 ≤ at_
  · exact encodes_bad stamp at_ k p more c1' c2' 1 (by decide) w (fun w => enc_bad stamp at_ k p c3 w) (fun w => rwrong_bad at_ k p c3 w)
  by_cases c4 : 773 < p.size
  · exact encodes_bad stamp at_ k p more c1' c2' 2 (by decide) w (fun w => enc_long stamp at_ k p (by omega) (by omega) (by omega) (by omega) c4 w)
      (fun w => rwrong_long at_ k p (by omega) (by omega) (by omega) (by omega) true (by simp; omega) w)
  obtain ⟨a, rfl⟩ := Int.eq_ofNat_of_zero_le (by omega : 0 ≤ at_)
  obtain ⟨j, rfl⟩ := Int.eq_ofNat_of_zero_le (by omega : 0 ≤ k)
  have a1 : 1 ≤ a := by omega
  have a2 : a < 16 := by omega
  have j1 : 1 ≤ j := by omega
  have j2 : j ≤ 255 := by omega
  have hjb : (UInt8.ofNat j).toNat = j := by rw [UInt8.toNat_ofNat']; omega
  obtain ⟨body, hbody⟩ : ∃ body, UInt8.ofNat j :: p.data.toList = body := ⟨_, rfl⟩
  have hbl : body.length = 1 + p.size := by rw [← hbody, size_list p]; simp; omega
  have hel : (encL stamp a body).length = 7 + p.size := by simp [encL, beL_length, hbl]; omega
  have hs : (bs (encL stamp a body)).size = 7 + p.size := by rw [bs_size, hel]
  have hE := fun w => enc_ok stamp a j p h1 a1 a2 j1 j2 (by omega) w
  have hR := fun w => renc_any stamp a j p h1 (by omega) (by omega) (by omega) w
  rw [hbody] at hE hR
  obtain ⟨S, hS⟩ : ∃ S, sumL stamp a body = S := ⟨_, rfl⟩
  have hS2 : S < 4294967296 := by rw [← hS]; exact Crc.crc_lt _ _
  have hsz : (bs (encL stamp a body) ++ more).size = 7 + p.size + more.size := by rw [ByteArray.size_append, hs]
  have hl : ((bs (encL stamp a body)) ++ more).data.toList = beL (1 + p.size) 2 ++ (beL S 4 ++ (body ++ more.data.toList)) := by
    rw [append_list, bs_list, encL, hS, hbl]; simp
  have x1 : ((bs (encL stamp a body) ++ more).extract 0 2).data.toList = beL (1 + p.size) 2 := by
    rw [extract_list, hl, List.drop_zero, List.take_left' (by rw [beL_length])]
  have x2 : ((bs (encL stamp a body) ++ more).extract 2 6).data.toList = beL S 4 := by
    rw [extract_list, hl, List.drop_left' (by rw [beL_length]), List.take_left' (by rw [beL_length])]
  have x3 : (bs (encL stamp a body) ++ more).extract 6 (6 + (1 + p.size)) = bs body := by
    apply list_inj
    rw [extract_list, hl, bs_list, ← List.append_assoc, List.drop_left' (by rw [List.length_append, beL_length, beL_length]), List.take_left' (by rw [hbl]; omega)]
  have b0 : (bs body)[0]'(by rw [bs_size, hbl]; omega) = UInt8.ofNat j := by
    have : (bs body).data.toList[0]'(by rw [bs_list, hbl]; omega) = UInt8.ofNat j := by simp [bs, ← hbody]
    exact this
  have hD := fun w => dec_ok stamp a (bs (encL stamp a body) ++ more) h1 a1 a2 (by rw [hsz]; omega) (1 + p.size) (by rw [x1, readL_beL]; omega) (by omega) (by omega) (by rw [hsz]; omega)
    (bs body) x3 (by rw [bs_size, hbl]) (by rw [b0, hjb]; omega) S (by rw [x2, readL_beL]; exact hS2) hS2 S (by rw [bs_list, hS]) hS2 rfl w
  have x4 : (bs body).extract 1 (bs body).size = p := by
    apply list_inj
    rw [extract_list, bs_list, bs_size, ← hbody]
    simp
    exact List.take_of_length_le (by rw [← size_list]; exact Nat.le_refl _)
  rw [x4, b0, hjb, show ((6 + (1 + p.size) : Nat) : Int) = (7 : Int) + p.size by omega] at hD
  exact encodes_ok stamp a j p more (bs (encL stamp a body)) c1' c2' hs w hE (fun w => rwrong_long a j p (by omega) (by omega) (by omega) (by omega) false (by simp; omega) w)
    hD hR

end Go.Proofs.Ytemdhcocbjcklaa.Print
