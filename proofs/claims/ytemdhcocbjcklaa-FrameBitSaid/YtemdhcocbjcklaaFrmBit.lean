/- FrameBit: a frame one bit of which is turned is none. -/
import Derived.Test.YtemdhcocbjcklaaFrmEncodes
namespace Go.Proofs.Ytemdhcocbjcklaa.Print
open Go.RowKit

/-- What Decode tells of a frame's bytes of which one behind the length is another. -/
theorem flip_dec (stamp a : Nat) (body : List UInt8) (i : Nat) (y : UInt8) (h1 : stamp < 4294967296) (a1 : 1 ≤ a) (a2 : a < 16) (hb1 : 1 ≤ body.length) (hb2 : body.length ≤ 774)
    (hk : (body[0]'(by omega)).toNat ≠ 0) (hi : 2 ≤ i) (hi2 : i < 6 + body.length) (hy : (encL stamp a body)[i]'(by simp [encL, beL_length]; omega) ≠ y) (w : World) :
    Calls Try.prog 30 #[.int .u32 stamp, .int .i64 a, .string (bs ((encL stamp a body).set i y))] w fun e w' => e = .returned (decV 0 ⟨#[]⟩ 0 4) ∧ Below w.heap.size w w' := by
  obtain ⟨S, hS⟩ : ∃ S, sumL stamp a body = S := ⟨_, rfl⟩
  have hS2 : S < 4294967296 := by rw [← hS]; exact Crc.crc_lt _ _
  have hel : (encL stamp a body).length = 6 + body.length := by simp [encL, beL_length]; omega
  have hE : encL stamp a body = beL body.length 2 ++ (beL S 4 ++ body) := by rw [encL, hS]
  have hsz : (bs ((encL stamp a body).set i y)).size = 6 + body.length := by rw [bs_size, List.length_set, hel]
  -- the three parts of the bytes, one of them turned
  by_cases hpart : i < 6
  · -- the CRC
    have hl : (encL stamp a body).set i y = beL body.length 2 ++ ((beL S 4).set (i - 2) y ++ body) := by
      rw [hE, List.set_append_right _ _ (by rw [beL_length]; omega), beL_length, List.set_append_left _ _ (by rw [beL_length]; omega)]
    have x1 : ((bs ((encL stamp a body).set i y)).extract 0 2).data.toList = beL body.length 2 := by
      rw [extract_list, bs_list, hl, List.drop_zero, List.take_left' (by rw [beL_length])]
    have x2 : ((bs ((encL stamp a body).set i y)).extract 2 6).data.toList = (beL S 4).set (i - 2) y := by
      rw [extract_list, bs_list, hl, List.drop_left' (by rw [beL_length]), List.take_left' (by rw [List.length_set, beL_length])]
    have x3 : (bs ((encL stamp a body).set i y)).extract 6 (6 + body.length) = bs body := by
      apply list_inj
      rw [extract_list, bs_list, hl, bs_list, ← List.append_assoc, List.drop_left' (by rw [List.length_append, List.length_set, beL_length, beL_length])]
      exact List.take_of_length_le (by omega)
    have hne : readL ((beL S 4).set (i - 2) y) ≠ S := by
      intro h
      have e1 := beL_readL ((beL S 4).set (i - 2) y)
      rw [h, List.length_set, beL_length] at e1
      apply hy
      have e2 : ((beL S 4).set (i - 2) y)[i - 2]? = some y := by rw [List.getElem?_set_self (by rw [beL_length]; omega)]
      rw [← e1] at e2
      have e3 : (encL stamp a body)[i]? = some y := by
        rw [hE, List.getElem?_append_right (by rw [beL_length]; omega), beL_length, List.getElem?_append_left (by rw [beL_length]; omega), e2]
      rw [List.getElem?_eq_getElem (by omega)] at e3
      exact Option.some.inj e3
    have hc2 : readL ((beL S 4).set (i - 2) y) < 4294967296 := by
      have := readL_lt ((beL S 4).set (i - 2) y)
      rwa [List.length_set, beL_length] at this
    have b0 : (bs body)[0]'(by rw [bs_size]; omega) = body[0]'(by omega) := rfl
    exact dec_sum stamp a (bs ((encL stamp a body).set i y)) h1 a1 a2 (by rw [hsz]; omega) body.length (by rw [x1, readL_beL]; omega) hb1 hb2 (by rw [hsz]; omega) (bs body) x3 (bs_size _)
      (by rw [b0]; exact hk) _ (by rw [x2]) hc2 S (by rw [bs_list, hS]) hS2 hne w
  · -- the kind or the payload
    have hl : (encL stamp a body).set i y = beL body.length 2 ++ (beL S 4 ++ body.set (i - 6) y) := by
      rw [hE, List.set_append_right _ _ (by rw [beL_length]; omega), beL_length, List.set_append_right _ _ (by rw [beL_length]; omega), beL_length, show i - 2 - 4 = i - 6 by omega]
    have x1 : ((bs ((encL stamp a body).set i y)).extract 0 2).data.toList = beL body.length 2 := by
      rw [extract_list, bs_list, hl, List.drop_zero, List.take_left' (by rw [beL_length])]
    have x2 : ((bs ((encL stamp a body).set i y)).extract 2 6).data.toList = beL S 4 := by
      rw [extract_list, bs_list, hl, List.drop_left' (by rw [beL_length]), List.take_left' (by rw [beL_length])]
    have x3 : (bs ((encL stamp a body).set i y)).extract 6 (6 + body.length) = bs (body.set (i - 6) y) := by
      apply list_inj
      rw [extract_list, bs_list, hl, bs_list, ← List.append_assoc, List.drop_left' (by rw [List.length_append, beL_length, beL_length])]
      exact List.take_of_length_le (by rw [List.length_set]; omega)
    have hbs : (bs (body.set (i - 6) y)).size = body.length := by rw [bs_size, List.length_set]
    by_cases hz : ((bs (body.set (i - 6) y))[0]'(by omega)).toNat = 0
    · exact dec_zero stamp a (bs ((encL stamp a body).set i y)) (by omega) (by omega) (by rw [hsz]; omega) body.length (by rw [x1, readL_beL]; omega) hb1 hb2 (by rw [hsz]; omega) _ x3 hbs hz w
    · have hne : S ≠ sumL stamp a (body.set (i - 6) y) := by
        intro h
        rw [← hS] at h
        have hib : i - 6 < body.length := by omega
        have e1 : body = body.take (i - 6) ++ body[i - 6] :: body.drop (i - 6 + 1) := by
          rw [List.getElem_cons_drop, List.take_append_drop]
        have e2 : body.set (i - 6) y = body.take (i - 6) ++ y :: body.drop (i - 6 + 1) := by
          rw [List.set_eq_take_append_cons_drop, if_pos hib]
        unfold sumL at h
        rw [List.length_set, e2] at h
        have h' : Crc.crc 0 ((beL stamp 4 ++ (beL a 2 ++ (beL body.length 2 ++ body.take (i - 6)))) ++ body[i - 6] :: body.drop (i - 6 + 1)) = Crc.crc 0 ((beL stamp 4 ++ (beL a 2 ++ (beL body.length 2 ++ body.take (i - 6)))) ++ y :: body.drop (i - 6 + 1)) := by
          simp only [List.append_assoc]
          rw [← e1]
          exact h
        have hxy := Crc.crc_byte 0 (by omega) _ _ _ _ h'
        apply hy
        have e3 : (encL stamp a body)[i]? = some y := by
          rw [hE, List.getElem?_append_right (by rw [beL_length]; omega), beL_length, List.getElem?_append_right (by rw [beL_length]; omega), beL_length, show i - 2 - 4 = i - 6 by omega, List.getElem?_eq_getElem hib, hxy]
        rw [List.getElem?_eq_getElem (by omega)] at e3
        exact Option.some.inj e3
      exact dec_sum stamp a (bs ((encL stamp a body).set i y)) h1 a1 a2 (by rw [hsz]; omega) body.length (by rw [x1, readL_beL]; omega) hb1 hb2 (by rw [hsz]; omega) _ x3 hbs
        hz S (by rw [x2, readL_beL _ _ hS2]) hS2 (sumL stamp a (body.set (i - 6) y)) (by rw [bs_list]) (Crc.crc_lt _ _) hne w

/-- A byte of which a bit is turned. -/
theorem turned (x : UInt8) (b : Nat) (hb : b < 8) : ∃ y : UInt8, bits .xor .u8 (x.toNat : Int) (2 ^ b % 256) = (y.toNat : Int) ∧ x ≠ y := by
  have hx : x.toNat < 256 := by have := x.toNat_lt; omega
  have hp : 2 ^ b < 256 := Nat.lt_of_lt_of_le (Nat.pow_lt_pow_right (by decide) hb) (Nat.le_refl (2 ^ 8))
  have hxl : x.toNat ^^^ 2 ^ b < 2 ^ 8 := Nat.xor_lt_two_pow hx hp
  refine ⟨UInt8.ofNat (x.toNat ^^^ 2 ^ b), ?_, ?_⟩
  · have e0 : ((2 : Int) ^ b % 256) = ((2 ^ b : Nat) : Int) := by
      have h3 : ((2 ^ b : Nat) : Int) = (2 : Int) ^ b := by rw [Int.natCast_pow]; rfl
      rw [← h3]
      generalize 2 ^ b = m at hp
      omega
    have h1 : (BitVec.ofInt 8 (x.toNat : Int)).toNat = x.toNat := by
      rw [BitVec.ofInt_natCast, BitVec.toNat_ofNat]; exact Nat.mod_eq_of_lt (by omega)
    have h2 : (BitVec.ofInt 8 ((2 ^ b : Nat) : Int)).toNat = 2 ^ b := by
      rw [BitVec.ofInt_natCast, BitVec.toNat_ofNat]; exact Nat.mod_eq_of_lt hp
    rw [e0, UInt8.toNat_ofNat']
    show IntKind.u8.wrap ((BitVec.ofInt 8 (x.toNat : Int) ^^^ BitVec.ofInt 8 ((2 ^ b : Nat) : Int)).toNat : Int) = _
    rw [BitVec.toNat_xor, h1, h2, IntKind.wrap_u8]
    omega
  · intro h
    have h' := congrArg UInt8.toNat h
    rw [UInt8.toNat_ofNat', Nat.mod_eq_of_lt hxl] at h'
    have h3 : x.toNat ^^^ x.toNat = x.toNat ^^^ (x.toNat ^^^ 2 ^ b) := by rw [← h']
    rw [Nat.xor_self, ← Nat.xor_assoc, Nat.xor_self, Nat.zero_xor] at h3
    have := Nat.two_pow_pos b
    omega

set_option maxRecDepth 100000 in
set_option maxHeartbeats 800000 in
theorem bit_go (stamp a j bit : Nat) (p : ByteArray) (h1 : stamp < 4294967296) (a1 : 1 ≤ a) (a2 : a < 16) (j1 : 1 ≤ j) (j2 : j ≤ 255) (hp : p.size ≤ 773) (hb1 : 16 ≤ bit) (hb2 : bit < 8 * (7 + p.size)) (w : World) :
    Calls Try.prog 8 #[.int .u32 stamp, .agg #[.int .i64 j, .string p], .agg #[.int .i64 a, .int .i64 bit]] w fun e w' => e = .returned (.bool true) ∧ Below w.heap.size w w' := by
  have k1 : decide ((bit : Int) < 16) = false := by simp; omega
  have k2 : decide ((8 : Int) * (7 + p.size) ≤ (bit : Int)) = false := by simp; omega
  obtain ⟨s, hs⟩ : ∃ s, bs (encL stamp a (UInt8.ofNat j :: p.data.toList)) = s := ⟨_, rfl⟩
  have hw := fun w => rwrong_long a j p (by omega) (by omega) (by omega) (by omega) false (by simp; omega) w
  have hr := fun w => renc_any stamp a j p h1 (by omega) (by omega) (by omega) w
  rw [hs] at hr
  have HW := Lib.hid hw
  have HR := Lib.hid hr
  have HS := Lib.hid hs
  clear hw hr hs
  have cv := fun W => run_bytes_of_string (P := Try.prog) W 9 72 5 s Try.underlying9 Try.underlying72 Try.underlying5
  go_enter Try.func8, Try.ntmps8
  go_wp2_with fail
  refine (HW.out _).mono ?_
  rintro e w1 ⟨rfl, hb1⟩
  have z1 := later (alloc_old (alloc_at w _) _) hb1
  have hB1 : Below w.heap.size w w1 := (((Below.refl _ _).alloc (Nat.le_refl _) _).alloc (by simp) _).trans (hb1.mono (by simp; omega))
  obtain ⟨c0, c1, f0, f1⟩ := two_of z1
  clear hb1 z1
  go_wp2_with fail
  refine (HR.out _).mono ?_
  rintro e w2 ⟨rfl, hb2⟩
  have hB2 := below_chain hB1 hb2
  clear hB1 hb2 c0 c1 f0 f1
  have cv2 := cv w2
  obtain ⟨cp, hcp⟩ : ∃ cp, grownCap w2 s.size 0 5 = cp := ⟨_, rfl⟩
  rw [hcp] at cv2
  clear hcp cv
  obtain ⟨i, hi⟩ : ∃ i, bit / 8 = i := ⟨_, rfl⟩
  obtain ⟨b, hb⟩ : ∃ b, bit % 8 = b := ⟨_, rfl⟩
  have hbl : b < 8 := by omega
  have hss : s.size = 7 + p.size := by rw [← HS.out, bs_size]; simp [encL, beL_length]; omega
  have his : i < s.size := by omega
  have hg : (bytesRow s cp)[i]? = some (.int .u8 (s.data[i].toNat : Int)) := bytesRow_at s cp i his
  obtain ⟨x, hx⟩ : ∃ x, s.data[i] = x := ⟨_, rfl⟩
  rw [hx] at hg
  obtain ⟨W3, hW3⟩ : ∃ W3, (w2.alloc (.cells (bytesRow s cp) 5 ((bytesRow s cp).size, (bytesRow s cp).size + 1))).drew = W3 := ⟨_, rfl⟩
  have hat : W3.heap[w2.heap.size]? = some (.cells (bytesRow s cp) 5 ((bytesRow s cp).size, (bytesRow s cp).size + 1)) := by rw [← hW3]; exact alloc_at _ _
  have hB3 : Below w.heap.size w W3 := by rw [← hW3]; exact (hB2.alloc hB2.size _).drew
  have hc : W3.cell? ⟨w2.heap.size, i, none⟩ = some (.int .u8 (x.toNat : Int)) := by rw [cell_of hat, hg]
  have hf : W3.frozen? ⟨w2.heap.size, i, none⟩ = false := by
    have : i < (bytesRow s cp).size := by simp [bytesRow]; have : s.data.size = s.size := rfl; omega
    simp [World.frozen?, hat]
    omega
  go_wp2_with fail
  have q1 : (bit : Int) / 8 = (i : Int) := by omega
  have q2 : (bit : Int) % 8 = (b : Int) := by omega
  have q3 : (bit : Int).tdiv 8 = (i : Int) := by rw [Int.tdiv_eq_ediv_of_nonneg (by omega)]; omega
  have q4 : (bit : Int).tmod 8 = (b : Int) := by rw [Int.tmod_eq_emod_of_nonneg (by omega)]; omega
  have q5 : IntKind.i64.wrap (i : Int) = i := by rw [IntKind.wrap_i64]; omega
  have q6 : IntKind.i64.wrap (b : Int) = b := by rw [IntKind.wrap_i64]; omega
  have q7 : (0 : Int) ≤ i := by omega
  have q8 : (i : Int) < s.size := by omega
  have q9 : (i : Int) < 7 + p.size := by omega
  have HX := Lib.hid hW3
  clear hW3 hi hb
  obtain ⟨y, hV, hxy⟩ := turned x b hbl
  go_region
  obtain ⟨l, hl⟩ : ∃ l, (encL stamp a (UInt8.ofNat j :: p.data.toList)).set i y = l := ⟨_, rfl⟩
  have hll : l.length = 7 + p.size := by rw [← hl, List.length_set, ← bs_size, HS.out, hss]
  have hsl : s.data.toList = encL stamp a (UInt8.ofNat j :: p.data.toList) := by rw [← HS.out, bs_list]
  have h4at : ((W3.setCell ⟨w2.heap.size, i, none⟩ (.int .u8 (y.toNat : Int))).drew).heap[w2.heap.size]? = some (.cells ((bytesRow s cp).setIfInBounds i (.int .u8 (y.toNat : Int))) 5 ((bytesRow s cp).size, (bytesRow s cp).size + 1)) := cells_set _ _ _ _ _ _ hat _
  have hsd : s.data.size = s.size := rfl
  have hcells : ∀ k (hk : k < l.length), ((W3.setCell ⟨w2.heap.size, i, none⟩ (.int .u8 (y.toNat : Int))).drew).cell? ((⟨w2.heap.size, 0, none⟩ : Addr).add k) = some (.int .u8 (l[k].toNat : Int)) := by
    intro k hk
    have hplain : (⟨w2.heap.size, 0, none⟩ : Addr).add k = ⟨w2.heap.size, k, none⟩ := by unfold Addr.add; split <;> simp_all
    rw [hplain, cell_of h4at, Array.getElem?_setIfInBounds]
    by_cases hki : i = k
    · subst hki
      rw [if_pos rfl, if_pos (by simp [bytesRow]; omega)]
      simp [← hl]
    · have hk2 : k < s.data.size := by omega
      rw [if_neg hki, bytesRow_at s cp k hk2]
      have e1 : l[k]? = some (s.data[k]'hk2) := by
        rw [← hl, List.getElem?_set_ne hki, ← hsl]
        simp
      rw [List.getElem?_eq_getElem hk] at e1
      rw [Option.some.inj e1]
  have hcv := run_convert_bytes_back (P := Try.prog) _ 72 9 5 (⟨w2.heap.size, 0, none⟩ : Addr) cp l Try.underlying72 Try.underlying5 Try.underlying9 hcells
  rw [hll] at hcv
  have hD := fun w => flip_dec stamp a (UInt8.ofNat j :: p.data.toList) i y h1 a1 a2 (by simp) (by simp; omega) (by simp only [List.getElem_cons_zero]; rw [UInt8.toNat_ofNat']; omega) (by omega) (by simp; omega) (by
    have e2 : (encL stamp a (UInt8.ofNat j :: p.data.toList))[i]? = some x := by
      rw [← hsl, Array.getElem?_toList, Array.getElem?_eq_getElem (by omega), hx]
    have hib : i < (encL stamp a (UInt8.ofNat j :: p.data.toList)).length := by rw [← hsl, ← size_list]; exact his
    rw [List.getElem?_eq_getElem hib] at e2
    rw [Option.some.inj e2]
    exact hxy) w
  rw [hl] at hD
  have HD := Lib.hid hD
  have hB4 : Below w.heap.size w ((W3.setCell ⟨w2.heap.size, i, none⟩ (.int .u8 (y.toNat : Int))).drew) := (hB3.setCell hB2.size _).drew
  clear hD hcells h4at hsl hl hll cv2 hg hx hat hc hf
  go_wp2_with fail
  refine (HD.out _).mono ?_
  rintro e w5 ⟨rfl, hb5⟩
  have hB5 := below_chain hB4 hb5
  go_wp2_with fail
  refine (bare_any _).mono ?_
  rintro e w6 ⟨rfl, hb6⟩
  go_wp2
  go_ret
  exact ⟨rfl, (hB5.alloc hB5.size _).trans (hb6.mono (by have := hB5.size; simp; omega))⟩

set_option maxRecDepth 100000 in
set_option maxHeartbeats 800000 in
theorem bit_wrong (stamp a j bit e0 : Int) (p : ByteArray) (w : World) (he0 : (e0 != 0) = true)
    (hw : Hid (∀ w, Calls Try.prog 29 #[.int .i64 a, .agg #[.int .i64 j, .string p]] w fun x w' => x = .returned (.int .i64 e0) ∧ Below w.heap.size w w')) :
    Calls Try.prog 8 #[.int .u32 stamp, .agg #[.int .i64 j, .string p], .agg #[.int .i64 a, .int .i64 bit]] w fun e w' => e = .returned (.bool true) ∧ Below w.heap.size w w' := by
  go_enter Try.func8, Try.ntmps8
  go_wp2_with fail
  refine (hw.out _).mono ?_
  rintro e w1 ⟨rfl, hb1⟩
  have hB1 : Below w.heap.size w w1 := (((Below.refl _ _).alloc (Nat.le_refl _) _).alloc (by simp) _).trans (hb1.mono (by simp; omega))
  clear hb1
  go_wp2_with fail
  refine (bare_any _).mono ?_
  rintro e w2 ⟨rfl, hb2⟩
  go_wp2
  go_ret
  exact ⟨rfl, below_chain hB1 hb2⟩

set_option maxRecDepth 100000 in
set_option maxHeartbeats 800000 in
theorem bit_off (stamp a j bit : Int) (p : ByteArray) (hp : p.size ≤ 773) (w : World) (hbit : bit < 16 ∨ 8 * (7 + (p.size : Int)) ≤ bit)
    (hw : Hid (∀ w, Calls Try.prog 29 #[.int .i64 a, .agg #[.int .i64 j, .string p]] w fun x w' => x = .returned (.int .i64 0) ∧ Below w.heap.size w w')) :
    Calls Try.prog 8 #[.int .u32 stamp, .agg #[.int .i64 j, .string p], .agg #[.int .i64 a, .int .i64 bit]] w fun e w' => e = .returned (.bool true) ∧ Below w.heap.size w w' := by
  by_cases hb : bit < 16
  · have k1 : decide (bit < 16) = true := by simp; omega
    go_enter Try.func8, Try.ntmps8
    go_wp2_with fail
    refine (hw.out _).mono ?_
    rintro e w1 ⟨rfl, hb1⟩
    have hB1 : Below w.heap.size w w1 := (((Below.refl _ _).alloc (Nat.le_refl _) _).alloc (by simp) _).trans (hb1.mono (by simp; omega))
    clear hb1
    go_wp2_with fail
    refine (bare_any _).mono ?_
    rintro e w2 ⟨rfl, hb2⟩
    go_wp2
    go_ret
    exact ⟨rfl, below_chain hB1 hb2⟩
  · have k1 : decide (bit < 16) = false := by simp; omega
    have k2 : decide ((8 : Int) * (7 + p.size) ≤ bit) = true := by simp; omega
    go_enter Try.func8, Try.ntmps8
    go_wp2_with fail
    refine (hw.out _).mono ?_
    rintro e w1 ⟨rfl, hb1⟩
    have z1 := later (alloc_old (alloc_at w _) _) hb1
    have hB1 : Below w.heap.size w w1 := (((Below.refl _ _).alloc (Nat.le_refl _) _).alloc (by simp) _).trans (hb1.mono (by simp; omega))
    obtain ⟨c0, c1, f0, f1⟩ := two_of z1
    clear hb1 z1
    go_wp2_with fail
    refine (bare_any _).mono ?_
    rintro e w2 ⟨rfl, hb2⟩
    go_wp2
    go_ret
    exact ⟨rfl, below_chain hB1 hb2⟩

theorem bit_any (stamp : Nat) (a j bit : Int) (p : ByteArray) (h1 : stamp < 4294967296) (w : World) :
    Calls Try.prog 8 #[.int .u32 stamp, .agg #[.int .i64 j, .string p], .agg #[.int .i64 a, .int .i64 bit]] w fun e w' => e = .returned (.bool true) ∧ Below w.heap.size w w' := by
  by_cases c3 : j < 1 ∨ 255 < j ∨ a < 1 ∨ 16 ≤ a
  · exact bit_wrong stamp a j bit 1 p w (by decide) (fun w => rwrong_bad a j p c3 w)
  by_cases c4 : 773 < p.size
  · exact bit_wrong stamp a j bit 2 p w (by decide) (fun w => rwrong_long a j p (by omega) (by omega) (by omega) (by omega) true (by simp; omega) w)
  have hw := fun w => rwrong_long a j p (by omega) (by omega) (by omega) (by omega) false (by simp; omega) w
  by_cases c5 : bit < 16 ∨ 8 * (7 + (p.size : Int)) ≤ bit
  · exact bit_off stamp a j bit p (by omega) w c5 hw
  obtain ⟨a, rfl⟩ := Int.eq_ofNat_of_zero_le (by omega : 0 ≤ a)
  obtain ⟨j, rfl⟩ := Int.eq_ofNat_of_zero_le (by omega : 0 ≤ j)
  obtain ⟨bit, rfl⟩ := Int.eq_ofNat_of_zero_le (by omega : 0 ≤ bit)
  exact bit_go stamp a j bit p h1 (by omega) (by omega) (by omega) (by omega) (by omega) (by omega) (by omega) w

end Go.Proofs.Ytemdhcocbjcklaa.Print
