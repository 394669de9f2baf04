/- Five cells of a block. seal.Open and the references of the layers 1 (Read) and 9. What seal.Open and weighlockref09.Open tell, as one plain function of the bytes. -/
import Derived.Test.YtoobiffhjjfpgaaGreatSeal
import Derived.Test.YtoobiffhjjfpgaaGreatFrame
namespace Go.Proofs.YtoobiffhjjfpgaaGreat.Print
open Go.RowKit

theorem five_of {w : World} {b : Nat} {c0 c1 c2 c3 c4 : Value} {t : TypeId} (h : w.heap[b]? = some (.cells #[c0, c1, c2, c3, c4] t)) :
    w.cell? ⟨b, 0, none⟩ = some c0 ∧ w.cell? ⟨b, 1, none⟩ = some c1 ∧ w.cell? ⟨b, 2, none⟩ = some c2 ∧ w.cell? ⟨b, 3, none⟩ = some c3 ∧ w.cell? ⟨b, 4, none⟩ = some c4 ∧
    w.frozen? ⟨b, 0, none⟩ = false ∧ w.frozen? ⟨b, 1, none⟩ = false ∧ w.frozen? ⟨b, 2, none⟩ = false ∧ w.frozen? ⟨b, 3, none⟩ = false ∧ w.frozen? ⟨b, 4, none⟩ = false :=
  ⟨by rw [cell_of h]; rfl, by rw [cell_of h]; rfl, by rw [cell_of h]; rfl, by rw [cell_of h]; rfl, by rw [cell_of h]; rfl, free_of h 0, free_of h 1, free_of h 2, free_of h 3, free_of h 4⟩

theorem be_bs (v n : Nat) : be v n = bs (beL v n) := by apply list_inj; rw [be_list, bs_list]
end Go.Proofs.YtoobiffhjjfpgaaGreat.Print

namespace Go.Proofs.YtoobiffhjjfpgaaGreat.Print
open Go.RowKit

theorem bs_beq (s t : ByteArray) : (s.toList == t.toList) = decide (s = t) := by
  rw [ByteArray.toList_eq, ByteArray.toList_eq]
  by_cases h : s = t
  · subst h; simp
  · have h2 : s.data.toList ≠ t.data.toList := fun e => h (list_inj e)
    rw [decide_eq_false h]
    exact beq_eq_false_iff_ne.2 h2
theorem bs_bne (s t : ByteArray) : (s.toList != t.toList) = !decide (s = t) := by rw [bne, bs_beq]

/-- What seal.Open tells. -/
abbrev openV (stamp count : Int) (d : ByteArray) (e : Int) : Value := .tuple #[.int .u32 stamp, .int .i64 count, .string d, .int .i64 e]

set_option maxRecDepth 100000 in
set_option maxHeartbeats 400000 in
theorem open_len (s : ByteArray) (h : s.size ≠ 64) (w : World) :
    Calls Tryz.prog 136 #[.string s] w fun e w' => e = .returned (openV 0 0 ⟨#[]⟩ 4) ∧ Below w.heap.size w w' := by
  have k1 : ((s.size : Int) != 64) = true := by simp; omega
  go_enter Tryz.func136, Tryz.ntmps136
  go_wp2
  go_quiet (fail)
  go_wp2
  exact bodyPost_ret (v := openV 0 0 ⟨#[]⟩ 4) (by simp [results, Tryz.results136, go_sem]) rfl ⟨rfl, by repeat (first | exact Below.refl _ _ | refine below_drewN ?_ _ | refine Below.drew ?_)⟩

set_option maxRecDepth 100000 in
set_option maxHeartbeats 400000 in
theorem open_unlike (s : ByteArray) (h : s.size = 64) (hu : s.extract 0 6 ≠ s.extract 58 64) (w : World) :
    Calls Tryz.prog 136 #[.string s] w fun e w' => e = .returned (openV 0 0 ⟨#[]⟩ 4) ∧ Below w.heap.size w w' := by
  have k1 : ((s.size : Int) != 64) = false := by simp; omega
  have k2 : ((s.extract 0 6).toList != (s.extract 58 64).toList) = true := by rw [bs_bne]; simp [hu]
  have k3 : ((s.extract 0 6).toList == (s.extract 58 64).toList) = false := by rw [bs_beq]; simp [hu]
  have b1 : (6 : Int) ≤ s.size := by omega
  have b2 : (58 : Int) ≤ s.size := by omega
  go_enter Tryz.func136, Tryz.ntmps136
  go_wp2
  go_quiet (fail)
  go_wp2
  exact bodyPost_ret (v := openV 0 0 ⟨#[]⟩ 4) (by simp [results, Tryz.results136, go_sem]) rfl ⟨rfl, by repeat (first | exact Below.refl _ _ | refine below_drewN ?_ _ | refine Below.drew ?_)⟩

set_option maxRecDepth 100000 in
set_option maxHeartbeats 400000 in
theorem open_zero (s : ByteArray) (h : s.size = 64) (hu : s.extract 0 6 = s.extract 58 64) (n : Nat) (hn : readL (s.extract 4 6).data.toList = n) (h0 : n = 0) (w : World) :
    Calls Tryz.prog 136 #[.string s] w fun e w' => e = .returned (openV 0 0 ⟨#[]⟩ 4) ∧ Below w.heap.size w w' := by
  subst h0
  have k1 : ((s.size : Int) != 64) = false := by simp; omega
  have k2 : ((s.extract 0 6).toList != (s.extract 58 64).toList) = false := by rw [bs_bne]; simp [hu]
  have k3 : ((s.extract 0 6).toList == (s.extract 58 64).toList) = true := by rw [bs_beq]; simp [hu]
  have b1 : (6 : Int) ≤ s.size := by omega
  have b2 : (58 : Int) ≤ s.size := by omega
  have HN := Lib.hid hn
  clear hn hu
  go_enter Tryz.func136, Tryz.ntmps136
  go_wp2
  go_quiet (fail)
  go_wp2_with fail
  refine (read_any (s.extract 0 4) (by simp; omega) (by simp; omega) _).mono ?_
  rintro e w1 ⟨rfl, rfl⟩
  go_wp2_with fail
  refine (read_any (s.extract 4 6) (by simp; omega) (by simp; omega) _).mono ?_
  rintro e w1 ⟨rfl, rfl⟩
  rw [HN.out]
  go_wp2
  exact bodyPost_ret (v := openV 0 0 ⟨#[]⟩ 4) (by simp [results, Tryz.results136, go_sem]) rfl ⟨rfl, by repeat (first | exact Below.refl _ _ | refine below_drewN ?_ _ | refine Below.drew ?_)⟩

set_option maxRecDepth 100000 in
set_option maxHeartbeats 400000 in
theorem open_ok (s : ByteArray) (h : s.size = 64) (hu : s.extract 0 6 = s.extract 58 64) (n : Nat) (hn : readL (s.extract 4 6).data.toList = n) (h0 : n ≠ 0) (h1 : n < 65536) (m : Nat) (hm : readL (s.extract 0 4).data.toList = m) (h2 : m < 4294967296) (w : World) :
    Calls Tryz.prog 136 #[.string s] w fun e w' => e = .returned (openV m n (s.extract 6 58) 0) ∧ Below w.heap.size w w' := by
  have k1 : ((s.size : Int) != 64) = false := by simp; omega
  have k2 : ((s.extract 0 6).toList != (s.extract 58 64).toList) = false := by rw [bs_bne]; simp [hu]
  have k3 : ((s.extract 0 6).toList == (s.extract 58 64).toList) = true := by rw [bs_beq]; simp [hu]
  have k4 : ((n : Int) == 0) = false := by simp; omega
  have b1 : (6 : Int) ≤ s.size := by omega
  have b2 : (58 : Int) ≤ s.size := by omega
  have HN := Lib.hid hn
  have HM := Lib.hid hm
  clear hn hu hm
  go_enter Tryz.func136, Tryz.ntmps136
  go_wp2
  go_quiet (fail)
  go_wp2_with fail
  refine (read_any (s.extract 0 4) (by simp; omega) (by simp; omega) _).mono ?_
  rintro e w1 ⟨rfl, rfl⟩
  rw [HM.out]
  go_wp2_with fail
  refine (read_any (s.extract 4 6) (by simp; omega) (by simp; omega) _).mono ?_
  rintro e w1 ⟨rfl, rfl⟩
  rw [HN.out]
  go_wp2
  go_quiet (fail)
  go_wp2
  exact bodyPost_ret (v := openV m n (s.extract 6 58) 0) (by simp [results, Tryz.results136, go_sem]) rfl ⟨rfl, by repeat (first | exact Below.refl _ _ | refine below_drewN ?_ _ | refine Below.drew ?_)⟩



/-- What the reference's Open tells. -/
abbrev gotS (stamp count : Int) (d : ByteArray) (ok : Bool) : Value := .agg #[.int .u32 stamp, .int .i64 count, .string d, .bool ok]



end Go.Proofs.YtoobiffhjjfpgaaGreat.Print

namespace Go.Proofs.YtoobiffhjjfpgaaGreat.Print
open Go.RowKit

theorem sealL_six (m n : Nat) (d : List UInt8) : (sealL m n d).take 6 = markL m n := by rw [sealL, List.take_left' (markL_length m n)]
theorem sealL_last (m n : Nat) (d : List UInt8) (hd : d.length = 52) : (sealL m n d).drop 58 = markL m n := by
  rw [sealL, ← List.append_assoc, List.drop_left' (by rw [List.length_append, markL_length, hd])]
theorem sealL_body (m n : Nat) (d : List UInt8) (hd : d.length = 52) : ((sealL m n d).drop 6).take 52 = d := by
  rw [sealL, List.drop_left' (markL_length m n), List.take_left' hd]
theorem sealL_length (m n : Nat) (d : List UInt8) (hd : d.length = 52) : (sealL m n d).length = 64 := by
  rw [sealL, List.length_append, List.length_append, markL_length, hd]
/-- A sector that is sealed is its seal. -/
theorem sealL_back (L : List UInt8) (h : L.length = 64) (hu : L.take 6 = L.drop 58) : sealL (readL (L.take 4)) (readL ((L.drop 4).take 2)) ((L.drop 6).take 52) = L := by
  have h1 : beL (readL (L.take 4)) 4 = L.take 4 := by
    have := beL_readL (L.take 4)
    rwa [List.length_take, h] at this
  have h2 : beL (readL ((L.drop 4).take 2)) 2 = (L.drop 4).take 2 := by
    have := beL_readL ((L.drop 4).take 2)
    rwa [List.length_take, List.length_drop, h] at this
  have hm : markL (readL (L.take 4)) (readL ((L.drop 4).take 2)) = L.take 6 := by
    rw [markL, h1, h2]
    exact (List.take_add (i := 4) (j := 2)).symm
  have h3 : (L.drop 6).drop 52 = L.drop 58 := by rw [List.drop_drop]
  have h4 := List.take_append_drop 52 (L.drop 6)
  rw [h3] at h4
  rw [sealL, hm]
  conv => lhs; rhs; rhs; rw [hu]
  rw [h4, List.take_append_drop]
theorem ext64 (s : ByteArray) (h : s.size = 64) : s.extract 58 64 = bs (s.data.toList.drop 58) := by
  apply list_inj
  rw [extract_list, bs_list, List.take_of_length_le]
  rw [List.length_drop, ← size_list, h]
  omega
/-- Stamp, count and data of a sector, if it opens. -/
def opnP (L : List UInt8) : Option (Nat × Nat × List UInt8) :=
  if L.length = 64 ∧ L.take 6 = L.drop 58 ∧ readL ((L.drop 4).take 2) ≠ 0 then some (readL (L.take 4), readL ((L.drop 4).take 2), (L.drop 6).take 52) else none
theorem opnP_back {L : List UInt8} {m n : Nat} {d : List UInt8} (h : opnP L = some (m, n, d)) : L = sealL m n d ∧ 1 ≤ n ∧ n < 65536 ∧ m < 4294967296 ∧ d.length = 52 := by
  unfold opnP at h
  split at h
  · rename_i hc
    obtain ⟨h64, hu, h0⟩ := hc
    cases h
    refine ⟨(sealL_back L h64 hu).symm, by omega, ?_, ?_, ?_⟩
    · have := readL_lt ((L.drop 4).take 2)
      rwa [show ((L.drop 4).take 2).length = 2 by rw [List.length_take, List.length_drop, h64]; rfl] at this
    · have := readL_lt (L.take 4)
      rwa [show (L.take 4).length = 4 by rw [List.length_take, h64]; rfl] at this
    · rw [List.length_take, List.length_drop, h64]; rfl
  · cases h
theorem opnP_seal {m n : Nat} {d : List UInt8} (hm : m < 4294967296) (h1 : 1 ≤ n) (h2 : n < 65536) (hd : d.length = 52) : opnP (sealL m n d) = some (m, n, d) := by
  have e4 : (sealL m n d).take 4 = beL m 4 := by
    have := congrArg (List.take 4) (sealL_six m n d)
    rw [List.take_take] at this
    rw [show (sealL m n d).take 4 = _ from this, markL, List.take_left' (beL_length m 4)]
  have e2 : ((sealL m n d).drop 4).take 2 = beL n 2 := by
    have := congrArg (List.drop 4) (sealL_six m n d)
    rw [List.drop_take] at this
    rw [show ((sealL m n d).drop 4).take 2 = _ from this, markL, List.drop_left' (beL_length m 4)]
  have r4 : readL (beL m 4) = m := readL_beL _ _ hm
  have r2 : readL (beL n 2) = n := readL_beL _ _ h2
  unfold opnP
  rw [e4, e2, r4, r2, sealL_body m n d hd, if_pos]
  exact ⟨sealL_length m n d hd, by rw [sealL_six, sealL_last m n d hd], by omega⟩
/-- A sector whose count's bytes are 0 does not open. -/
theorem opnP_zero {L : List UInt8} (h : readL ((L.drop 4).take 2) = 0) : opnP L = none := by
  unfold opnP
  rw [if_neg]
  exact fun hc => hc.2.2 h
-- the program's alone: weighlock/seal.Open by opnP
theorem open_any (s : ByteArray) :
    (opnP s.data.toList = none ∧ (∀ w, Calls Tryz.prog 136 #[.string s] w fun x w' => x = .returned (openV 0 0 ⟨#[]⟩ 4) ∧ Below w.heap.size w w') ∧ True) ∨
    (∃ m n d, opnP s.data.toList = some (m, n, d) ∧ (∀ w, Calls Tryz.prog 136 #[.string s] w fun x w' => x = .returned (openV m n (bs d) 0) ∧ Below w.heap.size w w') ∧ True) := by
  by_cases h : s.size = 64
  · have hl : s.data.toList.length = 64 := by rw [← size_list]; exact h
    obtain ⟨n, hn⟩ : ∃ n, readL (s.extract 4 6).data.toList = n := ⟨_, rfl⟩
    obtain ⟨m, hm⟩ : ∃ m, readL (s.extract 0 4).data.toList = m := ⟨_, rfl⟩
    have hn2 : n < 65536 := by
      rw [← hn]
      have := readL_lt (s.extract 4 6).data.toList
      rwa [show (s.extract 4 6).data.toList.length = 2 by rw [extract_list, List.length_take, List.length_drop, hl]; rfl] at this
    have hm2 : m < 4294967296 := by
      rw [← hm]
      have := readL_lt (s.extract 0 4).data.toList
      rwa [show (s.extract 0 4).data.toList.length = 4 by rw [extract_list, List.length_take, List.length_drop, hl]; rfl] at this
    have x6 : (s.extract 6 58).data.toList = (s.data.toList.drop 6).take 52 := extract_list s 6 58
    have x0 : (s.extract 0 6).data.toList = s.data.toList.take 6 := extract_list s 0 6
    have hn3 : readL ((s.data.toList.drop 4).take 2) = n := by rw [← hn, extract_list]
    have hm3 : readL (s.data.toList.take 4) = m := by rw [← hm, extract_list]; rfl
    by_cases h0 : n = 0
    · refine .inl ⟨opnP_zero (hn3.trans h0), fun w => ?_, trivial⟩
      by_cases hu : s.extract 0 6 = s.extract 58 64
      · exact open_zero s h hu n hn h0 w
      · exact open_unlike s h hu w
    · by_cases hu : s.extract 0 6 = s.extract 58 64
      · have hu2 : s.data.toList.take 6 = s.data.toList.drop 58 := by
          rw [← x0, hu, ext64 s h, bs_list]
        refine .inr ⟨m, n, (s.data.toList.drop 6).take 52, ?_, fun w => ?_, trivial⟩
        · unfold opnP
          rw [if_pos ⟨hl, hu2, by rw [hn3]; exact h0⟩, hn3, hm3]
        · rw [← x6, bs_of]
          exact open_ok s h hu n hn h0 hn2 m hm hm2 w
      · refine .inl ⟨?_, fun w => open_unlike s h hu w, trivial⟩
        · unfold opnP
          rw [if_neg]
          intro hc
          apply hu
          apply list_inj
          rw [x0, ext64 s h, bs_list]
          exact hc.2.1
  · refine .inl ⟨?_, fun w => open_len s h w, trivial⟩
    unfold opnP
    rw [if_neg]
    exact fun hc => h (by rw [size_list]; exact hc.1)
end Go.Proofs.YtoobiffhjjfpgaaGreat.Print
