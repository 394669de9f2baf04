/- Which super any bytes are: the program's and the reference's answer are one. -/
import Derived.Test.YtemdhcocbjcklaaSdec
import Derived.Test.YtemdhcocbjcklaaRsdec
namespace Go.Proofs.Ytemdhcocbjcklaa.Print
open Go.RowKit

theorem sealL_six (m n : Nat) (d : List UInt8) : (sealL m n d).take 6 = markL m n := by rw [sealL, List.take_left' (markL_length m n)]
theorem sealL_last (m n : Nat) (d : List UInt8) (hd : d.length = 52) : (sealL m n d).drop 58 = markL m n := by
  rw [sealL, ← List.append_assoc, List.drop_left' (by rw [List.length_append, markL_length, hd])]
theorem sealL_body (m n : Nat) (d : List UInt8) (hd : d.length = 52) : ((sealL m n d).drop 6).take 52 = d := by
  rw [sealL, List.drop_left' (markL_length m n), List.take_left' hd]
theorem sealL_length (m n : Nat) (d : List UInt8) (hd : d.length = 52) : (sealL m n d).length = 64 := by
  rw [sealL, List.length_append, List.length_append, markL_length, hd]
/-- A sector that is sealed is its seal. -/
theorem sealL_back (L : List UInt8) (h : L.length = 64) (hu : L.take 6 = L.drop 58) : sealL (readL (L.take 4)) (readL ((L.drop 4).take 2)) ((L.drop 6).take 52) = L := by
  have h1 : beL (readL (L.take 4)) 4 = L.take 4 := by
    have := beL_readL (L.take 4)
    rwa [List.length_take, h] at this
  have h2 : beL (readL ((L.drop 4).take 2)) 2 = (L.drop 4).take 2 := by
    have := beL_readL ((L.drop 4).take 2)
    rwa [List.length_take, List.length_drop, h] at this
  have hm : markL (readL (L.take 4)) (readL ((L.drop 4).take 2)) = L.take 6 := by
    rw [markL, h1, h2]
    exact (List.take_add (i := 4) (j := 2)).symm
  have h3 : (L.drop 6).drop 52 = L.drop 58 := by rw [List.drop_drop]
  have h4 := List.take_append_drop 52 (L.drop 6)
  rw [h3] at h4
  rw [sealL, hm]
  conv => lhs; rhs; rhs; rw [hu]
  rw [h4, List.take_append_drop]

theorem ext64 (s : ByteArray) (h : s.size = 64) : s.extract 58 64 = bs (s.data.toList.drop 58) := by
  apply list_inj
  rw [extract_list, bs_list, List.take_of_length_le]
  rw [List.length_drop, ← size_list, h]
  omega

/-- Program and reference find the same super in any bytes. -/
theorem decode_both (s : ByteArray) : ∃ (v : Nat → Nat) (ok : Bool), (∀ i, i < 5 → v i < 4294967296) ∧ (ok = true → s = bs (superL (v 0) (v 1) (v 2) (v 3) (v 4))) ∧
    (∀ w, Calls Try.prog 38 #[.string s] w fun x w' => x = .returned (sdV ok v) ∧ Below w.heap.size w w') ∧
    (∀ w, Calls Try.prog 39 #[.string s] w fun x w' => x = .returned (if ok then gotU v true else gotZ) ∧ Below w.heap.size w w') := by
  have shut : (∀ w, Calls Try.prog 64 #[.string s] w fun x w' => x = .returned (openV 0 0 ⟨#[]⟩ 4) ∧ Below w.heap.size w w') →
      (∀ w, Calls Try.prog 66 #[.string s] w fun x w' => x = .returned (gotS 0 0 ⟨#[]⟩ false) ∧ Below w.heap.size w w') → ∃ (v : Nat → Nat) (ok : Bool), (∀ i, i < 5 → v i < 4294967296) ∧ (ok = true → s = bs (superL (v 0) (v 1) (v 2) (v 3) (v 4))) ∧
    (∀ w, Calls Try.prog 38 #[.string s] w fun x w' => x = .returned (sdV ok v) ∧ Below w.heap.size w w') ∧
    (∀ w, Calls Try.prog 39 #[.string s] w fun x w' => x = .returned (if ok then gotU v true else gotZ) ∧ Below w.heap.size w w') :=
    fun h1 h2 => ⟨fun _ => 0, false, fun _ _ => (by show 0 < _; omega), fun h => (by cases h), fun w => sdec_shut s w (fun w => h1 w), fun w => rsdec_shut s w (fun w => h2 w)⟩
  by_cases h : s.size = 64
  · have hl : s.data.toList.length = 64 := by rw [← size_list]; exact h
    obtain ⟨n, hn⟩ : ∃ n, readL (s.extract 4 6).data.toList = n := ⟨_, rfl⟩
    obtain ⟨m, hm⟩ : ∃ m, readL (s.extract 0 4).data.toList = m := ⟨_, rfl⟩
    have hn2 : n < 65536 := by
      rw [← hn]
      have := readL_lt (s.extract 4 6).data.toList
      rwa [show (s.extract 4 6).data.toList.length = 2 by rw [extract_list, List.length_take, List.length_drop, hl]; rfl] at this
    have hm2 : m < 4294967296 := by
      rw [← hm]
      have := readL_lt (s.extract 0 4).data.toList
      rwa [show (s.extract 0 4).data.toList.length = 4 by rw [extract_list, List.length_take, List.length_drop, hl]; rfl] at this
    have x6 : (s.extract 6 58).data.toList = (s.data.toList.drop 6).take 52 := extract_list s 6 58
    have x0 : (s.extract 0 6).data.toList = s.data.toList.take 6 := extract_list s 0 6
    by_cases h0 : n = 0
    · refine shut (fun w => ?_) (fun w => ropen_zero s h n hn h0 m hm hm2 w)
      by_cases hu : s.extract 0 6 = s.extract 58 64
      · exact open_zero s h hu n hn h0 w
      · exact open_unlike s h hu w
    · by_cases hu : s.extract 0 6 = s.extract 58 64
      · have hu2 : s.data.toList.take 6 = s.data.toList.drop 58 := by
          rw [← x0, hu, ext64 s h, bs_list]
        have hb := sealL_back s.data.toList hl hu2
        have hn3 : readL ((s.data.toList.drop 4).take 2) = n := by rw [← hn, extract_list]
        have hm3 : readL (s.data.toList.take 4) = m := by rw [← hm, extract_list]; rfl
        rw [hn3, hm3, ← x6] at hb
        have hD : (s.extract 6 58).size = 52 := by rw [ByteArray.size_extract, h]; rfl
        obtain ⟨ok, hok⟩ : ∃ ok, ((bs (superL (vD (s.extract 6 58) 0) (vD (s.extract 6 58) 1) (vD (s.extract 6 58) 2) (vD (s.extract 6 58) 3) (vD (s.extract 6 58) 4))).toList == s.toList) = ok := ⟨_, rfl⟩
        refine ⟨vD (s.extract 6 58), ok, fun i _ => vD_lt _ i, fun e => ?_, fun w => ?_, fun w => ?_⟩
        · rw [e, bs_beq] at hok
          exact (of_decide_eq_true hok).symm
        · exact sdec_open s (s.extract 6 58) m n hD _ (fun _ _ => rfl) (fun i _ => vD_lt _ i) _ rfl ok hok w (fun w => open_ok s h hu n hn h0 hn2 m hm hm2 w)
        · exact rsdec_open s (s.extract 6 58) m n hD _ (fun _ _ => rfl) (fun i _ => vD_lt _ i) _ rfl ok hok w (fun w => ropen_pos s h n hn h0 hn2 m hm hm2 s (by rw [hb, bs_of]) true (by rw [bs_beq]; simp) w)
      · refine shut (fun w => open_unlike s h hu w) (fun w => ?_)
        refine ropen_pos s h n hn h0 hn2 m hm hm2 _ rfl false ?_ w
        rw [bs_beq]
        refine decide_eq_false (fun e => hu ?_)
        have hdl : (s.extract 6 58).data.toList.length = 52 := by rw [x6, List.length_take, List.length_drop, hl]; rfl
        have e2 : sealL m n (s.extract 6 58).data.toList = s.data.toList := by rw [← e, bs_list]; rw [e]
        have a1 := sealL_six m n (s.extract 6 58).data.toList
        have a2 := sealL_last m n (s.extract 6 58).data.toList hdl
        rw [e2] at a1 a2
        rw [ext64 s h]
        apply list_inj
        rw [x0, bs_list, a1, a2]
  · exact shut (fun w => open_len s h w) (fun w => ropen_len s h w)

theorem supD_nth (a b c d e : Nat) : ∀ i, i < 5 → ((supD a b c d e).drop (2 + 4 * i)).take 4 = beL (nth5 a b c d e i) 4 := by
  intro i hi
  obtain ⟨R, hR⟩ : ∃ R, beL (Crc.crc 0 (preL a b c d e 5)) 4 ++ z26 = R := ⟨_, rfl⟩
  have hL : supD a b c d e = [87, 76] ++ (beL a 4 ++ (beL b 4 ++ (beL c 4 ++ (beL d 4 ++ (beL e 4 ++ R))))) := by
    rw [← hR, supD, sup26]
    simp [preL, nth5]
  rw [hL]
  have l4 : ∀ v, (beL v 4).length = 4 := fun v => beL_length v 4
  have hk : i = 0 ∨ i = 1 ∨ i = 2 ∨ i = 3 ∨ i = 4 := by omega
  have st : ∀ (v : Nat) (j : Nat) (M : List UInt8), (beL v 4 ++ M).drop (j + 4) = M.drop j := fun v j M => by
    rw [Nat.add_comm, ← List.drop_drop, List.drop_left' (l4 v)]
  rcases hk with rfl | rfl | rfl | rfl | rfl
  · show (List.take 4 (beL a 4 ++ _)) = _
    rw [List.take_left' (l4 a)]; rfl
  · show (List.take 4 (List.drop (0 + 4) (beL a 4 ++ _))) = _
    rw [st, List.drop_zero, List.take_left' (l4 b)]; rfl
  · show (List.take 4 (List.drop (4 + 4) (beL a 4 ++ _))) = _
    rw [st, show 4 = 0 + 4 by rfl, st, List.drop_zero, List.take_left' (l4 c)]; rfl
  · show (List.take 4 (List.drop (8 + 4) (beL a 4 ++ _))) = _
    rw [st, show 8 = 4 + 4 by rfl, st, show List.drop 4 = List.drop (0 + 4) by rfl, st, List.drop_zero, List.take_left' (l4 d)]; rfl
  · show (List.take 4 (List.drop (12 + 4) (beL a 4 ++ _))) = _
    rw [st, show 12 = 8 + 4 by rfl, st, show 8 = 4 + 4 by rfl, st, show List.drop 4 = List.drop (0 + 4) by rfl, st, List.drop_zero, List.take_left' (l4 e)]; rfl

/-- Of a super's bytes the super is told. -/
theorem decode_super (a b c d e : Nat) (ha : a < 4294967296) (hb : b < 4294967296) (hc : c < 4294967296) (hd : d < 4294967296) (he : e < 4294967296) (w : World) :
    Calls Try.prog 38 #[.string (bs (superL a b c d e))] w fun x w' => x = .returned (.tuple #[su5 a b c d e, .int .i64 0]) ∧ Below w.heap.size w w' := by
  have hsl := superL_length a b c d e
  have hs : (bs (superL a b c d e)).size = 64 := by rw [bs_size, hsl]
  have hDl := supD_length a b c d e
  have hu : (bs (superL a b c d e)).extract 0 6 = (bs (superL a b c d e)).extract 58 64 := by
    rw [ext64 _ hs]
    apply list_inj
    rw [extract_list, bs_list, bs_list, superL, sealL_last _ _ _ hDl, List.drop_zero, sealL_six]
  have hbody : (bs (superL a b c d e)).extract 6 58 = bs (supD a b c d e) := by
    apply list_inj
    rw [extract_list, bs_list, bs_list, superL]
    exact sealL_body _ _ _ hDl
  have hcount : readL ((bs (superL a b c d e)).extract 4 6).data.toList = 1 := by
    rw [extract_list, bs_list, superL, sealL, markL, List.append_assoc, List.drop_left' (beL_length a 4), List.take_left' (by rw [beL_length])]
    exact readL_beL 1 2 (by omega)
  have hstamp : readL ((bs (superL a b c d e)).extract 0 4).data.toList = a := by
    rw [extract_list, bs_list, superL, sealL, markL, List.append_assoc, List.drop_zero, List.take_left' (by rw [beL_length])]
    exact readL_beL a 4 (by omega)
  have hO := fun w => open_ok _ hs hu 1 hcount (by omega) (by omega) a hstamp ha w
  rw [hbody] at hO
  have hvl : ∀ i, i < 5 → nth5 a b c d e i < 4294967296 := by
    intro i hi
    have hk : i = 0 ∨ i = 1 ∨ i = 2 ∨ i = 3 ∨ i = 4 := by omega
    rcases hk with rfl | rfl | rfl | rfl | rfl <;> assumption
  have hv : ∀ i, i < 5 → readL ((bs (supD a b c d e)).extract (2 + 4 * i) (6 + 4 * i)).data.toList = nth5 a b c d e i := by
    intro i hi
    rw [extract_list, bs_list, show 6 + 4 * i - (2 + 4 * i) = 4 by omega, supD_nth a b c d e i hi]
    exact readL_beL _ 4 (hvl i hi)
  exact sdec_open _ (bs (supD a b c d e)) a 1 (by rw [bs_size, hDl]) (nth5 a b c d e) hv hvl _ rfl true (by rw [bs_beq]; exact decide_eq_true rfl) w (fun w => hO w)

end Go.Proofs.Ytemdhcocbjcklaa.Print
