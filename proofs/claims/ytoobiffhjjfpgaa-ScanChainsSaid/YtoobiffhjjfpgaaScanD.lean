/- scan: Clean. scan over a dead view: All, Clean; a fresh view; laid. What was laid, what was wiped, what has landed: plain. weighlocklaw15: three. -/
import Derived.Test.YtoobiffhjjfpgaaScan
import Derived.Test.YtoobiffhjjfpgaaFallV
namespace Go.Proofs.Ytoobiffhjjfpgaa.Print
open Go.RowKit
attribute [local go_sem] run_loadVar_scalar
set_option linter.unusedSimpArgs false

set_option maxHeartbeats 400000 in
theorem index_any {w : World} {ao : Option Addr} {l : List Nat} (h : IntsAt w ao l) (cap n : Nat) (hl : l.length ≤ 1000000) :
    Calls Try.prog 44 #[.slice ao l.length cap, .int .i64 n] w fun x w' => ∃ r : Int, x = .returned (.int .i64 r) ∧ (0 ≤ r ↔ n ∈ l) ∧ w = w' := by
  have H := Lib.hid h
  clear h
  go_enter Try.func44, Try.ntmps44
  go_wp2_with fail
  go_loopw [8] (fun i wr => ∃ j : Nat, j ≤ l.length ∧ i = .int .i64 j ∧ n ∉ l.take j ∧ w = wr) (fun i _ => l.length - (intOf i).toNat)
  case atStart => exact ⟨0, Nat.zero_le _, rfl, by simp, rfl⟩
  case round =>
    obtain ⟨j, hj, rfl, hno, rfl⟩ := hrel
    have HNO := Lib.hid hno
    clear hno
    by_cases hlt : j < l.length
    · obtain ⟨a, ha, hc⟩ := H.out j hlt
      have HA := Lib.hid ha
      subst ha
      obtain ⟨y, hy⟩ : ∃ y, l[j] = y := ⟨_, rfl⟩
      rw [hy] at hc
      have HY := Lib.hid hy
      by_cases hyn : n = y
      · subst hyn
        clear hy
        go_wp2
        go_ret
        refine ⟨j, rfl, ⟨fun _ => ?_, fun _ => by omega⟩, rfl⟩
        rw [← HY.out]
        exact List.getElem_mem hlt
      · have k1 : ((n : Int) == (y : Int)) = false := by simp; omega
        have HYN := Lib.hid hyn
        clear hy hyn
        go_wp2
        go_roundw
        case rel =>
          refine ⟨j + 1, hlt, by simp, ?_, by first | rfl | trivial⟩
          rw [List.take_succ_eq_append_getElem hlt, HY.out, List.mem_append]
          intro hh
          rcases hh with hh | hh
          · exact HNO.out hh
          · exact HYN.out (List.mem_singleton.1 hh)
        case measure => simp [intOf]; omega
    · obtain rfl : j = l.length := by omega
      go_wp2
      go_ret
      refine ⟨-1, rfl, ⟨fun h => by omega, fun h => absurd h ?_⟩, rfl⟩
      have := HNO.out
      rwa [List.take_length] at this
theorem contains_any {w : World} {ao : Option Addr} {l : List Nat} (h : IntsAt w ao l) (cap n : Nat) (hl : l.length ≤ 1000000) :
    Calls Try.prog 29 #[.slice ao l.length cap, .int .i64 n] w fun x w' => x = .returned (.bool (decide (n ∈ l))) ∧ w = w' := by
  have K := Lib.hid (index_any h cap n hl)
  clear h
  go_enter Try.func29, Try.ntmps29
  go_wp2_with fail
  refine K.out.mono ?_
  rintro x w1 ⟨r, rfl, hr, rfl⟩
  have HR := Lib.hid hr
  clear hr
  go_wp2
  go_ret
  exact ⟨by rw [decide_eq_decide.2 HR.out.symm]; rfl, rfl⟩
/-- What is wiped. -/
def wipesP (f : Nat) (kept : List Nat) (ss : List SegL) : List (Nat × List UInt8) := ss.filterMap fun S => if S.n ∈ kept then none else some (f + (2 + 16 * S.n), zeroSec)
theorem wipesP_snoc (f : Nat) (kept : List Nat) (ss : List SegL) (S : SegL) : wipesP f kept (ss ++ [S]) = wipesP f kept ss ++ if S.n ∈ kept then [] else [(f + (2 + 16 * S.n), zeroSec)] := by
  unfold wipesP
  rw [List.filterMap_append]
  by_cases h : S.n ∈ kept
  · rw [if_pos h]; simp [h]
  · rw [if_neg h]; simp [h]
theorem wipesP_le (f : Nat) (kept : List Nat) (ss : List SegL) : (wipesP f kept ss).length ≤ ss.length := List.length_filterMap_le _ _
theorem clean_nil (a b : Value) (w : World) : Calls Try.prog 13 #[.pointer none, a, b] w fun x w' => x = .returned (.int .i64 7) ∧ w = w' := by
  go_enter Try.func13, Try.ntmps13
  go_wp2
  go_ret
  exact ⟨rfl, rfl⟩
set_option maxRecDepth 100000 in
set_option maxHeartbeats 1600000 in
theorem clean_any {w : World} {v f N : Nat} {lies : List (List UInt8)} {W : List (Nat × List UInt8)} {F U1 U2 : Foot} {ao bo : Option Addr} {ss kept : List SegL} {ps ks : List Nat} (hV : ViewIs v lies W f N (-1) false w F) (hA : ListIs v ao ss ps w U1) (hK : ListIs v bo kept ks w U2) (ca cb : Nat)
    (hn : ∀ S ∈ ss, 2 + 16 * S.n + 16 ≤ N) (hN : N ≤ 8192) (hs : ss.length ≤ 1000) (hk : kept.length ≤ 1000) (hW : W.length ≤ 800000000) :
    Calls Try.prog 13 #[.pointer (some ⟨v, 0, none⟩), .slice ao ss.length ca, .slice bo kept.length cb] w fun x w' => x = .returned (.int .i64 0) ∧
      Became (ViewIs v (landed lies ((W ++ wipesP f (kept.map (·.n)) ss).filter (inSpan f N))) ((W ++ wipesP f (kept.map (·.n)) ss).filter (fun x => !inSpan f N x)) f N (-1) false) w F w' := by
  have HV := Lib.hid hV
  have HA := Lib.hid hA
  have HNN := Lib.hid hn
  have K1 := Lib.hid (numbers_any hK cb hk)
  clear hV hA hK hn
  go_enter Try.func13, Try.ntmps13
  go_wp2_with fail
  refine K1.out.mono ?_
  rintro x w1 ⟨rv, rfl, hr1, hb1⟩
  obtain ⟨sl1, sc1, hv⟩ := row_slice3 hr1
  subst hv
  have HR1 := Lib.hid hr1
  have HB1 := Lib.hid hb1
  have K2 := Lib.hid (numbers_any (ListIs.stays.below HA.out hb1) ca hs)
  clear hr1 hb1 K1
  go_wp2_with fail
  refine K2.out.mono ?_
  rintro x w2 ⟨rv, rfl, hr2, hb2⟩
  obtain ⟨sl2, sc2, hv⟩ := row_slice3 hr2
  subst hv
  have HR2 := Lib.hid hr2
  have HR1 := Lib.hid (ownsRow_below HR1.out hb2)
  have HB2 := Lib.hid (HB1.out.trans (hb2.mono HB1.out.size))
  have HV2 := Lib.hid (ViewIs.stays.below HV.out HB2.out)
  have HFL := Lib.hid (fun i (hi : F i) => ViewIs.there HV.out i hi)
  clear hr2 hb2 K2
  go_wp2_with fail
  go_loopw [18] (fun i wr => ∃ j : Nat, j ≤ ss.length ∧ i = .int .i64 j ∧ Became (ViewIs v lies (W ++ wipesP f (kept.map (·.n)) (ss.take j)) f N (-1) false) w2 F wr) (fun i _ => ss.length - (intOf i).toNat)
  case atStart => exact ⟨0, Nat.zero_le _, rfl, Became.refl (by simpa [wipesP] using HV2.out)⟩
  case round =>
    obtain ⟨j, hj, rfl, hBe⟩ := hrel
    obtain ⟨F', hV', hU, hF'⟩ := hBe
    have HV' := Lib.hid hV'
    have HU := Lib.hid hU
    have HF := Lib.hid hF'
    clear hV' hU hF'
    by_cases hlt : j < ss.length
    · have hr1 := ownsRow_upd HU.out HR1.out (fun i hi hc => by have := HFL.out i hc; have := ownBlock_ge HR1.out i hi; omega)
      have hr2 := ownsRow_upd HU.out HR2.out (fun i hi hc => by have := HFL.out i hc; have := ownBlock_ge HR2.out i hi; have := HB1.out.size; omega)
      obtain ⟨a1, c1, he1, hi1⟩ := IntsAt.of_row (l := kept.map (·.n)) (by simp) hr1
      obtain ⟨a2, c2, he2, hi2⟩ := IntsAt.of_row (l := ss.map (·.n)) (by simp) hr2
      simp at he1 he2
      obtain ⟨rfl, rfl⟩ := he1
      obtain ⟨rfl, rfl⟩ := he2
      obtain ⟨a, ha, hc⟩ := hi2 j (by simpa using hlt)
      have HAA := Lib.hid ha
      subst ha
      simp only [List.getElem_map] at hc
      obtain ⟨n, hnn⟩ : ∃ n, (ss[j]'hlt).n = n := ⟨_, rfl⟩
      rw [hnn] at hc
      have KC := contains_any hi1 sc1 n (by simpa using Nat.le_trans hk (by omega))
      rw [List.length_map] at KC
      have HKC := Lib.hid KC
      have hsn : wipesP f (kept.map (·.n)) (ss.take (j + 1)) = wipesP f (kept.map (·.n)) (ss.take j) ++ if n ∈ kept.map (·.n) then [] else [(f + (2 + 16 * n), zeroSec)] := by
        rw [List.take_succ_eq_append_getElem hlt, wipesP_snoc, hnn]
      have hnb := HNN.out ss[j] (List.getElem_mem hlt)
      rw [hnn] at hnb
      have hwl := wipesP_le f (kept.map (·.n)) (ss.take j)
      have hwl2 : (W ++ wipesP f (kept.map (·.n)) (ss.take j)).length ≤ 900000000 := by
        rw [List.length_append]
        rw [List.length_take] at hwl
        omega
      by_cases hin : n ∈ kept.map (·.n)
      · rw [if_pos hin, List.append_nil] at hsn
        rw [decide_eq_true hin] at HKC
        have HSN := Lib.hid hsn
        clear hr1 hr2 hi1 hi2 hsn hnn hin KC hwl hnb hwl2
        go_wp2_with fail
        refine HKC.out.mono ?_
        rintro x w3 ⟨rfl, rfl⟩
        go_wp2
        go_roundw
        case rel => exact ⟨j + 1, hlt, by simp, by rw [HSN.out]; exact ⟨F', HV'.out, HU.out, HF.out⟩⟩
        case measure => simp [intOf]; omega
      · rw [if_neg hin] at hsn
        rw [decide_eq_false hin] at HKC
        have HSN := Lib.hid hsn
        have KW := Lib.hid (wipe_ok HV'.out (by omega) n hN hnb hwl2 n rfl)
        clear hr1 hr2 hi1 hi2 hsn hnn hin KC hwl hnb hwl2
        go_wp2_with fail
        refine HKC.out.mono ?_
        rintro x w3 ⟨rfl, rfl⟩
        go_wp2_with fail
        refine KW.out.mono ?_
        rintro x w4 ⟨rfl, hbe⟩
        have HBE : Hid (Became (ViewIs v lies (W ++ wipesP f (kept.map (·.n)) (ss.take (j + 1))) f N (-1) false) w2 F w4) := Lib.hid (by
          obtain ⟨F3, hV3, hU3, hF3⟩ := hbe
          refine ⟨F3, by rw [HSN.out, ← List.append_assoc]; exact hV3, HU.out.trans hU3 (fun i hi hg => (HF.out i hg).elim id (fun h => by omega)), fun i hi => ?_⟩
          have := HU.out.size
          exact (hF3 i hi).elim (HF.out i) (fun h => .inr (by omega)))
        clear hbe KW
        go_wp2
        go_roundw
        case rel => exact ⟨j + 1, hlt, by simp, HBE.out⟩
        case measure => simp [intOf]; omega
    · obtain rfl : j = ss.length := by omega
      have hvv := HV'.out
      rw [List.take_length] at hvv
      have KF := Lib.hid (vflush_is hvv (by omega) (by have := wipesP_le f (kept.map (·.n)) ss; rw [List.length_append]; omega))
      clear hvv
      go_wp2_with fail
      refine KF.out.mono ?_
      rintro x w4 ⟨rfl, hbe⟩
      have HBE := Lib.hid hbe
      clear hbe KF
      go_wp2
      go_ret
      obtain ⟨F2, hV2, hU2, hF2⟩ := HBE.out
      exact ⟨rfl, Became.of_below HB2.out ⟨F2, hV2, HU.out.trans hU2 (fun i hi hg => (HF.out i hg).elim id (fun h => by omega)), fun i hi => by
        have := HU.out.size
        exact (hF2 i hi).elim (HF.out i) (fun h => .inr (by omega))⟩⟩
end Go.Proofs.Ytoobiffhjjfpgaa.Print

namespace Go.Proofs.Ytoobiffhjjfpgaa.Print
open Go.RowKit
attribute [local go_sem] run_loadVar_scalar
set_option linter.unusedSimpArgs false

set_option maxHeartbeats 800000 in
theorem sectors_dead {w : World} {v d : Nat} {f N fu st : Int} (hv : w.heap[v]? = some (viewObj d f N fu st true)) (l s : Nat) (n : Int) (h : H4) (fv : Value) (e : Int) (sealed : Bool)
    (hl : w.heap[l]? = some (ldObj s (fun _ => ⟨#[]⟩) (fun _ => 0) (fun _ => 0))) (hs : w.heap[s]? = some (segObj v n h fv e sealed)) (at_ : Int) (h0 : 0 ≤ at_) (h1 : at_ < N) (h2 : N ≤ 8192) :
    Calls Try.prog 38 #[.pointer (some ⟨l, 0, none⟩), .int .i64 at_] w fun x w' => x = .returned (.int .i64 21) ∧ w = w' := by
  have K := Lib.hid (vread_dead hv at_ h0 h1)
  obtain ⟨c0, c1, c2, c3, c4, c5, c6, c7, c8, hfz⟩ := nine_of hs
  have d0 := ld_seg hl
  have k1 : IntKind.i64.wrap at_ = at_ := by rw [IntKind.wrap_i64]; omega
  clear hv hl hs h0 h1 h2
  go_enter Try.func38, Try.ntmps38
  go_wp2
  go_loopw [12] (fun i wr => i = .int .i64 0 ∧ w = wr) (fun _ _ => 0)
  case atStart => exact ⟨rfl, rfl⟩
  case round =>
    obtain ⟨rfl, rfl⟩ := hrel
    go_wp2_with fail
    refine K.out.mono ?_
    rintro x w1 ⟨rfl, rfl⟩
    go_wp2
    go_ret
    exact ⟨rfl, rfl⟩
set_option maxRecDepth 100000 in
set_option maxHeartbeats 1600000 in
attribute [-go_sem] Instr.build Instr.fill in
theorem load_dead {w : World} {v d : Nat} {f N : Nat} {fu st : Int} (hv : w.heap[v]? = some (viewObj d f N fu st true)) (n : Nat) (hN : N ≤ 8192) (hn : 2 + 16 * n + 16 ≤ N) :
    Calls Try.prog 18 #[.pointer (some ⟨v, 0, none⟩), .int .i64 n] w fun x w' => x = .returned (.tuple #[.pointer none, .int .i64 21]) ∧ Below w.heap.size w w' := by
  have KF := Lib.hid (first_ok hv n hN hn)
  have HV := Lib.hid hv
  have hvl := lt_of hv
  clear hv
  have hbl := build_ld w.heap.size
  have hbs : ∀ w' : World, (Instr.build 83 #[(0, .pointer (some ⟨v, 0, none⟩)), (1, .int .i64 n), (4, .int .i64 1), (5, .bool true)]).run Try.prog w' = .ok (.agg #[.pointer (some ⟨v, 0, none⟩), .int .i64 n, .int .i64 (0 : Nat), .int .u32 (0 : Nat), .int .u32 (0 : Nat), .int .i64 (0 : Nat), .slice none 0 0, .int .i64 (1 : Nat), .bool true]) w' := fun w' => run_build w' 83 _ _ (by kernel_rfl)
  have hs1 := alloc_at w (segObj v n (0, 0, 0, 0) (.slice none 0 0) (1 : Nat) true)
  have hs2 := alloc_old hs1 (ldObj w.heap.size (fun _ => ⟨#[]⟩) (fun _ => 0) (fun _ => 0))
  have hl2 := alloc_at (w.alloc (segObj v n (0, 0, 0, 0) (.slice none 0 0) (1 : Nat) true)) (ldObj w.heap.size (fun _ => ⟨#[]⟩) (fun _ => 0) (fun _ => 0))
  have hB2 : Below w.heap.size w ((w.alloc (segObj v n (0, 0, 0, 0) (.slice none 0 0) (1 : Nat) true)).alloc (ldObj w.heap.size (fun _ => ⟨#[]⟩) (fun _ => 0) (fun _ => 0))) := ((Below.refl _ _).alloc (Nat.le_refl _) _).alloc (by simp) _
  have hsz2 : ((w.alloc (segObj v n (0, 0, 0, 0) (.slice none 0 0) (1 : Nat) true)).alloc (ldObj w.heap.size (fun _ => ⟨#[]⟩) (fun _ => 0) (fun _ => 0))).heap.size = w.heap.size + 2 := by simp
  rw [World.size_alloc] at hl2
  clear hs1
  go_enter Try.func18, Try.ntmps18
  go_wp2_with fail
  refine KF.out.mono ?_
  rintro x w1 ⟨rfl, rfl⟩
  go_wp2_with fail
  generalize (w.alloc (segObj v n (0, 0, 0, 0) (.slice none 0 0) (1 : Nat) true)).alloc (ldObj w.heap.size (fun _ => ⟨#[]⟩) (fun _ => 0) (fun _ => 0)) = W2 at hs2 hl2 hB2 hsz2 ⊢
  have hv2 := (hB2.block _ hvl).trans HV.out
  generalize hss : w.heap.size = S0 at *
  have hSec := fun i (hi : i = ((2 + 16 * n : Nat) : Int)) => sectors_dead hv2 (S0 + 1) S0 n (0, 0, 0, 0) (.slice none 0 0) (1 : Nat) true hl2 hs2 i (by omega) (by omega) (by omega)
  have HSec := Lib.hid hSec
  have HB2 := Lib.hid hB2
  clear hSec hB2 hv2 hs2 hl2
  refine (HSec.out _ (by omega)).mono ?_
  rintro x w3 ⟨rfl, rfl⟩
  go_wp2
  exact bodyPost_ret (v := .tuple #[.pointer none, .int .i64 21]) (by simp [results, Try.results18, go_sem]) rfl ⟨rfl, hss ▸ HB2.out⟩
theorem all_dead {w : World} {v d : Nat} {f N : Nat} {fu st : Int} (hv : w.heap[v]? = some (viewObj d f N fu st true)) (hN : N ≤ 8192) (hn : 18 ≤ N) :
    Calls Try.prog 7 #[.pointer (some ⟨v, 0, none⟩), .int .i64 1] w fun x w' => x = .returned (.tuple #[.slice none 0 0, .int .i64 21]) ∧ Below w.heap.size w w' := by
  have K := Lib.hid (load_dead hv 0 hN (by omega))
  clear hv
  go_enter Try.func7, Try.ntmps7
  go_wp2_with fail
  go_loopw [6, 14] (fun _ i wr => i = .int .i64 0 ∧ w = wr) (fun _ _ _ => 0)
  case atStart => exact ⟨rfl, rfl⟩
  case round =>
    obtain ⟨rfl, rfl⟩ := hrel
    go_wp2_with fail
    refine K.out.mono ?_
    rintro x w2 ⟨rfl, hb⟩
    go_wp2
    exact bodyPost_ret (v := .tuple #[.slice none 0 0, .int .i64 21]) (by simp [results, Try.results7, go_sem]) rfl ⟨rfl, hb⟩
theorem clean_dead {w : World} {v d lb : Nat} {wv : Value} {lies : List (List UInt8)} {W : List (Nat × List UInt8)} {f N : Nat} {fu : Int} (V : VAt w v d lb wv lies W f N fu true) :
    Calls Try.prog 13 #[.pointer (some ⟨v, 0, none⟩), .slice none 0 0, .slice none 0 0] w fun x w' => x = .returned (.int .i64 21) ∧ ∃ w1, Below w.heap.size w w1 ∧ Upd (VFoot v d lb wv) w1 w' := by
  have K1 := Lib.hid (numbers_any (nil_list v w) 0 (by simp))
  have HV := Lib.hid V
  clear V
  go_enter Try.func13, Try.ntmps13
  go_wp2_with fail
  refine K1.out.mono ?_
  rintro x w1 ⟨rv, rfl, hr1, hb1⟩
  have HB1 := Lib.hid hb1
  have K2 := Lib.hid (numbers_any (nil_list v w1) 0 (by simp))
  clear hb1 hr1
  go_wp2_with fail
  refine K2.out.mono ?_
  rintro x w2 ⟨rv, rfl, hr2, hb2⟩
  obtain ⟨sl2, sc2, hv⟩ := row_slice3 hr2
  subst hv
  have HB2 := Lib.hid (HB1.out.trans (hb2.mono HB1.out.size))
  have KF := Lib.hid (vflush_dead (HV.out.below HB2.out) (.inr rfl))
  clear hb2 hr2 K2
  go_wp2_with fail
  go_loopw [18] (fun i wr => i = .int .i64 0 ∧ w2 = wr) (fun _ _ => 0)
  case atStart => exact ⟨rfl, rfl⟩
  case round =>
    obtain ⟨rfl, rfl⟩ := hrel
    go_wp2_with fail
    refine KF.out.mono ?_
    rintro x w3 ⟨rfl, _, _, hU, _⟩
    go_wp2
    go_ret
    exact ⟨rfl, w2, HB2.out, hU⟩
theorem fresh15_any (w : World) : Calls Try.prog 5 #[] w fun x w' => ∃ v F, x = .returned (.pointer (some ⟨v, 0, none⟩)) ∧ ViewIs v (zeroDisk 98) [] 0 98 (-1) false w' F ∧ Below w.heap.size w w' ∧ ∀ i, F i → w.heap.size ≤ i := by
  go_enter Try.func5, Try.ntmps5
  go_wp2_with fail
  refine (dnew_z 98 (by omega) (by omega) _ rfl _).mono ?_
  rintro x w1 ⟨rfl, D1, hb1, hz1⟩
  have HD := Lib.hid D1
  clear D1
  go_wp2_with fail
  refine (vnew_z HD.out 0 98 (by omega) (by rw [zeroDisk_length]; omega) _ _ rfl rfl).mono ?_
  rintro x w2 ⟨rfl, V2, hb2, hz2⟩
  have HV := Lib.hid V2
  clear V2
  go_wp2
  go_ret
  have hV' := HV.out
  rw [hz1] at hV'
  refine ⟨w.heap.size + 2, VFoot (w.heap.size + 2) (w.heap.size + 1) w.heap.size (.slice none 0 0), rfl, ⟨_, _, _, hV', fun _ => Iff.rfl⟩, hb1.trans (hb2.mono hb1.size), ?_⟩
  intro i hi
  rcases Nat.lt_or_ge i w.heap.size with hh | hh
  · exact absurd hi (VFoot_ge (by omega) (by omega) (Nat.le_refl _) (fun i hi => by simp [Value.ownBlock] at hi) i hh)
  · exact hh
/-- Frames of nothing. -/
def framesP : Nat → List Fr
  | 0 => []
  | m + 1 => framesP m ++ [(((1 + m : Nat) : Int), ⟨#[]⟩)]
theorem framesP_length : ∀ m, (framesP m).length = m
  | 0 => rfl
  | m + 1 => by rw [framesP, List.length_append, framesP_length m]; rfl
/-- What waits, when a segment with so many of them was made. -/
def laidW (f n : Nat) (h : H4) : Nat → List (Nat × List UInt8)
  | 0 => sealAt (f + (2 + 16 * n + 0)) h.2.2.1 1 [pad52 (hdrL h)]
  | m + 1 => laidW f n h m ++ sealAt (f + (2 + 16 * n + (1 + m))) h.2.2.1 (m + 2) (frP h.2.2.1 (1 + m) (1 + m) ⟨#[]⟩)
theorem many7 : many (7 + (⟨#[]⟩ : ByteArray).size) = 1 := by decide
theorem frP1 (st e K : Nat) : (frP st e K ⟨#[]⟩).length = 1 := by rw [frP_length]; exact many7
theorem laidW_length (f n : Nat) (h : H4) : ∀ m, (laidW f n h m).length = 1 + m
  | 0 => by rw [laidW, sealAt_length]; rfl
  | m + 1 => by rw [laidW, List.length_append, laidW_length f n h m, sealAt_length, frP1]; omega
theorem build_fr1 (k : Int) (W : World) : (Instr.build 60 #[(0, .int .i64 k)]).run Try.prog W = .ok (frV k ⟨#[]⟩) W := by kernel_rfl
set_option maxRecDepth 100000 in
set_option maxHeartbeats 1600000 in
attribute [-go_sem] Instr.build Instr.fill in
theorem laid_any {w : World} {v f N : Nat} {lies : List (List UInt8)} {W : List (Nat × List UInt8)} {F : Foot} (hV : ViewIs v lies W f N (-1) false w F) (n : Nat) (h : H4) (hf : HFits h) (hN : N ≤ 8192) (hn : 2 + 16 * n + 16 ≤ N) (hw : W.length ≤ 800000000) (m : Nat) (hm : m ≤ 9) :
    Calls Try.prog 6 #[.pointer (some ⟨v, 0, none⟩), .int .i64 n, hdV h.1 h.2.1 h.2.2.1 h.2.2.2, .int .i64 m] w fun x w' => x = .returned (.bool true) ∧ Became (ViewIs v lies (W ++ laidW f n h m) f N (-1) false) w F w' := by
  have hbf := build_fr1
  have hst := hf.2.2.2.1
  have hal : Below w.heap.size w (w.alloc (Obj.cells #[Value.int IntKind.i64 h.1, Value.int IntKind.u32 h.2.1, Value.int IntKind.u32 h.2.2.1, Value.int IntKind.i64 h.2.2.2] 25)) := (Below.refl _ _).alloc (Nat.le_refl _) _
  have HAL := Lib.hid hal
  have KC := Lib.hid (create_go (ViewIs.stays.below hV hal) n h hf hN hn (by omega) n rfl)
  have HFT := Lib.hid hf
  have HFL := Lib.hid (fun i (hi : F i) => ViewIs.there hV i hi)
  clear hV hf hal
  go_enter Try.func6, Try.ntmps6
  go_wp2_with fail
  refine KC.out.mono ?_
  rintro x w1 ⟨s, F1, G1, rfl, hV1, hS1, hA1, hU1, hF1, hG1⟩
  have HBASE : Hid (∃ F' G' : Foot, ViewIs v lies (W ++ laidW f n h 0) f N (-1) false w1 F' ∧ SegIs s v n h (framesP 0) (1 + 0) false w1 G' ∧ Apart F' G' ∧ Upd F w w1 ∧ (∀ i, F' i → F i ∨ w.heap.size ≤ i) ∧ (∀ i, G' i → w.heap.size ≤ i)) := Lib.hid (by
    have hz := HAL.out.size
    exact ⟨F1, G1, hV1, hS1, hA1, (Upd.of_below HAL.out).trans hU1 (fun _ _ h => h), fun i hi => (hF1 i hi).imp id (fun h => Nat.le_trans hz h), fun i hi => Nat.le_trans hz (hG1 i hi)⟩)
  clear hV1 hS1 hA1 hU1 hF1 hG1 KC
  go_wp2_with fail
  go_loopw [22] (fun i wr => ∃ j : Nat, j ≤ m ∧ i = .int .i64 j ∧ ∃ F' G' : Foot, ViewIs v lies (W ++ laidW f n h j) f N (-1) false wr F' ∧ SegIs s v n h (framesP j) (1 + j) false wr G' ∧ Apart F' G' ∧ Upd F w wr ∧ (∀ i, F' i → F i ∨ w.heap.size ≤ i) ∧ (∀ i, G' i → w.heap.size ≤ i)) (fun i _ => m - (intOf i).toNat)
  case atStart => exact ⟨0, Nat.zero_le _, rfl, HBASE.out⟩
  case round =>
    obtain ⟨j, hj, rfl, F', G', hV, hS, hA, hU, hF, hG⟩ := hrel
    by_cases hlt : j < m
    · have k1 : IntKind.i64.wrap (1 + (j : Int)) = ((1 + j : Nat) : Int) := by rw [IntKind.wrap_i64]; omega
      have KA := Lib.hid (append_go hV hS hA hst hN hn (by omega) (by omega) (by rw [framesP_length]; omega) (by rw [List.length_append, laidW_length]; omega) (1 + j) ⟨#[]⟩ (by omega) (by omega) (by decide) (by rw [many7]; omega) ((1 + j : Nat) : Int) rfl)
      have HU := Lib.hid hU
      have HF := Lib.hid hF
      have HG := Lib.hid hG
      clear hV hS hA hU hF hG
      go_wp2_with fail
      refine KA.out.mono ?_
      rintro x w3 ⟨F2, G2, rfl, hV2, hS2, hU2, hF2, hG2, hA2⟩
      have HNEXT : Hid (∃ F' G' : Foot, ViewIs v lies (W ++ laidW f n h (j + 1)) f N (-1) false w3 F' ∧ SegIs s v n h (framesP (j + 1)) (1 + (j + 1)) false w3 G' ∧ Apart F' G' ∧ Upd F w w3 ∧ (∀ i, F' i → F i ∨ w.heap.size ≤ i) ∧ (∀ i, G' i → w.heap.size ≤ i)) := Lib.hid (by
        have hz := HU.out.size
        refine ⟨F2, G2, ?_, ?_, hA2, HU.out.trans hU2 (fun i hi hc => hc.elim (fun h => (HF.out i h).elim id (fun h => by omega)) (fun h => by have := HG.out i h; omega)), fun i hi => (hF2 i hi).elim (HF.out i) (fun h => .inr (by omega)), fun i hi => (hG2 i hi).elim (HG.out i) (fun h => by omega)⟩
        · rw [framesP_length] at hV2
          rw [laidW, ← List.append_assoc]
          exact hV2
        · rw [many7] at hS2
          exact hS2)
      clear hV2 hS2 hU2 hF2 hG2 hA2 KA
      go_wp2
      go_roundw
      case rel => exact ⟨j + 1, hlt, by simp, HNEXT.out⟩
      case measure => simp [intOf]; omega
    · obtain rfl : j = m := by omega
      have HR : Hid (Became (ViewIs v lies (W ++ laidW f n h j) f N (-1) false) w F wr) := Lib.hid ⟨F', hV, hU, hF⟩
      clear hV hS hA hU hF hG
      go_wp2
      go_ret
      exact ⟨rfl, HR.out⟩
end Go.Proofs.Ytoobiffhjjfpgaa.Print

namespace Go.Proofs.Ytoobiffhjjfpgaa.Print
open Go.RowKit

theorem lastOf_app (A B : List (Nat × List UInt8)) (p : Nat) (s : List UInt8) : lastOf (A ++ B) p s = lastOf B p (lastOf A p s) := by simp [lastOf]
theorem lastOf_filter {q : Nat × List UInt8 → Bool} {p : Nat} (h : ∀ x, x.1 = p → q x = true) : ∀ (W : List (Nat × List UInt8)) (s : List UInt8), lastOf (W.filter q) p s = lastOf W p s
  | [], s => rfl
  | x :: r, s => by
    by_cases hq : q x = true
    · rw [List.filter_cons_of_pos hq]
      exact lastOf_filter h r (if x.1 = p then x.2 else s)
    · rw [List.filter_cons_of_neg hq]
      have hx : x.1 ≠ p := fun e => hq (h x e)
      have : lastOf (x :: r) p s = lastOf r p (if x.1 = p then x.2 else s) := rfl
      rw [this, if_neg hx]
      exact lastOf_filter h r s
/-- What has landed is what waited. -/
theorem sec_landed {lies : List (List UInt8)} {W : List (Nat × List UInt8)} {f N n k : Nat} (h1 : f + (2 + 16 * n + k) < lies.length) (h2 : 2 + 16 * n + k < N) :
    secO (landed lies (W.filter (inSpan f N))) (W.filter fun x => !inSpan f N x) f n k = secO lies W f n k := by
  have hin : ∀ x : Nat × List UInt8, x.1 = f + (2 + 16 * n + k) → inSpan f N x = true := fun x hx => by
    unfold inSpan
    rw [hx, Bool.and_eq_true, decide_eq_true_eq, decide_eq_true_eq]
    omega
  unfold secO secX
  rw [lastOf_none, landed_getD _ _ _ h1, lastOf_filter hin]
  intro x hx hxp
  have := (List.mem_filter.1 hx).2
  rw [hin x hxp] at this
  cases this
theorem secO_other {lies : List (List UInt8)} {W : List (Nat × List UInt8)} {f n n' e s c k : Nat} {L : List (List UInt8)} (hn : n' ≠ n) (hk : k < 16) (hL : e + L.length ≤ 16) :
    secO lies (W ++ sealAt (f + (2 + 16 * n + e)) s c L) f n' k = secO lies W f n' k := by
  unfold secO secX
  rw [lastOf_sealAt, dif_neg (by omega)]
theorem laid_other {lies : List (List UInt8)} {W : List (Nat × List UInt8)} {f n n' k : Nat} {h : H4} (hn : n' ≠ n) (hk : k < 16) : ∀ {m : Nat}, m ≤ 15 → secO lies (W ++ laidW f n h m) f n' k = secO lies W f n' k
  | 0, _ => secO_other hn hk (by simp)
  | m + 1, hm => by
    rw [laidW, ← List.append_assoc, secO_other hn hk (by rw [frP1]; omega)]
    exact laid_other hn hk (by omega)
theorem laid_inv {lies : List (List UInt8)} {W : List (Nat × List UInt8)} {f n : Nat} {h : H4} (hf : HFits h) (hr : ∀ k, 1 ≤ k → k < 16 → ∀ x, secO lies W f n k = some x → x.1 ≠ h.2.2.1) : ∀ {m : Nat}, m ≤ 15 →
    PutInv (secO lies (W ++ laidW f n h m) f n) h (framesP m) (1 + m)
  | 0, _ => putInv_create hf hr
  | m + 1, hm => by
    have ih := laid_inv hf hr (m := m) (by omega)
    have := putInv_append ih hf.2.2.2.1 (K := 1 + m) (p := ⟨#[]⟩) (by omega) (by omega) (by decide) (by rw [many7]; omega)
    rw [framesP_length, many7] at this
    rw [laidW, ← List.append_assoc]
    exact this
theorem laid_stamp {lies : List (List UInt8)} {W : List (Nat × List UInt8)} {f n k : Nat} {h : H4} (hf : HFits h) {x : Nat × Nat × List UInt8} : ∀ {m : Nat}, m ≤ 15 → secO lies (W ++ laidW f n h m) f n k = some x → x.1 = h.2.2.1 ∨ secO lies W f n k = some x
  | 0, _ => fun hx => by
    rw [laidW, secO_seal lies W f n 0 h.2.2.1 1 [pad52 (hdrL h)] (by intro p hp; rw [List.mem_singleton.1 hp]; exact pad52_length _) hf.2.2.2.1 (by omega) (by omega)] at hx
    by_cases hk : 0 ≤ k ∧ k < 0 + [pad52 (hdrL h)].length
    · rw [dif_pos hk] at hx; left; rw [← Option.some.inj hx]
    · rw [dif_neg hk] at hx; exact .inr hx
  | m + 1, hm => fun hx => by
    rw [laidW, ← List.append_assoc, secO_seal lies _ f n (1 + m) h.2.2.1 (m + 2) (frP h.2.2.1 (1 + m) (1 + m) ⟨#[]⟩) (pieces_52 _ _) hf.2.2.2.1 (by omega) (by omega)] at hx
    by_cases hk : 1 + m ≤ k ∧ k < 1 + m + (frP h.2.2.1 (1 + m) (1 + m) ⟨#[]⟩).length
    · rw [dif_pos hk] at hx; left; rw [← Option.some.inj hx]
    · rw [dif_neg hk] at hx; exact laid_stamp hf (by omega) hx
theorem PutInv.congr {O O' : Nat → Op3} {h : H4} {fs : List Fr} {e : Nat} (I : PutInv O h fs e) (hO : ∀ k, k < 16 → O' k = O k) : PutInv O' h fs e := by
  have h16 := I.e16
  exact ⟨by rw [hO 0 (by omega)]; exact I.head, I.runs.congr fun k hk1 hk2 => by rw [hO k (by omega)], I.e1, I.e16, fun k hk1 hk2 x hx => I.rest k hk1 hk2 x (by rw [← hO k hk2]; exact hx)⟩
theorem headP_none {O : Nat → Op3} (h : O 0 = none) : headP O = none := by unfold headP; rw [h]
theorem headP_congr {O O' : Nat → Op3} (h : O' 0 = O 0) : headP O' = headP O := by unfold headP; rw [h]
theorem loadP_inv {O : Nat → Op3} (h52 : O52 O) {h : H4} {fs : List Fr} {e : Nat} (hf : HFits h) (I : PutInv O h fs e) (n : Nat) : loadP O n = some ⟨n, h, fs, e⟩ := by
  obtain ⟨h1, h2⟩ := putInv_load h52 hf I
  unfold loadP
  rw [h1]
  simp only [h2]
theorem loadP_none {O : Nat → Op3} (h : headP O = none) (n : Nat) : loadP O n = none := by unfold loadP; rw [h]
theorem wipes_zero {f : Nat} {kept : List Nat} {ss : List SegL} {x : Nat × List UInt8} (h : x ∈ wipesP f kept ss) : ∃ S ∈ ss, S.n ∉ kept ∧ x = (f + (2 + 16 * S.n), zeroSec) := by
  unfold wipesP at h
  obtain ⟨S, hS, h2⟩ := List.mem_filterMap.1 h
  by_cases hk : S.n ∈ kept
  · rw [if_pos hk] at h2; cases h2
  · rw [if_neg hk] at h2; exact ⟨S, hS, hk, (Option.some.inj h2).symm⟩
theorem wipes_keep {lies : List (List UInt8)} {W : List (Nat × List UInt8)} {f n k : Nat} {kept : List Nat} {ss : List SegL} (h : n ∈ kept ∨ ∀ S ∈ ss, S.n ≠ n) (hk : k < 16) : secO lies (W ++ wipesP f kept ss) f n k = secO lies W f n k := by
  unfold secO secX
  rw [lastOf_app, lastOf_none]
  intro x hx
  obtain ⟨S, hS, hno, rfl⟩ := wipes_zero hx
  intro e
  have : S.n = n := by simp only at e; omega
  rcases h with h | h
  · exact hno (this ▸ h)
  · exact h S hS this
theorem wipes_gone {lies : List (List UInt8)} {W : List (Nat × List UInt8)} {f : Nat} {kept : List Nat} {ss : List SegL} {S : SegL} (hS : S ∈ ss) (hk : S.n ∉ kept) : secO lies (W ++ wipesP f kept ss) f S.n 0 = none := by
  unfold secO secX
  rw [lastOf_app]
  obtain ⟨x, hx, hx1, hx2⟩ := lastOf_mem (W := wipesP f kept ss) (p := f + (2 + 16 * S.n + 0)) (lastOf W (f + (2 + 16 * S.n + 0)) (lies.getD (f + (2 + 16 * S.n + 0)) [])) ⟨(f + (2 + 16 * S.n), zeroSec), List.mem_filterMap.2 ⟨S, hS, by rw [if_neg hk]⟩, rfl⟩
  rw [hx2]
  obtain ⟨_, _, _, rfl⟩ := wipes_zero hx
  exact zeroSec_shut
/-- three's segments. -/
def th1 : H4 := (3, 1, 1, 9)
def th2 : H4 := (3, 1, 2, 0)
def th3 : H4 := (3, 1, 3, 5)
theorem tf1 : HFits th1 := by unfold HFits th1; decide
theorem tf2 : HFits th2 := by unfold HFits th2; decide
theorem tf3 : HFits th3 := by unfold HFits th3; decide
def tW1 : List (Nat × List UInt8) := [] ++ laidW 0 0 th1 2
def tW2 : List (Nat × List UInt8) := tW1 ++ laidW 0 2 th2 5
def tW3 : List (Nat × List UInt8) := tW2 ++ laidW 0 3 th3 3
def tS1 : SegL := ⟨0, th1, framesP 2, 1 + 2⟩
def tS2 : SegL := ⟨2, th2, framesP 5, 1 + 5⟩
def tS3 : SegL := ⟨3, th3, framesP 3, 1 + 3⟩
theorem t_zero (n k : Nat) (hn : n < 6) (hk : k < 16) : secO (zeroDisk 98) [] 0 n k = none := secO_zero _ _ _ _ (by omega)
theorem t_w1 (n k : Nat) (hn : n < 6) (hk : k < 16) (h0 : n ≠ 0) : secO (zeroDisk 98) tW1 0 n k = none := by
  unfold tW1
  rw [laid_other h0 hk (by omega), t_zero n k hn hk]
theorem t_w2 (n k : Nat) (hn : n < 6) (hk : k < 16) (h0 : n ≠ 0) (h2 : n ≠ 2) : secO (zeroDisk 98) tW2 0 n k = none := by
  unfold tW2
  rw [laid_other h2 hk (by omega), t_w1 n k hn hk h0]
theorem t_w3 (n k : Nat) (hn : n < 6) (hk : k < 16) (h0 : n ≠ 0) (h2 : n ≠ 2) (h3 : n ≠ 3) : secO (zeroDisk 98) tW3 0 n k = none := by
  unfold tW3
  rw [laid_other h3 hk (by omega), t_w2 n k hn hk h0 h2]
theorem t_i1 : PutInv (secO (zeroDisk 98) tW3 0 0) th1 (framesP 2) (1 + 2) := by
  have h : PutInv (secO (zeroDisk 98) tW1 0 0) th1 (framesP 2) (1 + 2) := laid_inv tf1 (fun k h1 h2 x hx => by rw [t_zero 0 k (by omega) h2] at hx; cases hx) (by omega)
  refine h.congr fun k hk => ?_
  unfold tW3 tW2
  rw [laid_other (by omega) hk (by omega), laid_other (by omega) hk (by omega)]
theorem t_i2 : PutInv (secO (zeroDisk 98) tW3 0 2) th2 (framesP 5) (1 + 5) := by
  have h : PutInv (secO (zeroDisk 98) tW2 0 2) th2 (framesP 5) (1 + 5) := laid_inv tf2 (fun k h1 h2 x hx => by rw [t_w1 2 k (by omega) h2 (by omega)] at hx; cases hx) (by omega)
  refine h.congr fun k hk => ?_
  unfold tW3
  rw [laid_other (by omega) hk (by omega)]
theorem t_i3 : PutInv (secO (zeroDisk 98) tW3 0 3) th3 (framesP 3) (1 + 3) :=
  laid_inv tf3 (fun k h1 h2 x hx => by rw [t_w2 3 k (by omega) h2 (by omega) (by omega)] at hx; cases hx) (by omega)
theorem allP6 (lies : List (List UInt8)) (W : List (Nat × List UInt8)) (f : Nat) : allP lies W f 6 = (loadP (secO lies W f 0) 0).toList ++ (loadP (secO lies W f 1) 1).toList ++ (loadP (secO lies W f 2) 2).toList ++ (loadP (secO lies W f 3) 3).toList ++ (loadP (secO lies W f 4) 4).toList ++ (loadP (secO lies W f 5) 5).toList := by
  rw [allP_succ, allP_succ, allP_succ, allP_succ, allP_succ, allP_succ]
  rfl
theorem t_all : allP (zeroDisk 98) tW3 0 6 = [tS1, tS2, tS3] := by
  rw [allP6, loadP_inv (secO_52 _ _ _ _) tf1 t_i1, loadP_inv (secO_52 _ _ _ _) tf2 t_i2, loadP_inv (secO_52 _ _ _ _) tf3 t_i3,
    loadP_none (headP_none (t_w3 1 0 (by omega) (by omega) (by omega) (by omega) (by omega))), loadP_none (headP_none (t_w3 4 0 (by omega) (by omega) (by omega) (by omega) (by omega))), loadP_none (headP_none (t_w3 5 0 (by omega) (by omega) (by omega) (by omega) (by omega)))]
  rfl
theorem t_chain : chainP [tS1, tS2, tS3] 3 1 2 = [1, 2] := by decide
def tWx : List (Nat × List UInt8) := tW3 ++ wipesP 0 ([tS2, tS3].map (·.n)) [tS1, tS2, tS3]
theorem t_again : allP (landed (zeroDisk 98) (tWx.filter (inSpan 0 98))) (tWx.filter fun x => !inSpan 0 98 x) 0 6 = [tS2, tS3] := by
  have L : ∀ n k, n < 6 → k < 16 → secO (landed (zeroDisk 98) (tWx.filter (inSpan 0 98))) (tWx.filter fun x => !inSpan 0 98 x) 0 n k = secO (zeroDisk 98) tWx 0 n k := fun n k hn hk => sec_landed (by rw [zeroDisk_length]; omega) (by omega)
  have K : ∀ n k, n ≠ 0 → k < 16 → secO (zeroDisk 98) tWx 0 n k = secO (zeroDisk 98) tW3 0 n k := fun n k hn hk => wipes_keep (by
    by_cases h2 : n = 2
    · left; subst h2; decide
    · by_cases h3 : n = 3
      · left; subst h3; decide
      · right
        intro S hS
        simp at hS
        rcases hS with rfl | rfl | rfl
        · exact fun e => hn e.symm
        · exact fun e => h2 e.symm
        · exact fun e => h3 e.symm) hk
  have hz : ∀ n, n < 6 → n ≠ 0 → n ≠ 2 → n ≠ 3 → headP (secO (landed (zeroDisk 98) (tWx.filter (inSpan 0 98))) (tWx.filter fun x => !inSpan 0 98 x) 0 n) = none := fun n hn h0 h2 h3 => headP_none (by rw [L n 0 hn (by omega), K n 0 h0 (by omega), t_w3 n 0 hn (by omega) h0 h2 h3])
  have h0 : headP (secO (landed (zeroDisk 98) (tWx.filter (inSpan 0 98))) (tWx.filter fun x => !inSpan 0 98 x) 0 0) = none := headP_none (by
    rw [L 0 0 (by omega) (by omega)]
    exact wipes_gone (S := tS1) (by simp) (by decide))
  have I2 : PutInv (secO (landed (zeroDisk 98) (tWx.filter (inSpan 0 98))) (tWx.filter fun x => !inSpan 0 98 x) 0 2) th2 (framesP 5) (1 + 5) := t_i2.congr fun k hk => by rw [L 2 k (by omega) hk, K 2 k (by omega) hk]
  have I3 : PutInv (secO (landed (zeroDisk 98) (tWx.filter (inSpan 0 98))) (tWx.filter fun x => !inSpan 0 98 x) 0 3) th3 (framesP 3) (1 + 3) := t_i3.congr fun k hk => by rw [L 3 k (by omega) hk, K 3 k (by omega) hk]
  rw [allP6, loadP_inv (secO_52 _ _ _ _) tf2 I2, loadP_inv (secO_52 _ _ _ _) tf3 I3,
    loadP_none (hz 1 (by omega) (by omega) (by omega) (by omega)), loadP_none (hz 4 (by omega) (by omega) (by omega) (by omega)), loadP_none (hz 5 (by omega) (by omega) (by omega) (by omega)), loadP_none h0]
  rfl
end Go.Proofs.Ytoobiffhjjfpgaa.Print

namespace Go.Proofs.Ytoobiffhjjfpgaa.Print
open Go.RowKit
attribute [local go_sem] run_loadVar_scalar
set_option linter.unusedSimpArgs false

theorem lit_ints {W : World} {g : Nat} {l : List Nat} {A : Array Value} (hA : A = (oC l).toArray) (h : W.heap[g]? = some (.cells A 3)) : IntsAt W (some ⟨g, 0, none⟩) l := by
  subst hA
  intro i hi
  refine ⟨_, rfl, ?_⟩
  rw [Addr.add_lit, Nat.zero_add, cell_of h]
  simp [oC, hi]
theorem build_lit3 (a b c : Int) (W : World) : (Instr.buildSlice 35 3 #[(0, .int .i64 a), (1, .int .i64 b), (2, .int .i64 c)]).run Try.prog W = .ok (.slice (some ⟨W.heap.size, 0, none⟩) 3 3) (W.alloc (.cells #[.int .i64 a, .int .i64 b, .int .i64 c] 3)) := by kernel_rfl
theorem build_lit2 (a b : Int) (W : World) : (Instr.buildSlice 35 2 #[(0, .int .i64 a), (1, .int .i64 b)]).run Try.prog W = .ok (.slice (some ⟨W.heap.size, 0, none⟩) 2 2) (W.alloc (.cells #[.int .i64 a, .int .i64 b] 3)) := by kernel_rfl
theorem build_hd4 (a b c d : Int) (W : World) : (Instr.build 25 #[(0, .int .i64 a), (1, .int .u32 b), (2, .int .u32 c), (3, .int .i64 d)]).run Try.prog W = .ok (hdV a b c d) W := by kernel_rfl
/-- What was changed beside is new. -/
theorem grow_upd {B : Nat} {w w1 w2 : World} {F F' : Foot} (hb : Below B w w1) (hB : B ≤ w.heap.size) (hF : ∀ i, F i → B ≤ i) (hU : Upd F w1 w2) (hN : ∀ i, F' i → F i ∨ w1.heap.size ≤ i) : Below B w w2 ∧ ∀ i, F' i → B ≤ i :=
  ⟨hb.trans (hU.below (Nat.le_trans hB hb.size) (fun k hk hc => by have := hF k hc; omega)), fun i hi => (hN i hi).elim (hF i) (fun h => Nat.le_trans (Nat.le_trans hB hb.size) h)⟩
theorem t_len : tW3.length = 13 := by simp [tW3, tW2, tW1, laidW_length]
set_option maxRecDepth 100000 in
set_option maxHeartbeats 3200000 in
attribute [-go_sem] Instr.build Instr.fill Instr.buildSlice in
theorem three_any (w : World) : Calls Try.prog 4 #[] w fun x w' => x = .returned (.bool true) ∧ Below w.heap.size w w' := by
  have hb3 := build_lit3
  have hb2 := build_lit2
  have hbh := build_hd4
  go_enter Try.func4, Try.ntmps4
  go_wp2_with fail
  refine (fresh15_any _).mono ?_
  rintro x w1 ⟨v, F0, rfl, hV0, hb1, hF0⟩
  have KL1 : Hid (Calls Try.prog 6 #[.pointer (some ⟨v, 0, none⟩), .int .i64 0, hdV 3 1 1 9, .int .i64 2] w1 fun x w' => x = .returned (.bool true) ∧ Became (ViewIs v (zeroDisk 98) tW1 0 98 (-1) false) w1 F0 w') := Lib.hid (laid_any hV0 0 th1 tf1 (by omega) (by omega) (by simp) 2 (by omega))
  have G1 := Lib.hid (⟨hb1, hF0⟩ : Below w.heap.size w w1 ∧ ∀ i, F0 i → w.heap.size ≤ i)
  clear hV0 hb1 hF0
  go_wp2_with fail
  refine KL1.out.mono ?_
  rintro x w2 ⟨rfl, F1, hV1, hU, hN⟩
  have G2 := Lib.hid (grow_upd G1.out.1 (Nat.le_refl _) G1.out.2 hU hN)
  clear hU hN
  have KL2 : Hid (Calls Try.prog 6 #[.pointer (some ⟨v, 0, none⟩), .int .i64 2, hdV 3 1 2 0, .int .i64 5] w2 fun x w' => x = .returned (.bool true) ∧ Became (ViewIs v (zeroDisk 98) tW2 0 98 (-1) false) w2 F1 w') := Lib.hid (laid_any hV1 2 th2 tf2 (by omega) (by omega) (by simp [tW1, laidW_length]) 5 (by omega))
  clear hV1 KL1
  go_wp2_with fail
  refine KL2.out.mono ?_
  rintro x w3 ⟨rfl, F2, hV2, hU, hN⟩
  have G3 := Lib.hid (grow_upd G2.out.1 (Nat.le_refl _) G2.out.2 hU hN)
  clear hU hN
  have KL3 : Hid (Calls Try.prog 6 #[.pointer (some ⟨v, 0, none⟩), .int .i64 3, hdV 3 1 3 5, .int .i64 3] w3 fun x w' => x = .returned (.bool true) ∧ Became (ViewIs v (zeroDisk 98) tW3 0 98 (-1) false) w3 F2 w') := Lib.hid (laid_any hV2 3 th3 tf3 (by omega) (by omega) (by simp [tW2, tW1, laidW_length]) 3 (by omega))
  clear hV2 KL2
  go_wp2_with fail
  refine KL3.out.mono ?_
  rintro x w4 ⟨rfl, F3, hV3, hU, hN⟩
  have G4 := Lib.hid (grow_upd G3.out.1 (Nat.le_refl _) G3.out.2 hU hN)
  clear hU hN
  have HV3 := Lib.hid hV3
  have KA := Lib.hid (scanall_any hV3 (by omega) (by rw [t_len]; omega) 6 6 (by omega) (by omega) (by omega) 6 (by decide))
  clear hV3 KL3
  go_wp2_with fail
  refine KA.out.mono ?_
  rintro x w5 ⟨hAP, hb5⟩
  unfold AllPost at hAP
  rw [if_neg (by decide), t_all] at hAP
  obtain ⟨ao, ac, ps, U, rfl, hL, hU⟩ := hAP
  have HL := Lib.hid hL
  have HU := Lib.hid hU
  have HB5 := Lib.hid hb5
  have KC := Lib.hid (chain_any hL ac (by simp) (fun S hS => by simp at hS; rcases hS with rfl | rfl | rfl <;> decide) 3 1 2)
  rw [t_chain] at KC
  clear hL hU hb5 KA
  simp only [List.length_cons, List.length_nil, Nat.zero_add, Nat.reduceAdd] at KC ⊢
  go_wp2_with fail
  refine KC.out.mono ?_
  rintro x w6 ⟨bo, bc, U2, rfl, hL2, hU2, hb6⟩
  have HL2 : Hid (ListIs v bo [tS2, tS3] (pickN ps [1, 2]) w6 U2) := Lib.hid hL2
  have HU2 := Lib.hid hU2
  have HB6 := Lib.hid (HB5.out.trans (hb6.mono HB5.out.size))
  have HL6 := Lib.hid (ListIs.stays.below HL.out hb6)
  have HV6 := Lib.hid (ViewIs.stays.below HV3.out HB6.out)
  have KCl : Hid (Calls Try.prog 13 #[.pointer (some ⟨v, 0, none⟩), .slice ao 3 ac, .slice bo 2 bc] w6 fun x w' => x = .returned (.int .i64 0) ∧ Became (ViewIs v (landed (zeroDisk 98) (tWx.filter (inSpan 0 98))) (tWx.filter fun x => !inSpan 0 98 x) 0 98 (-1) false) w6 F3 w') := Lib.hid (clean_any HV6.out HL6.out HL2.out ac bc (fun S hS => by simp at hS; rcases hS with rfl | rfl | rfl <;> decide) (by omega) (by simp) (by simp) (by rw [t_len]; omega))
  clear hL2 hU2 hb6 KC
  go_wp2_with fail
  refine KCl.out.mono ?_
  rintro x w7 ⟨rfl, F7, hV7, hU7, hF7⟩
  have HF3 := Lib.hid (fun i (hi : F3 i) => ViewIs.there HV3.out i hi)
  have HL7 := Lib.hid (ListIs.stays HL6.out hU7 (fun i hi hc => by have := HF3.out i hc; have := HU.out i hi; omega))
  have HK7 := Lib.hid (ListIs.stays HL2.out hU7 (fun i hi hc => by
    have := HF3.out i hc
    have := HB5.out.size
    rcases HU2.out i hi with h | h
    · have := HU.out i h; omega
    · omega))
  have KA := Lib.hid (scanall_any hV7 (by omega) (Nat.le_trans (List.length_filter_le _ _) (by
    have := wipesP_le 0 ([tS2, tS3].map (·.n)) [tS1, tS2, tS3]
    show (tW3 ++ _).length ≤ _
    rw [List.length_append, t_len]
    simp only [List.length_cons, List.length_nil] at this
    omega)) 6 6 (by omega) (by omega) (by omega) 6 (by decide))
  have G7 := Lib.hid (grow_upd (G4.out.1.trans (HB6.out.mono (G4.out.1.size))) (Nat.le_refl _) G4.out.2 hU7 hF7)
  clear hV7 hU7 hF7 KCl
  go_wp2_with fail
  refine KA.out.mono ?_
  rintro x w8 ⟨hAP, hb8⟩
  unfold AllPost at hAP
  rw [if_neg (by decide), t_again] at hAP
  obtain ⟨co, cc, ps3, U3, rfl, hL3, hU3⟩ := hAP
  have HL8 := Lib.hid (ListIs.stays.below HL7.out hb8)
  have HK8 := Lib.hid (ListIs.stays.below HK7.out hb8)
  have HL3 := Lib.hid hL3
  have G8 := Lib.hid (G7.out.1.trans (hb8.mono G7.out.1.size))
  clear hL3 hU3 hb8 KA
  simp only [List.length_cons, List.length_nil, Nat.zero_add, Nat.reduceAdd]
  have KN1 : Hid (Calls Try.prog 9 #[.slice ao 3 ac] w8 fun x w' => ∃ v', x = .returned v' ∧ w'.ownsRow w8.heap.size 3 1 v' 3 (oC [0, 2, 3]) ∧ Below w8.heap.size w8 w') := Lib.hid (numbers15_any HL8.out ac (by simp))
  go_wp2_with fail
  refine KN1.out.mono ?_
  rintro x w9 ⟨rv, rfl, hrow, hb⟩
  obtain ⟨so, sc, rfl, hin⟩ := IntsAt.of_row (l := [0, 2, 3]) rfl hrow
  have KI1 : Hid (Calls Try.prog 8 #[.slice so 3 sc, .slice (some ⟨w9.heap.size, 0, none⟩) 3 3] (w9.alloc (.cells #[.int .i64 0, .int .i64 2, .int .i64 3] 3)) fun x w' => x = .returned (.bool true) ∧ Below (w9.alloc (.cells #[.int .i64 0, .int .i64 2, .int .i64 3] 3)).heap.size (w9.alloc (.cells #[.int .i64 0, .int .i64 2, .int .i64 3] 3)) w') := Lib.hid (ints_any (l := [0, 2, 3]) (hin.below ((Below.refl _ _).alloc (Nat.le_refl _) _)) (lit_ints rfl (alloc_at w9 _)) sc 3 (by simp))
  have HB9 := Lib.hid hb
  clear hrow hb hin KN1
  go_wp2_with fail
  refine KI1.out.mono ?_
  rintro x w10 ⟨rfl, hb⟩
  have HB10 : Hid (Below w8.heap.size w8 w10) := Lib.hid ((HB9.out.alloc HB9.out.size _).trans (hb.mono (by have := HB9.out.size; simp; omega)))
  clear hb KI1
  have KN1 : Hid (Calls Try.prog 9 #[.slice bo 2 bc] w10 fun x w' => ∃ v', x = .returned v' ∧ w'.ownsRow w10.heap.size 3 1 v' 2 (oC [2, 3]) ∧ Below w10.heap.size w10 w') := Lib.hid (numbers15_any (ListIs.stays.below HK8.out HB10.out) bc (by simp))
  go_wp2_with fail
  refine KN1.out.mono ?_
  rintro x w11 ⟨rv, rfl, hrow, hb⟩
  obtain ⟨so2, sc2, rfl, hin⟩ := IntsAt.of_row (l := [2, 3]) rfl hrow
  have KI1 : Hid (Calls Try.prog 8 #[.slice so2 2 sc2, .slice (some ⟨w11.heap.size, 0, none⟩) 2 2] (w11.alloc (.cells #[.int .i64 2, .int .i64 3] 3)) fun x w' => x = .returned (.bool true) ∧ Below (w11.alloc (.cells #[.int .i64 2, .int .i64 3] 3)).heap.size (w11.alloc (.cells #[.int .i64 2, .int .i64 3] 3)) w') := Lib.hid (ints_any (l := [2, 3]) (hin.below ((Below.refl _ _).alloc (Nat.le_refl _) _)) (lit_ints rfl (alloc_at w11 _)) sc2 2 (by simp))
  have HB11 := Lib.hid hb
  clear hrow hb hin KN1
  go_wp2_with fail
  refine KI1.out.mono ?_
  rintro x w12 ⟨rfl, hb⟩
  have HB12 : Hid (Below w8.heap.size w8 w12) := Lib.hid (HB10.out.trans (((HB11.out.alloc HB11.out.size _).trans (hb.mono (by have := HB11.out.size; simp; omega))).mono HB10.out.size))
  clear hb KI1
  have KN1 : Hid (Calls Try.prog 9 #[.slice co 2 cc] w12 fun x w' => ∃ v', x = .returned v' ∧ w'.ownsRow w12.heap.size 3 1 v' 2 (oC [2, 3]) ∧ Below w12.heap.size w12 w') := Lib.hid (numbers15_any (ListIs.stays.below HL3.out HB12.out) cc (by simp))
  go_wp2_with fail
  refine KN1.out.mono ?_
  rintro x w13 ⟨rv, rfl, hrow, hb⟩
  obtain ⟨so3, sc3, rfl, hin⟩ := IntsAt.of_row (l := [2, 3]) rfl hrow
  have HB13 := Lib.hid hb
  have KI1 : Hid (Calls Try.prog 8 #[.slice so3 2 sc3, .slice (some ⟨w13.heap.size, 0, none⟩) 2 2] (w13.alloc (.cells #[.int .i64 2, .int .i64 3] 3)) fun x w' => x = .returned (.bool true) ∧ Below (w13.alloc (.cells #[.int .i64 2, .int .i64 3] 3)).heap.size (w13.alloc (.cells #[.int .i64 2, .int .i64 3] 3)) w') := Lib.hid (ints_any (l := [2, 3]) (hin.below ((Below.refl _ _).alloc (Nat.le_refl _) _)) (lit_ints rfl (alloc_at w13 _)) sc3 2 (by simp))
  clear hrow hb hin KN1
  go_wp2_with fail
  refine KI1.out.mono ?_
  rintro x w14 ⟨rfl, hb⟩
  have HB14 : Hid (Below w8.heap.size w8 w14) := Lib.hid (HB12.out.trans (((HB13.out.alloc HB13.out.size _).trans (hb.mono (by have := HB13.out.size; simp; omega))).mono HB12.out.size))
  clear hb
  go_wp2
  go_ret
  exact ⟨rfl, G8.out.trans (HB14.out.mono G8.out.size)⟩
end Go.Proofs.Ytoobiffhjjfpgaa.Print
