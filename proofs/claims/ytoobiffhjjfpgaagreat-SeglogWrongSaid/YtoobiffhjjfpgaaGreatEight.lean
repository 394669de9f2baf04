/- weighlocklaw14: a fresh view, a frame of two pieces, eight of them; numbers held against one another. weighlocklaw14: eight. -/
import Derived.Test.YtoobiffhjjfpgaaGreatLogF
import Derived.Deep.RegionHeld3
namespace Go.Proofs.YtoobiffhjjfpgaaGreat.Print
open Go.RowKit
attribute [local go_sem] run_loadVar_scalar

theorem fresh14_any (w : World) : Calls Tryz.prog 53 #[] w fun x w' => ∃ v F, x = .returned (.pointer (some ⟨v, 0, none⟩)) ∧ ViewIs v (zeroDisk 98) [] 0 98 (-1) false w' F ∧ Below w.heap.size w w' ∧ ∀ i, F i → w.heap.size ≤ i := by
  go_enter Tryz.func53, Tryz.ntmps53
  go_wp2_with fail
  refine (dnew_z 98 (by omega) (by omega) _ rfl _).mono ?_
  rintro x w1 ⟨rfl, D1, hb1, hz1⟩
  have HD := Lib.hid D1
  clear D1
  go_wp2_with fail
  refine (vnew_z HD.out 0 98 (by omega) (by rw [zeroDisk_length]; omega) _ _ rfl rfl).mono ?_
  rintro x w2 ⟨rfl, V2, hb2, hz2⟩
  have HV := Lib.hid V2
  clear V2
  go_wp2
  go_ret
  have hV' := HV.out
  rw [hz1] at hV'
  refine ⟨w.heap.size + 2, VFoot (w.heap.size + 2) (w.heap.size + 1) w.heap.size (.slice none 0 0), rfl, ⟨_, _, _, hV', fun _ => Iff.rfl⟩, hb1.trans (hb2.mono hb1.size), ?_⟩
  intro i hi
  rcases Nat.lt_or_ge i w.heap.size with hh | hh
  · exact absurd hi (VFoot_ge (by omega) (by omega) (Nat.le_refl _) (fun i hi => by simp [Value.ownBlock] at hi) i hh)
  · exact hh
def z46 : List UInt8 := List.replicate 46 0
def p46 : ByteArray := bs z46
theorem p46_size : p46.size = 46 := by decide
theorem made_bytes (n : Nat) : madeCells #[Value.int .u8 0] n = (Lib.byteCells (List.replicate n 0)).toArray := by
  apply Array.ext
  · simp [madeCells, Lib.byteCells_length]
  · intro i h1 h2
    have h4 : i % 1 = 0 := by omega
    simp [madeCells, Lib.byteCells, h4]
theorem make_bytes (n : Nat) (h : n ≤ 1000000) (w : World) : (Instr.makeSlice 141 (.int .i64 n) (.int .i64 n)).run Tryz.prog w = .ok (.slice (some ⟨w.heap.size, 0, none⟩) n n) (w.alloc (.cells (Lib.byteCells (List.replicate n 0)).toArray 5)) := by
  obtain ⟨i, hi, hz, hs, hb⟩ := info_parts info_u8
  have hr := run_make (P := Tryz.prog) w 141 5 i _ Tryz.underlying141 hi hz .i64 .i64 n n (by omega) (by omega) (by rw [hb]; omega) (by omega)
  rw [hr, Int.toNat_natCast, hs, Nat.mul_one]
  show Result.ok _ (w.alloc (.cells (madeCells #[Value.int .u8 0] n) _)) = _
  rw [made_bytes]
theorem arr_string46 {w : World} {g : Nat} (hg : w.heap[g]? = some (.cells (Lib.byteCells z46).toArray 5)) : (convert 141 9 (.slice (some ⟨g, 0, none⟩) 46 46)).run Tryz.prog w = .ok (.string p46) w := by
  have hcv := run_convert_bytes_back (P := Tryz.prog) w 141 9 5 (⟨g, 0, none⟩ : Addr) 46 z46 Tryz.underlying141 Tryz.underlying5 Tryz.underlying9 (by
    intro k hk
    rw [Addr.add_mid, Nat.zero_add, cell_of hg]
    simp [Lib.byteCells, hk])
  rwa [show z46.length = 46 from List.length_replicate] at hcv
set_option maxRecDepth 100000 in
set_option maxHeartbeats 400000 in
attribute [-go_sem] Instr.build Instr.fill Instr.buildSlice loadVar in
theorem two_any (w : World) : Calls Tryz.prog 54 #[] w fun x w' => x = .returned (frV 3 p46) ∧ Below w.heap.size w w' := by
  have hgz := alloc_at w (.cells #[.int .i64 0, .string ⟨#[]⟩] 43)
  have hBz : Below w.heap.size w (w.alloc (.cells #[.int .i64 0, .string ⟨#[]⟩] 43)) := (Below.refl _ _).alloc (Nat.le_refl _) _
  have hzz : ∀ W : World, (zeroValue 43).run Tryz.prog W = .ok (frV 0 ⟨#[]⟩) W := fun W => by kernel_rfl
  have hbd : ∀ (s : ByteArray) (W : World), (Instr.build 43 #[(0, .int .i64 3), (1, .string s)]).run Tryz.prog W = .ok (frV 3 s) W := fun s W => by kernel_rfl
  obtain ⟨Y, hY⟩ : ∃ Y, (Lib.byteCells z46).toArray = Y := ⟨_, rfl⟩
  have hmk : ∀ W : World, (Instr.makeSlice 141 (.int .i64 46) (.int .i64 46)).run Tryz.prog W = .ok (.slice (some ⟨W.heap.size, 0, none⟩) 46 46) (W.alloc (.cells Y 5)) := fun W => by rw [← hY]; exact make_bytes 46 (by omega) W
  have hcv : ∀ W : World, (convert 141 9 (.slice (some ⟨W.heap.size, 0, none⟩) 46 46)).run Tryz.prog (W.alloc (.cells Y 5)) = .ok (.string p46) (W.alloc (.cells Y 5)) := fun W => arr_string46 (by rw [hY]; exact alloc_at W _)
  have hcv1 := hcv (w.alloc (.cells #[.int .i64 0, .string ⟨#[]⟩] 43))
  have hg2 := alloc_old hgz (.cells Y 5)
  have hB2 : Below w.heap.size w ((w.alloc (.cells #[.int .i64 0, .string ⟨#[]⟩] 43)).alloc (.cells Y 5)) := hBz.alloc hBz.size _
  have hmk1 := hmk (w.alloc (.cells #[.int .i64 0, .string ⟨#[]⟩] 43))
  obtain ⟨W0, hW0⟩ : ∃ W0, w.alloc (.cells #[.int .i64 0, .string ⟨#[]⟩] 43) = W0 := ⟨_, rfl⟩
  rw [hW0] at hcv1 hmk1 hB2 hg2
  obtain ⟨W1, hW1⟩ : ∃ W1, W0.alloc (.cells Y 5) = W1 := ⟨_, rfl⟩
  rw [hW1] at hcv1 hmk1 hB2 hg2
  obtain ⟨g, hg⟩ : ∃ g, W0.heap.size = g := ⟨_, rfl⟩
  rw [hg] at hcv1 hmk1
  have z0 : W1.cell? ⟨w.heap.size, 0, none⟩ = some (.int .i64 0) := by rw [cell_of hg2]; rfl
  have z1 : W1.cell? ⟨w.heap.size, 1, none⟩ = some (.string ⟨#[]⟩) := by rw [cell_of hg2]; rfl
  have zf : ∀ o, W1.frozen? ⟨w.heap.size, o, none⟩ = false := fun o => free_of hg2 o
  have hz5 : ((W1.setCell ⟨w.heap.size, 0, none⟩ (.int .i64 3)).setCell ⟨w.heap.size, 1, none⟩ (.string p46)).heap[w.heap.size]? = some (.cells #[.int .i64 3, .string p46] 43) := by
    have := cells_set W1 w.heap.size 0 _ _ _ hg2 (.int .i64 3)
    rw [cells_set _ _ _ _ _ _ this]; rfl
  have hld5 := load_fr hz5
  have HB5 := Lib.hid ((hB2.setCell (p := ⟨w.heap.size, 0, none⟩) (Nat.le_refl _) (.int .i64 3)).setCell (p := ⟨w.heap.size, 1, none⟩) (Nat.le_refl _) (.string p46))
  obtain ⟨W5, hW5⟩ : ∃ W5, (W1.setCell ⟨w.heap.size, 0, none⟩ (.int .i64 3)).setCell ⟨w.heap.size, 1, none⟩ (.string p46) = W5 := ⟨_, rfl⟩
  rw [hW5] at hld5 HB5
  clear hmk hcv hgz hBz hz5 hg2 hB2 hg hW1 hY
  go_enter Tryz.func54, Tryz.ntmps54
  go_wp2
  exact bodyPost_ret (v := frV 3 p46) (by simp [results, Tryz.results54, asAddr, hld5]) rfl ⟨rfl, HB5.out⟩
/-- Eight frames, one behind the other. -/
def eS : Nat → PoolM × LogM
  | 0 => (newPool 6 1, newLog 9 4 100)
  | i + 1 => ((appendM (eS i).1 (eS i).2 3 p46).p, (appendM (eS i).1 (eS i).2 3 p46).g)
def eW : Nat → List (Nat × List UInt8)
  | 0 => []
  | i + 1 => appendW 0 (eS i).1 (eS i).2 3 p46 (eW i)
theorem eW_len : ∀ i, (eW i).length ≤ 16 * i
  | 0 => Nat.le_refl _
  | i + 1 => by
    have := (appendW_length 0 (eS i).1 (eS i).2 3 p46 (eW i)).2
    have := eW_len i
    show (appendW 0 (eS i).1 (eS i).2 3 p46 (eW i)).length ≤ _
    omega
theorem eS_facts : ∀ i, i < 8 → (appendM (eS i).1 (eS i).2 3 p46).er = 0 ∧ (appendM (eS i).1 (eS i).2 3 p46).n = 100 + i ∧ (eS i).2.next = 100 + i ∧ (eS i).2.segs.length ≤ 2 := by decide +kernel
theorem eS_ok : ∀ i, i ≤ 8 → PoolOk 98 (eS i).1 ∧ LogOk 98 (eS i).2
  | 0, _ => ⟨newPool_ok 6 1 98 (by omega) (by omega) (by omega) (by omega), ⟨by show 1 ≤ 9; omega, by show 9 ≤ 65535; omega, by show 4 < _; omega, by show 100 ≤ _; omega, by show 100 ≤ _; omega, fun s hs => absurd hs (by simp [eS, newLog]), Nat.zero_le _⟩⟩
  | i + 1, h => by
    obtain ⟨h1, h2⟩ := eS_ok i (by omega)
    obtain ⟨_, _, h3, h4⟩ := eS_facts i (by omega)
    exact appendM_ok h1 h2 3 p46 (by omega) (by omega)
def y46 : Fr := (3, p46)
theorem eS_8 : (eS 8).2 = ⟨9, 4, 100, 108, [⟨0, 65536, 100, 15, [y46, y46, y46, y46, y46, y46, y46], false⟩, ⟨1, 65537, 107, 3, [y46], false⟩]⟩ := by kernel_rfl
theorem eS_free : (freeL (eS 8).1.O).length = 4 := by decide +kernel
theorem eS_chain : ChainOk (eS 8).2.base (eS 8).2.segs (eS 8).2.next := by
  rw [eS_8]
  exact ⟨rfl, List.cons_ne_nil _ _, rfl, List.cons_ne_nil _ _, rfl⟩
end Go.Proofs.YtoobiffhjjfpgaaGreat.Print

namespace Go.Proofs.YtoobiffhjjfpgaaGreat.Print
open Go.RowKit
attribute [local go_sem] run_loadVar_scalar

def lastN (i : Nat) : Int := if i = 0 then 0 else 99 + i
theorem lit_at {w : World} {g : Nat} (h : w.heap[g]? = some (.cells #[.int .i64 0, .int .i64 1] 3)) : IntsAt w (some ⟨g, 0, none⟩) [0, 1] := by
  intro i hi
  refine ⟨⟨g, 0, none⟩, rfl, ?_⟩
  rw [Addr.add_lit, Nat.zero_add, cell_of h]
  match i, hi with
  | 0, _ => rfl
  | 1, _ => rfl
theorem ints01 {W : World} {ao bo : Option Addr} (h : IntsAt W ao [0, 1]) (g : IntsAt W bo [0, 1]) (ca cb : Nat) : Calls Tryz.prog 47 #[.slice ao 2 ca, .slice bo 2 cb] W fun x w' => x = .returned (.bool true) ∧ Below W.heap.size W w' := ints_any h g ca cb (by simp)
/-- What eight's last region reads. -/
abbrev EiS (gX : Nat) (wB W : World) : Prop := (loadVar 43 ⟨gX, 0, none⟩).run Tryz.prog W = .ok (frV 3 p46) W ∧ Below wB.heap.size wB W
theorem eiS_of {gX : Nat} {wB W : World} (h : wB.heap[gX]? = some (.cells #[.int .i64 3, .string p46] 43)) (hb : Below wB.heap.size wB W) : EiS gX wB W := ⟨load_fr (later_of h hb), hb⟩
theorem eiS_call {gX : Nat} {wB w1 W : World} (h : wB.heap[gX]? = some (.cells #[.int .i64 3, .string p46] 43)) (hS : EiS gX wB w1) (hb : Below w1.heap.size w1 W) : EiS gX wB W := eiS_of h (hS.2.trans (hb.mono hS.2.size))
theorem eiS_alloc {gX : Nat} {wB w1 : World} (h : wB.heap[gX]? = some (.cells #[.int .i64 3, .string p46] 43)) (hS : EiS gX wB w1) (o : Obj) : EiS gX wB (w1.alloc o) := eiS_of h (hS.2.alloc hS.2.size o)
set_option maxRecDepth 100000 in
set_option maxHeartbeats 3200000 in
attribute [-go_sem] Instr.build Instr.fill Instr.buildSlice loadVar in
theorem eight_any (w : World) : Calls Tryz.prog 10 #[] w fun x w' => x = .returned (.bool true) ∧ Below w.heap.size w w' := by
  go_enter Tryz.func10, Tryz.ntmps10
  go_wp2_with fail
  refine (pnew_any 6 1 (by omega) (by omega) (by omega) _ _ _ rfl rfl).mono ?_
  rintro x w1 ⟨p, H, rfl, hO1, hb1, hH⟩
  have HO1 := Lib.hid hO1
  have HB1 := Lib.hid hb1
  have HH := Lib.hid hH
  clear hO1 hb1 hH
  go_wp2_with fail
  refine (fresh14_any _).mono ?_
  rintro x w2 ⟨v, F, rfl, hV2, hb2, hF⟩
  have HV2 := Lib.hid hV2
  have HB2 := Lib.hid (HB1.out.trans (hb2.mono HB1.out.size))
  have HF := Lib.hid hF
  have HO2 := Lib.hid (PoolIs.stays.below HO1.out hb2)
  clear hV2 hb2 hF
  go_wp2_with fail
  refine (lognew_ok v p 9 4 100 (by omega) (by omega) (by omega) _ _ _ _ rfl rfl rfl).mono ?_
  rintro x w3 ⟨rfl, hL3, hb3, hz3⟩
  obtain ⟨g, hg⟩ : ∃ g, w2.heap.size = g := ⟨_, rfl⟩
  rw [hg] at hL3 ⊢
  have hF1 : ∀ i, F i → i < w2.heap.size := fun i hi => ViewIs.there HV2.out i hi
  have hH1 : ∀ i, H i → i < w1.heap.size := fun i hi => PoolIs.there HO1.out i hi
  have hsz := HB1.out.size
  have hsz2 := HB2.out.size
  have HVP : Hid (∃ X G : Foot, VP v p (zeroDisk 98) (eW 0) 0 98 (eS 0).1 w3 X ∧ LogIs g v p (eS 0).2 w3 G ∧ Apart X G ∧ (∀ k, X k → w.heap.size ≤ k) ∧ ∀ k, G k → w.heap.size ≤ k) := Lib.hid ⟨fun i => F i ∨ H i, _, ⟨F, H, ViewIs.stays.below HV2.out hb3, PoolIs.stays.below HO2.out hb3, fun i hi hc => by have := HF.out i hi; have := hH1 i hc; omega, fun i => Iff.rfl⟩, hL3, fun i hi hc => by
      have hc' : i = g := hc
      subst hg
      rcases hi with hi | hi
      · have := hF1 i hi; omega
      · have := PoolIs.there HO2.out i hi; omega, fun i hi => hi.elim (fun hi => by have := HF.out i hi; omega) (fun hi => HH.out i hi), fun i hi => by
      have hc' : i = g := hi
      omega⟩
  have HB3 := Lib.hid (HB2.out.trans (hb3.mono HB2.out.size))
  clear hL3 hb3 hz3 hg hF1 hH1 hsz hsz2 HV2 HB1 HB2 HF HO1 HO2 HH
  go_wp2_with fail
  go_loopw [5, 20] (fun lst i wr => ∃ (j : Nat) (X G : Foot), j ≤ 8 ∧ i = .int .i64 j ∧ lst = .int .i64 (lastN j) ∧ VP v p (zeroDisk 98) (eW j) 0 98 (eS j).1 wr X ∧ LogIs g v p (eS j).2 wr G ∧ Apart X G ∧ (∀ k, X k → w.heap.size ≤ k) ∧ (∀ k, G k → w.heap.size ≤ k) ∧ Below w.heap.size w wr) (fun _ i _ => 8 - (intOf i).toNat)
  case atStart =>
    obtain ⟨X, G, a1, a2, a3, a4, a5⟩ := HVP.out
    exact ⟨0, X, G, Nat.zero_le _, rfl, rfl, a1, a2, a3, a4, a5, HB3.out⟩
  case round =>
    obtain ⟨j, X, G, hj, rfl, rfl, hX, hG, ha, hXb, hGb, hB⟩ := hrel
    have HX := Lib.hid hX
    have HG := Lib.hid hG
    have HA := Lib.hid ha
    have HXb := Lib.hid hXb
    have HGb := Lib.hid hGb
    have HB := Lib.hid hB
    clear hX hG ha hXb hGb hB HVP HB3
    by_cases hlt : j < 8
    · obtain ⟨e1, e2, e3, e4⟩ := eS_facts j hlt
      obtain ⟨o1, o2⟩ := eS_ok j (by omega)
      have KA := Lib.hid (fun (W : World) (hb : Below wr.heap.size wr W) => append_log (VP.stays.below HX.out hb) (LogIs.stays.below HG.out hb) HA.out o1 o2 (by have := eW_len j; omega) (by omega) (by omega) 3 p46)
      rw [e1, e2] at KA
      have hnn : ((100 + j : Nat) : Int) = lastN (j + 1) := by unfold lastN; rw [if_neg (by omega)]; omega
      rw [hnn] at KA
      clear e1 e2 e3 e4 o1 o2 hnn
      obtain ⟨ln, hln⟩ : ∃ ln, lastN (j + 1) = ln := ⟨_, rfl⟩
      rw [hln] at KA
      have HLN := Lib.hid hln
      clear hln
      go_wp2_with fail
      refine (two_any _).mono ?_
      rintro x w5 ⟨rfl, hb5⟩
      have KA5 := Lib.hid (KA.out w5 hb5)
      have HB5 := Lib.hid hb5
      clear hb5 KA
      go_wp2_with fail
      refine KA5.out.mono ?_
      rintro x w6 ⟨rfl, X', G', hX6, hG6, ha6, hU6, hF6⟩
      have hge : ∀ k, Both X' G' k → w.heap.size ≤ k := fun k hk => (hF6 k hk).elim (fun h => h.elim (HXb.out k) (HGb.out k)) (fun h => by have := HB.out.size; have := HB5.out.size; omega)
      have hB6 : Below w.heap.size w w6 := (HB.out.trans (HB5.out.mono HB.out.size)).trans (hU6.below (by have := HB.out.size; have := HB5.out.size; omega) (fun i hi hc => hc.elim (fun hc => by have := HXb.out i hc; omega) (fun hc => by have := HGb.out i hc; omega)))
      have HREL : Hid (VP v p (zeroDisk 98) (eW (j + 1)) 0 98 (eS (j + 1)).1 w6 X' ∧ LogIs g v p (eS (j + 1)).2 w6 G' ∧ Apart X' G') := Lib.hid ⟨hX6, hG6, ha6⟩
      have HGE := Lib.hid hge
      have HB6 := Lib.hid hB6
      clear hX6 hG6 ha6 hU6 hF6 hge hB6 KA5
      go_wp2
      go_roundw
      case rel => exact ⟨j + 1, X', G', hlt, by simp, by rw [HLN.out], HREL.out.1, HREL.out.2.1, HREL.out.2.2, fun k hk => HGE.out k (.inl hk), fun k hk => HGE.out k (.inr hk), HB6.out⟩
      case measure => simp [intOf]; omega
    · obtain rfl : j = 8 := by omega
      clear hlt hj
      rw [show lastN 8 = 107 from rfl]
      obtain ⟨o1, o2⟩ := eS_ok 8 (by omega)
      have hsl : (eS 8).2.segs.length = 2 := by rw [eS_8]; rfl
      have hsn : (eS 8).2.segs.map (·.n) = [0, 1] := by rw [eS_8]; rfl
      have hnx : (eS 8).2.next = 108 := by rw [eS_8]
      have hbs : (eS 8).2.base = 100 := by rw [eS_8]
      have hid : (eS 8).2.id = 9 := by rw [eS_8]
      have hgn : (eS 8).2.gen = 4 := by rw [eS_8]
      have hal : (allF (eS 8).2.segs)[107 - (eS 8).2.base]? = some y46 := by rw [eS_8]; rfl
      have hfs : ∀ s ∈ (eS 8).2.segs, s.fs.length ≤ 1000 := by
        intro s hs
        rw [eS_8] at hs
        simp at hs
        rcases hs with rfl | rfl <;> simp
      have KR : Hid (Calls Tryz.prog 55 #[.pointer (some ⟨g, 0, none⟩), .int .i64 107] wr fun x w' => x = .returned (.tuple #[frV 3 p46, .int .i64 0]) ∧ Below wr.heap.size wr w') := Lib.hid ((lread_any HG.out eS_chain 107 (by omega) (by omega) (by omega) hfs 107 rfl).mono (fun x w' ⟨y, hy, hx, hb⟩ => by
        rw [hal] at hy
        cases hy
        exact ⟨hx, hb⟩))
      go_wp2_with fail
      refine KR.out.mono ?_
      rintro x w5 ⟨rfl, hb5⟩
      have hBa : Below w5.heap.size w5 (w5.alloc (.cells #[.int .i64 3, .string p46] 43)) := (Below.refl _ _).alloc (Nat.le_refl _) _
      have hgX := alloc_at w5 (.cells #[.int .i64 3, .string p46] 43)
      have hbw : Below wr.heap.size wr (w5.alloc (.cells #[.int .i64 3, .string p46] 43)) := hb5.trans (hBa.mono hb5.size)
      have HBw := Lib.hid hbw
      have HGX := Lib.hid hgX
      clear hb5 hBa hgX KR
      go_wp2_with fail
      obtain ⟨gX, hgXe⟩ : ∃ gX, w5.heap.size = gX := ⟨_, rfl⟩
      obtain ⟨wB, hwB⟩ : ∃ wB, w5.alloc (.cells #[.int .i64 3, .string p46] 43) = wB := ⟨_, rfl⟩
      rw [hgXe, hwB] at HGX
      rw [hwB] at hbw HBw
      rw [hgXe, hwB]
      have hL := LogIs.stays.below HG.out hbw
      have hVP := VP.stays.below HX.out hbw
      obtain ⟨F, H, _, hO, _, _⟩ := hVP
      have KSg := Lib.hid (fun (W : World) (hS : EiS gX wB W) => (lsegs_any (LogIs.stays.below hL hS.2) (by omega)).mono (fun x w' ⟨v', hx, hrow, hb⟩ => by
        rw [hsl, hsn] at hrow
        obtain ⟨so, sc, rfl, hin⟩ := IntsAt.of_row (l := [0, 1]) rfl hrow
        exact (⟨so, sc, hx, hin, hb⟩ : ∃ (so : Option Addr) (sc : Nat), x = .returned (.slice so 2 sc) ∧ IntsAt w' so [0, 1] ∧ Below W.heap.size W w')))
      have KNx := Lib.hid (fun (W : World) (hS : EiS gX wB W) => lnext_any (LogIs.stays.below hL hS.2))
      have KBs := Lib.hid (fun (W : World) (hS : EiS gX wB W) => lbase_any (LogIs.stays.below hL hS.2))
      have KId := Lib.hid (fun (W : World) (hS : EiS gX wB W) => lid_any (LogIs.stays.below hL hS.2))
      have KGn := Lib.hid (fun (W : World) (hS : EiS gX wB W) => lgen_any (LogIs.stays.below hL hS.2))
      have KFr := Lib.hid (fun (W : World) (hS : EiS gX wB W) => pFree_any (PoolIs.stays.below hO hS.2) o1.some_ (by have := o1.fit; have := o1.big; omega))
      rw [hnx] at KNx
      rw [hbs] at KBs
      rw [hid] at KId
      rw [hgn] at KGn
      rw [eS_free] at KFr
      have hS0 := eiS_of HGX.out (Below.refl wB.heap.size wB).drew
      have HC := Lib.hid (fun (w1 W : World) (hS : EiS gX wB w1) (hb : Below w1.heap.size w1 W) => eiS_call HGX.out hS hb)
      have HCA := Lib.hid (fun (w1 : World) (hS : EiS gX wB w1) (o : Obj) => eiS_alloc HGX.out hS o)
      have hlit : ∀ W : World, (Instr.buildSlice 36 2 #[(0, .int .i64 0), (1, .int .i64 1)]).run Tryz.prog W = .ok (.slice (some ⟨W.heap.size, 0, none⟩) 2 2) (W.alloc (.cells #[.int .i64 0, .int .i64 1] 3)) := fun W => by kernel_rfl
      clear hal hfs hnx hbs hid hgn hsl hsn hL hO o1 o2 hgXe hwB hbw
      (go_region_held3 (fun W => (loadVar 43 ⟨gX, 0, none⟩).run Tryz.prog W = .ok (frV 3 p46) W ∧ Below wB.heap.size wB W)
        (first | assumption | exact hS0 | exact HC.out _ _ (by assumption) hb | exact HCA.out _ (by assumption) _)
        (first
        | (go_at_call 54; (with_reducible refine (two_any _).mono ?_); rintro x we ⟨rfl, hb⟩)
        | (go_at_call 42; (with_reducible refine (KSg.out _ (by assumption)).mono ?_); rintro x we ⟨so, sc, rfl, hin, hb⟩; try (have zl := later_of (alloc_at _ (.cells #[.int .i64 0, .int .i64 1] 3)) hb))
        | (go_at_call 47; (first | (with_reducible refine (ints01 hin (lit_at zl) _ _).mono ?_) | (with_reducible refine (ints01 (hin.below ((Below.refl _ _).alloc (Nat.le_refl _) _)) (lit_at (alloc_at _ _)) _ _).mono ?_)); rintro x we ⟨rfl, hb⟩)
        | (go_at_call 45; (with_reducible refine (KNx.out _ (by assumption)).mono ?_); rintro x we ⟨rfl, rfl⟩)
        | (go_at_call 46; (with_reducible refine (KBs.out _ (by assumption)).mono ?_); rintro x we ⟨rfl, rfl⟩)
        | (go_at_call 56; (with_reducible refine (KId.out _ (by assumption)).mono ?_); rintro x we ⟨rfl, rfl⟩)
        | (go_at_call 57; (with_reducible refine (KGn.out _ (by assumption)).mono ?_); rintro x we ⟨rfl, rfl⟩)
        | (go_at_call 25; (with_reducible refine (KFr.out _ (by assumption)).mono ?_); rintro x we ⟨rfl, hb⟩)))
      all_goals
        have hBf := (‹_ ∧ Below _ _ _›).2
        go_wp2_with fail
        go_ret
        exact ⟨rfl, HB.out.trans ((HBw.out.trans (hBf.mono HBw.out.size)).mono HB.out.size)⟩
end Go.Proofs.YtoobiffhjjfpgaaGreat.Print
