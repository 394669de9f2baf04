/- SuperLoads, the walk: whatever the input, the law answers true. -/
import Derived.Test.YtemdhcocbjcklaaFresh
import Derived.Deep.DeepCutAuto
namespace Go.Proofs.Ytemdhcocbjcklaa.Print
open Go.RowKit
attribute [local go_sem] eq3 eq5

/-- What stands behind the law's own Pick. -/
def LoadsCut (w : World) (x5 v d lb : Nat) (wv : Value) (lies : List (List UInt8)) (waits : List (Nat × List UInt8)) (fu : Int) (S P : Array Value) (k : Int) (p e : Value) (wx : World) : Prop :=
  ∃ x, p = .pointer (some ⟨x, 0, none⟩) ∧ e = .int .i64 k ∧ wx.heap[x]? = some (.cells P 80) ∧ wx.heap[x5]? = some (.cells P 80) ∧ wx.heap[w.heap.size + 1 + 1]? = some (.cells S 80) ∧
    VAt wx v d lb wv lies waits 1 2 fu false ∧ Below w.heap.size w wx
theorem cut_after {w w6 w7 : World} {x5 v d lb : Nat} {wv : Value} {lies : List (List UInt8)} {waits : List (Nat × List UInt8)} {fu : Int} {S P : Array Value} {k : Int} (qs : w6.heap[w.heap.size + 1 + 1]? = some (.cells S 80)) (qx : w6.heap[x5]? = some (.cells P 80))
    (V : VAt w6 v d lb wv lies waits 1 2 fu false) (hB : Below w.heap.size w w6) (hb : Below w6.drew.heap.size w6.drew w7) : LoadsCut w x5 v d lb wv lies waits fu S P k (.pointer (some ⟨w7.heap.size, 0, none⟩)) (.int .i64 k) (w7.alloc (.cells P 80)) := by
  have hb' : Below w6.heap.size w6 w7 := ⟨hb.os, hb.tape, hb.output, hb.size, hb.block⟩
  exact ⟨_, rfl, rfl, alloc_at _ _, alloc_old (later_of qx hb') _, alloc_old (later_of qs hb') _, V.below (hb'.alloc hb'.size _), (below_chain hB hb').alloc (Nat.le_trans hB.size hb'.size) _⟩
theorem cut_ahead {w w6 w7 : World} {x5 v d lb : Nat} {wv : Value} {lies : List (List UInt8)} {waits : List (Nat × List UInt8)} {fu : Int} {S : Array Value} {k : Int} {p0 p1 p2 p3 p4 z0 z1 z2 z3 z4 : Value} (qs : w6.heap[w.heap.size + 1 + 1]? = some (.cells S 80)) (qx : w6.heap[x5]? = some (.cells #[p0, p1, p2, p3, p4] 80))
    (V : VAt w6 v d lb wv lies waits 1 2 fu false) (hB : Below w.heap.size w w6) (hb : Below (w6.alloc (.cells #[z0, z1, z2, z3, z4] 80)).drew.heap.size (w6.alloc (.cells #[z0, z1, z2, z3, z4] 80)).drew w7) :
    LoadsCut w x5 v d lb wv lies waits fu S #[p0, p1, p2, p3, p4] k (.pointer (some ⟨w6.heap.size, 0, none⟩)) (.int .i64 k) (((((w7.setCell ⟨w6.heap.size, 0, none⟩ p0).setCell ⟨w6.heap.size, 1, none⟩ p1).setCell ⟨w6.heap.size, 2, none⟩ p2).setCell ⟨w6.heap.size, 3, none⟩ p3).setCell ⟨w6.heap.size, 4, none⟩ p4) := by
  have hb' : Below w6.heap.size w6 w7 := (((Below.refl _ _).alloc (Nat.le_refl _) (.cells #[z0, z1, z2, z3, z4] 80))).trans ⟨hb.os, hb.tape, hb.output, hb.size, fun k hk => hb.block k (by simp; omega)⟩
  have z7 := later_of (w1 := (w6.alloc (.cells #[z0, z1, z2, z3, z4] 80)).drew) (alloc_at w6 (.cells #[z0, z1, z2, z3, z4] 80)) hb
  have hU : Below w6.heap.size w6 (((((w7.setCell ⟨w6.heap.size, 0, none⟩ p0).setCell ⟨w6.heap.size, 1, none⟩ p1).setCell ⟨w6.heap.size, 2, none⟩ p2).setCell ⟨w6.heap.size, 3, none⟩ p3).setCell ⟨w6.heap.size, 4, none⟩ p4) :=
    ((((hb'.setCell (p := ⟨w6.heap.size, 0, none⟩) (Nat.le_refl _) _).setCell (p := ⟨w6.heap.size, 1, none⟩) (Nat.le_refl _) _).setCell (p := ⟨w6.heap.size, 2, none⟩) (Nat.le_refl _) _).setCell (p := ⟨w6.heap.size, 3, none⟩) (Nat.le_refl _) _).setCell (p := ⟨w6.heap.size, 4, none⟩) (Nat.le_refl _) _
  refine ⟨_, rfl, rfl, ?_, later_of qx hU, later_of qs hU, V.below hU, below_chain hB hU⟩
  rw [cells_set _ _ _ _ _ _ (cells_set _ _ _ _ _ _ (cells_set _ _ _ _ _ _ (cells_set _ _ _ _ _ _ (cells_set _ _ _ _ _ _ z7 _) _) _) _) _]
  rfl
set_option maxRecDepth 100000 in
set_option maxHeartbeats 1600000 in
theorem sloads_ok (a b : List UInt8) (ha : a.length = 64) (hb : b.length = 64) (s0 s1 s2 s3 s4 : Nat) (h0 : s0 < 4294967296) (h1 : s1 < 4294967296) (h2 : s2 < 4294967296) (h3 : s3 < 4294967296) (h4 : s4 < 4294967296) (p0 p1 p2 p3 p4 : Nat) (k : Int) (w : World)
    (hP : Hid (∀ w, Calls Try.prog 44 #[.string (bs a), .string (bs b)] w fun x w' => x = .returned (.tuple #[su5 p0 p1 p2 p3 p4, .int .i64 k]) ∧ Below w.heap.size w w')) :
    Calls Try.prog 12 #[.agg (Lib.byteCells a).toArray, .agg (Lib.byteCells b).toArray, su5 s0 s1 s2 s3 s4] w fun x w' => x = .returned (.bool true) ∧ Below w.heap.size w w' := by
  have hcA := fun (w : World) (g : Nat) (hg : w.heap[g]? = some (.cells (Lib.byteCells a).toArray 97 (0, 0))) => arr_string hg ha
  have hcB := fun (w : World) (g : Nat) (hg : w.heap[g]? = some (.cells (Lib.byteCells b).toArray 97 (0, 0))) => arr_string hg hb
  generalize (Lib.byteCells a).toArray = A at hcA ⊢
  generalize (Lib.byteCells b).toArray = B at hcB ⊢
  have HCA := Lib.hid hcA
  have HCB := Lib.hid hcB
  clear hcA hcB
  go_enter Try.func12, Try.ntmps12
  go_wp2_with fail
  have qa := alloc_old (alloc_old (alloc_at w (.cells A 97)) (.cells B 97)) (.cells #[.int .u32 s0, .int .u32 s1, .int .u32 s2, .int .u32 s3, .int .u32 s4] 80)
  have qb := alloc_old (alloc_at' (w.alloc (.cells A 97)) (.cells B 97) (w.heap.size + 1) (by simp)) (.cells #[.int .u32 s0, .int .u32 s1, .int .u32 s2, .int .u32 s3, .int .u32 s4] 80)
  have qs := alloc_at' ((w.alloc (.cells A 97)).alloc (.cells B 97)) (.cells #[.int .u32 s0, .int .u32 s1, .int .u32 s2, .int .u32 s3, .int .u32 s4] 80) (w.heap.size + 1 + 1) (by simp)
  have hB0 : Below w.heap.size w (((w.alloc (.cells A 97)).alloc (.cells B 97)).alloc (.cells #[.int .u32 s0, .int .u32 s1, .int .u32 s2, .int .u32 s3, .int .u32 s4] 80)) := (((Below.refl _ _).alloc (Nat.le_refl _) _).alloc (by simp) _).alloc (by simp; omega) _
  have hz0 : w.heap.size + 3 ≤ (((w.alloc (.cells A 97)).alloc (.cells B 97)).alloc (.cells #[.int .u32 s0, .int .u32 s1, .int .u32 s2, .int .u32 s3, .int .u32 s4] 80)).heap.size := by simp
  generalize ((w.alloc (.cells A 97)).alloc (.cells B 97)).alloc (.cells #[.int .u32 s0, .int .u32 s1, .int .u32 s2, .int .u32 s3, .int .u32 s4] 80) = W0 at qa qb qs hB0 hz0 ⊢
  refine (dnew_z 4 (by omega) (by omega) _ rfl W0).mono ?_
  rintro x w1 ⟨rfl, D1, hb1, hz1⟩
  have qa1 := later_of qa hb1
  have qb1 := later_of qb hb1
  have qs1 := later_of qs hb1
  have hB1 := below_chain hB0 hb1
  go_wp2_with fail
  refine (vnew_z D1 1 2 (by omega) (by rw [zeroDisk_length]; omega) _ _ rfl rfl).mono ?_
  rintro x w2 ⟨rfl, V2, hb2, hz2⟩
  have qa2 := later_of qa1 hb2
  have qb2 := later_of qb1 hb2
  have qs2 := later_of qs1 hb2
  have hB2 := below_chain hB1 hb2
  have hi2 : High (w.heap.size + 3) w1.heap.size (W0.heap.size + 1) W0.heap.size (.slice none 0 0) := ⟨by omega, by omega, hz0, fun i hi => by simp [Value.ownBlock] at hi⟩
  generalize w1.heap.size = v at V2 hi2 ⊢
  generalize W0.heap.size + 1 = d at V2 hi2 ⊢
  generalize W0.heap.size = lb at V2 hi2 ⊢
  clear qa qb qs qa1 qb1 qs1 hb1 hb2 hB0 hB1 D1
  have hz2' : w.heap.size + 3 ≤ w2.heap.size := by omega
  clear hz0 hz1 hz2
  have cA2 := HCA.out w2 _ qa2
  go_wp2_with fail
  refine (vwrite_z V2 (by omega) 0 a (by omega) ha (by simp) _ rfl).mono ?_
  rintro x w3 ⟨rfl, wv3, V3, U3, hw3⟩
  have qa3 := hi2.at_ U3 qa2 (by omega)
  have qb3 := hi2.at_ U3 qb2 (by omega)
  have qs3 := hi2.at_ U3 qs2 (by omega)
  have hB3 := hB2.trans (hi2.below U3 (by omega) hB2.size)
  have hi3 := hi2.next hz2' hw3
  have hz3 : w.heap.size + 3 ≤ w3.heap.size := Nat.le_trans hz2' U3.size
  clear qa2 qb2 qs2 hB2 V2 U3 hw3 hi2 hz2' cA2
  have cB3 := HCB.out w3 _ qb3
  go_wp2_with fail
  refine (vwrite_z V3 (by unfold burn; decide) 1 b (by omega) hb (by simp) _ rfl).mono ?_
  rintro x w4 ⟨rfl, wv4, V4, U4, hw4⟩
  have qa4 := hi3.at_ U4 qa3 (by omega)
  have qb4 := hi3.at_ U4 qb3 (by omega)
  have qs4 := hi3.at_ U4 qs3 (by omega)
  have hB4 := hB3.trans (hi3.below U4 (by omega) hB3.size)
  have hi4 := hi3.next hz3 hw4
  have hz4 : w.heap.size + 3 ≤ w4.heap.size := Nat.le_trans hz3 U4.size
  clear qa3 qb3 qs3 hB3 V3 U4 hw4 hi3 hz3 cB3
  go_wp2_with fail
  refine (sload_ok V4 (by omega) (by simp) zeroSec zeroSec (zeroDisk_at 4 _ (by omega)) (zeroDisk_at 4 _ (by omega)) #[.int .u32 p0, .int .u32 p1, .int .u32 p2, .int .u32 p3, .int .u32 p4] rfl (by simp [Value.oneCell']) k (fun w => by
    have := hP.out w
    simpa [lastOf] using this)).mono ?_
  rintro x w5 ⟨rfl, hb5⟩
  have qa5 := alloc_old (later_of qa4 hb5) (.cells #[.int .u32 p0, .int .u32 p1, .int .u32 p2, .int .u32 p3, .int .u32 p4] 80)
  have qb5 := alloc_old (later_of qb4 hb5) (.cells #[.int .u32 p0, .int .u32 p1, .int .u32 p2, .int .u32 p3, .int .u32 p4] 80)
  have qs5 := alloc_old (later_of qs4 hb5) (.cells #[.int .u32 p0, .int .u32 p1, .int .u32 p2, .int .u32 p3, .int .u32 p4] 80)
  have qx5 := alloc_at w5 (.cells #[.int .u32 p0, .int .u32 p1, .int .u32 p2, .int .u32 p3, .int .u32 p4] 80)
  have hb6 : Below w4.heap.size w4 (w5.alloc (.cells #[.int .u32 p0, .int .u32 p1, .int .u32 p2, .int .u32 p3, .int .u32 p4] 80)) := hb5.alloc hb5.size _
  have V6 := V4.below hb6
  have hB6 := below_chain hB4 hb6
  have hz6 : w.heap.size + 3 ≤ w5.heap.size := Nat.le_trans hz4 hb5.size
  clear V4 qa4 qb4 qs4 hB4 hz4 hb5 hb6
  go_wp2
  generalize w5.alloc (.cells #[.int .u32 p0, .int .u32 p1, .int .u32 p2, .int .u32 p3, .int .u32 p4] 80) = w6 at qa5 qb5 qs5 qx5 V6 hB6 ⊢
  generalize w5.heap.size = x5 at qx5 hz6 ⊢
  have hburn : burn (burn (-1)) = -1 := by decide
  rw [hburn] at V6
  generalize [] ++ [(1 + 0, a)] ++ [(1 + 1, b)] = WT at V6
  have cA6 := HCA.out w6.drew _ qa5
  have cB6 := HCB.out w6.drew _ qb5
  have cA7 := HCA.out (w6.alloc (.cells #[.int .u32 0, .int .u32 0, .int .u32 0, .int .u32 0, .int .u32 0] 80)).drew _ (alloc_old qa5 _)
  have cB7 := HCB.out (w6.alloc (.cells #[.int .u32 0, .int .u32 0, .int .u32 0, .int .u32 0, .int .u32 0] 80)).drew _ (alloc_old qb5 _)
  go_cut [15, 16] (fun p e wx => LoadsCut w x5 v d lb wv4 (zeroDisk 4) WT (-1) #[.int .u32 s0, .int .u32 s1, .int .u32 s2, .int .u32 s3, .int .u32 s4] #[.int .u32 p0, .int .u32 p1, .int .u32 p2, .int .u32 p3, .int .u32 p4] k p e wx)
  case first =>
    go_region_with (go_at_call 44; (with_reducible refine (hP.out _).mono ?_); rintro x w7 ⟨rfl, hb7⟩; try (have z7 := later_of (w1 := (w6.alloc (.cells #[.int .u32 0, .int .u32 0, .int .u32 0, .int .u32 0, .int .u32 0] 80)).drew) (alloc_at w6 _) hb7; obtain ⟨d0, d1, d2, d3, d4, g0, g1, g2, g3, g4⟩ := five_of z7))
    all_goals
      go_wp2_with fail
      go_meet
      first
        | (have hh : Below w6.drew.heap.size w6.drew w7 := by with_reducible exact hb7
           exact cut_after qs5 qx5 V6 hB6 hh)
        | (have hh : Below (w6.alloc (.cells #[.int .u32 0, .int .u32 0, .int .u32 0, .int .u32 0, .int .u32 0] 80)).drew.heap.size (w6.alloc (.cells #[.int .u32 0, .int .u32 0, .int .u32 0, .int .u32 0, .int .u32 0] 80)).drew w7 := by with_reducible exact hb7
           exact cut_ahead qs5 qx5 V6 hB6 hh)
  case rest =>
    obtain ⟨x, rfl, rfl, gx, gx5, gs, V8, hB8⟩ := hcut
    have hs8 : w.heap.size + 3 ≤ wc.heap.size := by have := V8.lt v (.inl rfl); have := hi4.1; omega
    obtain ⟨c0, c1, c2, c3, c4, f0, f1, f2, f3, f4⟩ := five_of gx
    obtain ⟨d0, d1, d2, d3, d4, g0, g1, g2, g3, g4⟩ := five_of gx5
    clear gx gx5 qx5 qa5 qb5 qs5 V6 hB6 hz6 cA6 cB6 cA7 cB7 HCA HCB hburn
    go_wp2_with fail
    refine (fuse_z V8 0 (by omega)).mono ?_
    rintro y w9 ⟨rfl, wv9, V9, U9, hw9⟩
    have gs9 := hi4.at_ U9 gs (by omega)
    have hB9 := hB8.trans (hi4.below U9 (by omega) hB8.size)
    have hi9 := hi4.next hs8 hw9
    have hs9 : w.heap.size + 3 ≤ w9.heap.size := Nat.le_trans hs8 U9.size
    clear c0 c1 c2 c3 c4 f0 f1 f2 f3 f4 d0 d1 d2 d3 d4 g0 g1 g2 g3 g4 gs V8 hB8 U9 hw9 hi4 hs8
    obtain ⟨c0, c1, c2, c3, c4, f0, f1, f2, f3, f4⟩ := five_of gs9
    have hm0 : max (0 : Int) (-1) = 0 := by decide
    rw [hm0] at V9
    have hmod : ((s0 : Int) % 2) = ((s0 % 2 : Nat) : Int) := by omega
    have hkm : s0 % 2 < 2 := Nat.mod_lt _ (by omega)
    have hes : (bs (superL s0 s1 s2 s3 s4)).size = 64 := by rw [bs_size, superL_length]
    have hS9 := sstore_err (.pointer (some ⟨v, 0, none⟩)) #[.int .u32 s0, .int .u32 s1, .int .u32 s2, .int .u32 s3, .int .u32 s4] rfl ((s0 % 2 : Nat) : Int) (bs (superL s0 s1 s2 s3 s4)) 21 (by decide) w9 (fun w' => VPost w9 v d lb wv9 (zeroDisk 4) WT 1 2 0 true w')
      (fun w => by rw [← hmod]; exact place_any s0 s1 s2 s3 s4 h0 w) (fun w => superEnc_any s0 s1 s2 s3 s4 h0 h1 h2 h3 h4 w)
      (fun w1 hb => (vwrite_dead (V9.below hb) (.inl rfl) (s0 % 2) _ hkm hes).mono fun x w' ⟨hx, hv⟩ => ⟨hx, VPost.trans (Upd.of_below hb) (fun i hi => .inl hi) hv⟩)
    have HS9 := Lib.hid hS9
    clear hS9
    go_wp2_with fail
    refine HS9.out.mono ?_
    rintro y w10 ⟨rfl, wv10, V10, U10, hw10⟩
    have gs10 := hi9.at_ U10 gs9 (by omega)
    have hB10 := hB9.trans (hi9.below U10 (by omega) hB9.size)
    clear c0 c1 c2 c3 c4 f0 f1 f2 f3 f4 gs9 V9 hB9 U10 hw10 HS9 hs9
    have HL10 := Lib.hid (sload_err (.pointer (some ⟨v, 0, none⟩)) 21 (by decide) w10 (fun w1 hb => by
      obtain ⟨st, hv⟩ := (V10.below hb).view_
      exact vread_dead hv 0 (by omega) (by omega)))
    go_wp2_with fail
    refine HL10.out.mono ?_
    rintro y w11 ⟨rfl, hb11⟩
    have gs11 := alloc_old (later_of gs10 hb11) (.cells supZ 80)
    have gz11 := alloc_at w11 (.cells supZ 80)
    have hB11 := below_chain hB10 (hb11.alloc hb11.size (.cells supZ 80))
    clear gs10 hB10 hb11 HL10
    have HL11 := Lib.hid (sload_err (.pointer none) 7 (by decide) (w11.alloc (.cells supZ 80)) (fun w1 _ => (vread_nil 0 w1).mono fun x w' ⟨hx, hw⟩ => ⟨hx, hw⟩))
    go_wp2_with fail
    refine HL11.out.mono ?_
    rintro y w12 ⟨rfl, hb12⟩
    have gs12 := alloc_old (later_of gs11 hb12) (.cells supZ 80)
    have gz12 := alloc_old (later_of gz11 hb12) (.cells supZ 80)
    have gy12 := alloc_at w12 (.cells supZ 80)
    have hB12 := below_chain hB11 (hb12.alloc hb12.size (.cells supZ 80))
    clear gs11 gz11 hB11 hb12 HL11
    obtain ⟨c0, c1, c2, c3, c4, f0, f1, f2, f3, f4⟩ := five_of gs12
    obtain ⟨d0, d1, d2, d3, d4, g0, g1, g2, g3, g4⟩ := five_of gz12
    obtain ⟨e0, e1, e2, e3, e4, i0, i1, i2, i3, i4⟩ := five_of gy12
    have HN := Lib.hid (sstore_err (.pointer none) #[.int .u32 s0, .int .u32 s1, .int .u32 s2, .int .u32 s3, .int .u32 s4] rfl ((s0 % 2 : Nat) : Int) (bs (superL s0 s1 s2 s3 s4)) 7 (by decide) (w12.alloc (.cells supZ 80)) (fun w' => Below (w12.alloc (.cells supZ 80)).heap.size (w12.alloc (.cells supZ 80)) w')
      (fun w => by rw [← hmod]; exact place_any s0 s1 s2 s3 s4 h0 w) (fun w => superEnc_any s0 s1 s2 s3 s4 h0 h1 h2 h3 h4 w)
      (fun w1 hb => (vwrite_nil _ _ w1).mono fun x w' ⟨hx, hv⟩ => ⟨hx, below_chain hb hv⟩))
    clear gs12 gz12 gy12
    go_wp2_with fail
    refine HN.out.mono ?_
    rintro y w13 ⟨rfl, hb13⟩
    have hB13 := below_chain hB12 hb13
    go_wp2_with fail
    refine (three_any _).mono ?_
    rintro y w14 ⟨rfl, hb14⟩
    go_wp2
    go_ret
    exact ⟨rfl, below_chain hB13 hb14⟩
/-- SuperLoads answers true. -/
theorem sloads_any (a b : List UInt8) (ha : a.length = 64) (hb : b.length = 64) (s0 s1 s2 s3 s4 : Nat) (h0 : s0 < 4294967296) (h1 : s1 < 4294967296) (h2 : s2 < 4294967296) (h3 : s3 < 4294967296) (h4 : s4 < 4294967296) (w : World) :
    Calls Try.prog 12 #[.agg (Lib.byteCells a).toArray, .agg (Lib.byteCells b).toArray, su5 s0 s1 s2 s3 s4] w fun x w' => x = .returned (.bool true) ∧ Below w.heap.size w w' := by
  obtain ⟨z0, z1, z2, z3, z4, ok, hP, _⟩ := pick_both (bs a) (bs b)
  exact sloads_ok a b ha hb s0 s1 s2 s3 s4 h0 h1 h2 h3 h4 z0 z1 z2 z3 z4 _ w (fun w => hP w)
end Go.Proofs.Ytemdhcocbjcklaa.Print
