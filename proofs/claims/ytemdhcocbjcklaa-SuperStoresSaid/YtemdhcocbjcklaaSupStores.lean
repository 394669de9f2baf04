/- SuperStores, the walk: whatever the fuse and whatever stays, one of the two supers is found. -/
import Derived.Test.YtemdhcocbjcklaaPower
namespace Go.Proofs.Ytemdhcocbjcklaa.Print
open Go.RowKit
attribute [local go_sem] eq3 eq5

def fuseCode (q : Int) : Int := if 0 ≤ q ∧ q < 2 then 21 else 0
/-- The second store, whatever the fuse. -/
theorem store_any {w : World} {v d lb : Nat} {wv : Value} {lies : List (List UInt8)} {q : Int} (V : VAt w v d lb wv lies [] 2 3 (max q (-1)) false) (s t : S5) (ht : Fits t) (hst : t.1 = s.1 + 1) (h1 : lies[2 + s.1 % 2]? = some (s5L s)) (h2 : lies[2 + t.1 % 2]? = some zeroSec) :
    Calls Try.prog 51 #[.pointer (some ⟨v, 0, none⟩), .agg (s5A t)] w fun e w' => e = .returned (.int .i64 (fuseCode q)) ∧ ∃ lies' waits' fu' dead', Left s t 2 (fuseCode q) lies' waits' ∧ waits'.length ≤ 1 ∧ VPost w v d lb wv lies' waits' 2 3 fu' dead' w' := by
  by_cases hq : 0 ≤ q ∧ q < 2
  · have hc : fuseCode q = 21 := if_pos hq
    rw [hc]
    by_cases h0 : q = 0
    · subst h0
      have V0 : VAt w v d lb wv lies [] 2 3 0 false := V
      exact (store_dead V0 t ht (by omega)).mono fun e w' ⟨he, hv⟩ => ⟨he, _, _, _, _, ⟨h1, .inr (.inl ⟨rfl, rfl, h2⟩)⟩, by simp, hv⟩
    · obtain rfl : q = 1 := by omega
      have V0 : VAt w v d lb wv lies [] 2 3 1 false := V
      exact (store_half V0 t ht (by omega)).mono fun e w' ⟨he, hv⟩ => ⟨he, _, _, _, _, ⟨h1, .inr (.inr ⟨rfl, rfl, h2⟩)⟩, by simp, hv⟩
  · have hc : fuseCode q = 0 := if_neg hq
    rw [hc]
    have hlt : 2 + t.1 % 2 < lies.length := (List.getElem?_eq_some_iff.1 h2).1
    refine (store_done V t ht (by omega) (by omega) (by unfold burn; split <;> omega)).mono fun e w' ⟨he, hv⟩ => ⟨he, _, _, _, _, ⟨?_, .inl ⟨rfl, rfl, ?_⟩⟩, by simp, hv⟩
    · rw [List.getElem?_set_ne (by omega)]; exact h1
    · rw [List.getElem?_set_self hlt]
set_option maxRecDepth 100000 in
set_option maxHeartbeats 1600000 in
theorem sstores_ok (s0 s1 s2 s3 s4 t0 t1 t2 t3 t4 : Nat) (hs : Fits (s0, s1, s2, s3, s4)) (ht : Fits (t0, t1, t2, t3, t4)) (hne : s0 ≠ 4294967295) (q : Int) (hq : q ≤ 9223372036854775807) (ao : Option Addr) (cap : Nat) (ks : List K2) (w : World) (hK : KeepsAt w ao ks) (hl : ks.length ≤ 40) :
    Calls Try.prog 13 #[su5 s0 s1 s2 s3 s4, su5 t0 t1 t2 t3 t4, .agg #[.int .i64 q, .slice ao ks.length cap]] w fun x w' => x = .returned (.bool true) ∧ Below w.heap.size w w' := by
  obtain ⟨n0, hn0⟩ : ∃ n0, n0 = s0 + 1 := ⟨_, rfl⟩
  have hwr : IntKind.u32.wrap ((s0 : Int) + 1) = (n0 : Int) := by
    have h1 : s0 < 4294967296 := hs.1
    rw [IntKind.wrap_u32]; omega
  have hsn : ((s0 : Int) == 4294967295) = false := by simp; omega
  have hln : decide (40 < (ks.length : Int)) = false := by simp; omega
  have hfit : Fits (n0, t1, t2, t3, t4) := ⟨by have := hs.1; simp only at this ⊢; omega, ht.2⟩
  have HS := Lib.hid hs
  have HT := Lib.hid hfit
  have HK := Lib.hid hK
  have HN := Lib.hid hn0
  clear hs ht hfit hK hn0 hne
  go_enter Try.func13, Try.ntmps13
  go_wp2_with fail
  have qs := alloc_old (alloc_old (alloc_at w (.cells #[.int .u32 s0, .int .u32 s1, .int .u32 s2, .int .u32 s3, .int .u32 s4] 80)) (.cells #[.int .u32 n0, .int .u32 t1, .int .u32 t2, .int .u32 t3, .int .u32 t4] 80)) (.cells #[.int .i64 q, .slice ao ks.length cap] 111)
  have qt := alloc_old (alloc_at' (w.alloc (.cells #[.int .u32 s0, .int .u32 s1, .int .u32 s2, .int .u32 s3, .int .u32 s4] 80)) (.cells #[.int .u32 n0, .int .u32 t1, .int .u32 t2, .int .u32 t3, .int .u32 t4] 80) (w.heap.size + 1) (by simp)) (.cells #[.int .i64 q, .slice ao ks.length cap] 111)
  have qq := alloc_at' ((w.alloc (.cells #[.int .u32 s0, .int .u32 s1, .int .u32 s2, .int .u32 s3, .int .u32 s4] 80)).alloc (.cells #[.int .u32 n0, .int .u32 t1, .int .u32 t2, .int .u32 t3, .int .u32 t4] 80)) (.cells #[.int .i64 q, .slice ao ks.length cap] 111) (w.heap.size + 1 + 1) (by simp)
  have hB0 : Below w.heap.size w (((w.alloc (.cells #[.int .u32 s0, .int .u32 s1, .int .u32 s2, .int .u32 s3, .int .u32 s4] 80)).alloc (.cells #[.int .u32 n0, .int .u32 t1, .int .u32 t2, .int .u32 t3, .int .u32 t4] 80)).alloc (.cells #[.int .i64 q, .slice ao ks.length cap] 111)) := (((Below.refl _ _).alloc (Nat.le_refl _) _).alloc (by simp) _).alloc (by simp; omega) _
  have hz0 : w.heap.size + 3 ≤ (((w.alloc (.cells #[.int .u32 s0, .int .u32 s1, .int .u32 s2, .int .u32 s3, .int .u32 s4] 80)).alloc (.cells #[.int .u32 n0, .int .u32 t1, .int .u32 t2, .int .u32 t3, .int .u32 t4] 80)).alloc (.cells #[.int .i64 q, .slice ao ks.length cap] 111)).heap.size := by simp
  generalize ((w.alloc (.cells #[.int .u32 s0, .int .u32 s1, .int .u32 s2, .int .u32 s3, .int .u32 s4] 80)).alloc (.cells #[.int .u32 n0, .int .u32 t1, .int .u32 t2, .int .u32 t3, .int .u32 t4] 80)).alloc (.cells #[.int .i64 q, .slice ao ks.length cap] 111) = W0 at qs qt qq hB0 hz0 ⊢
  refine (dnew_z 6 (by omega) (by omega) _ rfl W0).mono ?_
  rintro x w1 ⟨rfl, D1, hb1, hz1⟩
  have qs1 := later_of qs hb1
  have qt1 := later_of qt hb1
  have qq1 := later_of qq hb1
  have hB1 := below_chain hB0 hb1
  go_wp2_with fail
  refine (vnew_z D1 2 3 (by omega) (by rw [zeroDisk_length]; omega) _ _ rfl rfl).mono ?_
  rintro x w2 ⟨rfl, V2, hb2, hz2⟩
  have qs2 := later_of qs1 hb2
  have qt2 := later_of qt1 hb2
  have qq2 := later_of qq1 hb2
  have hB2 := below_chain hB1 hb2
  have hi2 : High (w.heap.size + 3) w1.heap.size (W0.heap.size + 1) W0.heap.size (.slice none 0 0) := ⟨by omega, by omega, hz0, fun i hi => by simp [Value.ownBlock] at hi⟩
  generalize w1.heap.size = v at V2 hi2 ⊢
  generalize W0.heap.size + 1 = d at V2 hi2 ⊢
  generalize W0.heap.size = lb at V2 hi2 ⊢
  have hz2' : w.heap.size + 3 ≤ w2.heap.size := by omega
  clear qs qt qq qs1 qt1 qq1 hb1 hb2 hB0 hB1 D1 hz0 hz1 hz2
  obtain ⟨c0, c1, c2, c3, c4, _, _, _, _, _⟩ := five_of qs2
  have H1 := Lib.hid (store_done V2 (s0, s1, s2, s3, s4) HS.out (by omega) (by omega) (by decide))
  go_wp2_with fail
  refine H1.out.mono ?_
  rintro x w3 ⟨rfl, wv3, V3, U3, hw3⟩
  have qs3 := hi2.at_ U3 qs2 (by omega)
  have qt3 := hi2.at_ U3 qt2 (by omega)
  have qq3 := hi2.at_ U3 qq2 (by omega)
  have hB3 := hB2.trans (hi2.below U3 (by omega) hB2.size)
  have hi3 := hi2.next hz2' hw3
  have hz3 : w.heap.size + 3 ≤ w3.heap.size := Nat.le_trans hz2' U3.size
  clear qs2 qt2 qq2 hB2 V2 U3 hw3 hi2 hz2' c0 c1 c2 c3 c4 H1
  have hburn : burn (burn (-1)) = -1 := by decide
  rw [hburn] at V3
  have hS : ((zeroDisk 6).set (2 + s0 % 2) (s5L (s0, s1, s2, s3, s4)))[2 + (s0, s1, s2, s3, s4).1 % 2]? = some (s5L (s0, s1, s2, s3, s4)) := List.getElem?_set_self (by rw [zeroDisk_length]; omega)
  have hZ : ((zeroDisk 6).set (2 + s0 % 2) (s5L (s0, s1, s2, s3, s4)))[2 + (n0, t1, t2, t3, t4).1 % 2]? = some zeroSec := by
    have := HN.out
    rw [List.getElem?_set_ne (by simp only; omega)]
    exact zeroDisk_at 6 _ (by simp only; omega)
  generalize (zeroDisk 6).set (2 + s0 % 2) (s5L (s0, s1, s2, s3, s4)) = L1 at V3 hS hZ
  have HLS := Lib.hid hS
  have HLZ := Lib.hid hZ
  clear hS hZ hburn
  obtain ⟨c0, c1, _, _⟩ := two_of qq3
  have H3 := Lib.hid (fuse_z V3 q hq)
  go_wp2_with fail
  refine H3.out.mono ?_
  rintro x w4 ⟨rfl, wv4, V4, U4, hw4⟩
  have qs4 := hi3.at_ U4 qs3 (by omega)
  have qt4 := hi3.at_ U4 qt3 (by omega)
  have qq4 := hi3.at_ U4 qq3 (by omega)
  have hB4 := hB3.trans (hi3.below U4 (by omega) hB3.size)
  have hi4 := hi3.next hz3 hw4
  have hz4 : w.heap.size + 3 ≤ w4.heap.size := Nat.le_trans hz3 U4.size
  clear qs3 qt3 qq3 hB3 V3 U4 hw4 hi3 hz3 c0 c1 H3
  obtain ⟨c0, c1, c2, c3, c4, _, _, _, _, _⟩ := five_of qt4
  have H4 := Lib.hid (store_any V4 (s0, s1, s2, s3, s4) (n0, t1, t2, t3, t4) HT.out HN.out HLS.out HLZ.out)
  go_wp2_with fail
  refine H4.out.mono ?_
  rintro x w5 ⟨rfl, L5, W5, fu5, dead5, hLeft, hW5, wv5, V5, U5, hw5⟩
  have qs5 := hi4.at_ U5 qs4 (by omega)
  have qt5 := hi4.at_ U5 qt4 (by omega)
  have qq5 := hi4.at_ U5 qq4 (by omega)
  have hB5 := hB4.trans (hi4.below U5 (by omega) hB4.size)
  have hi5 := hi4.next hz4 hw5
  have hz5 : w.heap.size + 3 ≤ w5.heap.size := Nat.le_trans hz4 U5.size
  clear qs4 qt4 qq4 hB4 V4 U5 hw5 hi4 hz4 c0 c1 c2 c3 c4 H4
  obtain ⟨c0, c1, _, _⟩ := two_of qq5
  have hK5 : KeepsAt w5 ao ks := HK.out.keep (S := fun _ => False) (Upd.of_below hB5) (fun _ _ _ h => h)
  have hKn : ∀ a, ao = some a → 0 < ks.length → ¬ VFoot v d lb wv5 a.block := fun a ha h0 => by
    obtain ⟨a', ha', hc⟩ := HK.out 0 h0
    obtain rfl : a = a' := by rw [ha] at ha'; exact Option.some.inj ha'
    have hlt := World.block_lt_of_cell? w _ (hc 0 _ rfl)
    rw [addr_block] at hlt
    exact hi5.foot _ (by omega)
  have H5 := Lib.hid (vcrash_ok V5 (by omega) ao cap ks hK5 hKn (by omega))
  obtain ⟨hw0, x, a, b, ha, hb, hp, hx⟩ := left_picks _ _ HS.out HT.out HN.out 2 3 (by omega) _ L5 W5 hLeft ks
  rw [hw0] at H5
  generalize (kfold (W5.filter (inSpan 2 3)) L5 ks).1 = L6 at H5 ha hb
  clear hK5 hKn hLeft hw0 hW5
  have hcase : (fuseCode q = 0 ∧ x = (n0, t1, t2, t3, t4) ∧ q < 0) ∨ (fuseCode q = 0 ∧ x = (n0, t1, t2, t3, t4) ∧ 2 ≤ q) ∨ (fuseCode q = 21 ∧ x = (n0, t1, t2, t3, t4) ∧ 0 ≤ q ∧ q < 2) ∨ (fuseCode q = 21 ∧ x = (s0, s1, s2, s3, s4) ∧ 0 ≤ q ∧ q < 2) := by
    by_cases h : 0 ≤ q ∧ q < 2
    · have hc : fuseCode q = 21 := if_pos h
      rcases hx with ⟨h1, h2⟩ | ⟨_, h2⟩ | ⟨_, h2⟩
      · omega
      · exact .inr (.inr (.inl ⟨hc, h2, h⟩))
      · exact .inr (.inr (.inr ⟨hc, h2, h⟩))
    · have hc : fuseCode q = 0 := if_neg h
      have hxt : x = (n0, t1, t2, t3, t4) := by
        rcases hx with ⟨_, h2⟩ | ⟨h1, _⟩ | ⟨h1, _⟩
        · exact h2
        · omega
        · omega
      by_cases h0 : q < 0
      · exact .inl ⟨hc, hxt, h0⟩
      · exact .inr (.inl ⟨hc, hxt, by omega⟩)
  have hsn0 : ((s0 : Int) == (n0 : Int)) = false := by have := HN.out; simp; omega
  clear hx
  have HP := Lib.hid hp
  have HA := Lib.hid ha
  have HB := Lib.hid hb
  clear hp ha hb hsn hln hwr
  generalize fuseCode q = h at hcase ⊢
  rcases hcase with ⟨rfl, rfl, hqq⟩ | ⟨rfl, rfl, hqq⟩ | ⟨rfl, rfl, hq0, hq2⟩ | ⟨rfl, rfl, hq0, hq2⟩
  · have d0 : decide ((0 : Int) ≤ q) = false := by simp; omega
    have d1 : decide (q < 0) = true := by simp; omega
    go_wp2_with fail
    refine H5.out.mono ?_
    rintro y w6 ⟨rfl, wv6, V6, U6, hw6⟩
    have qs6 := hi5.at_ U6 qs5 (by omega)
    have qt6 := hi5.at_ U6 qt5 (by omega)
    have hB6 := hB5.trans (hi5.below U6 (by omega) hB5.size)
    clear qs5 qt5 qq5 hB5 V5 U6 hw6 hi5 hz5 c0 c1 H5
    have H6 := Lib.hid (sload_ok V6 (by omega) (by simp) a b HA.out HB.out (s5A (n0, t1, t2, t3, t4)) rfl (by simp [Value.oneCell']) 0 (fun w => HP.out w))
    go_wp2_with fail
    refine H6.out.mono ?_
    rintro y w7 ⟨rfl, hb7⟩
    have qs7 := alloc_old (later_of qs6 hb7) (.cells (s5A (n0, t1, t2, t3, t4)) 80)
    have qt7 := alloc_old (later_of qt6 hb7) (.cells (s5A (n0, t1, t2, t3, t4)) 80)
    have qx7 := alloc_at w7 (.cells (s5A (n0, t1, t2, t3, t4)) 80)
    have hB7 := (below_chain hB6 hb7).alloc (Nat.le_trans hB6.size hb7.size) (.cells (s5A (n0, t1, t2, t3, t4)) 80)
    clear qs6 qt6 hB6 V6 hb7 H6
    obtain ⟨c0, c1, c2, c3, c4, _, _, _, _, _⟩ := five_of qs7
    obtain ⟨d0, d1, d2, d3, d4, _, _, _, _, _⟩ := five_of qt7
    obtain ⟨e0, e1, e2, e3, e4, _, _, _, _, _⟩ := five_of qx7
    have hB7' := Lib.hid hB7
    clear qs7 qt7 qx7 hB7
    go_wp2_with fail
    refine (three_any _).mono ?_
    rintro y w8 ⟨rfl, hb8⟩
    go_wp2
    go_ret
    exact ⟨rfl, below_chain hB7'.out hb8⟩
  · have d0 : decide ((0 : Int) ≤ q) = true := by simp; omega
    have d1 : decide (q < 2) = false := by simp; omega
    have d2 : decide (q < 0) = false := by simp; omega
    have d3 : decide ((2 : Int) ≤ q) = true := by simp; omega
    go_wp2_with fail
    refine H5.out.mono ?_
    rintro y w6 ⟨rfl, wv6, V6, U6, hw6⟩
    have qs6 := hi5.at_ U6 qs5 (by omega)
    have qt6 := hi5.at_ U6 qt5 (by omega)
    have hB6 := hB5.trans (hi5.below U6 (by omega) hB5.size)
    clear qs5 qt5 qq5 hB5 V5 U6 hw6 hi5 hz5 c0 c1 H5
    have H6 := Lib.hid (sload_ok V6 (by omega) (by simp) a b HA.out HB.out (s5A (n0, t1, t2, t3, t4)) rfl (by simp [Value.oneCell']) 0 (fun w => HP.out w))
    go_wp2_with fail
    refine H6.out.mono ?_
    rintro y w7 ⟨rfl, hb7⟩
    have qs7 := alloc_old (later_of qs6 hb7) (.cells (s5A (n0, t1, t2, t3, t4)) 80)
    have qt7 := alloc_old (later_of qt6 hb7) (.cells (s5A (n0, t1, t2, t3, t4)) 80)
    have qx7 := alloc_at w7 (.cells (s5A (n0, t1, t2, t3, t4)) 80)
    have hB7 := (below_chain hB6 hb7).alloc (Nat.le_trans hB6.size hb7.size) (.cells (s5A (n0, t1, t2, t3, t4)) 80)
    clear qs6 qt6 hB6 V6 hb7 H6
    obtain ⟨c0, c1, c2, c3, c4, _, _, _, _, _⟩ := five_of qs7
    obtain ⟨d0, d1, d2, d3, d4, _, _, _, _, _⟩ := five_of qt7
    obtain ⟨e0, e1, e2, e3, e4, _, _, _, _, _⟩ := five_of qx7
    have hB7' := Lib.hid hB7
    clear qs7 qt7 qx7 hB7
    go_wp2_with fail
    refine (three_any _).mono ?_
    rintro y w8 ⟨rfl, hb8⟩
    go_wp2
    go_ret
    exact ⟨rfl, below_chain hB7'.out hb8⟩
  · have d0 : decide ((0 : Int) ≤ q) = true := by simp; omega
    have d1 : decide (q < 2) = true := by simp; omega
    have d2 : decide (q < 0) = false := by simp; omega
    have d3 : decide ((2 : Int) ≤ q) = false := by simp; omega
    go_wp2_with fail
    refine H5.out.mono ?_
    rintro y w6 ⟨rfl, wv6, V6, U6, hw6⟩
    have qs6 := hi5.at_ U6 qs5 (by omega)
    have qt6 := hi5.at_ U6 qt5 (by omega)
    have hB6 := hB5.trans (hi5.below U6 (by omega) hB5.size)
    clear qs5 qt5 qq5 hB5 V5 U6 hw6 hi5 hz5 c0 c1 H5
    have H6 := Lib.hid (sload_ok V6 (by omega) (by simp) a b HA.out HB.out (s5A (n0, t1, t2, t3, t4)) rfl (by simp [Value.oneCell']) 0 (fun w => HP.out w))
    go_wp2_with fail
    refine H6.out.mono ?_
    rintro y w7 ⟨rfl, hb7⟩
    have qs7 := alloc_old (later_of qs6 hb7) (.cells (s5A (n0, t1, t2, t3, t4)) 80)
    have qt7 := alloc_old (later_of qt6 hb7) (.cells (s5A (n0, t1, t2, t3, t4)) 80)
    have qx7 := alloc_at w7 (.cells (s5A (n0, t1, t2, t3, t4)) 80)
    have hB7 := (below_chain hB6 hb7).alloc (Nat.le_trans hB6.size hb7.size) (.cells (s5A (n0, t1, t2, t3, t4)) 80)
    clear qs6 qt6 hB6 V6 hb7 H6
    obtain ⟨c0, c1, c2, c3, c4, _, _, _, _, _⟩ := five_of qs7
    obtain ⟨d0, d1, d2, d3, d4, _, _, _, _, _⟩ := five_of qt7
    obtain ⟨e0, e1, e2, e3, e4, _, _, _, _, _⟩ := five_of qx7
    have hB7' := Lib.hid hB7
    clear qs7 qt7 qx7 hB7
    go_wp2_with fail
    refine (three_any _).mono ?_
    rintro y w8 ⟨rfl, hb8⟩
    go_wp2
    go_ret
    exact ⟨rfl, below_chain hB7'.out hb8⟩
  · have d0 : decide ((0 : Int) ≤ q) = true := by simp; omega
    have d1 : decide (q < 2) = true := by simp; omega
    have d2 : decide (q < 0) = false := by simp; omega
    have d3 : decide ((2 : Int) ≤ q) = false := by simp; omega
    go_wp2_with fail
    refine H5.out.mono ?_
    rintro y w6 ⟨rfl, wv6, V6, U6, hw6⟩
    have qs6 := hi5.at_ U6 qs5 (by omega)
    have qt6 := hi5.at_ U6 qt5 (by omega)
    have hB6 := hB5.trans (hi5.below U6 (by omega) hB5.size)
    clear qs5 qt5 qq5 hB5 V5 U6 hw6 hi5 hz5 c0 c1 H5
    have H6 := Lib.hid (sload_ok V6 (by omega) (by simp) a b HA.out HB.out (s5A (s0, s1, s2, s3, s4)) rfl (by simp [Value.oneCell']) 0 (fun w => HP.out w))
    go_wp2_with fail
    refine H6.out.mono ?_
    rintro y w7 ⟨rfl, hb7⟩
    have qs7 := alloc_old (later_of qs6 hb7) (.cells (s5A (s0, s1, s2, s3, s4)) 80)
    have qt7 := alloc_old (later_of qt6 hb7) (.cells (s5A (s0, s1, s2, s3, s4)) 80)
    have qx7 := alloc_at w7 (.cells (s5A (s0, s1, s2, s3, s4)) 80)
    have hB7 := (below_chain hB6 hb7).alloc (Nat.le_trans hB6.size hb7.size) (.cells (s5A (s0, s1, s2, s3, s4)) 80)
    clear qs6 qt6 hB6 V6 hb7 H6
    obtain ⟨c0, c1, c2, c3, c4, _, _, _, _, _⟩ := five_of qs7
    obtain ⟨d0, d1, d2, d3, d4, _, _, _, _, _⟩ := five_of qt7
    obtain ⟨e0, e1, e2, e3, e4, _, _, _, _, _⟩ := five_of qx7
    have hB7' := Lib.hid hB7
    clear qs7 qt7 qx7 hB7
    go_wp2_with fail
    refine (three_any _).mono ?_
    rintro y w8 ⟨rfl, hb8⟩
    go_wp2
    go_ret
    exact ⟨rfl, below_chain hB7'.out hb8⟩
set_option maxRecDepth 100000 in
theorem sstores_three (s0 s1 s2 s3 s4 t0 t1 t2 t3 t4 : Nat) (q : Int) (ao : Option Addr) (cap : Nat) (ks : List K2) (w : World) (h : s0 = 4294967295 ∨ 40 < ks.length) :
    Calls Try.prog 13 #[su5 s0 s1 s2 s3 s4, su5 t0 t1 t2 t3 t4, .agg #[.int .i64 q, .slice ao ks.length cap]] w fun x w' => x = .returned (.bool true) ∧ Below w.heap.size w w' := by
  by_cases hs : s0 = 4294967295
  · have hsn : ((s0 : Int) == 4294967295) = true := by simp; omega
    clear h hs
    go_enter Try.func13, Try.ntmps13
    go_wp2_with fail
    refine (three_any _).mono ?_
    rintro x w1 ⟨rfl, hb⟩
    have hB : Below w.heap.size w w1 := (((((Below.refl _ _).alloc (Nat.le_refl _) _).alloc (by simp) _).alloc (by simp; omega) _)).trans (hb.mono (by simp; omega))
    go_wp2
    go_ret
    exact ⟨rfl, hB⟩
  · have hsn : ((s0 : Int) == 4294967295) = false := by simp; omega
    have hln : decide (40 < (ks.length : Int)) = true := by simp; omega
    clear h hs
    go_enter Try.func13, Try.ntmps13
    go_wp2_with fail
    refine (three_any _).mono ?_
    rintro x w1 ⟨rfl, hb⟩
    have hB : Below w.heap.size w w1 := (((((Below.refl _ _).alloc (Nat.le_refl _) _).alloc (by simp) _).alloc (by simp; omega) _)).trans (hb.mono (by simp; omega))
    go_wp2
    go_ret
    exact ⟨rfl, hB⟩
/-- SuperStores answers true. -/
theorem sstores_any (s0 s1 s2 s3 s4 t0 t1 t2 t3 t4 : Nat) (hs : Fits (s0, s1, s2, s3, s4)) (ht : Fits (t0, t1, t2, t3, t4)) (q : Int) (hq : q ≤ 9223372036854775807) (ao : Option Addr) (cap : Nat) (ks : List K2) (w : World) (hK : KeepsAt w ao ks) :
    Calls Try.prog 13 #[su5 s0 s1 s2 s3 s4, su5 t0 t1 t2 t3 t4, .agg #[.int .i64 q, .slice ao ks.length cap]] w fun x w' => x = .returned (.bool true) ∧ Below w.heap.size w w' := by
  by_cases h : s0 = 4294967295 ∨ 40 < ks.length
  · exact sstores_three s0 s1 s2 s3 s4 t0 t1 t2 t3 t4 q ao cap ks w h
  · exact sstores_ok s0 s1 s2 s3 s4 t0 t1 t2 t3 t4 hs ht (by omega) q hq ao cap ks w hK (by omega)
end Go.Proofs.Ytemdhcocbjcklaa.Print
