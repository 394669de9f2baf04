/- queue: Pop. -/
import Derived.Test.YtemdhcocbjcklaaQueue3
namespace Go.Proofs.Ytemdhcocbjcklaa.Print
open Go.RowKit
attribute [local go_sem] run_loadVar_scalar

theorem ring_pop {Q : Array Value} {first room : Nat} {x : It} {r : List It} (hQ : Q.size = 371) (hf : first < 16) (hlt : (x :: r).length ≤ room) (hr : room ≤ 16) (Z : List Value) (hZ : Z.length = 23) (p m : Nat) (hp : p = (first + 1) % 16) (hm : m = r.length)
    (h370 : Q[370]? = some (.int .i64 room)) (hit : ∀ j (h : j < (x :: r).length), ∀ k, k < 23 → Q[((first + j) % 16) * 23 + k]? = (itV (x :: r)[j])[k]?) :
    (((rowset Q (first * 23) Z).setIfInBounds 368 (.int .i64 p)).setIfInBounds 369 (.int .i64 m)).size = 371 ∧ (((rowset Q (first * 23) Z).setIfInBounds 368 (.int .i64 p)).setIfInBounds 369 (.int .i64 m))[368]? = some (.int .i64 p) ∧
    (((rowset Q (first * 23) Z).setIfInBounds 368 (.int .i64 p)).setIfInBounds 369 (.int .i64 m))[369]? = some (.int .i64 r.length) ∧ (((rowset Q (first * 23) Z).setIfInBounds 368 (.int .i64 p)).setIfInBounds 369 (.int .i64 m))[370]? = some (.int .i64 room) ∧
    ∀ j (h : j < r.length), ∀ k, k < 23 → (((rowset Q (first * 23) Z).setIfInBounds 368 (.int .i64 p)).setIfInBounds 369 (.int .i64 m))[((p + j) % 16) * 23 + k]? = (itV r[j])[k]? := by
  subst hp
  subst hm
  have hfit : first * 23 + Z.length ≤ Q.size := by omega
  have hs := rowset_size Q _ _ hfit
  have hg := rowset_get Q _ _ hfit
  rw [hZ] at hg
  simp only [List.length_cons] at hlt
  refine ⟨by rw [Array.size_setIfInBounds, Array.size_setIfInBounds, hs, hQ], ?_, ?_, ?_, ?_⟩
  · rw [Array.getElem?_setIfInBounds_ne (by omega), Array.getElem?_setIfInBounds_self_of_lt (by omega)]
  · rw [Array.getElem?_setIfInBounds_self_of_lt (by rw [Array.size_setIfInBounds]; omega)]
  · rw [Array.getElem?_setIfInBounds_ne (by omega), Array.getElem?_setIfInBounds_ne (by omega), hg, if_neg (by omega), h370]
  · intro j hj k hk
    have hq : ((first + 1) % 16 + j) % 16 < 16 := Nat.mod_lt _ (by omega)
    have he : ((first + 1) % 16 + j) % 16 = (first + (j + 1)) % 16 := by omega
    have hne : (first + (j + 1)) % 16 ≠ first := by omega
    rw [he] at hq ⊢
    rw [Array.getElem?_setIfInBounds_ne (by omega), Array.getElem?_setIfInBounds_ne (by omega), hg, if_neg (by omega), hit (j + 1) (by simpa using hj) k hk]
    rfl
def itZ : Array Value := itemV 0 0 0 0 0
theorem itZ_size : itZ.size = 23 := rfl
theorem itZ_one : ∀ v ∈ itZ.toList, v.oneCell' = true := item_one _ _ _ _ _
set_option maxRecDepth 100000 in
set_option maxHeartbeats 1600000 in
attribute [-go_sem] Instr.build Instr.fill loadVar in
theorem pop_ok {w : World} {b room : Nat} {x : It} {r : List It} (q : QIs w b (x :: r) room) :
    Calls Try.prog 19 #[.pointer (some ⟨b, 0, none⟩)] w fun e w' => e = .returned (.tuple #[.agg (itV x), .int .i64 0]) ∧ QPost w b r room w' := by
  obtain ⟨Q, first, hq, hQ, hit⟩ := q
  have hz : ∀ w, (zeroValue 39).run Try.prog w = .ok (.agg itZ) w := zero_item
  have hb : ∀ w, (Instr.build 39 #[]).run Try.prog w = .ok (.agg itZ) w := build_item0
  have hZs := itZ_size
  have hZ1 := itZ_one
  have hX1 := itV_one x
  have hXs := itV_size x
  have hF := hq.first_lt
  have hrl : r.length + 1 ≤ room := hq.n_le
  have hr16 := hq.room_le
  have hdone := fun (p m : Nat) (hp : p = (first + 1) % 16) (hm : m = r.length) => ring_pop hQ hF hq.n_le hq.room_le itZ.toList rfl p m hp hm hq.room_ hit
  have hrs := rowset_size Q (first * 23) itZ.toList (by have : itZ.toList.length = 23 := rfl; omega)
  have hrg := rowset_get Q (first * 23) itZ.toList (by have : itZ.toList.length = 23 := rfl; omega)
  have hst0 := fun (W : World) (hb : W.heap[b]? = some (.cells Q 116)) => store_at (P := Try.prog) hb (first * 23) itZ.toList (by have : itZ.toList.length = 23 := rfl; omega) itZ_one
  have hrange : ∀ W : World, W.heap[b]? = some (.cells Q 116) → (loadVar 39 ⟨b, first * 23, none⟩).run Try.prog W = .ok (.agg (itV x)) W := fun W hW => by
    have hr : W.rangeAt b (first * 23) (itV x).toList := by
      intro k v hv
      have hk : k < 23 := by have := (List.getElem?_eq_some_iff.1 hv).1; simpa [itV_size] using this
      rw [cell_of hW]
      have := hit 0 (by simp) k hk
      rw [Nat.add_zero, Nat.mod_eq_of_lt hF] at this
      rw [this]; simpa using hv
    exact run_loadVar_mid W b (first * 23) 39 (itV x).toList _ hr Try.underlying39 rfl (by rw [show (itV x).toList.length = 23 from rfl]; exact itemInfo)
  have hlb := lt_of hq.at_
  have hZl : itZ.toList.length = 23 := rfl
  generalize itV x = X at hX1 hXs hrange ⊢
  generalize itZ = Z at hz hb hZs hZ1 hdone hrs hrg hst0 hZl
  have HQ := Lib.hid hq
  have HRANGE := Lib.hid hrange
  have HST := Lib.hid hst0
  have HD := Lib.hid hdone
  have HRG := Lib.hid hrg
  have HRS := Lib.hid hrs
  have HQS := Lib.hid hQ
  have HZL := Lib.hid hZl
  have hq1 := hq.keep (S := fun _ => False) ((Upd.refl (fun _ => False) w).alloc (.cells Z 39)) (fun h => h)
  have c8 := (cell_of hq1.at_ 368).trans hq1.first_
  have c9 := (cell_of hq1.at_ 369).trans hq1.n_
  clear hq hrange hst0 hdone hrg hrs hit hQ hZl
  go_enter Try.func19, Try.ntmps19
  go_wp2_with fail
  have g0 := alloc_at w (.cells Z 39)
  have hU0 : Upd (fun i => i = b) w (w.alloc (.cells Z 39)) := (Upd.refl _ _).alloc _
  have hgb : w.heap.size ≠ b := by omega
  have hs0 : (w.alloc (.cells Z 39)).heap.size = w.heap.size + 1 := World.size_alloc _ _
  have HB0 := Lib.hid (fun W (h : Below (w.alloc (.cells Z 39)).heap.size (w.alloc (.cells Z 39)) W) => h)
  generalize hWe : w.alloc (.cells Z 39) = W0 at hq1 c8 c9 g0 hU0 hs0 HB0 ⊢
  generalize hG : w.heap.size = G at g0 hgb hs0 ⊢
  clear hWe
  have hld1 := HRANGE.out W0.drew hq1.at_
  have hld2 := HRANGE.out (W0.alloc (.cells Z 39)).drew (alloc_old hq1.at_ _)
  have hst2 : (storeCells ⟨G + 1, 0, none⟩ X.toList).run Try.prog (W0.alloc (.cells Z 39)).drew = .ok () (W0.alloc (.cells X 39)).drew := by
    have h := store_row (P := Try.prog) (w := (W0.alloc (.cells Z 39)).drew) (alloc_at W0 (.cells Z 39)) X (by omega) hX1
    have e : (W0.alloc (.cells Z 39)).setRow W0.heap.size X = W0.alloc (.cells X 39) := World.setRow_alloc_new _ _ _ _
    rw [hs0] at h e
    exact h.trans (congrArg (fun w : World => Result.ok () w.drew) e)
  have c82 : (W0.alloc (.cells Z 39)).cell? ⟨b, 368, none⟩ = some (.int .i64 first) := (cell_of (alloc_old hq1.at_ _) 368).trans hq1.first_
  have hi0 : (0 : Int) ≤ (first : Int) := Int.natCast_nonneg _
  have hi1 : (first : Int) < 16 := by omega
  have HQ1 := Lib.hid hq1
  have HX1 := Lib.hid hX1
  have HZ1 := Lib.hid hZ1
  clear hq1 hX1 hZ1
  go_region
  have gb5 : (W0.alloc (.cells X 39)).drew.heap[b]? = some (.cells Q 116) := alloc_old HQ1.out.at_ _
  have gG5 : (W0.alloc (.cells X 39)).drew.heap[G]? = some (.cells Z 39) := alloc_old g0 _
  have gH5 : (W0.alloc (.cells X 39)).drew.heap[G + 1]? = some (.cells X 39) := alloc_at' W0 _ _ hs0.symm
  have hU5 : Upd (fun i => i = b) w (W0.alloc (.cells X 39)).drew := (hU0.alloc _).drew
  clear hld1 hld2 hst2 c82 g0 hU0 c8 c9
  generalize (W0.alloc (.cells X 39)).drew = W5 at gb5 gG5 gH5 hU5 ⊢
  have c85 := (cell_of gb5 368).trans HQ1.out.first_
  have hst5 := HST.out W5.drew gb5
  obtain ⟨p, hpe⟩ : ∃ p, (first + 1) % 16 = p := ⟨_, rfl⟩
  have gb6 : (W5.drew.setRow b (rowset Q (first * 23) Z.toList)).heap[b]? = some (.cells (rowset Q (first * 23) Z.toList) 116) := setRow_block (w := W5.drew) gb5
  have hUr : Upd (fun i => i = b) W5 (W5.drew.setRow b (rowset Q (first * 23) Z.toList)) := (Upd.refl (fun i => i = b) W5).drew.setRow (fun _ => rfl) _
  have gG6 := hUr.at_ gG5 hgb
  have gH6 := hUr.at_ gH5 (by omega)
  have hU6 := hU5.trans hUr (fun _ _ h => h)
  have q6 : QAt (W5.drew.setRow b (rowset Q (first * 23) Z.toList)) b (rowset Q (first * 23) Z.toList) first (r.length + 1) room :=
    ⟨gb6, by rw [HRG.out, if_neg (by rw [HZL.out]; omega)]; exact HQ1.out.first_, by rw [HRG.out, if_neg (by rw [HZL.out]; omega)]; exact HQ1.out.n_, by rw [HRG.out, if_neg (by rw [HZL.out]; omega)]; exact HQ1.out.room_, hrl, hr16, hF⟩
  have hat := qat_any b _ first (r.length + 1) room 1 (by omega) _ q6
  rw [hpe] at hat
  have c86 := (cell_of gb6 368).trans q6.first_
  have c96 := (cell_of gb6 369).trans q6.n_
  have f6 := free_of gb6
  have HAT := Lib.hid hat
  have HGB5 := Lib.hid gb5
  clear hat gb5 gG5 gH5 hUr hU5 q6
  go_wp2_with fail
  go_region
  have g7 := cells_set (W5.drew.setRow b (rowset Q (first * 23) Z.toList)) b 368 _ _ _ gb6 (.int .i64 p)
  have g8 := cells_set _ b 369 _ _ _ g7 (.int .i64 r.length)
  have hU7 : Upd (fun i => i = b) (W5.drew.setRow b (rowset Q (first * 23) Z.toList)) (((W5.drew.setRow b (rowset Q (first * 23) Z.toList)).setCell ⟨b, 368, none⟩ (.int .i64 p)).setCell ⟨b, 369, none⟩ (.int .i64 r.length)) :=
    ((Upd.refl (fun i => i = b) _).setCell (p := ⟨b, 368, none⟩) (fun _ => rfl) _).setCell (p := ⟨b, 369, none⟩) (fun _ => rfl) _
  have gG8 := hU7.at_ gG6 hgb
  have gH8 := hU7.at_ gH6 (by omega)
  have hldX : (loadVar 39 ⟨G + 1, 0, none⟩).run Try.prog _ = _ := load_row23 gH8 hXs
  have hstX := store_row (P := Try.prog) gG8 X (by omega) HX1.out
  have hldR : (loadVar 39 ⟨G, 0, none⟩).run Try.prog _ = _ := load_row23 (setRow_block (X := X) gG8) hXs
  have hdb := HD.out p r.length hpe.symm rfl
  have hU8 := hU6.trans hU7 (fun _ _ h => h)
  have c97 : ((W5.drew.setRow b (rowset Q (first * 23) Z.toList)).setCell ⟨b, 368, none⟩ (.int .i64 p)).cell? ⟨b, 369, none⟩ = some (.int .i64 (r.length + 1 : Nat)) := by
    rw [cell_of g7, Array.getElem?_setIfInBounds_ne (by omega), ← cell_of gb6 369]; exact c96
  have f97 := free_of g7 369
  have HATT := HAT.out
  have HG8 := Lib.hid g8
  have HU8 := Lib.hid hU8
  have HDB := Lib.hid hdb
  have HPE := Lib.hid hpe
  clear g7 g8 gb6 hU7 gG8 gH8 gG6 gH6 hdb hU8 hpe hst5 c85 hU6
  generalize W5.drew.setRow b (rowset Q (first * 23) Z.toList) = W6 at *
  have HATT := Lib.hid HATT
  go_wp2_with fail
  refine HATT.out.mono ?_
  rintro y w7 ⟨rfl, rfl⟩
  go_wp2
  obtain ⟨d1, d2, d3, d4, d5⟩ := HDB.out
  refine bodyPost_ret (v := .tuple #[.agg X, .int .i64 0]) (by simp [results, Try.results19, asAddr, hldR]) rfl ⟨rfl, ⟨_, p, ⟨?_, d2, d3, d4, by omega, hr16, ?_⟩, d1, d5⟩, ?_⟩
  · exact (((Upd.refl (fun i => i = G) _).setRow (g := G) (fun _ => rfl) X).at_ HG8.out (fun e => hgb e.symm))
  · have := HPE.out; omega
  · exact HU8.out.setRow (g := G) (fun h => absurd h (by omega)) X
end Go.Proofs.Ytemdhcocbjcklaa.Print
