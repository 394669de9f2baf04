/- queue: the law's item. -/
import Derived.Test.YtemdhcocbjcklaaItem2
namespace Go.Proofs.Ytemdhcocbjcklaa.Print
open Go.RowKit
set_option maxRecDepth 100000 in
set_option maxHeartbeats 400000 in
attribute [-go_sem] Instr.build Instr.fill in
theorem item_walk (k s id b t : Int) (I0 J0 R0 : Array Value) (w : World) (hz : ∀ w, (zeroValue 39).run Try.prog w = .ok (.agg I0) w) (_hI : I0.size = 23) (hJ : J0.size = 23)
    (hb : ∀ w, (Instr.build 37 #[(1, .int .i64 11), (0, .int .i64 id)]).run Try.prog w = .ok (.agg R0) w)
    (hc : ∀ w, (Instr.build 39 #[(0, .int .i64 s), (1, .agg R0), (2, .int .i64 b), (3, .int .i64 t)]).run Try.prog w = .ok (.agg J0) w)
    (hst : (storeCells ⟨w.heap.size + 1, 0, none⟩ J0.toList).run Try.prog ((w.alloc (.cells #[.int .i64 k, .int .i64 s, .int .i64 id, .int .i64 b, .int .i64 t] 30)).alloc (.cells I0 39)) = .ok () ((w.alloc (.cells #[.int .i64 k, .int .i64 s, .int .i64 id, .int .i64 b, .int .i64 t] 30)).alloc (.cells J0 39)))
    (hld : (loadVar 39 ⟨w.heap.size + 1, 0, none⟩).run Try.prog ((w.alloc (.cells #[.int .i64 k, .int .i64 s, .int .i64 id, .int .i64 b, .int .i64 t] 30)).alloc (.cells J0 39)) = .ok (.agg J0) ((w.alloc (.cells #[.int .i64 k, .int .i64 s, .int .i64 id, .int .i64 b, .int .i64 t] 30)).alloc (.cells J0 39))) :
    Calls Try.prog 18 #[.agg #[.int .i64 k, .int .i64 s, .int .i64 id, .int .i64 b, .int .i64 t]] w fun x w' => x = .returned (.agg J0) ∧ Below w.heap.size w w' := by
  go_enter Try.func18, Try.ntmps18
  go_wp2
  exact bodyPost_ret (v := .agg J0) (by simp [results, Try.results18, asAddr, hld]) rfl ⟨rfl, ((Below.refl _ _).alloc (Nat.le_refl _) _).alloc (by simp) _⟩
theorem item_any (k s id b t : Int) (w : World) : Calls Try.prog 18 #[.agg #[.int .i64 k, .int .i64 s, .int .i64 id, .int .i64 b, .int .i64 t]] w fun x w' => x = .returned (.agg (itemV s id 11 b t)) ∧ Below w.heap.size w w' := by
  have hst := store_item_new (w.alloc (.cells #[.int .i64 k, .int .i64 s, .int .i64 id, .int .i64 b, .int .i64 t] 30)) (itemV 0 0 0 0 0) (itemV s id 11 b t) rfl (item_one s id 11 b t)
  have hld := load_item ((w.alloc (.cells #[.int .i64 k, .int .i64 s, .int .i64 id, .int .i64 b, .int .i64 t] 30)).alloc (.cells (itemV s id 11 b t) 39)) (w.heap.size + 1) 39 (0, 0) (itemV s id 11 b t) rfl (alloc_at' _ _ _ (by simp))
  have hs1 : (w.alloc (.cells #[.int .i64 k, .int .i64 s, .int .i64 id, .int .i64 b, .int .i64 t] 30)).heap.size = w.heap.size + 1 := World.size_alloc _ _
  rw [hs1] at hst
  exact item_walk k s id b t _ _ _ w zero_item rfl rfl (build_req id 11) (build_item s id 11 b t) hst hld
end Go.Proofs.Ytemdhcocbjcklaa.Print
