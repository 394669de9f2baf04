/- queue: items, told. -/
import Derived.Test.YtemdhcocbjcklaaItem
namespace Go.Proofs.Ytemdhcocbjcklaa.Print
open Go.RowKit
theorem itemInfo : (Try.prog.info? 39).map (·.size) = some 23 := by kernel_rfl
theorem load_item (w : World) (g : Nat) (t : TypeId) (fr : Nat × Nat) (cs : Array Value) (hs : cs.size = 23) (hg : w.heap[g]? = some (.cells cs t fr)) : (loadVar 39 ⟨g, 0, none⟩).run Try.prog w = .ok (.agg cs) w :=
  run_loadVar_row w g t 39 cs fr _ hg Try.underlying39 rfl (by rw [hs]; exact itemInfo)
theorem zero_item (w : World) : (zeroValue 39).run Try.prog w = .ok (.agg (itemV 0 0 0 0 0)) w := by kernel_rfl
theorem build_item0 (w : World) : (Instr.build 39 #[]).run Try.prog w = .ok (.agg (itemV 0 0 0 0 0)) w := run_build w 39 _ _ (by kernel_rfl)
theorem setRow_new (w : World) (old new : Array Value) (T : TypeId) : (w.alloc (.cells old T)).setRow w.heap.size new = w.alloc (.cells new T) := by
  unfold World.setRow World.alloc
  congr 1
  apply Array.ext_getElem?
  intro k
  simp only [Array.getElem?_modify, Array.getElem?_push]
  by_cases hk : k = w.heap.size
  · subst hk; simp
  · simp [hk]
    intro e
    exact absurd e.symm hk
theorem store_item_new (w : World) (old new : Array Value) (h : old.size = new.size) (h3 : ∀ v ∈ new.toList, v.oneCell' = true) :
    (storeCells ⟨w.heap.size, 0, none⟩ new.toList).run Try.prog (w.alloc (.cells old 39)) = .ok () (w.alloc (.cells new 39)) := by
  have := run_storeCells_from (P := Try.prog) w.heap.size 39 new.toList 0 old (w.alloc (.cells old 39)) (alloc_at _ _) (by simp; omega) h3
  rw [this]
  simp only [List.take_zero, List.nil_append, Array.toArray_toList, setRow_new]
theorem item_one (s id k b t : Int) : ∀ v ∈ (itemV s id k b t).toList, v.oneCell' = true := by
  intro v hv
  simp [Value.oneCell'] at hv ⊢
  rcases hv with h | h | h | h | h | h | h | h | h | h | h | h | h | h | h | h <;> subst h <;> rfl

set_option maxRecDepth 100000 in
set_option maxHeartbeats 400000 in
theorem pop_nil (w : World) : Calls Try.prog 19 #[.pointer none] w fun x w' => x = .returned (.tuple #[.agg (itemV 0 0 0 0 0), .int .i64 7]) ∧ Below w.heap.size w w' := by
  have hz := zero_item
  have hb := build_item0
  have hI : (itemV 0 0 0 0 0).size = 23 := rfl
  have hst := store_item_new w (itemV 0 0 0 0 0) (itemV 0 0 0 0 0) rfl (item_one 0 0 0 0 0)
  have hld := load_item (w.alloc (.cells (itemV 0 0 0 0 0) 39)) w.heap.size 39 (0, 0) (itemV 0 0 0 0 0) rfl (alloc_at _ _)
  obtain ⟨I0, hI0⟩ : ∃ I0, itemV 0 0 0 0 0 = I0 := ⟨_, rfl⟩
  rw [hI0] at hz hb hI hst hld ⊢
  clear hI0
  go_enter Try.func19, Try.ntmps19
  go_wp2
  exact bodyPost_ret (v := .tuple #[.agg I0, .int .i64 7]) (by simp [results, Try.results19, asAddr, hld]) rfl ⟨rfl, (Below.refl _ _).alloc (Nat.le_refl _) _⟩
/-- A request as the laws make it. -/
abbrev reqV (id k : Int) : Array Value := #[.int .i64 id, .int .i64 k, .int .i64 0, .string ⟨#[]⟩, .int .i64 0, .string ⟨#[]⟩, .int .i64 0, .string ⟨#[]⟩, .int .i64 0, .int .i64 0, .int .i64 0, .bool false, .string ⟨#[]⟩, .string ⟨#[]⟩,
  .int .i64 0, .int .i64 0, .int .i64 0, .int .i64 0, .int .i64 0, .slice none 0 0]
theorem build_req (id k : Int) (w : World) : (Instr.build 37 #[(1, .int .i64 k), (0, .int .i64 id)]).run Try.prog w = .ok (.agg (reqV id k)) w := run_build w 37 _ _ (by kernel_rfl)
theorem build_item (s id k b t : Int) (w : World) : (Instr.build 39 #[(0, .int .i64 s), (1, .agg (reqV id k)), (2, .int .i64 b), (3, .int .i64 t)]).run Try.prog w = .ok (.agg (itemV s id k b t)) w := run_build w 39 _ _ (by kernel_rfl)

end Go.Proofs.Ytemdhcocbjcklaa.Print
