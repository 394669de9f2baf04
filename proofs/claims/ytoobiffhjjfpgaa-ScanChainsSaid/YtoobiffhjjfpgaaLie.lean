/- The law's arrays: [6]Made and [6]bool, opaque. -/
import Derived.Test.YtoobiffhjjfpgaaMadeOpen
import Derived.Laws.CopyRow
namespace Go.Proofs.Ytoobiffhjjfpgaa.Print
open Go.RowKit
set_option linter.unusedSimpArgs false

/-- The laid, by number. -/
def lieL (f : Nat → T6) : List Value := (List.range 6).flatMap fun n => madeC (f n)
def lieA (f : Nat → T6) : Array Value := (lieL f).toArray
def no6 : T6 := (0, 0, 0, 0, 0, 0)
theorem zero_lie (w : World) : (zeroValue 31).run Try.prog w = .ok (.agg (lieA fun _ => no6)) w := by kernel_rfl
theorem build_lie (w : World) : (Instr.build 31 #[]).run Try.prog w = .ok (.agg (lieA fun _ => no6)) w := run_build w 31 _ _ (by kernel_rfl)
theorem lieA_size (f : Nat → T6) : (lieA f).size = 36 := rfl
theorem lieA_one (f : Nat → T6) : ∀ v ∈ (lieA f).toList, v.oneCell' = true := by
  intro v hv
  simp only [lieA] at hv
  obtain ⟨n, _, hn⟩ := List.mem_flatMap.1 hv
  simp only [madeC, List.mem_cons, List.not_mem_nil, or_false] at hn
  rcases hn with rfl | rfl | rfl | rfl | rfl | rfl <;> rfl
def theA (f : Nat → Bool) : Array Value := ((List.range 6).map fun n => Value.bool (f n)).toArray
theorem zero_the (w : World) : (zeroValue 32).run Try.prog w = .ok (.agg (theA fun _ => false)) w := by kernel_rfl
theorem build_the (w : World) : (Instr.build 32 #[]).run Try.prog w = .ok (.agg (theA fun _ => false)) w := run_build w 32 _ _ (by kernel_rfl)
theorem theA_one (f : Nat → Bool) : ∀ v ∈ (theA f).toList, v.oneCell' = true := by
  intro v hv
  simp only [theA] at hv
  obtain ⟨n, _, rfl⟩ := List.mem_map.1 hv
  rfl
theorem store_new' (w : World) (old new : Array Value) (T : TypeId) (h : old.size = new.size) (h1 : ∀ v ∈ new.toList, v.oneCell' = true) : (storeCells ⟨w.heap.size, 0, none⟩ new.toList).run Try.prog (w.alloc (.cells old T)) = .ok () (w.alloc (.cells new T)) := by
  have := run_storeCells_from (P := Try.prog) w.heap.size T new.toList 0 old (w.alloc (.cells old T)) (alloc_at w (.cells old T)) (by simp; omega) h1
  rw [this]
  rw [show ∀ X Y : Array Value, X = Y → (w.alloc (.cells old T)).setRow w.heap.size X = (w.alloc (.cells old T)).setRow w.heap.size Y from fun _ _ h => by rw [h]]
  · rw [World.setRow_alloc_new]
  · simp
/-- One of six turned. -/
def upd6 {α : Type} (f : Nat → α) (n : Nat) (t : α) : Nat → α := fun k => if k = n then t else f k
theorem lie_put (f : Nat → T6) (t : T6) : ∀ n, n < 6 → ((lieA f).toList.take (6 * n) ++ (madeA t).toList ++ (lieA f).toList.drop (6 * n + 6)).toArray = lieA (upd6 f n t)
  | 0, _ => rfl
  | 1, _ => rfl
  | 2, _ => rfl
  | 3, _ => rfl
  | 4, _ => rfl
  | 5, _ => rfl
theorem store_lie {w : World} {b : Nat} {f : Nat → T6} {T : TypeId} (h : w.heap[b]? = some (.cells (lieA f) T (0, 0))) (t : T6) (n : Nat) (hn : n < 6) (o : Nat) (ho : o = 6 * n) :
    (storeCells ⟨b, o, none⟩ (madeA t).toList).run Try.prog w = .ok () (w.setRow b (lieA (upd6 f n t))) := by
  subst ho
  have := run_storeCells_at Try.prog b (6 * n) T (madeA t).toList 0 (lieA f) w h (by show 6 * n + 0 + 6 ≤ 36; omega) (fun v hv => by
    simp only [madeA, List.mem_cons, List.not_mem_nil, or_false] at hv
    rcases hv with rfl | rfl | rfl | rfl | rfl | rfl <;> rfl)
  rw [this, Nat.add_zero, ← lie_put f t n hn]
  rfl
theorem the_put (g : Nat → Bool) : ∀ n, n < 6 → (theA g).setIfInBounds n (.bool true) = theA (upd6 g n true)
  | 0, _ => rfl
  | 1, _ => rfl
  | 2, _ => rfl
  | 3, _ => rfl
  | 4, _ => rfl
  | 5, _ => rfl
theorem the_at (g : Nat → Bool) : ∀ n, n < 6 → (theA g)[n]? = some (.bool (g n))
  | 0, _ => rfl
  | 1, _ => rfl
  | 2, _ => rfl
  | 3, _ => rfl
  | 4, _ => rfl
  | 5, _ => rfl
theorem lie_at (f : Nat → T6) : ∀ n, n < 6 → ∀ j, j < 6 → (lieA f)[6 * n + j]? = (madeA (f n))[j]?
  | 0, _, j, hj => by match j, hj with | 0, _ | 1, _ | 2, _ | 3, _ | 4, _ | 5, _ => rfl
  | 1, _, j, hj => by match j, hj with | 0, _ | 1, _ | 2, _ | 3, _ | 4, _ | 5, _ => rfl
  | 2, _, j, hj => by match j, hj with | 0, _ | 1, _ | 2, _ | 3, _ | 4, _ | 5, _ => rfl
  | 3, _, j, hj => by match j, hj with | 0, _ | 1, _ | 2, _ | 3, _ | 4, _ | 5, _ => rfl
  | 4, _, j, hj => by match j, hj with | 0, _ | 1, _ | 2, _ | 3, _ | 4, _ | 5, _ => rfl
  | 5, _, j, hj => by match j, hj with | 0, _ | 1, _ | 2, _ | 3, _ | 4, _ | 5, _ => rfl
/-- A Made as the law's model has it. -/
def mOf (t : T6) : MadeM := ⟨t.1.toNat, t.2.1.toNat, (t.2.2.1.toNat, t.2.2.2.1.toNat, t.2.2.2.2.1.toNat, t.2.2.2.2.2.toNat)⟩
def ValT (wb : Int) (t : T6) : Prop := 0 ≤ t.1 ∧ t.1 ≤ 5 ∧ 0 ≤ t.2.1 ∧ t.2.1 ≤ 9 ∧ 1 ≤ t.2.2.1 ∧ t.2.2.1 ≤ 65535 ∧ 0 ≤ t.2.2.2.2.2 ∧ t.2.2.2.2.2 ≤ 1073741824 ∧ wb ≤ 1073741824
theorem ValT.ok {wb : Int} {t : T6} (h : ValT wb t) (h2 : T6Ok t) : MadeOk (mOf t) := by
  unfold ValT at h
  unfold T6Ok at h2
  unfold MadeOk mOf HFits
  simp only
  omega
/-- What lies in the law's variables, when so many were made. -/
def Lied (l : List T6) (j lb tb : Nat) (w : World) : Prop := ∃ (f : Nat → T6) (g : Nat → Bool), w.heap[lb]? = some (.cells (lieA f) 31) ∧ w.heap[tb]? = some (.cells (theA g) 32) ∧
  ∀ n, n < 6 → (madeL ((l.take j).map mOf) n).isSome = g n ∧ ∀ m, madeL ((l.take j).map mOf) n = some m → mOf (f n) = m ∧ f n ∈ l
theorem lied_next {l : List T6} {k lb : Nat} {t : T6} {w6 : World} {f : Nat → T6} {gb : Nat → Bool} (hl6 : w6.heap[lb]? = some (.cells (lieA f) 31)) (ht6 : w6.heap[lb + 1]? = some (.cells (theA gb) 32))
    (hfg : ∀ n, n < 6 → (madeL ((l.take k).map mOf) n).isSome = gb n ∧ ∀ m, madeL ((l.take k).map mOf) n = some m → mOf (f n) = m ∧ f n ∈ l) (hk : k < l.length) (htk : l[k] = t) (h0 : 0 ≤ t.1) (h5 : t.1 ≤ 5) :
    Lied l (k + 1) lb (lb + 1) ((w6.setRow lb (lieA (upd6 f t.1.toNat t))).setCell ⟨lb + 1, t.1.toNat, none⟩ (.bool true)) := by
  refine ⟨upd6 f t.1.toNat t, upd6 gb t.1.toNat true, ?_, ?_, fun n hn => ?_⟩
  · have h7 : (w6.setRow lb (lieA (upd6 f t.1.toNat t))).heap[lb]? = some (.cells (lieA (upd6 f t.1.toNat t)) 31) := by simp [World.setRow, Array.getElem?_modify, hl6]
    exact ((Upd.refl (fun i => i = lb + 1) _).setCell (p := ⟨lb + 1, t.1.toNat, none⟩) (fun _ => rfl) _).at_ h7 (by omega)
  · have h7 : (w6.setRow lb (lieA (upd6 f t.1.toNat t))).heap[lb + 1]? = some (.cells (theA gb) 32) := by simp [World.setRow, Array.getElem?_modify, ht6]
    rw [cells_set _ _ _ _ _ _ h7, the_put _ _ (by omega)]
  · have hs : (l.take (k + 1)).map mOf = (l.take k).map mOf ++ [mOf t] := by rw [List.take_succ_eq_append_getElem hk, List.map_append, List.map_singleton, htk]
    rw [hs, madeL_snoc]
    obtain ⟨h1, h2⟩ := hfg n hn
    by_cases hnt : n = t.1.toNat
    · have e : (mOf t).n = n := by rw [hnt]; rfl
      rw [if_pos e]
      unfold upd6
      rw [if_pos hnt, if_pos hnt]
      exact ⟨rfl, fun m hm => by cases hm; exact ⟨rfl, htk ▸ List.getElem_mem hk⟩⟩
    · have e : ¬ (mOf t).n = n := fun e => hnt (by rw [← e]; rfl)
      rw [if_neg e]
      unfold upd6
      rw [if_neg hnt, if_neg hnt]
      exact ⟨h1, h2⟩
end Go.Proofs.Ytoobiffhjjfpgaa.Print
