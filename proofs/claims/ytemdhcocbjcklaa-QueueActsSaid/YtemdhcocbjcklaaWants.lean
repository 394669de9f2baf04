/- The law's own list of items; want. want, by kinds. want: a pop. want: a push. want: a drop. rests. -/
import Derived.Test.YtemdhcocbjcklaaQKeeps
namespace Go.Proofs.Ytemdhcocbjcklaa.Print
open Go.RowKit Go.Proofs.Ytemdhcocbjcklaa.Open
attribute [local go_sem] run_loadVar_scalar

def icells (l : List It) : List Value := l.flatMap (fun x => (itV x).toList)
theorem icells_snoc (l : List It) (x : It) : icells (l ++ [x]) = icells l ++ (itV x).toList := by simp [icells]
theorem icells_length (l : List It) : (icells l).length = l.length * 23 := by
  induction l with
  | nil => rfl
  | cons a r ih => show ((itV a).toList ++ icells r).length = _; rw [List.length_append, ih]; have : (itV a).toList.length = 23 := rfl; simp only [List.length_cons]; omega
theorem icells_one (l : List It) : ∀ v ∈ icells l, v.oneCell' = true := by
  intro v hv
  obtain ⟨x, _, hx⟩ := List.mem_flatMap.1 hv
  exact itV_one x v hx
theorem icells_at (l : List It) (i : Nat) (hi : i < l.length) (k : Nat) (hk : k < 23) : (icells l)[i * 23 + k]? = (itV l[i])[k]? := by
  induction l generalizing i with
  | nil => simp at hi
  | cons a r ih =>
    have ha : (itV a).toList.length = 23 := rfl
    show ((itV a).toList ++ icells r)[i * 23 + k]? = _
    cases i with
    | zero => rw [Nat.zero_mul, Nat.zero_add, List.getElem?_append_left (by omega)]; simp
    | succ i => rw [List.getElem?_append_right (by omega), show (i + 1) * 23 + k - (itV a).toList.length = i * 23 + k by omega, ih i (by simpa using hi)]; rfl
/-- A list of items that is only read: nil, or rows that lie one behind the other. -/
def ItemsAt (w : World) (v : Value) (its : List It) : Prop :=
  (v = .slice none 0 0 ∧ its = []) ∨ ∃ g o cap, v = .slice (some ⟨g, o, none⟩) its.length cap ∧ its.length ≤ cap ∧ (its ≠ [] → g < w.heap.size) ∧ ∀ i (h : i < its.length), w.rangeAt g (o + i * 23) (itV its[i]).toList
theorem ItemsAt.keep {S : Nat → Prop} {w w1 : World} {v : Value} {its : List It} (h : ItemsAt w v its) (hU : Upd S w w1) (hn : ∀ i, v.ownBlock = some i → its ≠ [] → ¬ S i) : ItemsAt w1 v its := by
  rcases h with h | ⟨g, o, cap, rfl, hc, hg, hr⟩
  · exact .inl h
  · refine .inr ⟨g, o, cap, rfl, hc, fun h => Nat.lt_of_lt_of_le (hg h) hU.size, fun i hi j u hu => ?_⟩
    have hne : its ≠ [] := by intro e; subst e; cases hi
    rw [World.cell?_of_block (w := w) (hU.other g (hg hne) (hn g rfl hne))]
    exact hr i hi j u hu
theorem ItemsAt.below {w w1 : World} {v : Value} {its : List It} (h : ItemsAt w v its) (hb : Below w.heap.size w w1) : ItemsAt w1 v its := h.keep (S := fun _ => False) (Upd.of_below hb) (fun _ _ _ h => h)
theorem ItemsAt.of_own {w : World} {base n : Nat} {v : Value} {its : List It} (h : w.ownsRow base 39 23 v n (icells its)) (hn : n = its.length) : ItemsAt w v its := by
  subst hn
  rcases h.2 with ⟨hv, h0⟩ | ⟨g, cap, cur, hv, _, hg, hnc, _⟩
  · exact .inl ⟨hv, List.eq_nil_of_length_eq_zero h0⟩
  · refine .inr ⟨g, 0, cap, hv, hnc, fun _ => lt_of hg, fun i hi j u hu => ?_⟩
    have hj : j < 23 := by have := (List.getElem?_eq_some_iff.1 hu).1; exact this
    have hc := h.cells (g := g) (by rw [hv]; rfl) (i * 23 + j) u (by rw [icells_at its i hi j hj]; simpa using hu)
    rw [Addr.add_mid] at hc
    rw [Nat.zero_add] at hc ⊢
    exact hc
/-- Items, one behind the other, as cells at an address. -/
theorem ItemsAt.cells {w : World} {g o n cap : Nat} {its : List It} (h : ItemsAt w (.slice (some ⟨g, o, none⟩) n cap) its) : ∀ j u, (icells its)[j]? = some u → w.cell? ((⟨g, o, none⟩ : Addr).add j) = some u := by
  rcases h with ⟨h, _⟩ | ⟨g', o', cap', hv, _, _, hr⟩
  · cases h
  · simp only [Value.slice.injEq, Option.some.injEq, Addr.mk.injEq] at hv
    obtain ⟨⟨rfl, rfl, _⟩, _, _⟩ := hv
    intro j u hu
    have hj : j < its.length * 23 := by have := (List.getElem?_eq_some_iff.1 hu).1; rwa [icells_length] at this
    have hi : j / 23 < its.length := by omega
    have hk : j % 23 < 23 := Nat.mod_lt _ (by omega)
    have he : j = j / 23 * 23 + j % 23 := by omega
    rw [he, icells_at its _ hi _ hk] at hu
    have := hr (j / 23) hi (j % 23) u (by simpa using hu)
    rw [Addr.add_mid, he]
    rw [show o + j / 23 * 23 + j % 23 = o + (j / 23 * 23 + j % 23) by omega] at this
    exact this
theorem itemInfo3 : (Try.prog.info? 39).map (fun i => (i.zero, i.size, i.bytes)) = some (some (.agg itZ), 23, 240) := by kernel_rfl
theorem itemInfo2 : (Try.prog.info? 39).map (fun i => (i.zero, i.size)) = some (some (.agg itZ), 23) := by kernel_rfl
/-- append(nil, l...). -/
theorem items_copy (W : World) (v : Value) (its : List It) (h : ItemsAt W v its) (hl : its.length ≤ 1000) :
    ∃ v1 W1, (Builtin.append_ #[28, 28] 28 #[.slice none 0 0, v]).run Try.prog W = .ok v1 W1 ∧ W1.ownsRow W.heap.size 39 23 v1 its.length (icells its) ∧ Below W.heap.size W W1 := by
  obtain ⟨i0, hi0, hz0, hz1, hz2⟩ := info_parts itemInfo3
  have hnil := World.ownsRow_nil W W.heap.size 39 23
  rcases id h with ⟨rfl, rfl⟩ | ⟨g, o, cap, rfl, hc, hg, hr⟩
  · exact ⟨_, _, run_append_owned_none (P := Try.prog) (w := W) W.heap.size _ _ 39 i0 23 Try.underlying28 hi0 _ 0 [] hnil, hnil, Below.refl _ _⟩
  · obtain ⟨v1, W1, hrun, hown, hgr, _⟩ := run_append_own (P := Try.prog) W W.heap.size 28 28 39 i0 (.agg itZ) 23 240 Try.underlying28 hi0 hz0 hz1 hz2 rfl (by omega) _ 0 [] hnil
      ⟨g, o, none⟩ its.length cap (icells its) (icells_length its) h.cells (icells_one its) (by unfold maxLen; omega) (by omega) (Nat.le_refl _)
    rw [Nat.zero_add, List.nil_append] at hown
    exact ⟨v1, W1, hrun, hown, (Below.refl _ _).grown hgr (Nat.le_refl _) (fun k hk => by simp [Value.ownBlock] at hk)⟩
/-- append(m, x) on a list of the call's own. -/
theorem items_more (W : World) (B : Nat) (v : Value) (its : List It) (x : It) (g : Nat) (h : W.ownsRow B 39 23 v its.length (icells its)) (hB : B ≤ W.heap.size) (hg : W.heap[g]? = some (.cells (itV x) 39)) (hl : its.length ≤ 1000) :
    ∃ v1 W1, (Builtin.append_ #[28, 28] 28 #[v, .slice (some ⟨g, 0, none⟩) 1 1]).run Try.prog W = .ok v1 W1 ∧ W1.ownsRow B 39 23 v1 (its ++ [x]).length (icells (its ++ [x])) ∧ Below B W W1 := by
  obtain ⟨i0, hi0, hz0, hz1, hz2⟩ := info_parts itemInfo3
  obtain ⟨v1, W1, hrun, hown, hgr, _⟩ := run_append_own (P := Try.prog) W B 28 28 39 i0 (.agg itZ) 23 240 Try.underlying28 hi0 hz0 hz1 hz2 rfl (by omega) v its.length (icells its) h
    ⟨g, 0, none⟩ 1 1 (itV x).toList rfl (World.news_of_block (cs := itV x) (t := 39) (fr := (0, 0)) hg) (itV_one x) (by unfold maxLen; omega) (by omega) hB
  refine ⟨v1, W1, hrun, ?_, (Below.refl _ _).grown hgr hB (fun k hk => (h.lt k hk).1)⟩
  rw [icells_snoc, List.length_append]; exact hown
/-- What want tells (a law's struct: list, item, number, error). -/
def toldV (s : Value) (x : It) (n e : Int) : Array Value := #[s, .int .i64 x.1, .int .i64 x.2.1, .int .i64 x.2.2.1, .int .i64 0, .string ⟨#[]⟩, .int .i64 0, .string ⟨#[]⟩, .int .i64 0, .string ⟨#[]⟩, .int .i64 0, .int .i64 0, .int .i64 0, .bool false, .string ⟨#[]⟩, .string ⟨#[]⟩,
  .int .i64 0, .int .i64 0, .int .i64 0, .int .i64 0, .int .i64 0, .slice none 0 0, .int .i64 x.2.2.2.1, .int .i64 x.2.2.2.2, .int .i64 n, .int .i64 e]
theorem toldV_size (s : Value) (x : It) (n e : Int) : (toldV s x n e).size = 26 := rfl
theorem toldV_one (s : Value) (hs : s.oneCell' = true) (x : It) (n e : Int) : ∀ v ∈ (toldV s x n e).toList, v.oneCell' = true := by
  intro v hv
  simp [toldV, Value.oneCell'] at hv ⊢
  rcases hv with h | h | h | h | h | h | h | h | h | h | h | h | h | h | h | h | h | h | h <;> subst h <;> first | rfl | exact hs
theorem toldV_row (s : Value) (x : It) (n e : Int) : ∀ k, k < 23 → (toldV s x n e)[1 + k]? = (itV x)[k]? := by
  intro k hk
  rw [← Array.getElem?_toList, ← Array.getElem?_toList]
  have e1 : (toldV s x n e).toList = s :: ((itV x).toList ++ [.int .i64 n, .int .i64 e]) := rfl
  rw [e1, Nat.add_comm 1 k, List.getElem?_cons_succ, List.getElem?_append_left (by exact hk)]
theorem toldSize : (Try.prog.info? 41).map (·.size) = some 26 := by kernel_rfl
theorem told_zero (w : World) : (zeroValue 41).run Try.prog w = .ok (.agg (toldV (.slice none 0 0) (0, 0, 0, 0, 0) 0 0)) w := by kernel_rfl
theorem load_told {w : World} {g : Nat} {T : Array Value} (hg : w.heap[g]? = some (.cells T 41)) (hT : T.size = 26) : (loadVar 41 ⟨g, 0, none⟩).run Try.prog w = .ok (.agg T) w :=
  run_loadVar_row w g 41 41 T (0, 0) _ hg Try.underlying41 rfl (by rw [hT]; exact toldSize)
def WantIs (w : World) (v : Value) (its' : List It) (x : It) (n c : Int) (e : Ending) (w' : World) : Prop := ∃ ao m cap, e = .returned (.agg (toldV (.slice ao m cap) x n c)) ∧ ItemsAt w' (.slice ao m cap) its' ∧ Below w.heap.size w w' ∧ ∀ i, (Value.slice ao m cap).ownBlock = some i → v.ownBlock = some i ∨ w.heap.size ≤ i
end Go.Proofs.Ytemdhcocbjcklaa.Print

namespace Go.Proofs.Ytemdhcocbjcklaa.Print
open Go.RowKit Go.Proofs.Ytemdhcocbjcklaa.Open
attribute [local go_sem] run_loadVar_scalar

theorem slice_form {w : World} {v : Value} {its : List It} (h : ItemsAt w v its) : ∃ ao cap, v = .slice ao its.length cap := by
  rcases h with ⟨h, e⟩ | ⟨g, o, cap, h, _⟩
  · subst e; exact ⟨none, 0, h⟩
  · exact ⟨_, cap, h⟩
set_option maxRecDepth 100000 in
set_option maxHeartbeats 800000 in
attribute [-go_sem] Instr.build Instr.fill loadVar Builtin.append_ in
theorem want_full (x : A5) (room : Int) (w : World) (v : Value) (its : List It) (h : ItemsAt w v its) (hk : (x.1 == 0) = true) (hf : room ≤ its.length) :
    Calls Try.prog 16 #[v, .int .i64 room, .agg (actC x).toArray] w fun e w' => WantIs w v its (0, 0, 0, 0, 0) 0 31 e w' := by
  obtain ⟨ao, cap, rfl⟩ := slice_form h
  have hz : ∀ w, _ := told_zero
  have hb : ∀ w, (Instr.build 41 #[(0, .slice ao its.length cap), (3, .int .i64 31)]).run Try.prog w = .ok (.agg (toldV (.slice ao its.length cap) (0, 0, 0, 0, 0) 0 31)) w := fun w => run_build w 41 _ _ (by kernel_rfl)
  have hst := fun (w : World) => store_row (P := Try.prog) (alloc_at w (.cells (toldV (.slice none 0 0) (0, 0, 0, 0, 0) 0 0) 41)) (toldV (.slice ao its.length cap) (0, 0, 0, 0, 0) 0 31) rfl (toldV_one _ rfl _ _ _)
  have hA5 : (actC x).toArray.size = 5 := rfl
  have hA0 : (actC x).toArray[0]? = some (.int .i64 x.1) := rfl
  have hTs := toldV_size (.slice ao its.length cap) (0, 0, 0, 0, 0) 0 31
  have hpost : ∀ w', Below w.heap.size w w' → WantIs w (.slice ao its.length cap) its (0, 0, 0, 0, 0) 0 31 (.returned (.agg (toldV (.slice ao its.length cap) (0, 0, 0, 0, 0) 0 31))) w' := fun w' hB => ⟨_, _, _, rfl, h.below hB, hB, fun _ h => .inl h⟩
  generalize toldV (.slice ao its.length cap) (0, 0, 0, 0, 0) 0 31 = T at hb hst hTs hpost
  have hZs := toldV_size (.slice none 0 0) (0, 0, 0, 0, 0) 0 0
  generalize toldV (.slice none 0 0) (0, 0, 0, 0, 0) 0 0 = Z at hz hst hZs
  generalize (actC x).toArray = A at hA5 hA0 ⊢
  have hst1 := hst (w.alloc (.cells A 30))
  rw [World.setRow_alloc_new, World.size_alloc] at hst1
  have hld : (loadVar 41 ⟨w.heap.size + 1, 0, none⟩).run Try.prog ((w.alloc (.cells A 30)).alloc (.cells T 41)) = .ok (.agg T) ((w.alloc (.cells A 30)).alloc (.cells T 41)) := load_told (alloc_at' _ _ _ (by simp)) hTs
  have c0 : ((w.alloc (.cells A 30)).alloc (.cells Z 41)).cell? ⟨w.heap.size, 0, none⟩ = some (.int .i64 x.1) := (cell_of (alloc_old (alloc_at w _) _) 0).trans hA0
  have hle : decide (room ≤ its.length) = true := by simpa using hf
  have HP := Lib.hid hpost
  clear hst hA0 hpost
  go_enter Try.func16, Try.ntmps16
  go_wp2
  exact bodyPost_ret (v := .agg T) (by simp [results, Try.results16, asAddr, hld]) rfl (HP.out _ (((Below.refl _ _).alloc (Nat.le_refl _) _).alloc (by simp) _))
set_option maxRecDepth 100000 in
set_option maxHeartbeats 800000 in
attribute [-go_sem] Instr.build Instr.fill loadVar Builtin.append_ in
theorem want_none (x : A5) (room : Int) (w : World) (v : Value) (h : ItemsAt w v []) (hk0 : (x.1 == 0) = false) (hk : (x.1 == 1) = true) :
    Calls Try.prog 16 #[v, .int .i64 room, .agg (actC x).toArray] w fun e w' => WantIs w v [] (0, 0, 0, 0, 0) 0 6 e w' := by
  obtain ⟨ao, cap, rfl⟩ := slice_form h
  have hz : ∀ w, _ := told_zero
  have hb : ∀ w, (Instr.build 41 #[(3, .int .i64 6)]).run Try.prog w = .ok (.agg (toldV (.slice none 0 0) (0, 0, 0, 0, 0) 0 6)) w := fun w => run_build w 41 _ _ (by kernel_rfl)
  have hst := fun (w : World) => store_row (P := Try.prog) (alloc_at w (.cells (toldV (.slice none 0 0) (0, 0, 0, 0, 0) 0 0) 41)) (toldV (.slice none 0 0) (0, 0, 0, 0, 0) 0 6) rfl (toldV_one _ rfl _ _ _)
  have hA5 : (actC x).toArray.size = 5 := rfl
  have hA0 : (actC x).toArray[0]? = some (.int .i64 x.1) := rfl
  have hTs := toldV_size (.slice none 0 0) (0, 0, 0, 0, 0) 0 6
  have hpost : ∀ w', Below w.heap.size w w' → WantIs w (.slice ao ([] : List It).length cap) [] (0, 0, 0, 0, 0) 0 6 (.returned (.agg (toldV (.slice none 0 0) (0, 0, 0, 0, 0) 0 6))) w' := fun w' hB => ⟨_, _, _, rfl, .inl ⟨rfl, rfl⟩, hB, fun i h => by simp [Value.ownBlock] at h⟩
  generalize toldV (.slice none 0 0) (0, 0, 0, 0, 0) 0 6 = T at hb hst hTs hpost
  have hZs := toldV_size (.slice none 0 0) (0, 0, 0, 0, 0) 0 0
  generalize toldV (.slice none 0 0) (0, 0, 0, 0, 0) 0 0 = Z at hz hst hZs
  generalize (actC x).toArray = A at hA5 hA0 ⊢
  have hst1 := hst (w.alloc (.cells A 30))
  rw [World.setRow_alloc_new, World.size_alloc] at hst1
  have hld : (loadVar 41 ⟨w.heap.size + 1, 0, none⟩).run Try.prog ((w.alloc (.cells A 30)).alloc (.cells T 41)) = .ok (.agg T) ((w.alloc (.cells A 30)).alloc (.cells T 41)) := load_told (alloc_at' _ _ _ (by simp)) hTs
  have c0 : ((w.alloc (.cells A 30)).alloc (.cells Z 41)).cell? ⟨w.heap.size, 0, none⟩ = some (.int .i64 x.1) := (cell_of (alloc_old (alloc_at w _) _) 0).trans hA0
  have HP := Lib.hid hpost
  clear hst hA0 hpost
  go_enter Try.func16, Try.ntmps16
  go_wp2
  exact bodyPost_ret (v := .agg T) (by simp [results, Try.results16, asAddr, hld]) rfl (HP.out _ (((Below.refl _ _).alloc (Nat.le_refl _) _).alloc (by simp) _))
end Go.Proofs.Ytemdhcocbjcklaa.Print

namespace Go.Proofs.Ytemdhcocbjcklaa.Print
open Go.RowKit Go.Proofs.Ytemdhcocbjcklaa.Open
attribute [local go_sem] run_loadVar_scalar
set_option maxRecDepth 100000 in
set_option maxHeartbeats 800000 in
attribute [-go_sem] Instr.build Instr.fill loadVar Builtin.append_ in
theorem want_pop (x : A5) (room : Int) (w : World) (v : Value) (y : It) (r : List It) (h : ItemsAt w v (y :: r)) (hk0 : (x.1 == 0) = false) (hk : (x.1 == 1) = true) :
    Calls Try.prog 16 #[v, .int .i64 room, .agg (actC x).toArray] w fun e w' => WantIs w v r y 0 0 e w' := by
  rcases h with ⟨_, h⟩ | ⟨g, o, cap, rfl, hc, hg, hrr⟩
  · cases h
  have hg := hg (by simp)
  have hz : ∀ w, _ := told_zero
  have hr0 := hrr 0 (by simp)
  rw [Nat.zero_mul, Nat.add_zero] at hr0
  obtain ⟨a1, ha1⟩ : ∃ a1, (if cap = 1 then some (⟨g, o, none⟩ : Addr) else some ⟨g, o + 23, none⟩) = a1 := ⟨_, rfl⟩
  have hb : ∀ w, (Instr.build 41 #[(0, .slice a1 r.length (cap - 1)), (1, .agg (itV y))]).run Try.prog w = .ok (.agg (toldV (.slice a1 r.length (cap - 1)) y 0 0)) w := fun w => run_build w 41 _ _ (by kernel_rfl)
  have hst := fun (w : World) => store_row (P := Try.prog) (alloc_at w (.cells (toldV (.slice none 0 0) (0, 0, 0, 0, 0) 0 0) 41)) (toldV (.slice a1 r.length (cap - 1)) y 0 0) rfl (toldV_one _ rfl _ _ _)
  have hA5 : (actC x).toArray.size = 5 := rfl
  have hA0 : (actC x).toArray[0]? = some (.int .i64 x.1) := rfl
  have hTs := toldV_size (.slice a1 r.length (cap - 1)) y 0 0
  have hT1 := toldV_one (.slice a1 r.length (cap - 1)) rfl y 0 0
  have hpost : ∀ w', Below w.heap.size w w' → WantIs w (.slice (some ⟨g, o, none⟩) (y :: r).length cap) r y 0 0 (.returned (.agg (toldV (.slice a1 r.length (cap - 1)) y 0 0))) w' := fun w' hB => by
    refine ⟨_, _, _, rfl, ItemsAt.below ?_ hB, hB, fun i hi => .inl ?_⟩
    rotate_left
    · rw [← ha1] at hi
      split at hi <;> exact hi
    by_cases hc1 : cap = 1
    · have : r = [] := by
        simp only [List.length_cons] at hc
        exact List.eq_nil_of_length_eq_zero (by omega)
      subst this
      rw [if_pos hc1] at ha1
      exact .inr ⟨g, o, cap - 1, by rw [← ha1], by simp, fun h => absurd rfl h, fun i hi => by cases hi⟩
    · rw [if_neg hc1] at ha1
      refine .inr ⟨g, o + 23, cap - 1, by rw [← ha1], by simp only [List.length_cons] at hc; omega, fun _ => hg, fun i hi => ?_⟩
      have := hrr (i + 1) (by simpa using hi)
      rw [show o + (i + 1) * 23 = o + 23 + i * 23 by omega] at this
      exact this
  have hA : ∀ W, Below w.heap.size w W → (loadVar 39 ⟨g, o, none⟩).run Try.prog W = .ok (.agg (itV y)) W := fun W hB => by
    have hW : W.rangeAt g o (itV y).toList := fun j u hu => by rw [World.cell?_of_block (w := w) (hB.block g hg)]; exact hr0 j u hu
    exact run_loadVar_mid W g o 39 (itV y).toList _ hW Try.underlying39 rfl (by rw [show (itV y).toList.length = 23 from rfl]; exact itemInfo)
  generalize toldV (.slice a1 r.length (cap - 1)) y 0 0 = T at hb hst hTs hpost hT1
  have hZs := toldV_size (.slice none 0 0) (0, 0, 0, 0, 0) 0 0
  generalize toldV (.slice none 0 0) (0, 0, 0, 0, 0) 0 0 = Z at hz hst hZs
  generalize (actC x).toArray = A at hA5 hA0 ⊢
  generalize itV y = Y at hb hA hr0
  have hst1 := hst (w.alloc (.cells A 30))
  rw [World.setRow_alloc_new, World.size_alloc] at hst1
  have hBB : ∀ T, Below w.heap.size w ((w.alloc (.cells A 30)).alloc (.cells T 41)) := fun T => ((Below.refl _ _).alloc (Nat.le_refl _) _).alloc (by simp) _
  have hld : (loadVar 41 ⟨w.heap.size + 1, 0, none⟩).run Try.prog ((w.alloc (.cells A 30)).alloc (.cells T 41)).drew = .ok (.agg T) ((w.alloc (.cells A 30)).alloc (.cells T 41)).drew := load_told (alloc_at' (w.alloc (.cells A 30)) _ _ (by simp)) hTs
  have hldy := hA ((w.alloc (.cells A 30)).alloc (.cells Z 41)).drew (hBB Z).drew
  have hst2 : (storeCells ⟨w.heap.size + 1, 0, none⟩ T.toList).run Try.prog ((w.alloc (.cells A 30)).alloc (.cells Z 41)).drew = .ok () ((w.alloc (.cells A 30)).alloc (.cells T 41)).drew := by
    have h := store_row (P := Try.prog) (w := ((w.alloc (.cells A 30)).alloc (.cells Z 41)).drew) (alloc_at' (w.alloc (.cells A 30)) (.cells Z 41) (w.heap.size + 1) (by simp)) T (by omega) hT1
    have e : ((w.alloc (.cells A 30)).alloc (.cells Z 41)).setRow (w.alloc (.cells A 30)).heap.size T = (w.alloc (.cells A 30)).alloc (.cells T 41) := World.setRow_alloc_new _ _ _ _
    rw [World.size_alloc] at e
    exact h.trans (congrArg (fun w : World => Result.ok () w.drew) e)
  have c0 : ((w.alloc (.cells A 30)).alloc (.cells Z 41)).cell? ⟨w.heap.size, 0, none⟩ = some (.int .i64 x.1) := (cell_of (alloc_old (alloc_at w _) _) 0).trans hA0
  have HP := Lib.hid hpost
  have hne : ((y :: r).length == 0) = false := by simp
  have hln : (y :: r).length = r.length + 1 := rfl
  have HT1 := Lib.hid hT1
  clear hst hA0 hpost hrr hr0 hT1
  go_enter Try.func16, Try.ntmps16
  go_wp2
  go_region
  go_wp2
  exact bodyPost_ret (v := .agg T) (by simp [results, Try.results16, asAddr, hld]) rfl (HP.out _ (hBB T).drew)
end Go.Proofs.Ytemdhcocbjcklaa.Print

namespace Go.Proofs.Ytemdhcocbjcklaa.Print
open Go.RowKit Go.Proofs.Ytemdhcocbjcklaa.Open
attribute [local go_sem] run_loadVar_scalar
theorem below_up {B : Nat} {w w1 w2 : World} (h : Below w.heap.size w w1) (k : Below B w1 w2) (hB : w.heap.size ≤ B) : Below w.heap.size w w2 := h.trans (k.mono hB)
theorem own_form {w : World} {base n : Nat} {v : Value} {xs : List Value} (h : w.ownsRow base 39 23 v n xs) : ∃ ao m cap, v = .slice ao m cap := by
  rcases h.2 with ⟨h, _⟩ | ⟨g, cap, cur, h, _⟩
  · exact ⟨_, _, _, h⟩
  · exact ⟨_, _, _, h⟩
set_option maxRecDepth 100000 in
set_option maxHeartbeats 800000 in
attribute [-go_sem] Instr.build Instr.fill Instr.buildSlice loadVar Builtin.append_ in
theorem want_push (x : A5) (room : Int) (w : World) (v : Value) (its : List It) (h : ItemsAt w v its) (hk : (x.1 == 0) = true) (hf : its.length < room) (hr : room ≤ 16) :
    Calls Try.prog 16 #[v, .int .i64 room, .agg (actC x).toArray] w fun e w' => WantIs w v (its ++ [actIt x]) (0, 0, 0, 0, 0) 0 0 e w' := by
  obtain ⟨ao, cap, rfl⟩ := slice_form h
  have hz : ∀ w, _ := told_zero
  have hA5 : (actC x).toArray.size = 5 := rfl
  have hA0 : (actC x).toArray[0]? = some (.int .i64 x.1) := rfl
  have hitem := actItem x
  have hbs := fun (w' : World) => run_buildSlice_one (P := Try.prog) w' 28 39 _ 23 (itV (actIt x)) Try.underlying28 itemInfo2 (by omega) (by omega) (itV_size _)
  have hmore := fun (W : World) (B : Nat) (v1 : Value) (g : Nat) (o : W.ownsRow B 39 23 v1 its.length (icells its)) (hB : B ≤ W.heap.size) (hg : W.heap[g]? = some (.cells (itV (actIt x)) 39)) => items_more W B v1 its (actIt x) g o hB hg (by omega)
  have hZs := toldV_size (.slice none 0 0) (0, 0, 0, 0, 0) 0 0
  generalize toldV (.slice none 0 0) (0, 0, 0, 0, 0) 0 0 = Z at hz hZs
  generalize (actC x).toArray = A at hA5 hA0 hitem ⊢
  generalize itV (actIt x) = X at hitem hbs hmore
  have g0 := alloc_old (alloc_at w (.cells A 30)) (.cells Z 41)
  have g1 := alloc_at' (w.alloc (.cells A 30)) (.cells Z 41) (w.heap.size + 1) (by simp)
  have hB1 : Below w.heap.size w ((w.alloc (.cells A 30)).alloc (.cells Z 41)) := ((Below.refl _ _).alloc (Nat.le_refl _) _).alloc (by simp) _
  have hs1 : ((w.alloc (.cells A 30)).alloc (.cells Z 41)).heap.size = w.heap.size + 2 := by simp
  have c0 : ((w.alloc (.cells A 30)).alloc (.cells Z 41)).cell? ⟨w.heap.size, 0, none⟩ = some (.int .i64 x.1) := (cell_of g0 0).trans hA0
  obtain ⟨v1, W2, hrun1, own1, hb2⟩ := items_copy _ _ its (h.below hB1) (by omega)
  have hld2 := load_act (later_of g0 hb2) hA5
  have hle : decide (room ≤ its.length) = false := by simp; omega
  have HIT := Lib.hid hitem
  have HMORE := Lib.hid hmore
  have HO1 := Lib.hid own1
  have HB2 := Lib.hid hb2
  have HB1 := Lib.hid hB1
  have HG1 := Lib.hid g1
  have HS1 := Lib.hid hs1
  clear hitem hmore own1 hb2 hB1 g1 hs1 g0 hA0
  go_enter Try.func16, Try.ntmps16
  go_wp2_with fail
  refine (HIT.out _).mono ?_
  rintro y W3 ⟨rfl, hb3⟩
  have hb13 := below_chain HB2.out hb3
  have own3 := (ownsRow_upd (S := fun _ => False) (Upd.of_below hb3) HO1.out (fun _ _ h => h)).alloc (.cells X 39)
  obtain ⟨v2, W4, hrun2, own4, hb4⟩ := HMORE.out _ _ v1 W3.heap.size own3 (Nat.le_trans hb13.size (by rw [World.size_alloc]; omega)) (alloc_at W3 _)
  obtain ⟨ao2, m2, cap2, rfl⟩ := own_form own4
  have hb14 := (hb13.alloc hb13.size (.cells X 39)).trans hb4
  have g4 := later_of HG1.out hb14
  have hbt : ∀ w, (Instr.build 41 #[(0, .slice ao2 m2 cap2)]).run Try.prog w = .ok (.agg (toldV (.slice ao2 m2 cap2) (0, 0, 0, 0, 0) 0 0)) w := fun w => run_build w 41 _ _ (by kernel_rfl)
  have hTs := toldV_size (.slice ao2 m2 cap2) (0, 0, 0, 0, 0) 0 0
  have hst4 := store_row (P := Try.prog) g4 (toldV (.slice ao2 m2 cap2) (0, 0, 0, 0, 0) 0 0) (by rw [hZs, hTs]) (toldV_one _ rfl _ _ _)
  have hld4 := load_told (setRow_block (X := toldV (.slice ao2 m2 cap2) (0, 0, 0, 0, 0) 0 0) g4) hTs
  have hB4 : Below w.heap.size w W4 := HB1.out.trans (hb14.mono (by have := HS1.out; omega))
  have hB5 : Below w.heap.size w (W4.setRow (w.heap.size + 1) (toldV (.slice ao2 m2 cap2) (0, 0, 0, 0, 0) 0 0)) := below_setRow hB4 (by omega) _
  have hI4 : ItemsAt W4 (.slice ao2 m2 cap2) (its ++ [actIt x]) := ItemsAt.of_own own4 rfl
  have hI5 : ItemsAt (W4.setRow (w.heap.size + 1) (toldV (.slice ao2 m2 cap2) (0, 0, 0, 0, 0) 0 0)) (.slice ao2 m2 cap2) (its ++ [actIt x]) := hI4.keep (S := fun i => i = w.heap.size + 1) ((Upd.refl (fun i => i = w.heap.size + 1) W4).setRow (fun _ => rfl) _) (fun i hi _ e => by have := (own4.lt i hi).1; have := HS1.out; omega)
  have hpost : WantIs w (.slice ao its.length cap) (its ++ [actIt x]) (0, 0, 0, 0, 0) 0 0 (.returned (.agg (toldV (.slice ao2 m2 cap2) (0, 0, 0, 0, 0) 0 0))) (W4.setRow (w.heap.size + 1) (toldV (.slice ao2 m2 cap2) (0, 0, 0, 0, 0) 0 0)) := ⟨_, _, _, rfl, hI5, hB5, fun i hi => .inr (by have := (own4.lt i hi).1; have := HS1.out; omega)⟩
  generalize toldV (.slice ao2 m2 cap2) (0, 0, 0, 0, 0) 0 0 = T at hbt hTs hst4 hld4 hpost
  have HP := Lib.hid hpost
  clear hpost hI5 hI4 hB5 hB4 g4 hb14 hb4 own4 own3 hb13 hb3
  go_wp2
  exact bodyPost_ret (v := .agg T) (by simp [results, Try.results16, asAddr, hld4]) rfl HP.out
end Go.Proofs.Ytemdhcocbjcklaa.Print

namespace Go.Proofs.Ytemdhcocbjcklaa.Print
open Go.RowKit Go.Proofs.Ytemdhcocbjcklaa.Open
attribute [local go_sem] run_loadVar_scalar
theorem ItemsAt.row {w : World} {ao : Option Addr} {n cap : Nat} {its : List It} (h : ItemsAt w (.slice ao n cap) its) (j : Nat) (hj : j < its.length) :
    ∃ g o, ao = some ⟨g, o, none⟩ ∧ ∀ W, Below w.heap.size w W → (loadVar 39 ⟨g, o + j * 23, none⟩).run Try.prog W = .ok (.agg (itV its[j])) W := by
  rcases h with ⟨_, h⟩ | ⟨g, o, c, hv, _, hg, hr⟩
  · subst h; cases hj
  · simp only [Value.slice.injEq] at hv
    refine ⟨g, o, hv.1, fun W hB => ?_⟩
    have hne : its ≠ [] := by intro e; subst e; cases hj
    have hW : W.rangeAt g (o + j * 23) (itV its[j]).toList := fun k u hu => by rw [World.cell?_of_block (w := w) (hB.block g (hg hne))]; exact hr j hj k u hu
    exact run_loadVar_mid W g (o + j * 23) 39 (itV its[j]).toList _ hW Try.underlying39 rfl (by rw [show (itV its[j]).toList.length = 23 from rfl]; exact itemInfo)
def WDRel (w w1 : World) (its : List It) (s : Int) (vm i : Value) (wr : World) : Prop :=
  ∃ j : Nat, j ≤ its.length ∧ i = .int .i64 j ∧ Below w1.heap.size w1 wr ∧ wr.ownsRow w1.heap.size 39 23 vm (others s (its.take j)).length (icells (others s (its.take j))) ∧ Below w.heap.size w wr
theorem cnt_others (s : Int) (l : List It) : cnt s l + (others s l).length = l.length := by
  induction l with
  | nil => rfl
  | cons a r ih =>
    unfold cnt others at ih ⊢
    cases h : (a.1 == s) <;> simp [h] <;> omega
set_option maxRecDepth 100000 in
set_option maxHeartbeats 1600000 in
attribute [-go_sem] Instr.build Instr.fill Instr.buildSlice loadVar Builtin.append_ in
theorem want_drop (x : A5) (room : Int) (w : World) (v : Value) (its : List It) (h : ItemsAt w v its) (hk0 : (x.1 == 0) = false) (hk1 : (x.1 == 1) = false) (hl : its.length ≤ 16) :
    Calls Try.prog 16 #[v, .int .i64 room, .agg (actC x).toArray] w fun e w' => WantIs w v (others x.2.1 its) (0, 0, 0, 0, 0) (cnt x.2.1 its) 0 e w' := by
  obtain ⟨ao, cap, rfl⟩ := slice_form h
  have hz : ∀ w, _ := told_zero
  have hz39 : ∀ w, (zeroValue 39).run Try.prog w = .ok (.agg itZ) w := zero_item
  have hZs39 := itZ_size
  have hst0 := fun (w : World) (x : It) => store_row (P := Try.prog) (alloc_at w (.cells itZ 39)) (itV x) rfl (itV_one x)
  have hbs0 := fun (w' : World) (x : It) => run_buildSlice_one (P := Try.prog) w' 28 39 _ 23 (itV x) Try.underlying28 itemInfo2 (by omega) (by omega) (itV_size _)
  generalize itZ = Y at hz39 hZs39 hst0
  have hA5 : (actC x).toArray.size = 5 := rfl
  have hA0 : (actC x).toArray[0]? = some (.int .i64 x.1) := rfl
  have hA1 : (actC x).toArray[1]? = some (.int .i64 x.2.1) := rfl
  have hZs := toldV_size (.slice none 0 0) (0, 0, 0, 0, 0) 0 0
  generalize toldV (.slice none 0 0) (0, 0, 0, 0, 0) 0 0 = Z at hz hZs
  generalize (actC x).toArray = A at hA5 hA0 hA1 ⊢
  have g0 := alloc_old (alloc_at w (.cells A 30)) (.cells Z 41)
  have g1 := alloc_at' (w.alloc (.cells A 30)) (.cells Z 41) (w.heap.size + 1) (by simp)
  have hB1 : Below w.heap.size w ((w.alloc (.cells A 30)).alloc (.cells Z 41)) := ((Below.refl _ _).alloc (Nat.le_refl _) _).alloc (by simp) _
  have hs1 : ((w.alloc (.cells A 30)).alloc (.cells Z 41)).heap.size = w.heap.size + 2 := by simp
  have c0 : ((w.alloc (.cells A 30)).alloc (.cells Z 41)).cell? ⟨w.heap.size, 0, none⟩ = some (.int .i64 x.1) := (cell_of g0 0).trans hA0
  have HST := Lib.hid hst0
  have HBS := Lib.hid hbs0
  have HI := Lib.hid h
  clear hst0 hbs0 h
  go_enter Try.func16, Try.ntmps16
  go_wp2
  generalize (w.alloc (.cells A 30)).alloc (.cells Z 41) = W1 at g0 g1 hB1 hs1 c0 ⊢
  have HG0 := Lib.hid g0
  have HG1 := Lib.hid g1
  have HB1 := Lib.hid hB1
  have HS1 := Lib.hid hs1
  have HA1 := Lib.hid hA1
  clear g0 g1 hB1 hs1 c0 hA0 hA1
  go_loopw [8, 45] (fun vm i wr => WDRel w W1 its x.2.1 vm i wr) (fun _ i _ => its.length - (intOf i).toNat)
  case atStart => exact ⟨0, Nat.zero_le _, rfl, Below.refl _ _, World.ownsRow_nil _ _ _ _, HB1.out⟩
  case round =>
    obtain ⟨j, hj, rfl, hb, own, hB⟩ := hrel
    have gA := later_of HG0.out hb
    by_cases hlj : j < its.length
    · obtain ⟨g, o, rfl, hrow⟩ := HI.out.row j hlj
      have hld := hrow wr hB
      have hst := HST.out wr its[j]
      rw [World.setRow_alloc_new] at hst
      have hbs := HBS.out (wr.alloc (.cells (itV its[j]) 39)) its[j]
      have hX0 : (itV its[j])[0]? = some (.int .i64 (its[j]).1) := rfl
      have hXs := itV_size its[j]
      have htk : its.take (j + 1) = its.take j ++ [its[j]] := List.take_succ_eq_append_getElem hlj
      have hol : (others x.2.1 (its.take j)).length ≤ 1000 := Nat.le_trans (Nat.le_trans (List.length_filter_le _ _) (List.length_take_le _ _)) (by omega)
      have hb2 := hb.alloc hb.size (.cells (itV its[j]) 39)
      have hB2 := hB.alloc hB.size (.cells (itV its[j]) 39)
      have hmore := items_more ((wr.alloc (.cells (itV its[j]) 39)).alloc (.cells (itV its[j]) 39)) W1.heap.size _ (others x.2.1 (its.take j)) its[j] (wr.heap.size + 1) ((own.alloc _).alloc _) (hb2.alloc hb2.size (.cells (itV its[j]) 39)).size (alloc_at' _ _ _ (by simp)) hol
      have hb3 := hb2.alloc hb2.size (.cells (itV its[j]) 39)
      have hB3 := hB2.alloc hB2.size (.cells (itV its[j]) 39)
      have hc0 : (wr.alloc (.cells (itV its[j]) 39)).cell? ⟨wr.heap.size, 0, none⟩ = some (.int .i64 (its[j]).1) := (cell_of (alloc_at _ _) 0).trans hX0
      have hld2 := load_row23 (alloc_at wr (.cells (itV its[j]) 39)) hXs
      have hcs : (wr.alloc (.cells (itV its[j]) 39)).cell? ⟨w.heap.size, 1, none⟩ = some (.int .i64 x.2.1) := (cell_of (alloc_old gA _) 1).trans HA1.out
      have own2 := own.alloc (.cells (itV its[j]) 39)
      generalize itV its[j] = X at hld hst hbs hX0 hXs hmore hc0 hld2 hcs hb2 hB2 hb3 hB3 own2
      have HTK := Lib.hid htk
      have HB2 := Lib.hid hb2
      have HBB2 := Lib.hid hB2
      have HB3 := Lib.hid hb3
      have HBB3 := Lib.hid hB3
      have HO2 := Lib.hid own2
      clear htk hb2 hB2 hb3 hB3 own2 own gA hX0 hol hrow
      by_cases he : (its[j]).1 = x.2.1
      · have hbe : ((its[j]).1 == x.2.1) = true := by simpa using he
        have hbn : ((its[j]).1 != x.2.1) = false := by simp [he]
        have HE := Lib.hid hbe
        clear he hmore hbs hbe
        go_wp2
        go_roundw
        case rel => exact ⟨j + 1, by omega, by go_num, HB2.out, by rw [HTK.out, others_yes _ _ _ HE.out]; exact HO2.out, HBB2.out⟩
        case measure => simp [intOf]; omega
      · have hbe : ((its[j]).1 == x.2.1) = false := by simpa using he
        have hbn : ((its[j]).1 != x.2.1) = true := by simpa using he
        have HE := Lib.hid hbe
        clear he hbe
        obtain ⟨v2, W4, hrun, own4, hb4⟩ := hmore
        have HO4 := Lib.hid own4
        have HB4 := Lib.hid hb4
        clear own4 hb4
        go_wp2
        go_roundw
        case rel => exact ⟨j + 1, by omega, by go_num, HB3.out.trans HB4.out, by rw [HTK.out, others_no _ _ _ HE.out]; exact HO4.out, HBB3.out.trans (HB4.out.mono (by have := HS1.out; omega))⟩
        case measure => simp [intOf]; omega
    · have hj' : j = its.length := by omega
      subst hj'
      rw [List.take_length] at own
      obtain ⟨a2, m2, cap2, rfl⟩ := own_form own
      have hm2 : m2 = (others x.2.1 its).length := by
        rcases own.2 with ⟨h, h0⟩ | ⟨_, _, _, h, _⟩
        · simp only [Value.slice.injEq] at h; omega
        · simp only [Value.slice.injEq] at h; exact h.2.1
      have hco := cnt_others x.2.1 its
      have g4 := later_of HG1.out hb
      have hbt : ∀ w, (Instr.build 41 #[(0, .slice a2 m2 cap2), (2, .int .i64 (cnt x.2.1 its))]).run Try.prog w = .ok (.agg (toldV (.slice a2 m2 cap2) (0, 0, 0, 0, 0) (cnt x.2.1 its) 0)) w := fun w => run_build w 41 _ _ (by kernel_rfl)
      have hTs := toldV_size (.slice a2 m2 cap2) (0, 0, 0, 0, 0) (cnt x.2.1 its) 0
      have hst4 := store_row (P := Try.prog) g4 (toldV (.slice a2 m2 cap2) (0, 0, 0, 0, 0) (cnt x.2.1 its) 0) (by rw [hZs, hTs]) (toldV_one _ rfl _ _ _)
      have hld4 := load_told (setRow_block (X := toldV (.slice a2 m2 cap2) (0, 0, 0, 0, 0) (cnt x.2.1 its) 0) g4) hTs
      have hB5 : Below w.heap.size w (wr.setRow (w.heap.size + 1) (toldV (.slice a2 m2 cap2) (0, 0, 0, 0, 0) (cnt x.2.1 its) 0)) := below_setRow hB (by omega) _
      have hI4 : ItemsAt wr (.slice a2 m2 cap2) (others x.2.1 its) := ItemsAt.of_own own rfl
      have hI5 : ItemsAt (wr.setRow (w.heap.size + 1) (toldV (.slice a2 m2 cap2) (0, 0, 0, 0, 0) (cnt x.2.1 its) 0)) (.slice a2 m2 cap2) (others x.2.1 its) := hI4.keep (S := fun i => i = w.heap.size + 1) ((Upd.refl (fun i => i = w.heap.size + 1) wr).setRow (fun _ => rfl) _) (fun i hi _ e => by have := (own.lt i hi).1; have := HS1.out; omega)
      have hpost : WantIs w (.slice ao its.length cap) (others x.2.1 its) (0, 0, 0, 0, 0) (cnt x.2.1 its) 0 (.returned (.agg (toldV (.slice a2 m2 cap2) (0, 0, 0, 0, 0) (cnt x.2.1 its) 0))) (wr.setRow (w.heap.size + 1) (toldV (.slice a2 m2 cap2) (0, 0, 0, 0, 0) (cnt x.2.1 its) 0)) := ⟨_, _, _, rfl, hI5, hB5, fun i hi => .inr (by have := (own.lt i hi).1; have := HS1.out; omega)⟩
      generalize toldV (.slice a2 m2 cap2) (0, 0, 0, 0, 0) (cnt x.2.1 its) 0 = T at hbt hTs hst4 hld4 hpost
      have hsub : IntKind.i64.wrap ((its.length : Int) - (m2 : Int)) = (cnt x.2.1 its : Int) := by rw [IntKind.wrap_i64]; omega
      have hsub2 : (its.length : Int) - (m2 : Int) = (cnt x.2.1 its : Int) := by omega
      have HP := Lib.hid hpost
      clear hpost hI5 hI4 hB5 g4 own gA hb hB hm2 hco
      go_wp2
      exact bodyPost_ret (v := .agg T) (by simp [results, Try.results16, asAddr, hld4]) rfl HP.out
end Go.Proofs.Ytemdhcocbjcklaa.Print

namespace Go.Proofs.Ytemdhcocbjcklaa.Print
open Go.RowKit Go.Proofs.Ytemdhcocbjcklaa.Open
set_option maxRecDepth 100000 in
set_option maxHeartbeats 800000 in
theorem rests_any {w : World} {b room : Nat} {its : List It} {v : Value} (q : QIs w b its room) (h : ItemsAt w v its) (i : Int) (hi : i = room) :
    Calls Try.prog 22 #[.pointer (some ⟨b, 0, none⟩), v, .int .i64 i] w fun e w' => e = .returned (.bool true) ∧ Below w.heap.size w w' := by
  subst hi
  have hle := q.le
  have hroom := qroom_z q
  have hsub : IntKind.i64.wrap ((room : Int) - (its.length : Int)) = (room : Int) - (its.length : Int) := by rw [IntKind.wrap_i64]; omega
  have HR := Lib.hid hroom
  clear hroom
  cases its with
  | nil =>
    obtain ⟨ao, cap, rfl⟩ := slice_form h
    have HQ := Lib.hid q
    clear q h
    go_enter Try.func22, Try.ntmps22
    go_wp2_with fail
    refine (qlen_z HQ.out).mono ?_
    rintro y w1 ⟨rfl, rfl⟩
    go_wp2_with fail
    refine HR.out.mono ?_
    rintro y w2 ⟨rfl, hb2⟩
    go_wp2_with fail
    refine (qoldest_z (HQ.out.below hb2)).mono ?_
    rintro y w3 ⟨rfl, hb3⟩
    have hold : oldest [] = -1 := rfl
    go_wp2
    go_ret
    exact ⟨rfl, below_chain hb2 hb3⟩
  | cons x r =>
    rcases h with ⟨_, h⟩ | ⟨g, o, cap, rfl, hc, hg, hrr⟩
    · cases h
    have c22 : w.cell? ⟨g, o + 22, none⟩ = some (.int .i64 x.2.2.2.2) := by
      have := hrr 0 (by simp) 22 (.int .i64 x.2.2.2.2) rfl
      rwa [Nat.zero_mul, Nat.add_zero] at this
    have hpos : decide (0 < (x :: r).length) = true := by simp
    have hold : oldest (x :: r) = x.2.2.2.2 := rfl
    have HQ := Lib.hid q
    have HO := Lib.hid hold
    have HLE := Lib.hid hle
    clear q hrr hg hold
    generalize hn : (x :: r).length = n at *
    have hn0 : 0 < n := by rw [← hn]; simp
    have HN := Lib.hid hn
    clear hn hc hle
    go_enter Try.func22, Try.ntmps22
    go_wp2_with fail
    refine (qlen_z HQ.out).mono ?_
    rintro y w1 ⟨rfl, rfl⟩
    rw [HN.out]
    go_wp2_with fail
    refine HR.out.mono ?_
    rintro y w2 ⟨rfl, hb2⟩
    go_wp2_with fail
    refine (qoldest_z (HQ.out.below hb2)).mono ?_
    rintro y w3 ⟨rfl, hb3⟩
    rw [HO.out]
    go_wp2
    go_ret
    exact ⟨rfl, below_chain hb2 hb3⟩
end Go.Proofs.Ytemdhcocbjcklaa.Print
