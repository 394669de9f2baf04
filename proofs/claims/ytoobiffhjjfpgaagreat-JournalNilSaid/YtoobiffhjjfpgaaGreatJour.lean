/- journal: a journal as an object over its log; a nil one; New, Append, Gen, Segments, Grown, Need. -/
import Derived.Test.YtoobiffhjjfpgaaGreatLogF
import Derived.Test.YtoobiffhjjfpgaaGreatStep
namespace Go.Proofs.YtoobiffhjjfpgaaGreat.Print
open Go.RowKit
attribute [local go_sem] run_loadVar_scalar

abbrev jObj (g v p : Nat) : Obj := .cells #[.pointer (some ⟨g, 0, none⟩), .pointer (some ⟨v, 0, none⟩), .pointer (some ⟨p, 0, none⟩)] 111
/-- A journal: its block, its log, its view and pool apart. -/
def JIs (j v p : Nat) (L : LogM) (w : World) (J : Foot) : Prop :=
  ∃ (g : Nat) (G : Foot), w.heap[j]? = some (jObj g v p) ∧ LogIs g v p L w G ∧ ¬ G j ∧ ∀ i, J i ↔ i = j ∨ G i
theorem JIs.there {j v p : Nat} {L : LogM} : There (JIs j v p L) := by
  rintro w J ⟨g, G, h1, h2, _, hJ⟩ i hi
  rcases (hJ i).1 hi with rfl | h
  · exact lt_of h1
  · exact LogIs.there h2 i h
theorem JIs.stays {j v p : Nat} {L : LogM} : Stays (JIs j v p L) := by
  rintro w w' S J ⟨g, G, h1, h2, h3, hJ⟩ hU hn
  exact ⟨g, G, hU.at_ h1 (hn j ((hJ j).2 (.inl rfl))), LogIs.stays h2 hU (fun i hi => hn i ((hJ i).2 (.inr hi))), h3, hJ⟩
theorem JIs.log {j v p : Nat} {L : LogM} {w : World} {J : Foot} (h : JIs j v p L w J) : ∃ (g : Nat) (G : Foot), w.heap[j]? = some (jObj g v p) ∧ LogIs g v p L w G ∧ ∀ i, G i → J i := by
  obtain ⟨g, G, h1, h2, _, hJ⟩ := h
  exact ⟨g, G, h1, h2, fun i hi => (hJ i).2 (.inr hi)⟩

/-! ### A nil journal -/
theorem jnew_nil (id gen : Int) (w : World) : Calls Tryz.prog 18 #[.pointer none, .pointer none, .int .i64 id, .int .u32 gen] w fun x w' => x = .returned (.tuple #[.pointer none, .int .i64 7]) ∧ w = w' := by
  go_enter Tryz.func18, Tryz.ntmps18
  go_wp2_with fail
  refine (lognew_nil _ _ _ _ rfl _).mono ?_
  rintro x w1 ⟨rfl, rfl⟩
  go_wp2
  exact bodyPost_ret (v := .tuple #[.pointer none, .int .i64 7]) (by simp [results, Tryz.results18, go_sem]) rfl ⟨rfl, rfl⟩
theorem jopen_nil (id gen : Int) (w : World) : Calls Tryz.prog 36 #[.pointer none, .pointer none, .int .i64 id, .int .u32 gen, .slice none 0 0] w fun x w' => x = .returned (.tuple #[.pointer none, .slice none 0 0, .int .i64 7]) ∧ w = w' := by
  go_enter Tryz.func36, Tryz.ntmps36
  go_wp2_with fail
  refine (jnew_nil _ _ _).mono ?_
  rintro x w1 ⟨rfl, rfl⟩
  go_wp2
  exact bodyPost_ret (v := .tuple #[.pointer none, .slice none 0 0, .int .i64 7]) (by simp [results, Tryz.results36, go_sem]) rfl ⟨rfl, rfl⟩
theorem janew_nil (v : Value) (w : World) : Calls Tryz.prog 26 #[.pointer none, v] w fun x w' => x = .returned (.tuple #[.pointer none, .int .i64 7]) ∧ w = w' := by
  go_enter Tryz.func26, Tryz.ntmps26
  go_wp2
  exact bodyPost_ret (v := .tuple #[.pointer none, .int .i64 7]) (by simp [results, Tryz.results26, go_sem]) rfl ⟨rfl, rfl⟩
theorem jappend_nil (k : Int) (pl : ByteArray) (w : World) : Calls Tryz.prog 23 #[.pointer none, frV k pl] w fun x w' => x = .returned (.int .i64 7) ∧ Below w.heap.size w w' := by
  go_enter Tryz.func23, Tryz.ntmps23
  go_wp2
  go_ret
  exact ⟨rfl, (Below.refl _ _).alloc (Nat.le_refl _) _⟩
theorem jfree_nil (w : World) : Calls Tryz.prog 37 #[.pointer none] w fun x w' => x = .returned (.int .i64 7) ∧ w = w' := by
  go_enter Tryz.func37, Tryz.ntmps37
  go_wp2
  go_ret
  exact ⟨rfl, rfl⟩
theorem jframes_nil (w : World) : Calls Tryz.prog 30 #[.pointer none] w fun x w' => x = .returned (.slice none 0 0) ∧ w = w' := by
  go_enter Tryz.func30, Tryz.ntmps30
  go_wp2
  go_ret
  exact ⟨rfl, rfl⟩
theorem jgen_nil (w : World) : Calls Tryz.prog 35 #[.pointer none] w fun x w' => x = .returned (.int .u32 0) ∧ w = w' := by
  go_enter Tryz.func35, Tryz.ntmps35
  go_wp2
  go_ret
  exact ⟨rfl, rfl⟩
theorem jsegs_nil (w : World) : Calls Tryz.prog 34 #[.pointer none] w fun x w' => x = .returned (.int .i64 0) ∧ w = w' := by
  go_enter Tryz.func34, Tryz.ntmps34
  go_wp2
  go_ret
  exact ⟨rfl, rfl⟩
theorem jgrown_nil (w : World) : Calls Tryz.prog 38 #[.pointer none] w fun x w' => x = .returned (.bool false) ∧ w = w' := by
  go_enter Tryz.func38, Tryz.ntmps38
  go_wp2_with fail
  refine (jsegs_nil _).mono ?_
  rintro x w1 ⟨rfl, rfl⟩
  go_wp2
  go_ret
  exact ⟨rfl, rfl⟩
set_option linter.unusedSimpArgs false in
theorem jfits_nil (k : Int) (pl : ByteArray) (w : World) : Calls Tryz.prog 39 #[.pointer none, frV k pl] w fun x w' => x = .returned (.bool false) ∧ Below w.heap.size w w' := by
  go_enter Tryz.func39, Tryz.ntmps39
  go_wp2_with fail
  refine wp_region_any (by kernel_rfl) ?_
  simp only [List.size_toArray, List.length_cons, List.length_nil, Nat.reduceAdd]
  rw [show Array.replicate 11 false = #[false, false, false, false, false, false, false, false, false, false, false] from rfl]
  refine wpAny_take (i := 0) (v := ?_) rfl (by kernel_rfl) (by kernel_rfl) (by kernel_rfl) (fun _ _ _ h => h) (Or.inl ⟨by rfl, ?_⟩) ?_
  rotate_left 1
  · (intro w'; simp only [List.getElem_toArray, List.getElem_cons_zero, List.getElem_cons_succ]; go_simp; try with_reducible rfl)
  simp only [Act.put, List.getElem_toArray, List.getElem_cons_zero, List.getElem_cons_succ, List.setIfInBounds_toArray, List.set_cons_zero, List.set_cons_succ]
  refine wpAny_take (i := 1) (v := ?_) rfl (by kernel_rfl) (by kernel_rfl) (by kernel_rfl) (fun _ _ _ h => h) (Or.inl ⟨by rfl, ?_⟩) ?_
  rotate_left 1
  · (intro w'; simp only [List.getElem_toArray, List.getElem_cons_zero, List.getElem_cons_succ]; go_simp; try with_reducible rfl)
  simp only [Act.put, List.getElem_toArray, List.getElem_cons_zero, List.getElem_cons_succ, List.setIfInBounds_toArray, List.set_cons_zero, List.set_cons_succ]
  refine wpAny_take (i := 2) (v := ?_) rfl (by kernel_rfl) (by kernel_rfl) (by kernel_rfl) (fun _ _ _ h => h) (Or.inl ⟨by rfl, ?_⟩) ?_
  rotate_left 1
  · (intro w'; simp only [List.getElem_toArray, List.getElem_cons_zero, List.getElem_cons_succ]; go_simp; try with_reducible rfl)
  simp only [Act.put, List.getElem_toArray, List.getElem_cons_zero, List.getElem_cons_succ, List.setIfInBounds_toArray, List.set_cons_zero, List.set_cons_succ]
  refine wpAny_take (i := 3) (v := undef) rfl (by kernel_rfl) (by kernel_rfl) (by kernel_rfl) (fun _ _ _ h => h) (Or.inr ⟨by rfl, rfl⟩) ?_
  simp only [Act.put, List.getElem_toArray, List.getElem_cons_zero, List.getElem_cons_succ, List.setIfInBounds_toArray, List.set_cons_zero, List.set_cons_succ]
  refine wpAny_take (i := 4) (v := undef) rfl (by kernel_rfl) (by kernel_rfl) (by kernel_rfl) (fun _ _ _ h => h) (Or.inr ⟨by rfl, rfl⟩) ?_
  simp only [Act.put, List.getElem_toArray, List.getElem_cons_zero, List.getElem_cons_succ, List.setIfInBounds_toArray, List.set_cons_zero, List.set_cons_succ]
  refine wpAny_take (i := 5) (v := undef) rfl (by kernel_rfl) (by kernel_rfl) (by kernel_rfl) (fun _ _ _ h => h) (Or.inr ⟨by rfl, rfl⟩) ?_
  simp only [Act.put, List.getElem_toArray, List.getElem_cons_zero, List.getElem_cons_succ, List.setIfInBounds_toArray, List.set_cons_zero, List.set_cons_succ]
  refine wpAny_take (i := 6) (v := undef) rfl (by kernel_rfl) (by kernel_rfl) (by kernel_rfl) (fun _ _ _ h => h) (Or.inr ⟨by rfl, rfl⟩) ?_
  simp only [Act.put, List.getElem_toArray, List.getElem_cons_zero, List.getElem_cons_succ, List.setIfInBounds_toArray, List.set_cons_zero, List.set_cons_succ]
  refine wpAny_take (i := 7) (v := undef) rfl (by kernel_rfl) (by kernel_rfl) (by kernel_rfl) (fun _ _ _ h => h) (Or.inr ⟨by rfl, rfl⟩) ?_
  simp only [Act.put, List.getElem_toArray, List.getElem_cons_zero, List.getElem_cons_succ, List.setIfInBounds_toArray, List.set_cons_zero, List.set_cons_succ]
  refine wpAny_take (i := 8) (v := undef) rfl (by kernel_rfl) (by kernel_rfl) (by kernel_rfl) (fun _ _ _ h => h) (Or.inr ⟨by rfl, rfl⟩) ?_
  simp only [Act.put, List.getElem_toArray, List.getElem_cons_zero, List.getElem_cons_succ, List.setIfInBounds_toArray, List.set_cons_zero, List.set_cons_succ]
  refine wpAny_take (i := 9) (v := ?_) rfl (by kernel_rfl) (by kernel_rfl) (by kernel_rfl) (fun _ _ _ h => h) (Or.inl ⟨by rfl, ?_⟩) ?_
  rotate_left 1
  · (intro w'; simp only [List.getElem_toArray, List.getElem_cons_zero, List.getElem_cons_succ]; go_simp; try with_reducible rfl)
  simp only [Act.put, List.getElem_toArray, List.getElem_cons_zero, List.getElem_cons_succ, List.setIfInBounds_toArray, List.set_cons_zero, List.set_cons_succ]
  refine wpAny_ready (rs := [10]) (by kernel_rfl) (by simp) ?_
  refine AllReady.cons rfl (fun K' hK => ?_) AllReady.nil
  simp only [List.getElem_toArray, List.getElem_cons_zero, List.getElem_cons_succ]
  go_simp
  refine hK _ _ ?_
  clear hK K'
  simp only [Act.put, List.getElem_toArray, List.getElem_cons_zero, List.getElem_cons_succ, List.setIfInBounds_toArray, List.set_cons_zero, List.set_cons_succ]
  refine wpAny_done (by kernel_rfl) ?_ _
  go_wp2
  go_ret
  exact ⟨rfl, ((Below.refl _ _).alloc (Nat.le_refl _) _).drew⟩


/-! ### A journal that is there -/
theorem fresh26_any (w : World) : Calls Tryz.prog 19 #[] w fun x w' => ∃ v F, x = .returned (.pointer (some ⟨v, 0, none⟩)) ∧ ViewIs v (zeroDisk 98) [] 0 98 (-1) false w' F ∧ Below w.heap.size w w' ∧ ∀ i, F i → w.heap.size ≤ i := by
  go_enter Tryz.func19, Tryz.ntmps19
  go_wp2_with fail
  refine (dnew_z 98 (by omega) (by omega) _ rfl _).mono ?_
  rintro x w1 ⟨rfl, D1, hb1, hz1⟩
  have HD := Lib.hid D1
  clear D1
  go_wp2_with fail
  refine (vnew_z HD.out 0 98 (by omega) (by rw [zeroDisk_length]; omega) _ _ rfl rfl).mono ?_
  rintro x w2 ⟨rfl, V2, hb2, hz2⟩
  have HV := Lib.hid V2
  clear V2
  go_wp2
  go_ret
  have hV' := HV.out
  rw [hz1] at hV'
  refine ⟨w.heap.size + 2, VFoot (w.heap.size + 2) (w.heap.size + 1) w.heap.size (.slice none 0 0), rfl, ⟨_, _, _, hV', fun _ => Iff.rfl⟩, hb1.trans (hb2.mono hb1.size), ?_⟩
  intro i hi
  rcases Nat.lt_or_ge i w.heap.size with hh | hh
  · exact absurd hi (VFoot_ge (by omega) (by omega) (Nat.le_refl _) (fun i hi => by simp [Value.ownBlock] at hi) i hh)
  · exact hh
theorem jnew_ok (v p id gen : Nat) (h1 : 1 ≤ id) (h2 : id ≤ 65535) (w : World) (a b : Int) (ha : a = id) (hb : b = gen) : Calls Tryz.prog 18 #[.pointer (some ⟨v, 0, none⟩), .pointer (some ⟨p, 0, none⟩), .int .i64 a, .int .u32 b] w fun x w' =>
    ∃ (j : Nat) (J : Foot), x = .returned (.tuple #[.pointer (some ⟨j, 0, none⟩), .int .i64 0]) ∧ JIs j v p (newLog id gen 0) w' J ∧ Below w.heap.size w w' ∧ ∀ i, J i → w.heap.size ≤ i := by
  subst ha
  subst hb
  have KL := Lib.hid (lognew_ok v p id gen 0 h1 h2 (Nat.zero_le 1099511627776) w id gen ((0 : Nat) : Int) rfl rfl rfl)
  rw [Int.natCast_zero] at KL
  go_enter Tryz.func18, Tryz.ntmps18
  go_wp2_with fail
  refine KL.out.mono ?_
  rintro x w1 ⟨rfl, hL, hb, hz⟩
  have HL := Lib.hid hL
  have HB := Lib.hid hb
  have HZ := Lib.hid hz
  clear hL KL hb hz
  go_wp2_with fail
  refine bodyPost_ret (v := .tuple #[.pointer (some ⟨w1.heap.size, 0, none⟩), .int .i64 0]) (by simp [results, Tryz.results18, go_sem]) rfl ⟨w1.heap.size, fun i => i = w1.heap.size ∨ i = w.heap.size, rfl, ⟨w.heap.size, fun i => i = w.heap.size, alloc_at w1 _, LogIs.stays.below HL.out ((Below.refl _ _).alloc (Nat.le_refl _) _), fun h => ?_, fun i => Iff.rfl⟩, HB.out.alloc HB.out.size _, fun i hi => ?_⟩
  · have := HZ.out; omega
  · have := HB.out.size; rcases hi with rfl | rfl <;> omega
theorem jsegs_any {j v p : Nat} {L : LogM} {w : World} {J : Foot} (h : JIs j v p L w J) (hm : L.segs.length ≤ 1000) : Calls Tryz.prog 34 #[.pointer (some ⟨j, 0, none⟩)] w fun x w' => x = .returned (.int .i64 L.segs.length) ∧ Below w.heap.size w w' := by
  obtain ⟨g, G, h1, h2, _⟩ := h.log
  obtain ⟨c0, c1, c2, cf⟩ := three_of h1
  have KS := Lib.hid (lsegs_any h2 hm)
  clear h h1 h2
  go_enter Tryz.func34, Tryz.ntmps34
  go_wp2_with fail
  refine KS.out.mono ?_
  rintro x w1 ⟨rv, rfl, hrow, hb⟩
  obtain ⟨ao, ac, rfl⟩ := row_slice3 hrow
  clear hrow
  go_wp2
  go_ret
  exact ⟨rfl, hb⟩
theorem jgen_any {j v p : Nat} {L : LogM} {w : World} {J : Foot} (h : JIs j v p L w J) : Calls Tryz.prog 35 #[.pointer (some ⟨j, 0, none⟩)] w fun x w' => x = .returned (.int .u32 L.gen) ∧ w = w' := by
  obtain ⟨g, G, h1, h2, _⟩ := h.log
  obtain ⟨c0, c1, c2, cf⟩ := three_of h1
  have KS := Lib.hid (lgen_any h2)
  clear h h1 h2
  go_enter Tryz.func35, Tryz.ntmps35
  go_wp2_with fail
  refine KS.out.mono ?_
  rintro x w1 ⟨rfl, rfl⟩
  go_wp2
  go_ret
  exact ⟨rfl, rfl⟩
theorem jgrown_any {j v p : Nat} {L : LogM} {w : World} {J : Foot} (h : JIs j v p L w J) (hm : L.segs.length ≤ 1000) : Calls Tryz.prog 38 #[.pointer (some ⟨j, 0, none⟩)] w fun x w' => x = .returned (.bool (decide (2 < L.segs.length))) ∧ Below w.heap.size w w' := by
  have KS := Lib.hid (jsegs_any h hm)
  clear h
  go_enter Tryz.func38, Tryz.ntmps38
  go_wp2_with fail
  refine KS.out.mono ?_
  rintro x w1 ⟨rfl, hb⟩
  go_wp2
  go_ret
  exact ⟨by simp; omega, hb⟩
/-- What a call leaves: the view and the pool, and a journal beside them. -/
def JPost (j v p : Nat) (lies : List (List UInt8)) (W : List (Nat × List UInt8)) (f N : Nat) (P : PoolM) (L : LogM) (w : World) (X J : Foot) (w' : World) : Prop :=
  ∃ X' J' : Foot, VP v p lies W f N P w' X' ∧ JIs j v p L w' J' ∧ Apart X' J' ∧ Upd (Both X J) w w' ∧ Fresh w (Both X J) (Both X' J')
theorem JPost.of_log {j g v p : Nat} {lies : List (List UInt8)} {W : List (Nat × List UInt8)} {f N : Nat} {P : PoolM} {L : LogM} {w w0 w' : World} {X J G : Foot} (hb : Below w.heap.size w w0) (h1 : w.heap[j]? = some (jObj g v p)) (h3 : ¬ G j) (hJ : ∀ i, J i ↔ i = j ∨ G i) (ha : Apart X J) (h : LPost g v p lies W f N P L w0 X G w') : JPost j v p lies W f N P L w X J w' := by
  obtain ⟨X', G', hX, hG, hA, hU, hF⟩ := h
  have hj := lt_of h1
  have hjw := hb.size
  have hnj : ¬ Both X G j := fun hc => hc.elim (fun hx => ha j hx ((hJ j).2 (.inl rfl))) h3
  have hnj' : ¬ Both X' G' j := fun hc => by
    rcases hF j hc with h | h
    · exact hnj h
    · omega
  have hle : ∀ i, Both X G i → Both X J i := fun i hi => hi.elim .inl (fun h => .inr ((hJ i).2 (.inr h)))
  refine ⟨X', fun i => i = j ∨ G' i, hX, ⟨g, G', hU.at_ (later_of h1 hb) hnj, hG, fun hc => hnj' (.inr hc), fun i => Iff.rfl⟩, fun i hi hc => ?_, (Upd.of_below' hb).trans hU (fun i _ hi => hle i hi), fun i hi => ?_⟩
  · rcases hc with rfl | hc
    · exact hnj' (.inl hi)
    · exact hA i hi hc
  · rcases hi with hi | rfl | hi
    · rcases hF i (.inl hi) with h | h
      · exact .inl (hle i h)
      · exact .inr (by omega)
    · exact .inl (.inr ((hJ i).2 (.inl rfl)))
    · rcases hF i (.inr hi) with h | h
      · exact .inl (hle i h)
      · exact .inr (by omega)
set_option maxRecDepth 100000 in
set_option maxHeartbeats 400000 in
theorem jappend_any {f N j v p : Nat} {lies : List (List UInt8)} {W : List (Nat × List UInt8)} {P : PoolM} {L : LogM} {w : World} {X J : Foot} (hX : VP v p lies W f N P w X) (hJ : JIs j v p L w J) (ha : Apart X J) (hP : PoolOk N P) (kL : LogOk N L) (hW : W.length ≤ 800000000) (hnx : L.next + 1 ≤ 1099511627776) (hmany : L.segs.length + 1 ≤ 1000) (k : Int) (pl : ByteArray) :
    Calls Tryz.prog 23 #[.pointer (some ⟨j, 0, none⟩), frV k pl] w fun x w' => x = .returned (.int .i64 (appendM P L k pl).er) ∧ JPost j v p lies (appendW f P L k pl W) f N (appendM P L k pl).p (appendM P L k pl).g w X J w' := by
  obtain ⟨g, G, h1, h2, h3, hJJ⟩ := hJ
  have hb0 : Below w.heap.size w (w.alloc (.cells #[.int .i64 k, .string pl] 43)).drew := ((Below.refl _ _).alloc (Nat.le_refl _) _).drew
  have hax : Apart X G := fun i hi hc => ha i hi ((hJJ i).2 (.inr hc))
  have KA := Lib.hid (append_log (VP.stays.below hX hb0) (LogIs.stays.below h2 hb0) hax hP kL hW hnx hmany k pl)
  have HB0 := Lib.hid hb0
  have HF := Lib.hid (And.intro h1 (And.intro h3 (And.intro hJJ ha)))
  obtain ⟨c0, _, _, _⟩ := three_of (alloc_old h1 (.cells #[.int .i64 k, .string pl] 43))
  have hlf := load_fr (alloc_at w (.cells #[.int .i64 k, .string pl] 43))
  clear h1 h2 h3 hJJ hb0 hax hX ha hP kL hW hnx hmany
  go_enter Tryz.func23, Tryz.ntmps23
  go_wp2_with fail
  go_region_with (go_at_call 40; (with_reducible refine KA.out.mono ?_); rintro x w1 ⟨rfl, hPo⟩)
  all_goals
    have HPo := Lib.hid hPo
    clear hPo
    go_wp2
    go_ret
    exact ⟨rfl, JPost.of_log HB0.out HF.out.1 HF.out.2.1 HF.out.2.2.1 HF.out.2.2.2 HPo.out⟩
end Go.Proofs.YtoobiffhjjfpgaaGreat.Print
