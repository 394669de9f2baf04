/- segment: Append. segment: what it tells of itself, Seal, Wipe; a fresh view of the law. segment: Frames, Wipe; a fresh view of the law. -/
import Derived.Test.YtoobiffhjjfpgaaGreatSeg
import Derived.Test.YtoobiffhjjfpgaaGreatFresh
import Derived.Lib.SliceRun
import Derived.Test.YtoobiffhjjfpgaaGreatShelf
import Derived.Lib.Repeat
namespace Go.Proofs.YtoobiffhjjfpgaaGreat.Print
open Go.RowKit
attribute [local go_sem] run_loadVar_scalar

abbrev frV (k : Int) (p : ByteArray) : Value := .agg #[.int .i64 k, .string p]
theorem append_nil (k : Int) (p : ByteArray) (w : World) :
    Calls Tryz.prog 77 #[.pointer none, frV k p] w fun x w' => x = .returned (.tuple #[.int .i64 0, .int .i64 7]) ∧ Below w.heap.size w w' := by
  go_enter Tryz.func77, Tryz.ntmps77
  go_wp2
  exact bodyPost_ret (v := .tuple #[.int .i64 0, .int .i64 7]) (by simp [results, Tryz.results77, go_sem]) rfl ⟨rfl, (Below.refl _ _).alloc (Nat.le_refl _) _⟩
set_option maxRecDepth 100000 in
set_option maxHeartbeats 400000 in
theorem append_sealed {w : World} {s v n : Nat} {h : H4} {fs : List Fr} {e : Nat} {G : Foot} (S : SegIs s v n h fs e true w G) (k : Int) (p : ByteArray) :
    Calls Tryz.prog 77 #[.pointer (some ⟨s, 0, none⟩), frV k p] w fun x w' => x = .returned (.tuple #[.int .i64 0, .int .i64 39]) ∧ Below w.heap.size w w' := by
  obtain ⟨fv, hs, _⟩ := S
  have hlt := lt_of hs
  obtain ⟨c0, c1, c2, c3, c4, c5, c6, c7, c8, hfz⟩ := nine_of hs
  have hB : Below w.heap.size w (w.alloc (.cells #[.int .i64 k, .string p] 43)) := (Below.refl _ _).alloc (Nat.le_refl _) _
  go_enter Tryz.func77, Tryz.ntmps77
  go_wp2
  exact bodyPost_ret (v := .tuple #[.int .i64 0, .int .i64 39]) (by simp [results, Tryz.results77, go_sem]) rfl ⟨rfl, hB⟩

/-- What is wrong with a frame. -/
def wrongP (k : Int) (n : Nat) : Int := if k < 1 ∨ 255 < k then 1 else if 773 < n then 2 else 0
theorem enc_wrong (stamp : Int) (at_ : Nat) (k : Int) (p : ByteArray) (h1 : 1 ≤ at_) (h2 : at_ < 16) (hw : wrongP k p.size ≠ 0) (w : World) :
    Calls Tryz.prog 75 #[.int .u32 stamp, .int .i64 at_, frV k p] w fun x w' => x = .returned (.tuple #[.string ⟨#[]⟩, .int .i64 (wrongP k p.size)]) ∧ Below w.heap.size w w' := by
  unfold wrongP at hw ⊢
  by_cases hk : k < 1 ∨ 255 < k
  · rw [if_pos hk]
    exact enc_bad stamp at_ k p (hk.elim .inl (fun h => .inr (.inl h))) w
  · rw [if_neg hk] at hw ⊢
    by_cases hp : 773 < p.size
    · rw [if_pos hp]
      exact enc_long stamp at_ k p (by omega) (by omega) (by omega) (by omega) hp w
    · rw [if_neg hp] at hw; exact absurd rfl hw
set_option maxRecDepth 100000 in
set_option maxHeartbeats 800000 in
theorem append_wrong {w : World} {s v n : Nat} {h : H4} {fs : List Fr} {e : Nat} {G : Foot} (S : SegIs s v n h fs e false w G) (k : Int) (p : ByteArray) (he1 : 1 ≤ e) (he2 : e ≤ 16) (hw : wrongP k p.size ≠ 0) :
    Calls Tryz.prog 77 #[.pointer (some ⟨s, 0, none⟩), frV k p] w fun x w' => x = .returned (.tuple #[.int .i64 0, .int .i64 (wrongP k p.size)]) ∧ Below w.heap.size w w' := by
  obtain ⟨fv, hs, _⟩ := S
  have hlt := lt_of hs
  obtain ⟨c0, c1, c2, c3, c4, c5, c6, c7, c8, hfz⟩ := nine_of hs
  have hs1 := alloc_old hs (.cells #[.int .i64 k, .string p] 43)
  have hg1 := alloc_at w (.cells #[.int .i64 k, .string p] 43)
  have hB : Below w.heap.size w (w.alloc (.cells #[.int .i64 k, .string p] 43)) := (Below.refl _ _).alloc (Nat.le_refl _) _
  have hE := fun w => enc_wrong h.2.2.1 (min e 15) k p (by omega) (by omega) hw w
  have hmin : min (e : Int) 15 = ((min e 15 : Nat) : Int) := by omega
  rw [← hmin] at hE
  have k1 : (wrongP k p.size != 0) = true := by simpa using hw
  generalize wrongP k p.size = er at hE k1
  have HE := Lib.hid hE
  clear hE hw hmin
  go_enter Tryz.func77, Tryz.ntmps77
  go_wp2_with fail
  generalize w.alloc (.cells #[.int .i64 k, .string p] 43) = W at hs1 hg1 hB ⊢
  clear c0 c1 c2 c3 c4 c5 c6 c7 c8 hfz hlt
  obtain ⟨c0, c1, c2, c3, c4, c5, c6, c7, c8, hfz⟩ := nine_of hs1
  obtain ⟨b0, b1, g0, g1⟩ := two_of hg1
  go_wp2_with fail
  go_region_with (go_at_call 75; (with_reducible refine (HE.out _).mono ?_); rintro x w1 ⟨rfl, hb1⟩)
  all_goals
    go_wp2
    exact bodyPost_ret (v := .tuple #[.int .i64 0, .int .i64 er]) (by simp [results, Tryz.results77, go_sem]) rfl ⟨rfl, hB.drew.trans (hb1.mono hB.size)⟩
/-- A frame's bytes, and its pieces. -/
def frL (stamp at_ : Nat) (k : Nat) (p : ByteArray) : List UInt8 := encL stamp at_ (UInt8.ofNat k :: p.data.toList)
theorem frL_length (stamp at_ k : Nat) (p : ByteArray) : (frL stamp at_ k p).length = 7 + p.size := by
  rw [frL, encL, List.length_append, List.length_append, beL_length, beL_length, List.length_cons, ← size_list]; omega
def frP (stamp at_ : Nat) (k : Nat) (p : ByteArray) : List (List UInt8) := pieces (many (7 + p.size)) (frL stamp at_ k p)
theorem pad52_length (l : List UInt8) : (pad52 l).length = 52 := by rw [pad52, List.length_append, List.length_take, List.length_replicate]; omega
theorem pieces_52 (n : Nat) (l : List UInt8) : ∀ p ∈ pieces n l, p.length = 52 := by
  induction n with
  | zero => intro p hp; simp [pieces] at hp
  | succ n ih =>
    rw [pieces_snoc]
    intro p hp
    rcases List.mem_append.1 hp with h | h
    · exact ih p h
    · rw [List.mem_singleton.1 h]; exact pad52_length _
/-- What an Append that is not refused leaves. -/
def APost (s v n : Nat) (h : H4) (fs : List Fr) (e : Nat) (k : Nat) (p : ByteArray) (lies : List (List UInt8)) (waits : List (Nat × List UInt8)) (f N : Nat) (fu : Int) (dead : Bool) (w : World) (F G : Foot) (er : Int) (w' : World) : Prop :=
  ∃ (j : Nat) (fu' : Int) (dead' : Bool) (F' G' : Foot), j ≤ many (7 + p.size) ∧ ViewIs v lies (waits ++ sealAt (f + (2 + 16 * n + e)) h.2.2.1 (fs.length + 2) ((frP h.2.2.1 e k p).take j)) f N fu' dead' w' F' ∧
    SegIs s v n h (if er = 0 then fs ++ [((k : Int), p)] else fs) (if er = 0 then e + many (7 + p.size) else e) false w' G' ∧ Upd (Both F G) w w' ∧ Fresh w F F' ∧ Fresh w G G' ∧ Apart F' G' ∧
    ((er = 0 ∧ j = many (7 + p.size) ∧ dead' = dead) ∨ (er = 21 ∧ dead' = true)) ∧ (dead = true → j = 0 ∧ er = 21) ∧ (dead = false → fu = -1 → er = 0 ∧ fu' = -1)
theorem info_fr : (Tryz.prog.info? 43).map (fun i => (i.zero, i.size, i.bytes)) = some (some (.agg #[.int .i64 0, .string ⟨#[]⟩]), 2, 24) := by kernel_rfl
theorem info_fr2 : (Tryz.prog.info? 43).map (fun i => (i.zero, i.size)) = some (some (.agg #[.int .i64 0, .string ⟨#[]⟩]), 2) := by kernel_rfl
theorem load_fr {w : World} {g : Nat} {k : Int} {p : ByteArray} (hg : w.heap[g]? = some (.cells #[.int .i64 k, .string p] 43)) : (loadVar 43 ⟨g, 0, none⟩).run Tryz.prog w = .ok (frV k p) w :=
  run_loadVar_row w g 43 43 #[.int .i64 k, .string p] (0, 0) _ hg Tryz.underlying43 rfl (by kernel_rfl)
theorem Upd.trans_both {F G : Foot} {w w1 w2 : World} (h : Upd F w w1) (k : Upd G w1 w2) : Upd (Both F G) w w2 :=
  (h.mono (T := Both F G) (fun _ _ hi => .inl hi)).trans k (fun _ _ hi => .inr hi)
/-- A segment whose frames have grown by one. -/
theorem seg_pushed {w w1 : World} {s v n : Nat} {h : H4} {fs : List Fr} {e : Nat} {fv : Value} {G : Foot} (hs : w.heap[s]? = some (segObj v n h fv e false)) (hne : fv.ownBlock ≠ some s) (hG : ∀ i, G i ↔ i = s ∨ fv.ownBlock = some i) (x : Fr) (g cap e' : Nat) (ei : Int) (hei : ei = e')
    (hown : w1.ownsRow 0 43 2 (.slice (some ⟨g, 0, none⟩) (fs.length + 1) cap) (fs.length + 1) (fcells fs ++ frC x))
    (hu : Upd (fun i => fv.ownBlock = some i) w w1) (hat : fv.ownBlock = some g ∨ w.heap.size ≤ g) :
    SegIs s v n h (fs ++ [x]) e' false ((w1.setCell ⟨s, 6, none⟩ (.slice (some ⟨g, 0, none⟩) (fs.length + 1) cap)).setCell ⟨s, 7, none⟩ (.int .i64 ei)) (fun i => i = s ∨ i = g) ∧
    Upd G w ((w1.setCell ⟨s, 6, none⟩ (.slice (some ⟨g, 0, none⟩) (fs.length + 1) cap)).setCell ⟨s, 7, none⟩ (.int .i64 ei)) ∧ Fresh w G (fun i => i = s ∨ i = g) := by
  have hs1 := hu.at_ hs hne
  have hgs : g ≠ s := by
    rcases hat with h | h
    · intro e; subst e; exact hne h
    · have := lt_of hs; omega
  have hU1 : Upd (fun i => i = s) w1 ((w1.setCell ⟨s, 6, none⟩ (.slice (some ⟨g, 0, none⟩) (fs.length + 1) cap)).setCell ⟨s, 7, none⟩ (.int .i64 ei)) := ((Upd.refl (fun i => i = s) w1).setCell (p := ⟨s, 6, none⟩) (fun _ => rfl) _).setCell (p := ⟨s, 7, none⟩) (fun _ => rfl) _
  refine ⟨⟨.slice (some ⟨g, 0, none⟩) (fs.length + 1) cap, ?_, ?_, ?_, ?_⟩, ?_, ?_⟩
  · have h6 : (w1.setCell ⟨s, 6, none⟩ (.slice (some ⟨g, 0, none⟩) (fs.length + 1) cap)).heap[s]? = some (segObj v n h (.slice (some ⟨g, 0, none⟩) (fs.length + 1) cap) e false) := by rw [cells_set _ _ _ _ _ _ hs1]; rfl
    rw [cells_set _ _ _ _ _ _ h6, hei]; rfl
  · rw [fcells_snoc, List.length_append]
    exact ownsRow_upd hU1 hown (fun i hi e => hgs (by simp [Value.ownBlock] at hi; omega))
  · simp [Value.ownBlock]; exact hgs
  · intro i; simp [Value.ownBlock]; exact or_congr Iff.rfl ⟨fun h => h.symm, fun h => h.symm⟩
  · exact (hu.mono (T := G) (fun i _ h => (hG i).2 (.inr h))).trans hU1 (fun i _ e => (hG i).2 (.inl e))
  · rintro i (rfl | rfl)
    · exact .inl ((hG _).2 (.inl rfl))
    · rcases hat with h | h
      · exact .inl ((hG _).2 (.inr h))
      · exact .inr h
set_option maxRecDepth 100000 in
set_option maxHeartbeats 1600000 in
attribute [-go_sem] Instr.build Instr.fill Instr.buildSlice loadVar in
theorem append_any {w : World} {v : Nat} {lies : List (List UInt8)} {waits : List (Nat × List UInt8)} {f N : Nat} {fu : Int} {dead : Bool} {F G : Foot} {s n : Nat} {h : H4} {fs : List Fr} {e : Nat}
    (V : ViewIs v lies waits f N fu dead w F) (S : SegIs s v n h fs e false w G) (ha : Apart F G) (hst : h.2.2.1 < 4294967296) (hN : N ≤ 8192) (hn : 2 + 16 * n + 16 ≤ N) (he1 : 1 ≤ e) (he2 : e ≤ 16) (hfs : fs.length ≤ 1000) (hw : waits.length ≤ 900000000)
    (k : Nat) (p : ByteArray) (hk1 : 1 ≤ k) (hk2 : k ≤ 255) (hp : p.size ≤ 773) :
    Calls Tryz.prog 77 #[.pointer (some ⟨s, 0, none⟩), frV k p] w fun x w' =>
      (16 < e + many (7 + p.size) ∧ x = .returned (.tuple #[.int .i64 0, .int .i64 5]) ∧ Below w.heap.size w w') ∨
      (e + many (7 + p.size) ≤ 16 ∧ ∃ er : Int, x = .returned (if er = 0 then .tuple #[.int .i64 e, .int .i64 0] else .tuple #[.int .i64 0, .int .i64 er]) ∧ APost s v n h fs e k p lies waits f N fu dead w F G er w') := by
  have S0 := S
  obtain ⟨i0, hi0, hz0, hz1, hz2⟩ := info_parts info_fr
  obtain ⟨fv, hs, hrow, hne, hG⟩ := S
  have hlt := lt_of hs
  have hs1 := alloc_old hs (.cells #[.int .i64 k, .string p] 43)
  have hg1 := alloc_at w (.cells #[.int .i64 k, .string p] 43)
  have hB : Below w.heap.size w (w.alloc (.cells #[.int .i64 k, .string p] 43)) := (Below.refl _ _).alloc (Nat.le_refl _) _
  have hE := fun w => enc_ok h.2.2.1 (min e 15) k p hst (by omega) (by omega) hk1 hk2 hp w
  have hP := fun w => pieces_any (bs (frL h.2.2.1 (min e 15) k p)) (by rw [bs_size, frL_length]; omega) w
  have hmin : min (e : Int) 15 = ((min e 15 : Nat) : Int) := by omega
  rw [← hmin] at hE
  have HE := Lib.hid hE
  have HP := Lib.hid hP
  have HV := Lib.hid V
  have HS := Lib.hid S0
  have HR := Lib.hid hrow
  clear hE hP hmin V S0 hrow
  have hlenV : ∃ ao ac, fv = .slice ao fs.length ac := by
    rcases HR.out.2 with ⟨rfl, h0⟩ | ⟨g, cap, cur, rfl, _⟩
    · exact ⟨none, 0, by rw [h0]⟩
    · exact ⟨_, _, rfl⟩
  obtain ⟨ao, ac, rfl⟩ := hlenV
  obtain ⟨c0, c1, c2, c3, c4, c5, c6, c7, c8, hfz⟩ := nine_of hs
  go_enter Tryz.func77, Tryz.ntmps77
  go_wp2_with fail
  generalize hgw : w.heap.size = g at hg1 ⊢
  generalize w.alloc (.cells #[.int .i64 k, .string p] 43) = W at hs1 hg1 hB ⊢
  clear c0 c1 c2 c3 c4 c5 c6 c7 c8 hfz hlt
  obtain ⟨c0, c1, c2, c3, c4, c5, c6, c7, c8, hfz⟩ := nine_of hs1
  have hld := load_fr (w := W.drew) hg1
  go_cut [7, 8] (fun t er wx => t = .string (bs (frL h.2.2.1 (min e 15) k p)) ∧ er = .int .i64 0 ∧ Below w.heap.size w wx ∧ Below W.heap.size W wx)
  case first =>
    go_region_with (go_at_call 75; (with_reducible refine (HE.out _).mono ?_); rintro x w1 ⟨rfl, hb1⟩)
    all_goals
      go_wp2_with fail
      go_meet
      exact ⟨rfl, rfl, hB.drew.trans (hb1.mono hB.size), (Below.refl _ _).drew.trans hb1⟩
  case rest =>
    obtain ⟨rfl, rfl, hBc, hbW⟩ := hcut
    have hs2 := later_of hs1 hbW
    have hg2 := later_of hg1 hbW
    clear c0 c1 c2 c3 c4 c5 c6 c7 c8 hfz hld hs1 hg1 hB hbW
    obtain ⟨c0, c1, c2, c3, c4, c5, c6, c7, c8, hfz⟩ := nine_of hs2
    go_wp2_with fail
    refine (HP.out _).mono ?_
    rintro x w2 ⟨pv, rfl, hown, hb2⟩
    rw [bs_size, frL_length, bs_list] at hown
    have hB2 := hBc.trans (hb2.mono hBc.size)
    have hs3 := later_of hs2 hb2
    have hg3 := later_of hg2 hb2
    have hM1 : 1 ≤ many (7 + p.size) := by unfold many; split <;> omega
    have hM2 : many (7 + p.size) ≤ 15 := by unfold many; split <;> omega
    obtain ⟨pg, pc, pcur, rfl, hpg, _⟩ := row_of hown hM1
    have hpown : ∀ i, (Value.slice (some ⟨pg, 0, none⟩) (many (7 + p.size)) pc).ownBlock = some i → ¬ F i := fun i hi hc => by have := ViewIs.there HV.out i hc; have := (hown.lt i hi).1; have := hBc.size; omega
    clear c0 c1 c2 c3 c4 c5 c6 c7 c8 hfz hs2 hg2 hb2
    obtain ⟨c0, c1, c2, c3, c4, c5, c6, c7, c8, hfz⟩ := nine_of hs3
    obtain ⟨M, hM⟩ : ∃ M, many (7 + p.size) = M := ⟨_, rfl⟩
    have HM := Lib.hid hM
    have hL : (frP h.2.2.1 e k p).length = many (7 + p.size) := pieces_length _ _
    rw [hM] at hM1 hM2 hpown hL
    have hown2 : w2.ownsRow wc.heap.size 9 1 (.slice (some ⟨pg, 0, none⟩) M pc) M ((pieces M (frL h.2.2.1 (min e 15) k p)).map fun l => .string (bs l)) := by rw [← hM]; exact hown
    clear hown
    have hfp : frP h.2.2.1 e k p = pieces M (frL h.2.2.1 e k p) := by rw [← hM]; rfl
    rw [hM]
    clear hM
    by_cases hful : 16 < e + M
    · clear hown2 hfp hL
      have e3 : IntKind.i64.wrap (16 - (e : Int)) = 16 - (e : Int) := by rw [IntKind.wrap_i64]; omega
      have e4 : decide ((16 : Int) - (e : Int) < (M : Int)) = true := decide_eq_true (by omega)
      have HF := Lib.hid hful
      clear hful
      go_wp2
      exact bodyPost_ret (v := .tuple #[.int .i64 0, .int .i64 5]) (by simp [results, Tryz.results77, go_sem]) rfl (.inl ⟨by rw [HM.out]; exact HF.out, rfl, hB2⟩)
    · have hme : min e 15 = e := by omega
      rw [hme] at hown2
      have hown' : w2.ownsRow wc.heap.size 9 1 (.slice (some ⟨pg, 0, none⟩) M pc) (frP h.2.2.1 e k p).length ((frP h.2.2.1 e k p).map fun l => .string (bs l)) := by rw [hL, hfp]; exact hown2
      have hown'' : w2.ownsRow wc.heap.size 9 1 (.slice (some ⟨pg, 0, none⟩) M pc) (frP h.2.2.1 e k p).length ((frP h.2.2.1 e k p).map fun l => .string (bs l)) := hown'
      have hWr := fun i j hi hj => write_is (ViewIs.stays.below HV.out hB2) s n h (.slice ao fs.length ac) e false hs3 (fun hc => ha s hc ((hG s).2 (.inl rfl))) hst hN hn e (fs.length + 2) (by omega) (by omega) (frP h.2.2.1 e k p) (by rw [hL]; omega) (pieces_52 _ _) _ _ hown' hpown hw i j hi hj
      have HG3 := Lib.hid hg3
      have HS3 := Lib.hid hs3
      have HB2 := Lib.hid hB2
      clear hown' hown'' hown2 hfp hme hB2 hg3 hs3 hpown
      have e3 : IntKind.i64.wrap (16 - (e : Int)) = 16 - (e : Int) := by rw [IntKind.wrap_i64]; omega
      have e4 : decide ((16 : Int) - (e : Int) < (M : Int)) = false := decide_eq_false (by omega)
      have HW := Lib.hid hWr
      have HL := Lib.hid hL
      clear hWr hL
      go_wp2_with fail
      refine (HW.out _ _ (by omega) (by omega)).mono ?_
      rintro x w3 ⟨er, rfl, j, fu', dead', hj, ⟨F', hV', hU', hN'⟩, hc1, hc2, hc3, hc4⟩
      rw [HL.out] at hj hc1 hc4
      have hgF : ¬ F g := fun hc => by have := ViewIs.there HV.out g hc; omega
      have hsF : ¬ F s := fun hc => ha s hc ((hG s).2 (.inl rfl))
      have hUw : Upd F w w3 := (Upd.of_below HB2.out).trans hU' (fun i _ hi => hi)
      have hFr : Fresh w F F' := fun i hi => (hN' i hi).imp id (fun hh => by have := HB2.out.size; omega)
      have hs4 := hU'.at_ HS3.out hsF
      have hg4 := hU'.at_ HG3.out hgF
      have hrow4 := ownsRow_upd hUw HR.out (fun i hi hc => ha i hc ((hG i).2 (.inr hi)))
      have hap : Apart F' G := fun i hi hc => by
        rcases hN' i hi with hh | hh
        · exact ha i hh hc
        · have := SegIs.there HS.out i hc; have := HB2.out.size; omega
      clear c0 c1 c2 c3 c4 c5 c6 c7 c8 hfz
      obtain ⟨c0, c1, c2, c3, c4, c5, c6, c7, c8, hfz⟩ := nine_of hs4
      have HV' := Lib.hid hV'
      have HU := Lib.hid hUw
      have HFr := Lib.hid hFr
      have HJ := Lib.hid hj
      have HC := Lib.hid (And.intro hc1 (And.intro hc2 (And.intro hc3 hc4)))
      have HAP := Lib.hid hap
      have HR4 := Lib.hid hrow4
      have HS4 := Lib.hid hs4
      clear hV' hU' hN' hc2 hc3 hc4 hUw hFr hj hap hrow4 hs4
      rcases hc1 with ⟨rfl, rfl, hdd⟩ | ⟨rfl, hdd⟩
      · have hld4 := load_fr (w := w3.drew) hg4
        have hbs := fun (w' : World) => run_buildSlice_one (P := Tryz.prog) w' 49 43 _ 2 #[.int .i64 k, .string p] Tryz.underlying49 info_fr2 (by omega) (by omega) rfl
        have hslt := lt_of HS4.out
        clear hdd
        go_wp2_with fail
        go_region_law (refine step_append_lies _ (by rfl) _ _ _ (by rfl) 0 43 i0 _ 2 24 Tryz.underlying49 hi0 hz0 hz1 hz2 rfl (by omega) (.slice ao fs.length ac) _ _ (by rfl) ((HR4.out.alloc _).drew) _ 1 1 (frC ((k : Int), p)) (by rfl) rfl (World.news_of_block (cs := #[.int .i64 k, .string p]) (t := 43) (fr := (0, 0)) (heap_alloc_new w3 _)) (by simp [frC, Value.oneCell']) (by omega) (by unfold maxLen; omega) (by omega) (by simp) _ rfl ?_; intro gg cap w4 hown1 hgrow hat hlt; have hd2 : w4.heap[s]? = some (segObj v n h (.slice ao fs.length ac) e false) := (hgrow.block s (by simp; omega) (fun e => hne e.symm)).trans (alloc_old HS4.out (.cells #[.int .i64 k, .string p] 43)); obtain ⟨d0, d1, d2, d3, d4, d5, d6, d7, d8, dfz⟩ := nine_of hd2)
        all_goals
          have hUa : Upd (fun i => (Value.slice ao fs.length ac).ownBlock = some i) w3 w4 := ⟨hgrow.os, hgrow.tape, hgrow.output, Nat.le_trans (by simp) hgrow.size, fun i hi hn => (hgrow.block i (by simp; omega) (fun e => hn e.symm)).trans (Below.heap_alloc _ _ _ hi)⟩
          obtain ⟨hSg, hUg, hFg⟩ := seg_pushed HS4.out hne hG ((k : Int), p) gg cap (e + j) ((e : Int) + (j : Int)) (by omega) hown1 hUa (hat.imp id (fun e => by rw [e]; simp))
          have HSg := Lib.hid hSg
          have HUg := Lib.hid hUg
          have HFg := Lib.hid hFg
          clear hSg hUg hFg hUa hgrow hown1
          go_wp2
          refine bodyPost_ret (v := .tuple #[.int .i64 e, .int .i64 0]) (by simp [results, Tryz.results77, go_sem]) rfl (.inr ⟨by rw [HM.out]; omega, 0, rfl, j, fu', dead', F', (fun i => i = s ∨ i = gg), by rw [HM.out]; exact HJ.out, ViewIs.stays HV'.out HUg.out (fun i hi hc => HAP.out i hi hc), ?_, HU.out.trans_both HUg.out, HFr.out, ?_, ?_, by rw [HM.out]; exact HC.out.1.imp (fun h => ⟨rfl, rfl, h.2.2⟩) id, ?_, fun a b => ⟨rfl, (HC.out.2.2.1 a b).2⟩⟩)
          · rw [HM.out]; exact HSg.out
          · exact fun i hi => (HFg.out i hi).imp id (fun hh => by have := HU.out.size; omega)
          · intro i hi hc
            rcases HFg.out i hc with hh | hh
            · exact HAP.out i hi hh
            · have := ViewIs.there HV'.out i hi; omega
          · intro hd
            have := HC.out.2.2.2 hd (by omega)
            omega
      · clear hdd
        go_wp2
        refine bodyPost_ret (v := .tuple #[.int .i64 0, .int .i64 21]) (by simp [results, Tryz.results77, go_sem]) rfl (.inr ⟨by rw [HM.out]; omega, 21, rfl, j, fu', dead', F', G, by rw [HM.out]; exact HJ.out, HV'.out, ?_, HU.out.mono (fun i _ hi => .inl hi), HFr.out, Fresh.refl _ _, HAP.out, by rw [HM.out]; exact HC.out.1.imp id (fun h => ⟨rfl, h.2⟩), ?_, HC.out.2.2.1⟩)
        · exact SegIs.stays HS.out HU.out (fun i hi hc => ha i hc hi)
        · intro hd
          exact ⟨HC.out.2.1 hd, rfl⟩
end Go.Proofs.YtoobiffhjjfpgaaGreat.Print

namespace Go.Proofs.YtoobiffhjjfpgaaGreat.Print
open Go.RowKit
attribute [local go_sem] run_loadVar_scalar

theorem snumber_nil (w : World) : Calls Tryz.prog 81 #[.pointer none] w fun x w' => x = .returned (.int .i64 0) ∧ w = w' := by
  go_enter Tryz.func81, Tryz.ntmps81
  go_wp2
  go_ret
  exact ⟨rfl, rfl⟩
theorem len_nil (w : World) : Calls Tryz.prog 87 #[.pointer none] w fun x w' => x = .returned (.int .i64 0) ∧ w = w' := by
  go_enter Tryz.func87, Tryz.ntmps87
  go_wp2
  go_ret
  exact ⟨rfl, rfl⟩
theorem end_nil (w : World) : Calls Tryz.prog 93 #[.pointer none] w fun x w' => x = .returned (.int .i64 0) ∧ w = w' := by
  go_enter Tryz.func93, Tryz.ntmps93
  go_wp2
  go_ret
  exact ⟨rfl, rfl⟩
theorem sealed_nil (w : World) : Calls Tryz.prog 111 #[.pointer none] w fun x w' => x = .returned (.bool true) ∧ w = w' := by
  go_enter Tryz.func111, Tryz.ntmps111
  go_wp2
  go_ret
  exact ⟨rfl, rfl⟩
theorem frames_nil (w : World) : Calls Tryz.prog 89 #[.pointer none] w fun x w' => x = .returned (.slice none 0 0) ∧ w = w' := by
  go_enter Tryz.func89, Tryz.ntmps89
  go_wp2
  go_ret
  exact ⟨rfl, rfl⟩
theorem seal_nil (w : World) : Calls Tryz.prog 85 #[.pointer none] w fun x w' => x = .returned (.tuple #[]) ∧ w = w' := by
  go_enter Tryz.func85, Tryz.ntmps85
  go_wp2
  go_end0
  exact ⟨rfl, rfl⟩
theorem header_nil (w : World) : Calls Tryz.prog 86 #[.pointer none] w fun x w' => x = .returned (hdV 0 0 0 0) ∧ Below w.heap.size w w' := by
  go_enter Tryz.func86, Tryz.ntmps86
  go_wp2
  exact bodyPost_ret (v := hdV 0 0 0 0) (by simp [results, Tryz.results86, go_sem]) rfl ⟨rfl, by repeat (first | exact Below.refl _ _ | refine Below.setCell ?_ (by simp) _ | refine Below.alloc ?_ (by simp) _)⟩

theorem snumber_any {w : World} {s v n : Nat} {h : H4} {fs : List Fr} {e : Nat} {sealed : Bool} {G : Foot} (S : SegIs s v n h fs e sealed w G) : Calls Tryz.prog 81 #[.pointer (some ⟨s, 0, none⟩)] w fun x w' => x = .returned (.int .i64 n) ∧ w = w' := by
  obtain ⟨fv, hs, _⟩ := S
  obtain ⟨c0, c1, c2, c3, c4, c5, c6, c7, c8, hfz⟩ := nine_of hs
  go_enter Tryz.func81, Tryz.ntmps81
  go_wp2
  go_ret
  exact ⟨rfl, rfl⟩
theorem end_any {w : World} {s v n : Nat} {h : H4} {fs : List Fr} {e : Nat} {sealed : Bool} {G : Foot} (S : SegIs s v n h fs e sealed w G) : Calls Tryz.prog 93 #[.pointer (some ⟨s, 0, none⟩)] w fun x w' => x = .returned (.int .i64 e) ∧ w = w' := by
  obtain ⟨fv, hs, _⟩ := S
  obtain ⟨c0, c1, c2, c3, c4, c5, c6, c7, c8, hfz⟩ := nine_of hs
  go_enter Tryz.func93, Tryz.ntmps93
  go_wp2
  go_ret
  exact ⟨rfl, rfl⟩
theorem seg_slice {w : World} {fv : Value} {fs : List Fr} (h : w.ownsRow 0 43 2 fv fs.length (fcells fs)) : (fv = .slice none 0 0 ∧ fs = []) ∨ ∃ g ac, fv = .slice (some ⟨g, 0, none⟩) fs.length ac := by
  rcases h.2 with ⟨rfl, h0⟩ | ⟨g, cap, cur, rfl, _⟩
  · exact .inl ⟨rfl, List.length_eq_zero_iff.1 h0⟩
  · exact .inr ⟨_, _, rfl⟩
theorem len_any {w : World} {s v n : Nat} {h : H4} {fs : List Fr} {e : Nat} {sealed : Bool} {G : Foot} (S : SegIs s v n h fs e sealed w G) : Calls Tryz.prog 87 #[.pointer (some ⟨s, 0, none⟩)] w fun x w' => x = .returned (.int .i64 fs.length) ∧ w = w' := by
  obtain ⟨fv, hs, hrow, _⟩ := S
  have hv : ∃ ao ac, fv = .slice ao fs.length ac := by
    rcases seg_slice hrow with ⟨rfl, rfl⟩ | ⟨g, ac, rfl⟩
    · exact ⟨none, 0, rfl⟩
    · exact ⟨_, _, rfl⟩
  obtain ⟨ao, ac, rfl⟩ := hv
  obtain ⟨c0, c1, c2, c3, c4, c5, c6, c7, c8, hfz⟩ := nine_of hs
  go_enter Tryz.func87, Tryz.ntmps87
  go_wp2
  go_ret
  exact ⟨rfl, rfl⟩
theorem sealed_any {w : World} {s v n : Nat} {h : H4} {fs : List Fr} {e : Nat} {sealed : Bool} {G : Foot} (S : SegIs s v n h fs e sealed w G) : Calls Tryz.prog 111 #[.pointer (some ⟨s, 0, none⟩)] w fun x w' => x = .returned (.bool sealed) ∧ w = w' := by
  obtain ⟨fv, hs, _⟩ := S
  obtain ⟨c0, c1, c2, c3, c4, c5, c6, c7, c8, hfz⟩ := nine_of hs
  go_enter Tryz.func111, Tryz.ntmps111
  go_wp2
  go_ret
  exact ⟨rfl, rfl⟩
theorem seal_seg {w : World} {s v n : Nat} {h : H4} {fs : List Fr} {e : Nat} {sealed : Bool} {G : Foot} (S : SegIs s v n h fs e sealed w G) : Calls Tryz.prog 85 #[.pointer (some ⟨s, 0, none⟩)] w fun x w' => x = .returned (.tuple #[]) ∧ SegIs s v n h fs e true w' G ∧ Upd (fun i => i = s) w w' := by
  obtain ⟨fv, hs, hrow, hne, hG⟩ := S
  obtain ⟨c0, c1, c2, c3, c4, c5, c6, c7, c8, hfz⟩ := nine_of hs
  have hU : Upd (fun i => i = s) w (w.setCell ⟨s, 8, none⟩ (.bool true)) := (Upd.refl (fun i => i = s) w).setCell (p := ⟨s, 8, none⟩) (fun _ => rfl) _
  have hs' : (w.setCell ⟨s, 8, none⟩ (.bool true)).heap[s]? = some (segObj v n h fv e true) := by rw [cells_set _ _ _ _ _ _ hs]; rfl
  have H := Lib.hid (And.intro (show SegIs s v n h fs e true (w.setCell ⟨s, 8, none⟩ (.bool true)) G from ⟨fv, hs', ownsRow_upd hU hrow (fun i hi e => hne (e ▸ hi)), hne, hG⟩) hU)
  clear hU hs' hs hrow
  go_enter Tryz.func85, Tryz.ntmps85
  go_wp2
  go_end0
  exact ⟨rfl, H.out⟩
theorem header_any {w : World} {s v n : Nat} {h : H4} {fs : List Fr} {e : Nat} {sealed : Bool} {G : Foot} (S : SegIs s v n h fs e sealed w G) : Calls Tryz.prog 86 #[.pointer (some ⟨s, 0, none⟩)] w fun x w' => x = .returned (hdV h.1 h.2.1 h.2.2.1 h.2.2.2) ∧ Below w.heap.size w w' := by
  obtain ⟨fv, hs, _⟩ := S
  have hlt := lt_of hs
  obtain ⟨c0, c1, c2, c3, c4, c5, c6, c7, c8, hfz⟩ := nine_of hs
  go_enter Tryz.func86, Tryz.ntmps86
  go_wp2
  exact bodyPost_ret (v := hdV h.1 h.2.1 h.2.2.1 h.2.2.2) (by simp [results, Tryz.results86, go_sem]) rfl ⟨rfl, by repeat (first | exact Below.refl _ _ | refine Below.setCell ?_ (by simp) _ | refine Below.alloc ?_ (by simp) _)⟩

theorem info_fr' : (Tryz.prog.info? 43).map (fun i => (i.zero, i.size, i.bytes)) = some (some (.agg #[.int .i64 0, .string ⟨#[]⟩]), 2, 24) := by kernel_rfl
set_option maxRecDepth 100000 in
set_option maxHeartbeats 1000000 in
theorem clone_any {w : World} {fs : List Fr} {fv : Value} (h : w.ownsRow 0 43 2 fv fs.length (fcells fs)) (hn : fs.length ≤ 1000000) :
    Calls Tryz.prog 122 #[fv] w fun x w' => ∃ v', x = .returned v' ∧ w'.ownsRow w.heap.size 43 2 v' fs.length (fcells fs) ∧ Below w.heap.size w w' := by
  obtain ⟨i0, hi0, hz0, hz1, hz2⟩ := info_parts info_fr'
  have q22 : ∀ (w : World) (a : Option Addr) (n c n' c' : Nat), (binOp .eql 49 (.slice a n c) (.slice none n' c')).run Tryz.prog w = .ok (.bool a.isNone) w := fun w a n c n' c' => Lib.run_eql_slice_nil w _ _ a n c n' c' Tryz.underlying49
  rcases h.2 with ⟨rfl, h0⟩ | ⟨g, cap, cur, rfl, hcur⟩
  · obtain rfl := List.length_eq_zero_iff.1 h0
    go_enter Tryz.func122, Tryz.ntmps122
    go_wp2
    exact bodyPost_ret (v := .slice none 0 0) (by simp [results, Tryz.results122, go_sem]) rfl ⟨_, rfl, ⟨rfl, .inl ⟨rfl, rfl⟩⟩, Below.refl _ _⟩
  · have hcell : ∀ j u, (fcells fs)[j]? = some u → w.cell? ⟨g, 0 + j, none⟩ = some u := by
      intro j u hj
      obtain ⟨_, hg, _, _, hsz, htake⟩ := hcur
      have hjl := (List.getElem?_eq_some_iff.1 hj).1
      rw [fcells_length] at hjl
      rw [Nat.zero_add, cell_of hg, ← hj, ← htake, List.getElem?_take_of_lt hjl]
      simp
    have HC := Lib.hid hcell
    have hone : ∀ u ∈ fcells fs, u.oneCell' = true := by
      intro u hu
      obtain ⟨x, _, hx⟩ := List.mem_flatMap.1 hu
      simp only [frC, List.mem_cons, List.not_mem_nil, or_false] at hx
      rcases hx with rfl | rfl <;> rfl
    have HO := Lib.hid hone
    clear hcell hone h hcur
    go_enter Tryz.func122, Tryz.ntmps122
    go_wp2_with (at_builtin; refine wpList_append_own _ rfl _ _ 49 rfl w.heap.size 43 i0 _ 2 24 Tryz.underlying49 hi0 hz0 hz1 hz2 rfl (by omega) _ _ _ rfl (World.ownsRow_made w #[] 0 (Nat.le_refl _) (Nat.zero_le _) (by simp)) ⟨g, 0, none⟩ fs.length cap (fcells fs) rfl ?qc1 ?qc2 ?qc3 ?qc4 ?qc5 ?qc6 ?_)
    case qc1 => exact fcells_length fs
    case qc2 =>
      intro j u hj
      rw [Addr.add_lit]
      exact Lib.cell?_alloc_some _ (HC.out j u hj)
    case qc3 => exact HO.out
    case qc4 => unfold maxLen; omega
    case qc5 => omega
    case qc6 => simp
    intro v' w1 hown hgrow hnil
    go_wp2
    go_ret
    refine ⟨v', rfl, by simpa using hown, ?_⟩
    exact ((Below.refl _ w).alloc (Nat.le_refl _) _).grown hgrow (by simp) (by intro k hk; simp [Value.ownBlock] at hk; omega)
end Go.Proofs.YtoobiffhjjfpgaaGreat.Print

namespace Go.Proofs.YtoobiffhjjfpgaaGreat.Print
open Go.RowKit
attribute [local go_sem] run_loadVar_scalar

theorem frames_any {w : World} {s v n : Nat} {h : H4} {fs : List Fr} {e : Nat} {sealed : Bool} {G : Foot} (S : SegIs s v n h fs e sealed w G) (hn : fs.length ≤ 1000000) :
    Calls Tryz.prog 89 #[.pointer (some ⟨s, 0, none⟩)] w fun x w' => ∃ v', x = .returned v' ∧ w'.ownsRow w.heap.size 43 2 v' fs.length (fcells fs) ∧ Below w.heap.size w w' := by
  obtain ⟨fv, hs, hrow, _⟩ := S
  have HC := Lib.hid (clone_any hrow hn)
  obtain ⟨c0, c1, c2, c3, c4, c5, c6, c7, c8, hfz⟩ := nine_of hs
  clear hrow hs
  go_enter Tryz.func89, Tryz.ntmps89
  go_wp2_with fail
  refine HC.out.mono ?_
  rintro x w1 ⟨v', rfl, h1, h2⟩
  go_wp2
  go_ret
  exact ⟨v', rfl, h1, h2⟩

set_option maxRecDepth 100000 in
set_option maxHeartbeats 400000 in
theorem wipe_no (v : Value) (n e : Int) (he : (e != 0) = true) (w : World) (hF : Calls Tryz.prog 117 #[v, .int .i64 n] w fun x w' => x = .returned (.tuple #[.int .i64 0, .int .i64 e]) ∧ w = w') :
    Calls Tryz.prog 124 #[v, .int .i64 n] w fun x w' => x = .returned (.int .i64 e) ∧ w = w' := by
  have HF := Lib.hid hF
  clear hF
  go_enter Tryz.func124, Tryz.ntmps124
  go_wp2_with fail
  refine HF.out.mono ?_
  rintro x w1 ⟨rfl, rfl⟩
  go_wp2
  go_ret
  exact ⟨rfl, rfl⟩
theorem wipe_nil (n : Int) (w : World) : Calls Tryz.prog 124 #[.pointer none, .int .i64 n] w fun x w' => x = .returned (.int .i64 7) ∧ w = w' :=
  wipe_no _ _ 7 rfl w (first_nil n w)
theorem wipe_range {w : World} {v : Nat} {lies : List (List UInt8)} {waits : List (Nat × List UInt8)} {f N : Nat} {fu : Int} {dead : Bool} {F : Foot} (V : ViewIs v lies waits f N fu dead w F) (n : Int)
    (hN : N ≤ 8192) (hN2 : 2 ≤ N) (hn : n < 0 ∨ (((N - 2) / 16 : Nat) : Int) ≤ n) :
    Calls Tryz.prog 124 #[.pointer (some ⟨v, 0, none⟩), .int .i64 n] w fun x w' => x = .returned (.int .i64 20) ∧ w = w' := by
  obtain ⟨_, d, st, hv⟩ := view_at V
  exact wipe_no _ _ 20 rfl w (first_bad hv n hN hN2 hn)
theorem vwrite_is {w : World} {v : Nat} {lies : List (List UInt8)} {waits : List (Nat × List UInt8)} {f N : Nat} {fu : Int} {F : Foot} (V : ViewIs v lies waits f N fu false w F) (h0 : fu ≠ 0) (k : Nat) (hk : k < N) (s : ByteArray) (hs : s.size = 64) (hn : waits.length ≤ 1000000000) (i : Int) (hi : i = k) :
    Calls Tryz.prog 130 #[.pointer (some ⟨v, 0, none⟩), .int .i64 i, .string s] w fun x w' => x = .returned (.int .i64 0) ∧ Became (ViewIs v lies (waits ++ [(f + k, s.data.toList)]) f N (burn fu) false) w F w' := by
  subst hi
  obtain ⟨d, lb, wv, V, hF⟩ := V
  exact (vwrite_ok V h0 k s hk hs hn).mono fun x w' ⟨hx, hp⟩ => ⟨hx, ViewIs.of_post hF hp⟩
set_option maxRecDepth 100000 in
set_option maxHeartbeats 400000 in
theorem wipe_ok {w : World} {v : Nat} {lies : List (List UInt8)} {waits : List (Nat × List UInt8)} {f N : Nat} {fu : Int} {F : Foot} (V : ViewIs v lies waits f N fu false w F) (h0 : fu ≠ 0) (n : Nat) (hN : N ≤ 8192) (hn : 2 + 16 * n + 16 ≤ N) (hw : waits.length ≤ 900000000) (i : Int) (hi : i = n) :
    Calls Tryz.prog 124 #[.pointer (some ⟨v, 0, none⟩), .int .i64 i] w fun x w' => x = .returned (.int .i64 0) ∧ Became (ViewIs v lies (waits ++ [(f + (2 + 16 * n), zeroSec)]) f N (burn fu) false) w F w' := by
  subst hi
  obtain ⟨hvF, d, st, hv⟩ := view_at V
  have hRep : ∀ w, Calls Tryz.prog 128 #[.string ⟨#[0]⟩, .int .i64 64] w fun e w' => e = .returned (.string (bs zeroSec)) ∧ Below w.heap.size w w' := by
    intro w
    have h := Tryz.strings_Repeat ⟨#[0]⟩ 64 w (by omega) (by show 1 * 64 ≤ _; omega)
    have e1 : (Lib.repeatL (⟨#[0]⟩ : ByteArray).data.toList 64) = List.replicate 64 0 := by
      have := Lib.repeatL_replicate 0 1 64
      simpa using this
    rw [e1] at h
    exact h
  have KR := Lib.hid hRep
  have KW := Lib.hid (fun (w1 : World) (hb : Below w.heap.size w w1) (i : Int) (hi : i = (2 + 16 * n : Nat)) => vwrite_is (ViewIs.stays.below V hb) h0 (2 + 16 * n) (by omega) (bs zeroSec) (by rw [bs_size]; rfl) (by omega) i hi)
  have KF := Lib.hid (first_ok hv n hN hn)
  clear hRep V hv
  go_enter Tryz.func124, Tryz.ntmps124
  go_wp2_with fail
  refine KF.out.mono ?_
  rintro x w1 ⟨rfl, rfl⟩
  go_wp2_with fail
  refine (KR.out _).mono ?_
  rintro x w1 ⟨rfl, hb1⟩
  go_wp2_with fail
  refine (KW.out w1 hb1 _ (by omega)).mono ?_
  rintro x w2 ⟨rfl, hbec⟩
  go_wp2
  go_ret
  rw [bs_list] at hbec
  exact ⟨rfl, Became.of_below hb1 hbec⟩
end Go.Proofs.YtoobiffhjjfpgaaGreat.Print
