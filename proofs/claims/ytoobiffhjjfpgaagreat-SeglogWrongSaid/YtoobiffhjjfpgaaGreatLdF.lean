/- segment: next, of sectors that are sealed. segment: next. -/
import Derived.Test.YtoobiffhjjfpgaaGreatLdH
import Derived.Deep.RegionHeld3
namespace Go.Proofs.YtoobiffhjjfpgaaGreat.Print
open Go.RowKit
attribute [local go_sem] run_loadVar_scalar

theorem hold_low {w2 w1 w' : World} {l s : Nat} {a b c : Value} (hl : l < w2.heap.size) (hs : s < w2.heap.size) (h : w1.cell? ⟨l, 0, none⟩ = some a ∧ w1.cell? ⟨s, 4, none⟩ = some b ∧ w1.cell? ⟨s, 7, none⟩ = some c ∧ Below w2.heap.size w2 w1) (hb : Below w2.heap.size w1 w') :
    w'.cell? ⟨l, 0, none⟩ = some a ∧ w'.cell? ⟨s, 4, none⟩ = some b ∧ w'.cell? ⟨s, 7, none⟩ = some c ∧ Below w2.heap.size w2 w' :=
  ⟨(World.cell?_of_block (a := ⟨l, 0, none⟩) (hb.block l hl)).trans h.1, (World.cell?_of_block (a := ⟨s, 4, none⟩) (hb.block s hs)).trans h.2.1, (World.cell?_of_block (a := ⟨s, 7, none⟩) (hb.block s hs)).trans h.2.2.1, h.2.2.2.trans hb⟩
theorem hold_call {w2 w1 w' : World} {l s : Nat} {a b c : Value} (hl : l < w2.heap.size) (hs : s < w2.heap.size) (h : w1.cell? ⟨l, 0, none⟩ = some a ∧ w1.cell? ⟨s, 4, none⟩ = some b ∧ w1.cell? ⟨s, 7, none⟩ = some c ∧ Below w2.heap.size w2 w1) (hb : Below w1.heap.size w1 w') :
    w'.cell? ⟨l, 0, none⟩ = some a ∧ w'.cell? ⟨s, 4, none⟩ = some b ∧ w'.cell? ⟨s, 7, none⟩ = some c ∧ Below w2.heap.size w2 w' := hold_low hl hs h (hb.mono h.2.2.2.size)
theorem hold_alloc {w2 w1 : World} {l s : Nat} {a b c : Value} (hl : l < w2.heap.size) (hs : s < w2.heap.size) (h : w1.cell? ⟨l, 0, none⟩ = some a ∧ w1.cell? ⟨s, 4, none⟩ = some b ∧ w1.cell? ⟨s, 7, none⟩ = some c ∧ Below w2.heap.size w2 w1) (o : Obj) :
    (w1.alloc o).cell? ⟨l, 0, none⟩ = some a ∧ (w1.alloc o).cell? ⟨s, 4, none⟩ = some b ∧ (w1.alloc o).cell? ⟨s, 7, none⟩ = some c ∧ Below w2.heap.size w2 (w1.alloc o) := hold_call hl hs h ((Below.refl _ _).alloc (Nat.le_refl _) _)
theorem hold_set2 {w2 w1 : World} {l s g p q : Nat} {a b c : Value} (hl : l < w2.heap.size) (hs : s < w2.heap.size) (h : w1.cell? ⟨l, 0, none⟩ = some a ∧ w1.cell? ⟨s, 4, none⟩ = some b ∧ w1.cell? ⟨s, 7, none⟩ = some c ∧ Below w2.heap.size w2 w1) (hg : w2.heap.size ≤ g) (u v : Value) :
    ((w1.setCell ⟨g, p, none⟩ u).setCell ⟨g, q, none⟩ v).cell? ⟨l, 0, none⟩ = some a ∧ ((w1.setCell ⟨g, p, none⟩ u).setCell ⟨g, q, none⟩ v).cell? ⟨s, 4, none⟩ = some b ∧ ((w1.setCell ⟨g, p, none⟩ u).setCell ⟨g, q, none⟩ v).cell? ⟨s, 7, none⟩ = some c ∧ Below w2.heap.size w2 ((w1.setCell ⟨g, p, none⟩ u).setCell ⟨g, q, none⟩ v) :=
  hold_low hl hs h (((Below.refl _ _).setCell hg _).setCell hg _)
theorem realloc_low {w2 w4 : World} (hge : w2.heap.size ≤ w4.heap.size) (o o' : Obj) : Below w2.heap.size (w4.alloc o) (w4.alloc o') :=
  ⟨rfl, rfl, rfl, by simp, fun k hk => (Below.heap_alloc _ _ _ (by omega)).trans (Below.heap_alloc _ _ _ (by omega)).symm⟩
theorem hold_realloc {w2 w4 : World} {l s : Nat} {a b c : Value} (hl : l < w2.heap.size) (hs : s < w2.heap.size) (hge : w2.heap.size ≤ w4.heap.size) (o o' : Obj) (h : (w4.alloc o).cell? ⟨l, 0, none⟩ = some a ∧ (w4.alloc o).cell? ⟨s, 4, none⟩ = some b ∧ (w4.alloc o).cell? ⟨s, 7, none⟩ = some c ∧ Below w2.heap.size w2 (w4.alloc o)) :
    (w4.alloc o').cell? ⟨l, 0, none⟩ = some a ∧ (w4.alloc o').cell? ⟨s, 4, none⟩ = some b ∧ (w4.alloc o').cell? ⟨s, 7, none⟩ = some c ∧ Below w2.heap.size w2 (w4.alloc o') := hold_low hl hs h (realloc_low hge o o')
theorem hold_drew {w1 : World} {l s : Nat} {a b c : Value} (h1 : w1.cell? ⟨l, 0, none⟩ = some a) (h2 : w1.cell? ⟨s, 4, none⟩ = some b) (h3 : w1.cell? ⟨s, 7, none⟩ = some c) :
    w1.drew.cell? ⟨l, 0, none⟩ = some a ∧ w1.drew.cell? ⟨s, 4, none⟩ = some b ∧ w1.drew.cell? ⟨s, 7, none⟩ = some c ∧ Below w1.heap.size w1 w1.drew := ⟨h1, h2, h3, (Below.refl _ _).drew⟩
/-- A segment whose frames have grown by one. -/
theorem seg_push6 {w w1 : World} {s v n : Nat} {h : H4} {fs : List Fr} {e : Nat} {sealed : Bool} {fv : Value} {G : Foot} (hs : w.heap[s]? = some (segObj v n h fv e sealed)) (hne : fv.ownBlock ≠ some s) (hG : ∀ i, G i ↔ i = s ∨ fv.ownBlock = some i) (x : Fr) (g cap : Nat)
    (hown : w1.ownsRow 0 43 2 (.slice (some ⟨g, 0, none⟩) (fs.length + 1) cap) (fs.length + 1) (fcells fs ++ frC x))
    (hu : Upd (fun i => fv.ownBlock = some i) w w1) (hat : fv.ownBlock = some g ∨ w.heap.size ≤ g) :
    SegIs s v n h (fs ++ [x]) e sealed (w1.setCell ⟨s, 6, none⟩ (.slice (some ⟨g, 0, none⟩) (fs.length + 1) cap)) (fun i => i = s ∨ i = g) ∧
    Upd G w (w1.setCell ⟨s, 6, none⟩ (.slice (some ⟨g, 0, none⟩) (fs.length + 1) cap)) ∧ Fresh w G (fun i => i = s ∨ i = g) := by
  have hs1 := hu.at_ hs hne
  have hgs : g ≠ s := by
    rcases hat with h | h
    · intro e; subst e; exact hne h
    · have := lt_of hs; omega
  have hU1 : Upd (fun i => i = s) w1 (w1.setCell ⟨s, 6, none⟩ (.slice (some ⟨g, 0, none⟩) (fs.length + 1) cap)) := (Upd.refl (fun i => i = s) w1).setCell (p := ⟨s, 6, none⟩) (fun _ => rfl) _
  refine ⟨⟨.slice (some ⟨g, 0, none⟩) (fs.length + 1) cap, ?_, ?_, ?_, ?_⟩, ?_, ?_⟩
  · rw [cells_set _ _ _ _ _ _ hs1]; rfl
  · rw [fcells_snoc, List.length_append]
    exact ownsRow_upd hU1 hown (fun i hi e => hgs (by simp [Value.ownBlock] at hi; omega))
  · simp [Value.ownBlock]; exact hgs
  · intro i; simp [Value.ownBlock]; exact or_congr Iff.rfl ⟨fun h => h.symm, fun h => h.symm⟩
  · exact (hu.mono (T := G) (fun i _ h => (hG i).2 (.inr h))).trans hU1 (fun i _ e => (hG i).2 (.inl e))
  · rintro i (rfl | rfl)
    · exact .inl ((hG _).2 (.inl rfl))
    · rcases hat with h | h
      · exact .inl ((hG _).2 (.inr h))
      · exact .inr h
/-- A segment whose end is told anew. -/
theorem seg_end {w : World} {s v n : Nat} {h : H4} {fs : List Fr} {e e' : Nat} {sealed : Bool} {G : Foot} (S : SegIs s v n h fs e sealed w G) (ei : Int) (hei : ei = e') :
    SegIs s v n h fs e' sealed (w.setCell ⟨s, 7, none⟩ (.int .i64 ei)) G ∧ Upd G w (w.setCell ⟨s, 7, none⟩ (.int .i64 ei)) := by
  obtain ⟨fv, hs, hrow, hne, hG⟩ := S
  have hU : Upd (fun i => i = s) w (w.setCell ⟨s, 7, none⟩ (.int .i64 ei)) := (Upd.refl (fun i => i = s) w).setCell (p := ⟨s, 7, none⟩) (fun _ => rfl) _
  exact ⟨⟨fv, by rw [cells_set _ _ _ _ _ _ hs, hei]; rfl, ownsRow_upd hU hrow (fun i hi e => hne (e ▸ hi)), hne, hG⟩, hU.mono (fun i _ e => (hG i).2 (.inl e))⟩
/-- Behind the statement that joins and decodes. -/
def CutN (w2 : World) (kk : Int) (pp : ByteArray) (nn er : Int) (q0 q1 q2 : Value) (wx : World) : Prop :=
  ∃ g : Nat, q0 = .pointer (some ⟨g, 0, none⟩) ∧ q1 = .int .i64 nn ∧ q2 = .int .i64 er ∧ w2.heap.size ≤ g ∧ Below w2.heap.size w2 wx ∧ wx.heap[g]? = some (.cells #[.int .i64 kk, .string pp] 43)
abbrev frZ : Obj := .cells #[.int .i64 0, .string ⟨#[]⟩] 43
theorem cut_set {w2 w4 : World} {g : Nat} {kk : Int} {pp : ByteArray} {nn er : Int} (hB : Below w2.heap.size w2 ((w4.setCell ⟨g, 0, none⟩ (.int .i64 kk)).setCell ⟨g, 1, none⟩ (.string pp))) (hg : w4.heap[g]? = some frZ) (hge : w2.heap.size ≤ g) :
    CutN w2 kk pp nn er (.pointer (some ⟨g, 0, none⟩)) (.int .i64 nn) (.int .i64 er) ((w4.setCell ⟨g, 0, none⟩ (.int .i64 kk)).setCell ⟨g, 1, none⟩ (.string pp)) := by
  refine ⟨g, rfl, rfl, rfl, hge, hB, ?_⟩
  have h1 : (w4.setCell ⟨g, 0, none⟩ (.int .i64 kk)).heap[g]? = some (.cells #[.int .i64 kk, .string ⟨#[]⟩] 43) := by rw [cells_set _ _ _ _ _ _ hg]; rfl
  rw [cells_set _ _ _ _ _ _ h1]; rfl
theorem cut_new {w2 w4 : World} {kk : Int} {pp : ByteArray} {nn er : Int} (hB : Below w2.heap.size w2 (w4.alloc (.cells #[.int .i64 kk, .string pp] 43))) (hge : w2.heap.size ≤ w4.heap.size) :
    CutN w2 kk pp nn er (.pointer (some ⟨w4.heap.size, 0, none⟩)) (.int .i64 nn) (.int .i64 er) (w4.alloc (.cells #[.int .i64 kk, .string pp] 43)) :=
  ⟨w4.heap.size, rfl, rfl, rfl, hge, hB, alloc_at _ _⟩
set_option maxRecDepth 100000 in
set_option maxHeartbeats 6400000 in
attribute [-go_sem] Instr.build Instr.fill Instr.buildSlice loadVar in
/-- The next frame, of sectors that are sealed so. -/
theorem next_frame {w : World} {l s v n : Nat} {h : H4} {fs : List Fr} {e : Nat} {G : Foot} (S : SegIs s v n h fs e true w G) (O : Nat → Op3) (h52 : O52 O) (hl : w.heap[l]? = some (ldO s O)) (he : e < 16) (hfs : fs.length ≤ 1000)
    (d : List UInt8) (hd : gate O h.2.2.1 (fs.length + 2) e = some d) (hall : many (readL (d.take 2) + 6) ≤ 16 - e ∧ ∀ k, k < many (readL (d.take 2) + 6) → ∃ d', gate O h.2.2.1 (fs.length + 2) (e + k) = some d') (he1 : 1 ≤ e) (hst : h.2.2.1 < 4294967296) (ha : ¬ G l) :
    Calls Tryz.prog 120 #[.pointer (some ⟨l, 0, none⟩)] w fun x w' =>
      (decP h.2.2.1 e (joinP O e (many (readL (d.take 2) + 6))) = none ∧ x = .returned (.bool false) ∧ Below w.heap.size w w') ∨
      (∃ b G', decP h.2.2.1 e (joinP O e (many (readL (d.take 2) + 6))) = some b ∧ x = .returned (.bool true) ∧ SegIs s v n h (fs ++ [(((b.headD 0).toNat : Int), bs b.tail)]) (e + many (readL (d.take 2) + 6)) true w' G' ∧ Upd G w w' ∧ Fresh w G G' ∧ w'.heap[l]? = some (ldO s O)) := by
  obtain ⟨fv, hs, hrow, hne, hG⟩ := S
  have ho := gate_some hd
  have hdl := h52 _ _ ho
  have hrd := readL_lt (d.take 2)
  have hM2 : many (readL (d.take 2) + 6) ≤ 100000 := by
    have h2 : (d.take 2).length = 2 := by rw [List.length_take]; simp only at hdl; omega
    rw [h2] at hrd
    unfold many; split <;> omega
  have hT := fun (w : World) => told_any (bs d) (by rw [bs_size]; simp only at hdl; omega) w
  rw [bs_list] at hT
  have hM1 : 1 ≤ many (readL (d.take 2) + 6) := by unfold many; split <;> omega
  obtain ⟨M, hM⟩ : ∃ M, many (readL (d.take 2) + 6) = M := ⟨_, rfl⟩
  rw [hM] at hall hM1 hM2 hT
  have HM := Lib.hid hM
  clear hM
  have hMe := hall.1
  obtain ⟨i0, hi0, hz0, hz1, hz2⟩ := info_parts info_fr
  have S0 : SegIs s v n h fs e true w G := ⟨fv, hs, hrow, hne, hG⟩
  have HSS := Lib.hid S0
  have HR := Lib.hid hrow
  have HT := Lib.hid hT
  have hL1 := fun w' hl' hs' i j hi hj => lies_any (w := w') l s v n h fv e true (fun k => oD (O k)) (fun k => oS (O k)) (fun k => oN (O k)) hl' hs' (by omega) 1 (fs.length + 2) (by omega) i j hi hj true (by
    constructor
    · intro _
      refine ⟨by omega, fun k hk => ?_⟩
      obtain rfl : k = 0 := by omega
      exact (gate_iff (O := O) (by omega)).2 ⟨d, hd⟩
    · intro _; rfl)
  have hL2 := fun w' hl' hs' i j hi hj => lies_any (w := w') l s v n h fv e true (fun k => oD (O k)) (fun k => oS (O k)) (fun k => oN (O k)) hl' hs' (by omega) M (fs.length + 2) (by omega) i j hi hj true (by
    constructor
    · intro _
      exact ⟨hall.1, fun k hk => (gate_iff (O := O) (by omega)).2 (hall.2 k hk)⟩
    · intro _; rfl)
  have HL1 := Lib.hid hL1
  have HL2 := Lib.hid hL2
  have hlenV : ∃ ao ac, fv = .slice ao fs.length ac := by
    rcases hrow.2 with ⟨rfl, h0⟩ | ⟨g, cap, cur, rfl, _⟩
    · exact ⟨none, 0, by rw [h0]⟩
    · exact ⟨_, _, rfl⟩
  obtain ⟨ao, ac, rfl⟩ := hlenV
  have c0 := ld_seg hl
  have HHL := Lib.hid hl
  have HHS := Lib.hid hs
  have HO := Lib.hid ho
  obtain ⟨b0, b1, b2, b3, b4, b5, b6, b7, b8, bfz⟩ := nine_of hs
  clear hL1 hL2 hl hs hrow hall hT hd ho hrd hdl
  go_enter Tryz.func120, Tryz.ntmps120
  go_wp2_with fail
  refine (HL1.out _ HHL.out HHS.out _ _ rfl (by omega)).mono ?_
  rintro x w1 ⟨rfl, hb1⟩
  have hl1 := later_of HHL.out hb1
  have hs1 := later_of HHS.out hb1
  clear c0 b0 b1 b2 b3 b4 b5 b6 b7 b8 bfz
  have c0 := ld_seg hl1
  have d1 : w1.cell? ⟨l, 1 + e, none⟩ = some (.string (bs d)) := by
    have := ld_data hl1 e he
    rw [HO.out] at this
    exact this
  obtain ⟨b0, b1, b2, b3, b4, b5, b6, b7, b8, bfz⟩ := nine_of hs1
  have hei : (e : Int) < 16 := by omega
  have HB1 := Lib.hid hb1
  have HL1' := Lib.hid hl1
  have HS1' := Lib.hid hs1
  clear hb1 hl1 hs1
  go_wp2_with fail
  go_quiet (exact told_quiet HT.out _ _)
  have hl2 : (w1.drewN nq).heap[l]? = _ := HL1'.out
  have hs2 : (w1.drewN nq).heap[s]? = _ := HS1'.out
  have HL2' := Lib.hid (fun i j hi hj => HL2.out (w1.drewN nq) hl2 hs2 i j hi hj)
  clear hl2 hs2
  go_wp2_with fail
  refine (HL2'.out _ _ rfl (by omega)).mono ?_
  rintro x w2 ⟨rfl, hb2⟩
  have hB2 : Below w.heap.size w w2 := (below_drewN HB1.out _).trans (hb2.mono HB1.out.size)
  have hl3 := later_of (w1 := w1.drewN nq) HL1'.out hb2
  have hs3 := later_of (w1 := w1.drewN nq) HS1'.out hb2
  clear c0 d1 b0 b1 b2 b3 b4 b5 b6 b7 b8 bfz hb2
  have c0 := ld_seg hl3
  obtain ⟨b0, b1, b2, b3, b4, b5, b6, b7, b8, bfz⟩ := nine_of hs3
  obtain ⟨en, hen⟩ : ∃ en, e + M = en := ⟨_, rfl⟩
  have hwr : IntKind.i64.wrap ((e : Int) + (M : Int)) = (en : Int) := by rw [IntKind.wrap_i64]; omega
  have hsl := strSlice l 1 e en M hen (by omega) he
  have hJ := fun (w' : World) (hl' : w'.heap[l]? = some (ldO s O)) => join_any hl' h52 e M (16 - e) (by omega) hMe
  have HJ := Lib.hid hJ
  have HB2 := Lib.hid hB2
  have HL3 := Lib.hid hl3
  have HS3 := Lib.hid hs3
  have HEN := Lib.hid hen
  clear hJ hB2 hl3 hs3 hen HL1 HL2 HL2' HL1' HS1' HB1 HT HO HHL
  obtain ⟨J, hJJ⟩ : ∃ J, joinP O e M = J := ⟨_, rfl⟩
  have HJJ := Lib.hid hJJ
  have HL3d : w2.drew.heap[l]? = _ := HL3.out
  have HJ3 := Lib.hid (HJ.out w2.drew HL3d)
  have HL3a : (w2.alloc frZ).drew.heap[l]? = _ := alloc_old HL3.out frZ
  have HJ3a := Lib.hid (HJ.out (w2.alloc frZ).drew HL3a)
  have HS3d : w2.drew.heap[s]? = _ := HS3.out
  have HS3a : (w2.alloc frZ).drew.heap[s]? = _ := alloc_old HS3.out frZ
  have hllt := lt_of HL3.out
  have hslt := lt_of HS3.out
  have HJS := Lib.hid (fun (w' : World) (hh : w'.cell? ⟨l, 0, none⟩ = some (.pointer (some ⟨s, 0, none⟩)) ∧ w'.cell? ⟨s, 4, none⟩ = some (.int .u32 h.2.2.1) ∧ w'.cell? ⟨s, 7, none⟩ = some (.int .i64 e) ∧ Below w2.heap.size w2 w') => HJ.out w' (later_of HL3.out hh.2.2.2))
  have KL := Lib.hid HL3d
  have KLa := Lib.hid HL3a
  have KS := Lib.hid HS3d
  have KSa := Lib.hid HS3a
  clear HL3d HL3a HS3d HS3a
  have hdb := dec_any h.2.2.1 e (bs J) hst he1 he
  rw [bs_list] at hdb
  rcases hdb with ⟨hdn, er, her, hD, _⟩ | ⟨bd, hds, hD, _⟩
  · have HD := Lib.hid hD
    have HDN := Lib.hid hdn
    have ker : (er != 0) = true := by simpa using her
    clear hD hdn hJJ her
    go_wp2_with fail
    go_cut [5, 6, 7] (fun q0 q1 q2 wx => CutN w2 0 ⟨#[]⟩ 0 er q0 q1 q2 wx)
    case first =>
      go_region_held3 (fun w' => w'.cell? ⟨l, 0, none⟩ = some (.pointer (some ⟨s, 0, none⟩)) ∧ w'.cell? ⟨s, 4, none⟩ = some (.int .u32 h.2.2.1) ∧ w'.cell? ⟨s, 7, none⟩ = some (.int .i64 e) ∧ Below w2.heap.size w2 w')
        (first | assumption | exact hold_drew c0 b4 b7 | exact hold_call hllt hslt (by assumption) hb | exact hold_alloc hllt hslt (by assumption) _ | exact hold_realloc hllt hslt hge4 frZ _ (by assumption) | exact hold_set2 hllt hslt (by assumption) (by first | exact Nat.le_refl _ | assumption | omega) _ _)
        (first
        | (go_at_call 141; (with_reducible refine (HJS.out _ (by assumption)).mono ?_); rintro x w3 ⟨rfl, hb⟩; rw [HJJ.out]; have hB3 := Lib.hid hb; have hge3 : w2.heap.size ≤ w3.heap.size := (by have hz := hb.size; first | omega | (simp at hz; omega)); try (have z3 := later_of (w1 := (w2.alloc frZ).drew) (alloc_at w2 frZ) hb; have zl3 := lt_of z3))
        | (go_at_call 140; (with_reducible refine (HD.out _).mono ?_); rintro x w4 ⟨rfl, hb⟩; have hge4 : w2.heap.size ≤ w4.heap.size := (by have hz := hb.size; first | omega | (simp at hz; omega)); (first | (have z4 := later_of z3 hb; have zl4 := lt_of z4; obtain ⟨d0, d1, g0, g1⟩ := two_of z4) | (have z4 := later_of (w1 := w3.alloc frZ) (alloc_at w3 frZ) hb; have zl4 := lt_of z4; obtain ⟨d0, d1, g0, g1⟩ := two_of z4) | skip)))
      all_goals
        go_wp2_with fail
        go_meet
        first
          | exact cut_new (‹_ ∧ _ ∧ _ ∧ _›).2.2.2 hge4
          | exact cut_set (‹_ ∧ _ ∧ _ ∧ _›).2.2.2 z4 (by first | exact Nat.le_refl _ | assumption)
    case rest =>
      obtain ⟨g, rfl, rfl, rfl, hgw, hbc, hgc⟩ := hcut
      go_wp2
      go_ret
      exact .inl ⟨by rw [HM.out, HJJ.out]; exact HDN.out, rfl, HB2.out.trans (hbc.mono HB2.out.size)⟩
  · obtain ⟨kk, hkk⟩ : ∃ kk : Nat, (bd.headD 0).toNat = kk := ⟨_, rfl⟩
    obtain ⟨pp, hpp⟩ : ∃ pp, bs bd.tail = pp := ⟨_, rfl⟩
    obtain ⟨bl, hbl⟩ : ∃ bl : Nat, 6 + bd.length = bl := ⟨_, rfl⟩
    rw [hkk, hpp, hbl] at hD
    have HD := Lib.hid hD
    have HKK := Lib.hid hkk
    have HPP := Lib.hid hpp
    have HDS := Lib.hid hds
    clear hD hds hJJ hkk hpp hbl
    go_wp2_with fail
    go_cut [5, 6, 7] (fun q0 q1 q2 wx => CutN w2 kk pp bl 0 q0 q1 q2 wx)
    case first =>
      go_region_held3 (fun w' => w'.cell? ⟨l, 0, none⟩ = some (.pointer (some ⟨s, 0, none⟩)) ∧ w'.cell? ⟨s, 4, none⟩ = some (.int .u32 h.2.2.1) ∧ w'.cell? ⟨s, 7, none⟩ = some (.int .i64 e) ∧ Below w2.heap.size w2 w')
        (first | assumption | exact hold_drew c0 b4 b7 | exact hold_call hllt hslt (by assumption) hb | exact hold_alloc hllt hslt (by assumption) _ | exact hold_realloc hllt hslt hge4 frZ _ (by assumption) | exact hold_set2 hllt hslt (by assumption) (by first | exact Nat.le_refl _ | assumption | omega) _ _)
        (first
        | (go_at_call 141; (with_reducible refine (HJS.out _ (by assumption)).mono ?_); rintro x w3 ⟨rfl, hb⟩; rw [HJJ.out]; have hB3 := Lib.hid hb; have hge3 : w2.heap.size ≤ w3.heap.size := (by have hz := hb.size; first | omega | (simp at hz; omega)); try (have z3 := later_of (w1 := (w2.alloc frZ).drew) (alloc_at w2 frZ) hb; have zl3 := lt_of z3))
        | (go_at_call 140; (with_reducible refine (HD.out _).mono ?_); rintro x w4 ⟨rfl, hb⟩; have hge4 : w2.heap.size ≤ w4.heap.size := (by have hz := hb.size; first | omega | (simp at hz; omega)); (first | (have z4 := later_of z3 hb; have zl4 := lt_of z4; obtain ⟨d0, d1, g0, g1⟩ := two_of z4) | (have z4 := later_of (w1 := w3.alloc frZ) (alloc_at w3 frZ) hb; have zl4 := lt_of z4; obtain ⟨d0, d1, g0, g1⟩ := two_of z4) | skip)))
      all_goals
        go_wp2_with fail
        go_meet
        first
          | exact cut_new (‹_ ∧ _ ∧ _ ∧ _›).2.2.2 hge4
          | exact cut_set (‹_ ∧ _ ∧ _ ∧ _›).2.2.2 z4 (by first | exact Nat.le_refl _ | assumption)
    case rest =>
      obtain ⟨g, rfl, rfl, rfl, hgw, hbc, hgc⟩ := hcut
      have hs5 := later_of HS3.out hbc
      have hl5 := later_of HL3.out hbc
      have hBw : Below w.heap.size w wc := HB2.out.trans (hbc.mono HB2.out.size)
      have hrow5 := (ownsRow_upd (S := fun _ => False) (Upd.of_below hBw) HR.out (fun _ _ h => h))
      have HR5 := Lib.hid hrow5
      have HS5 := Lib.hid hs5
      have HL5 := Lib.hid hl5
      have HBw := Lib.hid hBw
      clear c0 b0 b1 b2 b3 b4 b5 b6 b7 b8 bfz hrow5
      have c0 := ld_seg hl5
      obtain ⟨b0, b1, b2, b3, b4, b5, b6, b7, b8, bfz⟩ := nine_of hs5
      have hslt5 := lt_of hs5
      have hllt5 := lt_of hl5
      have hld5 := load_fr (w := wc.drew) hgc
      have hbs5 := fun (w' : World) => run_buildSlice_one (P := Tryz.prog) w' 49 43 _ 2 #[.int .i64 kk, .string pp] Tryz.underlying49 info_fr2 (by omega) (by omega) rfl
      clear hs5 hl5 hBw
      go_wp2_with fail
      go_cut [] (fun wx => ∃ G2, SegIs s v n h (fs ++ [((kk : Int), pp)]) e true wx G2 ∧ Upd G wc wx ∧ Fresh wc G G2 ∧ wx.heap[l]? = some (ldO s O))
      case first =>
        go_region_law (refine step_append_lies _ (by rfl) _ _ _ (by rfl) 0 43 i0 _ 2 24 Tryz.underlying49 hi0 hz0 hz1 hz2 rfl (by omega) (.slice ao fs.length ac) _ _ (by rfl) ((HR5.out.alloc _).drew) _ 1 1 (frC ((kk : Int), pp)) (by rfl) rfl (World.news_of_block (cs := #[.int .i64 kk, .string pp]) (t := 43) (fr := (0, 0)) (heap_alloc_new wc _)) (by simp [frC, Value.oneCell']) (by omega) (by unfold maxLen; omega) (by omega) (by simp) _ rfl ?_; intro gg cap w4 hown1 hgrow hat hlt; have hd2 : w4.heap[s]? = some (segObj v n h (.slice ao fs.length ac) e true) := (hgrow.block s (by simp; omega) (fun e => hne e.symm)).trans (alloc_old HS5.out (.cells #[.int .i64 kk, .string pp] 43)); have hd3 : w4.heap[l]? = some (ldO s O) := (hgrow.block l (by simp; omega) (fun e => ha ((hG l).2 (.inr e.symm)))).trans (alloc_old HL5.out (.cells #[.int .i64 kk, .string pp] 43)); have q0 := ld_seg hd3; obtain ⟨d0, d1, d2, d3, d4, d5, d6, d7, d8, dfz⟩ := nine_of hd2)
        all_goals
          have hUa : Upd (fun i => (Value.slice ao fs.length ac).ownBlock = some i) wc w4 := ⟨hgrow.os, hgrow.tape, hgrow.output, Nat.le_trans (by simp) hgrow.size, fun i hi hn => (hgrow.block i (by simp; omega) (fun e => hn e.symm)).trans (Below.heap_alloc _ _ _ hi)⟩
          obtain ⟨hSg, hUg, hFg⟩ := seg_push6 HS5.out hne hG ((kk : Int), pp) gg cap hown1 hUa (hat.imp id (fun e => by rw [e]; simp))
          have hl9 := hUg.at_ HL5.out ha
          have HF9 := Lib.hid (And.intro hSg (And.intro hUg (And.intro hFg hl9)))
          clear hSg hUg hFg hUa hgrow hown1 hl9
          go_wp2_with fail
          go_meet
          exact ⟨_, HF9.out⟩
      case rest =>
        obtain ⟨G2, hS9, hU9, hF9, hl9⟩ := hcut
        obtain ⟨fv9, hs9, _⟩ := id hS9
        have HS9 := Lib.hid hS9
        have HL9 := Lib.hid hl9
        clear c0 b0 b1 b2 b3 b4 b5 b6 b7 b8 bfz hld5 hbs5 hslt5 hllt5
        have c0 := ld_seg hl9
        obtain ⟨b0, b1, b2, b3, b4, b5, b6, b7, b8, bfz⟩ := nine_of hs9
        clear hS9 hl9 hs9
        obtain ⟨hS10, hU10⟩ := seg_end (e' := e + M) HS9.out (en : Int) (by have := HEN.out; omega)
        have hl10 := hU10.at_ HL9.out (fun hc => by
          rcases hF9 l hc with hh | hh
          · exact ha hh
          · have := lt_of HL5.out; omega)
        have HF := Lib.hid (And.intro hS10 (And.intro hU10 hl10))
        have HUw := Lib.hid ((Upd.of_below (S := G) HBw.out).trans hU9 (fun _ _ h => h))
        have HF9 := Lib.hid (show Fresh w G G2 from fun i hi => (hF9 i hi).imp id (fun hh => by have := HBw.out.size; omega))
        clear hS10 hU10 hl10 hU9 hF9
        go_wp2
        go_ret
        refine .inr ⟨bd, G2, by rw [HM.out, HJJ.out]; exact HDS.out, rfl, ?_, ?_, HF9.out, HF.out.2.2⟩
        · rw [HM.out, HKK.out, HPP.out]
          exact HF.out.1
        · refine HUw.out.trans HF.out.2.1 (fun i hi hc => ?_)
          rcases HF9.out i hc with hh | hh
          · exact hh
          · omega
end Go.Proofs.YtoobiffhjjfpgaaGreat.Print

namespace Go.Proofs.YtoobiffhjjfpgaaGreat.Print
open Go.RowKit

/-- The next frame, or none. -/
theorem next_any {w : World} {l s v n : Nat} {h : H4} {fs : List Fr} {e : Nat} {G : Foot} (S : SegIs s v n h fs e true w G) (O : Nat → Op3) (h52 : O52 O) (hl : w.heap[l]? = some (ldO s O)) (he1 : 1 ≤ e) (he : e ≤ 16) (hfs : fs.length ≤ 1000) (hst : h.2.2.1 < 4294967296) (ha : ¬ G l) :
    Calls Tryz.prog 120 #[.pointer (some ⟨l, 0, none⟩)] w fun x w' =>
      (nextP O h.2.2.1 e fs.length = none ∧ x = .returned (.bool false) ∧ Below w.heap.size w w') ∨
      (∃ b G', nextP O h.2.2.1 e fs.length = some b ∧ e + many (6 + b.length) ≤ 16 ∧ x = .returned (.bool true) ∧ SegIs s v n h (fs ++ [(((b.headD 0).toNat : Int), bs b.tail)]) (e + many (6 + b.length)) true w' G' ∧ Upd G w w' ∧ Fresh w G G' ∧ w'.heap[l]? = some (ldO s O)) := by
  by_cases h16 : e = 16
  · subst h16
    exact (next_gate S O hl (Nat.le_refl _) hfs (.inl rfl)).mono fun x w' ⟨hx, hb⟩ => .inl ⟨by unfold nextP; rw [if_neg (by omega)], hx, hb⟩
  have he' : e < 16 := by omega
  obtain ⟨L1, L2, L3⟩ := next_law (O := O) h52 (stamp := h.2.2.1) (c := fs.length) he'
  cases hg : gate O h.2.2.1 (fs.length + 2) e with
  | none => exact (next_gate S O hl he hfs (.inr hg)).mono fun x w' ⟨hx, hb⟩ => .inl ⟨L1 hg, hx, hb⟩
  | some d =>
    by_cases hall : many (readL (d.take 2) + 6) ≤ 16 - e ∧ ∀ k, k < many (readL (d.take 2) + 6) → ∃ d', gate O h.2.2.1 (fs.length + 2) (e + k) = some d'
    · have hn := L2 d hg hall
      refine (next_frame S O h52 hl he' hfs d hg hall he1 hst ha).mono fun x w' hp => ?_
      rcases hp with ⟨h1, h2, h3⟩ | ⟨b, G', h1, h2, h3, h4, h5, h6⟩
      · exact .inl ⟨hn.trans h1, h2, h3⟩
      · have hlen : many (6 + b.length) = many (readL (d.take 2) + 6) := by
          obtain ⟨q1, q2, q3, q4, q5, _⟩ := decP_some h1
          have hM : 1 ≤ many (readL (d.take 2) + 6) := by unfold many; split <;> omega
          have ht : (joinP O e (many (readL (d.take 2) + 6))).take 2 = d.take 2 := by
            obtain ⟨m, hm⟩ : ∃ m, many (readL (d.take 2) + 6) = m + 1 := ⟨many (readL (d.take 2) + 6) - 1, by omega⟩
            have ho := gate_some hg
            have h5 := h52 _ _ ho
            rw [hm, joinP_head, ho]
            simp only [oD, bs_list]
            simp only at h5
            rw [List.take_append_of_le_length (by omega)]
          rw [ht] at q2 q3 q4 q5
          have : b.length = readL (d.take 2) := by rw [q5, List.length_take, List.length_drop]; omega
          rw [this, Nat.add_comm]
        exact .inr ⟨b, G', hn.trans h1, by rw [hlen]; omega, h2, by rw [hlen]; exact h3, h4, h5, h6⟩
    · exact (next_part S O h52 hl he' hfs d hg hall).mono fun x w' ⟨hx, hb⟩ => .inl ⟨L3 d hg hall, hx, hb⟩
end Go.Proofs.YtoobiffhjjfpgaaGreat.Print
