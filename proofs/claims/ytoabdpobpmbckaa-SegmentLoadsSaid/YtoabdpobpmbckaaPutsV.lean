/- weighlocklaw13.read: the sectors of a view's segment, as they are read. SegmentPuts: what an Append comes to, in the program and in the reference; the sectors as they lie. -/
import Derived.Test.YtoabdpobpmbckaaRefM
import Derived.Test.YtoabdpobpmbckaaRefA
namespace Go.Proofs.Ytoabdpobpmbckaa.Print
open Go.RowKit
attribute [local go_sem] run_loadVar_scalar

def rdA (X : Nat → ByteArray) (b : Bool) : Array Value := Array.ofFn (n := 17) fun i => if i.val < 16 then .string (X i.val) else .bool b
theorem rdA_size (X : Nat → ByteArray) (b : Bool) : (rdA X b).size = 17 := by simp [rdA]
theorem rdA_get (X : Nat → ByteArray) (b : Bool) (i : Nat) (hi : i < 17) : (rdA X b)[i]? = some (if i < 16 then .string (X i) else .bool b) := by simp [rdA, hi]
theorem rdA_ext {X Y : Nat → ByteArray} (b : Bool) (h : ∀ k, k < 16 → X k = Y k) : rdA X b = rdA Y b := by
  unfold rdA
  congr 1
  funext i
  by_cases hi : i.val < 16
  · rw [if_pos hi, if_pos hi, h _ hi]
  · rw [if_neg hi, if_neg hi]
theorem rdA_one (X : Nat → ByteArray) (b : Bool) : ∀ v ∈ (rdA X b).toList, v.oneCell' = true := by
  intro v hv
  obtain ⟨i, hi, rfl⟩ := List.mem_iff_getElem.1 hv
  rw [Array.getElem_toList]
  simp only [rdA, Array.getElem_ofFn]
  split <;> rfl
theorem rdA_set (X : Nat → ByteArray) (b : Bool) (j : Nat) (hj : j < 16) (x : ByteArray) : (rdA X b).setIfInBounds j (.string x) = rdA (upd X j x) b := by
  apply Array.ext
  · simp [rdA_size]
  · intro i h1 h2
    have hi : i < 17 := by simpa [rdA_size] using h1
    rw [Array.getElem_setIfInBounds (by rw [rdA_size]; exact hi)]
    simp only [rdA, Array.getElem_ofFn, upd]
    by_cases e : j = i
    · subst e; simp [hj]
    · rw [if_neg e]
      by_cases h16 : i < 16
      · rw [if_pos h16, if_pos h16, if_neg (fun h => e h.symm)]
      · rw [if_neg h16, if_neg h16]
theorem rdA_setB (X : Nat → ByteArray) (b c : Bool) : (rdA X b).setIfInBounds 16 (.bool c) = rdA X c := by
  apply Array.ext
  · simp [rdA_size]
  · intro i h1 h2
    have hi : i < 17 := by simpa [rdA_size] using h1
    rw [Array.getElem_setIfInBounds (by rw [rdA_size]; exact hi)]
    simp only [rdA, Array.getElem_ofFn]
    by_cases e : 16 = i
    · subst e; simp
    · rw [if_neg e, if_pos (by omega), if_pos (by omega)]
theorem zero_rd (w : World) : (zeroValue 79).run Try.prog w = .ok (.agg (rdA (fun _ => eB) false)) w := by kernel_rfl
theorem build_rd (w : World) : (Instr.build 79 #[(1, .bool true)]).run Try.prog w = .ok (.agg (rdA (fun _ => eB) true)) w := run_build w 79 _ _ (by kernel_rfl)
theorem rdInfo : (Try.prog.info? 79).map (·.size) = some 17 := by kernel_rfl
theorem load_rd {w : World} {g : Nat} {X : Nat → ByteArray} {b : Bool} {t : TypeId} {fr : Nat × Nat} (hg : w.heap[g]? = some (.cells (rdA X b) t fr)) : (loadVar 79 ⟨g, 0, none⟩).run Try.prog w = .ok (.agg (rdA X b)) w :=
  run_loadVar_row w g t 79 (rdA X b) fr _ hg Try.underlying79 rfl (by rw [rdA_size]; exact rdInfo)
theorem rd_cell {w : World} {g : Nat} {X : Nat → ByteArray} {b : Bool} {t : TypeId} (hg : w.heap[g]? = some (.cells (rdA X b) t)) (k : Nat) (hk : k < 16) : w.cell? ⟨g, k, none⟩ = some (.string (X k)) := by rw [cell_of hg, rdA_get _ _ _ (by omega), if_pos hk]
theorem rd_ok {w : World} {g : Nat} {X : Nat → ByteArray} {b : Bool} {t : TypeId} (hg : w.heap[g]? = some (.cells (rdA X b) t)) : w.cell? ⟨g, 16, none⟩ = some (.bool b) := by rw [cell_of hg, rdA_get _ _ _ (by omega), if_neg (by omega)]
theorem rd_secs {w : World} {g : Nat} {X : Nat → ByteArray} {b : Bool} {t : TypeId} (hg : w.heap[g]? = some (.cells (rdA X b) t)) : (loadVar 49 ⟨g, 0, none⟩).run Try.prog w = .ok (.agg (secA X)) w := by
  have := run_loadVar_cells (P := Try.prog) w ⟨g, 0, none⟩ 49 (secA X).toList _ (fun j v hv => ?_) Try.underlying49 rfl (by rw [Array.length_toList, secA_size]; exact secInfo16)
  · simpa using this
  · rw [Array.getElem?_toList] at hv
    have hj : j < 16 := by have := (Array.getElem?_eq_some_iff.1 hv).1; rwa [secA_size] at this
    rw [secA_get _ _ hj] at hv
    cases hv
    rw [Addr.add_lit, Nat.zero_add, rd_cell hg j hj]
set_option maxRecDepth 100000 in
set_option maxHeartbeats 1600000 in
attribute [-go_sem] Instr.build Instr.fill loadVar in
theorem lread_any {w : World} {v : Nat} {lies : List (List UInt8)} {waits : List (Nat × List UInt8)} {f N : Nat} {fu : Int} {F : Foot} (V : ViewIs v lies waits f N fu false w F) (n : Nat) (hN : N ≤ 8192) (hn : 2 + 16 * n + 16 ≤ N) (hw : waits.length ≤ 1000000000) (i : Int) (hi : i = n) (X : Nat → ByteArray) (hX : ∀ k, k < 16 → X k = bs (secX lies waits f (2 + 16 * n + k))) :
    Calls Try.prog 43 #[.pointer (some ⟨v, 0, none⟩), .int .i64 i] w fun x w' => x = .returned (.agg (rdA X true)) ∧ Below w.heap.size w w' := by
  subst hi
  have hz := zero_rd
  have hb := build_rd
  have hsz := rdA_size (fun _ => eB) false
  have hsb := rdA_size (fun _ => eB) true
  have hob := rdA_one (fun _ => eB) true
  obtain ⟨Z, hZ⟩ : ∃ Z, rdA (fun _ => eB) false = Z := ⟨_, rfl⟩
  obtain ⟨T, hT⟩ : ∃ T, rdA (fun _ => eB) true = T := ⟨_, rfl⟩
  rw [hZ] at hz hsz
  rw [hT] at hb hsb hob
  have hz2 : ∀ W : World, (zeroValue 79).run Try.prog W = .ok (.agg Z) W := hz
  have hst := store_new (w.alloc (.cells Z 79)) (w.heap.size + 1) (by simp) Z T 79 (by rw [hsz, hsb]) hob
  have HB1 := Lib.hid (alloc_at' (w.alloc (.cells Z 79)) (.cells T 79) (w.heap.size + 1) (by simp))
  have HB0 := Lib.hid (alloc_old (alloc_at w (.cells Z 79)) (.cells T 79))
  have HBL := Lib.hid (((Below.refl w.heap.size w).alloc (Nat.le_refl _) (.cells Z 79)).alloc (by simp) (.cells T 79))
  have HT := Lib.hid hT
  have HV := Lib.hid V
  have HX := Lib.hid hX
  clear hZ hT hob hz2 V hX
  go_enter Try.func43, Try.ntmps43
  go_wp2
  go_loopw [10] (fun i wr => ∃ j : Nat, j ≤ 16 ∧ i = .int .i64 j ∧ wr.heap[w.heap.size]? = some (.cells Z 79) ∧ wr.heap[w.heap.size + 1]? = some (.cells (rdA (upto j eB X) true) 79) ∧ Below w.heap.size w wr) (fun i _ => 16 - (intOf i).toNat)
  case atStart => exact ⟨0, Nat.zero_le _, rfl, HB0.out, by rw [upto_zero, HT.out]; exact HB1.out, HBL.out⟩
  case round =>
    obtain ⟨j, hj, rfl, hb0, hb1, hB⟩ := hrel
    by_cases hlt : j < 16
    · have KR := Lib.hid (fun i hi => vread_is (ViewIs.stays.below HV.out hB) (2 + 16 * n + j) (by omega) hw i hi)
      have e1 : IntKind.i64.wrap (16 * (n : Int)) = 16 * (n : Int) := by rw [IntKind.wrap_i64]; omega
      have e2 : IntKind.i64.wrap (2 + 16 * (n : Int)) = 2 + 16 * (n : Int) := by rw [IntKind.wrap_i64]; omega
      have e3 : IntKind.i64.wrap (2 + 16 * (n : Int) + (j : Int)) = 2 + 16 * (n : Int) + (j : Int) := by rw [IntKind.wrap_i64]; omega
      have HXj := Lib.hid (HX.out j hlt)
      go_wp2_with fail
      refine (KR.out _ (by omega)).mono ?_
      rintro x w1 ⟨rfl, hb⟩
      rw [← HXj.out]
      have p0 := later_of hb0 hb
      have p1 := later_of hb1 hb
      have c1 := rd_cell p1 j hlt
      have c2 := rd_ok p1
      have hfz := fun o => free_of p1 o
      generalize hxv : X j = xv
      have HXV := Lib.hid hxv
      clear hxv
      go_wp2
      go_roundw
      case rel =>
        have hU : Upd (fun i => i = w.heap.size + 1) wr ((w1.setCell ⟨w.heap.size + 1, j, none⟩ (.string xv)).setCell ⟨w.heap.size + 1, 16, none⟩ (.bool true)) := ((Upd.of_below (S := fun i => i = w.heap.size + 1) hb).setCell (p := ⟨w.heap.size + 1, j, none⟩) (fun _ => rfl) _).setCell (p := ⟨w.heap.size + 1, 16, none⟩) (fun _ => rfl) _
        refine ⟨j + 1, hlt, by simp, hU.at_ hb0 (by omega), ?_, hB.trans (hU.below hB.size (fun i hi e => by omega))⟩
        have s1 : (w1.setCell ⟨w.heap.size + 1, j, none⟩ (.string xv)).heap[w.heap.size + 1]? = some (.cells (rdA (upd (upto j eB X) j xv) true) 79) := by
          rw [cells_set _ _ _ _ _ _ p1, rdA_set _ _ _ hlt]
        rw [cells_set _ _ _ _ _ _ s1, rdA_setB, ← HXV.out, upto_some]
      case measure => simp [intOf]; omega
    · obtain rfl : j = 16 := by omega
      rw [show rdA (upto 16 eB X) true = rdA X true from rdA_ext true fun k hk => if_pos hk] at hb1
      have hl := load_rd hb1
      have hsp := rdA_size X true
      have hst2 := store_all hb0 (rdA X true) (by rw [hsz, hsp]) (rdA_one _ _)
      have hl2 := load_rd (row_set hb0 (rdA X true))
      have hBn := below_setRow hB (Nat.le_refl _) (rdA X true)
      obtain ⟨A, hA⟩ : ∃ A, rdA X true = A := ⟨_, rfl⟩
      rw [hA] at hb1 hl hsp hst2 hl2 hBn
      have HA := Lib.hid hA
      clear hA
      go_wp2
      exact bodyPost_ret (v := .agg A) (by simp [results, Try.results43, asAddr, hl2]) rfl ⟨by rw [HA.out], hBn⟩
theorem secA_lit (X : Nat → ByteArray) : secA X = #[.string (X 0), .string (X 1), .string (X 2), .string (X 3), .string (X 4), .string (X 5), .string (X 6), .string (X 7), .string (X 8), .string (X 9), .string (X 10), .string (X 11), .string (X 12), .string (X 13), .string (X 14), .string (X 15)] := rfl
set_option maxRecDepth 100000 in
set_option maxHeartbeats 1600000 in
theorem eq16 (X : Nat → ByteArray) (w : World) : (Op.equalIn 9999 47 (.agg (secA X)) (.agg (secA X))).run Try.prog w = .ok true w := by
  rw [secA_lit]
  rw [show (9999 : Nat) = 9998 + 1 from rfl, Op.equalIn]
  simp only [Sem.run_bind, run_underlying Try.underlying47, Result.andThen_ok]
  simp only [Std.Legacy.Range.forIn_eq_forIn_range', Std.Legacy.Range.size, Nat.sub_zero, Nat.add_sub_cancel, Nat.div_one, List.range'_succ, List.range'_zero, List.forIn_cons, List.forIn_nil]
  go_simp
/-- Sectors are like themselves. -/
theorem eq_secs (X : Nat → ByteArray) (w : World) : (binOp .neq 49 (.agg (secA X)) (.agg (secA X))).run Try.prog w = .ok (.bool false) w := by
  rw [run_neq_struct]
  have h := eq16 X w
  have hz := secA_size X
  have hx : (secA X).extract 0 16 = secA X := by rw [← hz]; exact Array.extract_size
  generalize secA X = S at h hx ⊢
  go_simp
end Go.Proofs.Ytoabdpobpmbckaa.Print

namespace Go.Proofs.Ytoabdpobpmbckaa.Print
open Go.RowKit

/-- Why an Append is refused. -/
def NoPut (k : Int) (p : ByteArray) (e : Nat) (er : Int) : Prop := (wrongP k p.size ≠ 0 ∧ er = wrongP k p.size) ∨ (wrongP k p.size = 0 ∧ 16 < e + many (7 + p.size) ∧ er = 5)
theorem put_or_no (k : Int) (p : ByteArray) (e : Nat) : (∃ er, NoPut k p e er) ∨ (∃ K : Nat, k = K ∧ 1 ≤ K ∧ K ≤ 255 ∧ p.size ≤ 773 ∧ e + many (7 + p.size) ≤ 16) := by
  by_cases hw : wrongP k p.size = 0
  · obtain ⟨h1, h2, h3⟩ := wrong_zero hw
    by_cases hf : e + many (7 + p.size) ≤ 16
    · exact .inr ⟨k.toNat, by omega, by omega, by omega, h3, hf⟩
    · exact .inl ⟨5, .inr ⟨hw, by omega, rfl⟩⟩
  · exact .inl ⟨_, .inl ⟨hw, rfl⟩⟩
/-- The sectors of the segment n, as they lie. -/
def SecsAre (W : List (Nat × List UInt8)) (n : Nat) (X : Nat → ByteArray) : Prop := ∀ k, k < 16 → X k = bs (secX (zeroDisk 36) W 1 (2 + 16 * n + k))
theorem secs_put {W : List (Nat × List UInt8)} {n : Nat} {X : Nat → ByteArray} (h : SecsAre W n X) (st c e : Nat) (L : List (List UInt8)) : SecsAre (W ++ sealAt (1 + (2 + 16 * n + e)) st c L) n (putS X st c e L) := by
  intro k hk
  unfold secX putS
  rw [lastOf_sealAt]
  by_cases hc : e ≤ k ∧ k < e + L.length
  · rw [dif_pos hc, dif_pos (by omega)]
    congr 3
    omega
  · rw [dif_neg hc, dif_neg (by omega), h k hk]
    rfl
theorem secs_zero (n : Nat) (hn : n < 2) : SecsAre [] n fun _ => zeroB := by
  intro k hk
  unfold secX zeroB
  rw [List.getD_eq_getElem?_getD, zeroDisk_at _ _ (by omega)]
  rfl
theorem puts_create {w : World} {v : Nat} {F : Foot} (V : ViewIs v (zeroDisk 36) [] 1 34 (-1) false w F) (n : Nat) (h : H4) (hf : HFits h) (hn : n < 2) (i : Int) (hi : i = n) :
    Calls Try.prog 41 #[.pointer (some ⟨v, 0, none⟩), .int .i64 i, hdV h.1 h.2.1 h.2.2.1 h.2.2.2] w fun x w' => ∃ (s : Nat) (F' G' : Foot), x = .returned (.tuple #[.pointer (some ⟨s, 0, none⟩), .int .i64 0]) ∧
      PutAt v s n h [] 1 ([] ++ sealAt (1 + (2 + 16 * n + 0)) h.2.2.1 1 [pad52 (hdrL h)]) w' F' G' ∧ Upd F w w' ∧ Fresh w F F' ∧ ∀ i, G' i → w.heap.size ≤ i := by
  refine (create_go V n h hf (by omega) (by omega) (by simp) i hi).mono ?_
  rintro x w' ⟨s, F', G', hx, hV, hS, hA, hU, hF, hG⟩
  exact ⟨s, F', G', hx, ⟨hV, hS, hA, putInv_create hf (fun k hk1 hk2 x hx => by rw [secO_zero 36 1 n k (by omega)] at hx; cases hx), by simp [sealAt]⟩, hU, hF, hG⟩
theorem puts_go {w : World} {v s n : Nat} {h : H4} {fs : List Fr} {e : Nat} {W : List (Nat × List UInt8)} {F G : Foot} (P : PutAt v s n h fs e W w F G) (hf : HFits h) (hn : n < 2) (K : Nat) (p : ByteArray) (hk1 : 1 ≤ K) (hk2 : K ≤ 255) (hk3 : p.size ≤ 773) (hfit : e + many (7 + p.size) ≤ 16) :
    Calls Try.prog 34 #[.pointer (some ⟨s, 0, none⟩), frV K p] w fun x w' => x = .returned (.tuple #[.int .i64 e, .int .i64 0]) ∧ ∃ (F' G' : Foot),
      PutAt v s n h (fs ++ [((K : Int), p)]) (e + many (7 + p.size)) (W ++ sealAt (1 + (2 + 16 * n + e)) h.2.2.1 (fs.length + 2) (frP h.2.2.1 e K p)) w' F' G' ∧ Upd (Both F G) w w' ∧ Fresh w F F' ∧ Fresh w G G' := by
  obtain ⟨V, S, A, I, hW⟩ := P
  have he1 := I.e1
  have he2 := I.e16
  have hl := I.runs.le
  refine (append_go V S A hf.2.2.2.1 (by omega) (by omega) he1 he2 (by omega) (by omega) K p hk1 hk2 hk3 hfit K rfl).mono ?_
  rintro x w' ⟨F', G', hx, hV, hS, hU, hF, hG, hA⟩
  exact ⟨hx, F', G', ⟨hV, hS, hA, putInv_append I hf.2.2.2.1 hk1 hk2 hk3 hfit, by rw [List.length_append, sealAt_length, frP_length]; omega⟩, hU, hF, hG⟩
theorem puts_no {w : World} {v s n : Nat} {h : H4} {fs : List Fr} {e : Nat} {W : List (Nat × List UInt8)} {F G : Foot} (P : PutAt v s n h fs e W w F G) (hf : HFits h) (hn : n < 2) (k : Int) (p : ByteArray) (er : Int) (hno : NoPut k p e er) :
    Calls Try.prog 34 #[.pointer (some ⟨s, 0, none⟩), frV k p] w fun x w' => x = .returned (.tuple #[.int .i64 0, .int .i64 er]) ∧ Below w.heap.size w w' := by
  obtain ⟨V, S, A, I, hW⟩ := P
  have he1 := I.e1
  have he2 := I.e16
  have hl := I.runs.le
  rcases hno with ⟨hw, rfl⟩ | ⟨hw, hbig, rfl⟩
  · exact append_wrong S k p he1 he2 hw
  · obtain ⟨h1, h2, h3⟩ := wrong_zero hw
    obtain ⟨K, rfl⟩ := Int.eq_ofNat_of_zero_le (show 0 ≤ k by omega)
    refine (append_any V S A hf.2.2.2.1 (by omega) (by omega) he1 he2 (by omega) (by omega) K p (by omega) (by omega) h3).mono ?_
    rintro x w' (⟨_, hx, hb⟩ | ⟨h1, _⟩)
    · exact ⟨hx, hb⟩
    · exact absurd h1 (by omega)
/-- The segment by value, and the program's. -/
structure PutsRel (v s n : Nat) (h : H4) (bM base : Nat) (fs : List Fr) (e : Nat) (X : Nat → ByteArray) (ao : Option Addr) (cap : Nat) (w : World) (F G : Foot) : Prop where
  put : ∃ W, PutAt v s n h fs e W w F G ∧ SecsAre W n X
  made : w.heap[bM]? = some (.cells (madeA h (.slice ao fs.length cap) e X) 51)
  list : LAt w ao cap fs
  fF : ∀ i, F i → base ≤ i
  fG : ∀ i, G i → base ≤ i
  mb : base ≤ bM ∧ ¬ F bM ∧ ¬ G bM
  lb : ∀ a, ao = some a → base ≤ a.block ∧ ¬ F a.block ∧ ¬ G a.block ∧ a.block ≠ bM
theorem PutAt.there {v s n : Nat} {h : H4} {fs : List Fr} {e : Nat} {W : List (Nat × List UInt8)} {w : World} {F G : Foot} (P : PutAt v s n h fs e W w F G) : (∀ i, F i → i < w.heap.size) ∧ ∀ i, G i → i < w.heap.size := ⟨ViewIs.there P.1, SegIs.there P.2.1⟩
theorem PutAt.stays {v s n : Nat} {h : H4} {fs : List Fr} {e : Nat} {W : List (Nat × List UInt8)} {w w' : World} {F G S : Foot} (P : PutAt v s n h fs e W w F G) (hU : Upd S w w') (hF : ∀ i, F i → ¬ S i) (hG : ∀ i, G i → ¬ S i) : PutAt v s n h fs e W w' F G :=
  ⟨ViewIs.stays P.1 hU hF, SegIs.stays P.2.1 hU hG, P.2.2.1, P.2.2.2.1, P.2.2.2.2⟩
theorem PutsRel.below {v s n : Nat} {h : H4} {bM base : Nat} {fs : List Fr} {e : Nat} {X : Nat → ByteArray} {ao : Option Addr} {cap : Nat} {w w' : World} {F G : Foot} (R : PutsRel v s n h bM base fs e X ao cap w F G) (hb : Below w.heap.size w w') : PutsRel v s n h bM base fs e X ao cap w' F G := by
  obtain ⟨W, P, hX⟩ := R.put
  exact ⟨⟨W, P.below hb, hX⟩, later_of R.made hb, R.list.below hb, R.fF, R.fG, R.mb, R.lb⟩
/-- Behind an Append of the program's: the segment by value as it was. -/
structure HalfRel (v s n : Nat) (h : H4) (bM base : Nat) (fs0 fs : List Fr) (e0 e : Nat) (X0 X : Nat → ByteArray) (ao : Option Addr) (cap : Nat) (w : World) (F G : Foot) : Prop where
  put : ∃ W, PutAt v s n h fs e W w F G ∧ SecsAre W n X
  made : w.heap[bM]? = some (.cells (madeA h (.slice ao fs0.length cap) e0 X0) 51)
  list : LAt w ao cap fs0
  fF : ∀ i, F i → base ≤ i
  fG : ∀ i, G i → base ≤ i
  mb : base ≤ bM ∧ ¬ F bM ∧ ¬ G bM
  lb : ∀ a, ao = some a → base ≤ a.block ∧ ¬ F a.block ∧ ¬ G a.block ∧ a.block ≠ bM
theorem HalfRel.below {v s n : Nat} {h : H4} {bM base : Nat} {fs0 fs : List Fr} {e0 e : Nat} {X0 X : Nat → ByteArray} {ao : Option Addr} {cap : Nat} {w w' : World} {F G : Foot} (R : HalfRel v s n h bM base fs0 fs e0 e X0 X ao cap w F G) (hb : Below w.heap.size w w') : HalfRel v s n h bM base fs0 fs e0 e X0 X ao cap w' F G := by
  obtain ⟨W, P, hX⟩ := R.put
  exact ⟨⟨W, P.below hb, hX⟩, later_of R.made hb, R.list.below hb, R.fF, R.fG, R.mb, R.lb⟩
theorem PutsRel.half {v s n : Nat} {h : H4} {bM base : Nat} {fs : List Fr} {e : Nat} {X : Nat → ByteArray} {ao : Option Addr} {cap : Nat} {w w' : World} {F G F' G' : Foot} (R : PutsRel v s n h bM base fs e X ao cap w F G) {fs' : List Fr} {e' : Nat} {W' : List (Nat × List UInt8)} {X' : Nat → ByteArray} (P : PutAt v s n h fs' e' W' w' F' G') (hX : SecsAre W' n X') (hU : Upd (Both F G) w w') (hF : Fresh w F F') (hG : Fresh w G G') : HalfRel v s n h bM base fs fs' e e' X X' ao cap w' F' G' := by
  have hMl := lt_of R.made
  have hal := R.list.lt
  refine ⟨⟨W', P, hX⟩, hU.at_ R.made (fun hc => hc.elim R.mb.2.1 R.mb.2.2), R.list.keep hU (fun a ha hc => hc.elim (R.lb a ha).2.1 (R.lb a ha).2.2.1), fun i hi => ?_, fun i hi => ?_, ⟨R.mb.1, fun hc => ?_, fun hc => ?_⟩, fun a ha => ⟨(R.lb a ha).1, fun hc => ?_, fun hc => ?_, (R.lb a ha).2.2.2⟩⟩
  · rcases hF i hi with hh | hh
    · exact R.fF i hh
    · have := R.mb.1; omega
  · rcases hG i hi with hh | hh
    · exact R.fG i hh
    · have := R.mb.1; omega
  · rcases hF _ hc with hh | hh
    · exact R.mb.2.1 hh
    · omega
  · rcases hG _ hc with hh | hh
    · exact R.mb.2.2 hh
    · omega
  · rcases hF _ hc with hh | hh
    · exact (R.lb a ha).2.1 hh
    · have := hal a ha; omega
  · rcases hG _ hc with hh | hh
    · exact (R.lb a ha).2.2.1 hh
    · have := hal a ha; omega
/-- The segment by value is what came of it. -/
theorem HalfRel.whole {v s n : Nat} {h : H4} {bM base : Nat} {fs0 fs : List Fr} {e0 e : Nat} {X0 X : Nat → ByteArray} {ao ao' : Option Addr} {cap cap' : Nat} {w : World} {F G : Foot} (R : HalfRel v s n h bM base fs0 fs e0 e X0 X ao cap w F G) (hL : LAt w ao' cap' fs) (hb : ∀ a, ao' = some a → base ≤ a.block ∧ ¬ F a.block ∧ ¬ G a.block ∧ a.block ≠ bM) : PutsRel v s n h bM base fs e X ao' cap' (w.setRow bM (madeA h (.slice ao' fs.length cap') e X)) F G := by
  obtain ⟨W, P, hX⟩ := R.put
  have hU : Upd (fun i => i = bM) w (w.setRow bM (madeA h (.slice ao' fs.length cap') e X)) := (Upd.refl (fun i => i = bM) w).setRow (fun _ => rfl) _
  exact ⟨⟨W, P.stays hU (fun i hi e => R.mb.2.1 (e ▸ hi)) (fun i hi e => R.mb.2.2 (e ▸ hi)), hX⟩, row_set R.made _, hL.keep hU (fun a ha e => (hb a ha).2.2.2 e), R.fF, R.fG, R.mb, hb⟩
/-- What the reference makes of the same frame. -/
def RefStep (h : H4) (fs : List Fr) (e : Nat) (X : Nat → ByteArray) (k : Int) (p : ByteArray) (fs' : List Fr) (e' : Nat) (X' : Nat → ByteArray) (at_ er : Int) : Prop :=
  ∀ (w : World) (ao : Option Addr) (cap : Nat), LAt w ao cap fs → Calls Try.prog 28 #[.agg (madeA h (.slice ao fs.length cap) e X), frV k p] w fun x w' => ∃ (ao' : Option Addr) (cap' : Nat),
    x = .returned (.agg (apA h (.slice ao' fs'.length cap') e' X' at_ er)) ∧ LAt w' ao' cap' fs' ∧ (∀ a, ao' = some a → ao = some a ∨ w.heap.size ≤ a.block) ∧ Below w.heap.size w w'
theorem puts_step {v s n : Nat} {h : H4} {bM base : Nat} {fs : List Fr} {e : Nat} {X : Nat → ByteArray} {ao : Option Addr} {cap : Nat} {w : World} {F G : Foot} (R : PutsRel v s n h bM base fs e X ao cap w F G) (hf : HFits h) (hn : n < 2) (k : Int) (p : ByteArray) :
    Calls Try.prog 34 #[.pointer (some ⟨s, 0, none⟩), frV k p] w fun x w' => ∃ (fs' : List Fr) (e' : Nat) (X' : Nat → ByteArray) (at_ er : Int) (F' G' : Foot), x = .returned (.tuple #[.int .i64 at_, .int .i64 er]) ∧
      HalfRel v s n h bM base fs fs' e e' X X' ao cap w' F' G' ∧ RefStep h fs e X k p fs' e' X' at_ er ∧ fs'.length ≤ fs.length + 1 ∧ Upd (Both F G) w w' := by
  obtain ⟨W, P, hX⟩ := R.put
  have I := P.2.2.2.1
  have he1 := I.e1
  have he2 := I.e16
  have hl := I.runs.le
  rcases put_or_no k p e with ⟨er, hno⟩ | ⟨K, rfl, h1, h2, h3, h4⟩
  · refine (puts_no P hf hn k p er hno).mono ?_
    rintro x w' ⟨hx, hb⟩
    have R' := R.below hb
    obtain ⟨W', P', hX'⟩ := R'.put
    refine ⟨fs, e, X, 0, er, F, G, hx, ⟨⟨W', P', hX'⟩, R'.made, R'.list, R'.fF, R'.fG, R'.mb, R'.lb⟩, fun w2 ao2 cap2 hL => ?_, by omega, Upd.of_below hb⟩
    refine (rappend_no h hf.2.2.2.1 ao2 fs.length cap2 e X he1 he2 k p er hno w2).mono ?_
    rintro x w3 ⟨hx3, hb3⟩
    exact ⟨ao2, cap2, hx3, hL.below hb3, fun a ha => .inl ha, hb3⟩
  · refine (puts_go P hf hn K p h1 h2 h3 h4).mono ?_
    rintro x w' ⟨hx, F', G', P', hU, hF, hG⟩
    refine ⟨fs ++ [((K : Int), p)], e + many (7 + p.size), putS X h.2.2.1 (fs.length + 2) e (frP h.2.2.1 e K p), e, 0, F', G', hx, R.half P' (secs_put hX _ _ _ _) hU hF hG, fun w2 ao2 cap2 hL => ?_, by simp, hU⟩
    refine (rappend_go h hf.2.2.2.1 ao2 cap2 e X fs he1 he2 (by omega) K p h1 h2 h3 h4 hL).mono ?_
    rintro x w3 ⟨ao', cap', hx3, hL3, hao, hb3⟩
    exact ⟨ao', cap', by rw [List.length_append]; exact hx3, hL3, fun a ha => .inr (hao a ha), hb3⟩
end Go.Proofs.Ytoabdpobpmbckaa.Print
