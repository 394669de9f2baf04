/- segment: the loader's block, and what it has read. segment: the loader reads all sectors. Which frame lies next in some sectors: the plain law. -/
import Derived.Test.YtoobiffhjjfpgaaGreatSeg
import Derived.Test.YtoobiffhjjfpgaaGreatDecs
namespace Go.Proofs.YtoobiffhjjfpgaaGreat.Print
open Go.RowKit
attribute [local go_sem] run_loadVar_scalar

def ldArr (s : Nat) (D : Nat → ByteArray) (S N : Nat → Nat) : Array Value :=
  Array.ofFn (n := 49) fun i => if i.val = 0 then .pointer (some ⟨s, 0, none⟩) else if i.val < 17 then .string (D (i.val - 1)) else if i.val < 33 then .int .u32 (S (i.val - 17)) else .int .i64 (N (i.val - 33))
theorem ldArr_size (s : Nat) (D : Nat → ByteArray) (S N : Nat → Nat) : (ldArr s D S N).size = 49 := by simp [ldArr]
theorem ldArr_get (s : Nat) (D : Nat → ByteArray) (S N : Nat → Nat) (i : Nat) (hi : i < 49) : (ldArr s D S N)[i]? = some (if i = 0 then .pointer (some ⟨s, 0, none⟩) else if i < 17 then .string (D (i - 1)) else if i < 33 then .int .u32 (S (i - 17)) else .int .i64 (N (i - 33))) := by
  simp [ldArr, hi]
abbrev ldObj (s : Nat) (D : Nat → ByteArray) (S N : Nat → Nat) : Obj := .cells (ldArr s D S N) 168
theorem ld_seg {w : World} {l s : Nat} {D : Nat → ByteArray} {S N : Nat → Nat} (h : w.heap[l]? = some (ldObj s D S N)) : w.cell? ⟨l, 0, none⟩ = some (.pointer (some ⟨s, 0, none⟩)) := by
  rw [cell_of h, ldArr_get _ _ _ _ 0 (by omega)]; rfl
theorem ld_data {w : World} {l s : Nat} {D : Nat → ByteArray} {S N : Nat → Nat} (h : w.heap[l]? = some (ldObj s D S N)) (k : Nat) (hk : k < 16) : w.cell? ⟨l, 1 + k, none⟩ = some (.string (D k)) := by
  rw [cell_of h, ldArr_get _ _ _ _ _ (by omega), if_neg (by omega), if_pos (by omega), Nat.add_sub_cancel_left]
theorem ld_stamp {w : World} {l s : Nat} {D : Nat → ByteArray} {S N : Nat → Nat} (h : w.heap[l]? = some (ldObj s D S N)) (k : Nat) (hk : k < 16) : w.cell? ⟨l, 17 + k, none⟩ = some (.int .u32 (S k)) := by
  rw [cell_of h, ldArr_get _ _ _ _ _ (by omega), if_neg (by omega), if_neg (by omega), if_pos (by omega), Nat.add_sub_cancel_left]
theorem ld_count {w : World} {l s : Nat} {D : Nat → ByteArray} {S N : Nat → Nat} (h : w.heap[l]? = some (ldObj s D S N)) (k : Nat) (hk : k < 16) : w.cell? ⟨l, 33 + k, none⟩ = some (.int .i64 (N k)) := by
  rw [cell_of h, ldArr_get _ _ _ _ _ (by omega), if_neg (by omega), if_neg (by omega), if_neg (by omega), Nat.add_sub_cancel_left]
def upd {α : Type} (D : Nat → α) (j : Nat) (x : α) : Nat → α := fun k => if k = j then x else D k
theorem ldArr_ext {s : Nat} {D D' : Nat → ByteArray} {S S' N N' : Nat → Nat} (h1 : ∀ k, k < 16 → D k = D' k) (h2 : ∀ k, k < 16 → S k = S' k) (h3 : ∀ k, k < 16 → N k = N' k) : ldArr s D S N = ldArr s D' S' N' := by
  unfold ldArr
  congr 1
  funext i
  have := i.isLt
  by_cases a : i.val = 0
  · rw [if_pos a, if_pos a]
  · rw [if_neg a, if_neg a]
    by_cases b : i.val < 17
    · rw [if_pos b, if_pos b, h1 _ (by omega)]
    · rw [if_neg b, if_neg b]
      by_cases c : i.val < 33
      · rw [if_pos c, if_pos c, h2 _ (by omega)]
      · rw [if_neg c, if_neg c, h3 _ (by omega)]
theorem ldArr_set (s : Nat) (D : Nat → ByteArray) (S N : Nat → Nat) (o : Nat) (v : Value) (D' : Nat → ByteArray) (S' N' : Nat → Nat)
    (h : ∀ i, i < 49 → (if o = i then v else if i = 0 then .pointer (some ⟨s, 0, none⟩) else if i < 17 then .string (D (i - 1)) else if i < 33 then .int .u32 (S (i - 17)) else .int .i64 (N (i - 33))) = (if i = 0 then .pointer (some ⟨s, 0, none⟩) else if i < 17 then .string (D' (i - 1)) else if i < 33 then .int .u32 (S' (i - 17)) else .int .i64 (N' (i - 33)))) :
    (ldArr s D S N).setIfInBounds o v = ldArr s D' S' N' := by
  apply Array.ext
  · simp [ldArr_size]
  · intro i h1 h2
    have hi : i < 49 := by simpa [ldArr_size] using h1
    have := h i hi
    rw [Array.getElem_setIfInBounds (by rw [ldArr_size]; exact hi)]
    simp only [ldArr, Array.getElem_ofFn]
    exact this
theorem ld_setD (s : Nat) (D : Nat → ByteArray) (S N : Nat → Nat) (j : Nat) (hj : j < 16) (x : ByteArray) : (ldArr s D S N).setIfInBounds (1 + j) (.string x) = ldArr s (upd D j x) S N := by
  apply ldArr_set
  intro i hi
  by_cases e : 1 + j = i
  · subst e; simp [upd]; omega
  · rw [if_neg e]; simp only [upd]
    by_cases a : i = 0
    · simp [a]
    · simp only [a, if_false]
      by_cases b : i < 17
      · rw [if_pos b, if_pos b, if_neg (by omega)]
      · rw [if_neg b, if_neg b]
theorem ld_setS (s : Nat) (D : Nat → ByteArray) (S N : Nat → Nat) (j : Nat) (hj : j < 16) (x : Nat) : (ldArr s D S N).setIfInBounds (17 + j) (.int .u32 x) = ldArr s D (upd S j x) N := by
  apply ldArr_set
  intro i hi
  by_cases e : 17 + j = i
  · subst e; rw [if_pos rfl, if_neg (by omega), if_neg (by omega), if_pos (by omega)]; simp [upd]
  · rw [if_neg e]; simp only [upd]
    by_cases a : i = 0
    · simp [a]
    · simp only [a, if_false]
      by_cases b : i < 17
      · rw [if_pos b, if_pos b]
      · rw [if_neg b, if_neg b]
        by_cases c : i < 33
        · rw [if_pos c, if_pos c, if_neg (by omega)]
        · rw [if_neg c, if_neg c]
theorem ld_setN (s : Nat) (D : Nat → ByteArray) (S N : Nat → Nat) (j : Nat) (hj : j < 16) (x : Nat) : (ldArr s D S N).setIfInBounds (33 + j) (.int .i64 x) = ldArr s D S (upd N j x) := by
  apply ldArr_set
  intro i hi
  by_cases e : 33 + j = i
  · subst e; rw [if_pos rfl, if_neg (by omega), if_neg (by omega), if_neg (by omega)]; simp [upd]
  · rw [if_neg e]; simp only [upd]
    by_cases a : i = 0
    · simp [a]
    · simp only [a, if_false]
      by_cases b : i < 17
      · rw [if_pos b, if_pos b]
      · rw [if_neg b, if_neg b]
        by_cases c : i < 33
        · rw [if_pos c, if_pos c]
        · rw [if_neg c, if_neg c, if_neg (by omega)]
abbrev Op3 := Option (Nat × Nat × List UInt8)
def oD : Op3 → ByteArray | some x => bs x.2.2 | none => ⟨#[]⟩
def oS : Op3 → Nat | some x => x.1 | none => 0
def oN : Op3 → Nat | some x => x.2.1 | none => 0
def upto {α : Type} (j : Nat) (z : α) (D : Nat → α) : Nat → α := fun k => if k < j then D k else z
theorem upto_none {α : Type} (j : Nat) (z : α) (D : Nat → α) (h : D j = z) : upto (j + 1) z D = upto j z D := by
  funext k
  unfold upto
  by_cases a : k < j
  · rw [if_pos a, if_pos (by omega)]
  · rw [if_neg a]
    by_cases b : k = j
    · subst b; rw [if_pos (by omega), h]
    · rw [if_neg (by omega)]
theorem upto_some {α : Type} (j : Nat) (z : α) (D : Nat → α) : upd (upto j z D) j (D j) = upto (j + 1) z D := by
  funext k
  unfold upto upd
  by_cases b : k = j
  · subst b; rw [if_pos rfl, if_pos (by omega)]
  · rw [if_neg b]
    by_cases a : k < j
    · rw [if_pos (show k < j + 1 by omega)]; exact if_pos a
    · rw [if_neg (show ¬ k < j + 1 by omega)]; exact if_neg a
/-- What a view's sector holds. -/
def secX (lies : List (List UInt8)) (waits : List (Nat × List UInt8)) (f k : Nat) : List UInt8 := lastOf waits (f + k) (lies.getD (f + k) [])
theorem vread_is {w : World} {v : Nat} {lies : List (List UInt8)} {waits : List (Nat × List UInt8)} {f N : Nat} {fu : Int} {F : Foot} (V : ViewIs v lies waits f N fu false w F) (k : Nat) (hk : k < N) (hn : waits.length ≤ 1000000000) (i : Int) (hi : i = k) :
    Calls Tryz.prog 135 #[.pointer (some ⟨v, 0, none⟩), .int .i64 i] w fun x w' => x = .returned (.tuple #[.string (bs (secX lies waits f k)), .int .i64 0]) ∧ Below w.heap.size w w' := by
  subst hi
  obtain ⟨d, lb, wv, V, hF⟩ := V
  have := V.fn
  exact vread_ok V k hk hn (lies.getD (f + k) []) (by rw [List.getD_eq_getElem?_getD, List.getElem?_eq_getElem (by omega)]; rfl)
end Go.Proofs.YtoobiffhjjfpgaaGreat.Print

namespace Go.Proofs.YtoobiffhjjfpgaaGreat.Print
open Go.RowKit
attribute [local go_sem] run_loadVar_scalar

theorem upto_zero {α : Type} (z : α) (D : Nat → α) : upto 0 z D = fun _ => z := by funext k; exact if_neg (by omega)
theorem ldArr_upto (s : Nat) (D : Nat → ByteArray) (S N : Nat → Nat) : ldArr s (upto 16 ⟨#[]⟩ D) (upto 16 0 S) (upto 16 0 N) = ldArr s D S N :=
  ldArr_ext (fun _ hk => if_pos hk) (fun _ hk => if_pos hk) (fun _ hk => if_pos hk)

set_option maxRecDepth 100000 in
set_option maxHeartbeats 1600000 in
theorem sectors_any {w : World} {v : Nat} {lies : List (List UInt8)} {waits : List (Nat × List UInt8)} {f N : Nat} {fu : Int} {F : Foot} (V : ViewIs v lies waits f N fu false w F) (l s : Nat) (n : Int) (h : H4) (fv : Value) (e : Int) (sealed : Bool)
    (hl : w.heap[l]? = some (ldObj s (fun _ => ⟨#[]⟩) (fun _ => 0) (fun _ => 0))) (hs : w.heap[s]? = some (segObj v n h fv e sealed)) (hls : l ≠ s) (hlF : ¬ F l) (at_ : Nat) (hN : N ≤ 8192) (ha : at_ + 16 ≤ N) (hw : waits.length ≤ 1000000000) (i : Int) (hi : i = at_)
    (O : Nat → Op3) (hO : ∀ k, O k = opnP (secX lies waits f (at_ + k))) :
    Calls Tryz.prog 118 #[.pointer (some ⟨l, 0, none⟩), .int .i64 i] w fun x w' => x = .returned (.int .i64 0) ∧ Wrote l (ldObj s (fun k => oD (O k)) (fun k => oS (O k)) (fun k => oN (O k))) w w' := by
  subst hi
  have HV := Lib.hid V
  have HO := Lib.hid hO
  have HS := Lib.hid hs
  have HL := Lib.hid hl
  have hllt := lt_of hl
  clear V hO hs hl
  go_enter Tryz.func118, Tryz.ntmps118
  go_wp2
  go_loopw [12] (fun i wr => ∃ j : Nat, j ≤ 16 ∧ i = .int .i64 j ∧ Wrote l (ldObj s (upto j ⟨#[]⟩ (fun k => oD (O k))) (upto j 0 (fun k => oS (O k))) (upto j 0 (fun k => oN (O k)))) w wr) (fun i _ => 16 - (intOf i).toNat)
  case atStart => exact ⟨0, Nat.zero_le _, rfl, by rw [upto_zero, upto_zero, upto_zero]; exact Wrote.refl HL.out⟩
  case round =>
    obtain ⟨j, hj, rfl, hW⟩ := hrel
    by_cases hlt : j < 16
    · have hU : Upd (fun i => i = l) w wr := ⟨hW.os, hW.tape, hW.output, hW.size, fun k hk hn => hW.other k hk hn⟩
      have V1 := ViewIs.stays HV.out hU (fun i hi e => hlF (e ▸ hi))
      have hs1 := hU.at_ HS.out (fun e => hls e.symm)
      have hR := fun i hi => vread_is V1 (at_ + j) (by omega) hw i hi
      have hX := HO.out j
      generalize secX lies waits f (at_ + j) = X at hR hX
      have hOb := open_any (bs X)
      rw [bs_list, ← hX] at hOb
      obtain ⟨c0, c1, c2, c3, c4, c5, c6, c7, c8, hfz⟩ := nine_of hs1
      have d0 := ld_seg hW.at_
      have HR := Lib.hid hR
      have HW := Lib.hid hW
      clear hR hW hU V1
      rcases hOb with ⟨hOn, hO1, _⟩ | ⟨m, n', d, hOs, hO1, _⟩
      · have HO1 := Lib.hid hO1
        clear hO1
        go_wp2_with fail
        refine (HR.out _ (by omega)).mono ?_
        rintro x w1 ⟨rfl, hb1⟩
        go_wp2_with fail
        refine (HO1.out _).mono ?_
        rintro x w2 ⟨rfl, hb2⟩
        go_wp2
        go_roundw
        case rel =>
          refine ⟨j + 1, hlt, by simp, ?_⟩
          rw [upto_none j, upto_none j, upto_none j]
          · exact (HW.out.below hb1).below hb2
          · rw [hOn]; rfl
          · rw [hOn]; rfl
          · rw [hOn]; rfl
        case measure => simp [intOf]; omega
      · have HO1 := Lib.hid hO1
        clear hO1
        go_wp2_with fail
        refine (HR.out _ (by omega)).mono ?_
        rintro x w1 ⟨rfl, hb1⟩
        go_wp2_with fail
        refine (HO1.out _).mono ?_
        rintro x w2 ⟨rfl, hb2⟩
        have hW2 := (HW.out.below hb1).below hb2
        have HW2 := Lib.hid hW2
        have e0 := ld_seg hW2.at_
        have e1 := ld_data hW2.at_ j hlt
        have e2 := ld_stamp hW2.at_ j hlt
        have e3 := ld_count hW2.at_ j hlt
        have efz := fun o => free_of hW2.at_ o
        clear hW2 c0 c1 c2 c3 c4 c5 c6 c7 c8 hfz d0
        go_wp2
        go_roundw
        case rel =>
          refine ⟨j + 1, hlt, by simp, ?_⟩
          have h1 := ((HW2.out.setCell (o := 1 + j) (.string (bs d))).setCell (o := 17 + j) (.int .u32 m)).setCell (o := 33 + j) (.int .i64 n')
          rw [ld_setD _ _ _ _ _ hlt, ld_setS _ _ _ _ _ hlt, ld_setN _ _ _ _ _ hlt] at h1
          rw [show bs d = (fun k => oD (O k)) j by simp [hOs, oD], show m = (fun k => oS (O k)) j by simp [hOs, oS], show n' = (fun k => oN (O k)) j by simp [hOs, oN], upto_some, upto_some, upto_some] at h1
          rw [show bs d = (fun k => oD (O k)) j by simp [hOs, oD], show m = (fun k => oS (O k)) j by simp [hOs, oS], show n' = (fun k => oN (O k)) j by simp [hOs, oN]]
          exact h1
        case measure => simp [intOf]; omega
    · obtain rfl : j = 16 := by omega
      have HW := Lib.hid hW
      clear hW
      go_wp2
      go_ret
      refine ⟨rfl, ?_⟩
      have := HW.out
      rw [ldObj, ldArr_upto] at this
      exact this
end Go.Proofs.YtoobiffhjjfpgaaGreat.Print

namespace Go.Proofs.YtoobiffhjjfpgaaGreat.Print
open Go.RowKit

/-- A sector's data, if it is sealed by a stamp and a count. -/
def gate (O : Nat → Op3) (stamp count k : Nat) : Option (List UInt8) := match O k with | some x => if x.1 = stamp ∧ x.2.1 = count then some x.2.2 else none | none => none
def O52 (O : Nat → Op3) : Prop := ∀ k x, O k = some x → x.2.2.length = 52
theorem gate_some {O : Nat → Op3} {stamp count k : Nat} {d : List UInt8} (h : gate O stamp count k = some d) : O k = some (stamp, count, d) := by
  unfold gate at h
  split at h
  · rename_i x hx
    split at h
    · rename_i hc
      cases h
      rw [hx, ← hc.1, ← hc.2]
    · cases h
  · cases h
theorem gate_of {O : Nat → Op3} {stamp count k : Nat} {d : List UInt8} (h : O k = some (stamp, count, d)) : gate O stamp count k = some d := by
  unfold gate; rw [h]; simp
theorem gate_iff {O : Nat → Op3} {stamp count k : Nat} (hc : 1 ≤ count) : (oN (O k) = count ∧ oS (O k) = stamp) ↔ ∃ d, gate O stamp count k = some d := by
  constructor
  · rintro ⟨h1, h2⟩
    cases hO : O k with
    | none => rw [hO] at h1; simp [oN] at h1; omega
    | some x =>
      rw [hO] at h1 h2
      refine ⟨x.2.2, gate_of ?_⟩
      rw [hO]
      simp [oN, oS] at h1 h2
      rw [← h1, ← h2]
  · rintro ⟨d, hd⟩
    have := gate_some hd
    rw [this]
    exact ⟨rfl, rfl⟩
def runP (O : Nat → Op3) (stamp count : Nat) : Nat → Nat → List UInt8
  | 0, _ => []
  | q + 1, k => match gate O stamp count k with | none => [] | some d => d ++ runP O stamp count q (k + 1)
/-- The frame at a place, behind so many others. -/
def nextP (O : Nat → Op3) (stamp e c : Nat) : Option (List UInt8) := if e < 16 then decP stamp e (runP O stamp (c + 2) (16 - e) e) else none
def joinP (O : Nat → Op3) (e n : Nat) : List UInt8 := ((List.range n).map fun j => (oD (O (e + j))).data.toList).flatten
theorem joinP_succ (O : Nat → Op3) (e n : Nat) : joinP O e (n + 1) = joinP O e n ++ (oD (O (e + n))).data.toList := by
  simp [joinP, List.range_succ]
theorem joinP_head (O : Nat → Op3) (e n : Nat) : joinP O e (n + 1) = (oD (O e)).data.toList ++ joinP O (e + 1) n := by
  simp only [joinP, List.range_succ_eq_map, List.map_cons, List.flatten_cons, List.map_map, Nat.add_zero]
  congr 2
  apply List.map_congr_left
  intro j _
  simp only [Function.comp_apply]
  rw [show e + (j + 1) = e + 1 + j by omega]
theorem run_max (O : Nat → Op3) (stamp count : Nat) : ∀ q k, ∃ m, m ≤ q ∧ (∀ j, j < m → ∃ d, gate O stamp count (k + j) = some d) ∧ (m = q ∨ gate O stamp count (k + m) = none) ∧ runP O stamp count q k = joinP O k m
  | 0, _ => ⟨0, Nat.le_refl _, fun j hj => absurd hj (by omega), .inl rfl, rfl⟩
  | q + 1, k => by
    cases hg : gate O stamp count k with
    | none => exact ⟨0, Nat.zero_le _, fun j hj => absurd hj (by omega), .inr hg, by simp [runP, hg, joinP]⟩
    | some d =>
      obtain ⟨m, h1, h2, h3, h4⟩ := run_max O stamp count q (k + 1)
      refine ⟨m + 1, by omega, fun j hj => ?_, ?_, ?_⟩
      · cases j with
        | zero => exact ⟨d, hg⟩
        | succ j => rw [show k + (j + 1) = k + 1 + j by omega]; exact h2 j (by omega)
      · rcases h3 with h | h
        · exact .inl (by omega)
        · exact .inr (by rw [show k + (m + 1) = k + 1 + m by omega]; exact h)
      · rw [joinP_head, ← h4, gate_some hg]
        simp [runP, hg, oD, bs]
theorem joinP_length {O : Nat → Op3} (h52 : O52 O) {stamp count e n : Nat} (h : ∀ j, j < n → ∃ d, gate O stamp count (e + j) = some d) : (joinP O e n).length = 52 * n := by
  induction n with
  | zero => rfl
  | succ n ih =>
    obtain ⟨d, hd⟩ := h n (by omega)
    have ho := gate_some hd
    rw [joinP_succ, List.length_append, ih (fun j hj => h j (by omega)), ho]
    have := h52 _ _ ho
    simp only [oD, bs_list]
    simp only at this
    omega
theorem joinP_add (O : Nat → Op3) (e n m : Nat) (h : n ≤ m) : (joinP O e m).take (joinP O e n).length = joinP O e n := by
  induction m with
  | zero => obtain rfl : n = 0 := by omega
            simp
  | succ m ih =>
    rcases Nat.eq_or_lt_of_le h with rfl | hlt
    · simp
    · have hle : (joinP O e n).length ≤ (joinP O e m).length := by
        have := ih (by omega)
        have h2 := List.length_take_le (joinP O e n).length (joinP O e m)
        have h3 := congrArg List.length this
        rw [List.length_take] at h3
        omega
      rw [joinP_succ, List.take_append_of_le_length hle, ih (by omega)]
theorem many_le (n : Nat) : n ≤ 52 * many n := by unfold many; split <;> omega
theorem many_gt (n m : Nat) (h : m < many n) : 52 * m < n := by unfold many at h; split at h <;> omega
/-- The next frame, as the program finds it. -/
theorem next_law {O : Nat → Op3} (h52 : O52 O) {stamp e c : Nat} (he : e < 16) :
    (gate O stamp (c + 2) e = none → nextP O stamp e c = none) ∧
    (∀ d, gate O stamp (c + 2) e = some d → (many (readL (d.take 2) + 6) ≤ 16 - e ∧ ∀ k, k < many (readL (d.take 2) + 6) → ∃ d', gate O stamp (c + 2) (e + k) = some d') → nextP O stamp e c = decP stamp e (joinP O e (many (readL (d.take 2) + 6)))) ∧
    (∀ d, gate O stamp (c + 2) e = some d → ¬ (many (readL (d.take 2) + 6) ≤ 16 - e ∧ ∀ k, k < many (readL (d.take 2) + 6) → ∃ d', gate O stamp (c + 2) (e + k) = some d') → nextP O stamp e c = none) := by
  obtain ⟨m, h1, h2, h3, h4⟩ := run_max O stamp (c + 2) (16 - e) e
  have hN : nextP O stamp e c = decP stamp e (joinP O e m) := by unfold nextP; rw [if_pos he, h4]
  have hl := joinP_length h52 h2
  have hm1 : ∀ d, gate O stamp (c + 2) e = some d → 1 ≤ m := by
    intro d hd
    rcases Nat.eq_zero_or_pos m with rfl | h
    · rcases h3 with h | h
      · omega
      · have h' : gate O stamp (c + 2) e = none := h
        rw [hd] at h'; cases h'
    · exact h
  have ht2 : ∀ d n, gate O stamp (c + 2) e = some d → 1 ≤ n → (joinP O e n).take 2 = d.take 2 := by
    intro d n hd hn
    obtain ⟨n, rfl⟩ : ∃ n', n = n' + 1 := ⟨n - 1, by omega⟩
    have ho := gate_some hd
    have h5 := h52 _ _ ho
    rw [joinP_head, ho]
    simp only [oD, bs_list]
    simp only at h5
    rw [List.take_append_of_le_length (by omega)]
  refine ⟨fun hg => ?_, fun d hd hall => ?_, fun d hd hno => ?_⟩
  · obtain rfl : m = 0 := by
      rcases Nat.eq_zero_or_pos m with h | h
      · exact h
      · obtain ⟨d, hd⟩ := h2 0 h
        have hd' : gate O stamp (c + 2) e = some d := hd
        rw [hg] at hd'; cases hd'
    rw [hN]
    exact decP_none (.inl (by rw [hl]; omega))
  · have hn1 : 1 ≤ many (readL (d.take 2) + 6) := by unfold many; split <;> omega
    have hle := many_le (readL (d.take 2) + 6)
    generalize many (readL (d.take 2) + 6) = n at hall hn1 hle ⊢
    have hnm : n ≤ m := by
      rcases Nat.lt_or_ge m n with h | h
      · rcases h3 with hh | hh
        · omega
        · obtain ⟨d', hd'⟩ := hall.2 m h
          rw [hh] at hd'; cases hd'
      · exact h
    have hln := joinP_length h52 hall.2
    have hp := joinP_add O e n m hnm
    rw [hln] at hp
    rw [hN]
    refine decP_prefix (52 * n) ?_ (by omega) (by rw [hl]; omega) (Nat.le_of_eq hln.symm) ?_
    · rw [hp, List.take_of_length_le (Nat.le_of_eq hln)]
    · rw [ht2 d m hd (by omega)]; omega
  · have hmn : m < many (readL (d.take 2) + 6) := by
      rcases Nat.lt_or_ge m (many (readL (d.take 2) + 6)) with h | h
      · exact h
      · exact absurd ⟨by omega, fun k hk => h2 k (by omega)⟩ hno
    have := many_gt _ _ hmn
    rw [hN]
    refine decP_none (.inr (.inr (.inr ?_)))
    rw [hl, ht2 d m hd (hm1 d hd)]
    omega
end Go.Proofs.YtoobiffhjjfpgaaGreat.Print
