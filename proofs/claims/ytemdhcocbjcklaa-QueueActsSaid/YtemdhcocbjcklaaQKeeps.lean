/- QueueKeeps, the walk. -/
import Derived.Test.YtemdhcocbjcklaaQNil
import Derived.Test.YtemdhcocbjcklaaActOpen
namespace Go.Proofs.Ytemdhcocbjcklaa.Print
open Go.RowKit Go.Proofs.Ytemdhcocbjcklaa.Open
attribute [local go_sem] run_loadVar_scalar

/-- A row read from any address. -/
theorem run_loadVar_at {P : Program} (w : World) (a : Addr) (ty : TypeId) (cs : List Value) (d : TypeDesc) (hc : ∀ j v, cs[j]? = some v → w.cell? (a.add j) = some v)
    (hu : P.underlying ty = some d) (hd : d.isRow = true) (hi : (P.info? ty).map (·.size) = some cs.length) : (loadVar ty a).run P w = .ok (.agg cs.toArray) w := by
  have hl := run_loadCells_list (P := P) w a cs hc
  have hg : (isAgg ty).run P w = .ok true w := by
    unfold isAgg
    rw [Sem.run_bind, run_underlying hu w]
    cases d <;> simp_all
  cases hq : P.info? ty with
  | none => simp [hq] at hi
  | some i =>
    have hs : i.size = cs.length := by simpa [hq] using hi
    simp [loadVar, Sem.run_bind, hg, sizeOf, typeInfo, hq, hs, hl]
/-- The calls lie one behind the other. -/
def ActsAt (w : World) (ao : Option Addr) (l : List A5) : Prop := ∀ i (h : i < l.length), ∃ a, ao = some a ∧ ∀ j u, (actC l[i])[j]? = some u → w.cell? (a.add (i * 5 + j)) = some u
theorem ActsAt.load {w wr : World} {ao : Option Addr} {l : List A5} (h : ActsAt w ao l) (hB : Below w.heap.size w wr) (i : Nat) (hi : i < l.length) : ∃ a, ao = some a ∧ (loadVar 30 (a.add (i * 5))).run Try.prog wr = .ok (.agg (actC l[i]).toArray) wr := by
  obtain ⟨a, ha, hc⟩ := h i hi
  refine ⟨a, ha, run_loadVar_at wr (a.add (i * 5)) 30 (actC l[i]) _ (fun j v hv => ?_) Try.underlying30 rfl actSize⟩
  have hcw := hc j v hv
  rw [Go.Deep.add_add, hB.cell (World.block_lt_of_cell? w _ hcw)]
  exact hcw
/-- The item of a call. -/
def actIt (x : A5) : It := (x.2.1, x.2.2.1, 11, x.2.2.2.1, x.2.2.2.2)
theorem actItem (x : A5) (w : World) : Calls Try.prog 18 #[.agg (actC x).toArray] w fun e w' => e = .returned (.agg (itV (actIt x))) ∧ Below w.heap.size w w' := item_any x.1 x.2.1 x.2.2.1 x.2.2.2.1 x.2.2.2.2 w
def pushL (its : List It) (room : Nat) (x : It) : List It := if its.length < room then its ++ [x] else its
theorem push_s {w : World} {b room : Nat} {its : List It} (q : QIs w b its room) (x : It) :
    Calls Try.prog 17 #[.pointer (some ⟨b, 0, none⟩), .agg (itV x)] w fun e w' => (∃ c, e = .returned (.int .i64 c)) ∧ QPost w b (pushL its room x) room w' := by
  unfold pushL
  split
  · rename_i h
    exact (push_ok q h x).mono fun e w' ⟨he, hq⟩ => ⟨⟨_, he⟩, hq⟩
  · rename_i h
    have := q.le
    exact (push_over q (by omega) _).mono fun e w' ⟨he, hb⟩ => ⟨⟨_, he⟩, q.below hb, Upd.of_below hb⟩
theorem pop_s {w : World} {b room : Nat} {its : List It} (q : QIs w b its room) :
    Calls Try.prog 19 #[.pointer (some ⟨b, 0, none⟩)] w fun e w' => (∃ X c, e = .returned (.tuple #[.agg X, .int .i64 c])) ∧ QPost w b its.tail room w' := by
  cases its with
  | nil => exact (pop_empty q).mono fun e w' ⟨he, hb⟩ => ⟨⟨_, _, he⟩, q.below hb, Upd.of_below hb⟩
  | cons x r => exact (pop_ok q).mono fun e w' ⟨he, hq⟩ => ⟨⟨_, _, he⟩, hq⟩
def keepStep (its : List It) (x : A5) : List It := if x.1 = 0 then pushL its 16 (actIt x) else its.tail
def Two (w : World) (p q : Nat) (l m : List It) (W : World) : Prop := QIs W p l 16 ∧ QIs W q m 16 ∧ Below w.heap.size w W
theorem Two.left {w W W' : World} {p q : Nat} {l m l' : List It} (h : Two w p q l m W) (hp : w.heap.size ≤ p) (hpq : p ≠ q) (k : QPost W p l' 16 W') : Two w p q l' m W' :=
  ⟨k.1, h.2.1.keep k.2 (fun e => hpq e.symm), h.2.2.trans (k.2.below h.2.2.size (fun i hi e => by omega))⟩
theorem Two.right {w W W' : World} {p q : Nat} {l m m' : List It} (h : Two w p q l m W) (hq : w.heap.size ≤ q) (hpq : p ≠ q) (k : QPost W q m' 16 W') : Two w p q l m' W' :=
  ⟨h.1.keep k.2 hpq, k.1, h.2.2.trans (k.2.below h.2.2.size (fun i hi e => by omega))⟩
theorem Two.below {w W W' : World} {p q : Nat} {l m : List It} (h : Two w p q l m W) (hb : Below W.heap.size W W') : Two w p q l m W' := ⟨h.1.below hb, h.2.1.below hb, below_chain h.2.2 hb⟩
def KeepRel1 (w : World) (p q : Nat) (l : List A5) (i : Value) (wr : World) : Prop := ∃ j : Nat, j ≤ l.length ∧ i = .int .i64 j ∧ Two w p q ((l.take j).foldl keepStep []) ((l.take j).foldl keepStep []) wr
def KeepRel2 (w : World) (p q : Nat) (its : List It) (s : Int) (i : Value) (wr : World) : Prop := ∃ j : Nat, j ≤ 16 ∧ i = .int .i64 j ∧ Two w p q (its.drop j) (others s (its.drop j)) wr
set_option maxRecDepth 100000 in
set_option maxHeartbeats 3200000 in
attribute [-go_sem] Instr.build Instr.fill loadVar in
theorem qkeeps_ok (ao : Option Addr) (cap : Nat) (l : List A5) (s : Int) (w : World) (hl : l.length ≤ 60) (hA : ActsAt w ao l) :
    Calls Try.prog 5 #[.slice ao l.length cap, .int .i64 s] w fun x w' => x = .returned (.bool true) ∧ Below w.heap.size w w' := by
  have h60 : decide (60 < (l.length : Int)) = false := by simp; omega
  have hz : ∀ w, (zeroValue 39).run Try.prog w = .ok (.agg itZ) w := zero_item
  have hZs := itZ_size
  have hst0 := fun (w : World) (x : It) => store_row (P := Try.prog) (alloc_at w (.cells itZ 39)) (itV x) rfl (itV_one x)
  have hstz := fun (w : World) => store_row (P := Try.prog) (alloc_at w (.cells itZ 39)) itZ rfl itZ_one
  have hpe := fun (w : World) (b : Nat) (q : QIs w b [] 16) => pop_empty q
  generalize itZ = Z at hz hZs hst0 hstz hpe
  have HST := Lib.hid hst0
  have HSTZ := Lib.hid hstz
  have HPE := Lib.hid hpe
  clear hst0 hstz hpe
  go_enter Try.func5, Try.ntmps5
  go_wp2_with fail
  refine (qnew_z 16 (by omega) (by omega) _ rfl w).mono ?_
  rintro y w1 ⟨rfl, q1, hB1, hz1⟩
  go_wp2_with fail
  refine (qnew_z 16 (by omega) (by omega) _ rfl w1).mono ?_
  rintro y w2 ⟨rfl, q2, hB2, hz2⟩
  have hT : Two w w.heap.size w1.heap.size [] [] w2 := ⟨q1.below hB2, q2, below_chain hB1 hB2⟩
  have hq : w.heap.size ≤ w1.heap.size := by omega
  have hpq : w.heap.size ≠ w1.heap.size := by omega
  generalize w1.heap.size = q at hT hpq hq ⊢
  have HA := Lib.hid hA
  clear q1 q2 hB1 hB2 hz1 hz2 hA
  go_wp2
  go_loopw [29] (fun i wr => KeepRel1 w w.heap.size q l i wr) (fun i _ => l.length - (intOf i).toNat)
  case atStart => exact ⟨0, Nat.zero_le _, rfl, hT⟩
  case round =>
    obtain ⟨j, hj, rfl, hT1⟩ := hrel
    by_cases hlj : j < l.length
    · obtain ⟨a, rfl, hld⟩ := HA.out.load hT1.2.2 j hlj
      have htk : l.take (j + 1) = l.take j ++ [l[j]] := List.take_succ_eq_append_getElem hlj
      have hit := actItem l[j]
      have hA5 : (actC l[j]).toArray.size = 5 := rfl
      have hA0 : (actC l[j]).toArray[0]? = some (.int .i64 (l[j]).1) := rfl
      have hA1 : ∀ v ∈ (actC l[j]).toArray.toList, v.oneCell' = true := by intro v hv; simp [actC] at hv; rcases hv with rfl | rfl | rfl | rfl | rfl <;> rfl
      have hstep : (l.take (j + 1)).foldl keepStep [] = keepStep ((l.take j).foldl keepStep []) l[j] := by rw [htk, List.foldl_append]; rfl
      generalize (actC l[j]).toArray = A at hld hit hA5 hA0 hA1
      generalize (l.take j).foldl keepStep [] = its at hT1 hstep
      have hsta := fun (w : World) => store_row (P := Try.prog) (alloc_at w (.cells #[.int .i64 0, .int .i64 0, .int .i64 0, .int .i64 0, .int .i64 0] 30)) A (by simp [hA5]) hA1
      have hst2 := hsta wr
      have hwr := hT1.1.lt
      rw [World.setRow_alloc_new] at hst2
      have hg := alloc_at wr (.cells A 30)
      have c0 := (cell_of hg 0).trans hA0
      have hld2 := load_act hg hA5
      have hT2 := hT1.below ((Below.refl _ _).alloc (Nat.le_refl _) (.cells A 30))
      have HIT := Lib.hid hit
      have HSTEP := Lib.hid hstep
      have HT2 := Lib.hid hT2
      have HG := Lib.hid hg
      clear hit hstep hT1 hT2 hA0 hA1 htk hsta hg
      by_cases hk : (l[j]).1 = 0
      · have hb : ((l[j]).1 == 0) = true := by simpa using hk
        have hpush := fun (W : World) (b : Nat) (its : List It) (q : QIs W b its 16) => push_s q (actIt l[j])
        have hks : keepStep its l[j] = pushL its 16 (actIt l[j]) := by rw [keepStep, if_pos hk]
        generalize actIt l[j] = x at hpush hks HIT
        generalize itV x = X at hpush HIT
        have HPU := Lib.hid hpush
        have HKS := Lib.hid hks
        clear hpush hks hk
        go_wp2_with fail
        refine (HIT.out _).mono ?_
        rintro y w3 ⟨rfl, hb3⟩
        have hT3 := HT2.out.below hb3
        have hg3 := later_of HG.out hb3
        go_wp2_with fail
        refine (HPU.out _ _ _ hT3.1).mono ?_
        rintro y w4 ⟨⟨c, rfl⟩, k4⟩
        have hT4 := hT3.left (Nat.le_refl _) hpq k4
        have hg4 := k4.2.at_ hg3 (by omega)
        have hld4 := load_act hg4 hA5
        clear hT3 hg3 k4 hg4
        go_wp2_with fail
        refine (HIT.out _).mono ?_
        rintro y w5 ⟨rfl, hb5⟩
        have hT5 := hT4.below hb5
        clear hT4 hb5 hb3 hld4
        go_wp2_with fail
        refine (HPU.out _ _ _ hT5.2.1).mono ?_
        rintro y w6 ⟨⟨c, rfl⟩, k6⟩
        have HT6 := Lib.hid (hT5.right hq hpq k6)
        clear hT5 k6
        go_wp2
        go_roundw
        case rel => exact ⟨j + 1, by omega, by go_num, by rw [HSTEP.out, HKS.out]; exact HT6.out⟩
        case measure => simp [intOf]; omega
      · have hb : ((l[j]).1 == 0) = false := by simpa using hk
        have hks : keepStep its l[j] = its.tail := by rw [keepStep, if_neg hk]
        have HKS := Lib.hid hks
        clear hks hk
        go_wp2_with fail
        refine (pop_s HT2.out.1).mono ?_
        rintro y w3 ⟨⟨X, c, rfl⟩, k3⟩
        have hT3 := HT2.out.left (Nat.le_refl _) hpq k3
        clear k3
        go_wp2_with fail
        refine (pop_s hT3.2.1).mono ?_
        rintro y w4 ⟨⟨Y, c', rfl⟩, k4⟩
        have HT4 := Lib.hid (hT3.right hq hpq k4)
        clear hT3 k4
        go_wp2
        go_roundw
        case rel => exact ⟨j + 1, by omega, by go_num, by rw [HSTEP.out, HKS.out]; exact HT4.out⟩
        case measure => simp [intOf]; omega
    · have hj' : j = l.length := by omega
      subst hj'
      rw [List.take_length] at hT1
      generalize l.foldl keepStep [] = its at hT1
      have hdrop := drop_any hT1.2.1 s
      have h16 := hT1.1.le
      have HT1 := Lib.hid hT1
      have HDR := Lib.hid hdrop
      clear hT1 hdrop
      go_wp2_with fail
      refine HDR.out.mono ?_
      rintro y w3 ⟨rfl, k3⟩
      have hT3 := HT1.out.right hq hpq k3
      clear k3
      go_wp2
      go_loopw [52] (fun i wr => KeepRel2 w w.heap.size q its s i wr) (fun i _ => 16 - (intOf i).toNat)
      case atStart => exact ⟨0, Nat.zero_le _, rfl, by simpa using hT3⟩
      case round =>
        obtain ⟨j, hj, rfl, hT5⟩ := hrel
        by_cases hj16 : j < 16
        · have hd16 : decide ((j : Int) < 16) = true := by simp; omega
          cases hd : its.drop j with
          | nil =>
            rw [hd] at hT5
            have HT5 := Lib.hid hT5
            clear hT5 hd
            go_wp2_with fail
            refine (HPE.out _ _ HT5.out.1).mono ?_
            rintro y w6 ⟨rfl, hb6⟩
            have hst6 := HSTZ.out w6
            rw [World.setRow_alloc_new] at hst6
            have hT6 := (HT5.out.below hb6).below ((Below.refl _ _).alloc (Nat.le_refl _) (.cells Z 39))
            have HT6 := Lib.hid hT6
            clear hT6 hb6
            go_wp2_with fail
            refine (qlen_z HT6.out.2.1).mono ?_
            rintro y w7 ⟨rfl, rfl⟩
            go_wp2_with fail
            refine (single_any _).mono ?_
            rintro y w8 ⟨rfl, hb8⟩
            go_wp2
            go_ret
            exact ⟨rfl, below_chain HT6.out.2.2 hb8⟩
          | cons x r =>
            have hd1 : its.drop (j + 1) = r := by rw [← List.drop_drop, hd]; rfl
            rw [hd] at hT5
            have hpop := pop_ok hT5.1
            have hX0 : (itV x)[0]? = some (.int .i64 x.1) := rfl
            have hXs := itV_size x
            have hst1 := fun (w' : World) => HST.out w' x
            have hpop2 := fun (W : World) (m : List It) (k : QIs W q (x :: m) 16) => pop_ok k
            have hsame : ∀ W, Calls Try.prog 21 #[.agg (itV x), .agg (itV x)] W fun x w' => x = .returned (.bool true) ∧ Below W.heap.size W w' := fun W => same_same _ _ _ _ _ W
            generalize itV x = X at hpop hX0 hXs hst1 hpop2 hsame
            have HT5 := Lib.hid hT5
            have HPO := Lib.hid hpop
            have HPO2 := Lib.hid hpop2
            have HSA := Lib.hid hsame
            have HS1 := Lib.hid hst1
            have HX0 := Lib.hid hX0
            have HD1 := Lib.hid hd1
            clear hT5 hpop hpop2 hsame hst1 hX0 hd1 hd
            go_wp2_with fail
            refine HPO.out.mono ?_
            rintro y w6 ⟨rfl, k6⟩
            have hT6 := HT5.out.left (Nat.le_refl _) hpq k6
            have hst6 := HS1.out w6
            rw [World.setRow_alloc_new] at hst6
            have hg6 := alloc_at w6 (.cells X 39)
            have c60 := (cell_of hg6 0).trans HX0.out
            have hq6 := hT6.2.1.lt
            have hT7 := hT6.below ((Below.refl _ _).alloc (Nat.le_refl _) (.cells X 39))
            have HG6 := Lib.hid hg6
            clear hT6 k6 hg6
            by_cases he : x.1 = s
            · have hb : (x.1 == s) = true := by simpa using he
              have HT7 := Lib.hid hT7
              have HB := Lib.hid hb
              clear he hT7
              go_wp2
              go_roundw
              case rel => exact ⟨j + 1, by omega, by go_num, by
                rw [HD1.out]
                have e : others s (x :: r) = others s r := by simp [others, HB.out]
                have h := HT7.out
                rw [e] at h
                exact h⟩
              case measure => simp [intOf]; omega
            · have hb : (x.1 == s) = false := by simpa using he
              have e : others s (x :: r) = x :: others s r := by simp [others, hb]
              rw [e] at hT7
              have HP2 := Lib.hid (HPO2.out _ _ hT7.2.1)
              have HT7 := Lib.hid hT7
              clear he hT7 e
              go_wp2_with fail
              refine HP2.out.mono ?_
              rintro y w8 ⟨rfl, k8⟩
              have hT8 := HT7.out.right hq hpq k8
              have hg8 := k8.2.at_ HG6.out (by omega)
              have hst8 := HS1.out w8
              rw [World.setRow_alloc_new] at hst8
              have hldx := load_row23 (alloc_old hg8 (.cells X 39)) hXs
              have hldy := load_row23 (alloc_at w8 (.cells X 39)) hXs
              have hT9 := hT8.below ((Below.refl _ _).alloc (Nat.le_refl _) (.cells X 39))
              have HT9 := Lib.hid hT9
              clear hT8 hT9 k8 hg8
              go_wp2_with fail
              refine (HSA.out _).mono ?_
              rintro y w10 ⟨rfl, hb10⟩
              have HT10 := Lib.hid (HT9.out.below hb10)
              clear hb10
              go_wp2
              go_roundw
              case rel => exact ⟨j + 1, by omega, by go_num, by rw [HD1.out]; exact HT10.out⟩
              case measure => simp [intOf]; omega
        · have hj' : j = 16 := by omega
          subst hj'
          have hd16 : decide (((16 : Nat) : Int) < 16) = false := by decide
          have he : its.drop 16 = [] := List.drop_of_length_le (by omega)
          rw [he] at hT5
          have HT6 := Lib.hid hT5
          clear hT5 he
          go_wp2_with fail
          refine (qlen_z HT6.out.2.1).mono ?_
          rintro y w7 ⟨rfl, rfl⟩
          go_wp2_with fail
          refine (single_any _).mono ?_
          rintro y w8 ⟨rfl, hb8⟩
          go_wp2
          go_ret
          exact ⟨rfl, below_chain HT6.out.2.2 hb8⟩
set_option maxRecDepth 100000 in
theorem qkeeps_long (ao : Option Addr) (cap n : Nat) (s : Int) (w : World) (hl : 60 < n) (hm : n ≤ maxLen) :
    Calls Try.prog 5 #[.slice ao n cap, .int .i64 s] w fun x w' => x = .returned (.bool true) ∧ Below w.heap.size w w' := by
  unfold maxLen at hm
  have h60 : decide (60 < (n : Int)) = true := by simp; omega
  go_enter Try.func5, Try.ntmps5
  go_wp2_with fail
  refine (single_any _).mono ?_
  rintro y w8 ⟨rfl, hb8⟩
  go_wp2
  go_ret
  exact ⟨rfl, hb8⟩
theorem qkeeps_any (ao : Option Addr) (cap : Nat) (l : List A5) (s : Int) (w : World) (hm : l.length ≤ maxLen) (hA : ActsAt w ao l) :
    Calls Try.prog 5 #[.slice ao l.length cap, .int .i64 s] w fun x w' => x = .returned (.bool true) ∧ Below w.heap.size w w' := by
  by_cases h : l.length ≤ 60
  · exact qkeeps_ok ao cap l s w h hA
  · exact qkeeps_long ao cap _ s w (by omega) hm
end Go.Proofs.Ytemdhcocbjcklaa.Print
