/- QueueActs, the walk. QueueActs, the walk. (Written by wip/tools/gen_qacts.py.) QueueActs, whatever the input. -/
import Derived.Test.YtemdhcocbjcklaaWants
namespace Go.Proofs.Ytemdhcocbjcklaa.Print
open Go.RowKit Go.Proofs.Ytemdhcocbjcklaa.Open
attribute [local go_sem] run_loadVar_scalar
theorem load_told_item {w : World} {g : Nat} {s : Value} {x : It} {n e : Int} (hg : w.heap[g]? = some (.cells (toldV s x n e) 41)) : (loadVar 39 ⟨g, 1, none⟩).run Try.prog w = .ok (.agg (itV x)) w :=
  run_loadVar_mid w g 1 39 (itV x).toList _ (fun j u hu => by
    have hj : j < 23 := by have := (List.getElem?_eq_some_iff.1 hu).1; exact this
    rw [cell_of hg, toldV_row s x n e j hj]; simpa using hu) Try.underlying39 rfl (by rw [show (itV x).toList.length = 23 from rfl]; exact itemInfo)
theorem ItemsAt.lt {w : World} {v : Value} {its : List It} (h : ItemsAt w v its) : ∀ i, v.ownBlock = some i → its ≠ [] → i < w.heap.size := by
  intro i hi hn
  rcases h with ⟨_, h⟩ | ⟨g, o, c, rfl, _, hg, _⟩
  · exact absurd h hn
  · have : g = i := by simpa [Value.ownBlock] using hi
    subst this; exact hg hn
def ActsRel2 (w : World) (q room : Nat) (its : List It) (v i : Value) (wr : World) : Prop :=
  ∃ j : Nat, j ≤ its.length ∧ i = .int .i64 j ∧ QIs wr q (its.drop j) room ∧ ItemsAt wr v its ∧ Below w.heap.size w wr
def actStep (room : Nat) (its : List It) (x : A5) : List It := if x.1 = 0 then pushL its room (actIt x) else if x.1 = 1 then its.tail else others x.2.1 its
def actX (its : List It) (x : A5) : It := if x.1 = 1 then its.headD (0, 0, 0, 0, 0) else (0, 0, 0, 0, 0)
def actN (its : List It) (x : A5) : Int := if x.1 = 0 ∨ x.1 = 1 then 0 else cnt x.2.1 its
def actE (room : Nat) (its : List It) (x : A5) : Int := if x.1 = 0 then (if its.length < room then 0 else 31) else if x.1 = 1 then (if its = [] then 6 else 0) else 0
theorem want_any (x : A5) (room : Nat) (w : World) (v : Value) (its : List It) (h : ItemsAt w v its) (hl : its.length ≤ room) (hr : room ≤ 16) (hr1 : 1 ≤ room) :
    Calls Try.prog 16 #[v, .int .i64 room, .agg (actC x).toArray] w fun e w' => WantIs w v (actStep room its x) (actX its x) (actN its x) (actE room its x) e w' := by
  by_cases h0 : x.1 = 0
  · have hb : (x.1 == 0) = true := by simpa using h0
    have h1 : ¬ x.1 = 1 := by omega
    by_cases hf : its.length < room
    · have := want_push x room w v its h hb (by omega) (by omega)
      simpa [actStep, actX, actN, actE, h0, pushL, hf] using this
    · have := want_full x room w v its h hb (by omega)
      simpa [actStep, actX, actN, actE, h0, pushL, hf] using this
  · have hb : (x.1 == 0) = false := by simpa using h0
    by_cases h1 : x.1 = 1
    · have hb1 : (x.1 == 1) = true := by simpa using h1
      cases its with
      | nil => have := want_none x room w v h hb hb1; simpa [actStep, actX, actN, actE, h1] using this
      | cons y r => have := want_pop x room w v y r h hb hb1; simpa [actStep, actX, actN, actE, h1] using this
    · have hb1 : (x.1 == 1) = false := by simpa using h1
      have := want_drop x room w v its h hb hb1 (by omega)
      simpa [actStep, actX, actN, actE, h0, h1] using this
theorem push_a {w : World} {b room : Nat} {its : List It} (q : QIs w b its room) (x : A5) (h0 : x.1 = 0) :
    Calls Try.prog 17 #[.pointer (some ⟨b, 0, none⟩), .agg (itV (actIt x))] w fun e w' => e = .returned (.int .i64 (actE room its x)) ∧ QPost w b (actStep room its x) room w' := by
  unfold actStep actE pushL
  rw [if_pos h0, if_pos h0]
  have hle := q.le
  by_cases h : its.length < room
  · rw [if_pos h, if_pos h]; exact push_ok q h _
  · rw [if_neg h, if_neg h]
    exact (push_over q (by omega) _).mono fun e w' ⟨he, hb⟩ => ⟨he, q.below hb, Upd.of_below hb⟩
theorem pop_a {w : World} {b room : Nat} {its : List It} (q : QIs w b its room) (x : A5) (h1 : x.1 = 1) :
    Calls Try.prog 19 #[.pointer (some ⟨b, 0, none⟩)] w fun e w' => e = .returned (.tuple #[.agg (itV (actX its x)), .int .i64 (actE room its x)]) ∧ QPost w b (actStep room its x) room w' := by
  unfold actStep actE actX
  have h0 : ¬ x.1 = 0 := by omega
  simp only [if_neg h0, if_pos h1]
  cases its with
  | nil => exact (pop_empty q).mono fun e w' ⟨he, hb⟩ => ⟨he, q.below hb, Upd.of_below hb⟩
  | cons y r => exact (pop_ok q).mono fun e w' ⟨he, hq⟩ => ⟨he, hq⟩
theorem drop_a {w : World} {b room : Nat} {its : List It} (q : QIs w b its room) (x : A5) (h0 : ¬ x.1 = 0) (h1 : ¬ x.1 = 1) :
    Calls Try.prog 20 #[.pointer (some ⟨b, 0, none⟩), .int .i64 x.2.1] w fun e w' => e = .returned (.int .i64 (actN its x)) ∧ QPost w b (actStep room its x) room w' := by
  unfold actStep actN
  rw [if_neg h0, if_neg h1, if_neg (by omega)]
  exact drop_any q _
theorem actX_zero (its : List It) (x : A5) (h1 : ¬ x.1 = 1) : actX its x = (0, 0, 0, 0, 0) := if_neg h1
theorem actN_zero (its : List It) (x : A5) (h : x.1 = 0 ∨ x.1 = 1) : actN its x = 0 := if_pos h
theorem actE_zero (room : Nat) (its : List It) (x : A5) (h0 : ¬ x.1 = 0) (h1 : ¬ x.1 = 1) : actE room its x = 0 := by rw [actE, if_neg h0, if_neg h1]
def ActsRel (w : World) (q room : Nat) (l : List A5) (vi i : Value) (wr : World) : Prop :=
  ∃ j : Nat, j ≤ l.length ∧ i = .int .i64 j ∧ QIs wr q ((l.take j).foldl (actStep room) []) room ∧ ItemsAt wr vi ((l.take j).foldl (actStep room) []) ∧ (∀ k, vi.ownBlock = some k → k ≠ q) ∧ Below w.heap.size w wr
end Go.Proofs.Ytemdhcocbjcklaa.Print

namespace Go.Proofs.Ytemdhcocbjcklaa.Print
open Go.RowKit Go.Proofs.Ytemdhcocbjcklaa.Open
attribute [local go_sem] run_loadVar_scalar
set_option maxRecDepth 100000 in
set_option maxHeartbeats 6400000 in
attribute [-go_sem] Instr.build Instr.fill loadVar in
theorem qacts_ok (ao : Option Addr) (cap : Nat) (l : List A5) (room : Nat) (w : World) (hr1 : 1 ≤ room) (hr2 : room ≤ 16) (hl : l.length ≤ 100) (hA : ActsAt w ao l) :
    Calls Try.prog 3 #[.int .i64 room, .slice ao l.length cap] w fun x w' => x = .returned (.bool true) ∧ Below w.heap.size w w' := by
  have h100 : decide (100 < (l.length : Int)) = false := by simp; omega
  have k1 : decide ((room : Int) < 1) = false := by simp; omega
  have k2 : decide (16 < (room : Int)) = false := by simp; omega
  have hz : ∀ w, (zeroValue 39).run Try.prog w = .ok (.agg itZ) w := zero_item
  have hzb : ∀ w, (Instr.build 39 #[]).run Try.prog w = .ok (.agg itZ) w := build_item0
  have hzt : ∀ w, _ := told_zero
  have hZs := itZ_size
  have hZ0 : itV (0, 0, 0, 0, 0) = itZ := rfl
  have hst0 := fun (w : World) (x : It) => store_row (P := Try.prog) (alloc_at w (.cells itZ 39)) (itV x) rfl (itV_one x)
  have hstz := fun (w : World) => store_row (P := Try.prog) (alloc_at w (.cells itZ 39)) itZ rfl itZ_one
  have hstt := fun (w : World) (ao : Option Addr) (m cap : Nat) (x : It) (n e : Int) => store_row (P := Try.prog) (alloc_at w (.cells (toldV (.slice none 0 0) (0, 0, 0, 0, 0) 0 0) 41)) (toldV (.slice ao m cap) x n e) rfl (toldV_one _ rfl _ _ _)
  have hTz := toldV_size (.slice none 0 0) (0, 0, 0, 0, 0) 0 0
  generalize toldV (.slice none 0 0) (0, 0, 0, 0, 0) 0 0 = TZ at hzt hstt hTz
  have hpe := fun (w : World) (b : Nat) (q : QIs w b [] room) => pop_empty q
  generalize itZ = Z at hz hzb hZs hst0 hstz hpe hZ0
  have HST := Lib.hid hst0
  have HSTZ := Lib.hid hstz
  have HSTT := Lib.hid hstt
  have HPE := Lib.hid hpe
  have HZ0 := Lib.hid hZ0
  clear hst0 hstz hpe hstt hZ0
  go_enter Try.func3, Try.ntmps3
  go_wp2_with fail
  refine (qnew_z room hr1 hr2 _ rfl w).mono ?_
  rintro y w1 ⟨rfl, q1, hB1, hz1⟩
  obtain ⟨q, hqe⟩ : ∃ q, w.heap.size = q := ⟨_, rfl⟩
  rw [hqe] at q1
  have HQE := Lib.hid hqe
  have HA := Lib.hid hA
  have HQ1 := Lib.hid q1
  have HB1 := Lib.hid hB1
  clear hz1 hA q1 hB1
  go_wp2
  go_loopw [7, 48] (fun vi i wr => ActsRel w q room l vi i wr) (fun _ i _ => l.length - (intOf i).toNat)
  case atStart => exact ⟨0, Nat.zero_le _, rfl, HQ1.out, .inl ⟨rfl, rfl⟩, fun k h => by simp [Value.ownBlock] at h, HB1.out⟩
  case round =>
    obtain ⟨j, hj, rfl, hq, hI, hne, hB⟩ := hrel
    by_cases hlj : j < l.length
    · obtain ⟨a, rfl, hld⟩ := HA.out.load hB j hlj
      have htk : l.take (j + 1) = l.take j ++ [l[j]] := List.take_succ_eq_append_getElem hlj
      have hstep : (l.take (j + 1)).foldl (actStep room) [] = actStep room ((l.take j).foldl (actStep room) []) l[j] := by rw [htk, List.foldl_append]; rfl
      generalize (l.take j).foldl (actStep room) [] = its at hq hI hstep
      have hwant := fun (W : World) (v : Value) (h : ItemsAt W v its) => want_any l[j] room W v its h hq.le.1 hr2 hr1
      have hit := actItem l[j]
      have hA5 : (actC l[j]).toArray.size = 5 := rfl
      have hA0 : (actC l[j]).toArray[0]? = some (.int .i64 (l[j]).1) := rfl
      have hA1 : (actC l[j]).toArray[1]? = some (.int .i64 (l[j]).2.1) := rfl
      have hAo : ∀ v ∈ (actC l[j]).toArray.toList, v.oneCell' = true := by intro v hv; simp [actC] at hv; rcases hv with rfl | rfl | rfl | rfl | rfl <;> rfl
      generalize (actC l[j]).toArray = A at hld hit hA5 hA0 hA1 hAo hwant
      have hsta := store_row (P := Try.prog) (alloc_at wr (.cells #[.int .i64 0, .int .i64 0, .int .i64 0, .int .i64 0, .int .i64 0] 30)) A (by simp [hA5]) hAo
      rw [World.setRow_alloc_new] at hsta
      have g2 := alloc_at wr (.cells A 30)
      have hld2 := load_act g2 hA5
      have hb2 : Below wr.heap.size wr (wr.alloc (.cells A 30)) := (Below.refl _ _).alloc (Nat.le_refl _) _
      have HW := Lib.hid (hwant _ _ (hI.below hb2))
      have HB2 := Lib.hid (below_chain hB hb2)
      have HQ2 := Lib.hid (hq.below hb2)
      have HIT := Lib.hid hit
      have HSTEP := Lib.hid hstep
      have HG2 := Lib.hid g2
      have HA0 := Lib.hid hA0
      have HA1 := Lib.hid hA1
      have HNE := Lib.hid hne
      have hqlt : q < wr.heap.size := hq.lt
      clear hit hstep hwant hI hq hB hb2 hAo hA0 hA1 g2 htk hne
      go_wp2_with fail
      refine HW.out.mono ?_
      rintro y w3 ⟨ao3, m3, cap3, rfl, hI3, hb3, hown3⟩
      have hstt3 := HSTT.out w3 ao3 m3 cap3 (actX its l[j]) (actN its l[j]) (actE room its l[j])
      rw [World.setRow_alloc_new] at hstt3
      have gt3 := alloc_at w3 (.cells (toldV (.slice ao3 m3 cap3) (actX its l[j]) (actN its l[j]) (actE room its l[j])) 41)
      have ht0 : (toldV (.slice ao3 m3 cap3) (actX its l[j]) (actN its l[j]) (actE room its l[j]))[0]? = some (.slice ao3 m3 cap3) := rfl
      have ht24 : (toldV (.slice ao3 m3 cap3) (actX its l[j]) (actN its l[j]) (actE room its l[j]))[24]? = some (.int .i64 (actN its l[j])) := rfl
      have ht25 : (toldV (.slice ao3 m3 cap3) (actX its l[j]) (actN its l[j]) (actE room its l[j]))[25]? = some (.int .i64 (actE room its l[j])) := rfl
      have htrow := fun (W : World) (g : Nat) (hg : W.heap[g]? = some (.cells (toldV (.slice ao3 m3 cap3) (actX its l[j]) (actN its l[j]) (actE room its l[j])) 41)) => load_told_item hg
      have hTs := toldV_size (.slice ao3 m3 cap3) (actX its l[j]) (actN its l[j]) (actE room its l[j])
      generalize toldV (.slice ao3 m3 cap3) (actX its l[j]) (actN its l[j]) (actE room its l[j]) = T at hstt3 gt3 ht0 ht24 ht25 htrow hTs
      have hb4 := hb3.alloc hb3.size (.cells T 41)
      have hstz4 := HSTZ.out (w3.alloc (.cells T 41))
      rw [World.setRow_alloc_new] at hstz4
      have gt5 := alloc_old gt3 (.cells Z 39)
      have gz5 := alloc_at (w3.alloc (.cells T 41)) (.cells Z 39)
      have hb5 := hb4.alloc hb4.size (.cells Z 39)
      have ga5 := later_of HG2.out hb5
      have hI5 := (hI3.below ((Below.refl _ _).alloc (Nat.le_refl _) (.cells T 41))).below ((Below.refl _ _).alloc (Nat.le_refl _) (.cells Z 39))
      have hq5 := HQ2.out.below hb5
      have hB5 := below_chain HB2.out hb5
      have hsz5 : (w3.alloc (.cells T 41)).heap.size = w3.heap.size + 1 := World.size_alloc _ _
      have hw3 : wr.heap.size + 1 ≤ w3.heap.size := by have := hb3.size; rw [World.size_alloc] at this; exact this
      have hne5 : ∀ k, (Value.slice ao3 m3 cap3).ownBlock = some k → k ≠ q := by
        intro k hk e
        rcases hown3 k hk with h | h
        · exact HNE.out k h e
        · rw [World.size_alloc] at h; omega
      rw [hsz5] at hstz4 gz5
      have c05 := (cell_of ga5 0).trans HA0.out
      have c15 := (cell_of ga5 1).trans HA1.out
      have hlda5 := load_act ga5 hA5
      have HB5 := Lib.hid hB5
      have HQ5 := Lib.hid hq5
      have HI5 := Lib.hid hI5
      have HGT5 := Lib.hid gt5
      have HGZ5 := Lib.hid gz5
      have HNE5 := Lib.hid hne5
      have HT0 := Lib.hid ht0
      have HT24 := Lib.hid ht24
      have HT25 := Lib.hid ht25
      have HTR := Lib.hid htrow
      have HLT := Lib.hid hI3.lt
      clear hb3 hb4 hb5 ga5 gt3 gt5 gz5 hI3 hI5 hq5 hB5 hown3 hne5 ht0 ht24 ht25 htrow
      by_cases h0 : (l[j]).1 = 0
      · have hb0 : ((l[j]).1 == 0) = true := by simpa using h0
        have hpush := push_a HQ5.out l[j] h0
        have hpushw := fun (W : World) (q' : QIs W q its room) => push_a q' l[j] h0
        have hxz : itV (actX its l[j]) = Z := by rw [actX_zero _ _ (by omega)]; exact HZ0.out
        have hnz : actN its l[j] = 0 := actN_zero _ _ (.inl h0)
        have hsame : ∀ W, Calls Try.prog 21 #[.agg Z, .agg Z] W fun x w' => x = .returned (.bool true) ∧ Below W.heap.size W w' := by rw [← hxz]; exact fun W => same_same _ _ _ _ _ W
        rw [hxz] at HTR
        rw [hnz] at HT24
        generalize itV (actIt l[j]) = X at hpush hpushw HIT
        have HPW := Lib.hid hpushw
        have HSA := Lib.hid hsame
        clear hpush hpushw hsame hxz hnz h0
        go_wp2_with fail
        refine (HIT.out _).mono ?_
        rintro y w6 ⟨rfl, hb6⟩
        have gt6 := later_of HGT5.out hb6
        have gz6 := later_of HGZ5.out hb6
        have hs6 := hb6.size
        have HI6 := Lib.hid (HI5.out.below hb6)
        have HB6 := Lib.hid (below_chain HB5.out hb6)
        have HP6 := Lib.hid (HPW.out _ (HQ5.out.below hb6))
        have HGT6 := Lib.hid gt6
        have HGZ6 := Lib.hid gz6
        clear hb6 gt6 gz6 hlda5 c05 c15
        go_wp2_with fail
        refine HP6.out.mono ?_
        rintro y w7 ⟨rfl, q7, U7⟩
        have gt7 := U7.at_ HGT6.out (by omega)
        have gz7 := U7.at_ HGZ6.out (by omega)
        have hI7 := HI6.out.keep U7 (fun i hi _ e => HNE5.out i hi e)
        have hB7 : Below w.heap.size w w7 := HB6.out.trans (U7.below HB6.out.size (fun i hi e => by have := HQE.out; omega))
        have c24 := (cell_of gt7 24).trans HT24.out
        have c25 := (cell_of gt7 25).trans HT25.out
        have c00 := (cell_of gt7 0).trans HT0.out
        have hldt := HTR.out _ _ gt7
        have hldx := load_row23 gz7 hZs
        have HGT7 := Lib.hid gt7
        have HQ7 := Lib.hid q7
        have HI7 := Lib.hid hI7
        have HB7 := Lib.hid hB7
        clear q7 U7 gt7 gz7 hI7 hB7
        go_wp2_with fail
        refine (HSA.out _).mono ?_
        rintro y w8 ⟨rfl, hb8⟩
        have c08 := (cell_of (later_of HGT7.out hb8) 0).trans HT0.out
        have HR8 := Lib.hid (rests_any (HQ7.out.below hb8) (HI7.out.below hb8) room rfl)
        have HQ8 := Lib.hid (HQ7.out.below hb8)
        have HI8 := Lib.hid (HI7.out.below hb8)
        have HB8 := Lib.hid (below_chain HB7.out hb8)
        clear hb8 c24 c25 c00 hldt hldx
        go_wp2_with fail
        refine HR8.out.mono ?_
        rintro y w9 ⟨rfl, hb9⟩
        have HQ9 := Lib.hid (HQ8.out.below hb9)
        have HI9 := Lib.hid (HI8.out.below hb9)
        have HB9 := Lib.hid (below_chain HB8.out hb9)
        clear hb9
        go_wp2
        go_roundw
        case rel => exact ⟨j + 1, by omega, by go_num, by rw [HSTEP.out]; exact HQ9.out, by rw [HSTEP.out]; exact HI9.out, HNE5.out, HB9.out⟩
        case measure => simp [intOf]; omega
      · by_cases h1 : (l[j]).1 = 1
        · have hb0 : ((l[j]).1 == 0) = false := by simpa using h0
          have hb1 : ((l[j]).1 == 1) = true := by simpa using h1
          have hpop := pop_a HQ5.out l[j] h1
          have hnz : actN its l[j] = 0 := actN_zero _ _ (.inr h1)
          have hsame : ∀ W, Calls Try.prog 21 #[.agg (itV (actX its l[j])), .agg (itV (actX its l[j]))] W fun x w' => x = .returned (.bool true) ∧ Below W.heap.size W w' := fun W => same_same _ _ _ _ _ W
          have hstp := fun (W : World) => HST.out W (actX its l[j])
          have hXs := itV_size (actX its l[j])
          have hX1 := itV_one (actX its l[j])
          rw [hnz] at HT24
          generalize itV (actX its l[j]) = X at hpop hsame hstp hXs hX1 HTR
          have HPP := Lib.hid hpop
          have HSA := Lib.hid hsame
          have HSP := Lib.hid hstp
          have HX1 := Lib.hid hX1
          clear hpop hsame hnz h0 h1 hstp hX1
          go_wp2_with fail
          refine HPP.out.mono ?_
          rintro y w6 ⟨rfl, q6, U6⟩
          have gt6 := alloc_old (U6.at_ HGT5.out (by omega)) (.cells X 39)
          have gz6 := alloc_old (U6.at_ HGZ5.out (by omega)) (.cells X 39)
          have hs6 := U6.size
          have hstp6 := HSP.out w6
          rw [World.setRow_alloc_new] at hstp6
          have hld14 := load_row23 (alloc_at w6 (.cells X 39)) hXs
          have hst11 := store_row (P := Try.prog) gz6 X (by omega) HX1.out
          have hUx : Upd (fun i => i = w3.heap.size + 1) w6 ((w6.alloc (.cells X 39)).setRow (w3.heap.size + 1) X) := ((Upd.refl (fun i => i = w3.heap.size + 1) w6).alloc _).setRow (fun _ => rfl) _
          have gt7 : ((w6.alloc (.cells X 39)).setRow (w3.heap.size + 1) X).heap[w3.heap.size]? = _ := ((Upd.refl (fun i => i = w3.heap.size + 1) _).setRow (g := w3.heap.size + 1) (fun _ => rfl) X).at_ gt6 (by omega)
          have gz7 := setRow_block (X := X) gz6
          have hI7 := (HI5.out.keep U6 (fun i hi _ e => HNE5.out i hi e)).keep hUx (fun i hi hn e => by have := HLT.out i hi hn; omega)
          have q7 := q6.keep hUx (by omega)
          have hB7 : Below w.heap.size w ((w6.alloc (.cells X 39)).setRow (w3.heap.size + 1) X) := (HB5.out.trans (U6.below HB5.out.size (fun i hi e => by have := HQE.out; omega))).trans (hUx.below (Nat.le_trans HB5.out.size U6.size) (fun i hi e => by have := HQE.out; omega))
          clear q6 U6 hUx gz6 gt6
          have c24 := (cell_of gt7 24).trans HT24.out
          have c25 := (cell_of gt7 25).trans HT25.out
          have c00 := (cell_of gt7 0).trans HT0.out
          have hldt := HTR.out _ _ gt7
          have hldx := load_row23 gz7 hXs
          have HGT7 := Lib.hid gt7
          have HQ7 := Lib.hid q7
          have HI7 := Lib.hid hI7
          have HB7 := Lib.hid hB7
          clear q7 gt7 gz7 hI7 hB7
          go_wp2_with fail
          refine (HSA.out _).mono ?_
          rintro y w8 ⟨rfl, hb8⟩
          have c08 := (cell_of (later_of HGT7.out hb8) 0).trans HT0.out
          have HR8 := Lib.hid (rests_any (HQ7.out.below hb8) (HI7.out.below hb8) room rfl)
          have HQ8 := Lib.hid (HQ7.out.below hb8)
          have HI8 := Lib.hid (HI7.out.below hb8)
          have HB8 := Lib.hid (below_chain HB7.out hb8)
          clear hb8 c24 c25 c00 hldt hldx
          go_wp2_with fail
          refine HR8.out.mono ?_
          rintro y w9 ⟨rfl, hb9⟩
          have HQ9 := Lib.hid (HQ8.out.below hb9)
          have HI9 := Lib.hid (HI8.out.below hb9)
          have HB9 := Lib.hid (below_chain HB8.out hb9)
          clear hb9
          go_wp2
          go_roundw
          case rel => exact ⟨j + 1, by omega, by go_num, by rw [HSTEP.out]; exact HQ9.out, by rw [HSTEP.out]; exact HI9.out, HNE5.out, HB9.out⟩
          case measure => simp [intOf]; omega
        · have hb0 : ((l[j]).1 == 0) = false := by simpa using h0
          have hb1 : ((l[j]).1 == 1) = false := by simpa using h1
          have hdrop := drop_a HQ5.out l[j] h0 h1
          have hxz : itV (actX its l[j]) = Z := by rw [actX_zero _ _ h1]; exact HZ0.out
          have hez : actE room its l[j] = 0 := actE_zero _ _ _ h0 h1
          have hsame : ∀ W, Calls Try.prog 21 #[.agg Z, .agg Z] W fun x w' => x = .returned (.bool true) ∧ Below W.heap.size W w' := by rw [← hxz]; exact fun W => same_same _ _ _ _ _ W
          rw [hxz] at HTR
          rw [hez] at HT25
          have HDR := Lib.hid hdrop
          have HSA := Lib.hid hsame
          clear hdrop hsame hxz hez h0 h1
          go_wp2_with fail
          refine HDR.out.mono ?_
          rintro y w6 ⟨rfl, q7, U6⟩
          have gt7 := U6.at_ HGT5.out (by omega)
          have gz7 := U6.at_ HGZ5.out (by omega)
          have hI7 := HI5.out.keep U6 (fun i hi _ e => HNE5.out i hi e)
          have hB7 : Below w.heap.size w w6 := HB5.out.trans (U6.below HB5.out.size (fun i hi e => by have := HQE.out; omega))
          clear U6
          have c24 := (cell_of gt7 24).trans HT24.out
          have c25 := (cell_of gt7 25).trans HT25.out
          have c00 := (cell_of gt7 0).trans HT0.out
          have hldt := HTR.out _ _ gt7
          have hldx := load_row23 gz7 hZs
          have HGT7 := Lib.hid gt7
          have HQ7 := Lib.hid q7
          have HI7 := Lib.hid hI7
          have HB7 := Lib.hid hB7
          clear q7 gt7 gz7 hI7 hB7
          go_wp2_with fail
          refine (HSA.out _).mono ?_
          rintro y w8 ⟨rfl, hb8⟩
          have c08 := (cell_of (later_of HGT7.out hb8) 0).trans HT0.out
          have HR8 := Lib.hid (rests_any (HQ7.out.below hb8) (HI7.out.below hb8) room rfl)
          have HQ8 := Lib.hid (HQ7.out.below hb8)
          have HI8 := Lib.hid (HI7.out.below hb8)
          have HB8 := Lib.hid (below_chain HB7.out hb8)
          clear hb8 c24 c25 c00 hldt hldx
          go_wp2_with fail
          refine HR8.out.mono ?_
          rintro y w9 ⟨rfl, hb9⟩
          have HQ9 := Lib.hid (HQ8.out.below hb9)
          have HI9 := Lib.hid (HI8.out.below hb9)
          have HB9 := Lib.hid (below_chain HB8.out hb9)
          clear hb9
          go_wp2
          go_roundw
          case rel => exact ⟨j + 1, by omega, by go_num, by rw [HSTEP.out]; exact HQ9.out, by rw [HSTEP.out]; exact HI9.out, HNE5.out, HB9.out⟩
          case measure => simp [intOf]; omega
    · have hj' : j = l.length := by omega
      subst hj'
      rw [List.take_length] at hq hI
      generalize l.foldl (actStep room) [] = its at hq hI
      obtain ⟨ai, ci, rfl⟩ := slice_form hI
      have hle := hq.le
      go_wp2
      go_loopw [105] (fun i wr => ActsRel2 w q room its (.slice ai its.length ci) i wr) (fun i _ => its.length - (intOf i).toNat)
      case atStart => exact ⟨0, Nat.zero_le _, rfl, by simpa using hq, hI, hB⟩
      case round =>
        clear hq hI hB
        rename_i wz _
        obtain ⟨j, hj, rfl, hq, hI, hB⟩ := hrel
        by_cases hlj : j < its.length
        · obtain ⟨g, o, rfl, hrow⟩ := hI.row j hlj
          have hld := hrow wr (Below.refl _ _)
          have hd : its.drop j = its[j] :: its.drop (j + 1) := List.drop_eq_getElem_cons hlj
          rw [hd] at hq
          have hpop := fun (W : World) (k : QIs W q (its[j] :: its.drop (j + 1)) room) => pop_ok k
          have hsame : ∀ W, Calls Try.prog 21 #[.agg (itV its[j]), .agg (itV its[j])] W fun x w' => x = .returned (.bool true) ∧ Below W.heap.size W w' := fun W => same_same _ _ _ _ _ W
          have hst := HST.out wr its[j]
          rw [World.setRow_alloc_new] at hst
          have hstp := fun (W : World) => HST.out W its[j]
          have hXs := itV_size its[j]
          generalize itV its[j] = X at hld hpop hsame hst hstp hXs
          have gx2 := alloc_at wr (.cells X 39)
          have hb2 : Below wr.heap.size wr (wr.alloc (.cells X 39)) := (Below.refl _ _).alloc (Nat.le_refl _) _
          have HP2 := Lib.hid (hpop _ (hq.below hb2))
          have HI2 := Lib.hid (hI.below hb2)
          have HB2 := Lib.hid (below_chain hB hb2)
          have HSP := Lib.hid hstp
          have HSA := Lib.hid hsame
          have HGX := Lib.hid gx2
          have HNE := Lib.hid hne
          have hqlt := hq.lt
          clear hpop hsame hstp hq hI hB hb2 gx2 hrow hne hd
          go_wp2_with fail
          refine HP2.out.mono ?_
          rintro y w3 ⟨rfl, q3, U3⟩
          have gx3 := alloc_old (U3.at_ HGX.out (by omega)) (.cells X 39)
          have hstp3 := HSP.out w3
          rw [World.setRow_alloc_new] at hstp3
          have hldx := load_row23 gx3 hXs
          have hldy := load_row23 (alloc_at w3 (.cells X 39)) hXs
          have hb4 : Below w3.heap.size w3 (w3.alloc (.cells X 39)) := (Below.refl _ _).alloc (Nat.le_refl _) _
          have HQ4 := Lib.hid (q3.below hb4)
          have HI4 := Lib.hid ((HI2.out.keep U3 (fun i hi _ e => HNE.out i hi e)).below hb4)
          have HB4 := Lib.hid (below_chain (HB2.out.trans (U3.below HB2.out.size (fun i hi e => by have := HQE.out; omega))) hb4)
          clear q3 U3 gx3 hb4
          go_wp2_with fail
          refine (HSA.out _).mono ?_
          rintro y w5 ⟨rfl, hb5⟩
          have HQ5 := Lib.hid (HQ4.out.below hb5)
          have HI5 := Lib.hid (HI4.out.below hb5)
          have HB5 := Lib.hid (below_chain HB4.out hb5)
          clear hb5
          go_wp2
          go_roundw
          case rel => exact ⟨j + 1, by omega, by go_num, HQ5.out, HI5.out, HB5.out⟩
          case measure => simp [intOf]; omega
        · have hj' : j = its.length := by omega
          subst hj'
          rw [List.drop_length] at hq
          have HP := Lib.hid (HPE.out _ _ hq)
          have HB5 := Lib.hid hB
          clear hq hI hB
          go_wp2_with fail
          refine HP.out.mono ?_
          rintro y w6 ⟨rfl, hb6⟩
          have hst6 := HSTZ.out w6
          rw [World.setRow_alloc_new] at hst6
          have HB6 := Lib.hid (below_chain HB5.out (hb6.alloc hb6.size (.cells Z 39)))
          clear hb6
          go_wp2_with fail
          refine (single_any _).mono ?_
          rintro y w7 ⟨rfl, hb7⟩
          go_wp2
          go_ret
          exact ⟨rfl, below_chain HB6.out hb7⟩
end Go.Proofs.Ytemdhcocbjcklaa.Print

namespace Go.Proofs.Ytemdhcocbjcklaa.Print
open Go.RowKit Go.Proofs.Ytemdhcocbjcklaa.Open
set_option maxRecDepth 100000 in
theorem qacts_long (ao : Option Addr) (cap n : Nat) (room : Int) (w : World) (hl : 100 < n) (hm : n ≤ maxLen) :
    Calls Try.prog 3 #[.int .i64 room, .slice ao n cap] w fun x w' => x = .returned (.bool true) ∧ Below w.heap.size w w' := by
  unfold maxLen at hm
  have h100 : decide (100 < (n : Int)) = true := by simp; omega
  go_enter Try.func3, Try.ntmps3
  go_wp2_with fail
  refine (single_any _).mono ?_
  rintro y w8 ⟨rfl, hb8⟩
  go_wp2
  go_ret
  exact ⟨rfl, hb8⟩
set_option maxRecDepth 100000 in
theorem qacts_bad (ao : Option Addr) (cap n : Nat) (room : Int) (w : World) (hl : n ≤ 100) (hr : room < 1 ∨ 16 < room) :
    Calls Try.prog 3 #[.int .i64 room, .slice ao n cap] w fun x w' => x = .returned (.bool true) ∧ Below w.heap.size w w' := by
  have h100 : decide (100 < (n : Int)) = false := by simp; omega
  have hb := Lib.hid (qnew_bad room hr w)
  by_cases h1 : room < 1
  · have k1 : decide (room < 1) = true := by simp; omega
    go_enter Try.func3, Try.ntmps3
    go_wp2_with fail
    refine hb.out.mono ?_
    rintro y w1 ⟨rfl, rfl⟩
    go_wp2_with fail
    refine (single_any _).mono ?_
    rintro y w8 ⟨rfl, hb8⟩
    go_wp2
    go_ret
    exact ⟨rfl, hb8⟩
  · have k1 : decide (room < 1) = false := by simp; omega
    have k2 : decide (16 < room) = true := by simp; omega
    go_enter Try.func3, Try.ntmps3
    go_wp2_with fail
    refine hb.out.mono ?_
    rintro y w1 ⟨rfl, rfl⟩
    go_wp2_with fail
    refine (single_any _).mono ?_
    rintro y w8 ⟨rfl, hb8⟩
    go_wp2
    go_ret
    exact ⟨rfl, hb8⟩
theorem qacts_any (room : Int) (ao : Option Addr) (cap : Nat) (l : List A5) (w : World) (hm : l.length ≤ maxLen) (hA : ActsAt w ao l) :
    Calls Try.prog 3 #[.int .i64 room, .slice ao l.length cap] w fun x w' => x = .returned (.bool true) ∧ Below w.heap.size w w' := by
  by_cases h : l.length ≤ 100
  · by_cases hr : room < 1 ∨ 16 < room
    · exact qacts_bad ao cap _ room w h hr
    · obtain ⟨r, rfl⟩ := Int.eq_ofNat_of_zero_le (show 0 ≤ room by omega)
      exact qacts_ok ao cap l r w (by omega) (by omega) h hA
  · exact qacts_long ao cap _ room w (by omega) hm
end Go.Proofs.Ytemdhcocbjcklaa.Print
