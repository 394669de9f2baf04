/- super: a store of a super whatever the fuse, what the power leaves, and what is loaded then. -/
import Derived.Test.YtemdhcocbjcklaaTorn
namespace Go.Proofs.Ytemdhcocbjcklaa.Print
open Go.RowKit

theorem span_one (f n k : Nat) (s : List UInt8) (h : k < n) : inSpan f n (f + k, s) = true := by simp [inSpan, h]
theorem place_s5 (x : S5) (hx : Fits x) (w : World) : Calls Try.prog 43 #[.agg (s5A x)] w fun e w' => e = .returned (.int .i64 ((x.1 % 2 : Nat) : Int)) ∧ Below w.heap.size w w' := by
  have hmod : ((x.1 : Int) % 2) = ((x.1 % 2 : Nat) : Int) := by omega
  rw [← hmod]; exact place_any x.1 x.2.1 x.2.2.1 x.2.2.2.1 x.2.2.2.2 hx.1 w
theorem enc_s5 (x : S5) (hx : Fits x) (w : World) : Calls Try.prog 41 #[.agg (s5A x)] w fun e w' => e = .returned (.string (bs (s5L x))) ∧ Below w.heap.size w w' :=
  superEnc_any x.1 x.2.1 x.2.2.1 x.2.2.2.1 x.2.2.2.2 hx.1 hx.2.1 hx.2.2.1 hx.2.2.2.1 hx.2.2.2.2 w
theorem enc_size (x : S5) : (bs (s5L x)).size = 64 := by rw [bs_size, s5L_length]
/-- A store that was done. -/
theorem store_done {w : World} {v d lb : Nat} {wv : Value} {lies : List (List UInt8)} {f n : Nat} {fu : Int} (V : VAt w v d lb wv lies [] f n fu false) (x : S5) (hx : Fits x) (h2 : 2 ≤ n) (h0 : fu ≠ 0) (h1 : burn fu ≠ 0) :
    Calls Try.prog 51 #[.pointer (some ⟨v, 0, none⟩), .agg (s5A x)] w fun e w' => e = .returned (.int .i64 0) ∧ VPost w v d lb wv (lies.set (f + x.1 % 2) (s5L x)) [] f n (burn (burn fu)) false w' := by
  have hk : x.1 % 2 < n := by omega
  refine sstore_go (.pointer (some ⟨v, 0, none⟩)) (s5A x) rfl ((x.1 % 2 : Nat) : Int) (bs (s5L x)) 0 w (fun w' => VPost w v d lb wv lies [(f + x.1 % 2, s5L x)] f n (burn fu) false w') _ (place_s5 x hx) (enc_s5 x hx) (fun w1 hb => ?_) (fun w1 hR => ?_)
  · have := vwrite_ok (V.below hb) h0 (x.1 % 2) (bs (s5L x)) hk (enc_size x) (by simp)
    rw [bs_list] at this
    exact this.mono fun e w' ⟨he, hv⟩ => ⟨he, VPost.trans (Upd.of_below hb) (fun i hi => .inl hi) hv⟩
  · obtain ⟨wv', V', U, hw⟩ := hR
    have := vflush_ok V' h1 (by simp)
    refine this.mono fun e w' ⟨he, hv⟩ => ⟨he, ?_⟩
    have hs := span_one f n (x.1 % 2) (s5L x) hk
    have e1 : [(f + x.1 % 2, s5L x)].filter (inSpan f n) = [(f + x.1 % 2, s5L x)] := by simp [hs]
    have e2 : [(f + x.1 % 2, s5L x)].filter (fun x => !inSpan f n x) = [] := by simp [hs]
    rw [e1, e2] at hv
    exact VPost.trans U hw hv
/-- A store ahead of which the power went. -/
theorem store_dead {w : World} {v d lb : Nat} {wv : Value} {lies : List (List UInt8)} {f n : Nat} (V : VAt w v d lb wv lies [] f n 0 false) (x : S5) (hx : Fits x) (h2 : 2 ≤ n) :
    Calls Try.prog 51 #[.pointer (some ⟨v, 0, none⟩), .agg (s5A x)] w fun e w' => e = .returned (.int .i64 21) ∧ VPost w v d lb wv lies [] f n 0 true w' := by
  have hk : x.1 % 2 < n := by omega
  exact sstore_err (.pointer (some ⟨v, 0, none⟩)) (s5A x) rfl ((x.1 % 2 : Nat) : Int) (bs (s5L x)) 21 (by decide) w (fun w' => VPost w v d lb wv lies [] f n 0 true w') (place_s5 x hx) (enc_s5 x hx)
    (fun w1 hb => (vwrite_dead (V.below hb) (.inl rfl) (x.1 % 2) _ hk (enc_size x)).mono fun e w' ⟨he, hv⟩ => ⟨he, VPost.trans (Upd.of_below hb) (fun i hi => .inl hi) hv⟩)
/-- A store in which the power went. -/
theorem store_half {w : World} {v d lb : Nat} {wv : Value} {lies : List (List UInt8)} {f n : Nat} (V : VAt w v d lb wv lies [] f n 1 false) (x : S5) (hx : Fits x) (h2 : 2 ≤ n) :
    Calls Try.prog 51 #[.pointer (some ⟨v, 0, none⟩), .agg (s5A x)] w fun e w' => e = .returned (.int .i64 21) ∧ VPost w v d lb wv lies [(f + x.1 % 2, s5L x)] f n 0 true w' := by
  have hk : x.1 % 2 < n := by omega
  refine sstore_go (.pointer (some ⟨v, 0, none⟩)) (s5A x) rfl ((x.1 % 2 : Nat) : Int) (bs (s5L x)) 21 w (fun w' => VPost w v d lb wv lies [(f + x.1 % 2, s5L x)] f n 0 false w') _ (place_s5 x hx) (enc_s5 x hx) (fun w1 hb => ?_) (fun w1 hR => ?_)
  · have := vwrite_ok (V.below hb) (by omega) (x.1 % 2) (bs (s5L x)) hk (enc_size x) (by simp)
    rw [bs_list] at this
    exact this.mono fun e w' ⟨he, hv⟩ => ⟨he, VPost.trans (Upd.of_below hb) (fun i hi => .inl hi) hv⟩
  · obtain ⟨wv', V', U, hw⟩ := hR
    exact (vflush_dead V' (.inl rfl)).mono fun e w' ⟨he, hv⟩ => ⟨he, VPost.trans U hw hv⟩
/-- What lies and waits behind a store of t over s, by whether it answered OK. -/
def Left (s t : S5) (f : Nat) (h : Int) (lies : List (List UInt8)) (waits : List (Nat × List UInt8)) : Prop :=
  lies[f + s.1 % 2]? = some (s5L s) ∧ ((h = 0 ∧ waits = [] ∧ lies[f + t.1 % 2]? = some (s5L t)) ∨ (h = 21 ∧ waits = [] ∧ lies[f + t.1 % 2]? = some zeroSec) ∨ (h = 21 ∧ waits = [(f + t.1 % 2, s5L t)] ∧ lies[f + t.1 % 2]? = some zeroSec))
theorem kfold_none (lies : List (List UInt8)) (ks : List K2) : (kfold [] lies ks).1 = lies := by
  have : ∀ st, ks.foldl (kstep []) st = st := by
    induction ks with
    | nil => exact fun st => rfl
    | cons k r ih => exact fun st => by rw [List.foldl_cons, ih]; unfold kstep; rw [dif_neg (by simp)]
  unfold kfold; rw [this]
theorem kfold_one (x : Nat × List UInt8) (lies : List (List UInt8)) (ks : List K2) (s : List UInt8) (hx : lies[x.1]? = some s) : (kfold [x] lies ks).1 = lies ∨ ∃ n, (kfold [x] lies ks).1 = lies.set x.1 (mix x.2 s n) := by
  have hd : lies.getD x.1 [] = s := by rw [List.getD_eq_getElem?_getD, hx, Option.getD_some]
  have step : ∀ st, ((st.1 = lies ∧ st.2 x.1 = 0) ∨ ((∃ n, st.1 = lies.set x.1 (mix x.2 s n)) ∧ st.2 x.1 = 1)) → ∀ k, (((kstep [x] st k).1 = lies ∧ (kstep [x] st k).2 x.1 = 0) ∨ ((∃ n, (kstep [x] st k).1 = lies.set x.1 (mix x.2 s n)) ∧ (kstep [x] st k).2 x.1 = 1)) := by
    intro st h k
    unfold kstep
    split
    · rename_i hk
      have hk0 : k.1 = 0 := by simp at hk; omega
      have hg : ([x] : List (Nat × List UInt8))[k.1.toNat]'hk.2 = x := by simp [hk0]
      simp only [hg]
      rcases h with ⟨h1, h2⟩ | ⟨h1, h2⟩
      · rw [if_pos (by omega)]
        right
        exact ⟨⟨k.2, by rw [h1, hd]⟩, by simp [hk0]⟩
      · rw [if_neg (by omega)]
        exact .inr ⟨h1, h2⟩
    · exact h
  have all : ∀ st, ((st.1 = lies ∧ st.2 x.1 = 0) ∨ ((∃ n, st.1 = lies.set x.1 (mix x.2 s n)) ∧ st.2 x.1 = 1)) → (ks.foldl (kstep [x]) st).1 = lies ∨ ∃ n, (ks.foldl (kstep [x]) st).1 = lies.set x.1 (mix x.2 s n) := by
    induction ks with
    | nil => exact fun st h => h.imp And.left And.left
    | cons k r ih => exact fun st h => ih _ (step st h k)
  exact all _ (.inl ⟨rfl, rfl⟩)
/-- Whatever the power leaves, one of the two supers is found; the new one, if the store answered OK. -/
theorem left_picks (s t : S5) (hs : Fits s) (ht : Fits t) (hst : t.1 = s.1 + 1) (f n : Nat) (h2 : 2 ≤ n) (h : Int) (lies : List (List UInt8)) (waits : List (Nat × List UInt8)) (hL : Left s t f h lies waits) (ks : List K2) :
    waits.filter (fun x => !inSpan f n x) = [] ∧ ∃ x a b, (kfold (waits.filter (inSpan f n)) lies ks).1[f + 0]? = some a ∧ (kfold (waits.filter (inSpan f n)) lies ks).1[f + 1]? = some b ∧ PickIs x a b ∧ ((h = 0 ∧ x = t) ∨ (h = 21 ∧ x = t) ∨ (h = 21 ∧ x = s)) := by
  obtain ⟨h1, hL⟩ := hL
  rcases hL with ⟨rfl, rfl, h3⟩ | ⟨rfl, rfl, h3⟩ | ⟨rfl, rfl, h3⟩
  · refine ⟨rfl, ?_⟩
    rw [List.filter_nil, kfold_none]
    obtain ⟨a, b, ha, hb, hp⟩ := pick_new lies f s t hs ht hst h1 h3
    exact ⟨t, a, b, ha, hb, hp, .inl ⟨rfl, rfl⟩⟩
  · refine ⟨rfl, ?_⟩
    rw [List.filter_nil, kfold_none]
    obtain ⟨a, b, ha, hb, hp⟩ := pick_old lies f s t hs hst zeroSec zero_none h1 h3
    exact ⟨s, a, b, ha, hb, hp, .inr (.inr ⟨rfl, rfl⟩)⟩
  · have hsp := span_one f n (t.1 % 2) (s5L t) (by omega)
    refine ⟨by simp [hsp], ?_⟩
    have e1 : [(f + t.1 % 2, s5L t)].filter (inSpan f n) = [(f + t.1 % 2, s5L t)] := by simp [hsp]
    rw [e1]
    rcases kfold_one (f + t.1 % 2, s5L t) lies ks zeroSec h3 with e | ⟨m, e⟩
    · rw [e]
      obtain ⟨a, b, ha, hb, hp⟩ := pick_old lies f s t hs hst zeroSec zero_none h1 h3
      exact ⟨s, a, b, ha, hb, hp, .inr (.inr ⟨rfl, rfl⟩)⟩
    · rw [e]
      have hlt : f + t.1 % 2 < lies.length := (List.getElem?_eq_some_iff.1 h3).1
      have g1 : (lies.set (f + t.1 % 2) (mix (s5L t) zeroSec m))[f + s.1 % 2]? = some (s5L s) := by rw [List.getElem?_set_ne (by omega)]; exact h1
      have g2 : (lies.set (f + t.1 % 2) (mix (s5L t) zeroSec m))[f + t.1 % 2]? = some (mix (s5L t) zeroSec m) := by rw [List.getElem?_set_self hlt]
      rcases mix_torn t m with hm | hm
      · rw [hm] at g1 g2 ⊢
        obtain ⟨a, b, ha, hb, hp⟩ := pick_new _ f s t hs ht hst g1 g2
        exact ⟨t, a, b, ha, hb, hp, .inr (.inl ⟨rfl, rfl⟩)⟩
      · obtain ⟨a, b, ha, hb, hp⟩ := pick_old _ f s t hs hst _ hm g1 g2
        exact ⟨s, a, b, ha, hb, hp, .inr (.inr ⟨rfl, rfl⟩)⟩
end Go.Proofs.Ytemdhcocbjcklaa.Print
