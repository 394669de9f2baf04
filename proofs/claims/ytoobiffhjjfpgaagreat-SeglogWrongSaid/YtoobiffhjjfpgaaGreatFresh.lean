/- A fresh disk, a fresh view: contracts whose worlds are letters. What an object becomes: its blocks stay among its own, or are new; all others stay as they were. -/
import Derived.Test.YtoobiffhjjfpgaaGreatView
namespace Go.Proofs.YtoobiffhjjfpgaaGreat.Print
open Go.RowKit
theorem VAt.disk_ne {w : World} {v d lb : Nat} {wv : Value} {lies : List (List UInt8)} {waits : List (Nat × List UInt8)} {f n : Nat} {fu : Int} {dead : Bool} (V : VAt w v d lb wv lies waits f n fu dead) : ∀ i, DiskFoot d lb wv i → ¬ i = v := by
  rintro i hi rfl
  rcases hi with h | h | h
  · exact V.vd h
  · exact V.vl h
  · exact V.vw h
def zeroDisk (n : Nat) : List (List UInt8) := List.replicate n zeroSec
theorem zeroDisk_length (n : Nat) : (zeroDisk n).length = n := List.length_replicate
theorem zeroDisk_at (n k : Nat) (h : k < n) : (zeroDisk n)[k]? = some zeroSec := by simp [zeroDisk, h]
theorem dnew_z (n : Nat) (h1 : 1 ≤ n) (h2 : n ≤ 8192) (i : Int) (hi : i = n) (w : World) : Calls Tryz.prog 65 #[.int .i64 i] w fun x w' =>
    x = .returned (.tuple #[.pointer (some ⟨w.heap.size + 1, 0, none⟩), .int .i64 0]) ∧ DiskAt w' (w.heap.size + 1) w.heap.size (.slice none 0 0) (zeroDisk n) [] ∧ Below w.heap.size w w' ∧ w'.heap.size = w.heap.size + 2 := by
  subst hi
  exact (dnew_ok n h1 h2 w).mono fun x w' ⟨hx, hw⟩ => ⟨hx, by subst hw; exact dnew_at n h1 h2 w, by subst hw; exact ((Below.refl _ _).alloc (Nat.le_refl _) _).alloc (by simp) _, by subst hw; simp⟩
theorem vnew_z {w : World} {d lb : Nat} {wv : Value} {lies : List (List UInt8)} {waits : List (Nat × List UInt8)} (D : DiskAt w d lb wv lies waits) (f n : Nat) (hn : 1 ≤ n) (hfn : f + n ≤ lies.length) (i j : Int) (hi : i = f) (hj : j = n) :
    Calls Tryz.prog 66 #[.pointer (some ⟨d, 0, none⟩), .int .i64 i, .int .i64 j] w fun x w' => x = .returned (.tuple #[.pointer (some ⟨w.heap.size, 0, none⟩), .int .i64 0]) ∧ VAt w' w.heap.size d lb wv lies waits f n (-1) false ∧ Below w.heap.size w w' ∧ w'.heap.size = w.heap.size + 1 := by
  subst hi
  subst hj
  refine (vnew_ok D.at_ f n hn hfn D.n2).mono fun x w' ⟨hx, hw⟩ => ⟨hx, ?_, by subst hw; exact (Below.refl _ _).alloc (Nat.le_refl _) _, by subst hw; simp⟩
  subst hw
  exact ⟨⟨0, alloc_at _ _⟩, D.keep (S := fun _ => False) ((Upd.refl _ _).alloc _) (fun _ _ h => h), fun e => by have := D.lt d (.inl rfl); omega, fun e => by have := D.lt lb (.inr (.inl rfl)); omega, fun e => by have := D.lt _ (.inr (.inr e)); omega, hfn, by omega, by omega⟩
theorem VFoot_ge {v d lb B : Nat} {wv : Value} (h1 : B ≤ v) (h2 : B ≤ d) (h3 : B ≤ lb) (h4 : ∀ i, wv.ownBlock = some i → B ≤ i) : ∀ i, i < B → ¬ VFoot v d lb wv i := by
  rintro i hi (rfl | rfl | rfl | h)
  · omega
  · omega
  · omega
  · have := h4 i h; omega
theorem arr_string {w : World} {g : Nat} {l : List UInt8} (hg : w.heap[g]? = some (secObj l)) (hl : l.length = 64) : (convert 141 9 (.slice (some ⟨g, 0, none⟩) 64 64)).run Tryz.prog w = .ok (.string (bs l)) w := by
  have hcv := run_convert_bytes_back (P := Tryz.prog) w 141 9 5 (⟨g, 0, none⟩ : Addr) 64 l Tryz.underlying141 Tryz.underlying5 Tryz.underlying9 (by
    intro k hk
    rw [Addr.add_mid, Nat.zero_add, cell_of hg]
    simp [Lib.byteCells, hk])
  rwa [hl] at hcv
/-- A view's blocks lie from B on. -/
def High (B v d lb : Nat) (wv : Value) : Prop := B ≤ v ∧ B ≤ d ∧ B ≤ lb ∧ ∀ i, wv.ownBlock = some i → B ≤ i
theorem High.foot {B v d lb : Nat} {wv : Value} (h : High B v d lb wv) : ∀ i, i < B → ¬ VFoot v d lb wv i := VFoot_ge h.1 h.2.1 h.2.2.1 h.2.2.2
theorem High.next {B v d lb : Nat} {wv wv' : Value} (h : High B v d lb wv) {w : World} (hB : B ≤ w.heap.size) (hw : ∀ i, wv'.ownBlock = some i → wv.ownBlock = some i ∨ w.heap.size ≤ i) : High B v d lb wv' :=
  ⟨h.1, h.2.1, h.2.2.1, fun i hi => (hw i hi).elim (h.2.2.2 i) (fun e => by omega)⟩
/-- A block below B, and what is below B, stay when a view is turned. -/
theorem High.at_ {B v d lb : Nat} {wv : Value} (h : High B v d lb wv) {w w1 : World} (hU : Upd (VFoot v d lb wv) w w1) {b : Nat} {o : Obj} (hb : w.heap[b]? = some o) (hlt : b < B) : w1.heap[b]? = some o := hU.at_ hb (h.foot b hlt)
theorem High.below {B C v d lb : Nat} {wv : Value} (h : High B v d lb wv) {w w1 : World} (hU : Upd (VFoot v d lb wv) w w1) (hC : C ≤ B) (hs : C ≤ w.heap.size) : Below C w w1 := hU.below hs (fun i hi => h.foot i (by omega))
/-- A view's write, with the place as it stands. -/
theorem vwrite_z {w : World} {v d lb : Nat} {wv : Value} {lies : List (List UInt8)} {waits : List (Nat × List UInt8)} {f n : Nat} {fu : Int} (V : VAt w v d lb wv lies waits f n fu false)
    (h0 : fu ≠ 0) (k : Nat) (s : List UInt8) (hk : k < n) (hs : s.length = 64) (hn : waits.length ≤ 1000000000) (i : Int) (hi : i = k) :
    Calls Tryz.prog 130 #[.pointer (some ⟨v, 0, none⟩), .int .i64 i, .string (bs s)] w fun x w' => x = .returned (.int .i64 0) ∧ VPost w v d lb wv lies (waits ++ [(f + k, s)]) f n (burn fu) false w' := by
  subst hi
  have := vwrite_ok V h0 k (bs s) hk (by rw [bs_size]; exact hs) hn
  rwa [bs_list] at this
end Go.Proofs.YtoobiffhjjfpgaaGreat.Print

namespace Go.Proofs.YtoobiffhjjfpgaaGreat.Print
open Go.RowKit

/-- A set of blocks. -/
abbrev Foot := Nat → Prop
/-- Of a world w an object with the blocks F has become Q in w'. -/
def Became (Q : World → Foot → Prop) (w : World) (F : Foot) (w' : World) : Prop := ∃ F', Q w' F' ∧ Upd F w w' ∧ ∀ i, F' i → F i ∨ w.heap.size ≤ i
/-- An object that stays as long as its blocks stay. -/
def Stays (Q : World → Foot → Prop) : Prop := ∀ {w w' : World} {S F : Foot}, Q w F → Upd S w w' → (∀ i, F i → ¬ S i) → Q w' F
/-- An object whose blocks are there. -/
def There (Q : World → Foot → Prop) : Prop := ∀ {w : World} {F : Foot}, Q w F → ∀ i, F i → i < w.heap.size
def Apart (F G : Foot) : Prop := ∀ i, F i → ¬ G i
theorem Apart.symm {F G : Foot} (h : Apart F G) : Apart G F := fun i hg hf => h i hf hg
def Both (F G : Foot) : Foot := fun i => F i ∨ G i
theorem Apart.both {F G H : Foot} (h : Apart F H) (k : Apart G H) : Apart (Both F G) H := fun i hi hh => hi.elim (fun f => h i f hh) (fun g => k i g hh)
theorem Became.refl {Q : World → Foot → Prop} {w : World} {F : Foot} (h : Q w F) : Became Q w F w := ⟨F, h, Upd.refl _ _, fun _ hi => .inl hi⟩
theorem Became.mono {Q R : World → Foot → Prop} {w w' : World} {F : Foot} (h : Became Q w F w') (k : ∀ G, Q w' G → R w' G) : Became R w F w' := by
  obtain ⟨G, hG, hU, hN⟩ := h
  exact ⟨G, k G hG, hU, hN⟩
/-- One behind the other. -/
theorem Became.trans {Q R : World → Foot → Prop} {w w1 w2 : World} {F : Foot} (h : Became Q w F w1) (k : ∀ G, Q w1 G → Became R w1 G w2) : Became R w F w2 := by
  obtain ⟨G, hG, hU, hN⟩ := h
  obtain ⟨K, hK, hU2, hN2⟩ := k G hG
  refine ⟨K, hK, hU.trans hU2 (fun i hi hg => ?_), fun i hi => ?_⟩
  · rcases hN i hg with h | h
    · exact h
    · omega
  · rcases hN2 i hi with h | h
    · exact hN i h
    · have := hU.size; exact .inr (by omega)
/-- What stood apart from an object stands apart from what it has become. -/
theorem Became.apart {Q : World → Foot → Prop} {w w' : World} {F G : Foot} (h : Became Q w F w') (hG : ∀ i, G i → i < w.heap.size) (ha : Apart F G) : ∃ F', Q w' F' ∧ Upd F w w' ∧ (∀ i, F' i → F i ∨ w.heap.size ≤ i) ∧ Apart F' G := by
  obtain ⟨F', hQ, hU, hN⟩ := h
  refine ⟨F', hQ, hU, hN, fun i hi hg => ?_⟩
  rcases hN i hi with h | h
  · exact ha i h hg
  · have := hG i hg; omega
theorem Became.of_below {Q : World → Foot → Prop} {w w1 w' : World} {F : Foot} (hB : Below w.heap.size w w1) (h : Became Q w1 F w') : Became Q w F w' := by
  obtain ⟨G, hG, hU, hN⟩ := h
  refine ⟨G, hG, (Upd.of_below hB).trans hU (fun i _ hi => hi), fun i hi => ?_⟩
  rcases hN i hi with h | h
  · exact .inl h
  · have := hB.size; exact .inr (by omega)
/-- A view, whatever its blocks are. -/
def ViewIs (v : Nat) (lies : List (List UInt8)) (waits : List (Nat × List UInt8)) (f n : Nat) (fu : Int) (dead : Bool) (w : World) (F : Foot) : Prop :=
  ∃ d lb wv, VAt w v d lb wv lies waits f n fu dead ∧ ∀ i, F i ↔ VFoot v d lb wv i
theorem ViewIs.there {v : Nat} {lies : List (List UInt8)} {waits : List (Nat × List UInt8)} {f n : Nat} {fu : Int} {dead : Bool} : There (ViewIs v lies waits f n fu dead) := by
  rintro w F ⟨d, lb, wv, V, hF⟩ i hi
  exact V.lt i ((hF i).1 hi)
theorem ViewIs.of_post {w w' : World} {v d lb : Nat} {wv : Value} {lies : List (List UInt8)} {waits : List (Nat × List UInt8)} {f n : Nat} {fu : Int} {dead : Bool} {F : Foot} (hF : ∀ i, F i ↔ VFoot v d lb wv i) (hp : VPost w v d lb wv lies waits f n fu dead w') : Became (ViewIs v lies waits f n fu dead) w F w' := by
  obtain ⟨wv', V', hU, hw⟩ := hp
  refine ⟨VFoot v d lb wv', ⟨d, lb, wv', V', fun _ => Iff.rfl⟩, hU.mono (fun i _ h => (hF i).2 h), ?_⟩
  rintro i (rfl | rfl | rfl | h)
  · exact .inl ((hF _).2 (.inl rfl))
  · exact .inl ((hF _).2 (.inr (.inl rfl)))
  · exact .inl ((hF _).2 (.inr (.inr (.inl rfl))))
  · rcases hw i h with h | h
    · exact .inl ((hF _).2 (.inr (.inr (.inr h))))
    · exact .inr h
end Go.Proofs.YtoobiffhjjfpgaaGreat.Print
