/- What an object becomes: its blocks stay among its own, or are new; all others stay as they were. -/
import Derived.Test.YtoabdpobpmbckaaView
namespace Go.Proofs.Ytoabdpobpmbckaa.Print
open Go.RowKit

/-- A set of blocks. -/
abbrev Foot := Nat → Prop
/-- Of a world w an object with the blocks F has become Q in w'. -/
def Became (Q : World → Foot → Prop) (w : World) (F : Foot) (w' : World) : Prop := ∃ F', Q w' F' ∧ Upd F w w' ∧ ∀ i, F' i → F i ∨ w.heap.size ≤ i
/-- An object that stays as long as its blocks stay. -/
def Stays (Q : World → Foot → Prop) : Prop := ∀ {w w' : World} {S F : Foot}, Q w F → Upd S w w' → (∀ i, F i → ¬ S i) → Q w' F
/-- An object whose blocks are there. -/
def There (Q : World → Foot → Prop) : Prop := ∀ {w : World} {F : Foot}, Q w F → ∀ i, F i → i < w.heap.size
def Apart (F G : Foot) : Prop := ∀ i, F i → ¬ G i
theorem Apart.symm {F G : Foot} (h : Apart F G) : Apart G F := fun i hg hf => h i hf hg
def Both (F G : Foot) : Foot := fun i => F i ∨ G i
theorem Apart.both {F G H : Foot} (h : Apart F H) (k : Apart G H) : Apart (Both F G) H := fun i hi hh => hi.elim (fun f => h i f hh) (fun g => k i g hh)
theorem Became.refl {Q : World → Foot → Prop} {w : World} {F : Foot} (h : Q w F) : Became Q w F w := ⟨F, h, Upd.refl _ _, fun _ hi => .inl hi⟩
theorem Became.mono {Q R : World → Foot → Prop} {w w' : World} {F : Foot} (h : Became Q w F w') (k : ∀ G, Q w' G → R w' G) : Became R w F w' := by
  obtain ⟨G, hG, hU, hN⟩ := h
  exact ⟨G, k G hG, hU, hN⟩
/-- One behind the other. -/
theorem Became.trans {Q R : World → Foot → Prop} {w w1 w2 : World} {F : Foot} (h : Became Q w F w1) (k : ∀ G, Q w1 G → Became R w1 G w2) : Became R w F w2 := by
  obtain ⟨G, hG, hU, hN⟩ := h
  obtain ⟨K, hK, hU2, hN2⟩ := k G hG
  refine ⟨K, hK, hU.trans hU2 (fun i hi hg => ?_), fun i hi => ?_⟩
  · rcases hN i hg with h | h
    · exact h
    · omega
  · rcases hN2 i hi with h | h
    · exact hN i h
    · have := hU.size; exact .inr (by omega)
/-- What stood apart from an object stands apart from what it has become. -/
theorem Became.apart {Q : World → Foot → Prop} {w w' : World} {F G : Foot} (h : Became Q w F w') (hG : ∀ i, G i → i < w.heap.size) (ha : Apart F G) : ∃ F', Q w' F' ∧ Upd F w w' ∧ (∀ i, F' i → F i ∨ w.heap.size ≤ i) ∧ Apart F' G := by
  obtain ⟨F', hQ, hU, hN⟩ := h
  refine ⟨F', hQ, hU, hN, fun i hi hg => ?_⟩
  rcases hN i hi with h | h
  · exact ha i h hg
  · have := hG i hg; omega
theorem Became.of_below {Q : World → Foot → Prop} {w w1 w' : World} {F : Foot} (hB : Below w.heap.size w w1) (h : Became Q w1 F w') : Became Q w F w' := by
  obtain ⟨G, hG, hU, hN⟩ := h
  refine ⟨G, hG, (Upd.of_below hB).trans hU (fun i _ hi => hi), fun i hi => ?_⟩
  rcases hN i hi with h | h
  · exact .inl h
  · have := hB.size; exact .inr (by omega)
/-- A view, whatever its blocks are. -/
def ViewIs (v : Nat) (lies : List (List UInt8)) (waits : List (Nat × List UInt8)) (f n : Nat) (fu : Int) (dead : Bool) (w : World) (F : Foot) : Prop :=
  ∃ d lb wv, VAt w v d lb wv lies waits f n fu dead ∧ ∀ i, F i ↔ VFoot v d lb wv i
theorem ViewIs.there {v : Nat} {lies : List (List UInt8)} {waits : List (Nat × List UInt8)} {f n : Nat} {fu : Int} {dead : Bool} : There (ViewIs v lies waits f n fu dead) := by
  rintro w F ⟨d, lb, wv, V, hF⟩ i hi
  exact V.lt i ((hF i).1 hi)
theorem ViewIs.of_post {w w' : World} {v d lb : Nat} {wv : Value} {lies : List (List UInt8)} {waits : List (Nat × List UInt8)} {f n : Nat} {fu : Int} {dead : Bool} {F : Foot} (hF : ∀ i, F i ↔ VFoot v d lb wv i) (hp : VPost w v d lb wv lies waits f n fu dead w') : Became (ViewIs v lies waits f n fu dead) w F w' := by
  obtain ⟨wv', V', hU, hw⟩ := hp
  refine ⟨VFoot v d lb wv', ⟨d, lb, wv', V', fun _ => Iff.rfl⟩, hU.mono (fun i _ h => (hF i).2 h), ?_⟩
  rintro i (rfl | rfl | rfl | h)
  · exact .inl ((hF _).2 (.inl rfl))
  · exact .inl ((hF _).2 (.inr (.inl rfl)))
  · exact .inl ((hF _).2 (.inr (.inr (.inl rfl))))
  · rcases hw i h with h | h
    · exact .inl ((hF _).2 (.inr (.inr (.inr h))))
    · exact .inr h
end Go.Proofs.Ytoabdpobpmbckaa.Print
