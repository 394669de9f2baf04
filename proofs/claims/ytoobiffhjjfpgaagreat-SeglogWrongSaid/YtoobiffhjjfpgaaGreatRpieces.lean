/- The reference's Pieces, and lists of texts held against one another. -/
import Derived.Test.YtoobiffhjjfpgaaGreatPieces
import Derived.Deep.OwnRows
namespace Go.Proofs.YtoobiffhjjfpgaaGreat.Print
open Go.RowKit

/-- A block lies as it lay, behind a call. -/
theorem later_of {w1 w2 : World} {b : Nat} {o : Obj} (h : w1.heap[b]? = some o) (hb : Below w1.heap.size w1 w2) : w2.heap[b]? = some o := (hb.block b (lt_of h)).trans h

theorem many_step (n : Nat) (h : 52 < n) : many n = many (n - 52) + 1 := by unfold many; rw [if_neg (by omega), if_neg (by omega)]; omega
theorem many_one (n : Nat) (h1 : 1 ≤ n) (h2 : n ≤ 52) : many n = 1 := by unfold many; rw [if_neg (by omega)]; omega
theorem empty_of (s : ByteArray) (h : s.size = 0) : s = ⟨#[]⟩ := by
  apply list_inj
  have := size_list s
  rw [h] at this
  rw [List.length_eq_zero_iff.1 this.symm]


theorem info_u8 : (Tryz.prog.info? 5).map (fun i => (i.zero, i.size, i.bytes)) = some (some (.int .u8 0), 1, 1) := by kernel_rfl


/-- What the call owns is a row of memory. -/
theorem row_of {w : World} {base n : Nat} {e : TypeId} {v : Value} {xs : List Value} (h : w.ownsRow base e 1 v n xs) (hn : 1 ≤ n) :
    ∃ g cap cur, v = .slice (some ⟨g, 0, none⟩) n cap ∧ base ≤ g ∧ w.heap[g]? = some (.cells cur e (0, 0)) ∧ n ≤ cap ∧ ∀ k, k < n → cur[k]? = xs[k]? := by
  rcases h.2 with h2 | ⟨g, cap, cur, hv, hg, hh, h3, h4, h5, h6⟩
  · omega
  · refine ⟨g, cap, cur, hv, hg, hh, h3, fun k hk => ?_⟩
    rw [← h6, List.getElem?_take, if_pos (by omega)]
    simp



end Go.Proofs.YtoobiffhjjfpgaaGreat.Print
