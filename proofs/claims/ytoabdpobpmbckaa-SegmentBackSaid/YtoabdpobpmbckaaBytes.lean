/- Texts as lists of bytes, numbers as bytes and back: plain facts. -/
import Derived.Test.YtoabdpobpmbckaaNums
namespace Go.Proofs.Ytoabdpobpmbckaa.Print
open Go.RowKit

/-- A text out of its bytes. -/
def bs (l : List UInt8) : ByteArray := ⟨l.toArray⟩
theorem bs_list (l : List UInt8) : (bs l).data.toList = l := by simp [bs]
theorem bs_size (l : List UInt8) : (bs l).size = l.length := by simp [bs, ByteArray.size]
theorem bs_of (s : ByteArray) : bs s.data.toList = s := by cases s; simp [bs]
theorem bs_inj {l m : List UInt8} (h : bs l = bs m) : l = m := by have := congrArg (fun s : ByteArray => s.data.toList) h; simpa [bs] using this
theorem list_inj {s t : ByteArray} (h : s.data.toList = t.data.toList) : s = t := by rw [← bs_of s, ← bs_of t, h]
theorem bs_append (l m : List UInt8) : bs l ++ bs m = bs (l ++ m) := by
  apply list_inj; simp [bs]
theorem append_list (s t : ByteArray) : (s ++ t).data.toList = s.data.toList ++ t.data.toList := by simp
theorem extract_list (s : ByteArray) (a b : Nat) : (s.extract a b).data.toList = (s.data.toList.drop a).take (b - a) := by
  simp [ByteArray.data_extract, List.take_drop]
theorem bs_extract (l : List UInt8) (a b : Nat) : (bs l).extract a b = bs ((l.drop a).take (b - a)) := by
  apply list_inj; rw [extract_list, bs_list, bs_list]
theorem size_list (s : ByteArray) : s.size = s.data.toList.length := by rw [Array.length_toList]; rfl

theorem snoc_ind {α : Type} {P : List α → Prop} (h0 : P []) (h1 : ∀ l b, P l → P (l ++ [b])) (l : List α) : P l := by
  have h : ∀ m : List α, P m.reverse := by
    intro m
    induction m with
    | nil => exact h0
    | cons b m ih => rw [List.reverse_cons]; exact h1 _ _ ih
  have := h l.reverse
  rwa [List.reverse_reverse] at this

/-- The number of bytes. -/
def readL (l : List UInt8) : Nat := l.foldl (fun v b => v * 256 + b.toNat) 0
theorem readL_snoc (l : List UInt8) (b : UInt8) : readL (l ++ [b]) = readL l * 256 + b.toNat := by simp [readL]
theorem readL_lt (l : List UInt8) : readL l < 256 ^ l.length := by
  refine snoc_ind (P := fun l => readL l < 256 ^ l.length) (by simp [readL]) ?_ l
  · intro l b ih
    rw [readL_snoc, List.length_append, List.length_singleton, Nat.pow_succ]
    have := b.toNat_lt
    have h2 : readL l + 1 ≤ 256 ^ l.length := ih
    have h3 := Nat.mul_le_mul_right 256 h2
    omega
theorem beL_readL (l : List UInt8) : beL (readL l) l.length = l := by
  refine snoc_ind (P := fun l => beL (readL l) l.length = l) rfl ?_ l
  · intro l b ih
    have hb : b.toNat < 256 := by have := b.toNat_lt; omega
    rw [readL_snoc, List.length_append, List.length_singleton, beL]
    rw [show (readL l * 256 + b.toNat) / 256 = readL l by omega, show (readL l * 256 + b.toNat) % 256 = b.toNat by omega, ih]
    simp
theorem readL_beL (v n : Nat) (h : v < 256 ^ n) : readL (beL v n) = v := by
  induction n generalizing v with
  | zero => simp at h; subst h; rfl
  | succ n ih =>
    rw [beL, readL_snoc, ih]
    · rw [UInt8.toNat_ofNat']
      omega
    · rw [Nat.pow_succ] at h
      omega
theorem beL_inj {v w n : Nat} (hv : v < 256 ^ n) (hw : w < 256 ^ n) (h : beL v n = beL w n) : v = w := by
  rw [← readL_beL v n hv, ← readL_beL w n hw, h]

end Go.Proofs.Ytoabdpobpmbckaa.Print
