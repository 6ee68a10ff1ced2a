/- Strings as lists of bytes, and their order. -/
import Derived.Test.YtledfhoifdihhaaBase
import Derived.Lib.Strings
namespace Go.Proofs.Ytledfhoifdihhaa
open Go.RowKit

theorem bytesLess_eq : ∀ x y : List UInt8, Op.bytesLess x y = decide (x < y)
  | x, [] => by simp [Op.bytesLess]
  | [], b :: y => by simp [Op.bytesLess]
  | a :: x, b :: y => by
    rw [Op.bytesLess, bytesLess_eq x y]
    by_cases h1 : a < b
    · simp [h1, List.cons_lt_cons_iff]
    · by_cases h2 : a = b
      · simp [h2]
      · simp [h1, h2, List.cons_lt_cons_iff]

theorem lt_irrefl' (x : List UInt8) : ¬ x < x := List.lt_irrefl x
theorem lt_trans' {x y z : List UInt8} (h : x < y) (k : y < z) : x < z := List.lt_trans h k
theorem lt_tri (x y : List UInt8) : x < y ∨ x = y ∨ y < x := by
  rcases Classical.em (x < y) with h | h
  · exact .inl h
  · rcases Classical.em (y < x) with h' | h'
    · exact .inr (.inr h')
    · exact .inr (.inl (List.le_antisymm (List.not_lt.1 h') (List.not_lt.1 h)))
theorem lt_snoc (x : List UInt8) (c : UInt8) : x < x ++ [c] := by
  induction x with
  | nil => simp
  | cons a x ih => rw [List.cons_append, List.cons_lt_cons_iff]; exact .inr ⟨rfl, ih⟩
theorem toList_push0 (k : ByteArray) : (k ++ { data := #[0] }).toList = k.toList ++ [0] := by
  rw [Lib.toList_data, Lib.toList_data]
  simp

/-- which of two strings is the greater one -/
def maxS (a b : ByteArray) : ByteArray := if a.toList < b.toList then b else a

/-- a text is inside a span -/
def inB (k lo hi : List UInt8) : Bool := decide (¬ k < lo) && (hi.isEmpty || decide (k < hi))
end Go.Proofs.Ytledfhoifdihhaa
