/- Inside and Overlap, the program's and the document's. -/
import Derived.Test.YtledfhoifdihhaaStr
namespace Go.Proofs.Ytledfhoifdihhaa
open Go.RowKit

def insideB (k lo hi : ByteArray) : Bool := inB k.toList lo.toList hi.toList

theorem insideB_eq (k lo hi : ByteArray) : insideB k lo hi = ((Op.bytesLess lo.toList k.toList || lo.toList == k.toList) && (hi.toList.isEmpty || Op.bytesLess k.toList hi.toList)) := by
  unfold insideB inB
  rw [bytesLess_eq, bytesLess_eq]
  congr 1
  rw [Bool.eq_iff_iff]
  simp only [decide_eq_true_eq, Bool.or_eq_true, beq_iff_eq]
  constructor
  · intro h
    rcases lt_tri lo.toList k.toList with h' | h' | h'
    · exact .inl h'
    · exact .inr h'
    · exact absurd h' h
  · rintro (h | h) h'
    · exact lt_irrefl' _ (lt_trans' h h')
    · rw [h] at h'; exact lt_irrefl' _ h'

theorem not_less (a b : List UInt8) : Op.bytesLess a b = !(Op.bytesLess b a || b == a) := by
  rw [bytesLess_eq, bytesLess_eq]
  rcases lt_tri a b with h | h | h
  · have h1 : ¬ b < a := fun h' => lt_irrefl' _ (lt_trans' h h')
    have h2 : b ≠ a := fun e => by rw [e] at h; exact lt_irrefl' _ h
    simp [h, h1, h2]
  · subst h; simp
  · have h1 : ¬ a < b := fun h' => lt_irrefl' _ (lt_trans' h h')
    simp [h, h1]

theorem inside10 (k lo hi : ByteArray) (w : World) :
    Calls Try.prog 10 #[.string k, .agg #[.string lo, .string hi]] w fun e w' => e = .returned (.bool (insideB k lo hi)) ∧ Below w.heap.size w w' := by
  have hb : Below w.heap.size w (w.alloc (.cells #[.string lo, .string hi] 23)) := (Below.refl _ _).alloc (Nat.le_refl _) _
  have hB := Lib.hid hb
  clear hb
  rw [insideB_eq]
  go_enter Try.func10, Try.ntmps10
  go_wp2
  all_goals (go_ret; refine ⟨ret_bool ?_, hB.out⟩; clear hB; simp_all)

theorem inside11 (k lo hi : ByteArray) (w : World) :
    Calls Try.prog 11 #[.string k, .agg #[.string lo, .string hi]] w fun e w' => e = .returned (.bool (insideB k lo hi)) ∧ Below w.heap.size w w' := by
  have hb : Below w.heap.size w (w.alloc (.cells #[.string lo, .string hi] 23)) := (Below.refl _ _).alloc (Nat.le_refl _) _
  have hB := Lib.hid hb
  clear hb
  rw [insideB_eq]
  have hT := Lib.hid (not_less k.toList lo.toList)
  go_enter Try.func11, Try.ntmps11
  go_wp2
  all_goals (go_ret; refine ⟨ret_bool ?_, hB.out⟩; clear hB; have hT' := hT.out; clear hT; go_tidy; grind)

def overlapB (al ah bl bh : ByteArray) : Bool := insideB (maxS al bl) al ah && insideB (maxS al bl) bl bh

theorem max2_string (x y : ByteArray) : Builtin.max2 (.string x) (.string y) = pure (.string (maxS x y)) := by
  simp only [Builtin.max2, Op.stringOp, maxS]
  rw [bytesLess_eq]
  by_cases h : x.toList < y.toList <;> simp [h, asBool]
theorem max_two' (ats : Array TypeId) (ty : TypeId) (a b : Value) : Builtin.max_ ats ty #[a, b] = (Builtin.max2 a b >>= fun s => pure s) := by simp only [Builtin.max_, List.foldlM_cons, List.foldlM_nil]

attribute [local go_sem] max2_string max_two' in
theorem overlap12 (al ah bl bh : ByteArray) (w : World) :
    Calls Try.prog 12 #[.agg #[.string al, .string ah], .agg #[.string bl, .string bh]] w fun e w' => e = .returned (.bool (overlapB al ah bl bh)) ∧ Below w.heap.size w w' := by
  unfold overlapB
  have hB := Lib.hid (Below.refl w.heap.size w)
  go_enter Try.func12, Try.ntmps12
  go_wp2_with (go_at_call 10; refine (inside10 _ _ _ _).mono ?_; rintro e w' ⟨rfl, hb⟩; have hc := (bcell hb).1; have hz := hb.size; replace hB := Lib.hid (chain (w := w) hb (by repeat (first | exact hB.out | refine allocW ?_ _ | refine Below.drew ?_))); clear hb)
  all_goals (go_ret; refine ⟨ret_bool ?_, by repeat (first | exact hB.out | refine allocW ?_ _ | refine Below.drew ?_)⟩)
  all_goals (go_tidy; simp_all)

theorem overlap13 (al ah bl bh : ByteArray) (w : World) :
    Calls Try.prog 13 #[.agg #[.string al, .string ah], .agg #[.string bl, .string bh]] w fun e w' => e = .returned (.bool (overlapB al ah bl bh)) ∧ Below w.heap.size w w' := by
  have hm : maxS al bl = if Op.bytesLess al.toList bl.toList = true then bl else al := by simp [maxS, bytesLess_eq]
  have hM := Lib.hid hm
  clear hm
  unfold overlapB
  have hB := Lib.hid (Below.refl w.heap.size w)
  go_enter Try.func13, Try.ntmps13
  go_wp2_with (go_at_call 11; refine (inside11 _ _ _ _).mono ?_; rintro e w' ⟨rfl, hb⟩; have hc := (bcell hb).1; have hz := hb.size; replace hB := Lib.hid (chain (w := w) hb (by repeat (first | exact hB.out | refine allocW ?_ _ | refine Below.drew ?_))); clear hb)
  all_goals (go_ret; refine ⟨ret_bool ?_, by repeat (first | exact hB.out | refine allocW ?_ _ | refine Below.drew ?_)⟩)
  all_goals (have hm := hM.out; clear hM; go_tidy; simp_all)

end Go.Proofs.Ytledfhoifdihhaa
