/- LocksApart: the walk. -/
import Derived.Test.YtledfhoifdihhaaLk21
import Derived.Test.YtledfhoifdihhaaLk22
import Derived.Test.YtledfhoifdihhaaLk23
namespace Go.Proofs.Ytledfhoifdihhaa
open Go.RowKit
set_option linter.unusedVariables false
set_option linter.unusedSimpArgs false

theorem HdsAt.at2 {w : World} {A : Option Addr} {len cap : Nat} {xs : List Hd} (h : HdsAt w (.slice A len cap) xs) {i : Nat} {x : Hd} (hi : xs[i]? = some x) :
    ∃ b o Ar cr Aw cw, A = some ⟨b, o, none⟩ ∧ CellsAt w b (o + i * 8) (hdC x (.slice Ar x.reads.length cr) (.slice Aw x.writes.length cw)).toList ∧ SlOf w 2 spC (.slice Ar x.reads.length cr) x.reads ∧ SlOf w 3 wrC (.slice Aw x.writes.length cw) x.writes := by
  obtain ⟨b, o, cap', Ar, cr, Aw, cw, he, h1, h2, h3⟩ := h.at hi
  simp only [Value.slice.injEq] at he
  exact ⟨b, o, Ar, cr, Aw, cw, he.1, h1, h2, h3⟩
theorem relL_none {L : List Hd} {t : Txn} (hf : findH L t = none) : relL L t = L := by
  unfold relL
  rw [List.filter_eq_self]
  intro h hh
  have := List.find?_eq_none.1 hf h hh
  simpa using this
theorem relL_len {L : List Hd} {t : Txn} {g : Hd} (hn : (L.map (·.txn)).Nodup) (hf : findH L t = some g) : L.length = (relL L t).length + 1 := by
  obtain ⟨hm, rfl⟩ := findH_mem hf
  obtain ⟨j, hj, he⟩ := List.mem_iff_getElem.1 hm
  have := erase_filter (fun h : Hd => h.txn) L j g hn (by rw [List.getElem?_eq_getElem hj, he])
  unfold relL
  rw [← this, List.length_eraseIdx, if_pos hj]
  omega
theorem rel_stands {L xs ys : List Hd} {t : Txn} (hx : AllOf L xs) (hy : AllOf (relL L t) ys) {x : Hd} (hm : x ∈ xs) : (ys.any fun y => decide (y = x)) = !decide (x.txn = t) := by
  rw [any_perm hy.1, Bool.eq_iff_iff]
  simp only [List.any_eq_true, decide_eq_true_eq, Bool.not_eq_true', decide_eq_false_iff_not]
  constructor
  · rintro ⟨y, hy, rfl⟩
    unfold relL at hy
    simpa using (List.mem_filter.1 hy).2
  · intro hne
    exact ⟨x, List.mem_filter.2 ⟨hx.1.mem_iff.1 hm, by simpa using hne⟩, rfl⟩
theorem rel_le (L : List Hd) (t : Txn) : (relL L t).length ≤ L.length := List.length_filter_le _ _
def firstHd : Hd := ⟨⟨1, 1⟩, 0, ⟨0, 0, 0⟩, [], [⟨{ data := #[107] }, false, { data := #[] }⟩]⟩
theorem hdv1 (w : World) : HdV (w.alloc (.cells #[.string { data := #[107] }, .bool false, .string { data := #[] }] 42)) (.agg #[.int .u32 1, .int .u32 1, .int .u32 0, .int .u64 0, .int .u32 0, .int .u32 0, .slice none 0 0, .slice (some ⟨w.heap.size, 0, none⟩) 1 1]) firstHd := by
  refine ⟨_, _, rfl, slOf_nil _ _ _, ⟨_, _, rfl, Nat.le_refl _, ⟨by simp [firstHd], by simp [firstHd]⟩, fun k x hk => ⟨_, _, rfl, fun j v hj => ?_⟩⟩⟩
  have h0 : k = 0 := by
    have := (List.getElem?_eq_some_iff.1 hk).1
    simp [firstHd] at this
    exact this
  subst h0
  cases hk
  have := cells_new w #[.string { data := #[107] }, .bool false, .string { data := #[] }] 42 (0, 0) j v (by simpa using hj)
  rw [add_none] at this
  simpa using this
theorem txn_parts (x t : Txn) : (x.c ≠ t.c ∧ decide (x = t) = false) ∨ ((x.c = t.c ∧ x.s ≠ t.s) ∧ decide (x = t) = false) ∨ ((x.c = t.c ∧ x.s = t.s) ∧ decide (x = t) = true) := by
  rcases txn_cases x t with h1 | h1 | h1
  · exact .inl ⟨h1, decide_eq_false fun e => h1 (by rw [e])⟩
  · exact .inr (.inl ⟨h1, decide_eq_false fun e => h1.2 (by rw [e])⟩)
  · exact .inr (.inr ⟨⟨by rw [h1], by rw [h1]⟩, decide_eq_true h1⟩)
end Go.Proofs.Ytledfhoifdihhaa
