/- tries: the law's: plain facts. -/
import Derived.Test.YtledfhoifdihhaaLk19
namespace Go.Proofs.Ytledfhoifdihhaa
open Go.RowKit
set_option linter.unusedVariables false
set_option linter.unusedSimpArgs false

theorem HdsAt.kpm {S : List Nat} {w w' : World} {v : Value} {xs : List Hd} (h : HdsAt w v xs) (hb : Kp S w w') (hs : Maps S w) : HdsAt w' v xs := by
  obtain ⟨raws, h1, h2, h3⟩ := h
  exact ⟨raws, h1.kpm hb hs, h2, fun i q x hq hx => (h3 i q x hq hx).kpm hb hs⟩
theorem beforeB_asymm {a b : Txn} (h : beforeB a b = true) (h' : beforeB b a = true) : False := by
  unfold beforeB at h h'
  split at h <;> split at h' <;> simp only [decide_eq_true_eq] at h h' <;> omega
theorem allOf_uniq {L xs ys : List Hd} (h : AllOf L xs) (k : AllOf L ys) : xs = ys :=
  List.Perm.eq_of_pairwise (le := fun a b => beforeB a.txn b.txn = true) (fun a b _ _ h1 h2 => (beforeB_asymm h1 h2).elim) h.2 k.2 (h.1.trans k.1.symm)
theorem any_perm {α : Type} {l k : List α} (h : l.Perm k) (f : α → Bool) : l.any f = k.any f := by
  rw [Bool.eq_iff_iff]
  simp only [List.any_eq_true]
  exact ⟨fun ⟨x, hx, hf⟩ => ⟨x, h.mem_iff.1 hx, hf⟩, fun ⟨x, hx, hf⟩ => ⟨x, h.mem_iff.2 hx, hf⟩⟩
theorem there_eq {L xs : List Hd} (h : AllOf L xs) (t : Txn) : (xs.any fun x => decide (x.txn = t)) = (findH L t).isSome := by
  rw [any_perm h.1]
  unfold findH
  rw [Bool.eq_iff_iff, List.find?_isSome]
  simp
theorem met_eq {L xs : List Hd} (h : AllOf L xs) (g : Hd) (hf : findH L g.txn = none) : (xs.any fun x => clashB x g) = conflictB L g.txn g.reads g.writes := by
  rw [any_perm h.1]
  unfold conflictB
  rw [Bool.eq_iff_iff]
  simp only [List.any_eq_true]
  refine ⟨fun ⟨x, hx, hc⟩ => ⟨x, hx, ?_⟩, fun ⟨x, hx, hc⟩ => ⟨x, hx, ?_⟩⟩
  · have hne : x.txn ≠ g.txn := by
      have := List.find?_eq_none.1 hf x hx
      simpa using this
    rw [clash_meet, meet_symm] at hc
    simp [hne, hc]
  · rw [clash_meet, meet_symm]
    simp only [Bool.and_eq_true] at hc
    exact hc.2
theorem holdL_held {L : List Hd} {h : Hd} (hf : (findH L h.txn).isSome = true) : holdX L h = 101 ∧ holdL L h = L := by
  have : holdX L h = 101 := by unfold holdX; rw [if_pos hf]
  exact ⟨this, by unfold holdL; rw [this]; rfl⟩
theorem holdL_met {L : List Hd} {h : Hd} (hf : (findH L h.txn).isSome = false) (hc : conflictB L h.txn h.reads h.writes = true) : holdX L h = 100 ∧ holdL L h = L := by
  have : holdX L h = 100 := by unfold holdX; rw [if_neg (by simp [hf]), if_pos hc]
  exact ⟨this, by unfold holdL; rw [this]; rfl⟩
theorem holdL_ok {L : List Hd} {h : Hd} (hf : (findH L h.txn).isSome = false) (hc : conflictB L h.txn h.reads h.writes = false) : holdX L h = 0 ∧ holdL L h = L ++ [h] := by
  have : holdX L h = 0 := by unfold holdX; rw [if_neg (by simp [hf]), if_neg (by simp [hc])]
  exact ⟨this, by unfold holdL; rw [this]; rfl⟩
theorem holdL_len (L : List Hd) (h : Hd) : (holdL L h).length ≤ L.length + 1 := by
  unfold holdL
  split <;> simp
theorem any_take_eq {α : Type} {xs : List α} {k : Nat} {x : α} {f : α → Bool} (h : xs[k]? = some x) : (xs.take (k + 1)).any f = ((xs.take k).any f || f x) := by
  rw [take_one h, List.any_append]; simp
end Go.Proofs.Ytledfhoifdihhaa
