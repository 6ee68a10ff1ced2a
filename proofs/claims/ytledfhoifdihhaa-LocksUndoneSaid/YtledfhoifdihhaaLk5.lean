/- What Hold does to what is held: the plain law. -/
import Derived.Test.YtledfhoifdihhaaLk4
namespace Go.Proofs.Ytledfhoifdihhaa
set_option linter.unusedVariables false
set_option linter.unusedSimpArgs false

theorem fold_mem2 (t : Txn) : ∀ (ws : List Wr) (I : List (ByteArray × Txn)) p, p ∈ ws.foldl (setI t) I → p ∈ I ∨ (p.2 = t ∧ ∃ x ∈ ws, x.key = p.1)
  | [], I, p, h => .inl h
  | x :: r, I, p, h => by
    rcases fold_mem2 t r (setI t I x) p h with h1 | ⟨h1, y, hy, h2⟩
    · unfold setI at h1
      split at h1
      · exact .inl h1
      · rcases List.mem_append.1 h1 with h2 | h2
        · exact .inl h2
        · rw [List.mem_singleton.1 h2]; exact .inr ⟨rfl, x, by simp, rfl⟩
    · exact .inr ⟨h1, y, by simp [hy], h2⟩
theorem setI_sub (t : Txn) (I : List (ByteArray × Txn)) (x : Wr) : ∀ p ∈ I, p ∈ setI t I x := fun p hp => by
  unfold setI
  split
  · exact hp
  · exact List.mem_append_left _ hp
theorem fold_sub (t : Txn) : ∀ (ws : List Wr) (I : List (ByteArray × Txn)) p, p ∈ I → p ∈ ws.foldl (setI t) I
  | [], I, p, h => h
  | x :: r, I, p, h => fold_sub t r (setI t I x) p (setI_sub t I x p h)
theorem setI_has (t : Txn) (I : List (ByteArray × Txn)) (x : Wr) : ∃ u, (x.key, u) ∈ setI t I x := by
  unfold setI
  cases hf : findI I x.key with
  | none => exact ⟨t, by simp⟩
  | some u => exact ⟨u, by simpa using findI_mem hf⟩
theorem fold_has (t : Txn) : ∀ (ws : List Wr) (I : List (ByteArray × Txn)) x, x ∈ ws → ∃ u, (x.key, u) ∈ ws.foldl (setI t) I
  | y :: r, I, x, h => by
    rcases List.mem_cons.1 h with rfl | h
    · obtain ⟨u, hu⟩ := setI_has t I x
      exact ⟨u, fold_sub t r _ _ hu⟩
    · exact fold_has t r _ x h
theorem key_uniq {I : List (ByteArray × Txn)} (hnd : (I.map (·.1)).Nodup) {k : ByteArray} {u v : Txn} (h1 : (k, u) ∈ I) (h2 : (k, v) ∈ I) : u = v := by
  obtain ⟨i, hi, e1⟩ := List.mem_iff_getElem.1 h1
  obtain ⟨j, hj, e2⟩ := List.mem_iff_getElem.1 h2
  have hij : i = j := by
    refine (List.getElem_inj hnd (h₀ := by simpa using hi) (h₁ := by simpa using hj)).1 ?_
    simp [e1, e2]
  subst hij
  rw [e1] at e2
  exact (Prod.mk.injEq .. ▸ e2 : _ ∧ _).2

theorem common_symm (a b : List Wr) : commonB a b = commonB b a := by
  rw [Bool.eq_iff_iff]
  simp only [commonB, List.any_eq_true, decide_eq_true_eq]
  exact ⟨fun ⟨x, hx, y, hy, h⟩ => ⟨y, hy, x, hx, h.symm⟩, fun ⟨x, hx, y, hy, h⟩ => ⟨y, hy, x, hx, h.symm⟩⟩
theorem meet_symm (a b : Hd) : meetB a.reads a.writes b = meetB b.reads b.writes a := by
  unfold meetB
  rw [common_symm a.writes b.writes]
  cases commonB b.writes a.writes <;> cases intoB a.writes b.reads <;> cases intoB b.writes a.reads <;> rfl

theorem good_hold {L : List Hd} {I : List (ByteArray × Txn)} (hG : Good L I) (hnd : (I.map (·.1)).Nodup) (h : Hd) : Good (holdL L h) (holdI L I h) := by
  unfold holdL holdI
  by_cases hz : holdX L h = 0
  · rw [if_pos hz, if_pos hz]
    have hf : findH L h.txn = none := by
      unfold holdX at hz
      cases hf : findH L h.txn with
      | none => rfl
      | some g => simp [hf] at hz
    have hcf : conflictB L h.txn h.reads h.writes = false := by
      unfold holdX at hz
      cases hc : conflictB L h.txn h.reads h.writes with
      | false => rfl
      | true => simp [hf, hc] at hz
    have hno : h.writes.any (intB I h.txn) = false := by
      have h1 := conflict_eq hG hnd h.txn h.reads h.writes
      rw [hcf] at h1
      exact (Bool.or_eq_false_iff.1 h1.symm).1
    have hne : ∀ g ∈ L, g.txn ≠ h.txn := fun g hg he => List.find?_eq_none.1 hf g hg (by simpa using he)
    have hfree : ∀ g ∈ L, meetB h.reads h.writes g = false := fun g hg => by
      have := List.any_eq_false.1 hcf g hg
      simpa [hne g hg] using this
    refine ⟨?_, fun k t => ⟨fun hp => ?_, ?_⟩, fun g hg g' hg' hn => ?_⟩
    · rw [List.map_append, List.nodup_append]
      refine ⟨hG.nodup, by simp, fun a ha b hb => ?_⟩
      obtain ⟨g, hg, rfl⟩ := List.mem_map.1 ha
      rw [List.map_singleton, List.mem_singleton] at hb
      rw [hb]
      exact hne g hg
    · rcases fold_mem2 _ _ _ _ hp with h1 | ⟨h1, x, hx, h2⟩
      · obtain ⟨g, hg, h3⟩ := (hG.ints k t).1 h1
        exact ⟨g, by simp [hg], h3⟩
      · exact ⟨h, by simp, h1.symm, x, hx, h2⟩
    · rintro ⟨g, hg, rfl, x, hx, rfl⟩
      rcases List.mem_append.1 hg with hg | hg
      · exact fold_sub _ _ _ _ ((hG.ints _ _).2 ⟨g, hg, rfl, x, hx, rfl⟩)
      · have e := List.mem_singleton.1 hg
        rw [e] at hx ⊢
        obtain ⟨u, hu⟩ := fold_has h.txn h.writes I x hx
        have huh : u = h.txn := by
          rcases fold_mem2 _ _ _ _ hu with h1 | ⟨h1, _⟩
          · have := List.any_eq_false.1 hno x hx
            unfold intB at this
            cases hfi : findI I x.key with
            | none => exact absurd h1 (findI_none hfi u)
            | some v =>
              rw [hfi] at this
              have hv := key_uniq hnd h1 (findI_mem hfi)
              rw [hv]
              simpa using this
          · exact h1
        rw [huh] at hu
        exact hu
    · rcases List.mem_append.1 hg with h1 | h1 <;> rcases List.mem_append.1 hg' with h2 | h2
      · exact hG.apart g h1 g' h2 hn
      · rw [List.mem_singleton.1 h2, meet_symm]
        exact hfree g h1
      · rw [List.mem_singleton.1 h1]
        exact hfree g' h2
      · rw [List.mem_singleton.1 h1, List.mem_singleton.1 h2] at hn
        exact absurd rfl hn
  · rw [if_neg hz, if_neg hz]
    exact hG
end Go.Proofs.Ytledfhoifdihhaa
