/- What Release does to what is held: the plain law. -/
import Derived.Test.YtledfhoifdihhaaLk7
namespace Go.Proofs.Ytledfhoifdihhaa
set_option linter.unusedVariables false
set_option linter.unusedSimpArgs false

theorem fold_del : ∀ (ws : List Wr) (I : List (ByteArray × Txn)) p, p ∈ ws.foldl delI I ↔ p ∈ I ∧ ∀ x ∈ ws, p.1 ≠ x.key
  | [], I, p => by simp
  | x :: r, I, p => by
    rw [List.foldl_cons, fold_del r (delI I x) p]
    unfold delI
    simp only [List.mem_filter, decide_eq_true_eq, List.mem_cons, forall_eq_or_imp]
    exact ⟨fun ⟨⟨h1, h2⟩, h3⟩ => ⟨h1, h2, h3⟩, fun ⟨h1, h2, h3⟩ => ⟨⟨h1, h2⟩, h3⟩⟩

theorem good_release {L : List Hd} {I : List (ByteArray × Txn)} (hG : Good L I) (t : Txn) : Good (relL L t) (relI L I t) := by
  refine ⟨List.Nodup.sublist (List.Sublist.map _ List.filter_sublist) hG.nodup, fun k u => ?_, fun h hh h' hh' hn => hG.apart h (List.mem_filter.1 hh).1 h' (List.mem_filter.1 hh').1 hn⟩
  unfold relI
  rw [fold_del]
  have key : ∀ h ∈ L, h.txn ≠ t → ∀ y ∈ ((findH L t).getD Hd.zero).writes, ∀ x ∈ h.writes, x.key ≠ y.key := by
    intro h hh hn y hy x hx he
    cases hf : findH L t with
    | none => rw [hf] at hy; simp [Hd.zero] at hy
    | some g =>
      rw [hf] at hy
      obtain ⟨hg, hgt⟩ := findH_mem hf
      have := hG.apart h hh g hg (by rw [hgt]; exact hn)
      unfold meetB at this
      have hc : commonB h.writes g.writes = true := List.any_eq_true.2 ⟨x, hx, List.any_eq_true.2 ⟨y, hy, by simpa using he⟩⟩
      rw [hc] at this
      simp at this
  constructor
  · rintro ⟨h1, h2⟩
    obtain ⟨h, hh, rfl, x, hx, rfl⟩ := (hG.ints k u).1 h1
    refine ⟨h, List.mem_filter.2 ⟨hh, ?_⟩, rfl, x, hx, rfl⟩
    simp only [decide_eq_true_eq]
    intro ht
    cases hf : findH L t with
    | none => exact List.find?_eq_none.1 hf h hh (by simpa using ht)
    | some g =>
      obtain ⟨hg, hgt⟩ := findH_mem hf
      have e := txn_uniq hG.nodup hh hg (ht.trans hgt.symm)
      rw [hf] at h2
      exact h2 x (by rw [← e]; exact hx) rfl
  · rintro ⟨h, hh, rfl, x, hx, rfl⟩
    obtain ⟨h1, h2⟩ := List.mem_filter.1 hh
    have hn : h.txn ≠ t := by simpa using h2
    exact ⟨(hG.ints _ _).2 ⟨h, h1, rfl, x, hx, rfl⟩, fun y hy => key h h1 hn y hy x hx⟩
end Go.Proofs.Ytledfhoifdihhaa
