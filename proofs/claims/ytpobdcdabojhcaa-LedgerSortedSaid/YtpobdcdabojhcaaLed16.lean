/- LedgerSorted: plain facts. -/
import Derived.Test.YtpobdcdabojhcaaLed15
namespace Go.Proofs.Ytpobdcdabojhcaa
open Go.RowKit
set_option linter.unusedVariables false
set_option linter.unusedSimpArgs false

theorem lay_nodup {L : List Ent} (hn : (L.map (·.txn)).Nodup) (e : Ent) : ((lay L e).map (·.txn)).Nodup := by
  unfold lay
  split
  · rename_i h
    rw [List.map_append, List.nodup_append]
    refine ⟨hn, by simp, fun a ha b hb => ?_⟩
    obtain ⟨x, hx, rfl⟩ := List.mem_map.1 ha
    simp only [List.map_cons, List.map_nil, List.mem_singleton] at hb
    subst hb
    have := List.find?_eq_none.1 h.2 x hx
    simpa using this
  · exact hn
theorem lay_len (L : List Ent) (e : Ent) : (lay L e).length ≤ L.length + 1 := by
  unfold lay
  split <;> simp
theorem lay_mem {L : List Ent} {x : Ent} (h : x ∈ L) (e : Ent) : x ∈ lay L e := by
  unfold lay
  split
  · simp [h]
  · exact h
theorem uniq {L : List Ent} (hn : (L.map (·.txn)).Nodup) {a b : Ent} (ha : a ∈ L) (hb : b ∈ L) (he : a.txn = b.txn) : a = b := by
  obtain ⟨i, hi, rfl⟩ := List.mem_iff_getElem.1 ha
  obtain ⟨j, hj, rfl⟩ := List.mem_iff_getElem.1 hb
  have : i = j := by
    refine (List.getElem_inj hn (h₀ := by simpa using hi) (h₁ := by simpa using hj)).1 ?_
    simpa using he
  subst this
  rfl
theorem outc_mem {L : List Ent} (hn : (L.map (·.txn)).Nodup) {e : Ent} (h : e ∈ L) : outc L e.txn = (e, true) := by
  unfold outc find
  cases hf : L.find? (fun x => decide (x.txn = e.txn)) with
  | none =>
    have := List.find?_eq_none.1 hf e h
    simp at this
  | some g =>
    have hg : g.txn = e.txn := by simpa using List.find?_some hf
    rw [uniq hn (List.mem_of_find?_eq_some hf) h hg]
theorem outc_true {L : List Ent} {t : Txn} {f : Ent} (h : outc L t = (f, true)) : f ∈ L := by
  unfold outc find at h
  cases hf : L.find? (fun x => decide (x.txn = t)) with
  | none => rw [hf] at h; simp at h
  | some g =>
    rw [hf] at h
    simp at h
    rw [← h]
    exact List.mem_of_find?_eq_some hf
theorem count_one : ∀ {xs : List Ent} {e : Ent}, xs.Nodup → e ∈ xs → countB xs e = 1
  | [], e, _, h => by cases h
  | x :: r, e, hn, h => by
    unfold countB
    rw [List.countP_cons]
    rw [List.nodup_cons] at hn
    by_cases hx : x = e
    · subst hx
      have : r.countP (fun y => decide (y = x)) = 0 := by
        rw [List.countP_eq_zero]
        intro y hy
        simp only [decide_eq_true_eq]
        rintro rfl
        exact hn.1 hy
      rw [this]
      simp
    · have hm : e ∈ r := by
        rcases List.mem_cons.1 h with h | h
        · exact absurd h.symm hx
        · exact h
      have := count_one hn.2 hm
      unfold countB at this
      rw [this]
      simp [hx]
theorem nodup_of_txn {L : List Ent} (hn : (L.map (·.txn)).Nodup) : L.Nodup := nodup_of_map _ hn
abbrev oneE (home : Int) : Ent := ⟨⟨3, 1048576⟩, home, 1, ⟨5, 0, 0⟩⟩
theorem lay_one (home : Int) : lay [] (oneE home) = [oneE home] := by
  unfold lay
  rw [if_pos ⟨by simp [mayB], rfl⟩]
  rfl
def laid (home : Int) (xs : List Ent) : List Ent := xs.foldl lay [oneE home]
theorem laid_take {home : Int} {xs : List Ent} {k : Nat} {x : Ent} (h : xs[k]? = some x) : laid home (xs.take (k + 1)) = lay (laid home (xs.take k)) x := by
  unfold laid
  rw [take_succ h, List.foldl_append]
  rfl
theorem laid_facts (home : Int) : ∀ xs : List Ent, ((laid home xs).map (·.txn)).Nodup ∧ oneE home ∈ laid home xs ∧ (laid home xs).length ≤ xs.length + 1 := by
  intro xs
  suffices h : ∀ (xs L : List Ent), (L.map (·.txn)).Nodup → oneE home ∈ L → ((xs.foldl lay L).map (·.txn)).Nodup ∧ oneE home ∈ xs.foldl lay L ∧ (xs.foldl lay L).length ≤ L.length + xs.length by
    have := h xs [oneE home] (by simp) (by simp)
    refine ⟨this.1, this.2.1, ?_⟩
    have h2 := this.2.2
    simp only [List.length_singleton] at h2
    unfold laid
    omega
  intro xs
  induction xs with
  | nil => intro L h1 h2; exact ⟨h1, h2, by simp⟩
  | cons x r ih =>
    intro L h1 h2
    have := ih (lay L x) (lay_nodup h1 x) (lay_mem h2 x)
    refine ⟨this.1, this.2.1, ?_⟩
    have h3 := this.2.2
    have h4 := lay_len L x
    simp only [List.foldl_cons, List.length_cons]
    omega
/-- what the law asks of the lists -/
structure Told (L xs cs : List Ent) (home : Int) : Prop where
  all : ∀ e ∈ L, countB xs e = 1
  com : ∀ e ∈ L, isCom home e = true → countB cs e = 1
  len : cs.length = xs.countP (isCom home)
theorem told_of {L xs cs : List Ent} {home : Int} (hn : (L.map (·.txn)).Nodup) (hx : EntsOf L xs) (hc : ComsOf L home cs) : Told L xs cs home := by
  have hnd := nodup_of_txn hn
  have hxn : xs.Nodup := hx.1.nodup_iff.2 hnd
  have hcn : cs.Nodup := hc.1.nodup_iff.2 (List.filter_sublist.nodup hnd)
  refine ⟨fun e he => count_one hxn (hx.1.mem_iff.2 he), fun e he hi => count_one hcn (hc.1.mem_iff.2 (List.mem_filter.2 ⟨he, hi⟩)), ?_⟩
  rw [hc.1.length_eq, ← List.countP_eq_length_filter, hx.1.countP_eq]
end Go.Proofs.Ytpobdcdabojhcaa
