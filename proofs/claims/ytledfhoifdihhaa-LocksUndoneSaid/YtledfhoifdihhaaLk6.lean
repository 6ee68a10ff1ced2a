/- Deleting from the table's maps. -/
import Derived.Test.YtledfhoifdihhaaLk5
namespace Go.Proofs.Ytledfhoifdihhaa
open Go.RowKit
set_option linter.unusedVariables false
set_option linter.unusedSimpArgs false

theorem erase_filter {α β : Type} [DecidableEq β] (f : α → β) : ∀ (l : List α) (j : Nat) (a : α), (l.map f).Nodup → l[j]? = some a → l.eraseIdx j = l.filter (fun p => decide (f p ≠ f a))
  | [], j, a, _, h => by simp at h
  | y :: r, 0, a, hn, h => by
    simp at h; subst h
    rw [List.map_cons, List.nodup_cons] at hn
    have : r.filter (fun p => decide (f p ≠ f y)) = r := List.filter_eq_self.2 fun p hp => by
      have : f p ≠ f y := fun e => hn.1 (List.mem_map.2 ⟨p, hp, e⟩)
      simp [this]
    simp only [List.eraseIdx_cons_zero, List.filter_cons, ne_eq, not_true_eq_false, decide_false, Bool.false_eq_true, if_false]
    exact this.symm
  | y :: r, j + 1, a, hn, h => by
    rw [List.map_cons, List.nodup_cons] at hn
    have ha : r[j]? = some a := by simpa using h
    have hya : f y ≠ f a := fun e => hn.1 (List.mem_map.2 ⟨a, List.mem_of_getElem? ha, e.symm⟩)
    rw [List.eraseIdx_cons_succ, erase_filter f r j a hn.2 ha, List.filter_cons]
    simp [hya]

def delI (I : List (ByteArray × Txn)) (x : Wr) : List (ByteArray × Txn) := I.filter fun p => decide (p.1 ≠ x.key)
theorem del_ints {w : World} {ia : Nat} {ty : TypeId} {I : List (ByteArray × Txn)} {x : Wr} (hm : MapOf w ia (intKV I)) :
    ∃ w', (Builtin.delete_ #[74, 9] ty #[.map (some ia), .string x.key]).run Try.prog w = .ok (.tuple #[]) w' ∧ MapOf w' ia (intKV (delI I x)) ∧ Kp [ia] w w' ∧ w'.heap.size = w.heap.size := by
  have hks : ∀ p ∈ intKV I, isStr p.1 := fun p hp => by obtain ⟨e, _, rfl⟩ := List.mem_map.1 hp; exact ⟨_, rfl⟩
  obtain ⟨w', kv', h1, h2, h3, h4, h5⟩ := run_delete (ty := ty) keyT9 Try.underlying74 hm hks (x := .string x.key) ⟨_, rfl⟩
  refine ⟨w', h1, ?_, h3, h4⟩
  have hnd := keys_nodup hm
  rcases h5 with ⟨hno, rfl⟩ | ⟨j, u, hj, rfl⟩
  · have : delI I x = I := List.filter_eq_self.2 fun p hp => by
      have := hno _ (List.mem_map.2 ⟨p, hp, rfl⟩)
      simpa using this
    rw [this]
    exact h2
  · rw [List.getElem?_map, Option.map_eq_some_iff] at hj
    obtain ⟨p, hp, he⟩ := hj
    have hk : p.1 = x.key := by simpa using congrArg Prod.fst he
    have : intKV (delI I x) = (intKV I).eraseIdx j := by
      have h0 : delI I x = I.eraseIdx j := by
        rw [erase_filter (·.1) I j p hnd hp, hk]
        rfl
      rw [h0]
      unfold intKV
      rw [ChangeMaps.map_eraseIdx]
    rw [this]
    exact h2

def relL (L : List Hd) (t : Txn) : List Hd := L.filter fun h => decide (h.txn ≠ t)
theorem del_held {w : World} {ha : Nat} {ty : TypeId} {kv : List (Value × Value)} {L : List Hd} {t : Txn} (hm : MapOf w ha kv) (hk : HeldKV w kv L) (hnd : (L.map (·.txn)).Nodup) :
    ∃ w' kv', (Builtin.delete_ #[73, 40] ty #[.map (some ha), txnV t]).run Try.prog w = .ok (.tuple #[]) w' ∧ MapOf w' ha kv' ∧ HeldKV w kv' (relL L t) ∧ Kp [ha] w w' ∧ w'.heap.size = w.heap.size := by
  obtain ⟨w', kv', h1, h2, h3, h4, h5⟩ := run_delete (ty := ty) keyT40 Try.underlying73 hm hk.keys (x := txnV t) ⟨_, rfl⟩
  refine ⟨w', kv', h1, h2, ?_, h3, h4⟩
  rcases h5 with ⟨hno, rfl⟩ | ⟨j, u, hj, rfl⟩
  · have : relL L t = L := List.filter_eq_self.2 fun h hh => by
      obtain ⟨p, hp, h1, _⟩ := hk.mem hh
      have := hno p hp
      simp only [decide_eq_true_eq]
      intro e
      exact this (by rw [h1, e])
    rw [this]
    exact hk
  · have hjl : j < L.length := by rw [← hk.1]; exact (List.getElem?_eq_some_iff.1 hj).1
    have hLj : L[j]? = some L[j] := List.getElem?_eq_getElem hjl
    have htj : L[j].txn = t := by
      have := (hk.2 j _ _ hj hLj).1
      exact (txnV_inj this).symm
    have h0 : relL L t = L.eraseIdx j := by
      rw [erase_filter (·.txn) L j L[j] hnd hLj, htj]
      rfl
    rw [h0]
    refine ⟨by rw [List.length_eraseIdx, List.length_eraseIdx, hk.1], fun i p h hp hh => ?_⟩
    rw [List.getElem?_eraseIdx] at hp hh
    split at hp
    · rename_i hi
      rw [if_pos hi] at hh
      exact hk.2 i p h hp hh
    · rename_i hi
      rw [if_neg hi] at hh
      exact hk.2 (i + 1) p h hp hh
end Go.Proofs.Ytledfhoifdihhaa
