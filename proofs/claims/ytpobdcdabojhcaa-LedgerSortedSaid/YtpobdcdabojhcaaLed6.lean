/- The ledger: what is laid down first stands. -/
import Derived.Test.YtpobdcdabojhcaaLed5
set_option linter.unusedSimpArgs false
set_option linter.unusedVariables false
namespace Go.Proofs.Ytpobdcdabojhcaa

def stands (xs : List Ent) : List Ent := xs.foldl lay []
theorem stands_snoc (xs : List Ent) (e : Ent) : stands (xs ++ [e]) = lay (stands xs) e := by simp [stands]
theorem take_succ {xs : List Ent} {k : Nat} {x : Ent} (h : xs[k]? = some x) : xs.take (k + 1) = xs.take k ++ [x] := by
  rw [List.take_add_one, h]; rfl
theorem stands_take {xs : List Ent} {k : Nat} {x : Ent} (h : xs[k]? = some x) : stands (xs.take (k + 1)) = lay (stands (xs.take k)) x := by rw [take_succ h, stands_snoc]

theorem find_snoc (L : List Ent) (e : Ent) (t : Txn) : find (L ++ [e]) t = match find L t with | some f => some f | none => if e.txn = t then some e else none := by
  unfold find
  rw [List.find?_append]
  cases L.find? (fun e => decide (e.txn = t)) with
  | some f => rfl
  | none => by_cases h : e.txn = t <;> simp [h]
theorem find_lay (L : List Ent) (e : Ent) (t : Txn) : find (lay L e) t = match find L t with | some f => some f | none => if mayB e = true ∧ e.txn = t then some e else none := by
  unfold lay
  split
  · rename_i h
    rw [find_snoc]
    cases find L t with
    | some f => rfl
    | none => simp [h.1]
  · rename_i h
    cases hf : find L t with
    | some f => rfl
    | none =>
      simp only
      rw [if_neg]
      rintro ⟨h1, rfl⟩
      exact h ⟨h1, hf⟩
theorem find_stands (t : Txn) : ∀ (n : Nat) (xs : List Ent), xs.length = n → find (stands xs) t = find (xs.filter mayB) t := by
  intro n
  induction n with
  | zero => intro xs h; rw [List.eq_nil_of_length_eq_zero h]; rfl
  | succ n ih =>
    intro xs h
    obtain ⟨ys, e, rfl⟩ : ∃ ys e, xs = ys ++ [e] := ⟨xs.dropLast, xs.getLast (by intro h0; subst h0; simp at h), (List.dropLast_concat_getLast _).symm⟩
    have hl : ys.length = n := by simpa using h
    rw [stands_snoc, find_lay, ih ys hl, List.filter_append]
    cases hm : mayB e
    · have : [e].filter mayB = [] := by simp [hm]
      rw [this, List.append_nil]
      cases find (ys.filter mayB) t <;> simp
    · have : [e].filter mayB = [e] := by simp [hm]
      rw [this, find_snoc]
      cases h0 : find (ys.filter mayB) t <;> simp [h0]
theorem first_stands (xs : List Ent) (t : Txn) : firstE xs t = outc (stands xs) t := by
  unfold firstE outc
  rw [find_stands t _ xs rfl]
theorem agree_symm (a b : Ent) : agreeB a b = agreeB b a := by
  unfold agreeB
  rw [show decide (a.oc = b.oc) = decide (b.oc = a.oc) by simp [eq_comm], show decide (a.at_ = b.at_) = decide (b.at_ = a.at_) by simp [eq_comm]]
theorem agree_self (a : Ent) : agreeB a a = true := by simp [agreeB]

theorem dec_ok {xs : List Ent} {k : Nat} {x : Ent} (h : xs[k]? = some x) : decidedB xs k x (decA (stands (xs.take k)) x).1 (decA (stands (xs.take k)) x).2 = true := by
  unfold decidedB decA
  cases hm : mayB x
  · simp
  · simp only [if_true]
    rw [first_stands, stands_take h]
    unfold outc
    rw [find_lay]
    cases hf : find (stands (xs.take k)) x.txn with
    | none => simp [hm, agree_self]
    | some f =>
      simp only
      rw [agree_symm f x]
      by_cases ha : agreeB x f = true
      · simp [ha]
      · simp [ha]
def one11 : Ent := ⟨⟨1, 1⟩, 0, 2, ⟨0, 0, 0⟩⟩
theorem may_one : mayB one11 = true := by decide
end Go.Proofs.Ytpobdcdabojhcaa
