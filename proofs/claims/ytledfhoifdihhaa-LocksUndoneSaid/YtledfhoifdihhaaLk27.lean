/- LocksUndone: plain facts. -/
import Derived.Test.YtledfhoifdihhaaLk26
import Derived.Test.YtledfhoifdihhaaLocks2
namespace Go.Proofs.Ytledfhoifdihhaa
open Go.RowKit
set_option linter.unusedVariables false
set_option linter.unusedSimpArgs false

abbrev b0 : ByteArray := { data := #[0] }
abbrev otherT (t : Txn) : Txn := ⟨(t.c + 1) % 4294967296, t.s⟩
theorem other_ne (t : Txn) : t ≠ otherT t := by
  intro h
  have : t.c = (t.c + 1) % 4294967296 := congrArg Txn.c h
  omega
theorem conf_of {L : List Hd} {h : Hd} {o : Txn} {r : List Sp} {x : List Wr} (hm : h ∈ L) (hne : h.txn ≠ o) (hh : meetB r x h = true) : conflictB L o r x = true :=
  List.any_eq_true.2 ⟨h, hm, by simp [hne, hh]⟩
theorem conf_point {L : List Hd} {h : Hd} {o : Txn} {x : Wr} (hm : h ∈ L) (hne : h.txn ≠ o) (hx : x ∈ h.writes) : conflictB L o [⟨x.key, x.key ++ b0⟩] [] = true := by
  refine conf_of hm hne ?_
  unfold meetB
  have : intoB h.writes [⟨x.key, x.key ++ b0⟩] = true := List.any_eq_true.2 ⟨x, hx, by simpa using inside_point x.key⟩
  rw [this]
  simp
theorem conf_key {L : List Hd} {h : Hd} {o : Txn} {x : Wr} (hm : h ∈ L) (hne : h.txn ≠ o) (hx : x ∈ h.writes) : conflictB L o [] [x] = true := by
  refine conf_of hm hne ?_
  unfold meetB commonB
  have : h.writes.any (fun y => decide (x.key = y.key)) = true := List.any_eq_true.2 ⟨x, hx, by simp⟩
  simp [this]
theorem conf_read {L : List Hd} {h : Hd} {o : Txn} {s : Sp} {x : Wr} (hm : h ∈ L) (hne : h.txn ≠ o) (hs : s ∈ h.reads) (hx : insideB x.key s.lo s.hi = true) : conflictB L o [] [x] = true := by
  refine conf_of hm hne ?_
  unfold meetB
  have : intoB [x] h.reads = true := by
    unfold intoB
    simp only [List.any_cons, List.any_nil, Bool.or_false]
    exact List.any_eq_true.2 ⟨s, hs, hx⟩
  rw [this]
  simp
theorem conf_self {L : List Hd} {h : Hd} (hc : conflictB L h.txn h.reads h.writes = false) : conflictB (L ++ [h]) h.txn h.reads h.writes = false := by
  unfold conflictB at hc ⊢
  rw [List.any_append, hc]
  simp
theorem find_held {L : List Hd} {h : Hd} : (findH (L ++ [h]) h.txn).isSome = true := by
  unfold findH
  rw [List.find?_isSome]
  exact ⟨h, by simp, by simp⟩
theorem rel_held {L : List Hd} {h : Hd} (hf : findH L h.txn = none) : relL (L ++ [h]) h.txn = L := by
  have := relL_none hf
  unfold relL at this ⊢
  rw [List.filter_append, this]
  simp
theorem slOf_one {α : Type} {n : Nat} {f : α → List Value} (hn : ∀ x, (f x).length = n) (hs : n ≤ 10) (w : World) (x : α) (e b : Nat) (hb : b = w.heap.size) : SlOf (w.alloc (.cells (f x).toArray e)) n f (.slice (some ⟨b, 0, none⟩) 1 1) [x] := by
  subst hb
  refine ⟨_, _, rfl, Nat.le_refl _, ⟨by simp, by simp; omega⟩, fun k y hk => ⟨_, _, rfl, fun j v hj => ?_⟩⟩
  have h0 : k = 0 := by
    have := (List.getElem?_eq_some_iff.1 hk).1
    simpa using this
  subst h0
  cases hk
  have := cells_new w (f x).toArray e (0, 0) j v (by simpa using hj)
  rw [add_none] at this
  simpa using this
theorem slOf_sp (w : World) (x : Sp) (b : Nat) (hb : b = w.heap.size) : SlOf (w.alloc (.cells #[.string x.lo, .string x.hi] 23)) 2 spC (.slice (some ⟨b, 0, none⟩) 1 1) [x] := slOf_one (f := spC) (fun _ => rfl) (by omega) w x 23 b hb
theorem slOf_wr (w : World) (x : Wr) (b : Nat) (hb : b = w.heap.size) : SlOf (w.alloc (.cells #[.string x.key, .bool x.del, .string x.val] 42)) 3 wrC (.slice (some ⟨b, 0, none⟩) 1 1) [x] := slOf_one (f := wrC) (fun _ => rfl) (by omega) w x 42 b hb
end Go.Proofs.Ytledfhoifdihhaa
