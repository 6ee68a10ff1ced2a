/- The ledger: which entries may be, which agree. -/
import Derived.Test.YtpobdcdabojhcaaLed1
namespace Go.Proofs.Ytpobdcdabojhcaa
open Go.RowKit
set_option linter.unusedVariables false
set_option linter.unusedSimpArgs false

def zeroAt : Stamp := ⟨0, 0, 0⟩
def mayB (e : Ent) : Bool := if e.oc = 2 then decide (e.at_ = zeroAt) else decide (e.oc = 1)
def agreeB (a b : Ent) : Bool := decide (a.oc = b.oc) && decide (a.at_ = b.at_)
theorem stamp_eq (a b : Stamp) : decide (a = b) = (decide (a.w = b.w) && (decide (a.l = b.l) && decide (a.n = b.n))) := by
  obtain ⟨a1, a2, a3⟩ := a
  obtain ⟨b1, b2, b3⟩ := b
  simp [Stamp.mk.injEq]
theorem txn_eq (a b : Txn) : decide (a = b) = (decide (a.c = b.c) && decide (a.s = b.s)) := by
  obtain ⟨a1, a2⟩ := a
  obtain ⟨b1, b2⟩ := b
  simp [Txn.mk.injEq]
theorem ent_eq (a b : Ent) : decide (a = b) = (decide (a.txn = b.txn) && (decide (a.home = b.home) && (decide (a.oc = b.oc) && decide (a.at_ = b.at_)))) := by
  obtain ⟨a1, a2, a3, a4⟩ := a
  obtain ⟨b1, b2, b3, b4⟩ := b
  simp [Ent.mk.injEq]

theorem mayBe28 (e : Ent) (w : World) : Calls Try.prog 28 #[entV e] w fun r w' => r = .returned (.bool (mayB e)) ∧ Below w.heap.size w w' := by
  have hB := Lib.hid (Below.refl w.heap.size w)
  go_enter Try.func28, Try.ntmps28
  go_wp2_with fail
  all_goals (go_ret; refine ⟨ret_bool ?_, by repeat (first | with_reducible exact hB.out | with_reducible exact Below.refl _ _ | with_reducible assumption | with_reducible refine allocW ?_ _ | with_reducible refine Below.drew ?_ | with_reducible refine drewNW ?_ _ | ((with_reducible refine Below.setCell ?_ ?_ _); rotate_left 1; focus (first | (simp; done) | (simp; omega))))⟩)
  all_goals (unfold mayB; simp only [stamp_eq]; (try simp only [zeroAt]); grind)

theorem mayBe30 (e : Ent) (w : World) : Calls Try.prog 30 #[entV e] w fun r w' => r = .returned (.bool (mayB e)) ∧ Below w.heap.size w w' := by
  have hB := Lib.hid (Below.refl w.heap.size w)
  go_enter Try.func30, Try.ntmps30
  go_wp2_with fail
  all_goals (go_ret; refine ⟨ret_bool ?_, by repeat (first | with_reducible exact hB.out | with_reducible exact Below.refl _ _ | with_reducible assumption | with_reducible refine allocW ?_ _ | with_reducible refine Below.drew ?_ | with_reducible refine drewNW ?_ _ | ((with_reducible refine Below.setCell ?_ ?_ _); rotate_left 1; focus (first | (simp; done) | (simp; omega))))⟩)
  all_goals (unfold mayB; simp only [stamp_eq]; (try simp only [zeroAt]); grind)

theorem agree29 (a b : Ent) (w : World) : Calls Try.prog 29 #[entV a, entV b] w fun r w' => r = .returned (.bool (agreeB a b)) ∧ Below w.heap.size w w' := by
  have hB := Lib.hid (Below.refl w.heap.size w)
  go_enter Try.func29, Try.ntmps29
  go_wp2_with fail
  all_goals (go_ret; refine ⟨ret_bool ?_, by repeat (first | with_reducible exact hB.out | with_reducible exact Below.refl _ _ | with_reducible assumption | with_reducible refine allocW ?_ _ | with_reducible refine Below.drew ?_ | with_reducible refine drewNW ?_ _ | ((with_reducible refine Below.setCell ?_ ?_ _); rotate_left 1; focus (first | (simp; done) | (simp; omega))))⟩)
  all_goals (unfold agreeB; simp only [stamp_eq]; (try simp only [zeroAt]); grind)

theorem agree16 (a b : Ent) (w : World) : Calls Try.prog 16 #[entV a, entV b] w fun r w' => r = .returned (.bool (agreeB a b)) ∧ Below w.heap.size w w' := by
  have hB := Lib.hid (Below.refl w.heap.size w)
  go_enter Try.func16, Try.ntmps16
  go_wp2_with fail
  all_goals (go_ret; refine ⟨ret_bool ?_, by repeat (first | with_reducible exact hB.out | with_reducible exact Below.refl _ _ | with_reducible assumption | with_reducible refine allocW ?_ _ | with_reducible refine Below.drew ?_ | with_reducible refine drewNW ?_ _ | ((with_reducible refine Below.setCell ?_ ?_ _); rotate_left 1; focus (first | (simp; done) | (simp; omega))))⟩)
  all_goals (unfold agreeB; simp only [stamp_eq]; (try simp only [zeroAt]); grind)


theorem run_equal_ent (a b : Ent) (w : World) : (Op.equal 33 (entV a) (entV b)).run Try.prog w = .ok (decide (a = b)) w := by
  have hS : Try.prog.underlying 33 = some (.struct (Try.prog.fieldsOf 33)) := by kernel_rfl
  have hp : Try.prog.stoodInHeld 33 = false := by kernel_rfl
  unfold Op.equal Op.maxDepth
  rw [show (10000 : Nat) = 9999 + 1 from rfl, run_equalIn_agg w 9999 33 _ _ hS hp]
  simp only [Program.fieldsOf, Try.underlying33]
  rw [ent_eq, txn_eq, stamp_eq]
  go_simp
  (repeat' split) <;> simp_all
theorem run_equal_txn' (a b : Txn) (w : World) : (Op.equal 27 (txnV a) (txnV b)).run Try.prog w = .ok (decide (a = b)) w := by
  rw [run_equal_txn, txn_eq]
  rfl
end Go.Proofs.Ytpobdcdabojhcaa
