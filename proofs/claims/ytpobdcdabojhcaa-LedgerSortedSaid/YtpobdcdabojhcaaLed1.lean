/- The ledger: its map, Outcome and Decide. -/
import Derived.Test.YtpobdcdabojhcaaMix
import Derived.Test.YtpobdcdabojhcaaMapRange
namespace Go.Proofs.Ytpobdcdabojhcaa
open Go.RowKit
set_option linter.unusedVariables false
set_option linter.unusedSimpArgs false

/-! ### Transactions and entries as data -/
structure Txn where
  c : Int
  s : Int
deriving DecidableEq
structure Stamp where
  w : Int
  l : Int
  n : Int
deriving DecidableEq
structure Ent where
  txn : Txn
  home : Int
  oc : Int
  at_ : Stamp
deriving DecidableEq
abbrev txnV (t : Txn) : Value := .agg #[.int .u32 t.c, .int .u32 t.s]
abbrev entC (e : Ent) : Array Value := #[.int .u32 e.txn.c, .int .u32 e.txn.s, .int .u32 e.home, .int .i64 e.oc, .int .u64 e.at_.w, .int .u32 e.at_.l, .int .u32 e.at_.n]
abbrev entV (e : Ent) : Value := .agg (entC e)
def Ent.zero : Ent := ⟨⟨0, 0⟩, 0, 0, ⟨0, 0, 0⟩⟩

theorem txnV_inj {a b : Txn} (h : txnV a = txnV b) : a = b := by
  obtain ⟨c, s⟩ := a; obtain ⟨c', s'⟩ := b
  simp only [txnV, Value.agg.injEq, Array.mk.injEq, List.cons.injEq, Value.int.injEq, true_and, and_true] at h
  simp [h]

def isTxn (v : Value) : Prop := ∃ t : Txn, v = txnV t
theorem run_equal_txn (a b : Txn) (w : World) : (Op.equal 27 (txnV a) (txnV b)).run Try.prog w = .ok (a.c == b.c && a.s == b.s) w := by
  have hS : Try.prog.underlying 27 = some (.struct (Try.prog.fieldsOf 27)) := by kernel_rfl
  have hp : Try.prog.stoodInHeld 27 = false := by kernel_rfl
  have u25 := Try.underlying25
  have a25 := Try.isAgg25
  have z25 := Try.sizeOf25
  unfold Op.equal Op.maxDepth
  rw [show (10000 : Nat) = 9999 + 1 from rfl, run_equalIn_agg w 9999 27 _ _ hS hp]
  simp only [Program.fieldsOf, Try.underlying27]
  go_simp
  by_cases h1 : a.c = b.c <;> by_cases h2 : a.s = b.s <;> simp [h1, h2]
theorem run_check_txn (w : World) (em : Bool) (t : Txn) : (Instr.checkKey em 10000 27 (txnV t)).run Try.prog w = .ok () w := by
  cases em <;> kernel_rfl
theorem keyT27 : KeyT Try.prog 27 isTxn :=
  keyT_asked (fun v ⟨t, ht⟩ => ⟨_, ht⟩)
    (fun w x y hx hy => by
      obtain ⟨a, rfl⟩ := hx
      obtain ⟨b, rfl⟩ := hy
      refine ⟨_, run_equal_txn a b w, ?_⟩
      simp only [Bool.and_eq_true, beq_iff_eq]
      exact ⟨fun ⟨h1, h2⟩ => by rw [show a = b by obtain ⟨c, s⟩ := a; obtain ⟨c', s'⟩ := b; simp_all], fun h => by rw [txnV_inj h]; exact ⟨rfl, rfl⟩⟩)
    (fun w em v hv => by obtain ⟨t, rfl⟩ := hv; exact run_check_txn w em t)
    (fun {v} hv => by obtain ⟨t, rfl⟩ := hv; simp [Instr.sameBits]) ⟨_, Try.underlying27⟩
theorem zero33 (w : World) : (zeroValue 33).run Try.prog w = .ok (entV Ent.zero) w := by kernel_rfl

/-! ### The entries that stand -/
def entKV (L : List Ent) : List (Value × Value) := L.map fun e => (txnV e.txn, entV e)
def find (L : List Ent) (t : Txn) : Option Ent := L.find? fun e => decide (e.txn = t)

/-- what 'v, ok := l.stands[txn]' comes to -/
def outc (L : List Ent) (t : Txn) : Ent × Bool := match find L t with | some e => (e, true) | none => (Ent.zero, false)

theorem look_ledger {w : World} {mb : Nat} {L : List Ent} (h : MapOf w mb (entKV L)) (t : Txn) :
    (Instr.lookup 65 (.map (some mb)) (txnV t) true).run Try.prog w = .ok (.tuple #[entV (outc L t).1, .bool (outc L t).2]) w := by
  have hks : ∀ p ∈ entKV L, isTxn p.1 := fun p hp => by obtain ⟨e, _, rfl⟩ := List.mem_map.1 hp; exact ⟨_, rfl⟩
  unfold outc find
  cases hf : L.find? (fun e => decide (e.txn = t)) with
  | none =>
    refine run_lookup_none keyT27 Try.underlying65 (zero33 w) h hks ⟨t, rfl⟩ (fun p hp => ?_) true
    obtain ⟨e, he, rfl⟩ := List.mem_map.1 hp
    have := List.find?_eq_none.1 hf e he
    intro heq
    exact this (by simpa using txnV_inj heq)
  | some e =>
    have ht : e.txn = t := by simpa using List.find?_some hf
    refine run_lookup_some keyT27 Try.underlying65 h hks ⟨t, rfl⟩ ?_ true
    exact List.mem_map.2 ⟨e, List.mem_of_find?_eq_some hf, by rw [ht]⟩

set_option maxRecDepth 100000 in
theorem outcome12 (lb mb : Nat) (L : List Ent) (t : Txn) (w : World) (hl : w.cell? ⟨lb, 0, none⟩ = some (.map (some mb))) (hm : MapOf w mb (entKV L)) {d : Ent} {ok : Bool} (hr : outc L t = (d, ok)) :
    Calls Try.prog 12 #[.pointer (some ⟨lb, 0, none⟩), txnV t] w fun e w' => e = .returned (.tuple #[entV d, .bool ok]) ∧ Below w.heap.size w w' := by
  obtain ⟨rfl, rfl⟩ : d = (outc L t).1 ∧ ok = (outc L t).2 := by rw [hr]; exact ⟨rfl, rfl⟩
  clear hr
  have hlb := World.block_lt_of_cell? _ _ hl
  simp only at hlb
  have hM := Lib.hid hm
  clear hm
  go_enter Try.func12, Try.ntmps12
  go_wp2_with fail
  (refine wp_region_mixB [0, 1, 2, 3, 4, 5, 6, 7, 8] [9, 10, 11] mixed (by kernel_rfl) ?_; (repeat (first | (refine hstep_off rfl rfl ?_; simp only [Act.put, List.setIfInBounds_toArray, List.set_cons_succ, List.set_cons_zero]) | (refine hstep rfl rfl ?_; apply Exists.intro; refine ⟨fun w2 hw2 => ?_, ?_⟩; (have qf0 : w2.cell? ⟨w.heap.size, 0, none⟩ = some (.int .u32 t.c) := cellB hw2 (by first | with_reducible assumption | (go_simp; done) | (repeat (first | with_reducible assumption | with_reducible refine cellAlloc ?_ _ | with_reducible refine cellDrew ?_ | with_reducible refine cellDrewN ?_ _ | with_reducible refine cellSetFar ?_ (by simp; omega) _))); have qf1 : w2.cell? ⟨w.heap.size, 1, none⟩ = some (.int .u32 t.s) := cellB hw2 (by first | with_reducible assumption | (go_simp; done) | (repeat (first | with_reducible assumption | with_reducible refine cellAlloc ?_ _ | with_reducible refine cellDrew ?_ | with_reducible refine cellDrewN ?_ _ | with_reducible refine cellSetFar ?_ (by simp; omega) _))); have ql0 : w2.cell? ⟨lb, 0, none⟩ = some (.map (some mb)) := cellB hw2 (by first | with_reducible assumption | (go_simp; done) | (repeat (first | with_reducible assumption | with_reducible refine cellAlloc ?_ _ | with_reducible refine cellDrew ?_ | with_reducible refine cellDrewN ?_ _ | with_reducible refine cellSetFar ?_ (by simp; omega) _))); have ql := look_ledger ((hM.out.alloc _ |>.alloc _).below hw2) t; go_simp; rfl); simp only [Act.put, List.setIfInBounds_toArray, List.set_cons_succ, List.set_cons_zero]) | (refine hstep_on rfl rfl ?_; apply Exists.intro; refine ⟨fun w2 hw2 => ?_, ?_⟩; (have qf0 : w2.cell? ⟨w.heap.size, 0, none⟩ = some (.int .u32 t.c) := cellB hw2 (by first | with_reducible assumption | (go_simp; done) | (repeat (first | with_reducible assumption | with_reducible refine cellAlloc ?_ _ | with_reducible refine cellDrew ?_ | with_reducible refine cellDrewN ?_ _ | with_reducible refine cellSetFar ?_ (by simp; omega) _))); have qf1 : w2.cell? ⟨w.heap.size, 1, none⟩ = some (.int .u32 t.s) := cellB hw2 (by first | with_reducible assumption | (go_simp; done) | (repeat (first | with_reducible assumption | with_reducible refine cellAlloc ?_ _ | with_reducible refine cellDrew ?_ | with_reducible refine cellDrewN ?_ _ | with_reducible refine cellSetFar ?_ (by simp; omega) _))); have ql0 : w2.cell? ⟨lb, 0, none⟩ = some (.map (some mb)) := cellB hw2 (by first | with_reducible assumption | (go_simp; done) | (repeat (first | with_reducible assumption | with_reducible refine cellAlloc ?_ _ | with_reducible refine cellDrew ?_ | with_reducible refine cellDrewN ?_ _ | with_reducible refine cellSetFar ?_ (by simp; omega) _))); have ql := look_ledger ((hM.out.alloc _ |>.alloc _).below hw2) t; go_simp; rfl); simp only [Act.put, List.setIfInBounds_toArray, List.set_cons_succ, List.set_cons_zero]))); refine hdone ?_; refine @tstep _ _ _ _ _ _ _ _ ?ot1 ?ot2 _ _ ?_ ?_ ?_ ?_; (all_goals (try rfl)); intro K hK; go_simp; refine hK _ _ (by repeat (first | with_reducible exact Below.refl _ _ | with_reducible refine allocW ?_ _ | with_reducible refine Below.drew ?_ | ((with_reducible refine Below.setCell ?_ ?_ _); rotate_left 1; focus (simp; done)))) ?_; clear hK K; refine @tstep _ _ _ _ _ _ _ _ ?ot3 ?ot4 _ _ ?_ ?_ ?_ ?_; (all_goals (try rfl)); intro K hK; go_simp; refine hK _ _ (by repeat (first | with_reducible exact Below.refl _ _ | with_reducible refine allocW ?_ _ | with_reducible refine Below.drew ?_ | ((with_reducible refine Below.setCell ?_ ?_ _); rotate_left 1; focus (simp; done)))) ?_; clear hK K; refine @tlast _ _ _ _ _ _ ?ot5 _ _ ?_ ?_; (all_goals (try rfl)))
  go_wp2_with fail
  refine noPanic_normal ?_
  go_wp2_with fail
  exact bodyPost_ret (v := .tuple #[_, _]) (by simp [results, Try.results12, go_sem]) rfl ⟨rfl, by repeat (first | with_reducible exact Below.refl _ _ | with_reducible refine allocW ?_ _ | with_reducible refine Below.drew ?_ | ((with_reducible refine Below.setCell ?_ ?_ _); rotate_left 1; focus (simp; done)))⟩
end Go.Proofs.Ytpobdcdabojhcaa
