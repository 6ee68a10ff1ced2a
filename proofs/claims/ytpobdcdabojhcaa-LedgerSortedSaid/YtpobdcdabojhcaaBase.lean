/- Words for worlds, and regions that draw their order and only read (their callees may lay blocks of their own). -/
import Derived.Test.YtpobdcdabojhcaaProg
import Derived.WalkKit
import Derived.WalkLawsBesides
import Derived.WalkSpells
import Derived.BigQuiet
import Derived.Lib.Hide
import Derived.Deep.QuietTactic
import Derived.Deep.LoopGhost
import Derived.Deep.DeepCutAuto
import Derived.Deep.CutBlock
namespace Go.Proofs.Ytpobdcdabojhcaa
open Go.RowKit

theorem ret_bool {a b : Bool} (h : a = b) : Ending.returned (Value.bool a) = Ending.returned (Value.bool b) := by rw [h]
theorem ret_int {k : IntKind} {a b : Int} (h : a = b) : Ending.returned (Value.int k a) = Ending.returned (Value.int k b) := by rw [h]
theorem mixed : Try.prog.follows .mixedOrders = true := by kernel_rfl

theorem bcell {W w1 : World} (hb : Below W.heap.size W w1) : (∀ b o, b < W.heap.size → w1.cell? ⟨b, o, none⟩ = W.cell? ⟨b, o, none⟩) ∧ (∀ b o, b < W.heap.size → w1.frozen? ⟨b, o, none⟩ = W.frozen? ⟨b, o, none⟩) :=
  ⟨fun b o h => hb.cell (p := ⟨b, o, none⟩) h, fun b o h => hb.frozen (p := ⟨b, o, none⟩) h⟩

theorem cellB {W w' : World} {a : Addr} {v : Value} (hb : Below W.heap.size W w') (h : W.cell? a = some v) : w'.cell? a = some v := (hb.cell (World.block_lt_of_cell? W a h)).trans h
/-- a step behind what has come to pass -/
theorem chain {w W w' : World} (hb : Below W.heap.size W w') (h : Below w.heap.size w W) : Below w.heap.size w w' := h.trans (hb.mono h.size)
theorem allocW {w W : World} (h : Below w.heap.size w W) (o : Obj) : Below w.heap.size w (W.alloc o) := h.alloc h.size o
theorem drewNW {w W : World} (h : Below w.heap.size w W) (n : Nat) : Below w.heap.size w (W.drewN n) := ⟨h.os, h.tape, h.output, h.size, h.block⟩

theorem quiet_below {P : Program} {w : World} {o : Oper} {a : Act} {K : Act → Prop} (v : Value)
    (h : ∀ w', Below w.heap.size w w' → (∀ b o, b < w.heap.size → w'.cell? ⟨b, o, none⟩ = w.cell? ⟨b, o, none⟩) → Oper.quietUpon P (fun w' => Below w.heap.size w w') w' v ((execOp a.eval o).run P w'))
    (hK : K (a.put o.dst v)) : o.quiet P a (fun w' => Below w.heap.size w w') K :=
  ⟨v, fun w' hw' => h w' hw' (bcell hw').1, hK⟩

/-- 'wpQuiet' behind a lid: nothing unfolds it by itself -/
structure WQ (P : Program) (ops : Array Oper) (C : World → Prop) (Q : Act → Prop) (l : List Oper) (a : Act) : Prop where
  out : wpQuiet P ops C Q l a
theorem wp_region_below {P : Program} {id : Nat} {Q : Exit → Act → World → Prop} {a : Act} {w : World} {l : List Oper} (hm : P.follows .mixedOrders = true) (hB : Region.lexB .any l.toArray = true)
    (h : WQ P l.toArray (fun w' => Below w.heap.size w w') (fun a' => ∀ w', Below w.heap.size w w' → Q .normal a' w') l a) : (Code.region id l.toArray true).wp P Q a w :=
  wp_region_quiet (C := fun w' => Below w.heap.size w w') hm hB ((Below.refl _ _).drew) (by simpa using h.out)

/-- one operation without a guard of such a region -/
theorem bstep {P : Program} {ops : Array Oper} {rest : List Oper} {w : World} {o : Oper} {a : Act} {Q : Act → Prop} (hg : o.guard = none)
    (h : ∃ v, (∀ w', Below w.heap.size w w' → (∀ b o, b < w.heap.size → w'.cell? ⟨b, o, none⟩ = w.cell? ⟨b, o, none⟩) → Oper.quietUpon P (fun w' => Below w.heap.size w w') w' v ((execOp a.eval o).run P w')) ∧
      WQ P ops (fun w' => Below w.heap.size w w') Q rest (a.put o.dst v)) : WQ P ops (fun w' => Below w.heap.size w w') Q (o :: rest) a := by
  obtain ⟨v, h, ⟨hK⟩⟩ := h
  refine ⟨?_⟩
  unfold wpQuiet
  rw [if_pos (by simp [Region.wanted, hg])]
  exact ⟨v, fun w' hw' => h w' hw' (bcell hw').1, hK⟩
/-- one operation whose guard is met -/
theorem bstep_on {P : Program} {ops : Array Oper} {rest : List Oper} {w : World} {o : Oper} {a : Act} {Q : Act → Prop} (hg : Region.wanted o (yielded ops a.tmps) = true)
    (h : ∃ v, (∀ w', Below w.heap.size w w' → (∀ b o, b < w.heap.size → w'.cell? ⟨b, o, none⟩ = w.cell? ⟨b, o, none⟩) → Oper.quietUpon P (fun w' => Below w.heap.size w w') w' v ((execOp a.eval o).run P w')) ∧
      WQ P ops (fun w' => Below w.heap.size w w') Q rest (a.put o.dst v)) : WQ P ops (fun w' => Below w.heap.size w w') Q (o :: rest) a := by
  obtain ⟨v, h, ⟨hK⟩⟩ := h
  refine ⟨?_⟩
  unfold wpQuiet
  rw [if_pos hg]
  exact ⟨v, fun w' hw' => h w' hw' (bcell hw').1, hK⟩
/-- one operation whose guard is not met -/
theorem bstep_off {P : Program} {ops : Array Oper} {rest : List Oper} {C : World → Prop} {o : Oper} {a : Act} {Q : Act → Prop} (hg : Region.wanted o (yielded ops a.tmps) = false)
    (h : WQ P ops C Q rest (a.put o.dst undef)) : WQ P ops C Q (o :: rest) a := by
  refine ⟨?_⟩
  unfold wpQuiet
  rw [hg]
  exact h.out
theorem wq_nil {P : Program} {ops : Array Oper} {C : World → Prop} {a : Act} {Q : Act → Prop} (h : Q a) : WQ P ops C Q [] a := ⟨wpQuiet_nil h⟩

/-- what a call in such a region comes to -/
theorem quiet_call {P : Program} {C : World → Prop} {w : World} {v : Value} {f : FuncId} {args : Array Value} (h : Calls P f args w fun e w'' => e = .returned v ∧ C w'') :
    Oper.quietUpon P C w v (.ok (.enter f args) w) := ⟨rfl, h⟩
theorem quiet_value {P : Program} {C : World → Prop} {w : World} {v : Value} : Oper.quietUpon P C w v (.ok (.value v) w) := ⟨rfl, rfl⟩
end Go.Proofs.Ytpobdcdabojhcaa
