/- From the contract of a law (it answers true and turns nothing that was there) to the given row: for laws with one parameter. -/
import Derived.Test.YtpobdcdabojhcaaRows
import Derived.WalkKit
import Derived.ProofKit
import Derived.OpenShut
import Derived.SizedLaws
import Derived.JoinedCond
import Derived.Deep.CondSized
namespace Go.Proofs.Ytpobdcdabojhcaa
open Go.ChangeShapes Go.WideShapes Go.ChangeAt Go.RowKit

theorem own : ownKnob Try.prog.godebug = none := by kernel_rfl
theorem laidOut : laidOutB Try.prog = true := by kernel_rfl

/-- what a law with one parameter owes: its argument is read, true comes back, nothing that was there has turned -/
def LawOf (F T : Nat) (H : Type) (Pre : Value → DataW H → Prop) : Prop :=
  ∀ (enc : TypeId × Value → H) (W : World) (base : Nat) (v : Value) (d : DataW H) (p : List MemPlace),
    Value.okWide Try.prog W .any base T v → DataW.Trod enc Try.prog W 0 (fun _ => true) true T v d p → Pre v d →
    Calls Try.prog F #[v] W fun e W' => e = .returned (.bool true) ∧ Below W.heap.size W W'

theorem law_post {H : Type} {enc : TypeId × Value → H} {P : Program} {fn : Func} {s : ChangeSpec} {T TB : TypeId} (hv : s.vars = []) (hl : laidOutB P = true)
    (hp : fn.params = #[T]) (hr : fn.resultTypes = #[TB]) (hB : P.underlying TB = some .bool) (hread : P.readableRec T = true) (hrow : T < P.types.size)
    (hfn : ∀ d : DataW H, (s.fn H ([d] ++ [])).results = [.lit (.bool true)] ∧ (s.fn H ([d] ++ [])).args = [d] ∧ (s.fn H ([d] ++ [])).vars = [])
    {W W' : World} {v : Value} {d : DataW H} {p : List MemPlace} (hW : DataW.Whole enc P fn.params.toList s.vars false W [v] [d] [] p)
    (hT : DataW.Trod enc P W 0 (fun _ => true) true T v d p) (hb : Below W.heap.size W W') :
    s.post enc P fn false true false false W #[v] (.bool true) W' := by
  obtain ⟨e1, e2, e3⟩ := hfn d
  obtain ⟨n, hn⟩ := id hT
  have hlt := DataW.trod_lt n T v.cells.toList (d, p) hn
  refine ⟨[d], [], p, [], p, [], hW, ?_, ?_, ?_, hb.frame _, fun h => by cases h⟩
  · rw [e1, hr]; exact trodAll_mk1 (shut_bool hB true)
  · rw [e2, hp]; exact trodAll_mk1 (Below.trod hl hread hrow hT hb hlt)
  · rw [e3, hv]; rfl
end Go.Proofs.Ytpobdcdabojhcaa
