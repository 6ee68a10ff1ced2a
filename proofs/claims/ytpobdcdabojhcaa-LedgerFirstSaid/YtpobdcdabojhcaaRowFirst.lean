/- LedgerFirst: the first entry of a transaction that may be stands, is told to everyone who comes later, and is there at the end. Every input; no condition. -/
import Derived.Test.YtpobdcdabojhcaaLawKit
import Derived.Test.YtpobdcdabojhcaaReadLed
import Derived.Test.YtpobdcdabojhcaaLed7
namespace Go.Proofs.Ytpobdcdabojhcaa
open Go.ChangeShapes Go.WideShapes Go.ChangeAt Go.RowKit

set_option maxRecDepth 100000 in
theorem ledgerFirst_contract (H : Type) (enc : TypeId × Value → H) (W : World) (base : Nat) (v : Value) (d : DataW H) (p : List MemPlace) (hv : Value.okWide Try.prog W .any base 22 v)
    (h : DataW.Trod enc Try.prog W 0 (fun _ => true) true 22 v d p) (hsz : (DataW.weightsEach Try.prog ([22] ++ []) ([d] ++ [])).all (· ≤ reachBytes) = true) :
    Calls Try.prog 3 #[v] W fun e W' => e = .returned (.bool true) ∧ Below W.heap.size W W' := by
  obtain ⟨u, r, hc, h1, rfl⟩ := arg_ok flat22 h hsz
  obtain rfl := cells_one Try.underlying22 hv hc
  obtain ⟨A, xs, cap, rfl, hx, hl, hcap⟩ := ents_of h1
  exact ledgerFirst_walk A cap xs W hx hl hcap

set_option maxRecDepth 100000 in
theorem ledgerFirst_lifted (os : Os) (started : os.Started) (H : Type) (enc : TypeId × Value → H) :
    ReturnsInHanded {} Try.checked os 3 .any (Rows.ledgerFirstSpec.pre6 enc Try.prog Try.f3 Rows.ledgerFirstRow.domain false) (Rows.ledgerFirstSpec.post enc Try.prog Try.f3 false true false false) := by
  refine returnsInHanded_of_change_sized (C := Try.checked) own started (by kernel_rfl) Try.func3
    (ChangeSpec.witness6 (enc := enc) (C := Try.checked) false ⟨#[], #[.slice none 0 0], []⟩ 8 (by kernel_rfl) (by kernel_rfl) (by kernel_rfl) (by kernel_rfl)) ?_
  intro W base args ds gs before hval hW _ hsz _
  have hW' := hW
  obtain ⟨p, q, hA0, hV, rfl, _, _⟩ := hW
  have hA : DataW.TrodAll enc Try.prog W 0 (fun _ => true) true Try.f3.params.toList args.toList ds p := hA0
  rw [Try.params3] at hA hval
  obtain ⟨v0, d0, rfl, rfl, h0⟩ := trodAll_one hA
  obtain ⟨rfl, rfl⟩ := trodVars_none hV
  simp only [List.append_nil] at hW'
  refine (ledgerFirst_contract H enc W base v0 d0 p (hval 0 22 v0 rfl rfl) h0 hsz).mono fun e W' ⟨he, hb⟩ => ?_
  exact ⟨_, he, law_post rfl laidOut Try.params3 rfl Try.underlying4 (by kernel_rfl) (of_decide_eq_true (by kernel_rfl)) (fun _ => ⟨rfl, rfl, rfl⟩) hW' h0 hb⟩

theorem ledgerFirst_holds : Rows.LedgerFirstSaid :=
  OpenClaim.holds_of_wide 3 Try.f3 rfl rfl rfl rfl rfl rfl rfl ⟨rfl, rfl, rfl, rfl, rfl⟩ rfl rfl rfl rfl rfl (by kernel_rfl) Try.func3 (by kernel_rfl)
    (of_decide_eq_true (by kernel_rfl)) (by unfold Func.isWrapper; rw [if_neg (by decide +kernel)]; exact ⟨rfl, rfl⟩)
    (fun os started H enc _ => ledgerFirst_lifted os started H enc)

end Go.Proofs.Ytpobdcdabojhcaa
