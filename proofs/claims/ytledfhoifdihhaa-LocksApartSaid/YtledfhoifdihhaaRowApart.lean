/- LocksApart: whatever is held and let go, no two that are held meet; a Hold is refused for a reason that stands among what is held, and else is answered OK; what is let go is gone, and the rest stays. Every script; no condition. -/
import Derived.Test.YtledfhoifdihhaaLawKit
import Derived.Test.YtledfhoifdihhaaLk25
namespace Go.Proofs.Ytledfhoifdihhaa
open Go.ChangeShapes Go.WideShapes Go.ChangeAt Go.RowKit

set_option maxRecDepth 100000 in
theorem locksApart_contract (H : Type) (enc : TypeId × Value → H) (W : World) (base : Nat) (v : Value) (d : DataW H) (p : List MemPlace) (hv : Value.okWide Try.prog W .any base 32 v)
    (h : DataW.Trod enc Try.prog W 0 (fun _ => true) true 32 v d p) (hsz : (DataW.weightsEach Try.prog ([32] ++ []) ([d] ++ [])).all (· ≤ reachBytes) = true) :
    Calls Try.prog 6 #[v] W fun e W' => e = .returned (.bool true) ∧ Below W.heap.size W W' := by
  obtain ⟨u, r, hc, h1, rfl⟩ := arg_ok flat32 h hsz
  obtain rfl := cells_one Try.underlying32 hv hc
  obtain ⟨ss, hs⟩ := steps_of h1
  exact apart6 _ ss W hs

set_option maxRecDepth 100000 in
theorem locksApart_lifted (os : Os) (started : os.Started) (H : Type) (enc : TypeId × Value → H) :
    ReturnsInHanded {} Try.checked os 6 .any (Rows.locksApartSpec.pre6 enc Try.prog Try.f6 Rows.locksApartRow.domain false) (Rows.locksApartSpec.post enc Try.prog Try.f6 false true false false) := by
  refine returnsInHanded_of_change_sized (C := Try.checked) own started (by kernel_rfl) Try.func6
    (ChangeSpec.witness6 (enc := enc) (C := Try.checked) false ⟨#[], #[.slice none 0 0], []⟩ 8 (by kernel_rfl) (by kernel_rfl) (by kernel_rfl) (by kernel_rfl)) ?_
  intro W base args ds gs before hval hW _ hsz _
  have hW' := hW
  obtain ⟨p, q, hA0, hV, rfl, _, _⟩ := hW
  have hA : DataW.TrodAll enc Try.prog W 0 (fun _ => true) true Try.f6.params.toList args.toList ds p := hA0
  rw [Try.params6] at hA hval
  obtain ⟨v0, d0, rfl, rfl, h0⟩ := trodAll_one hA
  obtain ⟨rfl, rfl⟩ := trodVars_none hV
  simp only [List.append_nil] at hW'
  refine (locksApart_contract H enc W base v0 d0 p (hval 0 32 v0 rfl rfl) h0 hsz).mono fun e W' ⟨he, hb⟩ => ?_
  exact ⟨_, he, law_post rfl laidOut Try.params6 rfl Try.underlying4 (by kernel_rfl) (of_decide_eq_true (by kernel_rfl)) (fun _ => ⟨rfl, rfl, rfl⟩) hW' h0 hb⟩

theorem locksApart_holds : Rows.LocksApartSaid :=
  OpenClaim.holds_of_wide 6 Try.f6 rfl rfl rfl rfl rfl rfl rfl ⟨rfl, rfl, rfl, rfl, rfl⟩ rfl rfl rfl rfl rfl (by kernel_rfl) Try.func6 (by kernel_rfl)
    (of_decide_eq_true (by kernel_rfl)) (by unfold Func.isWrapper; rw [if_neg (by decide +kernel)]; exact ⟨rfl, rfl⟩)
    (fun os started H enc _ => locksApart_lifted os started H enc)

end Go.Proofs.Ytledfhoifdihhaa
