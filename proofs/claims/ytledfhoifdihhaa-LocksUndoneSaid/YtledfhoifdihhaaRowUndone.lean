/- LocksUndone: Hold and then Release of one transaction leaves all as it was; while it is held, what meets it conflicts for every other transaction, and not for itself. Every scene; no condition. -/
import Derived.Test.YtledfhoifdihhaaLawKit
import Derived.Test.YtledfhoifdihhaaLk28
namespace Go.Proofs.Ytledfhoifdihhaa
open Go.ChangeShapes Go.WideShapes Go.ChangeAt Go.RowKit

set_option maxRecDepth 100000 in
theorem locksUndone_contract (H : Type) (enc : TypeId × Value → H) (W : World) (base : Nat) (v : Value) (d : DataW H) (p : List MemPlace) (hv : Value.okWide Try.prog W .any base 57 v)
    (h : DataW.Trod enc Try.prog W 0 (fun _ => true) true 57 v d p) (hsz : (DataW.weightsEach Try.prog ([57] ++ []) ([d] ++ [])).all (· ≤ reachBytes) = true) :
    Calls Try.prog 7 #[v] W fun e W' => e = .returned (.bool true) ∧ Below W.heap.size W W' := by
  obtain ⟨cs, rfl, _⟩ := okWide_struct Try.underlying57 hv
  obtain ⟨l⟩ := cs
  obtain ⟨s, hs, hl, hz⟩ := scene_of (arg_ok flat57 h hsz)
  exact undone7 _ s W hs hl hz

set_option maxRecDepth 100000 in
theorem locksUndone_lifted (os : Os) (started : os.Started) (H : Type) (enc : TypeId × Value → H) :
    ReturnsInHanded {} Try.checked os 7 .any (Rows.locksUndoneSpec.pre6 enc Try.prog Try.f7 Rows.locksUndoneRow.domain false) (Rows.locksUndoneSpec.post enc Try.prog Try.f7 false true false false) := by
  refine returnsInHanded_of_change_sized (C := Try.checked) own started (by kernel_rfl) Try.func7
    (ChangeSpec.witness6 (enc := enc) (C := Try.checked) false ⟨#[], #[.agg #[.slice none 0 0, .int .u32 0, .int .u32 0, .int .u32 0, .int .u64 0, .int .u32 0, .int .u32 0, .slice none 0 0, .slice none 0 0, .string ByteArray.empty, .string ByteArray.empty, .int .u64 0, .int .u32 0, .int .u32 0]], []⟩ 8 (by kernel_rfl) (by kernel_rfl) (by kernel_rfl) (by kernel_rfl)) ?_
  intro W base args ds gs before hval hW _ hsz _
  have hW' := hW
  obtain ⟨p, q, hA0, hV, rfl, _, _⟩ := hW
  have hA : DataW.TrodAll enc Try.prog W 0 (fun _ => true) true Try.f7.params.toList args.toList ds p := hA0
  rw [Try.params7] at hA hval
  obtain ⟨v0, d0, rfl, rfl, h0⟩ := trodAll_one hA
  obtain ⟨rfl, rfl⟩ := trodVars_none hV
  simp only [List.append_nil] at hW'
  refine (locksUndone_contract H enc W base v0 d0 p (hval 0 57 v0 rfl rfl) h0 hsz).mono fun e W' ⟨he, hb⟩ => ?_
  exact ⟨_, he, law_post rfl laidOut Try.params7 rfl Try.underlying4 (by kernel_rfl) (of_decide_eq_true (by kernel_rfl)) (fun _ => ⟨rfl, rfl, rfl⟩) hW' h0 hb⟩

theorem locksUndone_holds : Rows.LocksUndoneSaid :=
  OpenClaim.holds_of_wide 7 Try.f7 rfl rfl rfl rfl rfl rfl rfl ⟨rfl, rfl, rfl, rfl, rfl⟩ rfl rfl rfl rfl rfl (by kernel_rfl) Try.func7 (by kernel_rfl)
    (of_decide_eq_true (by kernel_rfl)) (by unfold Func.isWrapper; rw [if_neg (by decide +kernel)]; exact ⟨rfl, rfl⟩)
    (fun os started H enc _ => locksUndone_lifted os started H enc)

end Go.Proofs.Ytledfhoifdihhaa
