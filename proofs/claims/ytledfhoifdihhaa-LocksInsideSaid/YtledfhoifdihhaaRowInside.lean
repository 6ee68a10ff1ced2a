/- LocksInside: for every text and every span, Inside answers as the document does, and a text is inside its own point while the next text is not. Every input; no condition. -/
import Derived.Test.YtledfhoifdihhaaLawKit
import Derived.Test.YtledfhoifdihhaaRead
import Derived.Test.YtledfhoifdihhaaLocks2
namespace Go.Proofs.Ytledfhoifdihhaa
open Go.ChangeShapes Go.WideShapes Go.ChangeAt Go.RowKit

theorem flat25 : flat Try.prog 3 25 = some [.str, .str, .str] := by kernel_rfl
set_option maxRecDepth 100000 in
theorem locksInside_contract (H : Type) (enc : TypeId × Value → H) (W : World) (base : Nat) (v : Value) (d : DataW H) (p : List MemPlace) (hv : Value.okWide Try.prog W .any base 25 v)
    (h : DataW.Trod enc Try.prog W 0 (fun _ => true) true 25 v d p) (hsz : (DataW.weightsEach Try.prog ([25] ++ []) ([d] ++ [])).all (· ≤ reachBytes) = true) :
    Calls Try.prog 3 #[v] W fun e W' => e = .returned (.bool true) ∧ Below W.heap.size W W' := by
  obtain ⟨cs, rfl, _⟩ := okWide_struct Try.underlying25 hv
  obtain ⟨l⟩ := cs
  obtain ⟨_, _, rfl, ⟨k, rfl, hk⟩, _, _, rfl, ⟨lo, rfl, _⟩, _, _, rfl, ⟨hi, rfl, _⟩, rfl⟩ := arg_ok flat25 h hsz
  exact locksInside_walk k lo hi hk W

set_option maxRecDepth 100000 in
theorem locksInside_lifted (os : Os) (started : os.Started) (H : Type) (enc : TypeId × Value → H) :
    ReturnsInHanded {} Try.checked os 3 .any (Rows.locksInsideSpec.pre6 enc Try.prog Try.f3 Rows.locksInsideRow.domain false) (Rows.locksInsideSpec.post enc Try.prog Try.f3 false true false false) := by
  refine returnsInHanded_of_change_sized (C := Try.checked) own started (by kernel_rfl) Try.func3
    (ChangeSpec.witness6 (enc := enc) (C := Try.checked) false ⟨#[], #[.agg #[.string ByteArray.empty, .string ByteArray.empty, .string ByteArray.empty]], []⟩ 8 (by kernel_rfl) (by kernel_rfl) (by kernel_rfl) (by kernel_rfl)) ?_
  intro W base args ds gs before hval hW _ hsz _
  have hW' := hW
  obtain ⟨p, q, hA0, hV, rfl, _, _⟩ := hW
  have hA : DataW.TrodAll enc Try.prog W 0 (fun _ => true) true Try.f3.params.toList args.toList ds p := hA0
  rw [Try.params3] at hA hval
  obtain ⟨v0, d0, rfl, rfl, h0⟩ := trodAll_one hA
  obtain ⟨rfl, rfl⟩ := trodVars_none hV
  simp only [List.append_nil] at hW'
  refine (locksInside_contract H enc W base v0 d0 p (hval 0 25 v0 rfl rfl) h0 hsz).mono fun e W' ⟨he, hb⟩ => ?_
  exact ⟨_, he, law_post rfl laidOut Try.params3 rfl Try.underlying4 (by kernel_rfl) (of_decide_eq_true (by kernel_rfl)) (fun _ => ⟨rfl, rfl, rfl⟩) hW' h0 hb⟩

theorem locksInside_holds : Rows.LocksInsideSaid :=
  OpenClaim.holds_of_wide 3 Try.f3 rfl rfl rfl rfl rfl rfl rfl ⟨rfl, rfl, rfl, rfl, rfl⟩ rfl rfl rfl rfl rfl (by kernel_rfl) Try.func3 (by kernel_rfl)
    (of_decide_eq_true (by kernel_rfl)) (by unfold Func.isWrapper; rw [if_neg (by decide +kernel)]; exact ⟨rfl, rfl⟩)
    (fun os started H enc _ => locksInside_lifted os started H enc)

end Go.Proofs.Ytledfhoifdihhaa
