/- LocksWitness: a text inside two spans shows that they overlap; two spans overlap just if the greater one of their lower bounds is inside both. Every input; no condition. -/
import Derived.Test.YtledfhoifdihhaaLawKit
import Derived.Test.YtledfhoifdihhaaRead
import Derived.Test.YtledfhoifdihhaaLocks2
namespace Go.Proofs.Ytledfhoifdihhaa
open Go.ChangeShapes Go.WideShapes Go.ChangeAt Go.RowKit

theorem flat29 : flat Try.prog 3 29 = some [.str, .str, .str, .str, .str] := by kernel_rfl

set_option maxRecDepth 100000 in
theorem locksWitness_contract (H : Type) (enc : TypeId × Value → H) (W : World) (base : Nat) (v : Value) (d : DataW H) (p : List MemPlace) (hv : Value.okWide Try.prog W .any base 29 v)
    (h : DataW.Trod enc Try.prog W 0 (fun _ => true) true 29 v d p) (hsz : (DataW.weightsEach Try.prog ([29] ++ []) ([d] ++ [])).all (· ≤ reachBytes) = true) :
    Calls Try.prog 5 #[v] W fun e W' => e = .returned (.bool true) ∧ Below W.heap.size W W' := by
  obtain ⟨cs, rfl, _⟩ := okWide_struct Try.underlying29 hv
  obtain ⟨l⟩ := cs
  obtain ⟨_, _, rfl, ⟨al, rfl, _⟩, _, _, rfl, ⟨ah, rfl, _⟩, _, _, rfl, ⟨bl, rfl, _⟩, _, _, rfl, ⟨bh, rfl, _⟩, _, _, rfl, ⟨k, rfl, _⟩, rfl⟩ := arg_ok flat29 h hsz
  exact locksWitness_walk al ah bl bh k W

set_option maxRecDepth 100000 in
theorem locksWitness_lifted (os : Os) (started : os.Started) (H : Type) (enc : TypeId × Value → H) :
    ReturnsInHanded {} Try.checked os 5 .any (Rows.locksWitnessSpec.pre6 enc Try.prog Try.f5 Rows.locksWitnessRow.domain false) (Rows.locksWitnessSpec.post enc Try.prog Try.f5 false true false false) := by
  refine returnsInHanded_of_change_sized (C := Try.checked) own started (by kernel_rfl) Try.func5
    (ChangeSpec.witness6 (enc := enc) (C := Try.checked) false ⟨#[], #[.agg #[.string ByteArray.empty, .string ByteArray.empty, .string ByteArray.empty, .string ByteArray.empty, .string ByteArray.empty]], []⟩ 8 (by kernel_rfl) (by kernel_rfl) (by kernel_rfl) (by kernel_rfl)) ?_
  intro W base args ds gs before hval hW _ hsz _
  have hW' := hW
  obtain ⟨p, q, hA0, hV, rfl, _, _⟩ := hW
  have hA : DataW.TrodAll enc Try.prog W 0 (fun _ => true) true Try.f5.params.toList args.toList ds p := hA0
  rw [Try.params5] at hA hval
  obtain ⟨v0, d0, rfl, rfl, h0⟩ := trodAll_one hA
  obtain ⟨rfl, rfl⟩ := trodVars_none hV
  simp only [List.append_nil] at hW'
  refine (locksWitness_contract H enc W base v0 d0 p (hval 0 29 v0 rfl rfl) h0 hsz).mono fun e W' ⟨he, hb⟩ => ?_
  exact ⟨_, he, law_post rfl laidOut Try.params5 rfl Try.underlying4 (by kernel_rfl) (of_decide_eq_true (by kernel_rfl)) (fun _ => ⟨rfl, rfl, rfl⟩) hW' h0 hb⟩

theorem locksWitness_holds : Rows.LocksWitnessSaid :=
  OpenClaim.holds_of_wide 5 Try.f5 rfl rfl rfl rfl rfl rfl rfl ⟨rfl, rfl, rfl, rfl, rfl⟩ rfl rfl rfl rfl rfl (by kernel_rfl) Try.func5 (by kernel_rfl)
    (of_decide_eq_true (by kernel_rfl)) (by unfold Func.isWrapper; rw [if_neg (by decide +kernel)]; exact ⟨rfl, rfl⟩)
    (fun os started H enc _ => locksWitness_lifted os started H enc)

end Go.Proofs.Ytledfhoifdihhaa
