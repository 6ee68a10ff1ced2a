/- LedgerSorted: the entries are told strictly rising, each is what Outcome tells; the commits of a home are just those entries that are committed and of that home, by stamp; Len counts. Every input; no condition. -/
import Derived.Test.YtpobdcdabojhcaaLawKit
import Derived.Test.YtpobdcdabojhcaaLed17
namespace Go.Proofs.Ytpobdcdabojhcaa
open Go.ChangeShapes Go.WideShapes Go.ChangeAt Go.RowKit

theorem flat52 : flat Try.prog 5 52 = some [.sl entTy 40, .int .u32] := by kernel_rfl
set_option maxRecDepth 100000 in
theorem ledgerSorted_contract (H : Type) (enc : TypeId × Value → H) (W : World) (base : Nat) (v : Value) (d : DataW H) (p : List MemPlace) (hv : Value.okWide Try.prog W .any base 52 v)
    (h : DataW.Trod enc Try.prog W 0 (fun _ => true) true 52 v d p) (hsz : (DataW.weightsEach Try.prog ([52] ++ []) ([d] ++ [])).all (· ≤ reachBytes) = true) :
    Calls Try.prog 6 #[v] W fun e W' => e = .returned (.bool true) ∧ Below W.heap.size W W' := by
  obtain ⟨cs, rfl, _⟩ := okWide_struct Try.underlying52 hv
  obtain ⟨l⟩ := cs
  obtain ⟨s, _, rfl, hs, _, _, rfl, ⟨home, rfl, _⟩, rfl⟩ := arg_ok flat52 h hsz
  obtain ⟨A, xs, cap, rfl, hx, hl, hcap⟩ := ents_of hs
  exact sorted6 A xs.length cap xs home W ⟨A, cap, rfl, hcap, by omega, hx⟩ rfl hl

set_option maxRecDepth 100000 in
theorem ledgerSorted_lifted (os : Os) (started : os.Started) (H : Type) (enc : TypeId × Value → H) :
    ReturnsInHanded {} Try.checked os 6 .any (Rows.ledgerSortedSpec.pre6 enc Try.prog Try.f6 Rows.ledgerSortedRow.domain false) (Rows.ledgerSortedSpec.post enc Try.prog Try.f6 false true false false) := by
  refine returnsInHanded_of_change_sized (C := Try.checked) own started (by kernel_rfl) Try.func6
    (ChangeSpec.witness6 (enc := enc) (C := Try.checked) false ⟨#[], #[.agg #[.slice none 0 0, .int .u32 0]], []⟩ 8 (by kernel_rfl) (by kernel_rfl) (by kernel_rfl) (by kernel_rfl)) ?_
  intro W base args ds gs before hval hW _ hsz _
  have hW' := hW
  obtain ⟨p, q, hA0, hV, rfl, _, _⟩ := hW
  have hA : DataW.TrodAll enc Try.prog W 0 (fun _ => true) true Try.f6.params.toList args.toList ds p := hA0
  rw [Try.params6] at hA hval
  obtain ⟨v0, d0, rfl, rfl, h0⟩ := trodAll_one hA
  obtain ⟨rfl, rfl⟩ := trodVars_none hV
  simp only [List.append_nil] at hW'
  refine (ledgerSorted_contract H enc W base v0 d0 p (hval 0 52 v0 rfl rfl) h0 hsz).mono fun e W' ⟨he, hb⟩ => ?_
  exact ⟨_, he, law_post rfl laidOut Try.params6 rfl Try.underlying4 (by kernel_rfl) (of_decide_eq_true (by kernel_rfl)) (fun _ => ⟨rfl, rfl, rfl⟩) hW' h0 hb⟩

theorem ledgerSorted_holds : Rows.LedgerSortedSaid :=
  OpenClaim.holds_of_wide 6 Try.f6 rfl rfl rfl rfl rfl rfl rfl ⟨rfl, rfl, rfl, rfl, rfl⟩ rfl rfl rfl rfl rfl (by kernel_rfl) Try.func6 (by kernel_rfl)
    (of_decide_eq_true (by kernel_rfl)) (by unfold Func.isWrapper; rw [if_neg (by decide +kernel)]; exact ⟨rfl, rfl⟩)
    (fun os started H enc _ => ledgerSorted_lifted os started H enc)

end Go.Proofs.Ytpobdcdabojhcaa
