/- Three-way comparisons. -/
import Derived.Test.YtpobdcdabojhcaaGrew
namespace Go.Proofs.Ytpobdcdabojhcaa
open Go.RowKit
set_option linter.unusedVariables false
set_option linter.unusedSimpArgs false

def cmp3 (a b : Int) : Int := if a < b then -1 else if b < a then 1 else 0
def or2 (x y : Int) : Int := if x = 0 then y else x

theorem isNaN_u32 (n : Int) (w : World) : Calls Try.prog 68 #[.int .u32 n] w fun r w' => r = .returned (.bool false) ∧ Grew w w' := by
  go_enter Try.func68, Try.ntmps68
  go_wp2_with fail
  go_ret
  exact ⟨rfl, by repeat (first | with_reducible exact hG.out | with_reducible exact Grew.refl _ | with_reducible refine Grew.alloc ?_ _ | with_reducible refine Grew.drew ?_ | with_reducible refine Grew.drewN ?_ _)⟩
theorem compare_u32 (a b : Int) (w : World) : Calls Try.prog 51 #[.int .u32 a, .int .u32 b] w fun r w' => r = .returned (.int .i64 (cmp3 a b)) ∧ Grew w w' := by
  have hG := Lib.hid (Grew.refl w)
  go_enter Try.func51, Try.ntmps51
  go_wp2_with (go_at_call 68; refine (isNaN_u32 _ _).mono ?_; rintro e w' ⟨rfl, hg⟩; have hb := hg.below; replace hG := Lib.hid (Grew.trans (a := w) (by repeat (first | with_reducible exact hG.out | with_reducible exact Grew.refl _ | with_reducible refine Grew.alloc ?_ _ | with_reducible refine Grew.drew ?_ | with_reducible refine Grew.drewN ?_ _)) hg); clear hb hg)
  all_goals (go_ret; refine ⟨ret_int ?_, by repeat (first | with_reducible exact hG.out | with_reducible exact Grew.refl _ | with_reducible refine Grew.alloc ?_ _ | with_reducible refine Grew.drew ?_ | with_reducible refine Grew.drewN ?_ _)⟩)
  all_goals (unfold cmp3; grind)

theorem or_two (b : Nat) (x y : Int) (w : World) (h0 : w.cell? ⟨b, 0, none⟩ = some (.int .i64 x)) (h1 : w.cell? ⟨b, 1, none⟩ = some (.int .i64 y)) :
    Calls Try.prog 43 #[.slice (some ⟨b, 0, none⟩) 2 2] w fun r w' => r = .returned (.int .i64 (or2 x y)) ∧ Grew w w' := by
  have hG := Lib.hid (Grew.refl w)
  go_enter Try.func43, Try.ntmps43
  go_wp2_with fail
  go_loopw [8] (fun i wr => ∃ k : Nat, k ≤ 2 ∧ i = .int .i64 k ∧ (0 < k → x = 0) ∧ (1 < k → y = 0) ∧ Grew w wr) (fun i _ => 2 - (intOf i).toNat)
  case atStart => exact ⟨0, by omega, rfl, by omega, by omega, hG.out⟩
  case round =>
    obtain ⟨k, hk, rfl, k0, k1, hg⟩ := hrel
    have hb := hg.below
    replace h0 : wr.cell? ⟨b, 0, none⟩ = some (.int .i64 x) := cellB hb (by first | with_reducible assumption | (go_simp; done) | (repeat (first | with_reducible assumption | with_reducible refine cellAlloc ?_ _ | with_reducible refine cellDrew ?_ | with_reducible refine cellDrewN ?_ _ | with_reducible refine cellSetFar ?_ (by simp; omega) _))); replace h1 : wr.cell? ⟨b, 1, none⟩ = some (.int .i64 y) := cellB hb (by first | with_reducible assumption | (go_simp; done) | (repeat (first | with_reducible assumption | with_reducible refine cellAlloc ?_ _ | with_reducible refine cellDrew ?_ | with_reducible refine cellDrewN ?_ _ | with_reducible refine cellSetFar ?_ (by simp; omega) _)))
    replace hG := Lib.hid hg
    clear hg hb
    rcases (show k = 0 ∨ k = 1 ∨ k = 2 from by omega) with rfl | rfl | rfl
    · go_wp2_with fail
      · go_ret
        exact ⟨ret_int (by unfold or2; grind), hG.out⟩
      · go_roundw
        case rel => exact ⟨1, by omega, by simp, fun _ => by grind, fun h => by omega, hG.out⟩
        case measure => simp [intOf]
    · go_wp2_with fail
      · go_ret
        exact ⟨ret_int (by have := k0 (by omega); unfold or2; grind), hG.out⟩
      · go_roundw
        case rel => exact ⟨2, by omega, by simp, fun _ => k0 (by omega), fun _ => by grind, hG.out⟩
        case measure => simp [intOf]
    · go_wp2_with fail
      go_ret
      exact ⟨ret_int (by have := k0 (by omega); have := k1 (by omega); unfold or2; grind), hG.out⟩

def txnCmp (a b c d : Int) : Int := or2 (cmp3 a c) (cmp3 b d)
end Go.Proofs.Ytpobdcdabojhcaa
