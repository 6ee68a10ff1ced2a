/- writesInto: the program's. -/
import Derived.Test.YtledfhoifdihhaaLkM
namespace Go.Proofs.Ytledfhoifdihhaa
open Go.RowKit
set_option linter.unusedVariables false
set_option linter.unusedSimpArgs false

theorem take_one {α : Type} {xs : List α} {k : Nat} {x : α} (h : xs[k]? = some x) : xs.take (k + 1) = xs.take k ++ [x] := by rw [List.take_add_one, h]; rfl
theorem any_take {α : Type} {xs : List α} {k : Nat} {x : α} {f : α → Bool} (h : xs[k]? = some x) (h0 : (xs.take k).any f = false) (h1 : f x = false) : (xs.take (k + 1)).any f = false := by
  rw [take_one h, List.any_append, h0]; simp [h1]
theorem any_hit {α : Type} {xs : List α} {k : Nat} {x : α} {f : α → Bool} (h : xs[k]? = some x) (h1 : f x = true) : xs.any f = true := List.any_eq_true.2 ⟨x, List.mem_of_getElem? h, h1⟩

theorem into41 (v1 v2 : Value) (ws : List Wr) (ss : List Sp) (w : World) (h1 : SlOf w 3 wrC v1 ws) (h2 : SlOf w 2 spC v2 ss) :
    Calls Try.prog 41 #[v1, v2] w fun r w' => r = .returned (.bool (intoB ws ss)) ∧ Below w.heap.size w w' := by
  obtain ⟨A, cap, rfl, hc, ⟨hl, _⟩, hR⟩ := h1
  obtain ⟨A2, cap2, rfl, hc2, ⟨hl2, _⟩, hR2⟩ := h2
  have hB := Lib.hid (Below.refl w.heap.size w)
  have hR := Lib.hid hR
  have hR2 := Lib.hid hR2
  go_enter Try.func41, Try.ntmps41
  go_wp2_with fail
  go_loopw [11] (fun i wr => ∃ k : Nat, k ≤ ws.length ∧ i = .int .i64 k ∧ intoB (ws.take k) ss = false ∧ Below w.heap.size w wr) (fun i _ => ws.length - (intOf i).toNat)
  case atStart => exact ⟨0, Nat.zero_le _, rfl, rfl, hB.out⟩
  case round =>
    obtain ⟨k, hk, rfl, hno, hbw⟩ := hrel
    have hNO := Lib.hid hno
    clear hno
    by_cases hkl : k < ws.length
    · have hx0 : ws[k]? = some ws[k] := List.getElem?_eq_getElem hkl
      obtain ⟨b, o, rfl, hE⟩ := hR.out.below hbw k ws[k] hx0
      generalize ws[k] = x at *
      have e0 := hE 0 _ rfl
      have e1 := hE 1 _ rfl
      have e2 := hE 2 _ rfl
      simp only [Nat.add_zero] at e0
      clear hE
      obtain ⟨w1, hw1⟩ : ∃ w1, w1 = wr := ⟨_, rfl⟩
      rw [← hw1] at hbw e0 e1 e2
      have hB1 := Lib.hid hbw
      clear hbw
      have hb1 : b < w1.heap.size := World.block_lt_of_cell? _ _ e0
      subst hw1
      go_wp2_with fail
      go_loopw [17] (fun i wr => ∃ m : Nat, m ≤ ss.length ∧ i = .int .i64 m ∧ (ss.take m).any (fun s => insideB x.key s.lo s.hi) = false ∧ Below w.heap.size w wr ∧ wr.cell? ⟨w1.heap.size, 0, none⟩ = some (.string x.key)) (fun i _ => ss.length - (intOf i).toNat)
      case atStart => exact ⟨0, Nat.zero_le _, rfl, rfl, by have := hB1.out; repeat (first | with_reducible exact hB.out | with_reducible exact Below.refl _ _ | with_reducible assumption | with_reducible refine allocW ?_ _ | with_reducible refine Below.drew ?_ | with_reducible refine drewNW ?_ _ | ((with_reducible refine Below.setCell ?_ ?_ _); rotate_left 1; focus (first | (simp; done) | (simp; omega)))), by go_simp⟩
      case round =>
        obtain ⟨m, hm, rfl, hno2, hbw2, k0⟩ := hrel
        have hNO2 := Lib.hid hno2
        clear hno2
        have hb2 : w1.heap.size < wr.heap.size := World.block_lt_of_cell? _ _ k0
        by_cases hml : m < ss.length
        · have hs0 : ss[m]? = some ss[m] := List.getElem?_eq_getElem hml
          obtain ⟨b2, o2, rfl, hE⟩ := hR2.out.below hbw2 m ss[m] hs0
          generalize ss[m] = s at *
          have g0 := hE 0 _ rfl
          have g1 := hE 1 _ rfl
          simp only [Nat.add_zero] at g0
          clear hE
          replace hB := Lib.hid hbw2
          clear hbw2
          have hb3 : b2 < wr.heap.size := World.block_lt_of_cell? _ _ g0
          cases hin : insideB x.key s.lo s.hi
          · go_wp2_with (go_at_call 10; refine (inside10 _ _ _ _).mono ?_; rintro e w' ⟨rfl, hb⟩; replace k0 : w'.cell? ⟨w1.heap.size, 0, none⟩ = some (.string x.key) := cellB hb (by first | with_reducible assumption | (go_simp; done) | (repeat (first | with_reducible assumption | with_reducible refine cellAlloc ?_ _ | with_reducible refine cellDrew ?_ | with_reducible refine cellDrewN ?_ _ | with_reducible refine cellSetFar ?_ (by simp; omega) _))); replace hB := Lib.hid (chain (w := w) hb (by repeat (first | with_reducible exact hB.out | with_reducible exact Below.refl _ _ | with_reducible assumption | with_reducible refine allocW ?_ _ | with_reducible refine Below.drew ?_ | with_reducible refine drewNW ?_ _ | ((with_reducible refine Below.setCell ?_ ?_ _); rotate_left 1; focus (first | (simp; done) | (simp; omega)))))); clear hb)
            go_roundw
            case rel => exact ⟨m + 1, by omega, by simp, any_take hs0 hNO2.out hin, hB.out, k0⟩
            case measure => simp [intOf]; omega
          · have hhit : intoB ws ss = true := any_hit hx0 (any_hit hs0 hin)
            go_wp2_with (go_at_call 10; refine (inside10 _ _ _ _).mono ?_; rintro e w' ⟨rfl, hb⟩; replace k0 : w'.cell? ⟨w1.heap.size, 0, none⟩ = some (.string x.key) := cellB hb (by first | with_reducible assumption | (go_simp; done) | (repeat (first | with_reducible assumption | with_reducible refine cellAlloc ?_ _ | with_reducible refine cellDrew ?_ | with_reducible refine cellDrewN ?_ _ | with_reducible refine cellSetFar ?_ (by simp; omega) _))); replace hB := Lib.hid (chain (w := w) hb (by repeat (first | with_reducible exact hB.out | with_reducible exact Below.refl _ _ | with_reducible assumption | with_reducible refine allocW ?_ _ | with_reducible refine Below.drew ?_ | with_reducible refine drewNW ?_ _ | ((with_reducible refine Below.setCell ?_ ?_ _); rotate_left 1; focus (first | (simp; done) | (simp; omega)))))); clear hb)
            go_ret
            exact ⟨ret_bool hhit.symm, hB.out⟩
        · obtain rfl : m = ss.length := by omega
          have hno3 := hNO2.out
          rw [List.take_length] at hno3
          have hN3 := Lib.hid (any_take (f := fun y : Wr => ss.any fun s => insideB y.key s.lo s.hi) hx0 hNO.out hno3)
          clear hno3
          go_wp2_with fail
          go_roundw
          case rel => exact ⟨k + 1, by omega, by simp, hN3.out, hbw2⟩
          case measure => simp [intOf]; omega
    · obtain rfl : k = ws.length := by omega
      have hno3 := hNO.out
      rw [List.take_length] at hno3
      go_wp2_with fail
      go_ret
      exact ⟨ret_bool hno3.symm, hbw⟩
end Go.Proofs.Ytledfhoifdihhaa
