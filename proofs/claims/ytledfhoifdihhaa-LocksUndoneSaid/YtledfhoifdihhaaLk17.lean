/- Same and SameList: the document's; stands: the law's. -/
import Derived.Test.YtledfhoifdihhaaLk16
namespace Go.Proofs.Ytledfhoifdihhaa
open Go.RowKit
set_option linter.unusedVariables false
set_option linter.unusedSimpArgs false

theorem take_eq {α : Type} {xs ys : List α} {k : Nat} {x : α} (h : xs[k]? = some x) (h' : ys[k]? = some x) (h0 : xs.take k = ys.take k) : xs.take (k + 1) = ys.take (k + 1) := by rw [take_one h, take_one h', h0]
theorem toList_iff (a b : ByteArray) : a.toList = b.toList ↔ a = b := by
  have := toList_beq a b
  rw [Bool.eq_iff_iff] at this
  simpa using this
theorem sp_cases (x y : Sp) : ¬ x.lo.toList = y.lo.toList ∨ (x.lo.toList = y.lo.toList ∧ ¬ x.hi.toList = y.hi.toList) ∨ x = y := by
  obtain ⟨a1, a2⟩ := x
  obtain ⟨b1, b2⟩ := y
  simp only [toList_iff, Sp.mk.injEq]
  by_cases h1 : a1 = b1 <;> by_cases h2 : a2 = b2 <;> simp [h1, h2]
theorem wr_cases (x y : Wr) : ¬ x.key.toList = y.key.toList ∨ (x.key.toList = y.key.toList ∧ ¬ x.del = y.del) ∨ (x.key.toList = y.key.toList ∧ x.del = y.del ∧ ¬ x.val.toList = y.val.toList) ∨ x = y := by
  obtain ⟨a1, a2, a3⟩ := x
  obtain ⟨b1, b2, b3⟩ := y
  simp only [toList_iff, Wr.mk.injEq]
  by_cases h1 : a1 = b1 <;> by_cases h2 : a2 = b2 <;> by_cases h3 : a3 = b3 <;> simp [h1, h2, h3]
set_option maxHeartbeats 4000000 in
theorem same37_eq (t : Txn) (hm : Int) (st : Stamp) (ar br : List Sp) (aw bw : List Wr) (Ar Br Aw Bw : Option Addr) (car cbr caw cbw : Nat) (w : World) (hl1 : br.length = ar.length) (hl2 : bw.length = aw.length)
    (h1 : SlOf w 2 spC (.slice Ar ar.length car) ar) (h2 : SlOf w 3 wrC (.slice Aw aw.length caw) aw) (h3 : SlOf w 2 spC (.slice Br ar.length cbr) br) (h4 : SlOf w 3 wrC (.slice Bw aw.length cbw) bw) :
    Calls Try.prog 37 #[.agg (hdC ⟨t, hm, st, ar, aw⟩ (.slice Ar ar.length car) (.slice Aw aw.length caw)), .agg (hdC ⟨t, hm, st, br, bw⟩ (.slice Br ar.length cbr) (.slice Bw aw.length cbw))] w fun r w' => r = .returned (.bool (decide (ar = br) && decide (aw = bw))) ∧ Below w.heap.size w w' := by
  obtain ⟨_, _, e1, _, ⟨lar, _⟩, hAr⟩ := h1
  cases e1
  obtain ⟨_, _, e1, _, ⟨law, _⟩, hAw⟩ := h2
  cases e1
  obtain ⟨_, _, e1, _, ⟨lbr, _⟩, hBr⟩ := h3
  obtain ⟨_, _, e2, _, ⟨lbw, _⟩, hBw⟩ := h4
  simp only [hl1, Value.slice.injEq, true_and] at e1
  simp only [hl2, Value.slice.injEq, true_and] at e2
  obtain ⟨rfl, rfl⟩ := e1
  obtain ⟨rfl, rfl⟩ := e2
  have hB := Lib.hid (Below.refl w.heap.size w)
  have hAR := Lib.hid hAr
  have hAW := Lib.hid hAw
  have hBR := Lib.hid hBr
  have hBW := Lib.hid hBw
  clear hAr hAw hBr hBw lbr lbw
  go_enter Try.func37, Try.ntmps37
  go_wp2_with fail
  go_loopw [5] (fun i wr => ∃ k : Nat, k ≤ ar.length ∧ i = .int .i64 k ∧ ar.take k = br.take k ∧ Below w.heap.size w wr ∧ wr.cell? ⟨w.heap.size, 6, none⟩ = some (.slice Ar ar.length car) ∧ wr.cell? ⟨w.heap.size, 7, none⟩ = some (.slice Aw aw.length caw) ∧ wr.cell? ⟨w.heap.size + 1, 6, none⟩ = some (.slice Br ar.length cbr) ∧ wr.cell? ⟨w.heap.size + 1, 7, none⟩ = some (.slice Bw aw.length cbw)) (fun i _ => ar.length - (intOf i).toNat)
  case atStart => exact ⟨0, Nat.zero_le _, rfl, rfl, by repeat (first | with_reducible exact hB.out | with_reducible exact Below.refl _ _ | with_reducible assumption | with_reducible refine allocW ?_ _ | with_reducible refine Below.drew ?_ | with_reducible refine drewNW ?_ _ | ((with_reducible refine Below.setCell ?_ ?_ _); rotate_left 1; focus (first | (simp; done) | (simp; omega)))), by go_simp, by go_simp, by go_simp, by go_simp⟩
  case round =>
    obtain ⟨k, hk, rfl, hno, hbw, f6, f7, g6, g7⟩ := hrel
    have hNO := Lib.hid hno
    clear hno
    obtain ⟨wk, hwk⟩ : ∃ wk, wk = wr := ⟨_, rfl⟩
    rw [← hwk] at hbw f6 f7 g6 g7
    replace hB := Lib.hid hbw
    clear hbw
    subst hwk
    by_cases hkl : k < ar.length
    · have hkl' : k < br.length := by omega
      have hx0 : ar[k]? = some ar[k] := List.getElem?_eq_getElem hkl
      have hy0 : br[k]? = some br[k] := List.getElem?_eq_getElem hkl'
      obtain ⟨b1, o1, rfl, hE⟩ := hAR.out.below hB.out k ar[k] hx0
      obtain ⟨b2, o2, rfl, hD⟩ := hBR.out.below hB.out k br[k] hy0
      generalize ar[k] = x at *
      generalize br[k] = y at *
      have e0 := hE 0 _ rfl
      have e1 := hE 1 _ rfl
      have d0 := hD 0 _ rfl
      have d1 := hD 1 _ rfl
      simp only [Nat.add_zero] at e0 d0
      clear hE hD hkl'
      rcases sp_cases x y with h1 | ⟨h1, h2⟩ | hxy
      rotate_left 2
      · subst hxy
        go_wp2_with fail
        (refine wp_region_below mixed (by kernel_rfl) ?_; (repeat (first | (refine bstep_off rfl ?_; simp only [Act.put, List.setIfInBounds_toArray, List.set_cons_succ, List.set_cons_zero]) | (refine bstep rfl ?_; apply Exists.intro; refine ⟨fun w2 hw2 _ => ?_, ?_⟩; (have qf6 := cellB hw2 f6; have qf7 := cellB hw2 f7; have qg6 := cellB hw2 g6; have qg7 := cellB hw2 g7; have qe0 := cellB hw2 e0; have qe1 := cellB hw2 e1; have qd0 := cellB hw2 d0; have qd1 := cellB hw2 d1; go_simp; first | (exact ⟨rfl, rfl⟩) | rfl); simp only [Act.put, List.setIfInBounds_toArray, List.set_cons_succ, List.set_cons_zero]) | (refine bstep_on rfl ?_; apply Exists.intro; refine ⟨fun w2 hw2 _ => ?_, ?_⟩; (have qf6 := cellB hw2 f6; have qf7 := cellB hw2 f7; have qg6 := cellB hw2 g6; have qg7 := cellB hw2 g7; have qe0 := cellB hw2 e0; have qe1 := cellB hw2 e1; have qd0 := cellB hw2 d0; have qd1 := cellB hw2 d1; go_simp; first | (exact ⟨rfl, rfl⟩) | rfl); simp only [Act.put, List.setIfInBounds_toArray, List.set_cons_succ, List.set_cons_zero]))); refine wq_nil ?_; intro w2 hw2; replace f6 : w2.cell? ⟨w.heap.size, 6, none⟩ = some (.slice (some ⟨b1, o1, none⟩) ar.length car) := cellB hw2 (by first | with_reducible assumption | (go_simp; done) | (repeat (first | with_reducible assumption | with_reducible refine cellAlloc ?_ _ | with_reducible refine cellDrew ?_ | with_reducible refine cellDrewN ?_ _ | with_reducible refine cellSetFar ?_ (by simp; omega) _))); replace f7 : w2.cell? ⟨w.heap.size, 7, none⟩ = some (.slice Aw aw.length caw) := cellB hw2 (by first | with_reducible assumption | (go_simp; done) | (repeat (first | with_reducible assumption | with_reducible refine cellAlloc ?_ _ | with_reducible refine cellDrew ?_ | with_reducible refine cellDrewN ?_ _ | with_reducible refine cellSetFar ?_ (by simp; omega) _))); replace g6 : w2.cell? ⟨w.heap.size + 1, 6, none⟩ = some (.slice (some ⟨b2, o2, none⟩) ar.length cbr) := cellB hw2 (by first | with_reducible assumption | (go_simp; done) | (repeat (first | with_reducible assumption | with_reducible refine cellAlloc ?_ _ | with_reducible refine cellDrew ?_ | with_reducible refine cellDrewN ?_ _ | with_reducible refine cellSetFar ?_ (by simp; omega) _))); replace g7 : w2.cell? ⟨w.heap.size + 1, 7, none⟩ = some (.slice Bw aw.length cbw) := cellB hw2 (by first | with_reducible assumption | (go_simp; done) | (repeat (first | with_reducible assumption | with_reducible refine cellAlloc ?_ _ | with_reducible refine cellDrew ?_ | with_reducible refine cellDrewN ?_ _ | with_reducible refine cellSetFar ?_ (by simp; omega) _))); replace e0 : w2.cell? ⟨b1, o1 + k * 2, none⟩ = some (.string x.lo) := cellB hw2 (by first | with_reducible assumption | (go_simp; done) | (repeat (first | with_reducible assumption | with_reducible refine cellAlloc ?_ _ | with_reducible refine cellDrew ?_ | with_reducible refine cellDrewN ?_ _ | with_reducible refine cellSetFar ?_ (by simp; omega) _))); replace e1 : w2.cell? ⟨b1, o1 + k * 2 + 1, none⟩ = some (.string x.hi) := cellB hw2 (by first | with_reducible assumption | (go_simp; done) | (repeat (first | with_reducible assumption | with_reducible refine cellAlloc ?_ _ | with_reducible refine cellDrew ?_ | with_reducible refine cellDrewN ?_ _ | with_reducible refine cellSetFar ?_ (by simp; omega) _))); replace d0 : w2.cell? ⟨b2, o2 + k * 2, none⟩ = some (.string x.lo) := cellB hw2 (by first | with_reducible assumption | (go_simp; done) | (repeat (first | with_reducible assumption | with_reducible refine cellAlloc ?_ _ | with_reducible refine cellDrew ?_ | with_reducible refine cellDrewN ?_ _ | with_reducible refine cellSetFar ?_ (by simp; omega) _))); replace d1 : w2.cell? ⟨b2, o2 + k * 2 + 1, none⟩ = some (.string x.hi) := cellB hw2 (by first | with_reducible assumption | (go_simp; done) | (repeat (first | with_reducible assumption | with_reducible refine cellAlloc ?_ _ | with_reducible refine cellDrew ?_ | with_reducible refine cellDrewN ?_ _ | with_reducible refine cellSetFar ?_ (by simp; omega) _))); replace hB := Lib.hid (chain (w := w) hw2 (by repeat (first | with_reducible exact hB.out | with_reducible exact Below.refl _ _ | with_reducible assumption | with_reducible refine allocW ?_ _ | with_reducible refine Below.drew ?_ | with_reducible refine drewNW ?_ _ | ((with_reducible refine Below.setCell ?_ ?_ _); rotate_left 1; focus (first | (simp; done) | (simp; omega)))))))
        go_wp2_with fail
        go_roundw
        case rel => exact ⟨k + 1, by omega, by simp, take_eq hx0 hy0 hNO.out, hB.out, f6, f7, g6, g7⟩
        case measure => simp [intOf]; omega
      all_goals
        have hne : ar ≠ br := by
          rintro rfl
          rw [hx0] at hy0
          cases hy0
          simp at *
        go_wp2_with fail
        (refine wp_region_below mixed (by kernel_rfl) ?_; (repeat (first | (refine bstep_off rfl ?_; simp only [Act.put, List.setIfInBounds_toArray, List.set_cons_succ, List.set_cons_zero]) | (refine bstep rfl ?_; apply Exists.intro; refine ⟨fun w2 hw2 _ => ?_, ?_⟩; (have qf6 := cellB hw2 f6; have qf7 := cellB hw2 f7; have qg6 := cellB hw2 g6; have qg7 := cellB hw2 g7; have qe0 := cellB hw2 e0; have qe1 := cellB hw2 e1; have qd0 := cellB hw2 d0; have qd1 := cellB hw2 d1; go_simp; first | (exact ⟨rfl, rfl⟩) | rfl); simp only [Act.put, List.setIfInBounds_toArray, List.set_cons_succ, List.set_cons_zero]) | (refine bstep_on rfl ?_; apply Exists.intro; refine ⟨fun w2 hw2 _ => ?_, ?_⟩; (have qf6 := cellB hw2 f6; have qf7 := cellB hw2 f7; have qg6 := cellB hw2 g6; have qg7 := cellB hw2 g7; have qe0 := cellB hw2 e0; have qe1 := cellB hw2 e1; have qd0 := cellB hw2 d0; have qd1 := cellB hw2 d1; go_simp; first | (exact ⟨rfl, rfl⟩) | rfl); simp only [Act.put, List.setIfInBounds_toArray, List.set_cons_succ, List.set_cons_zero]))); refine wq_nil ?_; intro w2 hw2; replace f6 : w2.cell? ⟨w.heap.size, 6, none⟩ = some (.slice (some ⟨b1, o1, none⟩) ar.length car) := cellB hw2 (by first | with_reducible assumption | (go_simp; done) | (repeat (first | with_reducible assumption | with_reducible refine cellAlloc ?_ _ | with_reducible refine cellDrew ?_ | with_reducible refine cellDrewN ?_ _ | with_reducible refine cellSetFar ?_ (by simp; omega) _))); replace f7 : w2.cell? ⟨w.heap.size, 7, none⟩ = some (.slice Aw aw.length caw) := cellB hw2 (by first | with_reducible assumption | (go_simp; done) | (repeat (first | with_reducible assumption | with_reducible refine cellAlloc ?_ _ | with_reducible refine cellDrew ?_ | with_reducible refine cellDrewN ?_ _ | with_reducible refine cellSetFar ?_ (by simp; omega) _))); replace g6 : w2.cell? ⟨w.heap.size + 1, 6, none⟩ = some (.slice (some ⟨b2, o2, none⟩) ar.length cbr) := cellB hw2 (by first | with_reducible assumption | (go_simp; done) | (repeat (first | with_reducible assumption | with_reducible refine cellAlloc ?_ _ | with_reducible refine cellDrew ?_ | with_reducible refine cellDrewN ?_ _ | with_reducible refine cellSetFar ?_ (by simp; omega) _))); replace g7 : w2.cell? ⟨w.heap.size + 1, 7, none⟩ = some (.slice Bw aw.length cbw) := cellB hw2 (by first | with_reducible assumption | (go_simp; done) | (repeat (first | with_reducible assumption | with_reducible refine cellAlloc ?_ _ | with_reducible refine cellDrew ?_ | with_reducible refine cellDrewN ?_ _ | with_reducible refine cellSetFar ?_ (by simp; omega) _))); replace e0 : w2.cell? ⟨b1, o1 + k * 2, none⟩ = some (.string x.lo) := cellB hw2 (by first | with_reducible assumption | (go_simp; done) | (repeat (first | with_reducible assumption | with_reducible refine cellAlloc ?_ _ | with_reducible refine cellDrew ?_ | with_reducible refine cellDrewN ?_ _ | with_reducible refine cellSetFar ?_ (by simp; omega) _))); replace e1 : w2.cell? ⟨b1, o1 + k * 2 + 1, none⟩ = some (.string x.hi) := cellB hw2 (by first | with_reducible assumption | (go_simp; done) | (repeat (first | with_reducible assumption | with_reducible refine cellAlloc ?_ _ | with_reducible refine cellDrew ?_ | with_reducible refine cellDrewN ?_ _ | with_reducible refine cellSetFar ?_ (by simp; omega) _))); replace d0 : w2.cell? ⟨b2, o2 + k * 2, none⟩ = some (.string y.lo) := cellB hw2 (by first | with_reducible assumption | (go_simp; done) | (repeat (first | with_reducible assumption | with_reducible refine cellAlloc ?_ _ | with_reducible refine cellDrew ?_ | with_reducible refine cellDrewN ?_ _ | with_reducible refine cellSetFar ?_ (by simp; omega) _))); replace d1 : w2.cell? ⟨b2, o2 + k * 2 + 1, none⟩ = some (.string y.hi) := cellB hw2 (by first | with_reducible assumption | (go_simp; done) | (repeat (first | with_reducible assumption | with_reducible refine cellAlloc ?_ _ | with_reducible refine cellDrew ?_ | with_reducible refine cellDrewN ?_ _ | with_reducible refine cellSetFar ?_ (by simp; omega) _))); replace hB := Lib.hid (chain (w := w) hw2 (by repeat (first | with_reducible exact hB.out | with_reducible exact Below.refl _ _ | with_reducible assumption | with_reducible refine allocW ?_ _ | with_reducible refine Below.drew ?_ | with_reducible refine drewNW ?_ _ | ((with_reducible refine Below.setCell ?_ ?_ _); rotate_left 1; focus (first | (simp; done) | (simp; omega)))))))
        go_wp2_with fail
        go_ret
        exact ⟨ret_bool (by simp [hne]), hB.out⟩
    · obtain rfl : k = ar.length := by omega
      have hno3 := hNO.out
      rw [List.take_length, ← hl1, List.take_length] at hno3
      have hAB := Lib.hid hno3
      clear hno3
      go_wp2_with fail
      go_loopw [6] (fun i wr => ∃ k : Nat, k ≤ aw.length ∧ i = .int .i64 k ∧ aw.take k = bw.take k ∧ Below w.heap.size w wr ∧ wr.cell? ⟨w.heap.size, 6, none⟩ = some (.slice Ar ar.length car) ∧ wr.cell? ⟨w.heap.size, 7, none⟩ = some (.slice Aw aw.length caw) ∧ wr.cell? ⟨w.heap.size + 1, 6, none⟩ = some (.slice Br ar.length cbr) ∧ wr.cell? ⟨w.heap.size + 1, 7, none⟩ = some (.slice Bw aw.length cbw)) (fun i _ => aw.length - (intOf i).toNat)
      case atStart => exact ⟨0, Nat.zero_le _, rfl, rfl, hB.out, f6, f7, g6, g7⟩
      case round =>
        obtain ⟨k, hk, rfl, hno, hbw, f6, f7, g6, g7⟩ := hrel
        have hNO := Lib.hid hno
        clear hno
        obtain ⟨wk, hwk⟩ : ∃ wk, wk = wr := ⟨_, rfl⟩
        rw [← hwk] at hbw f6 f7 g6 g7
        replace hB := Lib.hid hbw
        clear hbw
        subst hwk
        by_cases hkl : k < aw.length
        · have hkl' : k < bw.length := by omega
          have hx0 : aw[k]? = some aw[k] := List.getElem?_eq_getElem hkl
          have hy0 : bw[k]? = some bw[k] := List.getElem?_eq_getElem hkl'
          obtain ⟨b1, o1, rfl, hE⟩ := hAW.out.below hB.out k aw[k] hx0
          obtain ⟨b2, o2, rfl, hD⟩ := hBW.out.below hB.out k bw[k] hy0
          generalize aw[k] = x at *
          generalize bw[k] = y at *
          have e0 := hE 0 _ rfl
          have e1 := hE 1 _ rfl
          have e2 := hE 2 _ rfl
          have d0 := hD 0 _ rfl
          have d1 := hD 1 _ rfl
          have d2 := hD 2 _ rfl
          simp only [Nat.add_zero] at e0 d0
          clear hE hD hkl'
          rcases wr_cases x y with h1 | ⟨h1, h2⟩ | ⟨h1, h2, h3⟩ | hxy
          rotate_left 3
          · subst hxy
            go_wp2_with fail
            (refine wp_region_below mixed (by kernel_rfl) ?_; (repeat (first | (refine bstep_off rfl ?_; simp only [Act.put, List.setIfInBounds_toArray, List.set_cons_succ, List.set_cons_zero]) | (refine bstep rfl ?_; apply Exists.intro; refine ⟨fun w2 hw2 _ => ?_, ?_⟩; (have qf6 := cellB hw2 f6; have qf7 := cellB hw2 f7; have qg6 := cellB hw2 g6; have qg7 := cellB hw2 g7; have qe0 := cellB hw2 e0; have qe1 := cellB hw2 e1; have qe2 := cellB hw2 e2; have qd0 := cellB hw2 d0; have qd1 := cellB hw2 d1; have qd2 := cellB hw2 d2; go_simp; first | (exact ⟨rfl, rfl⟩) | rfl); simp only [Act.put, List.setIfInBounds_toArray, List.set_cons_succ, List.set_cons_zero]) | (refine bstep_on rfl ?_; apply Exists.intro; refine ⟨fun w2 hw2 _ => ?_, ?_⟩; (have qf6 := cellB hw2 f6; have qf7 := cellB hw2 f7; have qg6 := cellB hw2 g6; have qg7 := cellB hw2 g7; have qe0 := cellB hw2 e0; have qe1 := cellB hw2 e1; have qe2 := cellB hw2 e2; have qd0 := cellB hw2 d0; have qd1 := cellB hw2 d1; have qd2 := cellB hw2 d2; go_simp; first | (exact ⟨rfl, rfl⟩) | rfl); simp only [Act.put, List.setIfInBounds_toArray, List.set_cons_succ, List.set_cons_zero]))); refine wq_nil ?_; intro w2 hw2; replace f6 : w2.cell? ⟨w.heap.size, 6, none⟩ = some (.slice Ar ar.length car) := cellB hw2 (by first | with_reducible assumption | (go_simp; done) | (repeat (first | with_reducible assumption | with_reducible refine cellAlloc ?_ _ | with_reducible refine cellDrew ?_ | with_reducible refine cellDrewN ?_ _ | with_reducible refine cellSetFar ?_ (by simp; omega) _))); replace f7 : w2.cell? ⟨w.heap.size, 7, none⟩ = some (.slice (some ⟨b1, o1, none⟩) aw.length caw) := cellB hw2 (by first | with_reducible assumption | (go_simp; done) | (repeat (first | with_reducible assumption | with_reducible refine cellAlloc ?_ _ | with_reducible refine cellDrew ?_ | with_reducible refine cellDrewN ?_ _ | with_reducible refine cellSetFar ?_ (by simp; omega) _))); replace g6 : w2.cell? ⟨w.heap.size + 1, 6, none⟩ = some (.slice Br ar.length cbr) := cellB hw2 (by first | with_reducible assumption | (go_simp; done) | (repeat (first | with_reducible assumption | with_reducible refine cellAlloc ?_ _ | with_reducible refine cellDrew ?_ | with_reducible refine cellDrewN ?_ _ | with_reducible refine cellSetFar ?_ (by simp; omega) _))); replace g7 : w2.cell? ⟨w.heap.size + 1, 7, none⟩ = some (.slice (some ⟨b2, o2, none⟩) aw.length cbw) := cellB hw2 (by first | with_reducible assumption | (go_simp; done) | (repeat (first | with_reducible assumption | with_reducible refine cellAlloc ?_ _ | with_reducible refine cellDrew ?_ | with_reducible refine cellDrewN ?_ _ | with_reducible refine cellSetFar ?_ (by simp; omega) _))); replace e0 : w2.cell? ⟨b1, o1 + k * 3, none⟩ = some (.string x.key) := cellB hw2 (by first | with_reducible assumption | (go_simp; done) | (repeat (first | with_reducible assumption | with_reducible refine cellAlloc ?_ _ | with_reducible refine cellDrew ?_ | with_reducible refine cellDrewN ?_ _ | with_reducible refine cellSetFar ?_ (by simp; omega) _))); replace e1 : w2.cell? ⟨b1, o1 + k * 3 + 1, none⟩ = some (.bool x.del) := cellB hw2 (by first | with_reducible assumption | (go_simp; done) | (repeat (first | with_reducible assumption | with_reducible refine cellAlloc ?_ _ | with_reducible refine cellDrew ?_ | with_reducible refine cellDrewN ?_ _ | with_reducible refine cellSetFar ?_ (by simp; omega) _))); replace e2 : w2.cell? ⟨b1, o1 + k * 3 + 2, none⟩ = some (.string x.val) := cellB hw2 (by first | with_reducible assumption | (go_simp; done) | (repeat (first | with_reducible assumption | with_reducible refine cellAlloc ?_ _ | with_reducible refine cellDrew ?_ | with_reducible refine cellDrewN ?_ _ | with_reducible refine cellSetFar ?_ (by simp; omega) _))); replace d0 : w2.cell? ⟨b2, o2 + k * 3, none⟩ = some (.string x.key) := cellB hw2 (by first | with_reducible assumption | (go_simp; done) | (repeat (first | with_reducible assumption | with_reducible refine cellAlloc ?_ _ | with_reducible refine cellDrew ?_ | with_reducible refine cellDrewN ?_ _ | with_reducible refine cellSetFar ?_ (by simp; omega) _))); replace d1 : w2.cell? ⟨b2, o2 + k * 3 + 1, none⟩ = some (.bool x.del) := cellB hw2 (by first | with_reducible assumption | (go_simp; done) | (repeat (first | with_reducible assumption | with_reducible refine cellAlloc ?_ _ | with_reducible refine cellDrew ?_ | with_reducible refine cellDrewN ?_ _ | with_reducible refine cellSetFar ?_ (by simp; omega) _))); replace d2 : w2.cell? ⟨b2, o2 + k * 3 + 2, none⟩ = some (.string x.val) := cellB hw2 (by first | with_reducible assumption | (go_simp; done) | (repeat (first | with_reducible assumption | with_reducible refine cellAlloc ?_ _ | with_reducible refine cellDrew ?_ | with_reducible refine cellDrewN ?_ _ | with_reducible refine cellSetFar ?_ (by simp; omega) _))); replace hB := Lib.hid (chain (w := w) hw2 (by repeat (first | with_reducible exact hB.out | with_reducible exact Below.refl _ _ | with_reducible assumption | with_reducible refine allocW ?_ _ | with_reducible refine Below.drew ?_ | with_reducible refine drewNW ?_ _ | ((with_reducible refine Below.setCell ?_ ?_ _); rotate_left 1; focus (first | (simp; done) | (simp; omega)))))))
            go_wp2_with fail
            go_roundw
            case rel => exact ⟨k + 1, by omega, by simp, take_eq hx0 hy0 hNO.out, hB.out, f6, f7, g6, g7⟩
            case measure => simp [intOf]; omega
          all_goals
            have hne : aw ≠ bw := by
              rintro rfl
              rw [hx0] at hy0
              cases hy0
              simp at *
            go_wp2_with fail
            (refine wp_region_below mixed (by kernel_rfl) ?_; (repeat (first | (refine bstep_off rfl ?_; simp only [Act.put, List.setIfInBounds_toArray, List.set_cons_succ, List.set_cons_zero]) | (refine bstep rfl ?_; apply Exists.intro; refine ⟨fun w2 hw2 _ => ?_, ?_⟩; (have qf6 := cellB hw2 f6; have qf7 := cellB hw2 f7; have qg6 := cellB hw2 g6; have qg7 := cellB hw2 g7; have qe0 := cellB hw2 e0; have qe1 := cellB hw2 e1; have qe2 := cellB hw2 e2; have qd0 := cellB hw2 d0; have qd1 := cellB hw2 d1; have qd2 := cellB hw2 d2; go_simp; first | (exact ⟨rfl, rfl⟩) | rfl); simp only [Act.put, List.setIfInBounds_toArray, List.set_cons_succ, List.set_cons_zero]) | (refine bstep_on rfl ?_; apply Exists.intro; refine ⟨fun w2 hw2 _ => ?_, ?_⟩; (have qf6 := cellB hw2 f6; have qf7 := cellB hw2 f7; have qg6 := cellB hw2 g6; have qg7 := cellB hw2 g7; have qe0 := cellB hw2 e0; have qe1 := cellB hw2 e1; have qe2 := cellB hw2 e2; have qd0 := cellB hw2 d0; have qd1 := cellB hw2 d1; have qd2 := cellB hw2 d2; go_simp; first | (exact ⟨rfl, rfl⟩) | rfl); simp only [Act.put, List.setIfInBounds_toArray, List.set_cons_succ, List.set_cons_zero]))); refine wq_nil ?_; intro w2 hw2; replace f6 : w2.cell? ⟨w.heap.size, 6, none⟩ = some (.slice Ar ar.length car) := cellB hw2 (by first | with_reducible assumption | (go_simp; done) | (repeat (first | with_reducible assumption | with_reducible refine cellAlloc ?_ _ | with_reducible refine cellDrew ?_ | with_reducible refine cellDrewN ?_ _ | with_reducible refine cellSetFar ?_ (by simp; omega) _))); replace f7 : w2.cell? ⟨w.heap.size, 7, none⟩ = some (.slice (some ⟨b1, o1, none⟩) aw.length caw) := cellB hw2 (by first | with_reducible assumption | (go_simp; done) | (repeat (first | with_reducible assumption | with_reducible refine cellAlloc ?_ _ | with_reducible refine cellDrew ?_ | with_reducible refine cellDrewN ?_ _ | with_reducible refine cellSetFar ?_ (by simp; omega) _))); replace g6 : w2.cell? ⟨w.heap.size + 1, 6, none⟩ = some (.slice Br ar.length cbr) := cellB hw2 (by first | with_reducible assumption | (go_simp; done) | (repeat (first | with_reducible assumption | with_reducible refine cellAlloc ?_ _ | with_reducible refine cellDrew ?_ | with_reducible refine cellDrewN ?_ _ | with_reducible refine cellSetFar ?_ (by simp; omega) _))); replace g7 : w2.cell? ⟨w.heap.size + 1, 7, none⟩ = some (.slice (some ⟨b2, o2, none⟩) aw.length cbw) := cellB hw2 (by first | with_reducible assumption | (go_simp; done) | (repeat (first | with_reducible assumption | with_reducible refine cellAlloc ?_ _ | with_reducible refine cellDrew ?_ | with_reducible refine cellDrewN ?_ _ | with_reducible refine cellSetFar ?_ (by simp; omega) _))); replace e0 : w2.cell? ⟨b1, o1 + k * 3, none⟩ = some (.string x.key) := cellB hw2 (by first | with_reducible assumption | (go_simp; done) | (repeat (first | with_reducible assumption | with_reducible refine cellAlloc ?_ _ | with_reducible refine cellDrew ?_ | with_reducible refine cellDrewN ?_ _ | with_reducible refine cellSetFar ?_ (by simp; omega) _))); replace e1 : w2.cell? ⟨b1, o1 + k * 3 + 1, none⟩ = some (.bool x.del) := cellB hw2 (by first | with_reducible assumption | (go_simp; done) | (repeat (first | with_reducible assumption | with_reducible refine cellAlloc ?_ _ | with_reducible refine cellDrew ?_ | with_reducible refine cellDrewN ?_ _ | with_reducible refine cellSetFar ?_ (by simp; omega) _))); replace e2 : w2.cell? ⟨b1, o1 + k * 3 + 2, none⟩ = some (.string x.val) := cellB hw2 (by first | with_reducible assumption | (go_simp; done) | (repeat (first | with_reducible assumption | with_reducible refine cellAlloc ?_ _ | with_reducible refine cellDrew ?_ | with_reducible refine cellDrewN ?_ _ | with_reducible refine cellSetFar ?_ (by simp; omega) _))); replace d0 : w2.cell? ⟨b2, o2 + k * 3, none⟩ = some (.string y.key) := cellB hw2 (by first | with_reducible assumption | (go_simp; done) | (repeat (first | with_reducible assumption | with_reducible refine cellAlloc ?_ _ | with_reducible refine cellDrew ?_ | with_reducible refine cellDrewN ?_ _ | with_reducible refine cellSetFar ?_ (by simp; omega) _))); replace d1 : w2.cell? ⟨b2, o2 + k * 3 + 1, none⟩ = some (.bool y.del) := cellB hw2 (by first | with_reducible assumption | (go_simp; done) | (repeat (first | with_reducible assumption | with_reducible refine cellAlloc ?_ _ | with_reducible refine cellDrew ?_ | with_reducible refine cellDrewN ?_ _ | with_reducible refine cellSetFar ?_ (by simp; omega) _))); replace d2 : w2.cell? ⟨b2, o2 + k * 3 + 2, none⟩ = some (.string y.val) := cellB hw2 (by first | with_reducible assumption | (go_simp; done) | (repeat (first | with_reducible assumption | with_reducible refine cellAlloc ?_ _ | with_reducible refine cellDrew ?_ | with_reducible refine cellDrewN ?_ _ | with_reducible refine cellSetFar ?_ (by simp; omega) _))); replace hB := Lib.hid (chain (w := w) hw2 (by repeat (first | with_reducible exact hB.out | with_reducible exact Below.refl _ _ | with_reducible assumption | with_reducible refine allocW ?_ _ | with_reducible refine Below.drew ?_ | with_reducible refine drewNW ?_ _ | ((with_reducible refine Below.setCell ?_ ?_ _); rotate_left 1; focus (first | (simp; done) | (simp; omega)))))))
            go_wp2_with fail
            go_ret
            exact ⟨ret_bool (by simp [hne]), hB.out⟩
        · obtain rfl : k = aw.length := by omega
          have hno3 := hNO.out
          rw [List.take_length, ← hl2, List.take_length] at hno3
          have h5 := hAB.out
          go_wp2_with fail
          go_ret
          exact ⟨ret_bool (by simp [hno3, h5]), hB.out⟩
end Go.Proofs.Ytledfhoifdihhaa
