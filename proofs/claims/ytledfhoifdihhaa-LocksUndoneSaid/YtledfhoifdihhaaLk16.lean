/- clash: the law's. -/
import Derived.Test.YtledfhoifdihhaaLk15
namespace Go.Proofs.Ytledfhoifdihhaa
open Go.RowKit
set_option linter.unusedVariables false
set_option linter.unusedSimpArgs false

def hitB (b : Hd) (x : Wr) : Bool := b.writes.any (fun y => decide (x.key = y.key)) || b.reads.any (fun s => insideB x.key s.lo s.hi)
def clashB (a b : Hd) : Bool := a.writes.any (hitB b) || b.writes.any (fun y => a.reads.any fun s => insideB y.key s.lo s.hi)
theorem toList_beq (a b : ByteArray) : (a.toList == b.toList) = decide (a = b) := by
  rw [Bool.eq_iff_iff]
  simp only [beq_iff_eq, decide_eq_true_eq]
  exact ⟨fun h => by rw [Lib.toList_data, Lib.toList_data] at h; exact ByteArray.ext (Array.toList_inj.mp h), fun h => by rw [h]⟩
theorem any_or' {α : Type} (f g : α → Bool) : ∀ l : List α, l.any (fun x => f x || g x) = (l.any f || l.any g)
  | [] => rfl
  | x :: r => by
    simp only [List.any_cons, any_or' f g r]
    cases f x <;> cases g x <;> cases r.any f <;> cases r.any g <;> rfl
theorem clash_meet (a b : Hd) : clashB a b = meetB a.reads a.writes b := by
  unfold clashB meetB commonB intoB hitB
  rw [any_or']
set_option maxHeartbeats 4000000 in
theorem clash36 (v1 v2 : Value) (a b : Hd) (w : World) (h1 : HdV w v1 a) (h2 : HdV w v2 b) :
    Calls Try.prog 36 #[v1, v2] w fun r w' => r = .returned (.bool (clashB a b)) ∧ Below w.heap.size w w' := by
  obtain ⟨r1, x1, rfl, ⟨Ar, car, rfl, _, ⟨lar, _⟩, hAr⟩, ⟨Aw, caw, rfl, _, ⟨law, _⟩, hAw⟩⟩ := h1
  obtain ⟨r2, x2, rfl, ⟨Br, cbr, rfl, _, ⟨lbr, _⟩, hBr⟩, ⟨Bw, cbw, rfl, _, ⟨lbw, _⟩, hBw⟩⟩ := h2
  have hB := Lib.hid (Below.refl w.heap.size w)
  have hAR := Lib.hid hAr
  have hAW := Lib.hid hAw
  have hBR := Lib.hid hBr
  have hBW := Lib.hid hBw
  clear hAr hAw hBr hBw
  go_enter Try.func36, Try.ntmps36
  go_wp2_with fail
  go_loopw [5] (fun i wr => ∃ k : Nat, k ≤ a.writes.length ∧ i = .int .i64 k ∧ (a.writes.take k).any (hitB b) = false ∧ Below w.heap.size w wr ∧ wr.cell? ⟨w.heap.size, 6, none⟩ = some (.slice Ar a.reads.length car) ∧ wr.cell? ⟨w.heap.size, 7, none⟩ = some (.slice Aw a.writes.length caw) ∧ wr.cell? ⟨w.heap.size + 1, 6, none⟩ = some (.slice Br b.reads.length cbr) ∧ wr.cell? ⟨w.heap.size + 1, 7, none⟩ = some (.slice Bw b.writes.length cbw)) (fun i _ => a.writes.length - (intOf i).toNat)
  case atStart => exact ⟨0, Nat.zero_le _, rfl, rfl, by repeat (first | with_reducible exact hB.out | with_reducible exact Below.refl _ _ | with_reducible assumption | with_reducible refine allocW ?_ _ | with_reducible refine Below.drew ?_ | with_reducible refine drewNW ?_ _ | ((with_reducible refine Below.setCell ?_ ?_ _); rotate_left 1; focus (first | (simp; done) | (simp; omega)))), by go_simp, by go_simp, by go_simp, by go_simp⟩
  case round =>
    obtain ⟨k, hk, rfl, hno, hbw, f6, f7, g6, g7⟩ := hrel
    have hNO := Lib.hid hno
    clear hno
    obtain ⟨wk, hwk⟩ : ∃ wk, wk = wr := ⟨_, rfl⟩
    rw [← hwk] at hbw f6 f7 g6 g7
    replace hB := Lib.hid hbw
    clear hbw
    subst hwk
    by_cases hkl : k < a.writes.length
    · have hx0 : a.writes[k]? = some a.writes[k] := List.getElem?_eq_getElem hkl
      obtain ⟨b1, o1, rfl, hE⟩ := hAW.out.below hB.out k a.writes[k] hx0
      generalize a.writes[k] = x at *
      have e0 := hE 0 _ rfl
      simp only [Nat.add_zero] at e0
      clear hE
      go_wp2_with fail
      go_loopw [6] (fun i wr => ∃ m : Nat, m ≤ b.writes.length ∧ i = .int .i64 m ∧ (b.writes.take m).any (fun y => decide (x.key = y.key)) = false ∧ Below w.heap.size w wr ∧ wr.cell? ⟨w.heap.size, 6, none⟩ = some (.slice Ar a.reads.length car) ∧ wr.cell? ⟨w.heap.size, 7, none⟩ = some (.slice (some ⟨b1, o1, none⟩) a.writes.length caw) ∧ wr.cell? ⟨w.heap.size + 1, 6, none⟩ = some (.slice Br b.reads.length cbr) ∧ wr.cell? ⟨w.heap.size + 1, 7, none⟩ = some (.slice Bw b.writes.length cbw) ∧ wr.cell? ⟨b1, o1 + k * 3, none⟩ = some (.string x.key)) (fun i _ => b.writes.length - (intOf i).toNat)
      case atStart => exact ⟨0, Nat.zero_le _, rfl, rfl, by repeat (first | with_reducible exact hB.out | with_reducible exact Below.refl _ _ | with_reducible assumption | with_reducible refine allocW ?_ _ | with_reducible refine Below.drew ?_ | with_reducible refine drewNW ?_ _ | ((with_reducible refine Below.setCell ?_ ?_ _); rotate_left 1; focus (first | (simp; done) | (simp; omega)))), f6, f7, g6, g7, e0⟩
      case round =>
        obtain ⟨m, hm, rfl, hno2, hbw, f6, f7, g6, g7, e0⟩ := hrel
        have hNO2 := Lib.hid hno2
        clear hno2
        obtain ⟨wm, hwm⟩ : ∃ wm, wm = wr := ⟨_, rfl⟩
        rw [← hwm] at hbw f6 f7 g6 g7 e0
        replace hB := Lib.hid hbw
        clear hbw
        subst hwm
        by_cases hml : m < b.writes.length
        · have hy0 : b.writes[m]? = some b.writes[m] := List.getElem?_eq_getElem hml
          obtain ⟨b2, o2, rfl, hE⟩ := hBW.out.below hB.out m b.writes[m] hy0
          generalize b.writes[m] = y at *
          have d0 := hE 0 _ rfl
          simp only [Nat.add_zero] at d0
          clear hE
          go_wp2_with fail
          (refine wp_region_below mixed (by kernel_rfl) ?_; (repeat (first | (refine bstep_off rfl ?_; simp only [Act.put, List.setIfInBounds_toArray, List.set_cons_succ, List.set_cons_zero]) | (refine bstep rfl ?_; apply Exists.intro; refine ⟨fun w2 hw2 _ => ?_, ?_⟩; (have qf6 := cellB hw2 f6; have qf7 := cellB hw2 f7; have qg6 := cellB hw2 g6; have qg7 := cellB hw2 g7; have qe0 := cellB hw2 e0; have qd0 := cellB hw2 d0; go_simp; first | (exact ⟨rfl, rfl⟩) | rfl); simp only [Act.put, List.setIfInBounds_toArray, List.set_cons_succ, List.set_cons_zero]) | (refine bstep_on rfl ?_; apply Exists.intro; refine ⟨fun w2 hw2 _ => ?_, ?_⟩; (have qf6 := cellB hw2 f6; have qf7 := cellB hw2 f7; have qg6 := cellB hw2 g6; have qg7 := cellB hw2 g7; have qe0 := cellB hw2 e0; have qd0 := cellB hw2 d0; go_simp; first | (exact ⟨rfl, rfl⟩) | rfl); simp only [Act.put, List.setIfInBounds_toArray, List.set_cons_succ, List.set_cons_zero]))); refine wq_nil ?_; intro w2 hw2; replace f6 : w2.cell? ⟨w.heap.size, 6, none⟩ = some (.slice Ar a.reads.length car) := cellB hw2 (by first | with_reducible assumption | (go_simp; done) | (repeat (first | with_reducible assumption | with_reducible refine cellAlloc ?_ _ | with_reducible refine cellDrew ?_ | with_reducible refine cellDrewN ?_ _ | with_reducible refine cellSetFar ?_ (by simp; omega) _))); replace f7 : w2.cell? ⟨w.heap.size, 7, none⟩ = some (.slice (some ⟨b1, o1, none⟩) a.writes.length caw) := cellB hw2 (by first | with_reducible assumption | (go_simp; done) | (repeat (first | with_reducible assumption | with_reducible refine cellAlloc ?_ _ | with_reducible refine cellDrew ?_ | with_reducible refine cellDrewN ?_ _ | with_reducible refine cellSetFar ?_ (by simp; omega) _))); replace g6 : w2.cell? ⟨w.heap.size + 1, 6, none⟩ = some (.slice Br b.reads.length cbr) := cellB hw2 (by first | with_reducible assumption | (go_simp; done) | (repeat (first | with_reducible assumption | with_reducible refine cellAlloc ?_ _ | with_reducible refine cellDrew ?_ | with_reducible refine cellDrewN ?_ _ | with_reducible refine cellSetFar ?_ (by simp; omega) _))); replace g7 : w2.cell? ⟨w.heap.size + 1, 7, none⟩ = some (.slice (some ⟨b2, o2, none⟩) b.writes.length cbw) := cellB hw2 (by first | with_reducible assumption | (go_simp; done) | (repeat (first | with_reducible assumption | with_reducible refine cellAlloc ?_ _ | with_reducible refine cellDrew ?_ | with_reducible refine cellDrewN ?_ _ | with_reducible refine cellSetFar ?_ (by simp; omega) _))); replace e0 : w2.cell? ⟨b1, o1 + k * 3, none⟩ = some (.string x.key) := cellB hw2 (by first | with_reducible assumption | (go_simp; done) | (repeat (first | with_reducible assumption | with_reducible refine cellAlloc ?_ _ | with_reducible refine cellDrew ?_ | with_reducible refine cellDrewN ?_ _ | with_reducible refine cellSetFar ?_ (by simp; omega) _))); replace d0 : w2.cell? ⟨b2, o2 + m * 3, none⟩ = some (.string y.key) := cellB hw2 (by first | with_reducible assumption | (go_simp; done) | (repeat (first | with_reducible assumption | with_reducible refine cellAlloc ?_ _ | with_reducible refine cellDrew ?_ | with_reducible refine cellDrewN ?_ _ | with_reducible refine cellSetFar ?_ (by simp; omega) _))); replace hB := Lib.hid (chain (w := w) hw2 (by repeat (first | with_reducible exact hB.out | with_reducible exact Below.refl _ _ | with_reducible assumption | with_reducible refine allocW ?_ _ | with_reducible refine Below.drew ?_ | with_reducible refine drewNW ?_ _ | ((with_reducible refine Below.setCell ?_ ?_ _); rotate_left 1; focus (first | (simp; done) | (simp; omega)))))))
          cases hxy0 : (x.key.toList == y.key.toList)
          rotate_left 1
          · have hxy : x.key = y.key := by rw [toList_beq] at hxy0; simpa using hxy0
            have hhit : clashB a b = true := by
              unfold clashB
              rw [any_hit (f := hitB b) hx0 (by unfold hitB; rw [any_hit (f := fun y => decide (x.key = y.key)) hy0 (by simpa using hxy)]; rfl)]
              rfl
            go_wp2_with fail
            go_ret
            exact ⟨ret_bool hhit.symm, hB.out⟩
          · have hxy' : decide (x.key = y.key) = false := by rw [← toList_beq]; exact hxy0
            go_wp2_with fail
            go_roundw
            case rel => exact ⟨m + 1, by omega, by simp, any_take hy0 hNO2.out hxy', hB.out, f6, f7, g6, g7, e0⟩
            case measure => simp [intOf]; omega
        · obtain rfl : m = b.writes.length := by omega
          have hno3 := hNO2.out
          rw [List.take_length] at hno3
          have hN2 := Lib.hid hno3
          clear hno3
          go_wp2_with fail
          go_loopw [7] (fun i wr => ∃ m : Nat, m ≤ b.reads.length ∧ i = .int .i64 m ∧ (b.reads.take m).any (fun s => insideB x.key s.lo s.hi) = false ∧ Below w.heap.size w wr ∧ wr.cell? ⟨w.heap.size, 6, none⟩ = some (.slice Ar a.reads.length car) ∧ wr.cell? ⟨w.heap.size, 7, none⟩ = some (.slice (some ⟨b1, o1, none⟩) a.writes.length caw) ∧ wr.cell? ⟨w.heap.size + 1, 6, none⟩ = some (.slice Br b.reads.length cbr) ∧ wr.cell? ⟨w.heap.size + 1, 7, none⟩ = some (.slice Bw b.writes.length cbw) ∧ wr.cell? ⟨b1, o1 + k * 3, none⟩ = some (.string x.key)) (fun i _ => b.reads.length - (intOf i).toNat)
          case atStart => exact ⟨0, Nat.zero_le _, rfl, rfl, hB.out, f6, f7, g6, g7, e0⟩
          case round =>
            obtain ⟨m, hm, rfl, hno3, hbw, f6, f7, g6, g7, e0⟩ := hrel
            have hNO3 := Lib.hid hno3
            clear hno3
            obtain ⟨wm, hwm⟩ : ∃ wm, wm = wr := ⟨_, rfl⟩
            rw [← hwm] at hbw f6 f7 g6 g7 e0
            replace hB := Lib.hid hbw
            clear hbw
            subst hwm
            by_cases hml : m < b.reads.length
            · have hs0 : b.reads[m]? = some b.reads[m] := List.getElem?_eq_getElem hml
              obtain ⟨b2, o2, rfl, hE⟩ := hBR.out.below hB.out m b.reads[m] hs0
              generalize b.reads[m] = s at *
              have d0 := hE 0 _ rfl
              have d1 := hE 1 _ rfl
              simp only [Nat.add_zero] at d0
              clear hE
              cases hin : insideB x.key s.lo s.hi
              all_goals
                go_wp2_with fail
                (refine wp_region_below mixed (by kernel_rfl) ?_; (repeat (first | (refine bstep_off rfl ?_; simp only [Act.put, List.setIfInBounds_toArray, List.set_cons_succ, List.set_cons_zero]) | (refine bstep rfl ?_; apply Exists.intro; refine ⟨fun w2 hw2 _ => ?_, ?_⟩; (have qf6 := cellB hw2 f6; have qf7 := cellB hw2 f7; have qg6 := cellB hw2 g6; have qg7 := cellB hw2 g7; have qe0 := cellB hw2 e0; have qd0 := cellB hw2 d0; have qd1 := cellB hw2 d1; go_simp; first | (exact ⟨rfl, rfl⟩) | rfl | (go_at_call 10; refine (inside10 _ _ _ _).mono ?_; rintro e w3 ⟨he, h⟩; exact ⟨he, chain h hw2⟩)); simp only [Act.put, List.setIfInBounds_toArray, List.set_cons_succ, List.set_cons_zero]) | (refine bstep_on rfl ?_; apply Exists.intro; refine ⟨fun w2 hw2 _ => ?_, ?_⟩; (have qf6 := cellB hw2 f6; have qf7 := cellB hw2 f7; have qg6 := cellB hw2 g6; have qg7 := cellB hw2 g7; have qe0 := cellB hw2 e0; have qd0 := cellB hw2 d0; have qd1 := cellB hw2 d1; go_simp; first | (exact ⟨rfl, rfl⟩) | rfl | (go_at_call 10; refine (inside10 _ _ _ _).mono ?_; rintro e w3 ⟨he, h⟩; exact ⟨he, chain h hw2⟩)); simp only [Act.put, List.setIfInBounds_toArray, List.set_cons_succ, List.set_cons_zero]))); refine wq_nil ?_; intro w2 hw2; replace f6 : w2.cell? ⟨w.heap.size, 6, none⟩ = some (.slice Ar a.reads.length car) := cellB hw2 (by first | with_reducible assumption | (go_simp; done) | (repeat (first | with_reducible assumption | with_reducible refine cellAlloc ?_ _ | with_reducible refine cellDrew ?_ | with_reducible refine cellDrewN ?_ _ | with_reducible refine cellSetFar ?_ (by simp; omega) _))); replace f7 : w2.cell? ⟨w.heap.size, 7, none⟩ = some (.slice (some ⟨b1, o1, none⟩) a.writes.length caw) := cellB hw2 (by first | with_reducible assumption | (go_simp; done) | (repeat (first | with_reducible assumption | with_reducible refine cellAlloc ?_ _ | with_reducible refine cellDrew ?_ | with_reducible refine cellDrewN ?_ _ | with_reducible refine cellSetFar ?_ (by simp; omega) _))); replace g6 : w2.cell? ⟨w.heap.size + 1, 6, none⟩ = some (.slice (some ⟨b2, o2, none⟩) b.reads.length cbr) := cellB hw2 (by first | with_reducible assumption | (go_simp; done) | (repeat (first | with_reducible assumption | with_reducible refine cellAlloc ?_ _ | with_reducible refine cellDrew ?_ | with_reducible refine cellDrewN ?_ _ | with_reducible refine cellSetFar ?_ (by simp; omega) _))); replace g7 : w2.cell? ⟨w.heap.size + 1, 7, none⟩ = some (.slice Bw b.writes.length cbw) := cellB hw2 (by first | with_reducible assumption | (go_simp; done) | (repeat (first | with_reducible assumption | with_reducible refine cellAlloc ?_ _ | with_reducible refine cellDrew ?_ | with_reducible refine cellDrewN ?_ _ | with_reducible refine cellSetFar ?_ (by simp; omega) _))); replace e0 : w2.cell? ⟨b1, o1 + k * 3, none⟩ = some (.string x.key) := cellB hw2 (by first | with_reducible assumption | (go_simp; done) | (repeat (first | with_reducible assumption | with_reducible refine cellAlloc ?_ _ | with_reducible refine cellDrew ?_ | with_reducible refine cellDrewN ?_ _ | with_reducible refine cellSetFar ?_ (by simp; omega) _))); replace d0 : w2.cell? ⟨b2, o2 + m * 2, none⟩ = some (.string s.lo) := cellB hw2 (by first | with_reducible assumption | (go_simp; done) | (repeat (first | with_reducible assumption | with_reducible refine cellAlloc ?_ _ | with_reducible refine cellDrew ?_ | with_reducible refine cellDrewN ?_ _ | with_reducible refine cellSetFar ?_ (by simp; omega) _))); replace d1 : w2.cell? ⟨b2, o2 + m * 2 + 1, none⟩ = some (.string s.hi) := cellB hw2 (by first | with_reducible assumption | (go_simp; done) | (repeat (first | with_reducible assumption | with_reducible refine cellAlloc ?_ _ | with_reducible refine cellDrew ?_ | with_reducible refine cellDrewN ?_ _ | with_reducible refine cellSetFar ?_ (by simp; omega) _))); replace hB := Lib.hid (chain (w := w) hw2 (by repeat (first | with_reducible exact hB.out | with_reducible exact Below.refl _ _ | with_reducible assumption | with_reducible refine allocW ?_ _ | with_reducible refine Below.drew ?_ | with_reducible refine drewNW ?_ _ | ((with_reducible refine Below.setCell ?_ ?_ _); rotate_left 1; focus (first | (simp; done) | (simp; omega)))))))
                simp only [hin]
              · go_wp2_with fail
                go_roundw
                case rel => exact ⟨m + 1, by omega, by simp, any_take hs0 hNO3.out hin, hB.out, f6, f7, g6, g7, e0⟩
                case measure => simp [intOf]; omega
              · have hhit : clashB a b = true := by
                  unfold clashB
                  rw [any_hit (f := hitB b) hx0 (by unfold hitB; rw [any_hit (f := fun s => insideB x.key s.lo s.hi) hs0 hin]; simp)]
                  rfl
                go_wp2_with fail
                go_ret
                exact ⟨ret_bool hhit.symm, hB.out⟩
            · obtain rfl : m = b.reads.length := by omega
              have hno4 := hNO3.out
              rw [List.take_length] at hno4
              have hN4 := Lib.hid (any_take (f := hitB b) hx0 hNO.out (by unfold hitB; rw [hN2.out, hno4]; rfl))
              clear hno4
              go_wp2_with fail
              go_roundw
              case rel => exact ⟨k + 1, by omega, by simp, hN4.out, hB.out, f6, f7, g6, g7⟩
              case measure => simp [intOf]; omega
    · obtain rfl : k = a.writes.length := by omega
      have hno3 := hNO.out
      rw [List.take_length] at hno3
      have hN1 := Lib.hid hno3
      clear hno3
      go_wp2_with fail
      go_loopw [8] (fun i wr => ∃ k : Nat, k ≤ b.writes.length ∧ i = .int .i64 k ∧ (b.writes.take k).any (fun y => a.reads.any fun s => insideB y.key s.lo s.hi) = false ∧ Below w.heap.size w wr ∧ wr.cell? ⟨w.heap.size, 6, none⟩ = some (.slice Ar a.reads.length car) ∧ wr.cell? ⟨w.heap.size, 7, none⟩ = some (.slice Aw a.writes.length caw) ∧ wr.cell? ⟨w.heap.size + 1, 6, none⟩ = some (.slice Br b.reads.length cbr) ∧ wr.cell? ⟨w.heap.size + 1, 7, none⟩ = some (.slice Bw b.writes.length cbw)) (fun i _ => b.writes.length - (intOf i).toNat)
      case atStart => exact ⟨0, Nat.zero_le _, rfl, rfl, hB.out, f6, f7, g6, g7⟩
      case round =>
        obtain ⟨k, hk, rfl, hno, hbw, f6, f7, g6, g7⟩ := hrel
        have hNO := Lib.hid hno
        clear hno
        obtain ⟨wk, hwk⟩ : ∃ wk, wk = wr := ⟨_, rfl⟩
        rw [← hwk] at hbw f6 f7 g6 g7
        replace hB := Lib.hid hbw
        clear hbw
        subst hwk
        by_cases hkl : k < b.writes.length
        · have hx0 : b.writes[k]? = some b.writes[k] := List.getElem?_eq_getElem hkl
          obtain ⟨b1, o1, rfl, hE⟩ := hBW.out.below hB.out k b.writes[k] hx0
          generalize b.writes[k] = x at *
          have e0 := hE 0 _ rfl
          simp only [Nat.add_zero] at e0
          clear hE
          go_wp2_with fail
          go_loopw [9] (fun i wr => ∃ m : Nat, m ≤ a.reads.length ∧ i = .int .i64 m ∧ (a.reads.take m).any (fun s => insideB x.key s.lo s.hi) = false ∧ Below w.heap.size w wr ∧ wr.cell? ⟨w.heap.size, 6, none⟩ = some (.slice Ar a.reads.length car) ∧ wr.cell? ⟨w.heap.size, 7, none⟩ = some (.slice Aw a.writes.length caw) ∧ wr.cell? ⟨w.heap.size + 1, 6, none⟩ = some (.slice Br b.reads.length cbr) ∧ wr.cell? ⟨w.heap.size + 1, 7, none⟩ = some (.slice (some ⟨b1, o1, none⟩) b.writes.length cbw) ∧ wr.cell? ⟨b1, o1 + k * 3, none⟩ = some (.string x.key)) (fun i _ => a.reads.length - (intOf i).toNat)
          case atStart => exact ⟨0, Nat.zero_le _, rfl, rfl, hB.out, f6, f7, g6, g7, e0⟩
          case round =>
            obtain ⟨m, hm, rfl, hno3, hbw, f6, f7, g6, g7, e0⟩ := hrel
            have hNO3 := Lib.hid hno3
            clear hno3
            obtain ⟨wm, hwm⟩ : ∃ wm, wm = wr := ⟨_, rfl⟩
            rw [← hwm] at hbw f6 f7 g6 g7 e0
            replace hB := Lib.hid hbw
            clear hbw
            subst hwm
            by_cases hml : m < a.reads.length
            · have hs0 : a.reads[m]? = some a.reads[m] := List.getElem?_eq_getElem hml
              obtain ⟨b2, o2, rfl, hE⟩ := hAR.out.below hB.out m a.reads[m] hs0
              generalize a.reads[m] = s at *
              have d0 := hE 0 _ rfl
              have d1 := hE 1 _ rfl
              simp only [Nat.add_zero] at d0
              clear hE
              cases hin : insideB x.key s.lo s.hi
              all_goals
                go_wp2_with fail
                (refine wp_region_below mixed (by kernel_rfl) ?_; (repeat (first | (refine bstep_off rfl ?_; simp only [Act.put, List.setIfInBounds_toArray, List.set_cons_succ, List.set_cons_zero]) | (refine bstep rfl ?_; apply Exists.intro; refine ⟨fun w2 hw2 _ => ?_, ?_⟩; (have qf6 := cellB hw2 f6; have qf7 := cellB hw2 f7; have qg6 := cellB hw2 g6; have qg7 := cellB hw2 g7; have qe0 := cellB hw2 e0; have qd0 := cellB hw2 d0; have qd1 := cellB hw2 d1; go_simp; first | (exact ⟨rfl, rfl⟩) | rfl | (go_at_call 10; refine (inside10 _ _ _ _).mono ?_; rintro e w3 ⟨he, h⟩; exact ⟨he, chain h hw2⟩)); simp only [Act.put, List.setIfInBounds_toArray, List.set_cons_succ, List.set_cons_zero]) | (refine bstep_on rfl ?_; apply Exists.intro; refine ⟨fun w2 hw2 _ => ?_, ?_⟩; (have qf6 := cellB hw2 f6; have qf7 := cellB hw2 f7; have qg6 := cellB hw2 g6; have qg7 := cellB hw2 g7; have qe0 := cellB hw2 e0; have qd0 := cellB hw2 d0; have qd1 := cellB hw2 d1; go_simp; first | (exact ⟨rfl, rfl⟩) | rfl | (go_at_call 10; refine (inside10 _ _ _ _).mono ?_; rintro e w3 ⟨he, h⟩; exact ⟨he, chain h hw2⟩)); simp only [Act.put, List.setIfInBounds_toArray, List.set_cons_succ, List.set_cons_zero]))); refine wq_nil ?_; intro w2 hw2; replace f6 : w2.cell? ⟨w.heap.size, 6, none⟩ = some (.slice (some ⟨b2, o2, none⟩) a.reads.length car) := cellB hw2 (by first | with_reducible assumption | (go_simp; done) | (repeat (first | with_reducible assumption | with_reducible refine cellAlloc ?_ _ | with_reducible refine cellDrew ?_ | with_reducible refine cellDrewN ?_ _ | with_reducible refine cellSetFar ?_ (by simp; omega) _))); replace f7 : w2.cell? ⟨w.heap.size, 7, none⟩ = some (.slice Aw a.writes.length caw) := cellB hw2 (by first | with_reducible assumption | (go_simp; done) | (repeat (first | with_reducible assumption | with_reducible refine cellAlloc ?_ _ | with_reducible refine cellDrew ?_ | with_reducible refine cellDrewN ?_ _ | with_reducible refine cellSetFar ?_ (by simp; omega) _))); replace g6 : w2.cell? ⟨w.heap.size + 1, 6, none⟩ = some (.slice Br b.reads.length cbr) := cellB hw2 (by first | with_reducible assumption | (go_simp; done) | (repeat (first | with_reducible assumption | with_reducible refine cellAlloc ?_ _ | with_reducible refine cellDrew ?_ | with_reducible refine cellDrewN ?_ _ | with_reducible refine cellSetFar ?_ (by simp; omega) _))); replace g7 : w2.cell? ⟨w.heap.size + 1, 7, none⟩ = some (.slice (some ⟨b1, o1, none⟩) b.writes.length cbw) := cellB hw2 (by first | with_reducible assumption | (go_simp; done) | (repeat (first | with_reducible assumption | with_reducible refine cellAlloc ?_ _ | with_reducible refine cellDrew ?_ | with_reducible refine cellDrewN ?_ _ | with_reducible refine cellSetFar ?_ (by simp; omega) _))); replace e0 : w2.cell? ⟨b1, o1 + k * 3, none⟩ = some (.string x.key) := cellB hw2 (by first | with_reducible assumption | (go_simp; done) | (repeat (first | with_reducible assumption | with_reducible refine cellAlloc ?_ _ | with_reducible refine cellDrew ?_ | with_reducible refine cellDrewN ?_ _ | with_reducible refine cellSetFar ?_ (by simp; omega) _))); replace d0 : w2.cell? ⟨b2, o2 + m * 2, none⟩ = some (.string s.lo) := cellB hw2 (by first | with_reducible assumption | (go_simp; done) | (repeat (first | with_reducible assumption | with_reducible refine cellAlloc ?_ _ | with_reducible refine cellDrew ?_ | with_reducible refine cellDrewN ?_ _ | with_reducible refine cellSetFar ?_ (by simp; omega) _))); replace d1 : w2.cell? ⟨b2, o2 + m * 2 + 1, none⟩ = some (.string s.hi) := cellB hw2 (by first | with_reducible assumption | (go_simp; done) | (repeat (first | with_reducible assumption | with_reducible refine cellAlloc ?_ _ | with_reducible refine cellDrew ?_ | with_reducible refine cellDrewN ?_ _ | with_reducible refine cellSetFar ?_ (by simp; omega) _))); replace hB := Lib.hid (chain (w := w) hw2 (by repeat (first | with_reducible exact hB.out | with_reducible exact Below.refl _ _ | with_reducible assumption | with_reducible refine allocW ?_ _ | with_reducible refine Below.drew ?_ | with_reducible refine drewNW ?_ _ | ((with_reducible refine Below.setCell ?_ ?_ _); rotate_left 1; focus (first | (simp; done) | (simp; omega)))))))
                simp only [hin]
              · go_wp2_with fail
                go_roundw
                case rel => exact ⟨m + 1, by omega, by simp, any_take hs0 hNO3.out hin, hB.out, f6, f7, g6, g7, e0⟩
                case measure => simp [intOf]; omega
              · have hhit : clashB a b = true := by
                  unfold clashB
                  rw [any_hit (f := fun y : Wr => a.reads.any fun s => insideB y.key s.lo s.hi) hx0 (any_hit (f := fun s => insideB x.key s.lo s.hi) hs0 hin)]
                  simp
                go_wp2_with fail
                go_ret
                exact ⟨ret_bool hhit.symm, hB.out⟩
            · obtain rfl : m = a.reads.length := by omega
              have hno4 := hNO3.out
              rw [List.take_length] at hno4
              have hN4 := Lib.hid (any_take (f := fun y : Wr => a.reads.any fun s => insideB y.key s.lo s.hi) hx0 hNO.out hno4)
              clear hno4
              go_wp2_with fail
              go_roundw
              case rel => exact ⟨k + 1, by omega, by simp, hN4.out, hB.out, f6, f7, g6, g7⟩
              case measure => simp [intOf]; omega
        · obtain rfl : k = b.writes.length := by omega
          have hno3 := hNO.out
          rw [List.take_length] at hno3
          have hhit : clashB a b = false := by unfold clashB; rw [hN1.out, hno3]; rfl
          go_wp2_with fail
          go_ret
          exact ⟨ret_bool hhit.symm, hB.out⟩
end Go.Proofs.Ytledfhoifdihhaa
