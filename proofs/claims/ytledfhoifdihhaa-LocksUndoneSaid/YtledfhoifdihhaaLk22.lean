/- apart: the law's: it says true. -/
import Derived.Test.YtledfhoifdihhaaLk20
namespace Go.Proofs.Ytledfhoifdihhaa
open Go.RowKit
set_option linter.unusedVariables false
set_option linter.unusedSimpArgs false
/-- strictly rising, no two meet -/
def Apart (xs : List Hd) : Prop := xs.Pairwise fun a b => beforeB a.txn b.txn = true ∧ clashB b a = false
theorem apart_of {L xs : List Hd} {I : List (ByteArray × Txn)} (hG : Good L I) (h : AllOf L xs) : Apart xs := by
  have hn : (xs.map (·.txn)).Nodup := (h.1.map _).nodup_iff.2 hG.nodup
  have h2 := h.2
  unfold Apart
  rw [List.pairwise_iff_getElem] at h2 ⊢
  intro i j hi hj hij
  refine ⟨h2 i j hi hj hij, ?_⟩
  rw [clash_meet]
  refine hG.apart _ (h.1.mem_iff.1 (List.getElem_mem hj)) _ (h.1.mem_iff.1 (List.getElem_mem hi)) fun he => ?_
  have := (List.getElem_inj hn (i := j) (j := i) (h₀ := by simpa using hj) (h₁ := by simpa using hi)).1 (by simpa using he)
  omega
set_option maxHeartbeats 4000000 in
theorem apart19 (v : Value) (xs : List Hd) (w : World) (h1 : HdsAt w v xs) (hA : Apart xs) :
    Calls Try.prog 19 #[v] w fun r w' => r = .returned (.bool true) ∧ Below w.heap.size w w' := by
  have hX := Lib.hid h1
  have hAp := Lib.hid (List.pairwise_iff_getElem.1 hA)
  obtain ⟨Ax, capx, rfl, lx, _⟩ := h1.len
  have hB := Lib.hid (Below.refl w.heap.size w)
  clear h1 hA
  go_enter Try.func19, Try.ntmps19
  go_wp2_with fail
  go_loopw [3] (fun i wr => ∃ k : Nat, k ≤ xs.length ∧ i = .int .i64 k ∧ Below w.heap.size w wr) (fun i _ => xs.length - (intOf i).toNat)
  case atStart => exact ⟨0, Nat.zero_le _, rfl, by repeat (first | with_reducible exact hB.out | with_reducible exact Below.refl _ _ | with_reducible assumption | with_reducible refine allocW ?_ _ | with_reducible refine Below.drew ?_ | with_reducible refine drewNW ?_ _ | ((with_reducible refine Below.setCell ?_ ?_ _); rotate_left 1; focus (first | (simp; done) | (simp; omega))))⟩
  case round =>
    obtain ⟨k, hk, rfl, hbw⟩ := hrel
    obtain ⟨wk, hwk⟩ : ∃ wk, wk = wr := ⟨_, rfl⟩
    rw [← hwk] at hbw
    replace hB := Lib.hid hbw
    subst hwk
    by_cases hkl : k < xs.length
    · have hx0 : xs[k]? = some xs[k] := List.getElem?_eq_getElem hkl
      have hXw := hX.out.below hbw
      have hap : ∀ (j : Nat) z, j < k → xs[j]? = some z → beforeB z.txn xs[k].txn = true ∧ clashB xs[k] z = false := fun j z hj hz => by
        have hjl : j < xs.length := by omega
        rw [List.getElem?_eq_getElem hjl] at hz
        cases hz
        exact hAp.out j k hjl hkl hj
      have hApk := Lib.hid hap
      clear hap
      generalize xs[k] = x at *
      obtain ⟨b1, o1, cp1, Rx, cRx, Ux, cUx, hv9, hec, her, hew⟩ := hXw.at hx0; cases hv9; have e0 := hec 0 _ rfl; have e1 := hec 1 _ rfl; have e2 := hec 2 _ rfl; have e3 := hec 3 _ rfl; have e4 := hec 4 _ rfl; have e5 := hec 5 _ rfl; have e6 := hec 6 _ rfl; have e7 := hec 7 _ rfl; simp only [Nat.add_zero] at e0; have hev : HdV _ _ x := ⟨_, _, rfl, her, hew⟩; have heV := Lib.hid hev; clear hec her hew hev
      have hX2 := Lib.hid hXw
      clear hXw hbw
      rcases k with _ | kp
      · simp only [Nat.zero_mul, Nat.add_zero] at e0 e1 e2 e3 e4 e5 e6 e7
        go_wp2_with fail
        (refine wp_region_below mixed (by kernel_rfl) ?_; (repeat (first | (refine bstep_off rfl ?_; simp only [Act.put, List.setIfInBounds_toArray, List.set_cons_succ, List.set_cons_zero]) | (refine bstep rfl ?_; apply Exists.intro; refine ⟨fun w2 hw2 _ => ?_, ?_⟩; (go_simp; first | (exact ⟨rfl, rfl⟩) | rfl); simp only [Act.put, List.setIfInBounds_toArray, List.set_cons_succ, List.set_cons_zero]) | (refine bstep_on rfl ?_; apply Exists.intro; refine ⟨fun w2 hw2 _ => ?_, ?_⟩; (go_simp; first | (exact ⟨rfl, rfl⟩) | rfl); simp only [Act.put, List.setIfInBounds_toArray, List.set_cons_succ, List.set_cons_zero]))); refine wq_nil ?_; intro w2 hw2; replace hB := Lib.hid (chain (w := w) hw2 (by repeat (first | with_reducible exact hB.out | with_reducible exact Below.refl _ _ | with_reducible assumption | with_reducible refine allocW ?_ _ | with_reducible refine Below.drew ?_ | with_reducible refine drewNW ?_ _ | ((with_reducible refine Below.setCell ?_ ?_ _); rotate_left 1; focus (first | (simp; done) | (simp; omega)))))))
        clear e0 e1 e2 e3 e4 e5 e6 e7
        have hXn := Lib.hid (hX2.out.below hw2)
        have hVn := Lib.hid (heV.out.below hw2)
        have hB0 := Lib.hid (Below.refl w2.heap.size w2)
        clear hw2
        obtain ⟨wn, hwn⟩ : ∃ wn, wn = w2 := ⟨_, rfl⟩
        subst hwn
        go_wp2_with fail
        go_loopw [4] (fun i wr => ∃ m : Nat, m ≤ 0 ∧ i = .int .i64 m ∧ Below w.heap.size w wr ∧ Below wn.heap.size wn wr) (fun i _ => 0 - (intOf i).toNat)
        case atStart => exact ⟨0, Nat.zero_le _, rfl, hB.out, hB0.out⟩
        case round =>
          obtain ⟨m, hm, rfl, hbw, hbn⟩ := hrel
          obtain ⟨wk, hwk⟩ : ∃ wk, wk = wr := ⟨_, rfl⟩
          rw [← hwk] at hbw hbn
          replace hB := Lib.hid hbw
          replace hB0 := Lib.hid hbn
          subst hwk
          by_cases hml : m < 0
          · exact absurd hml (Nat.not_lt_zero _)
          · obtain rfl : m = 0 := by omega
            clear hbn hbw
            go_wp2_with fail
            go_roundw
            case rel => exact ⟨0 + 1, by omega, by simp, hB.out⟩
            case measure => simp [intOf]; omega
      · have hkp : kp < xs.length := by omega
        have hy0 : xs[kp]? = some xs[kp] := List.getElem?_eq_getElem hkp
        generalize xs[kp] = y at *
        have hbf := (hApk.out kp y (Nat.lt_succ_self _) hy0).1
        have hXw := hX2.out
        obtain ⟨b2, o2, cp2, Ry, cRy, Uy, cUy, hv9, hdc, hdr, hdw⟩ := hXw.at hy0; cases hv9; have d0 := hdc 0 _ rfl; have d1 := hdc 1 _ rfl; have d2 := hdc 2 _ rfl; have d3 := hdc 3 _ rfl; have d4 := hdc 4 _ rfl; have d5 := hdc 5 _ rfl; have d6 := hdc 6 _ rfl; have d7 := hdc 7 _ rfl; simp only [Nat.add_zero] at d0; have hdv : HdV _ _ y := ⟨_, _, rfl, hdr, hdw⟩; have hdV := Lib.hid hdv; clear hdc hdr hdw hdv
        clear hXw
        have hpos : (0 : Int) < ↑kp + 1 := by omega
        have hwr : IntKind.i64.wrap (kp : Int) = kp := by simp [IntKind.wrap, IntKind.bits, IntKind.signed]; omega
        go_wp2_with fail
        (refine wp_region_below mixed (by kernel_rfl) ?_; (repeat (first | (refine bstep_off rfl ?_; simp only [Act.put, List.setIfInBounds_toArray, List.set_cons_succ, List.set_cons_zero]) | (refine bstep rfl ?_; apply Exists.intro; refine ⟨fun w2 hw2 _ => ?_, ?_⟩; (have qe0 := cellB hw2 e0; have qe1 := cellB hw2 e1; have qe2 := cellB hw2 e2; have qe3 := cellB hw2 e3; have qe4 := cellB hw2 e4; have qe5 := cellB hw2 e5; have qe6 := cellB hw2 e6; have qe7 := cellB hw2 e7; have qd0 := cellB hw2 d0; have qd1 := cellB hw2 d1; have qd2 := cellB hw2 d2; have qd3 := cellB hw2 d3; have qd4 := cellB hw2 d4; have qd5 := cellB hw2 d5; have qd6 := cellB hw2 d6; have qd7 := cellB hw2 d7; go_simp; first | (exact ⟨rfl, rfl⟩) | rfl | (go_at_call 38; refine (before38 y.txn x.txn _).mono ?_; rintro e w3 ⟨he, h⟩; exact ⟨he, chain h hw2⟩)); simp only [Act.put, List.setIfInBounds_toArray, List.set_cons_succ, List.set_cons_zero]) | (refine bstep_on rfl ?_; apply Exists.intro; refine ⟨fun w2 hw2 _ => ?_, ?_⟩; (have qe0 := cellB hw2 e0; have qe1 := cellB hw2 e1; have qe2 := cellB hw2 e2; have qe3 := cellB hw2 e3; have qe4 := cellB hw2 e4; have qe5 := cellB hw2 e5; have qe6 := cellB hw2 e6; have qe7 := cellB hw2 e7; have qd0 := cellB hw2 d0; have qd1 := cellB hw2 d1; have qd2 := cellB hw2 d2; have qd3 := cellB hw2 d3; have qd4 := cellB hw2 d4; have qd5 := cellB hw2 d5; have qd6 := cellB hw2 d6; have qd7 := cellB hw2 d7; go_simp; first | (exact ⟨rfl, rfl⟩) | rfl | (go_at_call 38; refine (before38 y.txn x.txn _).mono ?_; rintro e w3 ⟨he, h⟩; exact ⟨he, chain h hw2⟩)); simp only [Act.put, List.setIfInBounds_toArray, List.set_cons_succ, List.set_cons_zero]))); refine wq_nil ?_; intro w2 hw2; replace e0 : w2.cell? ⟨b1, o1 + (kp + 1) * 8, none⟩ = some (.int .u32 x.txn.c) := cellB hw2 (by first | with_reducible assumption | (go_simp; done) | (repeat (first | with_reducible assumption | with_reducible refine cellAlloc ?_ _ | with_reducible refine cellDrew ?_ | with_reducible refine cellDrewN ?_ _ | with_reducible refine cellSetFar ?_ (by simp; omega) _))); replace e1 : w2.cell? ⟨b1, o1 + (kp + 1) * 8 + 1, none⟩ = some (.int .u32 x.txn.s) := cellB hw2 (by first | with_reducible assumption | (go_simp; done) | (repeat (first | with_reducible assumption | with_reducible refine cellAlloc ?_ _ | with_reducible refine cellDrew ?_ | with_reducible refine cellDrewN ?_ _ | with_reducible refine cellSetFar ?_ (by simp; omega) _))); replace e2 : w2.cell? ⟨b1, o1 + (kp + 1) * 8 + 2, none⟩ = some (.int .u32 x.home) := cellB hw2 (by first | with_reducible assumption | (go_simp; done) | (repeat (first | with_reducible assumption | with_reducible refine cellAlloc ?_ _ | with_reducible refine cellDrew ?_ | with_reducible refine cellDrewN ?_ _ | with_reducible refine cellSetFar ?_ (by simp; omega) _))); replace e3 : w2.cell? ⟨b1, o1 + (kp + 1) * 8 + 3, none⟩ = some (.int .u64 x.at_.w) := cellB hw2 (by first | with_reducible assumption | (go_simp; done) | (repeat (first | with_reducible assumption | with_reducible refine cellAlloc ?_ _ | with_reducible refine cellDrew ?_ | with_reducible refine cellDrewN ?_ _ | with_reducible refine cellSetFar ?_ (by simp; omega) _))); replace e4 : w2.cell? ⟨b1, o1 + (kp + 1) * 8 + 4, none⟩ = some (.int .u32 x.at_.l) := cellB hw2 (by first | with_reducible assumption | (go_simp; done) | (repeat (first | with_reducible assumption | with_reducible refine cellAlloc ?_ _ | with_reducible refine cellDrew ?_ | with_reducible refine cellDrewN ?_ _ | with_reducible refine cellSetFar ?_ (by simp; omega) _))); replace e5 : w2.cell? ⟨b1, o1 + (kp + 1) * 8 + 5, none⟩ = some (.int .u32 x.at_.n) := cellB hw2 (by first | with_reducible assumption | (go_simp; done) | (repeat (first | with_reducible assumption | with_reducible refine cellAlloc ?_ _ | with_reducible refine cellDrew ?_ | with_reducible refine cellDrewN ?_ _ | with_reducible refine cellSetFar ?_ (by simp; omega) _))); replace e6 : w2.cell? ⟨b1, o1 + (kp + 1) * 8 + 6, none⟩ = some (.slice Rx x.reads.length cRx) := cellB hw2 (by first | with_reducible assumption | (go_simp; done) | (repeat (first | with_reducible assumption | with_reducible refine cellAlloc ?_ _ | with_reducible refine cellDrew ?_ | with_reducible refine cellDrewN ?_ _ | with_reducible refine cellSetFar ?_ (by simp; omega) _))); replace e7 : w2.cell? ⟨b1, o1 + (kp + 1) * 8 + 7, none⟩ = some (.slice Ux x.writes.length cUx) := cellB hw2 (by first | with_reducible assumption | (go_simp; done) | (repeat (first | with_reducible assumption | with_reducible refine cellAlloc ?_ _ | with_reducible refine cellDrew ?_ | with_reducible refine cellDrewN ?_ _ | with_reducible refine cellSetFar ?_ (by simp; omega) _))); replace d0 : w2.cell? ⟨b1, o1 + kp * 8, none⟩ = some (.int .u32 y.txn.c) := cellB hw2 (by first | with_reducible assumption | (go_simp; done) | (repeat (first | with_reducible assumption | with_reducible refine cellAlloc ?_ _ | with_reducible refine cellDrew ?_ | with_reducible refine cellDrewN ?_ _ | with_reducible refine cellSetFar ?_ (by simp; omega) _))); replace d1 : w2.cell? ⟨b1, o1 + kp * 8 + 1, none⟩ = some (.int .u32 y.txn.s) := cellB hw2 (by first | with_reducible assumption | (go_simp; done) | (repeat (first | with_reducible assumption | with_reducible refine cellAlloc ?_ _ | with_reducible refine cellDrew ?_ | with_reducible refine cellDrewN ?_ _ | with_reducible refine cellSetFar ?_ (by simp; omega) _))); replace d2 : w2.cell? ⟨b1, o1 + kp * 8 + 2, none⟩ = some (.int .u32 y.home) := cellB hw2 (by first | with_reducible assumption | (go_simp; done) | (repeat (first | with_reducible assumption | with_reducible refine cellAlloc ?_ _ | with_reducible refine cellDrew ?_ | with_reducible refine cellDrewN ?_ _ | with_reducible refine cellSetFar ?_ (by simp; omega) _))); replace d3 : w2.cell? ⟨b1, o1 + kp * 8 + 3, none⟩ = some (.int .u64 y.at_.w) := cellB hw2 (by first | with_reducible assumption | (go_simp; done) | (repeat (first | with_reducible assumption | with_reducible refine cellAlloc ?_ _ | with_reducible refine cellDrew ?_ | with_reducible refine cellDrewN ?_ _ | with_reducible refine cellSetFar ?_ (by simp; omega) _))); replace d4 : w2.cell? ⟨b1, o1 + kp * 8 + 4, none⟩ = some (.int .u32 y.at_.l) := cellB hw2 (by first | with_reducible assumption | (go_simp; done) | (repeat (first | with_reducible assumption | with_reducible refine cellAlloc ?_ _ | with_reducible refine cellDrew ?_ | with_reducible refine cellDrewN ?_ _ | with_reducible refine cellSetFar ?_ (by simp; omega) _))); replace d5 : w2.cell? ⟨b1, o1 + kp * 8 + 5, none⟩ = some (.int .u32 y.at_.n) := cellB hw2 (by first | with_reducible assumption | (go_simp; done) | (repeat (first | with_reducible assumption | with_reducible refine cellAlloc ?_ _ | with_reducible refine cellDrew ?_ | with_reducible refine cellDrewN ?_ _ | with_reducible refine cellSetFar ?_ (by simp; omega) _))); replace d6 : w2.cell? ⟨b1, o1 + kp * 8 + 6, none⟩ = some (.slice Ry y.reads.length cRy) := cellB hw2 (by first | with_reducible assumption | (go_simp; done) | (repeat (first | with_reducible assumption | with_reducible refine cellAlloc ?_ _ | with_reducible refine cellDrew ?_ | with_reducible refine cellDrewN ?_ _ | with_reducible refine cellSetFar ?_ (by simp; omega) _))); replace d7 : w2.cell? ⟨b1, o1 + kp * 8 + 7, none⟩ = some (.slice Uy y.writes.length cUy) := cellB hw2 (by first | with_reducible assumption | (go_simp; done) | (repeat (first | with_reducible assumption | with_reducible refine cellAlloc ?_ _ | with_reducible refine cellDrew ?_ | with_reducible refine cellDrewN ?_ _ | with_reducible refine cellSetFar ?_ (by simp; omega) _))); replace hB := Lib.hid (chain (w := w) hw2 (by repeat (first | with_reducible exact hB.out | with_reducible exact Below.refl _ _ | with_reducible assumption | with_reducible refine allocW ?_ _ | with_reducible refine Below.drew ?_ | with_reducible refine drewNW ?_ _ | ((with_reducible refine Below.setCell ?_ ?_ _); rotate_left 1; focus (first | (simp; done) | (simp; omega)))))))
        simp only [hbf]
        clear d0 d1 d2 d3 d4 d5 d6 d7 e0 e1 e2 e3 e4 e5 e6 e7
        have hXn := Lib.hid (hX2.out.below hw2)
        have hVn := Lib.hid (heV.out.below hw2)
        have hB0 := Lib.hid (Below.refl w2.heap.size w2)
        clear hw2
        obtain ⟨wn, hwn⟩ : ∃ wn, wn = w2 := ⟨_, rfl⟩
        subst hwn
        go_wp2_with fail
        go_loopw [4] (fun i wr => ∃ m : Nat, m ≤ (kp + 1) ∧ i = .int .i64 m ∧ Below w.heap.size w wr ∧ Below wn.heap.size wn wr) (fun i _ => (kp + 1) - (intOf i).toNat)
        case atStart => exact ⟨0, Nat.zero_le _, rfl, hB.out, hB0.out⟩
        case round =>
          obtain ⟨m, hm, rfl, hbw, hbn⟩ := hrel
          obtain ⟨wk, hwk⟩ : ∃ wk, wk = wr := ⟨_, rfl⟩
          rw [← hwk] at hbw hbn
          replace hB := Lib.hid hbw
          replace hB0 := Lib.hid hbn
          subst hwk
          by_cases hml : m < (kp + 1)
          · have hml' : m < xs.length := by omega
            have hz0 : xs[m]? = some xs[m] := List.getElem?_eq_getElem hml'
            generalize xs[m] = z at *
            have hcl := (hApk.out m z hml hz0).2
            have hXw := hXn.out.below hbn
            have hXw2 := hXw
            obtain ⟨b3, o3, cp3, Rx2, cRx2, Ux2, cUx2, hv9, hgc, hgr, hgw⟩ := hXw.at hx0; cases hv9; have g0 := hgc 0 _ rfl; have g1 := hgc 1 _ rfl; have g2 := hgc 2 _ rfl; have g3 := hgc 3 _ rfl; have g4 := hgc 4 _ rfl; have g5 := hgc 5 _ rfl; have g6 := hgc 6 _ rfl; have g7 := hgc 7 _ rfl; simp only [Nat.add_zero] at g0; have hgv : HdV _ _ x := ⟨_, _, rfl, hgr, hgw⟩; have hgV := Lib.hid hgv; clear hgc hgr hgw hgv
            obtain ⟨b4, o4, cp4, Rz, cRz, Uz, cUz, hv9, hzc, hzr, hzw⟩ := hXw2.at hz0; cases hv9; have z0 := hzc 0 _ rfl; have z1 := hzc 1 _ rfl; have z2 := hzc 2 _ rfl; have z3 := hzc 3 _ rfl; have z4 := hzc 4 _ rfl; have z5 := hzc 5 _ rfl; have z6 := hzc 6 _ rfl; have z7 := hzc 7 _ rfl; simp only [Nat.add_zero] at z0; have hzv : HdV _ _ z := ⟨_, _, rfl, hzr, hzw⟩; have hzV := Lib.hid hzv; clear hzc hzr hzw hzv
            clear hXw hXw2 hbw hbn
            go_wp2_with fail
            (refine wp_region_below mixed (by kernel_rfl) ?_; (repeat (first | (refine bstep_off rfl ?_; simp only [Act.put, List.setIfInBounds_toArray, List.set_cons_succ, List.set_cons_zero]) | (refine bstep rfl ?_; apply Exists.intro; refine ⟨fun w2 hw2 _ => ?_, ?_⟩; (have qg0 := cellB hw2 g0; have qg1 := cellB hw2 g1; have qg2 := cellB hw2 g2; have qg3 := cellB hw2 g3; have qg4 := cellB hw2 g4; have qg5 := cellB hw2 g5; have qg6 := cellB hw2 g6; have qg7 := cellB hw2 g7; have qz0 := cellB hw2 z0; have qz1 := cellB hw2 z1; have qz2 := cellB hw2 z2; have qz3 := cellB hw2 z3; have qz4 := cellB hw2 z4; have qz5 := cellB hw2 z5; have qz6 := cellB hw2 z6; have qz7 := cellB hw2 z7; go_simp; first | (exact ⟨rfl, rfl⟩) | rfl | (go_at_call 36; refine (clash36 _ _ x z _ (hgV.out.below hw2) (hzV.out.below hw2)).mono ?_; rintro e w3 ⟨he, h⟩; exact ⟨he, chain h hw2⟩)); simp only [Act.put, List.setIfInBounds_toArray, List.set_cons_succ, List.set_cons_zero]) | (refine bstep_on rfl ?_; apply Exists.intro; refine ⟨fun w2 hw2 _ => ?_, ?_⟩; (have qg0 := cellB hw2 g0; have qg1 := cellB hw2 g1; have qg2 := cellB hw2 g2; have qg3 := cellB hw2 g3; have qg4 := cellB hw2 g4; have qg5 := cellB hw2 g5; have qg6 := cellB hw2 g6; have qg7 := cellB hw2 g7; have qz0 := cellB hw2 z0; have qz1 := cellB hw2 z1; have qz2 := cellB hw2 z2; have qz3 := cellB hw2 z3; have qz4 := cellB hw2 z4; have qz5 := cellB hw2 z5; have qz6 := cellB hw2 z6; have qz7 := cellB hw2 z7; go_simp; first | (exact ⟨rfl, rfl⟩) | rfl | (go_at_call 36; refine (clash36 _ _ x z _ (hgV.out.below hw2) (hzV.out.below hw2)).mono ?_; rintro e w3 ⟨he, h⟩; exact ⟨he, chain h hw2⟩)); simp only [Act.put, List.setIfInBounds_toArray, List.set_cons_succ, List.set_cons_zero]))); refine wq_nil ?_; intro w2 hw2; replace g0 : w2.cell? ⟨b1, o1 + (kp + 1) * 8, none⟩ = some (.int .u32 x.txn.c) := cellB hw2 (by first | with_reducible assumption | (go_simp; done) | (repeat (first | with_reducible assumption | with_reducible refine cellAlloc ?_ _ | with_reducible refine cellDrew ?_ | with_reducible refine cellDrewN ?_ _ | with_reducible refine cellSetFar ?_ (by simp; omega) _))); replace g1 : w2.cell? ⟨b1, o1 + (kp + 1) * 8 + 1, none⟩ = some (.int .u32 x.txn.s) := cellB hw2 (by first | with_reducible assumption | (go_simp; done) | (repeat (first | with_reducible assumption | with_reducible refine cellAlloc ?_ _ | with_reducible refine cellDrew ?_ | with_reducible refine cellDrewN ?_ _ | with_reducible refine cellSetFar ?_ (by simp; omega) _))); replace g2 : w2.cell? ⟨b1, o1 + (kp + 1) * 8 + 2, none⟩ = some (.int .u32 x.home) := cellB hw2 (by first | with_reducible assumption | (go_simp; done) | (repeat (first | with_reducible assumption | with_reducible refine cellAlloc ?_ _ | with_reducible refine cellDrew ?_ | with_reducible refine cellDrewN ?_ _ | with_reducible refine cellSetFar ?_ (by simp; omega) _))); replace g3 : w2.cell? ⟨b1, o1 + (kp + 1) * 8 + 3, none⟩ = some (.int .u64 x.at_.w) := cellB hw2 (by first | with_reducible assumption | (go_simp; done) | (repeat (first | with_reducible assumption | with_reducible refine cellAlloc ?_ _ | with_reducible refine cellDrew ?_ | with_reducible refine cellDrewN ?_ _ | with_reducible refine cellSetFar ?_ (by simp; omega) _))); replace g4 : w2.cell? ⟨b1, o1 + (kp + 1) * 8 + 4, none⟩ = some (.int .u32 x.at_.l) := cellB hw2 (by first | with_reducible assumption | (go_simp; done) | (repeat (first | with_reducible assumption | with_reducible refine cellAlloc ?_ _ | with_reducible refine cellDrew ?_ | with_reducible refine cellDrewN ?_ _ | with_reducible refine cellSetFar ?_ (by simp; omega) _))); replace g5 : w2.cell? ⟨b1, o1 + (kp + 1) * 8 + 5, none⟩ = some (.int .u32 x.at_.n) := cellB hw2 (by first | with_reducible assumption | (go_simp; done) | (repeat (first | with_reducible assumption | with_reducible refine cellAlloc ?_ _ | with_reducible refine cellDrew ?_ | with_reducible refine cellDrewN ?_ _ | with_reducible refine cellSetFar ?_ (by simp; omega) _))); replace g6 : w2.cell? ⟨b1, o1 + (kp + 1) * 8 + 6, none⟩ = some (.slice Rx2 x.reads.length cRx2) := cellB hw2 (by first | with_reducible assumption | (go_simp; done) | (repeat (first | with_reducible assumption | with_reducible refine cellAlloc ?_ _ | with_reducible refine cellDrew ?_ | with_reducible refine cellDrewN ?_ _ | with_reducible refine cellSetFar ?_ (by simp; omega) _))); replace g7 : w2.cell? ⟨b1, o1 + (kp + 1) * 8 + 7, none⟩ = some (.slice Ux2 x.writes.length cUx2) := cellB hw2 (by first | with_reducible assumption | (go_simp; done) | (repeat (first | with_reducible assumption | with_reducible refine cellAlloc ?_ _ | with_reducible refine cellDrew ?_ | with_reducible refine cellDrewN ?_ _ | with_reducible refine cellSetFar ?_ (by simp; omega) _))); replace z0 : w2.cell? ⟨b1, o1 + m * 8, none⟩ = some (.int .u32 z.txn.c) := cellB hw2 (by first | with_reducible assumption | (go_simp; done) | (repeat (first | with_reducible assumption | with_reducible refine cellAlloc ?_ _ | with_reducible refine cellDrew ?_ | with_reducible refine cellDrewN ?_ _ | with_reducible refine cellSetFar ?_ (by simp; omega) _))); replace z1 : w2.cell? ⟨b1, o1 + m * 8 + 1, none⟩ = some (.int .u32 z.txn.s) := cellB hw2 (by first | with_reducible assumption | (go_simp; done) | (repeat (first | with_reducible assumption | with_reducible refine cellAlloc ?_ _ | with_reducible refine cellDrew ?_ | with_reducible refine cellDrewN ?_ _ | with_reducible refine cellSetFar ?_ (by simp; omega) _))); replace z2 : w2.cell? ⟨b1, o1 + m * 8 + 2, none⟩ = some (.int .u32 z.home) := cellB hw2 (by first | with_reducible assumption | (go_simp; done) | (repeat (first | with_reducible assumption | with_reducible refine cellAlloc ?_ _ | with_reducible refine cellDrew ?_ | with_reducible refine cellDrewN ?_ _ | with_reducible refine cellSetFar ?_ (by simp; omega) _))); replace z3 : w2.cell? ⟨b1, o1 + m * 8 + 3, none⟩ = some (.int .u64 z.at_.w) := cellB hw2 (by first | with_reducible assumption | (go_simp; done) | (repeat (first | with_reducible assumption | with_reducible refine cellAlloc ?_ _ | with_reducible refine cellDrew ?_ | with_reducible refine cellDrewN ?_ _ | with_reducible refine cellSetFar ?_ (by simp; omega) _))); replace z4 : w2.cell? ⟨b1, o1 + m * 8 + 4, none⟩ = some (.int .u32 z.at_.l) := cellB hw2 (by first | with_reducible assumption | (go_simp; done) | (repeat (first | with_reducible assumption | with_reducible refine cellAlloc ?_ _ | with_reducible refine cellDrew ?_ | with_reducible refine cellDrewN ?_ _ | with_reducible refine cellSetFar ?_ (by simp; omega) _))); replace z5 : w2.cell? ⟨b1, o1 + m * 8 + 5, none⟩ = some (.int .u32 z.at_.n) := cellB hw2 (by first | with_reducible assumption | (go_simp; done) | (repeat (first | with_reducible assumption | with_reducible refine cellAlloc ?_ _ | with_reducible refine cellDrew ?_ | with_reducible refine cellDrewN ?_ _ | with_reducible refine cellSetFar ?_ (by simp; omega) _))); replace z6 : w2.cell? ⟨b1, o1 + m * 8 + 6, none⟩ = some (.slice Rz z.reads.length cRz) := cellB hw2 (by first | with_reducible assumption | (go_simp; done) | (repeat (first | with_reducible assumption | with_reducible refine cellAlloc ?_ _ | with_reducible refine cellDrew ?_ | with_reducible refine cellDrewN ?_ _ | with_reducible refine cellSetFar ?_ (by simp; omega) _))); replace z7 : w2.cell? ⟨b1, o1 + m * 8 + 7, none⟩ = some (.slice Uz z.writes.length cUz) := cellB hw2 (by first | with_reducible assumption | (go_simp; done) | (repeat (first | with_reducible assumption | with_reducible refine cellAlloc ?_ _ | with_reducible refine cellDrew ?_ | with_reducible refine cellDrewN ?_ _ | with_reducible refine cellSetFar ?_ (by simp; omega) _))); replace hB := Lib.hid (chain (w := w) hw2 (by repeat (first | with_reducible exact hB.out | with_reducible exact Below.refl _ _ | with_reducible assumption | with_reducible refine allocW ?_ _ | with_reducible refine Below.drew ?_ | with_reducible refine drewNW ?_ _ | ((with_reducible refine Below.setCell ?_ ?_ _); rotate_left 1; focus (first | (simp; done) | (simp; omega)))))))
            replace hB0 := Lib.hid (chain (w := wn) hw2 hB0.out)
            simp only [hcl]
            go_wp2_with fail
            go_roundw
            case rel => exact ⟨m + 1, by omega, by simp, hB.out, hB0.out⟩
            case measure => simp [intOf]; omega
          · obtain rfl : m = (kp + 1) := by omega
            clear hbn hbw
            go_wp2_with fail
            go_roundw
            case rel => exact ⟨(kp + 1) + 1, by omega, by simp, hB.out⟩
            case measure => simp [intOf]; omega
    · obtain rfl : k = xs.length := by omega
      clear hbw
      go_wp2_with fail
      go_ret
      exact ⟨rfl, hB.out⟩
end Go.Proofs.Ytledfhoifdihhaa
