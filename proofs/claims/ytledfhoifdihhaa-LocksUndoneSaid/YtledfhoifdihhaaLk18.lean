/- Same whole; SameList; stands; apart. -/
import Derived.Test.YtledfhoifdihhaaLk17
namespace Go.Proofs.Ytledfhoifdihhaa
open Go.RowKit
set_option linter.unusedVariables false
set_option linter.unusedSimpArgs false

set_option maxHeartbeats 4000000 in
theorem same37 (v1 v2 : Value) (a b : Hd) (w : World) (h1 : HdV w v1 a) (h2 : HdV w v2 b) :
    Calls Try.prog 37 #[v1, v2] w fun r w' => r = .returned (.bool (decide (a = b))) ∧ Below w.heap.size w w' := by
  obtain ⟨⟨tc, ts⟩, hm, ⟨sw, sl, sn⟩, ar, aw⟩ := a
  obtain ⟨⟨tc', ts'⟩, hm', ⟨sw', sl', sn'⟩, br, bw⟩ := b
  obtain ⟨r1, x1, rfl, g1, g2⟩ := h1
  obtain ⟨r2, x2, rfl, g3, g4⟩ := h2
  have g1' := g1
  have g2' := g2
  have g3' := g3
  have g4' := g4
  obtain ⟨Ar, car, rfl, _, ⟨lar, _⟩, _⟩ := g1'
  obtain ⟨Aw, caw, rfl, _, ⟨law, _⟩, _⟩ := g2'
  obtain ⟨Br, cbr, rfl, _, ⟨lbr, _⟩, _⟩ := g3'
  obtain ⟨Bw, cbw, rfl, _, ⟨lbw, _⟩, _⟩ := g4'
  by_cases hq : (tc = tc' ∧ ts = ts') ∧ hm = hm' ∧ (sw = sw' ∧ sl = sl' ∧ sn = sn') ∧ br.length = ar.length ∧ bw.length = aw.length
  · obtain ⟨⟨rfl, rfl⟩, rfl, ⟨rfl, rfl, rfl⟩, hl1, hl2⟩ := hq
    simp only [hl1] at g3 ⊢
    simp only [hl2] at g4 ⊢
    refine (same37_eq ⟨tc, ts⟩ hm ⟨sw, sl, sn⟩ ar br aw bw Ar Br Aw Bw car cbr caw cbw w hl1 hl2 g1 g2 g3 g4).mono fun e w' ⟨he, hb⟩ => ⟨he.trans (ret_bool ?_), hb⟩
    by_cases e1 : ar = br <;> by_cases e2 : aw = bw <;> simp [e1, e2]
  · have hne : (⟨⟨tc, ts⟩, hm, ⟨sw, sl, sn⟩, ar, aw⟩ : Hd) ≠ ⟨⟨tc', ts'⟩, hm', ⟨sw', sl', sn'⟩, br, bw⟩ := by
      intro he
      simp only [Hd.mk.injEq, Txn.mk.injEq, Stamp.mk.injEq] at he
      obtain ⟨⟨e1, e2⟩, e3, ⟨e4, e5, e6⟩, e7, e8⟩ := he
      exact hq ⟨⟨e1, e2⟩, e3, ⟨e4, e5, e6⟩, by rw [e7], by rw [e8]⟩
    rw [decide_eq_false hne]
    have hQ := Lib.hid hq
    have hB := Lib.hid (Below.refl w.heap.size w)
    clear hne hq g1 g2 g3 g4
    go_enter Try.func37, Try.ntmps37
    go_wp2_with fail
    all_goals first
      | (go_ret
         exact ⟨rfl, by repeat (first | with_reducible exact hB.out | with_reducible exact Below.refl _ _ | with_reducible assumption | with_reducible refine allocW ?_ _ | with_reducible refine Below.drew ?_ | with_reducible refine drewNW ?_ _ | ((with_reducible refine Below.setCell ?_ ?_ _); rotate_left 1; focus (first | (simp; done) | (simp; omega))))⟩)
      | (exfalso
         have h9 := hQ.out
         grind)

theorem all_take {α : Type} {xs : List α} {k : Nat} {x : α} {f : α → Bool} (h : xs[k]? = some x) (h0 : (xs.take k).all f = true) (h1 : f x = true) : (xs.take (k + 1)).all f = true := by
  rw [take_one h, List.all_append, h0]; simp [h1]
set_option maxHeartbeats 4000000 in
theorem sameList25 (v1 v2 : Value) (xs ys : List Hd) (w : World) (h1 : HdsAt w v1 xs) (h2 : HdsAt w v2 ys) :
    Calls Try.prog 25 #[v1, v2] w fun r w' => r = .returned (.bool (decide (xs = ys))) ∧ Below w.heap.size w w' := by
  have hX := Lib.hid h1
  have hY := Lib.hid h2
  obtain ⟨Ax, capx, rfl, lx, _⟩ := h1.len
  obtain ⟨Ay, capy, rfl, ly, _⟩ := h2.len
  have hB := Lib.hid (Below.refl w.heap.size w)
  clear h1 h2
  by_cases hl : xs.length = ys.length
  · go_enter Try.func25, Try.ntmps25
    go_wp2_with fail
    go_loopw [5] (fun i wr => ∃ k : Nat, k ≤ xs.length ∧ i = .int .i64 k ∧ xs.take k = ys.take k ∧ Below w.heap.size w wr) (fun i _ => xs.length - (intOf i).toNat)
    case atStart => exact ⟨0, Nat.zero_le _, rfl, rfl, by repeat (first | with_reducible exact hB.out | with_reducible exact Below.refl _ _ | with_reducible assumption | with_reducible refine allocW ?_ _ | with_reducible refine Below.drew ?_ | with_reducible refine drewNW ?_ _ | ((with_reducible refine Below.setCell ?_ ?_ _); rotate_left 1; focus (first | (simp; done) | (simp; omega))))⟩
    case round =>
      obtain ⟨k, hk, rfl, hno, hbw⟩ := hrel
      have hNO := Lib.hid hno
      clear hno
      obtain ⟨wk, hwk⟩ : ∃ wk, wk = wr := ⟨_, rfl⟩
      rw [← hwk] at hbw
      replace hB := Lib.hid hbw
      subst hwk
      by_cases hkl : k < xs.length
      · have hkl' : k < ys.length := by omega
        have hx0 : xs[k]? = some xs[k] := List.getElem?_eq_getElem hkl
        have hy0 : ys[k]? = some ys[k] := List.getElem?_eq_getElem hkl'
        generalize xs[k] = x at *
        generalize ys[k] = y at *
        have hXw := hX.out.below hbw
        have hYw := hY.out.below hbw
        obtain ⟨b1, o1, cp1, Rx, cRx, Ux, cUx, hv9, hec, her, hew⟩ := hXw.at hx0; cases hv9; have e0 := hec 0 _ rfl; have e1 := hec 1 _ rfl; have e2 := hec 2 _ rfl; have e3 := hec 3 _ rfl; have e4 := hec 4 _ rfl; have e5 := hec 5 _ rfl; have e6 := hec 6 _ rfl; have e7 := hec 7 _ rfl; simp only [Nat.add_zero] at e0; have hev : HdV _ _ x := ⟨_, _, rfl, her, hew⟩; have heV := Lib.hid hev; clear hec her hew hev
        obtain ⟨b2, o2, cp2, Ry, cRy, Uy, cUy, hv9, hdc, hdr, hdw⟩ := hYw.at hy0; cases hv9; have d0 := hdc 0 _ rfl; have d1 := hdc 1 _ rfl; have d2 := hdc 2 _ rfl; have d3 := hdc 3 _ rfl; have d4 := hdc 4 _ rfl; have d5 := hdc 5 _ rfl; have d6 := hdc 6 _ rfl; have d7 := hdc 7 _ rfl; simp only [Nat.add_zero] at d0; have hdv : HdV _ _ y := ⟨_, _, rfl, hdr, hdw⟩; have hdV := Lib.hid hdv; clear hdc hdr hdw hdv
        clear hXw hYw hbw hkl'
        cases hxy0 : decide (x = y)
        all_goals
          go_wp2_with fail
          (refine wp_region_below mixed (by kernel_rfl) ?_; (repeat (first | (refine bstep_off rfl ?_; simp only [Act.put, List.setIfInBounds_toArray, List.set_cons_succ, List.set_cons_zero]) | (refine bstep rfl ?_; apply Exists.intro; refine ⟨fun w2 hw2 _ => ?_, ?_⟩; (have qe0 := cellB hw2 e0; have qe1 := cellB hw2 e1; have qe2 := cellB hw2 e2; have qe3 := cellB hw2 e3; have qe4 := cellB hw2 e4; have qe5 := cellB hw2 e5; have qe6 := cellB hw2 e6; have qe7 := cellB hw2 e7; have qd0 := cellB hw2 d0; have qd1 := cellB hw2 d1; have qd2 := cellB hw2 d2; have qd3 := cellB hw2 d3; have qd4 := cellB hw2 d4; have qd5 := cellB hw2 d5; have qd6 := cellB hw2 d6; have qd7 := cellB hw2 d7; go_simp; first | (exact ⟨rfl, rfl⟩) | rfl | (go_at_call 37; refine (same37 _ _ x y _ (heV.out.below hw2) (hdV.out.below hw2)).mono ?_; rintro e w3 ⟨he, h⟩; exact ⟨he, chain h hw2⟩)); simp only [Act.put, List.setIfInBounds_toArray, List.set_cons_succ, List.set_cons_zero]) | (refine bstep_on rfl ?_; apply Exists.intro; refine ⟨fun w2 hw2 _ => ?_, ?_⟩; (have qe0 := cellB hw2 e0; have qe1 := cellB hw2 e1; have qe2 := cellB hw2 e2; have qe3 := cellB hw2 e3; have qe4 := cellB hw2 e4; have qe5 := cellB hw2 e5; have qe6 := cellB hw2 e6; have qe7 := cellB hw2 e7; have qd0 := cellB hw2 d0; have qd1 := cellB hw2 d1; have qd2 := cellB hw2 d2; have qd3 := cellB hw2 d3; have qd4 := cellB hw2 d4; have qd5 := cellB hw2 d5; have qd6 := cellB hw2 d6; have qd7 := cellB hw2 d7; go_simp; first | (exact ⟨rfl, rfl⟩) | rfl | (go_at_call 37; refine (same37 _ _ x y _ (heV.out.below hw2) (hdV.out.below hw2)).mono ?_; rintro e w3 ⟨he, h⟩; exact ⟨he, chain h hw2⟩)); simp only [Act.put, List.setIfInBounds_toArray, List.set_cons_succ, List.set_cons_zero]))); refine wq_nil ?_; intro w2 hw2; replace e0 : w2.cell? ⟨b1, o1 + k * 8, none⟩ = some (.int .u32 x.txn.c) := cellB hw2 (by first | with_reducible assumption | (go_simp; done) | (repeat (first | with_reducible assumption | with_reducible refine cellAlloc ?_ _ | with_reducible refine cellDrew ?_ | with_reducible refine cellDrewN ?_ _ | with_reducible refine cellSetFar ?_ (by simp; omega) _))); replace e1 : w2.cell? ⟨b1, o1 + k * 8 + 1, none⟩ = some (.int .u32 x.txn.s) := cellB hw2 (by first | with_reducible assumption | (go_simp; done) | (repeat (first | with_reducible assumption | with_reducible refine cellAlloc ?_ _ | with_reducible refine cellDrew ?_ | with_reducible refine cellDrewN ?_ _ | with_reducible refine cellSetFar ?_ (by simp; omega) _))); replace e2 : w2.cell? ⟨b1, o1 + k * 8 + 2, none⟩ = some (.int .u32 x.home) := cellB hw2 (by first | with_reducible assumption | (go_simp; done) | (repeat (first | with_reducible assumption | with_reducible refine cellAlloc ?_ _ | with_reducible refine cellDrew ?_ | with_reducible refine cellDrewN ?_ _ | with_reducible refine cellSetFar ?_ (by simp; omega) _))); replace e3 : w2.cell? ⟨b1, o1 + k * 8 + 3, none⟩ = some (.int .u64 x.at_.w) := cellB hw2 (by first | with_reducible assumption | (go_simp; done) | (repeat (first | with_reducible assumption | with_reducible refine cellAlloc ?_ _ | with_reducible refine cellDrew ?_ | with_reducible refine cellDrewN ?_ _ | with_reducible refine cellSetFar ?_ (by simp; omega) _))); replace e4 : w2.cell? ⟨b1, o1 + k * 8 + 4, none⟩ = some (.int .u32 x.at_.l) := cellB hw2 (by first | with_reducible assumption | (go_simp; done) | (repeat (first | with_reducible assumption | with_reducible refine cellAlloc ?_ _ | with_reducible refine cellDrew ?_ | with_reducible refine cellDrewN ?_ _ | with_reducible refine cellSetFar ?_ (by simp; omega) _))); replace e5 : w2.cell? ⟨b1, o1 + k * 8 + 5, none⟩ = some (.int .u32 x.at_.n) := cellB hw2 (by first | with_reducible assumption | (go_simp; done) | (repeat (first | with_reducible assumption | with_reducible refine cellAlloc ?_ _ | with_reducible refine cellDrew ?_ | with_reducible refine cellDrewN ?_ _ | with_reducible refine cellSetFar ?_ (by simp; omega) _))); replace e6 : w2.cell? ⟨b1, o1 + k * 8 + 6, none⟩ = some (.slice Rx x.reads.length cRx) := cellB hw2 (by first | with_reducible assumption | (go_simp; done) | (repeat (first | with_reducible assumption | with_reducible refine cellAlloc ?_ _ | with_reducible refine cellDrew ?_ | with_reducible refine cellDrewN ?_ _ | with_reducible refine cellSetFar ?_ (by simp; omega) _))); replace e7 : w2.cell? ⟨b1, o1 + k * 8 + 7, none⟩ = some (.slice Ux x.writes.length cUx) := cellB hw2 (by first | with_reducible assumption | (go_simp; done) | (repeat (first | with_reducible assumption | with_reducible refine cellAlloc ?_ _ | with_reducible refine cellDrew ?_ | with_reducible refine cellDrewN ?_ _ | with_reducible refine cellSetFar ?_ (by simp; omega) _))); replace d0 : w2.cell? ⟨b2, o2 + k * 8, none⟩ = some (.int .u32 y.txn.c) := cellB hw2 (by first | with_reducible assumption | (go_simp; done) | (repeat (first | with_reducible assumption | with_reducible refine cellAlloc ?_ _ | with_reducible refine cellDrew ?_ | with_reducible refine cellDrewN ?_ _ | with_reducible refine cellSetFar ?_ (by simp; omega) _))); replace d1 : w2.cell? ⟨b2, o2 + k * 8 + 1, none⟩ = some (.int .u32 y.txn.s) := cellB hw2 (by first | with_reducible assumption | (go_simp; done) | (repeat (first | with_reducible assumption | with_reducible refine cellAlloc ?_ _ | with_reducible refine cellDrew ?_ | with_reducible refine cellDrewN ?_ _ | with_reducible refine cellSetFar ?_ (by simp; omega) _))); replace d2 : w2.cell? ⟨b2, o2 + k * 8 + 2, none⟩ = some (.int .u32 y.home) := cellB hw2 (by first | with_reducible assumption | (go_simp; done) | (repeat (first | with_reducible assumption | with_reducible refine cellAlloc ?_ _ | with_reducible refine cellDrew ?_ | with_reducible refine cellDrewN ?_ _ | with_reducible refine cellSetFar ?_ (by simp; omega) _))); replace d3 : w2.cell? ⟨b2, o2 + k * 8 + 3, none⟩ = some (.int .u64 y.at_.w) := cellB hw2 (by first | with_reducible assumption | (go_simp; done) | (repeat (first | with_reducible assumption | with_reducible refine cellAlloc ?_ _ | with_reducible refine cellDrew ?_ | with_reducible refine cellDrewN ?_ _ | with_reducible refine cellSetFar ?_ (by simp; omega) _))); replace d4 : w2.cell? ⟨b2, o2 + k * 8 + 4, none⟩ = some (.int .u32 y.at_.l) := cellB hw2 (by first | with_reducible assumption | (go_simp; done) | (repeat (first | with_reducible assumption | with_reducible refine cellAlloc ?_ _ | with_reducible refine cellDrew ?_ | with_reducible refine cellDrewN ?_ _ | with_reducible refine cellSetFar ?_ (by simp; omega) _))); replace d5 : w2.cell? ⟨b2, o2 + k * 8 + 5, none⟩ = some (.int .u32 y.at_.n) := cellB hw2 (by first | with_reducible assumption | (go_simp; done) | (repeat (first | with_reducible assumption | with_reducible refine cellAlloc ?_ _ | with_reducible refine cellDrew ?_ | with_reducible refine cellDrewN ?_ _ | with_reducible refine cellSetFar ?_ (by simp; omega) _))); replace d6 : w2.cell? ⟨b2, o2 + k * 8 + 6, none⟩ = some (.slice Ry y.reads.length cRy) := cellB hw2 (by first | with_reducible assumption | (go_simp; done) | (repeat (first | with_reducible assumption | with_reducible refine cellAlloc ?_ _ | with_reducible refine cellDrew ?_ | with_reducible refine cellDrewN ?_ _ | with_reducible refine cellSetFar ?_ (by simp; omega) _))); replace d7 : w2.cell? ⟨b2, o2 + k * 8 + 7, none⟩ = some (.slice Uy y.writes.length cUy) := cellB hw2 (by first | with_reducible assumption | (go_simp; done) | (repeat (first | with_reducible assumption | with_reducible refine cellAlloc ?_ _ | with_reducible refine cellDrew ?_ | with_reducible refine cellDrewN ?_ _ | with_reducible refine cellSetFar ?_ (by simp; omega) _))); replace hB := Lib.hid (chain (w := w) hw2 (by repeat (first | with_reducible exact hB.out | with_reducible exact Below.refl _ _ | with_reducible assumption | with_reducible refine allocW ?_ _ | with_reducible refine Below.drew ?_ | with_reducible refine drewNW ?_ _ | ((with_reducible refine Below.setCell ?_ ?_ _); rotate_left 1; focus (first | (simp; done) | (simp; omega)))))))
          simp only [hxy0]
        · have hne : xs ≠ ys := by
            rintro rfl
            rw [hx0] at hy0
            cases hy0
            simp at hxy0
          go_wp2_with fail
          go_ret
          exact ⟨ret_bool (by simp [hne]), hB.out⟩
        · have hxy : x = y := by simpa using hxy0
          go_wp2_with fail
          go_roundw
          case rel => exact ⟨k + 1, by omega, by simp, take_eq hx0 (hxy ▸ hy0) hNO.out, hB.out⟩
          case measure => simp [intOf]; omega
      · obtain rfl : k = xs.length := by omega
        have hno3 := hNO.out
        rw [List.take_length, hl, List.take_length] at hno3
        clear hbw
        go_wp2_with fail
        go_ret
        exact ⟨ret_bool (by simp [hno3]), hB.out⟩
  · have hne : xs ≠ ys := fun h => hl (by rw [h])
    have hl2 : ¬ ((xs.length : Int) = ys.length) := by omega
    go_enter Try.func25, Try.ntmps25
    go_wp2_with fail
    go_ret
    exact ⟨ret_bool (by simp [hne]), by repeat (first | with_reducible exact hB.out | with_reducible exact Below.refl _ _ | with_reducible assumption | with_reducible refine allocW ?_ _ | with_reducible refine Below.drew ?_ | with_reducible refine drewNW ?_ _ | ((with_reducible refine Below.setCell ?_ ?_ _); rotate_left 1; focus (first | (simp; done) | (simp; omega))))⟩

set_option maxHeartbeats 4000000 in
theorem stands18 (v1 v2 : Value) (xs : List Hd) (h : Hd) (w : World) (h1 : HdsAt w v1 xs) (h2 : HdV w v2 h) :
    Calls Try.prog 18 #[v1, v2] w fun r w' => r = .returned (.bool (xs.any fun x => decide (x = h))) ∧ Below w.heap.size w w' := by
  have hX := Lib.hid h1
  have hV := Lib.hid h2
  obtain ⟨Ax, capx, rfl, lx, _⟩ := h1.len
  obtain ⟨r2, x2, rfl, ⟨Rh, cRh, rfl, _⟩, ⟨Uh, cUh, rfl, _⟩⟩ := h2
  have hB := Lib.hid (Below.refl w.heap.size w)
  clear h1
  go_enter Try.func18, Try.ntmps18
  go_wp2_with fail
  go_loopw [5] (fun i wr => ∃ k : Nat, k ≤ xs.length ∧ i = .int .i64 k ∧ (xs.take k).any (fun x => decide (x = h)) = false ∧ Below w.heap.size w wr ∧ wr.cell? ⟨w.heap.size, 0, none⟩ = some (.int .u32 h.txn.c) ∧ wr.cell? ⟨w.heap.size, 1, none⟩ = some (.int .u32 h.txn.s) ∧ wr.cell? ⟨w.heap.size, 2, none⟩ = some (.int .u32 h.home) ∧ wr.cell? ⟨w.heap.size, 3, none⟩ = some (.int .u64 h.at_.w) ∧ wr.cell? ⟨w.heap.size, 4, none⟩ = some (.int .u32 h.at_.l) ∧ wr.cell? ⟨w.heap.size, 5, none⟩ = some (.int .u32 h.at_.n) ∧ wr.cell? ⟨w.heap.size, 6, none⟩ = some (.slice Rh h.reads.length cRh) ∧ wr.cell? ⟨w.heap.size, 7, none⟩ = some (.slice Uh h.writes.length cUh)) (fun i _ => xs.length - (intOf i).toNat)
  case atStart => exact ⟨0, Nat.zero_le _, rfl, rfl, by repeat (first | with_reducible exact hB.out | with_reducible exact Below.refl _ _ | with_reducible assumption | with_reducible refine allocW ?_ _ | with_reducible refine Below.drew ?_ | with_reducible refine drewNW ?_ _ | ((with_reducible refine Below.setCell ?_ ?_ _); rotate_left 1; focus (first | (simp; done) | (simp; omega)))), by go_simp, by go_simp, by go_simp, by go_simp, by go_simp, by go_simp, by go_simp, by go_simp⟩
  case round =>
    obtain ⟨k, hk, rfl, hno, hbw, f0, f1, f2, f3, f4, f5, f6, f7⟩ := hrel
    have hNO := Lib.hid hno
    clear hno
    obtain ⟨wk, hwk⟩ : ∃ wk, wk = wr := ⟨_, rfl⟩
    rw [← hwk] at hbw f0 f1 f2 f3 f4 f5 f6 f7
    replace hB := Lib.hid hbw
    subst hwk
    by_cases hkl : k < xs.length
    · have hx0 : xs[k]? = some xs[k] := List.getElem?_eq_getElem hkl
      generalize xs[k] = x at *
      have hXw := hX.out.below hbw
      obtain ⟨b1, o1, cp1, Rx, cRx, Ux, cUx, hv9, hec, her, hew⟩ := hXw.at hx0; cases hv9; have e0 := hec 0 _ rfl; have e1 := hec 1 _ rfl; have e2 := hec 2 _ rfl; have e3 := hec 3 _ rfl; have e4 := hec 4 _ rfl; have e5 := hec 5 _ rfl; have e6 := hec 6 _ rfl; have e7 := hec 7 _ rfl; simp only [Nat.add_zero] at e0; have hev : HdV _ _ x := ⟨_, _, rfl, her, hew⟩; have heV := Lib.hid hev; clear hec her hew hev
      clear hXw hbw
      cases hxy0 : decide (x = h)
      all_goals
        go_wp2_with fail
        (refine wp_region_below mixed (by kernel_rfl) ?_; (repeat (first | (refine bstep_off rfl ?_; simp only [Act.put, List.setIfInBounds_toArray, List.set_cons_succ, List.set_cons_zero]) | (refine bstep rfl ?_; apply Exists.intro; refine ⟨fun w2 hw2 _ => ?_, ?_⟩; (have qe0 := cellB hw2 e0; have qe1 := cellB hw2 e1; have qe2 := cellB hw2 e2; have qe3 := cellB hw2 e3; have qe4 := cellB hw2 e4; have qe5 := cellB hw2 e5; have qe6 := cellB hw2 e6; have qe7 := cellB hw2 e7; have qf0 := cellB hw2 f0; have qf1 := cellB hw2 f1; have qf2 := cellB hw2 f2; have qf3 := cellB hw2 f3; have qf4 := cellB hw2 f4; have qf5 := cellB hw2 f5; have qf6 := cellB hw2 f6; have qf7 := cellB hw2 f7; go_simp; first | (exact ⟨rfl, rfl⟩) | rfl | (go_at_call 37; refine (same37 _ _ x h _ (heV.out.below hw2) (hV.out.below (chain hw2 hB.out))).mono ?_; rintro e w3 ⟨he, h⟩; exact ⟨he, chain h hw2⟩)); simp only [Act.put, List.setIfInBounds_toArray, List.set_cons_succ, List.set_cons_zero]) | (refine bstep_on rfl ?_; apply Exists.intro; refine ⟨fun w2 hw2 _ => ?_, ?_⟩; (have qe0 := cellB hw2 e0; have qe1 := cellB hw2 e1; have qe2 := cellB hw2 e2; have qe3 := cellB hw2 e3; have qe4 := cellB hw2 e4; have qe5 := cellB hw2 e5; have qe6 := cellB hw2 e6; have qe7 := cellB hw2 e7; have qf0 := cellB hw2 f0; have qf1 := cellB hw2 f1; have qf2 := cellB hw2 f2; have qf3 := cellB hw2 f3; have qf4 := cellB hw2 f4; have qf5 := cellB hw2 f5; have qf6 := cellB hw2 f6; have qf7 := cellB hw2 f7; go_simp; first | (exact ⟨rfl, rfl⟩) | rfl | (go_at_call 37; refine (same37 _ _ x h _ (heV.out.below hw2) (hV.out.below (chain hw2 hB.out))).mono ?_; rintro e w3 ⟨he, h⟩; exact ⟨he, chain h hw2⟩)); simp only [Act.put, List.setIfInBounds_toArray, List.set_cons_succ, List.set_cons_zero]))); refine wq_nil ?_; intro w2 hw2; replace e0 : w2.cell? ⟨b1, o1 + k * 8, none⟩ = some (.int .u32 x.txn.c) := cellB hw2 (by first | with_reducible assumption | (go_simp; done) | (repeat (first | with_reducible assumption | with_reducible refine cellAlloc ?_ _ | with_reducible refine cellDrew ?_ | with_reducible refine cellDrewN ?_ _ | with_reducible refine cellSetFar ?_ (by simp; omega) _))); replace e1 : w2.cell? ⟨b1, o1 + k * 8 + 1, none⟩ = some (.int .u32 x.txn.s) := cellB hw2 (by first | with_reducible assumption | (go_simp; done) | (repeat (first | with_reducible assumption | with_reducible refine cellAlloc ?_ _ | with_reducible refine cellDrew ?_ | with_reducible refine cellDrewN ?_ _ | with_reducible refine cellSetFar ?_ (by simp; omega) _))); replace e2 : w2.cell? ⟨b1, o1 + k * 8 + 2, none⟩ = some (.int .u32 x.home) := cellB hw2 (by first | with_reducible assumption | (go_simp; done) | (repeat (first | with_reducible assumption | with_reducible refine cellAlloc ?_ _ | with_reducible refine cellDrew ?_ | with_reducible refine cellDrewN ?_ _ | with_reducible refine cellSetFar ?_ (by simp; omega) _))); replace e3 : w2.cell? ⟨b1, o1 + k * 8 + 3, none⟩ = some (.int .u64 x.at_.w) := cellB hw2 (by first | with_reducible assumption | (go_simp; done) | (repeat (first | with_reducible assumption | with_reducible refine cellAlloc ?_ _ | with_reducible refine cellDrew ?_ | with_reducible refine cellDrewN ?_ _ | with_reducible refine cellSetFar ?_ (by simp; omega) _))); replace e4 : w2.cell? ⟨b1, o1 + k * 8 + 4, none⟩ = some (.int .u32 x.at_.l) := cellB hw2 (by first | with_reducible assumption | (go_simp; done) | (repeat (first | with_reducible assumption | with_reducible refine cellAlloc ?_ _ | with_reducible refine cellDrew ?_ | with_reducible refine cellDrewN ?_ _ | with_reducible refine cellSetFar ?_ (by simp; omega) _))); replace e5 : w2.cell? ⟨b1, o1 + k * 8 + 5, none⟩ = some (.int .u32 x.at_.n) := cellB hw2 (by first | with_reducible assumption | (go_simp; done) | (repeat (first | with_reducible assumption | with_reducible refine cellAlloc ?_ _ | with_reducible refine cellDrew ?_ | with_reducible refine cellDrewN ?_ _ | with_reducible refine cellSetFar ?_ (by simp; omega) _))); replace e6 : w2.cell? ⟨b1, o1 + k * 8 + 6, none⟩ = some (.slice Rx x.reads.length cRx) := cellB hw2 (by first | with_reducible assumption | (go_simp; done) | (repeat (first | with_reducible assumption | with_reducible refine cellAlloc ?_ _ | with_reducible refine cellDrew ?_ | with_reducible refine cellDrewN ?_ _ | with_reducible refine cellSetFar ?_ (by simp; omega) _))); replace e7 : w2.cell? ⟨b1, o1 + k * 8 + 7, none⟩ = some (.slice Ux x.writes.length cUx) := cellB hw2 (by first | with_reducible assumption | (go_simp; done) | (repeat (first | with_reducible assumption | with_reducible refine cellAlloc ?_ _ | with_reducible refine cellDrew ?_ | with_reducible refine cellDrewN ?_ _ | with_reducible refine cellSetFar ?_ (by simp; omega) _))); replace f0 : w2.cell? ⟨w.heap.size, 0, none⟩ = some (.int .u32 h.txn.c) := cellB hw2 (by first | with_reducible assumption | (go_simp; done) | (repeat (first | with_reducible assumption | with_reducible refine cellAlloc ?_ _ | with_reducible refine cellDrew ?_ | with_reducible refine cellDrewN ?_ _ | with_reducible refine cellSetFar ?_ (by simp; omega) _))); replace f1 : w2.cell? ⟨w.heap.size, 1, none⟩ = some (.int .u32 h.txn.s) := cellB hw2 (by first | with_reducible assumption | (go_simp; done) | (repeat (first | with_reducible assumption | with_reducible refine cellAlloc ?_ _ | with_reducible refine cellDrew ?_ | with_reducible refine cellDrewN ?_ _ | with_reducible refine cellSetFar ?_ (by simp; omega) _))); replace f2 : w2.cell? ⟨w.heap.size, 2, none⟩ = some (.int .u32 h.home) := cellB hw2 (by first | with_reducible assumption | (go_simp; done) | (repeat (first | with_reducible assumption | with_reducible refine cellAlloc ?_ _ | with_reducible refine cellDrew ?_ | with_reducible refine cellDrewN ?_ _ | with_reducible refine cellSetFar ?_ (by simp; omega) _))); replace f3 : w2.cell? ⟨w.heap.size, 3, none⟩ = some (.int .u64 h.at_.w) := cellB hw2 (by first | with_reducible assumption | (go_simp; done) | (repeat (first | with_reducible assumption | with_reducible refine cellAlloc ?_ _ | with_reducible refine cellDrew ?_ | with_reducible refine cellDrewN ?_ _ | with_reducible refine cellSetFar ?_ (by simp; omega) _))); replace f4 : w2.cell? ⟨w.heap.size, 4, none⟩ = some (.int .u32 h.at_.l) := cellB hw2 (by first | with_reducible assumption | (go_simp; done) | (repeat (first | with_reducible assumption | with_reducible refine cellAlloc ?_ _ | with_reducible refine cellDrew ?_ | with_reducible refine cellDrewN ?_ _ | with_reducible refine cellSetFar ?_ (by simp; omega) _))); replace f5 : w2.cell? ⟨w.heap.size, 5, none⟩ = some (.int .u32 h.at_.n) := cellB hw2 (by first | with_reducible assumption | (go_simp; done) | (repeat (first | with_reducible assumption | with_reducible refine cellAlloc ?_ _ | with_reducible refine cellDrew ?_ | with_reducible refine cellDrewN ?_ _ | with_reducible refine cellSetFar ?_ (by simp; omega) _))); replace f6 : w2.cell? ⟨w.heap.size, 6, none⟩ = some (.slice Rh h.reads.length cRh) := cellB hw2 (by first | with_reducible assumption | (go_simp; done) | (repeat (first | with_reducible assumption | with_reducible refine cellAlloc ?_ _ | with_reducible refine cellDrew ?_ | with_reducible refine cellDrewN ?_ _ | with_reducible refine cellSetFar ?_ (by simp; omega) _))); replace f7 : w2.cell? ⟨w.heap.size, 7, none⟩ = some (.slice Uh h.writes.length cUh) := cellB hw2 (by first | with_reducible assumption | (go_simp; done) | (repeat (first | with_reducible assumption | with_reducible refine cellAlloc ?_ _ | with_reducible refine cellDrew ?_ | with_reducible refine cellDrewN ?_ _ | with_reducible refine cellSetFar ?_ (by simp; omega) _))); replace hB := Lib.hid (chain (w := w) hw2 (by repeat (first | with_reducible exact hB.out | with_reducible exact Below.refl _ _ | with_reducible assumption | with_reducible refine allocW ?_ _ | with_reducible refine Below.drew ?_ | with_reducible refine drewNW ?_ _ | ((with_reducible refine Below.setCell ?_ ?_ _); rotate_left 1; focus (first | (simp; done) | (simp; omega)))))))
        simp only [hxy0]
      · go_wp2_with fail
        go_roundw
        case rel => exact ⟨k + 1, by omega, by simp, any_take hx0 hNO.out hxy0, hB.out, f0, f1, f2, f3, f4, f5, f6, f7⟩
        case measure => simp [intOf]; omega
      · have hhit := any_hit (f := fun x => decide (x = h)) hx0 hxy0
        go_wp2_with fail
        go_ret
        exact ⟨ret_bool hhit.symm, hB.out⟩
    · obtain rfl : k = xs.length := by omega
      have hno3 := hNO.out
      rw [List.take_length] at hno3
      clear hbw
      go_wp2_with fail
      go_ret
      exact ⟨ret_bool hno3.symm, hB.out⟩
end Go.Proofs.Ytledfhoifdihhaa
