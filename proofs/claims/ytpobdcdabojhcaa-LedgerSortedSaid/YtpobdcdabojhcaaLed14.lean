/- Lists of entries in memory; Earlier, Below, Len; sorted, count. -/
import Derived.Test.YtpobdcdabojhcaaLed13
import Derived.Test.YtpobdcdabojhcaaReadLed
namespace Go.Proofs.Ytpobdcdabojhcaa
open Go.RowKit
set_option linter.unusedVariables false
set_option linter.unusedSimpArgs false

theorem earlier37 (a b : Txn) (w : World) : Calls Try.prog 37 #[txnV a, txnV b] w fun r w' => r = .returned (.bool (earlier a b)) ∧ Below w.heap.size w w' := by
  have hB := Lib.hid (Below.refl w.heap.size w)
  go_enter Try.func37, Try.ntmps37
  go_wp2_with fail
  all_goals (go_ret; refine ⟨ret_bool ?_, by repeat (first | with_reducible exact hB.out | with_reducible exact Below.refl _ _ | with_reducible assumption | with_reducible refine allocW ?_ _ | with_reducible refine Below.drew ?_ | with_reducible refine drewNW ?_ _ | ((with_reducible refine Below.setCell ?_ ?_ _); rotate_left 1; focus (first | (simp; done) | (simp; omega))))⟩)
  all_goals (unfold earlier; grind)
theorem below45 (x y z x' y' z' : Int) (w : World) : Calls Try.prog 45 #[.agg #[.int .u64 x, .int .u32 y, .int .u32 z], .agg #[.int .u64 x', .int .u32 y', .int .u32 z']] w fun r w' => r = .returned (.bool (lessS ⟨x, y, z⟩ ⟨x', y', z'⟩)) ∧ Below w.heap.size w w' := by
  have hB := Lib.hid (Below.refl w.heap.size w)
  go_enter Try.func45, Try.ntmps45
  go_wp2_with fail
  all_goals (go_ret; refine ⟨ret_bool ?_, by repeat (first | with_reducible exact hB.out | with_reducible exact Below.refl _ _ | with_reducible assumption | with_reducible refine allocW ?_ _ | with_reducible refine Below.drew ?_ | with_reducible refine drewNW ?_ _ | ((with_reducible refine Below.setCell ?_ ?_ _); rotate_left 1; focus (first | (simp; done) | (simp; omega))))⟩)
  all_goals (unfold lessS; grind)
theorem len25 (lb mb : Nat) (L : List Ent) (w : World) (hL : LedAt w lb mb L) :
    Calls Try.prog 25 #[.pointer (some ⟨lb, 0, none⟩)] w fun r w' => r = .returned (.int .i64 L.length) ∧ Below w.heap.size w w' := by
  have c0 := hL.cell
  have hlen : ∀ ty, (Builtin.len_ #[65] ty #[.map (some mb)]).run Try.prog w = .ok (.int .i64 L.length) w := fun ty => by
    have := run_len_map (P := Try.prog) (ty := ty) Try.underlying65 hL.map
    simpa [entKV] using this
  have hB := Lib.hid (Below.refl w.heap.size w)
  go_enter Try.func25, Try.ntmps25
  go_wp2_with fail
  go_ret
  exact ⟨rfl, hB.out⟩

/-- a list of entries -/
def EntsAt (w : World) (v : Value) (xs : List Ent) : Prop := ∃ A cap, v = .slice A xs.length cap ∧ xs.length ≤ cap ∧ xs.length ≤ 3518437208783 ∧ Ents w A xs
theorem EntsAt.below {w w' : World} {v : Value} {xs : List Ent} (h : EntsAt w v xs) (hb : Below w.heap.size w w') : EntsAt w' v xs := by
  obtain ⟨A, cap, h1, h2, h3, h4⟩ := h
  exact ⟨A, cap, h1, h2, h3, h4.below hb⟩
theorem ents_own {w : World} {base : Nat} {v : Value} {xs : List Ent} (h : w.ownsRow base 33 7 v xs.length (xs.flatMap entL)) (hl : xs.length ≤ 3518437208783) : EntsAt w v xs := by
  have h9 := h
  obtain ⟨_, ⟨rfl, h0⟩ | ⟨g, cap, cur, rfl, hg, hh, hn, hc, hs, ht⟩⟩ := h
  · have : xs = [] := List.eq_nil_of_length_eq_zero h0
    subst this
    exact ⟨none, 0, rfl, Nat.le_refl _, by simp, fun k e hk => by simp at hk⟩
  · refine ⟨_, cap, rfl, hn, hl, fun k e hk => ⟨g, 0, rfl, ?_⟩⟩
    have hkl : k < xs.length := (List.getElem?_eq_some_iff.1 hk).1
    have key : ∀ (j : Nat) v, (entL e)[j]? = some v → w.cell? ⟨g, 0 + k * 7 + j, none⟩ = some v := fun j v hj => by
      have hj7 : j < 7 := (List.getElem?_eq_some_iff.1 hj).1
      have := flat_get entL 7 (fun _ => rfl) xs k e j v hk hj
      rw [Nat.zero_add, h9.cellAt _ (by omega), this]
    exact ⟨key 0 _ rfl, key 1 _ rfl, key 2 _ rfl, key 3 _ rfl, key 4 _ rfl, key 5 _ rfl, key 6 _ rfl⟩
theorem EntsAt.at {w : World} {A : Option Addr} {len cap : Nat} {xs : List Ent} (h : EntsAt w (.slice A len cap) xs) {i : Nat} {x : Ent} (hi : xs[i]? = some x) : ∃ b o, A = some ⟨b, o, none⟩ ∧ EntC w b (o + i * 7) x := by
  obtain ⟨A', cap', he, _, _, h4⟩ := h
  simp only [Value.slice.injEq] at he
  obtain ⟨rfl, _, _⟩ := he
  exact h4 i x hi

set_option maxRecDepth 100000 in
set_option maxHeartbeats 4000000 in
theorem sorted21 (v : Value) (xs : List Ent) (w : World) (h1 : EntsAt w v xs) (hs : xs.Pairwise (fun a b => earlier a.txn b.txn = true)) :
    Calls Try.prog 21 #[v] w fun r w' => r = .returned (.bool true) ∧ Below w.heap.size w w' := by
  have hX := Lib.hid h1
  have hP := Lib.hid (List.pairwise_iff_getElem.1 hs)
  obtain ⟨A, cap, rfl, hc, hl, _⟩ := h1
  have hB := Lib.hid (Below.refl w.heap.size w)
  clear hs
  go_enter Try.func21, Try.ntmps21
  go_wp2_with fail
  go_loopw [3] (fun i wr => ∃ k : Nat, 1 ≤ k ∧ i = .int .i64 k ∧ (k ≤ xs.length ∨ k = 1) ∧ Below w.heap.size w wr) (fun i _ => xs.length + 1 - (intOf i).toNat)
  case atStart => exact ⟨1, Nat.le_refl _, rfl, .inr rfl, hB.out⟩
  case round =>
    obtain ⟨k, hk1, rfl, hk, hbw⟩ := hrel
    obtain ⟨wk, hwk⟩ : ∃ wk, wk = wr := ⟨_, rfl⟩
    rw [← hwk] at hbw
    replace hB := Lib.hid hbw
    subst hwk
    by_cases hkl : k < xs.length
    · obtain ⟨kp, rfl⟩ : ∃ kp, k = kp + 1 := ⟨k - 1, by omega⟩
      have hkp : kp < xs.length := by omega
      have hx0 : xs[kp + 1]? = some xs[kp + 1] := List.getElem?_eq_getElem hkl
      have hy0 : xs[kp]? = some xs[kp] := List.getElem?_eq_getElem hkp
      have hbf : earlier xs[kp].txn xs[kp + 1].txn = true := hP.out kp (kp + 1) hkp hkl (Nat.lt_succ_self _)
      generalize xs[kp + 1] = x at *
      generalize xs[kp] = y at *
      have hXw := hX.out.below hbw
      obtain ⟨b, o, rfl, e0, e1, e2, e3, e4, e5, e6⟩ := hXw.at hx0
      obtain ⟨b', o', hv9, d0, d1, d2, d3, d4, d5, d6⟩ := hXw.at hy0
      cases hv9
      have hpos : (0 : Int) < ↑kp + 1 := by omega
      have hwr : IntKind.i64.wrap (kp : Int) = kp := by simp [IntKind.wrap, IntKind.bits, IntKind.signed]; omega
      clear hXw hbw
      go_wp2_with fail
      (refine wp_region_below mixed (by kernel_rfl) ?_; (repeat (first | (refine bstep_off rfl ?_; simp only [Act.put, List.setIfInBounds_toArray, List.set_cons_succ, List.set_cons_zero]) | (refine bstep rfl ?_; apply Exists.intro; refine ⟨fun w2 hw2 _ => ?_, ?_⟩; (have qe0 := cellB hw2 e0; have qe1 := cellB hw2 e1; have qe2 := cellB hw2 e2; have qe3 := cellB hw2 e3; have qe4 := cellB hw2 e4; have qe5 := cellB hw2 e5; have qe6 := cellB hw2 e6; have qd0 := cellB hw2 d0; have qd1 := cellB hw2 d1; have qd2 := cellB hw2 d2; have qd3 := cellB hw2 d3; have qd4 := cellB hw2 d4; have qd5 := cellB hw2 d5; have qd6 := cellB hw2 d6; go_simp; first | (exact ⟨rfl, rfl⟩) | rfl | (go_at_call 37; refine (earlier37 y.txn x.txn _).mono ?_; rintro e w3 ⟨he, h⟩; exact ⟨he, chain h hw2⟩)); simp only [Act.put, List.setIfInBounds_toArray, List.set_cons_succ, List.set_cons_zero]) | (refine bstep_on rfl ?_; apply Exists.intro; refine ⟨fun w2 hw2 _ => ?_, ?_⟩; (have qe0 := cellB hw2 e0; have qe1 := cellB hw2 e1; have qe2 := cellB hw2 e2; have qe3 := cellB hw2 e3; have qe4 := cellB hw2 e4; have qe5 := cellB hw2 e5; have qe6 := cellB hw2 e6; have qd0 := cellB hw2 d0; have qd1 := cellB hw2 d1; have qd2 := cellB hw2 d2; have qd3 := cellB hw2 d3; have qd4 := cellB hw2 d4; have qd5 := cellB hw2 d5; have qd6 := cellB hw2 d6; go_simp; first | (exact ⟨rfl, rfl⟩) | rfl | (go_at_call 37; refine (earlier37 y.txn x.txn _).mono ?_; rintro e w3 ⟨he, h⟩; exact ⟨he, chain h hw2⟩)); simp only [Act.put, List.setIfInBounds_toArray, List.set_cons_succ, List.set_cons_zero]))); refine wq_nil ?_; intro w2 hw2; replace e0 : w2.cell? ⟨b, o + (kp + 1) * 7, none⟩ = some (.int .u32 x.txn.c) := cellB hw2 (by first | with_reducible assumption | (go_simp; done) | (repeat (first | with_reducible assumption | with_reducible refine cellAlloc ?_ _ | with_reducible refine cellDrew ?_ | with_reducible refine cellDrewN ?_ _ | with_reducible refine cellSetFar ?_ (by simp; omega) _))); replace e1 : w2.cell? ⟨b, o + (kp + 1) * 7 + 1, none⟩ = some (.int .u32 x.txn.s) := cellB hw2 (by first | with_reducible assumption | (go_simp; done) | (repeat (first | with_reducible assumption | with_reducible refine cellAlloc ?_ _ | with_reducible refine cellDrew ?_ | with_reducible refine cellDrewN ?_ _ | with_reducible refine cellSetFar ?_ (by simp; omega) _))); replace e2 : w2.cell? ⟨b, o + (kp + 1) * 7 + 2, none⟩ = some (.int .u32 x.home) := cellB hw2 (by first | with_reducible assumption | (go_simp; done) | (repeat (first | with_reducible assumption | with_reducible refine cellAlloc ?_ _ | with_reducible refine cellDrew ?_ | with_reducible refine cellDrewN ?_ _ | with_reducible refine cellSetFar ?_ (by simp; omega) _))); replace e3 : w2.cell? ⟨b, o + (kp + 1) * 7 + 3, none⟩ = some (.int .i64 x.oc) := cellB hw2 (by first | with_reducible assumption | (go_simp; done) | (repeat (first | with_reducible assumption | with_reducible refine cellAlloc ?_ _ | with_reducible refine cellDrew ?_ | with_reducible refine cellDrewN ?_ _ | with_reducible refine cellSetFar ?_ (by simp; omega) _))); replace e4 : w2.cell? ⟨b, o + (kp + 1) * 7 + 4, none⟩ = some (.int .u64 x.at_.w) := cellB hw2 (by first | with_reducible assumption | (go_simp; done) | (repeat (first | with_reducible assumption | with_reducible refine cellAlloc ?_ _ | with_reducible refine cellDrew ?_ | with_reducible refine cellDrewN ?_ _ | with_reducible refine cellSetFar ?_ (by simp; omega) _))); replace e5 : w2.cell? ⟨b, o + (kp + 1) * 7 + 5, none⟩ = some (.int .u32 x.at_.l) := cellB hw2 (by first | with_reducible assumption | (go_simp; done) | (repeat (first | with_reducible assumption | with_reducible refine cellAlloc ?_ _ | with_reducible refine cellDrew ?_ | with_reducible refine cellDrewN ?_ _ | with_reducible refine cellSetFar ?_ (by simp; omega) _))); replace e6 : w2.cell? ⟨b, o + (kp + 1) * 7 + 6, none⟩ = some (.int .u32 x.at_.n) := cellB hw2 (by first | with_reducible assumption | (go_simp; done) | (repeat (first | with_reducible assumption | with_reducible refine cellAlloc ?_ _ | with_reducible refine cellDrew ?_ | with_reducible refine cellDrewN ?_ _ | with_reducible refine cellSetFar ?_ (by simp; omega) _))); replace d0 : w2.cell? ⟨b, o + kp * 7, none⟩ = some (.int .u32 y.txn.c) := cellB hw2 (by first | with_reducible assumption | (go_simp; done) | (repeat (first | with_reducible assumption | with_reducible refine cellAlloc ?_ _ | with_reducible refine cellDrew ?_ | with_reducible refine cellDrewN ?_ _ | with_reducible refine cellSetFar ?_ (by simp; omega) _))); replace d1 : w2.cell? ⟨b, o + kp * 7 + 1, none⟩ = some (.int .u32 y.txn.s) := cellB hw2 (by first | with_reducible assumption | (go_simp; done) | (repeat (first | with_reducible assumption | with_reducible refine cellAlloc ?_ _ | with_reducible refine cellDrew ?_ | with_reducible refine cellDrewN ?_ _ | with_reducible refine cellSetFar ?_ (by simp; omega) _))); replace d2 : w2.cell? ⟨b, o + kp * 7 + 2, none⟩ = some (.int .u32 y.home) := cellB hw2 (by first | with_reducible assumption | (go_simp; done) | (repeat (first | with_reducible assumption | with_reducible refine cellAlloc ?_ _ | with_reducible refine cellDrew ?_ | with_reducible refine cellDrewN ?_ _ | with_reducible refine cellSetFar ?_ (by simp; omega) _))); replace d3 : w2.cell? ⟨b, o + kp * 7 + 3, none⟩ = some (.int .i64 y.oc) := cellB hw2 (by first | with_reducible assumption | (go_simp; done) | (repeat (first | with_reducible assumption | with_reducible refine cellAlloc ?_ _ | with_reducible refine cellDrew ?_ | with_reducible refine cellDrewN ?_ _ | with_reducible refine cellSetFar ?_ (by simp; omega) _))); replace d4 : w2.cell? ⟨b, o + kp * 7 + 4, none⟩ = some (.int .u64 y.at_.w) := cellB hw2 (by first | with_reducible assumption | (go_simp; done) | (repeat (first | with_reducible assumption | with_reducible refine cellAlloc ?_ _ | with_reducible refine cellDrew ?_ | with_reducible refine cellDrewN ?_ _ | with_reducible refine cellSetFar ?_ (by simp; omega) _))); replace d5 : w2.cell? ⟨b, o + kp * 7 + 5, none⟩ = some (.int .u32 y.at_.l) := cellB hw2 (by first | with_reducible assumption | (go_simp; done) | (repeat (first | with_reducible assumption | with_reducible refine cellAlloc ?_ _ | with_reducible refine cellDrew ?_ | with_reducible refine cellDrewN ?_ _ | with_reducible refine cellSetFar ?_ (by simp; omega) _))); replace d6 : w2.cell? ⟨b, o + kp * 7 + 6, none⟩ = some (.int .u32 y.at_.n) := cellB hw2 (by first | with_reducible assumption | (go_simp; done) | (repeat (first | with_reducible assumption | with_reducible refine cellAlloc ?_ _ | with_reducible refine cellDrew ?_ | with_reducible refine cellDrewN ?_ _ | with_reducible refine cellSetFar ?_ (by simp; omega) _))); replace hB := Lib.hid (chain (w := w) hw2 (by repeat (first | with_reducible exact hB.out | with_reducible exact Below.refl _ _ | with_reducible assumption | with_reducible refine allocW ?_ _ | with_reducible refine Below.drew ?_ | with_reducible refine drewNW ?_ _ | ((with_reducible refine Below.setCell ?_ ?_ _); rotate_left 1; focus (first | (simp; done) | (simp; omega)))))))
      simp only [hbf]
      go_wp2_with fail
      go_roundw
      case rel => exact ⟨kp + 2, by omega, by simp; omega, by omega, hB.out⟩
      case measure => simp [intOf]; omega
    · go_wp2_with fail
      go_ret
      exact ⟨rfl, hB.out⟩

theorem ent_cases (x e : Ent) : x.txn.c ≠ e.txn.c ∨ (x.txn.c = e.txn.c ∧ x.txn.s ≠ e.txn.s) ∨ (x.txn.c = e.txn.c ∧ x.txn.s = e.txn.s ∧ x.home ≠ e.home) ∨ (x.txn.c = e.txn.c ∧ x.txn.s = e.txn.s ∧ x.home = e.home ∧ x.oc ≠ e.oc) ∨
    (x.txn.c = e.txn.c ∧ x.txn.s = e.txn.s ∧ x.home = e.home ∧ x.oc = e.oc ∧ x.at_.w ≠ e.at_.w) ∨ (x.txn.c = e.txn.c ∧ x.txn.s = e.txn.s ∧ x.home = e.home ∧ x.oc = e.oc ∧ x.at_.w = e.at_.w ∧ x.at_.l ≠ e.at_.l) ∨
    (x.txn.c = e.txn.c ∧ x.txn.s = e.txn.s ∧ x.home = e.home ∧ x.oc = e.oc ∧ x.at_.w = e.at_.w ∧ x.at_.l = e.at_.l ∧ x.at_.n ≠ e.at_.n) ∨ x = e := by
  obtain ⟨⟨a, b⟩, c, d, ⟨p, q, r⟩⟩ := x
  obtain ⟨⟨a', b'⟩, c', d', ⟨p', q', r'⟩⟩ := e
  simp only [Ent.mk.injEq, Txn.mk.injEq, Stamp.mk.injEq]
  by_cases h1 : a = a'
  · by_cases h2 : b = b'
    · by_cases h3 : c = c'
      · by_cases h4 : d = d'
        · by_cases h5 : p = p'
          · by_cases h6 : q = q'
            · by_cases h7 : r = r' <;> simp [h1, h2, h3, h4, h5, h6, h7]
            · simp [h1, h2, h3, h4, h5, h6]
          · simp [h1, h2, h3, h4, h5]
        · simp [h1, h2, h3, h4]
      · simp [h1, h2, h3]
    · simp [h1, h2]
  · simp [h1]
def countB (xs : List Ent) (e : Ent) : Nat := xs.countP (fun x => decide (x = e))
theorem count_take {xs : List Ent} {k : Nat} {x e : Ent} (h : xs[k]? = some x) : countB (xs.take (k + 1)) e = countB (xs.take k) e + if decide (x = e) then 1 else 0 := by
  unfold countB
  rw [take_succ h, List.countP_append, List.countP_singleton]
set_option maxHeartbeats 4000000 in
theorem count26 (v : Value) (xs : List Ent) (e : Ent) (w : World) (h1 : EntsAt w v xs) :
    Calls Try.prog 26 #[v, entV e] w fun r w' => r = .returned (.int .i64 (countB xs e)) ∧ Below w.heap.size w w' := by
  have hX := Lib.hid h1
  obtain ⟨A, cap, rfl, hc, hl, _⟩ := h1
  have hB := Lib.hid (Below.refl w.heap.size w)
  go_enter Try.func26, Try.ntmps26
  go_wp2_with fail
  go_loopw [5, 9] (fun n i wr => ∃ k : Nat, k ≤ xs.length ∧ i = .int .i64 k ∧ n = .int .i64 (countB (xs.take k) e) ∧ countB (xs.take k) e ≤ k ∧ Below w.heap.size w wr ∧ wr.cell? ⟨w.heap.size, 0, none⟩ = some (.int .u32 e.txn.c) ∧ wr.cell? ⟨w.heap.size, 1, none⟩ = some (.int .u32 e.txn.s) ∧ wr.cell? ⟨w.heap.size, 2, none⟩ = some (.int .u32 e.home) ∧ wr.cell? ⟨w.heap.size, 3, none⟩ = some (.int .i64 e.oc) ∧ wr.cell? ⟨w.heap.size, 4, none⟩ = some (.int .u64 e.at_.w) ∧ wr.cell? ⟨w.heap.size, 5, none⟩ = some (.int .u32 e.at_.l) ∧ wr.cell? ⟨w.heap.size, 6, none⟩ = some (.int .u32 e.at_.n)) (fun _ i _ => xs.length - (intOf i).toNat)
  case atStart => exact ⟨0, Nat.zero_le _, rfl, rfl, Nat.le_refl _, by repeat (first | with_reducible exact hB.out | with_reducible exact Below.refl _ _ | with_reducible assumption | with_reducible refine allocW ?_ _ | with_reducible refine Below.drew ?_ | with_reducible refine drewNW ?_ _ | ((with_reducible refine Below.setCell ?_ ?_ _); rotate_left 1; focus (first | (simp; done) | (simp; omega)))), by go_simp, by go_simp, by go_simp, by go_simp, by go_simp, by go_simp, by go_simp⟩
  case round =>
    obtain ⟨k, hk, rfl, rfl, hck, hbw, f0, f1, f2, f3, f4, f5, f6⟩ := hrel
    obtain ⟨wk, hwk⟩ : ∃ wk, wk = wr := ⟨_, rfl⟩
    rw [← hwk] at hbw f0 f1 f2 f3 f4 f5 f6
    replace hB := Lib.hid hbw
    subst hwk
    by_cases hkl : k < xs.length
    · have hx0 : xs[k]? = some xs[k] := List.getElem?_eq_getElem hkl
      generalize xs[k] = x at *
      have hXw := hX.out.below hbw
      obtain ⟨b, o, rfl, e0, e1, e2, e3, e4, e5, e6⟩ := hXw.at hx0
      have hct := count_take (e := e) hx0
      have hCT := Lib.hid hct
      clear hXw hbw hct
      rcases ent_cases x e with h | ⟨h, h2⟩ | ⟨h, h2, h3⟩ | ⟨h, h2, h3, h4⟩ | ⟨h, h2, h3, h4, h5⟩ | ⟨h, h2, h3, h4, h5, h6⟩ | ⟨h, h2, h3, h4, h5, h6, h7⟩ | hxe
      rotate_left 7
      · subst hxe
        go_wp2_with fail
        (refine wp_region_below mixed (by kernel_rfl) ?_; (repeat (first | (refine bstep_off rfl ?_; simp only [Act.put, List.setIfInBounds_toArray, List.set_cons_succ, List.set_cons_zero]) | (refine bstep rfl ?_; apply Exists.intro; refine ⟨fun w2 hw2 _ => ?_, ?_⟩; (have qe0 := cellB hw2 e0; have qe1 := cellB hw2 e1; have qe2 := cellB hw2 e2; have qe3 := cellB hw2 e3; have qe4 := cellB hw2 e4; have qe5 := cellB hw2 e5; have qe6 := cellB hw2 e6; have qf0 := cellB hw2 f0; have qf1 := cellB hw2 f1; have qf2 := cellB hw2 f2; have qf3 := cellB hw2 f3; have qf4 := cellB hw2 f4; have qf5 := cellB hw2 f5; have qf6 := cellB hw2 f6; go_simp; first | (exact ⟨rfl, rfl⟩) | rfl); simp only [Act.put, List.setIfInBounds_toArray, List.set_cons_succ, List.set_cons_zero]) | (refine bstep_on rfl ?_; apply Exists.intro; refine ⟨fun w2 hw2 _ => ?_, ?_⟩; (have qe0 := cellB hw2 e0; have qe1 := cellB hw2 e1; have qe2 := cellB hw2 e2; have qe3 := cellB hw2 e3; have qe4 := cellB hw2 e4; have qe5 := cellB hw2 e5; have qe6 := cellB hw2 e6; have qf0 := cellB hw2 f0; have qf1 := cellB hw2 f1; have qf2 := cellB hw2 f2; have qf3 := cellB hw2 f3; have qf4 := cellB hw2 f4; have qf5 := cellB hw2 f5; have qf6 := cellB hw2 f6; go_simp; first | (exact ⟨rfl, rfl⟩) | rfl); simp only [Act.put, List.setIfInBounds_toArray, List.set_cons_succ, List.set_cons_zero]))); refine wq_nil ?_; intro w2 hw2; replace e0 : w2.cell? ⟨b, o + k * 7, none⟩ = some (.int .u32 x.txn.c) := cellB hw2 (by first | with_reducible assumption | (go_simp; done) | (repeat (first | with_reducible assumption | with_reducible refine cellAlloc ?_ _ | with_reducible refine cellDrew ?_ | with_reducible refine cellDrewN ?_ _ | with_reducible refine cellSetFar ?_ (by simp; omega) _))); replace e1 : w2.cell? ⟨b, o + k * 7 + 1, none⟩ = some (.int .u32 x.txn.s) := cellB hw2 (by first | with_reducible assumption | (go_simp; done) | (repeat (first | with_reducible assumption | with_reducible refine cellAlloc ?_ _ | with_reducible refine cellDrew ?_ | with_reducible refine cellDrewN ?_ _ | with_reducible refine cellSetFar ?_ (by simp; omega) _))); replace e2 : w2.cell? ⟨b, o + k * 7 + 2, none⟩ = some (.int .u32 x.home) := cellB hw2 (by first | with_reducible assumption | (go_simp; done) | (repeat (first | with_reducible assumption | with_reducible refine cellAlloc ?_ _ | with_reducible refine cellDrew ?_ | with_reducible refine cellDrewN ?_ _ | with_reducible refine cellSetFar ?_ (by simp; omega) _))); replace e3 : w2.cell? ⟨b, o + k * 7 + 3, none⟩ = some (.int .i64 x.oc) := cellB hw2 (by first | with_reducible assumption | (go_simp; done) | (repeat (first | with_reducible assumption | with_reducible refine cellAlloc ?_ _ | with_reducible refine cellDrew ?_ | with_reducible refine cellDrewN ?_ _ | with_reducible refine cellSetFar ?_ (by simp; omega) _))); replace e4 : w2.cell? ⟨b, o + k * 7 + 4, none⟩ = some (.int .u64 x.at_.w) := cellB hw2 (by first | with_reducible assumption | (go_simp; done) | (repeat (first | with_reducible assumption | with_reducible refine cellAlloc ?_ _ | with_reducible refine cellDrew ?_ | with_reducible refine cellDrewN ?_ _ | with_reducible refine cellSetFar ?_ (by simp; omega) _))); replace e5 : w2.cell? ⟨b, o + k * 7 + 5, none⟩ = some (.int .u32 x.at_.l) := cellB hw2 (by first | with_reducible assumption | (go_simp; done) | (repeat (first | with_reducible assumption | with_reducible refine cellAlloc ?_ _ | with_reducible refine cellDrew ?_ | with_reducible refine cellDrewN ?_ _ | with_reducible refine cellSetFar ?_ (by simp; omega) _))); replace e6 : w2.cell? ⟨b, o + k * 7 + 6, none⟩ = some (.int .u32 x.at_.n) := cellB hw2 (by first | with_reducible assumption | (go_simp; done) | (repeat (first | with_reducible assumption | with_reducible refine cellAlloc ?_ _ | with_reducible refine cellDrew ?_ | with_reducible refine cellDrewN ?_ _ | with_reducible refine cellSetFar ?_ (by simp; omega) _))); replace f0 : w2.cell? ⟨w.heap.size, 0, none⟩ = some (.int .u32 x.txn.c) := cellB hw2 (by first | with_reducible assumption | (go_simp; done) | (repeat (first | with_reducible assumption | with_reducible refine cellAlloc ?_ _ | with_reducible refine cellDrew ?_ | with_reducible refine cellDrewN ?_ _ | with_reducible refine cellSetFar ?_ (by simp; omega) _))); replace f1 : w2.cell? ⟨w.heap.size, 1, none⟩ = some (.int .u32 x.txn.s) := cellB hw2 (by first | with_reducible assumption | (go_simp; done) | (repeat (first | with_reducible assumption | with_reducible refine cellAlloc ?_ _ | with_reducible refine cellDrew ?_ | with_reducible refine cellDrewN ?_ _ | with_reducible refine cellSetFar ?_ (by simp; omega) _))); replace f2 : w2.cell? ⟨w.heap.size, 2, none⟩ = some (.int .u32 x.home) := cellB hw2 (by first | with_reducible assumption | (go_simp; done) | (repeat (first | with_reducible assumption | with_reducible refine cellAlloc ?_ _ | with_reducible refine cellDrew ?_ | with_reducible refine cellDrewN ?_ _ | with_reducible refine cellSetFar ?_ (by simp; omega) _))); replace f3 : w2.cell? ⟨w.heap.size, 3, none⟩ = some (.int .i64 x.oc) := cellB hw2 (by first | with_reducible assumption | (go_simp; done) | (repeat (first | with_reducible assumption | with_reducible refine cellAlloc ?_ _ | with_reducible refine cellDrew ?_ | with_reducible refine cellDrewN ?_ _ | with_reducible refine cellSetFar ?_ (by simp; omega) _))); replace f4 : w2.cell? ⟨w.heap.size, 4, none⟩ = some (.int .u64 x.at_.w) := cellB hw2 (by first | with_reducible assumption | (go_simp; done) | (repeat (first | with_reducible assumption | with_reducible refine cellAlloc ?_ _ | with_reducible refine cellDrew ?_ | with_reducible refine cellDrewN ?_ _ | with_reducible refine cellSetFar ?_ (by simp; omega) _))); replace f5 : w2.cell? ⟨w.heap.size, 5, none⟩ = some (.int .u32 x.at_.l) := cellB hw2 (by first | with_reducible assumption | (go_simp; done) | (repeat (first | with_reducible assumption | with_reducible refine cellAlloc ?_ _ | with_reducible refine cellDrew ?_ | with_reducible refine cellDrewN ?_ _ | with_reducible refine cellSetFar ?_ (by simp; omega) _))); replace f6 : w2.cell? ⟨w.heap.size, 6, none⟩ = some (.int .u32 x.at_.n) := cellB hw2 (by first | with_reducible assumption | (go_simp; done) | (repeat (first | with_reducible assumption | with_reducible refine cellAlloc ?_ _ | with_reducible refine cellDrew ?_ | with_reducible refine cellDrewN ?_ _ | with_reducible refine cellSetFar ?_ (by simp; omega) _))); replace hB := Lib.hid (chain (w := w) hw2 (by repeat (first | with_reducible exact hB.out | with_reducible exact Below.refl _ _ | with_reducible assumption | with_reducible refine allocW ?_ _ | with_reducible refine Below.drew ?_ | with_reducible refine drewNW ?_ _ | ((with_reducible refine Below.setCell ?_ ?_ _); rotate_left 1; focus (first | (simp; done) | (simp; omega)))))))
        go_wp2_with fail
        go_roundw
        case rel => exact ⟨k + 1, by omega, by simp, by rw [hCT.out]; simp, by rw [hCT.out]; simp; omega, hB.out, f0, f1, f2, f3, f4, f5, f6⟩
        case measure => simp [intOf]; omega
      all_goals
        have hne : decide (x = e) = false := decide_eq_false (fun he => by subst he; simp at *)
        go_wp2_with fail
        (refine wp_region_below mixed (by kernel_rfl) ?_; (repeat (first | (refine bstep_off rfl ?_; simp only [Act.put, List.setIfInBounds_toArray, List.set_cons_succ, List.set_cons_zero]) | (refine bstep rfl ?_; apply Exists.intro; refine ⟨fun w2 hw2 _ => ?_, ?_⟩; (have qe0 := cellB hw2 e0; have qe1 := cellB hw2 e1; have qe2 := cellB hw2 e2; have qe3 := cellB hw2 e3; have qe4 := cellB hw2 e4; have qe5 := cellB hw2 e5; have qe6 := cellB hw2 e6; have qf0 := cellB hw2 f0; have qf1 := cellB hw2 f1; have qf2 := cellB hw2 f2; have qf3 := cellB hw2 f3; have qf4 := cellB hw2 f4; have qf5 := cellB hw2 f5; have qf6 := cellB hw2 f6; go_simp; first | (exact ⟨rfl, rfl⟩) | rfl); simp only [Act.put, List.setIfInBounds_toArray, List.set_cons_succ, List.set_cons_zero]) | (refine bstep_on rfl ?_; apply Exists.intro; refine ⟨fun w2 hw2 _ => ?_, ?_⟩; (have qe0 := cellB hw2 e0; have qe1 := cellB hw2 e1; have qe2 := cellB hw2 e2; have qe3 := cellB hw2 e3; have qe4 := cellB hw2 e4; have qe5 := cellB hw2 e5; have qe6 := cellB hw2 e6; have qf0 := cellB hw2 f0; have qf1 := cellB hw2 f1; have qf2 := cellB hw2 f2; have qf3 := cellB hw2 f3; have qf4 := cellB hw2 f4; have qf5 := cellB hw2 f5; have qf6 := cellB hw2 f6; go_simp; first | (exact ⟨rfl, rfl⟩) | rfl); simp only [Act.put, List.setIfInBounds_toArray, List.set_cons_succ, List.set_cons_zero]))); refine wq_nil ?_; intro w2 hw2; replace e0 : w2.cell? ⟨b, o + k * 7, none⟩ = some (.int .u32 x.txn.c) := cellB hw2 (by first | with_reducible assumption | (go_simp; done) | (repeat (first | with_reducible assumption | with_reducible refine cellAlloc ?_ _ | with_reducible refine cellDrew ?_ | with_reducible refine cellDrewN ?_ _ | with_reducible refine cellSetFar ?_ (by simp; omega) _))); replace e1 : w2.cell? ⟨b, o + k * 7 + 1, none⟩ = some (.int .u32 x.txn.s) := cellB hw2 (by first | with_reducible assumption | (go_simp; done) | (repeat (first | with_reducible assumption | with_reducible refine cellAlloc ?_ _ | with_reducible refine cellDrew ?_ | with_reducible refine cellDrewN ?_ _ | with_reducible refine cellSetFar ?_ (by simp; omega) _))); replace e2 : w2.cell? ⟨b, o + k * 7 + 2, none⟩ = some (.int .u32 x.home) := cellB hw2 (by first | with_reducible assumption | (go_simp; done) | (repeat (first | with_reducible assumption | with_reducible refine cellAlloc ?_ _ | with_reducible refine cellDrew ?_ | with_reducible refine cellDrewN ?_ _ | with_reducible refine cellSetFar ?_ (by simp; omega) _))); replace e3 : w2.cell? ⟨b, o + k * 7 + 3, none⟩ = some (.int .i64 x.oc) := cellB hw2 (by first | with_reducible assumption | (go_simp; done) | (repeat (first | with_reducible assumption | with_reducible refine cellAlloc ?_ _ | with_reducible refine cellDrew ?_ | with_reducible refine cellDrewN ?_ _ | with_reducible refine cellSetFar ?_ (by simp; omega) _))); replace e4 : w2.cell? ⟨b, o + k * 7 + 4, none⟩ = some (.int .u64 x.at_.w) := cellB hw2 (by first | with_reducible assumption | (go_simp; done) | (repeat (first | with_reducible assumption | with_reducible refine cellAlloc ?_ _ | with_reducible refine cellDrew ?_ | with_reducible refine cellDrewN ?_ _ | with_reducible refine cellSetFar ?_ (by simp; omega) _))); replace e5 : w2.cell? ⟨b, o + k * 7 + 5, none⟩ = some (.int .u32 x.at_.l) := cellB hw2 (by first | with_reducible assumption | (go_simp; done) | (repeat (first | with_reducible assumption | with_reducible refine cellAlloc ?_ _ | with_reducible refine cellDrew ?_ | with_reducible refine cellDrewN ?_ _ | with_reducible refine cellSetFar ?_ (by simp; omega) _))); replace e6 : w2.cell? ⟨b, o + k * 7 + 6, none⟩ = some (.int .u32 x.at_.n) := cellB hw2 (by first | with_reducible assumption | (go_simp; done) | (repeat (first | with_reducible assumption | with_reducible refine cellAlloc ?_ _ | with_reducible refine cellDrew ?_ | with_reducible refine cellDrewN ?_ _ | with_reducible refine cellSetFar ?_ (by simp; omega) _))); replace f0 : w2.cell? ⟨w.heap.size, 0, none⟩ = some (.int .u32 e.txn.c) := cellB hw2 (by first | with_reducible assumption | (go_simp; done) | (repeat (first | with_reducible assumption | with_reducible refine cellAlloc ?_ _ | with_reducible refine cellDrew ?_ | with_reducible refine cellDrewN ?_ _ | with_reducible refine cellSetFar ?_ (by simp; omega) _))); replace f1 : w2.cell? ⟨w.heap.size, 1, none⟩ = some (.int .u32 e.txn.s) := cellB hw2 (by first | with_reducible assumption | (go_simp; done) | (repeat (first | with_reducible assumption | with_reducible refine cellAlloc ?_ _ | with_reducible refine cellDrew ?_ | with_reducible refine cellDrewN ?_ _ | with_reducible refine cellSetFar ?_ (by simp; omega) _))); replace f2 : w2.cell? ⟨w.heap.size, 2, none⟩ = some (.int .u32 e.home) := cellB hw2 (by first | with_reducible assumption | (go_simp; done) | (repeat (first | with_reducible assumption | with_reducible refine cellAlloc ?_ _ | with_reducible refine cellDrew ?_ | with_reducible refine cellDrewN ?_ _ | with_reducible refine cellSetFar ?_ (by simp; omega) _))); replace f3 : w2.cell? ⟨w.heap.size, 3, none⟩ = some (.int .i64 e.oc) := cellB hw2 (by first | with_reducible assumption | (go_simp; done) | (repeat (first | with_reducible assumption | with_reducible refine cellAlloc ?_ _ | with_reducible refine cellDrew ?_ | with_reducible refine cellDrewN ?_ _ | with_reducible refine cellSetFar ?_ (by simp; omega) _))); replace f4 : w2.cell? ⟨w.heap.size, 4, none⟩ = some (.int .u64 e.at_.w) := cellB hw2 (by first | with_reducible assumption | (go_simp; done) | (repeat (first | with_reducible assumption | with_reducible refine cellAlloc ?_ _ | with_reducible refine cellDrew ?_ | with_reducible refine cellDrewN ?_ _ | with_reducible refine cellSetFar ?_ (by simp; omega) _))); replace f5 : w2.cell? ⟨w.heap.size, 5, none⟩ = some (.int .u32 e.at_.l) := cellB hw2 (by first | with_reducible assumption | (go_simp; done) | (repeat (first | with_reducible assumption | with_reducible refine cellAlloc ?_ _ | with_reducible refine cellDrew ?_ | with_reducible refine cellDrewN ?_ _ | with_reducible refine cellSetFar ?_ (by simp; omega) _))); replace f6 : w2.cell? ⟨w.heap.size, 6, none⟩ = some (.int .u32 e.at_.n) := cellB hw2 (by first | with_reducible assumption | (go_simp; done) | (repeat (first | with_reducible assumption | with_reducible refine cellAlloc ?_ _ | with_reducible refine cellDrew ?_ | with_reducible refine cellDrewN ?_ _ | with_reducible refine cellSetFar ?_ (by simp; omega) _))); replace hB := Lib.hid (chain (w := w) hw2 (by repeat (first | with_reducible exact hB.out | with_reducible exact Below.refl _ _ | with_reducible assumption | with_reducible refine allocW ?_ _ | with_reducible refine Below.drew ?_ | with_reducible refine drewNW ?_ _ | ((with_reducible refine Below.setCell ?_ ?_ _); rotate_left 1; focus (first | (simp; done) | (simp; omega)))))))
        go_wp2_with fail
        go_roundw
        case rel => exact ⟨k + 1, by omega, by simp, by rw [hCT.out, hne]; simp, by rw [hCT.out, hne]; simp; omega, hB.out, f0, f1, f2, f3, f4, f5, f6⟩
        case measure => simp [intOf]; omega
    · obtain rfl : k = xs.length := by omega
      clear hbw
      rw [List.take_length]
      go_wp2_with fail
      go_ret
      exact ⟨rfl, hB.out⟩
end Go.Proofs.Ytpobdcdabojhcaa
