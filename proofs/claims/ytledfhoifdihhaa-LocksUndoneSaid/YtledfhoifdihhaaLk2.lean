/- Conflict: the program's. -/
import Derived.Test.YtledfhoifdihhaaLkT
namespace Go.Proofs.Ytledfhoifdihhaa
open Go.RowKit
set_option linter.unusedVariables false
set_option linter.unusedSimpArgs false

theorem txn_cases (a b : Txn) : a.c ≠ b.c ∨ (a.c = b.c ∧ a.s ≠ b.s) ∨ a = b := by
  obtain ⟨a1, a2⟩ := a
  obtain ⟨b1, b2⟩ := b
  simp only [Txn.mk.injEq]
  grind
theorem keys_nodup {w : World} {ib : Nat} {I : List (ByteArray × Txn)} (h : MapOf w ib (intKV I)) : (I.map (·.1)).Nodup := by
  have := h.keys_nodup
  rw [List.map_map] at this
  have e : (I.map (·.1)).map Value.string = I.map ((fun p : Value × Value => p.1) ∘ fun p : ByteArray × Txn => (Value.string p.1, txnV p.2)) := by simp
  rw [← e] at this
  exact nodup_of_map _ this

theorem txn_uniq {L : List Hd} (hn : (L.map (·.txn)).Nodup) {a b : Hd} (ha : a ∈ L) (hb : b ∈ L) (he : a.txn = b.txn) : a = b := by
  obtain ⟨i, hi, rfl⟩ := List.mem_iff_getElem.1 ha
  obtain ⟨j, hj, rfl⟩ := List.mem_iff_getElem.1 hb
  have : i = j := by
    refine (List.getElem_inj hn (h₀ := by simpa using hi) (h₁ := by simpa using hj)).1 ?_
    simpa using he
  subst this
  rfl
set_option maxHeartbeats 4000000 in
theorem conflict26 (tb hb ib : Nat) (L : List Hd) (I : List (ByteArray × Txn)) (t : Txn) (v1 v2 : Value) (rs : List Sp) (ws : List Wr) (w : World) (hT : TabAt w tb hb ib L I) (hG : Good L I) (h1 : SlOf w 2 spC v1 rs) (h2 : SlOf w 3 wrC v2 ws) :
    Calls Try.prog 26 #[.pointer (some ⟨tb, 0, none⟩), txnV t, v1, v2] w fun r w' => r = .returned (.bool (conflictB L t rs ws)) ∧ Below w.heap.size w w' := by
  rw [conflict_eq hG (keys_nodup hT.ints)]
  have hS1 := Lib.hid h1
  have hS2 := Lib.hid h2
  obtain ⟨A, cap, rfl, hc, ⟨hl, _⟩, hR⟩ := h2
  have hB := Lib.hid (Below.refl w.heap.size w)
  have hR := Lib.hid hR
  have htb : tb < w.heap.size := World.block_lt_of_cell? _ _ hT.c0
  have hTT := Lib.hid hT
  clear hT h1
  go_enter Try.func26, Try.ntmps26
  go_wp2_with fail
  go_loopw [17] (fun i wr => ∃ k : Nat, k ≤ ws.length ∧ i = .int .i64 k ∧ (ws.take k).any (intB I t) = false ∧ Below w.heap.size w wr ∧ wr.cell? ⟨w.heap.size, 0, none⟩ = some (.int .u32 t.c) ∧ wr.cell? ⟨w.heap.size, 1, none⟩ = some (.int .u32 t.s)) (fun i _ => ws.length - (intOf i).toNat)
  case atStart => exact ⟨0, Nat.zero_le _, rfl, rfl, by repeat (first | with_reducible exact hB.out | with_reducible exact Below.refl _ _ | with_reducible assumption | with_reducible refine allocW ?_ _ | with_reducible refine Below.drew ?_ | with_reducible refine drewNW ?_ _ | ((with_reducible refine Below.setCell ?_ ?_ _); rotate_left 1; focus (first | (simp; done) | (simp; omega)))), by go_simp, by go_simp⟩
  case round =>
    obtain ⟨k, hk, rfl, hno, hbw, b0, b1⟩ := hrel
    have hNO := Lib.hid hno
    clear hno
    by_cases hkl : k < ws.length
    · have hx0 : ws[k]? = some ws[k] := List.getElem?_eq_getElem hkl
      obtain ⟨b, o, rfl, hE⟩ := hR.out.below hbw k ws[k] hx0
      generalize ws[k] = x at *
      have e0 := hE 0 _ rfl
      have e1 := hE 1 _ rfl
      have e2 := hE 2 _ rfl
      simp only [Nat.add_zero] at e0
      clear hE
      obtain ⟨w1, hw1⟩ : ∃ w1, w1 = wr := ⟨_, rfl⟩
      rw [← hw1] at hbw e0 e1 e2 b0 b1
      have hb1 : b < w1.heap.size := World.block_lt_of_cell? _ _ e0
      have hT1 := hTT.out.below hbw
      have c0 := hT1.c0
      have c1 := hT1.c1
      replace hB := Lib.hid hbw
      have hTa := Lib.hid hT1
      clear hbw hT1
      subst hw1
      go_wp2_with fail
      (refine wp_gen (fun W => Below w.heap.size w W ∧ TabAt W tb hb ib L I ∧ W.cell? ⟨w.heap.size, 0, none⟩ = some (.int .u32 t.c) ∧ W.cell? ⟨w.heap.size, 1, none⟩ = some (.int .u32 t.s) ∧ W.cell? ⟨w1.heap.size, 0, none⟩ = some (.string x.key) ∧ W.cell? ⟨tb, 0, none⟩ = some (.map (some hb)) ∧ W.cell? ⟨tb, 1, none⟩ = some (.map (some ib))) ⟨by repeat (first | with_reducible exact hB.out | with_reducible exact Below.refl _ _ | with_reducible assumption | with_reducible refine allocW ?_ _ | with_reducible refine Below.drew ?_ | with_reducible refine drewNW ?_ _ | ((with_reducible refine Below.setCell ?_ ?_ _); rotate_left 1; focus (first | (simp; done) | (simp; omega)))), hTa.out.alloc _, by first | with_reducible assumption | (go_simp; done) | (repeat (first | with_reducible assumption | with_reducible refine cellAlloc ?_ _ | with_reducible refine cellDrew ?_ | with_reducible refine cellDrewN ?_ _ | with_reducible refine cellSetFar ?_ (by simp; omega) _)), by first | with_reducible assumption | (go_simp; done) | (repeat (first | with_reducible assumption | with_reducible refine cellAlloc ?_ _ | with_reducible refine cellDrew ?_ | with_reducible refine cellDrewN ?_ _ | with_reducible refine cellSetFar ?_ (by simp; omega) _)), by first | with_reducible assumption | (go_simp; done) | (repeat (first | with_reducible assumption | with_reducible refine cellAlloc ?_ _ | with_reducible refine cellDrew ?_ | with_reducible refine cellDrewN ?_ _ | with_reducible refine cellSetFar ?_ (by simp; omega) _)), by first | with_reducible assumption | (go_simp; done) | (repeat (first | with_reducible assumption | with_reducible refine cellAlloc ?_ _ | with_reducible refine cellDrew ?_ | with_reducible refine cellDrewN ?_ _ | with_reducible refine cellSetFar ?_ (by simp; omega) _)), by first | with_reducible assumption | (go_simp; done) | (repeat (first | with_reducible assumption | with_reducible refine cellAlloc ?_ _ | with_reducible refine cellDrew ?_ | with_reducible refine cellDrewN ?_ _ | with_reducible refine cellSetFar ?_ (by simp; omega) _))⟩ ?_; (try clear hB hM1 b0 b1 k0 c0 c1); rintro W ⟨hB, hM1, b0, b1, k0, c0, c1⟩; replace hB := Lib.hid hB; replace hM1 := Lib.hid hM1)
      obtain ⟨u, hu⟩ : ∃ u, findI I x.key = u := ⟨_, rfl⟩
      have hin0 : intB I t x = (u.map fun u => decide (u ≠ t)).getD false := by unfold intB; rw [hu]; cases u <;> rfl
      (refine wp_region_multi (w := W) [] (fun _ => .cells #[.int .u32 0, .int .u32 0] 40) (fun _ => True) [] [0, 1, 2, 3, 4, 5, 6, 7, 8, 9] [10] [11, 12] mixed (by kernel_rfl) (by simp) (by intro m hm; simp only [List.mem_cons, List.not_mem_nil, or_false] at hm; subst hm; all_goals exact ⟨_, rfl, rfl, fun ρ w => by go_simp⟩) (trivial) (fun _ _ _ => trivial) ?_; (repeat (first | (refine mstep_off rfl rfl rfl ?_; simp only [Act.put, List.setIfInBounds_toArray, List.set_cons_succ, List.set_cons_zero]) | (refine mstep rfl rfl rfl ?_; apply Exists.intro; refine ⟨fun w2 hw2 => ?_, ?_⟩; (have qb0 : w2.cell? ⟨w.heap.size, 0, none⟩ = some (.int .u32 t.c) := hw2.cell b0 (by first | (simp; done) | (simp; omega) | (simp only [List.mem_singleton, List.mem_cons, List.not_mem_nil, or_false, not_or]; omega)); have qb1 : w2.cell? ⟨w.heap.size, 1, none⟩ = some (.int .u32 t.s) := hw2.cell b1 (by first | (simp; done) | (simp; omega) | (simp only [List.mem_singleton, List.mem_cons, List.not_mem_nil, or_false, not_or]; omega)); have qk0 : w2.cell? ⟨w1.heap.size, 0, none⟩ = some (.string x.key) := hw2.cell k0 (by first | (simp; done) | (simp; omega) | (simp only [List.mem_singleton, List.mem_cons, List.not_mem_nil, or_false, not_or]; omega)); have qc0 : w2.cell? ⟨tb, 0, none⟩ = some (.map (some hb)) := hw2.cell c0 (by first | (simp; done) | (simp; omega) | (simp only [List.mem_singleton, List.mem_cons, List.not_mem_nil, or_false, not_or]; omega)); have qc1 : w2.cell? ⟨tb, 1, none⟩ = some (.map (some ib)) := hw2.cell c1 (by first | (simp; done) | (simp; omega) | (simp only [List.mem_singleton, List.mem_cons, List.not_mem_nil, or_false, not_or]; omega)); have ql := look_ints (hM1.out.ints.below hw2.nil_below) x.key; rw [hu] at ql; go_simp; rfl); simp only [Act.put, List.setIfInBounds_toArray, List.set_cons_succ, List.set_cons_zero]) | (refine mstep_on rfl rfl rfl ?_; apply Exists.intro; refine ⟨fun w2 hw2 => ?_, ?_⟩; (have qb0 : w2.cell? ⟨w.heap.size, 0, none⟩ = some (.int .u32 t.c) := hw2.cell b0 (by first | (simp; done) | (simp; omega) | (simp only [List.mem_singleton, List.mem_cons, List.not_mem_nil, or_false, not_or]; omega)); have qb1 : w2.cell? ⟨w.heap.size, 1, none⟩ = some (.int .u32 t.s) := hw2.cell b1 (by first | (simp; done) | (simp; omega) | (simp only [List.mem_singleton, List.mem_cons, List.not_mem_nil, or_false, not_or]; omega)); have qk0 : w2.cell? ⟨w1.heap.size, 0, none⟩ = some (.string x.key) := hw2.cell k0 (by first | (simp; done) | (simp; omega) | (simp only [List.mem_singleton, List.mem_cons, List.not_mem_nil, or_false, not_or]; omega)); have qc0 : w2.cell? ⟨tb, 0, none⟩ = some (.map (some hb)) := hw2.cell c0 (by first | (simp; done) | (simp; omega) | (simp only [List.mem_singleton, List.mem_cons, List.not_mem_nil, or_false, not_or]; omega)); have qc1 : w2.cell? ⟨tb, 1, none⟩ = some (.map (some ib)) := hw2.cell c1 (by first | (simp; done) | (simp; omega) | (simp only [List.mem_singleton, List.mem_cons, List.not_mem_nil, or_false, not_or]; omega)); have ql := look_ints (hM1.out.ints.below hw2.nil_below) x.key; rw [hu] at ql; go_simp; rfl); simp only [Act.put, List.setIfInBounds_toArray, List.set_cons_succ, List.set_cons_zero]))); refine mdone ?_; intro p w2 hw2 hm2 hp hinj; simp only [putNew, List.foldl_cons, List.foldl_nil, dstOf, List.getElem?_toArray, List.getElem?_cons_succ, List.getElem?_cons_zero, Option.bind_some]; (try simp only [Act.put, List.setIfInBounds_toArray, List.set_cons_succ, List.set_cons_zero]); obtain ⟨hnb, hnbz⟩ := hp 10 (by simp); generalize p 10 = nb at *; have nbz0 : w2.cell? ⟨nb, 0, none⟩ = some (.int .u32 0) := cell_heap hnbz rfl; have nby0 := frozen_heap hnbz 0; have nbz1 : w2.cell? ⟨nb, 1, none⟩ = some (.int .u32 0) := cell_heap hnbz rfl; have nby1 := frozen_heap hnbz 1; clear hp hinj; refine @tstep _ _ _ _ _ _ _ _ ?ot1 ?ot2 _ _ ?_ ?_ ?_ ?_; (all_goals (try rfl)); intro K hK; go_simp; refine hK _ _ (by repeat (first | with_reducible assumption | with_reducible exact Kp.refl _ _ | with_reducible refine Kp.alloc ?_ _ | with_reducible refine Kp.drew ?_ | ((with_reducible refine Kp.setCell ?_ ?_ _); rotate_left 1; focus (first | (simp; done) | (simp; omega) | omega)))) ?_; clear hK K; refine @tlast _ _ _ _ _ _ ?ot3 _ _ ?_ ?_; (all_goals (try rfl)))
      go_wp2_with fail
      (refine noPanic_gen (fun W2 => Kp [] W W2 ∧ W2.cell? ⟨nb, 0, none⟩ = some (.int .u32 (u.getD ⟨0, 0⟩).c) ∧ W2.cell? ⟨nb, 1, none⟩ = some (.int .u32 (u.getD ⟨0, 0⟩).s)) ⟨by repeat (first | with_reducible assumption | with_reducible exact Kp.refl _ _ | with_reducible refine Kp.alloc ?_ _ | with_reducible refine Kp.drew ?_ | ((with_reducible refine Kp.setCell ?_ ?_ _); rotate_left 1; focus (first | (simp; done) | (simp; omega) | omega))), by first | with_reducible assumption | (go_simp; done) | (repeat (first | with_reducible assumption | with_reducible refine cellAlloc ?_ _ | with_reducible refine cellDrew ?_ | with_reducible refine cellDrewN ?_ _ | with_reducible refine cellSetFar ?_ (by simp; omega) _)), by first | with_reducible assumption | (go_simp; done) | (repeat (first | with_reducible assumption | with_reducible refine cellAlloc ?_ _ | with_reducible refine cellDrew ?_ | with_reducible refine cellDrewN ?_ _ | with_reducible refine cellSetFar ?_ (by simp; omega) _))⟩ ?_; rintro W2 ⟨hKW, n0, n1⟩; replace b0 : W2.cell? ⟨w.heap.size, 0, none⟩ = some (.int .u32 t.c) := hKW.cell (by first | with_reducible assumption | (go_simp; done) | (repeat (first | with_reducible assumption | with_reducible refine cellAlloc ?_ _ | with_reducible refine cellDrew ?_ | with_reducible refine cellDrewN ?_ _ | with_reducible refine cellSetFar ?_ (by simp; omega) _))) (by first | (simp; done) | (simp; omega) | (simp only [List.mem_singleton, List.mem_cons, List.not_mem_nil, or_false, not_or]; omega)); replace b1 : W2.cell? ⟨w.heap.size, 1, none⟩ = some (.int .u32 t.s) := hKW.cell (by first | with_reducible assumption | (go_simp; done) | (repeat (first | with_reducible assumption | with_reducible refine cellAlloc ?_ _ | with_reducible refine cellDrew ?_ | with_reducible refine cellDrewN ?_ _ | with_reducible refine cellSetFar ?_ (by simp; omega) _))) (by first | (simp; done) | (simp; omega) | (simp only [List.mem_singleton, List.mem_cons, List.not_mem_nil, or_false, not_or]; omega)); replace hB := Lib.hid (chain (w := w) hKW.nil_below hB.out))
      cases u with
      | none =>
        have hin : intB I t x = false := hin0
        go_wp2_with fail
        go_roundw
        case rel => exact ⟨k + 1, by omega, by simp, any_take hx0 hNO.out hin, hB.out, b0, b1⟩
        case measure => simp [intOf]; omega
      | some u =>
        rcases txn_cases u t with hc1 | ⟨hc1, hs1⟩ | hut
        · have hin : intB I t x = true := by rw [hin0]; simp; intro h; exact hc1 (by rw [h])
          have hhit : ws.any (intB I t) = true := any_hit hx0 hin
          go_wp2_with fail
          go_ret
          exact ⟨ret_bool (by rw [hhit]; rfl), hB.out⟩
        · have hin : intB I t x = true := by rw [hin0]; simp; intro h; exact hs1 (by rw [h])
          have hhit : ws.any (intB I t) = true := any_hit hx0 hin
          go_wp2_with fail
          go_ret
          exact ⟨ret_bool (by rw [hhit]; rfl), hB.out⟩
        · subst hut
          have hin : intB I u x = false := by rw [hin0]; simp
          go_wp2_with fail
          go_roundw
          case rel => exact ⟨k + 1, by omega, by simp, any_take hx0 hNO.out hin, hB.out, b0, b1⟩
          case measure => simp [intOf]; omega
    · obtain rfl : k = ws.length := by omega
      have hno3 := hNO.out
      rw [List.take_length] at hno3
      have hN3 := Lib.hid hno3
      clear hno3
      obtain ⟨w1, hw1⟩ : ∃ w1, w1 = wr := ⟨_, rfl⟩
      rw [← hw1] at hbw b0 b1
      have hT1 := hTT.out.below hbw
      have c0 := hT1.c0
      have c1 := hT1.c1
      replace hB := Lib.hid hbw
      obtain ⟨kv, hmap, hkv⟩ := hT1.held
      have htb1 : tb < w1.heap.size := World.block_lt_of_cell? _ _ c0
      obtain ⟨ob, hrange, hit⟩ := run_range_map (P := Try.prog) Try.underlying73 hmap
      have hM := Lib.hid hmap
      have hKV := Lib.hid hkv
      have hIT := Lib.hid hit
      clear hbw hT1 hmap hkv hit
      subst hw1
      go_wp2_with fail
      go_loopw [43] (fun _ wr => ∃ done, Iter wr w1.heap.size hb kv done ∧ Below w1.heap.size w1 wr ∧ (∀ p ∈ done, ∀ h ∈ L, p.1 = txnV h.txn → partB t rs ws h = false)) (fun _ wr => kv.length - seenOf wr w1.heap.size)
      case atStart => exact ⟨[], hIT.out, (Below.refl _ _).alloc (Nat.le_refl _) _, fun p hp => by cases hp⟩
      case round =>
        obtain ⟨done, hit, hbw, hno⟩ := hrel
        have hseen := hit.seen
        have hNo := Lib.hid hno
        clear hno
        rcases run_next_map' (P := Try.prog) 0 hit with ⟨hperm, hrun⟩ | ⟨p, hp, wn, hrun, hit', hkp, hsz, hlen, hnd⟩
        · have hall : L.any (partB t rs ws) = false := by
            rw [List.any_eq_false]
            intro h hh
            obtain ⟨q, hq, hq1, _⟩ := hKV.out.mem hh
            have := hNo.out q (hperm.mem_iff.2 hq) h hh hq1
            simp [this]
          replace hB := Lib.hid (chain (w := w) hbw hB.out)
          clear hit hperm hbw
          go_wp2_with fail
          go_ret
          exact ⟨ret_bool (by rw [hN3.out, hall]; rfl), hB.out⟩
        · obtain ⟨h, hh, hp1, hd⟩ := hKV.out.of_mem hp
          obtain ⟨pk, pv⟩ := p
          obtain rfl : pk = txnV h.txn := hp1
          obtain ⟨sr, sw, rfl, hsr, hsw⟩ := hd
          have hent := run_entry_map' (P := Try.prog) hit'
          have hb2 : Below w1.heap.size w1 wn := hbw.trans (hkp.below hbw.size (by simp))
          have hB2 := Lib.hid hb2
          have hSR := Lib.hid hsr
          have hSW := Lib.hid hsw
          obtain ⟨Ar, cr, rfl, _, _, _⟩ := hsr
          obtain ⟨Aw, cw, rfl, _, _, _⟩ := hsw
          have hC := Lib.hid (chain (w := w) hb2 hB.out)
          have hIT2 := Lib.hid hit'
          replace b0 : wn.cell? ⟨w.heap.size, 0, none⟩ = some (.int .u32 t.c) := cellB hb2 b0
          replace b1 : wn.cell? ⟨w.heap.size, 1, none⟩ = some (.int .u32 t.s) := cellB hb2 b1
          have hbl : w.heap.size < wn.heap.size := World.block_lt_of_cell? _ _ b0
          have hseen' := hit'.seen
          have hSeen := Lib.hid hseen'
          clear hit hit' hsz hb2 hbw hkp hseen' c0 c1
          replace hB := hC
          have hB3 := Lib.hid (Below.refl wn.heap.size wn)
          have huni : ∀ h' ∈ L, txnV h.txn = txnV h'.txn → h' = h := fun h' hh' he => txn_uniq hG.nodup hh' hh (txnV_inj he).symm
          have hUni := Lib.hid huni
          clear huni
          cases hi1 : intoB ws h.reads <;> cases hi2 : intoB h.writes rs
          all_goals rcases txn_cases h.txn t with hc1 | ⟨hc1, hs1⟩ | hut
          all_goals first | subst hut | skip
          all_goals go_wp2_with (first | (go_at_call 41; with_reducible refine (into41 _ _ ws h.reads _ (hS2.out.below (by repeat (first | with_reducible exact hB.out | with_reducible exact Below.refl _ _ | with_reducible assumption | with_reducible refine allocW ?_ _ | with_reducible refine Below.drew ?_ | with_reducible refine drewNW ?_ _ | ((with_reducible refine Below.setCell ?_ ?_ _); rotate_left 1; focus (first | (simp; done) | (simp; omega)))))) (hSR.out.below (by repeat (first | with_reducible exact hB2.out | with_reducible exact Below.refl _ _ | with_reducible assumption | with_reducible refine allocW ?_ _ | with_reducible refine Below.drew ?_ | with_reducible refine drewNW ?_ _ | ((with_reducible refine Below.setCell ?_ ?_ _); rotate_left 1; focus (first | (simp; done) | (simp; omega))))))).mono ?_; rintro e wa ⟨rfl, hb⟩; replace b0 : wa.cell? ⟨w.heap.size, 0, none⟩ = some (.int .u32 t.c) := cellB hb (by first | with_reducible assumption | (go_simp; done) | (repeat (first | with_reducible assumption | with_reducible refine cellAlloc ?_ _ | with_reducible refine cellDrew ?_ | with_reducible refine cellDrewN ?_ _ | with_reducible refine cellSetFar ?_ (by simp; omega) _))); replace b1 : wa.cell? ⟨w.heap.size, 1, none⟩ = some (.int .u32 t.s) := cellB hb (by first | with_reducible assumption | (go_simp; done) | (repeat (first | with_reducible assumption | with_reducible refine cellAlloc ?_ _ | with_reducible refine cellDrew ?_ | with_reducible refine cellDrewN ?_ _ | with_reducible refine cellSetFar ?_ (by simp; omega) _))); replace h7 : wa.cell? ⟨wn.heap.size + 1, 7, none⟩ = some (.slice Aw h.writes.length cw) := cellB hb (by first | with_reducible assumption | (go_simp; done) | (repeat (first | with_reducible assumption | with_reducible refine cellAlloc ?_ _ | with_reducible refine cellDrew ?_ | with_reducible refine cellDrewN ?_ _ | with_reducible refine cellSetFar ?_ (by simp; omega) _))); replace hB := Lib.hid (chain (w := w) hb (by repeat (first | with_reducible exact hB.out | with_reducible exact Below.refl _ _ | with_reducible assumption | with_reducible refine allocW ?_ _ | with_reducible refine Below.drew ?_ | with_reducible refine drewNW ?_ _ | ((with_reducible refine Below.setCell ?_ ?_ _); rotate_left 1; focus (first | (simp; done) | (simp; omega)))))); replace hB2 := Lib.hid (chain (w := w1) hb (by repeat (first | with_reducible exact hB2.out | with_reducible exact Below.refl _ _ | with_reducible assumption | with_reducible refine allocW ?_ _ | with_reducible refine Below.drew ?_ | with_reducible refine drewNW ?_ _ | ((with_reducible refine Below.setCell ?_ ?_ _); rotate_left 1; focus (first | (simp; done) | (simp; omega)))))); replace hB3 := Lib.hid (chain (w := wn) hb (by repeat (first | with_reducible exact hB3.out | with_reducible exact Below.refl _ _ | with_reducible assumption | with_reducible refine allocW ?_ _ | with_reducible refine Below.drew ?_ | with_reducible refine drewNW ?_ _ | ((with_reducible refine Below.setCell ?_ ?_ _); rotate_left 1; focus (first | (simp; done) | (simp; omega)))))); clear hb) | (go_at_call 41; with_reducible refine (into41 _ _ h.writes rs _ (hSW.out.below (by repeat (first | with_reducible exact hB2.out | with_reducible exact Below.refl _ _ | with_reducible assumption | with_reducible refine allocW ?_ _ | with_reducible refine Below.drew ?_ | with_reducible refine drewNW ?_ _ | ((with_reducible refine Below.setCell ?_ ?_ _); rotate_left 1; focus (first | (simp; done) | (simp; omega)))))) (hS1.out.below (by repeat (first | with_reducible exact hB.out | with_reducible exact Below.refl _ _ | with_reducible assumption | with_reducible refine allocW ?_ _ | with_reducible refine Below.drew ?_ | with_reducible refine drewNW ?_ _ | ((with_reducible refine Below.setCell ?_ ?_ _); rotate_left 1; focus (first | (simp; done) | (simp; omega))))))).mono ?_; rintro e wb ⟨rfl, hb⟩; replace hB := Lib.hid (chain (w := w) hb (by repeat (first | with_reducible exact hB.out | with_reducible exact Below.refl _ _ | with_reducible assumption | with_reducible refine allocW ?_ _ | with_reducible refine Below.drew ?_ | with_reducible refine drewNW ?_ _ | ((with_reducible refine Below.setCell ?_ ?_ _); rotate_left 1; focus (first | (simp; done) | (simp; omega)))))); replace hB2 := Lib.hid (chain (w := w1) hb (by repeat (first | with_reducible exact hB2.out | with_reducible exact Below.refl _ _ | with_reducible assumption | with_reducible refine allocW ?_ _ | with_reducible refine Below.drew ?_ | with_reducible refine drewNW ?_ _ | ((with_reducible refine Below.setCell ?_ ?_ _); rotate_left 1; focus (first | (simp; done) | (simp; omega)))))); replace hB3 := Lib.hid (chain (w := wn) hb (by repeat (first | with_reducible exact hB3.out | with_reducible exact Below.refl _ _ | with_reducible assumption | with_reducible refine allocW ?_ _ | with_reducible refine Below.drew ?_ | with_reducible refine drewNW ?_ _ | ((with_reducible refine Below.setCell ?_ ?_ _); rotate_left 1; focus (first | (simp; done) | (simp; omega)))))); clear hb))
          all_goals try (
            go_ret
            refine ⟨ret_bool ?_, by repeat (first | with_reducible exact hB.out | with_reducible exact Below.refl _ _ | with_reducible assumption | with_reducible refine allocW ?_ _ | with_reducible refine Below.drew ?_ | with_reducible refine drewNW ?_ _ | ((with_reducible refine Below.setCell ?_ ?_ _); rotate_left 1; focus (first | (simp; done) | (simp; omega))))⟩
            have hhit : L.any (partB t rs ws) = true := List.any_eq_true.2 ⟨h, hh, by
              have hne : h.txn ≠ t := fun e => by simp [e] at *
              simp [partB, hi1, hi2, hne]⟩
            rw [hhit]
            simp)
          all_goals
            go_roundw
            · refine ⟨done ++ [(txnV h.txn, .agg (hdC h (.slice Ar h.reads.length cr) (.slice Aw h.writes.length cw)))], hIT2.out.below (by repeat (first | with_reducible exact hB3.out | with_reducible exact Below.refl _ _ | with_reducible assumption | with_reducible refine allocW ?_ _ | with_reducible refine Below.drew ?_ | with_reducible refine drewNW ?_ _ | ((with_reducible refine Below.setCell ?_ ?_ _); rotate_left 1; focus (first | (simp; done) | (simp; omega))))), by repeat (first | with_reducible exact hB2.out | with_reducible exact Below.refl _ _ | with_reducible assumption | with_reducible refine allocW ?_ _ | with_reducible refine Below.drew ?_ | with_reducible refine drewNW ?_ _ | ((with_reducible refine Below.setCell ?_ ?_ _); rotate_left 1; focus (first | (simp; done) | (simp; omega)))), ?_⟩
              intro q hq h' hh' he
              rcases List.mem_append.1 hq with hq | hq
              · exact hNo.out q hq h' hh' he
              · rw [List.mem_singleton.1 hq] at he
                rw [hUni.out h' hh' he]
                simp [partB, hi1, hi2]
            · exact measure_lt hIT2.out (by repeat (first | with_reducible exact hB3.out | with_reducible exact Below.refl _ _ | with_reducible assumption | with_reducible refine allocW ?_ _ | with_reducible refine Below.drew ?_ | with_reducible refine drewNW ?_ _ | ((with_reducible refine Below.setCell ?_ ?_ _); rotate_left 1; focus (first | (simp; done) | (simp; omega))))) hseen hlen
end Go.Proofs.Ytledfhoifdihhaa
