/- Release: the program's. -/
import Derived.Test.YtledfhoifdihhaaLk6
namespace Go.Proofs.Ytledfhoifdihhaa
open Go.RowKit
set_option linter.unusedVariables false
set_option linter.unusedSimpArgs false

theorem slOf_nil {α : Type} (w : World) (n : Nat) (f : α → List Value) : SlOf w n f (.slice none 0 0) [] := ⟨none, 0, rfl, Nat.le_refl _, ⟨by simp, by simp⟩, Rows.nil _ _ _ _⟩
theorem zero_hdV (w : World) : HdV w zeroHd Hd.zero := ⟨_, _, rfl, slOf_nil _ _ _, slOf_nil _ _ _⟩
/-- what 'h, ok := t.held[txn]' comes to -/
theorem look_held {w : World} {ha : Nat} {kv : List (Value × Value)} {L : List Hd} (hm : MapOf w ha kv) (hk : HeldKV w kv L) (t : Txn) :
    ∃ gv, HdV w gv ((findH L t).getD Hd.zero) ∧ ∀ w2, Below w.heap.size w w2 → (Instr.lookup 73 (.map (some ha)) (txnV t) true).run Try.prog w2 = .ok (.tuple #[gv, .bool (findH L t).isSome]) w2 := by
  cases hf : findH L t with
  | none => exact ⟨zeroHd, zero_hdV w, fun w2 hb => held_none (hm.below hb) (hk.below hb) hf⟩
  | some g =>
    obtain ⟨gv, hgv, hin, _⟩ := held_some hm hk hf
    exact ⟨gv, hgv, fun w2 hb => run_lookup_some keyT40 Try.underlying73 (hm.below hb) hk.keys ⟨_, rfl⟩ hin true⟩
theorem TabAt.rel {w w' : World} {tb ha ia : Nat} {L L' : List Hd} {I : List (ByteArray × Txn)} {kv' : List (Value × Value)} (h : TabAt w tb ha ia L I) (hm : MapOf w' ha kv') (hk : HeldKV w kv' L') (hkp : Kp [ha] w w') : TabAt w' tb ha ia L' I := by
  obtain ⟨kv, h1, _⟩ := h.held
  have hs : Maps [ha] w := fun z hz => by rw [List.mem_singleton.1 hz]; exact ⟨_, h1⟩
  exact ⟨hkp.cell h.c0 (hs.not_mem h.c0), hkp.cell h.c1 (hs.not_mem h.c1), ⟨kv', hm, hk.kpm hkp hs⟩, h.ints.kp hkp (by simpa using Ne.symm h.ne), h.ne⟩
def relI (L : List Hd) (I : List (ByteArray × Txn)) (t : Txn) : List (ByteArray × Txn) := ((findH L t).getD Hd.zero).writes.foldl delI I

set_option maxHeartbeats 4000000 in
theorem release17 (tb ha ia : Nat) (L : List Hd) (I : List (ByteArray × Txn)) (t : Txn) (w : World) (hT : TabAt w tb ha ia L I) (hnd : (L.map (·.txn)).Nodup) :
    Calls Try.prog 17 #[.pointer (some ⟨tb, 0, none⟩), txnV t] w fun r w' => r = .returned (.bool (findH L t).isSome) ∧ TabAt w' tb ha ia (relL L t) (relI L I t) ∧ Kp [ha, ia] w w' := by
  have hB := Lib.hid (Below.refl w.heap.size w)
  obtain ⟨kv, hm, hkv⟩ := hT.held
  obtain ⟨gv, hgv, hlk⟩ := look_held hm hkv t
  unfold relI
  generalize (findH L t).isSome = ok at *
  generalize (findH L t).getD Hd.zero = g at *
  have hGV := Lib.hid hgv
  obtain ⟨gr, gx, rfl, ⟨A3, cap3, rfl, _⟩, ⟨A4, cap4, rfl, _, ⟨hl4, _⟩, _⟩⟩ := hgv
  have hLk := Lib.hid hlk
  have c0 := hT.c0
  have c1 := hT.c1
  have htb : tb < w.heap.size := World.block_lt_of_cell? _ _ c0
  have hha : ha < w.heap.size := hm.lt
  have hia : ia < w.heap.size := hT.ints.lt
  have hTT := Lib.hid hT
  have hND := Lib.hid hnd
  clear hT hm hkv hnd hlk
  go_enter Try.func17, Try.ntmps17
  go_wp2_with fail
  (refine wp_gen (fun W => Below w.heap.size w W ∧ W.cell? ⟨w.heap.size, 0, none⟩ = some (.int .u32 t.c) ∧ W.cell? ⟨w.heap.size, 1, none⟩ = some (.int .u32 t.s) ∧ W.cell? ⟨tb, 0, none⟩ = some (.map (some ha)) ∧ W.cell? ⟨tb, 1, none⟩ = some (.map (some ia))) ⟨by repeat (first | with_reducible exact hB.out | with_reducible exact Below.refl _ _ | with_reducible assumption | with_reducible refine allocW ?_ _ | with_reducible refine Below.drew ?_ | with_reducible refine drewNW ?_ _ | ((with_reducible refine Below.setCell ?_ ?_ _); rotate_left 1; focus (first | (simp; done) | (simp; omega)))), by first | with_reducible assumption | (go_simp; done) | (repeat (first | with_reducible assumption | with_reducible refine cellAlloc ?_ _ | with_reducible refine cellDrew ?_ | with_reducible refine cellDrewN ?_ _ | with_reducible refine cellSetFar ?_ (by simp; omega) _)), by first | with_reducible assumption | (go_simp; done) | (repeat (first | with_reducible assumption | with_reducible refine cellAlloc ?_ _ | with_reducible refine cellDrew ?_ | with_reducible refine cellDrewN ?_ _ | with_reducible refine cellSetFar ?_ (by simp; omega) _)), by first | with_reducible assumption | (go_simp; done) | (repeat (first | with_reducible assumption | with_reducible refine cellAlloc ?_ _ | with_reducible refine cellDrew ?_ | with_reducible refine cellDrewN ?_ _ | with_reducible refine cellSetFar ?_ (by simp; omega) _)), by first | with_reducible assumption | (go_simp; done) | (repeat (first | with_reducible assumption | with_reducible refine cellAlloc ?_ _ | with_reducible refine cellDrew ?_ | with_reducible refine cellDrewN ?_ _ | with_reducible refine cellSetFar ?_ (by simp; omega) _))⟩ ?_; (try clear hg f0 f1 c0 c1); rintro W ⟨hg, f0, f1, c0, c1⟩; )
  replace hB := Lib.hid hg
  clear hg
  (refine wp_region_multi (w := W) [] (fun _ => .cells #[.int .u32 0, .int .u32 0, .int .u32 0, .int .u64 0, .int .u32 0, .int .u32 0, .slice none 0 0, .slice none 0 0] 49) (fun _ => True) [] [0, 1, 2, 3, 4, 5, 6, 7, 8] [9] [10, 11] mixed (by kernel_rfl) (by simp) (by intro m hm; simp only [List.mem_cons, List.not_mem_nil, or_false] at hm; subst hm; all_goals exact ⟨_, rfl, rfl, fun ρ w => by go_simp⟩) (trivial) (fun _ _ _ => trivial) ?_; (repeat (first | (refine mstep_off rfl rfl rfl ?_; simp only [Act.put, List.setIfInBounds_toArray, List.set_cons_succ, List.set_cons_zero]) | (refine mstep rfl rfl rfl ?_; apply Exists.intro; refine ⟨fun w2 hw2 => ?_, ?_⟩; (have qf0 : w2.cell? ⟨w.heap.size, 0, none⟩ = some (.int .u32 t.c) := hw2.cell f0 (by first | (simp; done) | (simp; omega) | (simp only [List.mem_singleton, List.mem_cons, List.not_mem_nil, or_false, not_or]; omega)); have qf1 : w2.cell? ⟨w.heap.size, 1, none⟩ = some (.int .u32 t.s) := hw2.cell f1 (by first | (simp; done) | (simp; omega) | (simp only [List.mem_singleton, List.mem_cons, List.not_mem_nil, or_false, not_or]; omega)); have qc0 : w2.cell? ⟨tb, 0, none⟩ = some (.map (some ha)) := hw2.cell c0 (by first | (simp; done) | (simp; omega) | (simp only [List.mem_singleton, List.mem_cons, List.not_mem_nil, or_false, not_or]; omega)); have qc1 : w2.cell? ⟨tb, 1, none⟩ = some (.map (some ia)) := hw2.cell c1 (by first | (simp; done) | (simp; omega) | (simp only [List.mem_singleton, List.mem_cons, List.not_mem_nil, or_false, not_or]; omega)); have ql := hLk.out w2 (chain (w := w) hw2.nil_below hB.out); go_simp; rfl); simp only [Act.put, List.setIfInBounds_toArray, List.set_cons_succ, List.set_cons_zero]) | (refine mstep_on rfl rfl rfl ?_; apply Exists.intro; refine ⟨fun w2 hw2 => ?_, ?_⟩; (have qf0 : w2.cell? ⟨w.heap.size, 0, none⟩ = some (.int .u32 t.c) := hw2.cell f0 (by first | (simp; done) | (simp; omega) | (simp only [List.mem_singleton, List.mem_cons, List.not_mem_nil, or_false, not_or]; omega)); have qf1 : w2.cell? ⟨w.heap.size, 1, none⟩ = some (.int .u32 t.s) := hw2.cell f1 (by first | (simp; done) | (simp; omega) | (simp only [List.mem_singleton, List.mem_cons, List.not_mem_nil, or_false, not_or]; omega)); have qc0 : w2.cell? ⟨tb, 0, none⟩ = some (.map (some ha)) := hw2.cell c0 (by first | (simp; done) | (simp; omega) | (simp only [List.mem_singleton, List.mem_cons, List.not_mem_nil, or_false, not_or]; omega)); have qc1 : w2.cell? ⟨tb, 1, none⟩ = some (.map (some ia)) := hw2.cell c1 (by first | (simp; done) | (simp; omega) | (simp only [List.mem_singleton, List.mem_cons, List.not_mem_nil, or_false, not_or]; omega)); have ql := hLk.out w2 (chain (w := w) hw2.nil_below hB.out); go_simp; rfl); simp only [Act.put, List.setIfInBounds_toArray, List.set_cons_succ, List.set_cons_zero]))); refine mdone ?_; intro p w2 hw2 hm2 hp hinj; simp only [putNew, List.foldl_cons, List.foldl_nil, dstOf, List.getElem?_toArray, List.getElem?_cons_succ, List.getElem?_cons_zero, Option.bind_some]; (try simp only [Act.put, List.setIfInBounds_toArray, List.set_cons_succ, List.set_cons_zero]); obtain ⟨hnb, hnbz⟩ := hp 9 (by simp); generalize p 9 = nb at *; have nbz0 : w2.cell? ⟨nb, 0, none⟩ = some (.int .u32 0) := cell_heap hnbz rfl; have nby0 := frozen_heap hnbz 0; have nbz1 : w2.cell? ⟨nb, 1, none⟩ = some (.int .u32 0) := cell_heap hnbz rfl; have nby1 := frozen_heap hnbz 1; have nbz2 : w2.cell? ⟨nb, 2, none⟩ = some (.int .u32 0) := cell_heap hnbz rfl; have nby2 := frozen_heap hnbz 2; have nbz3 : w2.cell? ⟨nb, 3, none⟩ = some (.int .u64 0) := cell_heap hnbz rfl; have nby3 := frozen_heap hnbz 3; have nbz4 : w2.cell? ⟨nb, 4, none⟩ = some (.int .u32 0) := cell_heap hnbz rfl; have nby4 := frozen_heap hnbz 4; have nbz5 : w2.cell? ⟨nb, 5, none⟩ = some (.int .u32 0) := cell_heap hnbz rfl; have nby5 := frozen_heap hnbz 5; have nbz6 : w2.cell? ⟨nb, 6, none⟩ = some (.slice none 0 0) := cell_heap hnbz rfl; have nby6 := frozen_heap hnbz 6; have nbz7 : w2.cell? ⟨nb, 7, none⟩ = some (.slice none 0 0) := cell_heap hnbz rfl; have nby7 := frozen_heap hnbz 7; clear hp hinj; refine @tstep _ _ _ _ _ _ _ _ ?ot1 ?ot2 _ _ ?_ ?_ ?_ ?_; (all_goals (try rfl)); intro K hK; go_simp; refine hK _ _ (by repeat (first | with_reducible assumption | with_reducible exact Kp.refl _ _ | with_reducible refine Kp.alloc ?_ _ | with_reducible refine Kp.drew ?_ | ((with_reducible refine Kp.setCell ?_ ?_ _); rotate_left 1; focus (first | (simp; done) | (simp; omega) | omega)))) ?_; clear hK K; refine @tlast _ _ _ _ _ _ ?ot3 _ _ ?_ ?_; (all_goals (try rfl)))
  go_wp2_with fail
  (refine noPanic_gen (fun W2 => Kp [] W W2 ∧ W2.cell? ⟨nb, 7, none⟩ = some (.slice A4 g.writes.length cap4)) ⟨by repeat (first | with_reducible assumption | with_reducible exact Kp.refl _ _ | with_reducible refine Kp.alloc ?_ _ | with_reducible refine Kp.drew ?_ | ((with_reducible refine Kp.setCell ?_ ?_ _); rotate_left 1; focus (first | (simp; done) | (simp; omega) | omega))), by first | with_reducible assumption | (go_simp; done) | (repeat (first | with_reducible assumption | with_reducible refine cellAlloc ?_ _ | with_reducible refine cellDrew ?_ | with_reducible refine cellDrewN ?_ _ | with_reducible refine cellSetFar ?_ (by simp; omega) _))⟩ ?_; rintro W2 ⟨hKW, n7⟩; replace f0 : W2.cell? ⟨w.heap.size, 0, none⟩ = some (.int .u32 t.c) := hKW.cell (by first | with_reducible assumption | (go_simp; done) | (repeat (first | with_reducible assumption | with_reducible refine cellAlloc ?_ _ | with_reducible refine cellDrew ?_ | with_reducible refine cellDrewN ?_ _ | with_reducible refine cellSetFar ?_ (by simp; omega) _))) (by first | (simp; done) | (simp; omega) | (simp only [List.mem_singleton, List.mem_cons, List.not_mem_nil, or_false, not_or]; omega)); replace f1 : W2.cell? ⟨w.heap.size, 1, none⟩ = some (.int .u32 t.s) := hKW.cell (by first | with_reducible assumption | (go_simp; done) | (repeat (first | with_reducible assumption | with_reducible refine cellAlloc ?_ _ | with_reducible refine cellDrew ?_ | with_reducible refine cellDrewN ?_ _ | with_reducible refine cellSetFar ?_ (by simp; omega) _))) (by first | (simp; done) | (simp; omega) | (simp only [List.mem_singleton, List.mem_cons, List.not_mem_nil, or_false, not_or]; omega)); replace hB := Lib.hid (chain (w := w) hKW.nil_below hB.out))
  clear hLk c0 c1
  go_wp2_with fail
  go_loopw [21] (fun i wr => ∃ k : Nat, k ≤ g.writes.length ∧ i = .int .i64 k ∧ TabAt wr tb ha ia L ((g.writes.take k).foldl delI I) ∧ Kp [ha, ia] w wr ∧ wr.cell? ⟨w.heap.size, 0, none⟩ = some (.int .u32 t.c) ∧ wr.cell? ⟨w.heap.size, 1, none⟩ = some (.int .u32 t.s)) (fun i _ => g.writes.length - (intOf i).toNat)
  case atStart => exact ⟨0, Nat.zero_le _, rfl, hTT.out.below hB.out, Kp.of_below hB.out, f0, f1⟩
  case round =>
    obtain ⟨k, hk, rfl, hTk, hKk, f0, f1⟩ := hrel
    by_cases hkl : k < g.writes.length
    · have hx0 : g.writes[k]? = some g.writes[k] := List.getElem?_eq_getElem hkl
      obtain ⟨r', x', he', _, ⟨A', cap', he, _, _, hRows⟩⟩ := hGV.out.kpm hKk hTT.out.maps
      simp only [hdC, Value.agg.injEq, Array.mk.injEq, List.cons.injEq, and_true, true_and] at he'
      obtain ⟨_, rfl⟩ := he'
      cases he
      obtain ⟨b, o, rfl, hE⟩ := hRows k g.writes[k] hx0
      generalize g.writes[k] = y at *
      have e0 := hE 0 _ rfl
      have e1 := hE 1 _ rfl
      have e2 := hE 2 _ rfl
      simp only [Nat.add_zero] at e0
      obtain ⟨w1, hw1⟩ : ∃ w1, w1 = wr := ⟨_, rfl⟩
      rw [← hw1] at hTk hKk e0 e1 e2 f0 f1
      have hb1 : b < w1.heap.size := World.block_lt_of_cell? _ _ e0
      have hb2 : w.heap.size < w1.heap.size := World.block_lt_of_cell? _ _ f0
      have hTk' := Lib.hid hTk
      have hKk' := Lib.hid hKk
      have c0 := hTk.c0
      have c1 := hTk.c1
      have htb2 : tb < w1.heap.size := World.block_lt_of_cell? _ _ c0
      clear hE hRows hTk hKk n7
      subst hw1
      go_wp2_with fail
      (refine wp_gen (fun W => TabAt W tb ha ia L ((g.writes.take k).foldl delI I) ∧ Kp [ha, ia] w W ∧ W.cell? ⟨w.heap.size, 0, none⟩ = some (.int .u32 t.c) ∧ W.cell? ⟨w.heap.size, 1, none⟩ = some (.int .u32 t.s) ∧ W.cell? ⟨w1.heap.size, 0, none⟩ = some (.string y.key) ∧ W.cell? ⟨tb, 0, none⟩ = some (.map (some ha)) ∧ W.cell? ⟨tb, 1, none⟩ = some (.map (some ia))) ⟨hTk'.out.alloc _, hKk'.out.alloc _, by first | with_reducible assumption | (go_simp; done) | (repeat (first | with_reducible assumption | with_reducible refine cellAlloc ?_ _ | with_reducible refine cellDrew ?_ | with_reducible refine cellDrewN ?_ _ | with_reducible refine cellSetFar ?_ (by simp; omega) _)), by first | with_reducible assumption | (go_simp; done) | (repeat (first | with_reducible assumption | with_reducible refine cellAlloc ?_ _ | with_reducible refine cellDrew ?_ | with_reducible refine cellDrewN ?_ _ | with_reducible refine cellSetFar ?_ (by simp; omega) _)), by first | with_reducible assumption | (go_simp; done) | (repeat (first | with_reducible assumption | with_reducible refine cellAlloc ?_ _ | with_reducible refine cellDrew ?_ | with_reducible refine cellDrewN ?_ _ | with_reducible refine cellSetFar ?_ (by simp; omega) _)), by first | with_reducible assumption | (go_simp; done) | (repeat (first | with_reducible assumption | with_reducible refine cellAlloc ?_ _ | with_reducible refine cellDrew ?_ | with_reducible refine cellDrewN ?_ _ | with_reducible refine cellSetFar ?_ (by simp; omega) _)), by first | with_reducible assumption | (go_simp; done) | (repeat (first | with_reducible assumption | with_reducible refine cellAlloc ?_ _ | with_reducible refine cellDrew ?_ | with_reducible refine cellDrewN ?_ _ | with_reducible refine cellSetFar ?_ (by simp; omega) _))⟩ ?_; (try clear hM1 hg f0 f1 k0 c0 c1); rintro W ⟨hM1, hg, f0, f1, k0, c0, c1⟩; replace hM1 := Lib.hid hM1)
      (refine wp_region_multi (w := W) [] (fun _ => .cells #[] 0) (fun _ => True) [] [0, 1, 2, 3, 4, 5] [] [6] mixed (by kernel_rfl) (by simp) (by intro m hm; cases hm) (trivial) (fun _ _ _ => trivial) ?_; (repeat (first | (refine mstep_off rfl rfl rfl ?_; simp only [Act.put, List.setIfInBounds_toArray, List.set_cons_succ, List.set_cons_zero]) | (refine mstep rfl rfl rfl ?_; apply Exists.intro; refine ⟨fun w2 hw2 => ?_, ?_⟩; (have qf0 : w2.cell? ⟨w.heap.size, 0, none⟩ = some (.int .u32 t.c) := hw2.cell f0 (by first | (simp; done) | (simp; omega) | (simp only [List.mem_singleton, List.mem_cons, List.not_mem_nil, or_false, not_or]; omega)); have qf1 : w2.cell? ⟨w.heap.size, 1, none⟩ = some (.int .u32 t.s) := hw2.cell f1 (by first | (simp; done) | (simp; omega) | (simp only [List.mem_singleton, List.mem_cons, List.not_mem_nil, or_false, not_or]; omega)); have qk0 : w2.cell? ⟨w1.heap.size, 0, none⟩ = some (.string y.key) := hw2.cell k0 (by first | (simp; done) | (simp; omega) | (simp only [List.mem_singleton, List.mem_cons, List.not_mem_nil, or_false, not_or]; omega)); have qc0 : w2.cell? ⟨tb, 0, none⟩ = some (.map (some ha)) := hw2.cell c0 (by first | (simp; done) | (simp; omega) | (simp only [List.mem_singleton, List.mem_cons, List.not_mem_nil, or_false, not_or]; omega)); have qc1 : w2.cell? ⟨tb, 1, none⟩ = some (.map (some ia)) := hw2.cell c1 (by first | (simp; done) | (simp; omega) | (simp only [List.mem_singleton, List.mem_cons, List.not_mem_nil, or_false, not_or]; omega)); go_simp; rfl); simp only [Act.put, List.setIfInBounds_toArray, List.set_cons_succ, List.set_cons_zero]) | (refine mstep_on rfl rfl rfl ?_; apply Exists.intro; refine ⟨fun w2 hw2 => ?_, ?_⟩; (have qf0 : w2.cell? ⟨w.heap.size, 0, none⟩ = some (.int .u32 t.c) := hw2.cell f0 (by first | (simp; done) | (simp; omega) | (simp only [List.mem_singleton, List.mem_cons, List.not_mem_nil, or_false, not_or]; omega)); have qf1 : w2.cell? ⟨w.heap.size, 1, none⟩ = some (.int .u32 t.s) := hw2.cell f1 (by first | (simp; done) | (simp; omega) | (simp only [List.mem_singleton, List.mem_cons, List.not_mem_nil, or_false, not_or]; omega)); have qk0 : w2.cell? ⟨w1.heap.size, 0, none⟩ = some (.string y.key) := hw2.cell k0 (by first | (simp; done) | (simp; omega) | (simp only [List.mem_singleton, List.mem_cons, List.not_mem_nil, or_false, not_or]; omega)); have qc0 : w2.cell? ⟨tb, 0, none⟩ = some (.map (some ha)) := hw2.cell c0 (by first | (simp; done) | (simp; omega) | (simp only [List.mem_singleton, List.mem_cons, List.not_mem_nil, or_false, not_or]; omega)); have qc1 : w2.cell? ⟨tb, 1, none⟩ = some (.map (some ia)) := hw2.cell c1 (by first | (simp; done) | (simp; omega) | (simp only [List.mem_singleton, List.mem_cons, List.not_mem_nil, or_false, not_or]; omega)); go_simp; rfl); simp only [Act.put, List.setIfInBounds_toArray, List.set_cons_succ, List.set_cons_zero]))); refine mdone ?_; intro p w2 hw2 hm2 hp hinj; simp only [putNew, List.foldl_cons, List.foldl_nil, dstOf, List.getElem?_toArray, List.getElem?_cons_succ, List.getElem?_cons_zero, Option.bind_some]; (try simp only [Act.put, List.setIfInBounds_toArray, List.set_cons_succ, List.set_cons_zero]); clear hp hinj; refine @tlast _ _ _ _ _ _ ?ot4 _ _ ?_ ?_; (all_goals (try rfl)))
      obtain ⟨wn, hrun, hmn, hkn, hszn⟩ := del_ints (ty := 0) (x := y) (hM1.out.ints.below hw2.nil_below)
      go_wp2_with fail
      have hwia : w.heap.size ≠ ia := by omega
      have f0n : wn.cell? ⟨w.heap.size, 0, none⟩ = some (.int .u32 t.c) := hkn.cell (hw2.cell f0 (by simp)) (by simpa using hwia)
      have f1n : wn.cell? ⟨w.heap.size, 1, none⟩ = some (.int .u32 t.s) := hkn.cell (hw2.cell f1 (by simp)) (by simpa using hwia)
      have hTn : TabAt wn tb ha ia L ((g.writes.take (k + 1)).foldl delI I) := by
        rw [take_one hx0, List.foldl_append]
        exact (hM1.out.below hw2.nil_below).upd hmn hkn
      have hKn : Kp [ha, ia] w wn := (hg.trans (hw2.mono (by simp))).trans (hkn.mono (by simp))
      have hTn' := Lib.hid hTn
      have hKn' := Lib.hid hKn
      clear hrun hmn hkn hszn hTn hKn hg hw2 hm2 f0 f1 c0 c1
      refine noPanic_normal ?_
      go_wp2_with fail
      go_roundw
      case rel => exact ⟨k + 1, by omega, by simp, hTn'.out, hKn'.out, f0n, f1n⟩
      case measure => simp [intOf]; omega
    · obtain rfl : k = g.writes.length := by omega
      rw [List.take_length] at hTk
      obtain ⟨w1, hw1⟩ : ∃ w1, w1 = wr := ⟨_, rfl⟩
      rw [← hw1] at hTk hKk f0 f1
      have hTk' := Lib.hid hTk
      have hKk' := Lib.hid hKk
      have c0 := hTk.c0
      have c1 := hTk.c1
      clear hTk hKk n7
      subst hw1
      go_wp2_with fail
      (refine wp_region_multi (w := w1) [] (fun _ => .cells #[] 0) (fun _ => True) [] [0, 1, 2, 3, 4] [] [5] mixed (by kernel_rfl) (by simp) (by intro m hm; cases hm) (trivial) (fun _ _ _ => trivial) ?_; (repeat (first | (refine mstep_off rfl rfl rfl ?_; simp only [Act.put, List.setIfInBounds_toArray, List.set_cons_succ, List.set_cons_zero]) | (refine mstep rfl rfl rfl ?_; apply Exists.intro; refine ⟨fun w2 hw2 => ?_, ?_⟩; (have qf0 : w2.cell? ⟨w.heap.size, 0, none⟩ = some (.int .u32 t.c) := hw2.cell f0 (by first | (simp; done) | (simp; omega) | (simp only [List.mem_singleton, List.mem_cons, List.not_mem_nil, or_false, not_or]; omega)); have qf1 : w2.cell? ⟨w.heap.size, 1, none⟩ = some (.int .u32 t.s) := hw2.cell f1 (by first | (simp; done) | (simp; omega) | (simp only [List.mem_singleton, List.mem_cons, List.not_mem_nil, or_false, not_or]; omega)); have qc0 : w2.cell? ⟨tb, 0, none⟩ = some (.map (some ha)) := hw2.cell c0 (by first | (simp; done) | (simp; omega) | (simp only [List.mem_singleton, List.mem_cons, List.not_mem_nil, or_false, not_or]; omega)); have qc1 : w2.cell? ⟨tb, 1, none⟩ = some (.map (some ia)) := hw2.cell c1 (by first | (simp; done) | (simp; omega) | (simp only [List.mem_singleton, List.mem_cons, List.not_mem_nil, or_false, not_or]; omega)); go_simp; rfl); simp only [Act.put, List.setIfInBounds_toArray, List.set_cons_succ, List.set_cons_zero]) | (refine mstep_on rfl rfl rfl ?_; apply Exists.intro; refine ⟨fun w2 hw2 => ?_, ?_⟩; (have qf0 : w2.cell? ⟨w.heap.size, 0, none⟩ = some (.int .u32 t.c) := hw2.cell f0 (by first | (simp; done) | (simp; omega) | (simp only [List.mem_singleton, List.mem_cons, List.not_mem_nil, or_false, not_or]; omega)); have qf1 : w2.cell? ⟨w.heap.size, 1, none⟩ = some (.int .u32 t.s) := hw2.cell f1 (by first | (simp; done) | (simp; omega) | (simp only [List.mem_singleton, List.mem_cons, List.not_mem_nil, or_false, not_or]; omega)); have qc0 : w2.cell? ⟨tb, 0, none⟩ = some (.map (some ha)) := hw2.cell c0 (by first | (simp; done) | (simp; omega) | (simp only [List.mem_singleton, List.mem_cons, List.not_mem_nil, or_false, not_or]; omega)); have qc1 : w2.cell? ⟨tb, 1, none⟩ = some (.map (some ia)) := hw2.cell c1 (by first | (simp; done) | (simp; omega) | (simp only [List.mem_singleton, List.mem_cons, List.not_mem_nil, or_false, not_or]; omega)); go_simp; rfl); simp only [Act.put, List.setIfInBounds_toArray, List.set_cons_succ, List.set_cons_zero]))); refine mdone ?_; intro p w2 hw2 hm2 hp hinj; simp only [putNew, List.foldl_cons, List.foldl_nil, dstOf, List.getElem?_toArray, List.getElem?_cons_succ, List.getElem?_cons_zero, Option.bind_some]; (try simp only [Act.put, List.setIfInBounds_toArray, List.set_cons_succ, List.set_cons_zero]); clear hp hinj; refine @tlast _ _ _ _ _ _ ?ot5 _ _ ?_ ?_; (all_goals (try rfl)))
      obtain ⟨kv2, hm2', hk2'⟩ := (hTk'.out.below hw2.nil_below).held
      obtain ⟨wn, kv', hrun, hmn, hkn', hkn, hszn⟩ := del_held (ty := 0) (t := t) hm2' hk2' hND.out
      have hTn := Lib.hid ((hTk'.out.below hw2.nil_below).rel hmn hkn' hkn)
      have hKn := Lib.hid ((hKk'.out.trans (hw2.mono (by simp))).trans (hkn.mono (T := [ha, ia]) (by simp)))
      clear hm2' hk2' hmn hkn' hkn hszn
      go_wp2_with fail
      clear hrun hw2 hm2
      refine noPanic_normal ?_
      go_wp2_with fail
      go_ret
      exact ⟨rfl, hTn.out, hKn.out⟩
end Go.Proofs.Ytledfhoifdihhaa
