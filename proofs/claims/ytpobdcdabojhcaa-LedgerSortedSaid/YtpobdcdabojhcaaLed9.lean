/- maps.Values and maps.Keys: their iterators. -/
import Derived.RangeFuncNested
import Derived.RangeFuncBound
import Derived.RangeFuncCalls
import Derived.RangeFuncLeaves
import Derived.Shelf.Abstract
import Derived.Shelf.RegionOpen
import Derived.WalkKit
import Derived.OwnWalkIn
import Derived.TacticsInMore
import Derived.LoopNIn
import Derived.LoopIn
import Derived.Test.YtpobdcdabojhcaaLed8
namespace Go.Proofs.Ytpobdcdabojhcaa
open Go.RowKit Go.Shelf
attribute [local go_sem] Oper.semAt_some
set_option linter.unusedVariables false
set_option linter.unusedSimpArgs false

/-- how many entries have come -/
def seenOf (w : World) (r : Nat) : Nat := match w.heap[r]? with | some (.mapIter _ _ seen _) => seen.size | _ => 0
theorem Iter.seen {w : World} {r b : Nat} {kv done : List (Value × Value)} (h : Iter w r b kv done) : seenOf w r = done.length := by
  obtain ⟨es, clock, since, c0, seen, vis, h1, h2, h3, h4, h5, h6, h7, h8, h9, h10, h11, h12⟩ := h
  unfold seenOf
  rw [h4]
  simp only
  rw [← h11, List.length_map]
  have := congrArg List.length h10
  simpa using this
theorem Iter.of_walks {w w' : World} {r b : Nat} {kv done : List (Value × Value)} (h : Iter w r b kv done) (hk : KeepsWalks w w') : Iter w' r b kv done := by
  obtain ⟨es, clock, since, c0, seen, vis, h1, h2, h3, h4, h5⟩ := h
  exact ⟨es, clock, since, c0, seen, vis, hk.same b _ h1 rfl, h2, h3, hk.same r _ h4 rfl, h5⟩
theorem Iter.is_walk {w : World} {r b : Nat} {kv done : List (Value × Value)} (h : Iter w r b kv done) : ∃ o : Obj, w.heap[r]? = some o ∧ o.isWalk = true := by
  obtain ⟨es, clock, since, c0, seen, vis, h1, h2, h3, h4, h5⟩ := h
  exact ⟨_, h4, rfl⟩
theorem Kp.grown {r : Nat} {w w' : World} (h : Kp [r] w w') : w.grownBy w' (some r) := ⟨h.os, h.tape, h.output, h.size, fun k hk hs => h.block k hk (fun hm => hs (by rw [List.mem_singleton.1 hm]))⟩
theorem perm_map_inj {α β : Type} {f : α → β} (hf : ∀ a b, f a = f b → a = b) {l k : List α} (h : (l.map f).Perm (k.map f)) : l.Perm k := by
  induction l generalizing k with
  | nil =>
    have := h.symm.eq_nil
    rw [List.map_eq_nil_iff.1 this]
  | cons a l ih =>
    have ha : f a ∈ k.map f := h.mem_iff.1 (by simp)
    obtain ⟨b, hb, he⟩ := List.mem_map.1 ha
    obtain rfl := hf _ _ he
    obtain ⟨k1, k2, rfl⟩ := List.append_of_mem hb
    refine List.Perm.trans ?_ (List.perm_middle).symm
    refine List.Perm.cons _ (ih ?_)
    have h2 : (f b :: l.map f).Perm (f b :: (k1 ++ k2).map f) := by
      refine h.trans ?_
      rw [List.map_append, List.map_cons, List.map_append]
      exact List.perm_middle
    exact h2.cons_inv
theorem txn_inj2 {a b : Txn} (h : (txnV a, Value.int .i64 0) = (txnV b, Value.int .i64 0)) : a = b := txnV_inj (Prod.mk.injEq .. ▸ h : _ ∧ _).1
theorem ent_inj {a b : Ent} (h : entV a = entV b) : a = b := by
  obtain ⟨⟨c, s⟩, hm, oc, ⟨x, y, z⟩⟩ := a
  obtain ⟨⟨c', s'⟩, hm', oc', ⟨x', y', z'⟩⟩ := b
  simp only [entV, entC, Value.agg.injEq, Array.mk.injEq, List.cons.injEq, Value.int.injEq, true_and, and_true] at h
  simp [h]

set_option maxRecDepth 100000 in
set_option maxHeartbeats 2000000 in
theorem values55_in (F : Fence) (n : Nat) (hV : F.fn 55) (hro : F.round = none) (hn : 1 ≤ n) (l Bm b : Nat) (es : List Ent) (J Jx : List Ent → World → Prop)
    (hY : ∀ pre x W, J pre W → pre.length < es.length → YieldAt F (n - 1) Try.prog l #[entV x] W fun e W' => (e = .returned (.bool true) ∧ J (pre ++ [x]) W' ∧ KeepsWalks W W') ∨ (e = .returned (.bool false) ∧ Jx (pre ++ [x]) W'))
    (W : World) (hJ : AbidesFrom W.heap.size J) (hm : W.cell? ⟨Bm, 0, none⟩ = some (.map (some b))) (hmap : MapOf W b (entKV es)) (h0 : J [] W) :
    CallsIn F n Try.prog 55 #[.func (.yield l) #[] #[], .pointer (some ⟨Bm, 0, none⟩)] W fun e W' => (∃ v, e = .returned v) ∧ ((∃ ys : List Ent, ys.Perm es ∧ J ys W') ∨ (∃ pre, True ∧ Jx pre W')) := by
  obtain ⟨ob, hrange, hit⟩ := run_range_map (P := Try.prog) Try.underlying65 hmap
  have hIT := Lib.hid hit
  have hlen0 : (entKV es).length = es.length := by simp [entKV]
  clear hit
  refine callsIn_of_wp Try.func55 rfl hV ?_ hro
  simp only [Try.ntmps55, List.size_toArray, List.length_cons, List.length_nil, Nat.reduceAdd, Nat.reduceSub, Array.replicate_succ, Array.replicate_zero, List.push_toArray, List.append_toArray, List.nil_append, List.cons_append]
  gi_wp2
  gi_loopw [7] (fun _ wr => ∃ (done : List (Value × Value)) (ys : List Ent), Iter wr W.heap.size b (entKV es) done ∧ done = entKV ys ∧ J ys wr)
    (fun _ wr => es.length - seenOf wr W.heap.size)
  case atStart => exact ⟨[], [], hIT.out, rfl, hJ [] W _ none h0 (World.grownBy_alloc W _ none) (fun r e => by cases e)⟩
  case round =>
    obtain ⟨done, ys, hit, hd, hJs⟩ := hrel
    have hseen := hit.seen
    rcases run_next_map' (P := Try.prog) 0 hit with ⟨hperm, hrun⟩ | ⟨p, hp, wn, hrun, hit', hkp, hsz, hlen, hnd⟩
    · have hP : ys.Perm es := by
        rw [hd] at hperm
        unfold entKV at hperm
        exact perm_map_inj (fun a b h => ent_inj (Prod.mk.injEq .. ▸ h : _ ∧ _).2) hperm
      clear hit hseen hperm
      gi_wp2
      go_end0
      exact ⟨⟨_, rfl⟩, .inl ⟨ys, hP, hJs⟩⟩
    · obtain ⟨x, hx, rfl⟩ := List.mem_map.1 hp
      have hent := run_entry_map' (P := Try.prog) hit'
      have hJ2 : J ys wn := hJ ys wr wn (some W.heap.size) hJs hkp.grown (fun r e => by cases e; exact ⟨Nat.le_refl _, hit.is_walk⟩)
      have hJ3 : J ys (wn.alloc (.cells (entC x) 33)) := hJ ys wn _ none hJ2 (World.grownBy_alloc wn _ none) (fun r e => by cases e)
      have hit2 : Iter (wn.alloc (.cells (entC x) 33)) W.heap.size b (entKV es) (entKV (ys ++ [x])) := by
        have := hit'.below ((Below.refl _ _).alloc (Nat.le_refl _) (.cells (entC x) 33))
        rw [hd] at this
        simpa [entKV] using this
      obtain ⟨fn, tmps, assign, body, hy, hR⟩ := hY ys x _ hJ3 (by rw [hd] at hlen; simpa [entKV] using hlen)
      have hIT2 := Lib.hid hit2
      have hdl : done.length = ys.length := by rw [hd]; simp [entKV]
      clear hit hit' hsz hkp hit2 hJ2 hJ3
      gi_wp2
      refine hR.mono ?_
      rintro e W3 (⟨rfl, hJ3, hk3⟩ | ⟨rfl, hJx3⟩)
      · have hit3 := hIT2.out.of_walks hk3
        have hI3 := Lib.hid hit3
        have hs3 := Lib.hid hit3.seen
        clear hit3
        gi_wp2
        go_roundw
        case rel => exact ⟨_, ys ++ [x], hI3.out, rfl, hJ3⟩
        case measure =>
          rw [hs3.out, hseen, hdl]
          rw [hdl, hlen0] at hlen
          simp only [entKV, List.length_map, List.length_append, List.length_singleton]
          omega
      · gi_wp2
        refine bodyPost_ret (results_none rfl _ _ _) rfl ?_
        exact ⟨⟨_, rfl⟩, .inr ⟨_, trivial, hJx3⟩⟩
/-- maps.Values(m)'s value -/
theorem values_stops (F : Fence) (n : Nat) (hV : F.fn 55) (hro : F.round = none) (hn : 1 ≤ n) (Bm b : Nat) (es : List Ent) (w : World) (hBm : Bm < w.heap.size) (hm : w.cell? ⟨Bm, 0, none⟩ = some (.map (some b))) (hmap : MapOf w b (entKV es)) :
    SeqStopsA F n Try.prog 55 #[.pointer (some ⟨Bm, 0, none⟩)] (fun e : Ent => #[entV e]) (fun ys => ys.Perm es) (fun _ => True) es.length w := fun l J Jx W hW hJ hJx hY h0 =>
  values55_in F n hV hro hn l Bm b es J Jx hY W hJ ((hW.cell (p := ⟨Bm, 0, none⟩) hBm).trans hm) (hmap.below hW) h0
end Go.Proofs.Ytpobdcdabojhcaa
