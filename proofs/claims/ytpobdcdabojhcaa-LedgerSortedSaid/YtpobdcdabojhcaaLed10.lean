/- slices.AppendSeq, slices.Collect over entries. -/
import Derived.Maps.AppendAt
import Derived.Test.YtpobdcdabojhcaaLed9
namespace Go.Proofs.Ytpobdcdabojhcaa
open Go.RowKit Go.Shelf
attribute [local go_sem] Oper.semAt_some
set_option linter.unusedVariables false
set_option linter.unusedSimpArgs false

theorem walks_of_others {W W' : World} (h : KeepsOthers W W') : KeepsWalks W W' := ⟨h.size, fun k o hk hw => h.same k o hk (Obj.not_cells_of_walk hw)⟩
abbrev entL (e : Ent) : List Value := (entC e).toList
theorem cells_new (w : World) (cs : Array Value) (e : TypeId) (f : Nat × Nat) : ∀ (j : Nat) u, cs.toList[j]? = some u → (w.alloc (.cells cs e f)).cell? ((⟨w.heap.size, 0, none⟩ : Addr).add j) = some u := fun j u h => by
  have := cell_heap (heap_alloc_new w (.cells cs e f)) (j := j) (v := u) (by simpa using h)
  have e : ((⟨w.heap.size, 0, none⟩ : Addr).add j) = ⟨w.heap.size, j, none⟩ := by
    cases j <;> simp [Addr.add]
  rw [e]
  exact this
theorem ent_one (e : Ent) : ∀ u ∈ entL e, u.oneCell' = true := by
  intro u hu
  simp only [entL, entC, List.mem_cons, List.not_mem_nil, or_false] at hu
  rcases hu with rfl | rfl | rfl | rfl | rfl | rfl | rfl <;> rfl
set_option maxRecDepth 100000 in
set_option maxHeartbeats 4000000 in
theorem appendSeq69 (F : Fence) (n : Nat) (h69 : F.fn 69) (hro : F.round = none) (hn : 2 ≤ n) (g : Nat) (lb : Array Value) (hFg : F.fn g) (eg : ∀ args w, (callFunc g args).run Try.prog w = .ok (.enter g args) w)
    (S : List Ent → Prop) (N : Nat) (hN : N * 40 ≤ 140737488355328) (w : World) (hseq : SeqStopsA F (n - 1) Try.prog g lb (fun e : Ent => #[entV e]) S (fun _ => True) N w) :
    CallsIn F n Try.prog 69 #[.slice none 0 0, .func (.func g) #[] lb] w fun e w' => ∃ v ys, e = .returned v ∧ S ys ∧ w'.ownsRow w.heap.size 33 7 v ys.length (ys.flatMap entL) ∧ Below w.heap.size w w' := by
  have h1 : 1 ≤ n := by omega
  obtain ⟨i0, hi, hz0, hz1, hz2⟩ := info_parts (P := Try.prog) (e := 33) (z := entV Ent.zero) (size := 7) (bytes := 40) (by kernel_rfl)
  refine callsIn_of_wp_marks Try.func69 rfl h69 ?_ hro
  simp only [Try.ntmps69, List.size_toArray, List.length_cons, List.length_nil, Nat.reduceAdd, Nat.reduceSub, Array.replicate_succ, Array.replicate_zero, List.push_toArray, List.append_toArray, List.nil_append, List.cons_append]
  gi_wp2
  have hsz0 : (w.alloc (.cells #[.slice none 0 0] 22)).heap.size = w.heap.size + 1 := by simp
  refine wpIn_rangeFunc_ownH hro h1 (gf := g) (lb := lb) rfl hFg eg hseq walksK_t walksK_b ((Below.refl _ w).alloc (Nat.le_refl _) _) (fun _ => rfl)
    (fun pre W => (∃ v, Boxed W w.heap.size 22 v ∧ W.ownsRow w.heap.size 33 7 v pre.length (pre.flatMap entL) ∧ True) ∧ Below w.heap.size w W)
    (fun _ _ _ => False)
    (OwnFrom.and (Own.from (holdsRow_own w.heap.size w.heap.size 22 33 7 (fun pre : List Ent => pre.length) (fun pre => pre.flatMap entL) (fun _ _ => True)) _) (ownFrom_below (Nat.le_refl _) (by simp)))
    (fun _ _ _ _ _ hs _ _ => hs)
    ⟨⟨_, Boxed.new w 22 _, World.ownsRow_nil _ _ _ _, trivial⟩, (Below.refl _ w).alloc (Nat.le_refl _) _⟩
    (fun x a' W => ∃ Bx, w.heap.size < Bx ∧ W.heap[Bx]? = some (.cells (entC x) 33 (0, 0)) ∧ a' = { tmps := #[.slice none 0 0, .func (.func g) #[] lb, .pointer (some ⟨w.heap.size, 0, none⟩), undef, .slice none 0 0, .pointer (some ⟨Bx, 0, none⟩), .func (.func g) #[] lb, entV x, undef, undef, undef, undef, undef], defers := [] })
    ?hAx ?assign ?body ?done ?stop
  case hAx =>
    rintro x a' _ X Y row ⟨Bx, h2, h3, h4⟩ hg hr
    refine ⟨Bx, h2, (hg.block Bx (block_lt h3) (fun e => ?_)).trans h3, h4⟩
    obtain ⟨_, o, ho, hc⟩ := hr Bx e.symm
    rw [h3] at ho
    cases ho
    cases hc
  case assign =>
    rintro l pre x W K ⟨⟨v, hb, hr, _⟩, hB⟩ hK
    gi_wp2
    exact hK _ _ ((KeepsOthers.alloc _ _).from _) (KeepsWalks.alloc _ _) ⟨⟨v, hb.alloc _, hr.alloc _, trivial⟩, hB.alloc hB.size _⟩ ⟨W.heap.size, hb.lt, heap_alloc_new W _, rfl⟩
  case body =>
    rintro l pre x a' W hl ⟨r, hr⟩ ⟨⟨v, hb, hrow, _⟩, hB⟩ ⟨Bx, hBx, bX, rfl⟩ hlt
    have hc0 := hb.cell
    have hf0 := hb.frozen
    have x0 : W.cell? ⟨Bx, 0, none⟩ = some _ := cell_heap bX rfl
    have x1 : W.cell? ⟨Bx, 1, none⟩ = some _ := cell_heap bX rfl
    have x2 : W.cell? ⟨Bx, 2, none⟩ = some _ := cell_heap bX rfl
    have x3 : W.cell? ⟨Bx, 3, none⟩ = some _ := cell_heap bX rfl
    have x4 : W.cell? ⟨Bx, 4, none⟩ = some _ := cell_heap bX rfl
    have x5 : W.cell? ⟨Bx, 5, none⟩ = some _ := cell_heap bX rfl
    have x6 : W.cell? ⟨Bx, 6, none⟩ = some _ := cell_heap bX rfl
    have hBW := hB.size
    clear hr bX hl
    gi_wp2_with (first
      | (gi_at_builtin; refine wpListIn_append_own _ rfl _ _ 22 rfl w.heap.size 33 i0 (entV Ent.zero) 7 40 Try.underlying22 hi hz0 hz1 hz2 rfl (by decide) _ _ _ rfl (hrow.alloc _) ⟨W.heap.size, 0, none⟩ 1 1 (entL x) rfl rfl (cells_new _ (entC x) 33 (0, 0)) (ent_one x) (by unfold maxLen; omega) (by omega) (by simp; omega) ?_
         intro v' w1 hown' hgrow _
         obtain ⟨g', cap', rfl⟩ := ownsRow_succ hown'
         obtain ⟨hv1, hv2, hr2, hk2, hb2⟩ := hb.appended (by decide) hrow hB.size (Nat.le_refl _) hown' hgrow
         have hc1 := hv1.cell
         have hf1 := hv1.frozen))
    exact ⟨hk2.from _, hk2.walks, ⟨⟨_, hv2, by simpa using hr2, trivial⟩, hB.trans hb2⟩⟩
  case done =>
    rintro D ys W hD hS ⟨⟨v, hb, hrow, _⟩, hB⟩ hK
    have hc0 := hb.cell
    gi_wp2
    refine ⟨by simp, .inl ⟨_, _, rfl, run_takeDeferred hK, ?_⟩⟩
    exact ⟨_, results_tmp rfl _ _ _, v, ys, rfl, hS, ownsRow_putObj hrow _ hK rfl, hB.trans (belowK_b (w := w) (Nat.le_refl _) W D _ _ (by simp at hD; omega) hK rfl rfl)⟩
  case stop =>
    rintro D c pre W _ _ h _
    exact h.elim
end Go.Proofs.Ytpobdcdabojhcaa
