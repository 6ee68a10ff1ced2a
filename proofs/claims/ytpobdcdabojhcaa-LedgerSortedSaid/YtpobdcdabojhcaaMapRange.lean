/- Going over a map whose entries stay as they are. -/
import Derived.Test.YtpobdcdabojhcaaMapKit
namespace Go.Proofs.Ytpobdcdabojhcaa
open Go.RowKit Go.MapKept
open Go.ChangeMaps (setBlock)
set_option linter.unusedVariables false
set_option linter.unusedSimpArgs false

/-- block r goes over the map in block b, whose pairs are kv; 'done' have come -/
def Iter (w : World) (r b : Nat) (kv done : List (Value × Value)) : Prop :=
  ∃ (es : Array MapEntry) (clock since c0 : Nat) (seen : Array Nat) (vis : List MapEntry),
    w.heap[b]? = some (.map es clock) ∧ Stamped es clock ∧ es.toList.map (fun e => (e.key, e.val)) = kv ∧
    w.heap[r]? = some (.mapIter (some b) since seen c0) ∧ since ≤ c0 ∧ since ≤ clock ∧ (∀ x ∈ es.toList, x.born < since) ∧
    (∀ x ∈ vis, x ∈ es.toList) ∧ (vis.map (·.born)).Nodup ∧ seen.toList = vis.map (·.born) ∧ vis.map (fun e => (e.key, e.val)) = done ∧ (done ≠ [] → c0 = clock)

theorem Iter.of_blocks {w w' : World} {r b : Nat} {kv done : List (Value × Value)} (h : Iter w r b kv done) (hb : w'.heap[b]? = w.heap[b]?) (hr : w'.heap[r]? = w.heap[r]?) : Iter w' r b kv done := by
  obtain ⟨es, clock, since, c0, seen, vis, h1, h2, h3, h4, h5⟩ := h
  exact ⟨es, clock, since, c0, seen, vis, hb.trans h1, h2, h3, hr.trans h4, h5⟩
theorem Iter.lt {w : World} {r b : Nat} {kv done : List (Value × Value)} (h : Iter w r b kv done) : b < w.heap.size ∧ r < w.heap.size := by
  obtain ⟨es, clock, since, c0, seen, vis, h1, h2, h3, h4, h5⟩ := h
  exact ⟨block_lt h1, block_lt h4⟩
theorem Iter.kp {S : List Nat} {w w' : World} {r b : Nat} {kv done : List (Value × Value)} (h : Iter w r b kv done) (hk : Kp S w w') (hb : b ∉ S) (hr : r ∉ S) : Iter w' r b kv done :=
  h.of_blocks (hk.block b h.lt.1 hb) (hk.block r h.lt.2 hr)
theorem Iter.below {w w' : World} {r b : Nat} {kv done : List (Value × Value)} (h : Iter w r b kv done) (hk : Below w.heap.size w w') : Iter w' r b kv done :=
  h.of_blocks (hk.block b h.lt.1) (hk.block r h.lt.2)
theorem Iter.map {w : World} {r b : Nat} {kv done : List (Value × Value)} (h : Iter w r b kv done) : MapOf w b kv := by
  obtain ⟨es, clock, since, c0, seen, vis, h1, h2, h3, h4, h5⟩ := h
  exact ⟨es, clock, h1, h2, h3⟩

section
variable {P : Program} {k e t : TypeId} {w : World} {b r : Nat} {kv done : List (Value × Value)}

theorem nodup_of_map {α β : Type} (f : α → β) : ∀ {l : List α}, (l.map f).Nodup → l.Nodup
  | [], _ => List.nodup_nil
  | a :: l, h => by
    rw [List.map_cons, List.nodup_cons] at h
    exact List.nodup_cons.2 ⟨fun hm => h.1 (List.mem_map.2 ⟨a, hm, rfl⟩), nodup_of_map f h.2⟩
theorem nodup_len {α : Type} : ∀ {l k : List α}, l.Nodup → (∀ x ∈ l, x ∈ k) → l.length ≤ k.length
  | [], k, _, _ => Nat.zero_le _
  | a :: l, k, h, hs => by
    obtain ⟨s, t, rfl⟩ := List.append_of_mem (hs a (by simp))
    rw [List.nodup_cons] at h
    have := nodup_len (k := s ++ t) h.2 fun x hx => by
      have hx' := hs x (by simp [hx])
      simp only [List.mem_append, List.mem_cons] at hx' ⊢
      rcases hx' with hx' | rfl | hx'
      · exact .inl hx'
      · exact absurd hx h.1
      · exact .inr hx'
    simp only [List.length_append, List.length_cons] at this ⊢
    omega

theorem run_range_map (ht : P.underlying t = some (.map k e)) (h : MapOf w b kv) :
    ∃ o, (Instr.range t (.map (some b))).run P w = .ok (.pointer (some ⟨w.heap.size, 0, none⟩)) (w.alloc o) ∧ Iter (w.alloc o) w.heap.size b kv [] := by
  have hlt := h.lt
  obtain ⟨es, clock, hb, hst, hkv⟩ := h
  refine ⟨.mapIter (some b) clock #[] clock, ?_, es, clock, clock, clock, #[], [], ?_, hst, hkv, heap_alloc_new w _, Nat.le_refl _, Nat.le_refl _, hst.1, by simp, by simp, rfl, rfl, by simp⟩
  · simp only [Instr.range, Sem.run_bind, run_underlying ht, Result.andThen, MapKept.run_getObj_map hb]
    rfl
  · rw [Below.heap_alloc w _ b hlt]; exact hb

theorem run_next_map' (ty : TypeId) (h : Iter w r b kv done) :
    (done.Perm kv ∧ (Instr.next (.pointer (some ⟨r, 0, none⟩)) false ty).run P w = .ok (.tuple #[.bool false]) w) ∨
    ∃ x ∈ kv, ∃ w', (Instr.next (.pointer (some ⟨r, 0, none⟩)) false ty).run P w = .ok (.tuple #[.bool true, x.1, x.2]) w' ∧ Iter w' r b kv (done ++ [x]) ∧ Kp [r] w w' ∧ w'.heap.size = w.heap.size ∧ done.length < kv.length ∧ x ∉ done := by
  obtain ⟨es, clock, since, c0, seen, vis, hb, hst, hkv, hr, hsc, hscl, hold, hvis, hnd, hseen, hdone, hcl⟩ := h
  have hnb : (es.toList.map (·.born)).Nodup := hst.2.1
  have hbinj : ∀ x ∈ es.toList, ∀ y ∈ es.toList, x.born = y.born → x = y := by
    intro x hx y hy hxy
    have : ∀ (l : List MapEntry), (l.map (·.born)).Nodup → ∀ p ∈ l, ∀ q ∈ l, p.born = q.born → p = q := by
      intro l
      induction l with
      | nil => intro _ p hp; cases hp
      | cons a l ih =>
        intro hnd p hp q hq hpq
        rw [List.map_cons, List.nodup_cons] at hnd
        rcases List.mem_cons.1 hp with e1 | hp
        · rcases List.mem_cons.1 hq with e2 | hq
          · rw [e1, e2]
          · exact absurd (List.mem_map.2 ⟨q, hq, by rw [← hpq, e1]⟩) hnd.1
        · rcases List.mem_cons.1 hq with e2 | hq
          · exact absurd (List.mem_map.2 ⟨p, hp, by rw [hpq, e2]⟩) hnd.1
          · exact ih hnd.2 p hp q hq hpq
    exact this _ hnb x hx y hy hxy
  have hvnd : vis.Nodup := nodup_of_map _ hnd
  have hend : es.toList.Nodup := nodup_of_map _ hnb
  rcases run_next_at (P := P) w ty r b since c0 seen es clock hr hb hold hsc with ⟨h0, hrun⟩ | ⟨e0, he0, w1, hw1, hrun⟩
  · left
    refine ⟨?_, hrun⟩
    rw [← hdone, ← hkv]
    refine List.Perm.map _ ?_
    refine (List.perm_ext_iff_of_nodup hvnd hend).2 fun x => ⟨hvis x, fun hx => ?_⟩
    have hemp : leftOf es seen = #[] := Array.eq_empty_of_size_eq_zero h0
    unfold leftOf at hemp
    rw [Array.filter_eq_empty_iff] at hemp
    have := hemp x (by simpa using hx)
    have hmem : x.born ∈ seen.toList := by simpa using this
    rw [hseen] at hmem
    obtain ⟨y, hy, hyb⟩ := List.mem_map.1 hmem
    rw [← hbinj y (hvis y hy) x hx hyb]
    exact hy
  · right
    have hmem0 : e0 ∈ es.toList ∧ e0.born ∉ vis.map (·.born) := by
      unfold leftOf at he0
      simp only [Array.mem_toList_iff, Array.mem_filter] at he0
      refine ⟨by simpa using he0.1, ?_⟩
      rw [← hseen]
      simpa using he0.2
    have hnv : e0 ∉ vis := fun h => hmem0.2 (List.mem_map.2 ⟨e0, h, rfl⟩)
    refine ⟨(e0.key, e0.val), by rw [← hkv]; exact List.mem_map.2 ⟨e0, hmem0.1, rfl⟩, _, hrun, ?_, ?_, ?_, ?_, ?_⟩
    · have hne : b ≠ r := fun e => by rw [e] at hb; rw [hb] at hr; cases hr
      have hw1b : w1.heap = w.heap := by rcases hw1 with rfl | rfl <;> rfl
      refine ⟨es, clock, since, clock, seen.push e0.born, vis ++ [e0], ?_, hst, hkv, ?_, hscl, hscl, hold, ?_, ?_, ?_, ?_, fun _ => rfl⟩
      · show (w1.heap.setIfInBounds r _)[b]? = _
        rw [Array.getElem?_setIfInBounds_ne (Ne.symm hne), hw1b]; exact hb
      · exact setBlock_at (by rw [hw1b]; exact block_lt hr) _
      · intro x hx
        rcases List.mem_append.1 hx with hx | hx
        · exact hvis x hx
        · rw [List.mem_singleton.1 hx]; exact hmem0.1
      · rw [List.map_append, List.map_singleton, List.nodup_append]
        exact ⟨hnd, by simp, fun x hx y hy => by rw [List.mem_singleton.1 hy]; rintro rfl; exact hmem0.2 hx⟩
      · rw [Array.toList_push, hseen, List.map_append, List.map_singleton]
      · rw [List.map_append, List.map_singleton, hdone]
    · have := kp_setBlock w1 r (.mapIter (some b) since (seen.push e0.born) clock)
      rcases hw1 with rfl | rfl
      · exact this
      · exact (Kp.refl [r] w).drew.trans this
    · rw [setBlock_size]; rcases hw1 with rfl | rfl <;> rfl
    · rw [← hdone, ← hkv, List.length_map, List.length_map]
      have h1 : (vis ++ [e0]).Nodup := by
        rw [List.nodup_append]
        exact ⟨hvnd, by simp, fun x hx y hy => by rw [List.mem_singleton.1 hy]; rintro rfl; exact hnv hx⟩
      have h2 : (vis ++ [e0]).length ≤ es.toList.length := by
        refine nodup_len h1 ?_
        intro x hx
        rcases List.mem_append.1 hx with hx | hx
        · exact hvis x hx
        · rw [List.mem_singleton.1 hx]; exact hmem0.1
      simp only [List.length_append, List.length_singleton] at h2
      omega
    · rw [← hdone]
      intro hx
      obtain ⟨y, hy, hyx⟩ := List.mem_map.1 hx
      simp only [Prod.mk.injEq] at hyx
      have h3 : (es.toList.map (·.key)).Nodup := hst.2.2
      have : y = e0 := by
        have hk : ∀ (l : List MapEntry), (l.map (·.key)).Nodup → ∀ p ∈ l, ∀ q ∈ l, p.key = q.key → p = q := by
          intro l
          induction l with
          | nil => intro _ p hp; cases hp
          | cons a l ih =>
            intro hnd p hp q hq hpq
            rw [List.map_cons, List.nodup_cons] at hnd
            rcases List.mem_cons.1 hp with e1 | hp
            · rcases List.mem_cons.1 hq with e2 | hq
              · rw [e1, e2]
              · exact absurd (List.mem_map.2 ⟨q, hq, by rw [← hpq, e1]⟩) hnd.1
            · rcases List.mem_cons.1 hq with e2 | hq
              · exact absurd (List.mem_map.2 ⟨p, hp, by rw [hpq, e2]⟩) hnd.1
              · exact ih hnd.2 p hp q hq hpq
        exact hk _ h3 y (hvis y hy) e0 hmem0.1 hyx.1
      rw [this] at hy
      exact hnv hy

theorem run_entry_map' {x : Value × Value} (h : Iter w r b kv (done ++ [x])) : (Instr.entry (.pointer (some ⟨r, 0, none⟩))).run P w = .ok (.tuple #[x.1, x.2]) w := by
  obtain ⟨es, clock, since, c0, seen, vis, hb, hst, hkv, hr, hsc, hscl, hold, hvis, hnd, hseen, hdone, hcl⟩ := h
  obtain ⟨vs, e0, rfl⟩ : ∃ vs e0, vis = vs ++ [e0] := by
    rcases List.eq_nil_or_concat vis with h | ⟨vs, e0, h⟩
    · rw [h] at hdone; simp at hdone
    · exact ⟨vs, e0, by rw [h]; simp⟩
  have hx : (e0.key, e0.val) = x := by
    rw [List.map_append, List.map_singleton] at hdone
    exact (List.append_inj' hdone rfl).2 |> List.singleton_inj.1
  have hs : seen = (vs.map (·.born)).toArray.push e0.born := by
    apply Array.ext'
    rw [hseen]
    simp
  rw [hs, hcl (by simp)] at hr
  rw [run_entry_at w r b since _ es clock e0 hr hb (hvis e0 (by simp)) hst.2.1, ← hx]
end
end Go.Proofs.Ytpobdcdabojhcaa
