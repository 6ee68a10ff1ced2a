/- The three laws on Inside and Overlap: they answer true and turn nothing. -/
import Derived.Test.YtledfhoifdihhaaLocks1
namespace Go.Proofs.Ytledfhoifdihhaa
open Go.RowKit

theorem inside_point (k : ByteArray) : insideB k k (k ++ { data := #[0] }) = true := by
  unfold insideB inB
  rw [toList_push0]
  have := lt_snoc k.toList 0
  simp [this]
theorem inside_next (k : ByteArray) : insideB (k ++ { data := #[0] }) k (k ++ { data := #[0] }) = false := by
  unfold insideB inB
  rw [toList_push0]
  simp

theorem locksInside_walk (k lo hi : ByteArray) (hk : k.size ≤ 140737488351232) (w : World) :
    Calls Try.prog 3 #[.agg #[.string k, .string lo, .string hi]] w fun e w' => e = .returned (.bool true) ∧ Below w.heap.size w w' := by
  have hB := Lib.hid (Below.refl w.heap.size w)
  have h1 := inside_point k
  have h2 := inside_next k
  go_enter Try.func3, Try.ntmps3
  go_wp2_with (go_at_call 10; refine (inside10 _ _ _ _).mono ?_; rintro e w' ⟨rfl, hb⟩; have f0 : w'.cell? ⟨w.heap.size, 0, none⟩ = some (.string k) := cellB hb (by first | assumption | simp); have f1 : w'.cell? ⟨w.heap.size, 1, none⟩ = some (.string lo) := cellB hb (by first | assumption | simp); have f2 : w'.cell? ⟨w.heap.size, 2, none⟩ = some (.string hi) := cellB hb (by first | assumption | simp); have f3 : w'.cell? ⟨w.heap.size + 1, 0, none⟩ = some (.string k) := cellB hb (by first | assumption | simp); have f4 : w'.cell? ⟨w.heap.size + 1, 1, none⟩ = some (.string (k ++ { data := #[0] })) := cellB hb (by first | assumption | simp); replace hB := Lib.hid (chain (w := w) hb (by repeat (first | exact hB.out | refine allocW ?_ _ | refine Below.drew ?_ | refine drewNW ?_ _))); clear hb)
  (refine wp_region_below mixed (by kernel_rfl) ?_; (repeat (first | (refine bstep_off rfl ?_; simp only [Act.put, List.setIfInBounds_toArray, List.set_cons_succ, List.set_cons_zero]) | (refine bstep rfl ?_; apply Exists.intro; refine ⟨fun w2 hw2 _ => ?_, ?_⟩; (have qf0 := cellB hw2 f0; have qf1 := cellB hw2 f1; have qf2 := cellB hw2 f2; have qf3 := cellB hw2 f3; have qf4 := cellB hw2 f4; go_simp; first | (exact ⟨rfl, rfl⟩) | rfl | (go_at_call 10; refine (inside10 _ _ _ _).mono ?_; rintro e w3 ⟨he, h⟩; exact ⟨he, chain h hw2⟩) | (go_at_call 11; refine (inside11 _ _ _ _).mono ?_; rintro e w3 ⟨he, h⟩; exact ⟨he, chain h hw2⟩)); simp only [Act.put, List.setIfInBounds_toArray, List.set_cons_succ, List.set_cons_zero]) | (refine bstep_on rfl ?_; apply Exists.intro; refine ⟨fun w2 hw2 _ => ?_, ?_⟩; (have qf0 := cellB hw2 f0; have qf1 := cellB hw2 f1; have qf2 := cellB hw2 f2; have qf3 := cellB hw2 f3; have qf4 := cellB hw2 f4; go_simp; first | (exact ⟨rfl, rfl⟩) | rfl | (go_at_call 10; refine (inside10 _ _ _ _).mono ?_; rintro e w3 ⟨he, h⟩; exact ⟨he, chain h hw2⟩) | (go_at_call 11; refine (inside11 _ _ _ _).mono ?_; rintro e w3 ⟨he, h⟩; exact ⟨he, chain h hw2⟩)); simp only [Act.put, List.setIfInBounds_toArray, List.set_cons_succ, List.set_cons_zero]))); refine wpQuiet_nil ?_; intro w2 hw2; have f0 : w2.cell? ⟨w.heap.size, 0, none⟩ = some (.string k) := cellB hw2 (by first | assumption | simp); have f1 : w2.cell? ⟨w.heap.size, 1, none⟩ = some (.string lo) := cellB hw2 (by first | assumption | simp); have f2 : w2.cell? ⟨w.heap.size, 2, none⟩ = some (.string hi) := cellB hw2 (by first | assumption | simp); have f3 : w2.cell? ⟨w.heap.size + 1, 0, none⟩ = some (.string k) := cellB hw2 (by first | assumption | simp); have f4 : w2.cell? ⟨w.heap.size + 1, 1, none⟩ = some (.string (k ++ { data := #[0] })) := cellB hw2 (by first | assumption | simp); replace hB := Lib.hid (chain (w := w) hw2 (by repeat (first | exact hB.out | refine allocW ?_ _ | refine Below.drew ?_ | refine drewNW ?_ _))))
  go_wp2
  go_ret
  exact ⟨ret_bool (by simp), hB.out⟩

theorem max_comm (a b : ByteArray) : (maxS a b).toList = (maxS b a).toList := by
  unfold maxS
  rcases lt_tri a.toList b.toList with h | h | h
  · have h1 : ¬ b.toList < a.toList := fun h' => lt_irrefl' _ (lt_trans' h h')
    simp [h, h1]
  · simp [h, lt_irrefl' b.toList]
  · have h1 : ¬ a.toList < b.toList := fun h' => lt_irrefl' _ (lt_trans' h h')
    simp [h, h1]
theorem overlap_comm (al ah bl bh : ByteArray) : overlapB bl bh al ah = overlapB al ah bl bh := by
  unfold overlapB insideB
  rw [max_comm bl al, Bool.and_comm]
theorem overlap_all (k : ByteArray) : overlapB k { data := #[] } { data := #[] } { data := #[] } = true := by
  have h0 : ({ data := #[] } : ByteArray).toList = [] := by rw [Lib.toList_data]
  have hm : maxS k { data := #[] } = k := by unfold maxS; rw [h0]; simp
  unfold overlapB insideB inB
  rw [hm, h0]
  simp

theorem locksOverlap_walk (al ah bl bh k : ByteArray) (w : World) :
    Calls Try.prog 4 #[.agg #[.string al, .string ah, .string bl, .string bh, .string k]] w fun e w' => e = .returned (.bool true) ∧ Below w.heap.size w w' := by
  have hB := Lib.hid (Below.refl w.heap.size w)
  have h1 := overlap_all k
  have h2 := overlap_comm al ah bl bh
  go_enter Try.func4, Try.ntmps4
  go_wp2_with (first | (go_at_call 12; refine (overlap12 _ _ _ _ _).mono ?_; rintro e w' ⟨rfl, hb⟩; have f0 : w'.cell? ⟨w.heap.size, 0, none⟩ = some (.string al) := cellB hb (by first | assumption | simp); have f1 : w'.cell? ⟨w.heap.size, 1, none⟩ = some (.string ah) := cellB hb (by first | assumption | simp); have f2 : w'.cell? ⟨w.heap.size, 2, none⟩ = some (.string bl) := cellB hb (by first | assumption | simp); have f3 : w'.cell? ⟨w.heap.size, 3, none⟩ = some (.string bh) := cellB hb (by first | assumption | simp); have f4 : w'.cell? ⟨w.heap.size, 4, none⟩ = some (.string k) := cellB hb (by first | assumption | simp); replace hB := Lib.hid (chain (w := w) hb (by repeat (first | exact hB.out | refine allocW ?_ _ | refine Below.drew ?_ | refine drewNW ?_ _))); clear hb) | (go_at_call 13; refine (overlap13 _ _ _ _ _).mono ?_; rintro e w' ⟨rfl, hb⟩; have f0 : w'.cell? ⟨w.heap.size, 0, none⟩ = some (.string al) := cellB hb (by first | assumption | simp); have f1 : w'.cell? ⟨w.heap.size, 1, none⟩ = some (.string ah) := cellB hb (by first | assumption | simp); have f2 : w'.cell? ⟨w.heap.size, 2, none⟩ = some (.string bl) := cellB hb (by first | assumption | simp); have f3 : w'.cell? ⟨w.heap.size, 3, none⟩ = some (.string bh) := cellB hb (by first | assumption | simp); have f4 : w'.cell? ⟨w.heap.size, 4, none⟩ = some (.string k) := cellB hb (by first | assumption | simp); replace hB := Lib.hid (chain (w := w) hb (by repeat (first | exact hB.out | refine allocW ?_ _ | refine Below.drew ?_ | refine drewNW ?_ _))); clear hb))
  go_ret
  exact ⟨ret_bool (by simp), hB.out⟩

theorem inB_all (k : ByteArray) : insideB k k { data := #[] } = true := by
  have h0 : ({ data := #[] } : ByteArray).toList = [] := by rw [Lib.toList_data]
  unfold insideB inB
  rw [h0]
  simp
theorem overlap_witness (al ah bl bh k : ByteArray) (h1 : insideB k al ah = true) (h2 : insideB k bl bh = true) : overlapB al ah bl bh = true := by
  unfold overlapB insideB maxS at *
  unfold inB at *
  simp only [Bool.and_eq_true, decide_eq_true_eq, Bool.or_eq_true] at *
  obtain ⟨a1, a2⟩ := h1
  obtain ⟨b1, b2⟩ := h2
  have key : ∀ {l h x : List UInt8}, ¬ x < l → (h.isEmpty = true ∨ x < h) → ∀ y, ¬ x < y → (h.isEmpty = true ∨ y < h) := by
    intro l h x hx hh y hy
    rcases hh with hh | hh
    · exact .inl hh
    · rcases lt_tri x y with e | e | e
      · exact absurd e hy
      · rw [← e]; exact .inr hh
      · exact .inr (lt_trans' e hh)
  by_cases c : al.toList < bl.toList
  · rw [if_pos c]
    exact ⟨⟨fun h => lt_irrefl' _ (lt_trans' h c), key a1 a2 _ b1⟩, lt_irrefl' _, key b1 b2 _ b1⟩
  · rw [if_neg c]
    exact ⟨⟨lt_irrefl' _, key a1 a2 _ a1⟩, c, key b1 b2 _ a1⟩

theorem locksWitness_walk (al ah bl bh k : ByteArray) (w : World) :
    Calls Try.prog 5 #[.agg #[.string al, .string ah, .string bl, .string bh, .string k]] w fun e w' => e = .returned (.bool true) ∧ Below w.heap.size w w' := by
  have hB := Lib.hid (Below.refl w.heap.size w)
  have h1 := inB_all k
  have hm : maxS al bl = if Op.bytesLess al.toList bl.toList = true then bl else al := by simp [maxS, bytesLess_eq]
  have hM := Lib.hid hm
  have hW := Lib.hid (overlap_witness al ah bl bh k)
  clear hm
  go_enter Try.func5, Try.ntmps5
  go_wp2_with (first | (go_at_call 12; refine (overlap12 _ _ _ _ _).mono ?_; rintro e w' ⟨rfl, hb⟩; have f0 : w'.cell? ⟨w.heap.size, 0, none⟩ = some (.string al) := cellB hb (by first | assumption | simp); have f1 : w'.cell? ⟨w.heap.size, 1, none⟩ = some (.string ah) := cellB hb (by first | assumption | simp); have f2 : w'.cell? ⟨w.heap.size, 2, none⟩ = some (.string bl) := cellB hb (by first | assumption | simp); have f3 : w'.cell? ⟨w.heap.size, 3, none⟩ = some (.string bh) := cellB hb (by first | assumption | simp); have f4 : w'.cell? ⟨w.heap.size, 4, none⟩ = some (.string k) := cellB hb (by first | assumption | simp); replace hB := Lib.hid (chain (w := w) hb (by repeat (first | exact hB.out | refine allocW ?_ _ | refine Below.drew ?_ | refine drewNW ?_ _))); clear hb) | (go_at_call 10; refine (inside10 _ _ _ _).mono ?_; rintro e w' ⟨rfl, hb⟩; have f0 : w'.cell? ⟨w.heap.size, 0, none⟩ = some (.string al) := cellB hb (by first | assumption | simp); have f1 : w'.cell? ⟨w.heap.size, 1, none⟩ = some (.string ah) := cellB hb (by first | assumption | simp); have f2 : w'.cell? ⟨w.heap.size, 2, none⟩ = some (.string bl) := cellB hb (by first | assumption | simp); have f3 : w'.cell? ⟨w.heap.size, 3, none⟩ = some (.string bh) := cellB hb (by first | assumption | simp); have f4 : w'.cell? ⟨w.heap.size, 4, none⟩ = some (.string k) := cellB hb (by first | assumption | simp); replace hB := Lib.hid (chain (w := w) hb (by repeat (first | exact hB.out | refine allocW ?_ _ | refine Below.drew ?_ | refine drewNW ?_ _))); clear hb))
  all_goals (go_ret; refine ⟨ret_bool ?_, hB.out⟩)
  all_goals (go_tidy; have hm := hM.out; have hw := hW.out; clear hM hW; unfold overlapB at *; grind)
end Go.Proofs.Ytledfhoifdihhaa
