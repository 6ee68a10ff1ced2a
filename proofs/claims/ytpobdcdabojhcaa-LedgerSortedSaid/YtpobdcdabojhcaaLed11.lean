/- slices.Collect over entries; slices.SortFunc over rows of entries; slices.SortedFunc(maps.Values(m), cmp). -/
import Derived.Test.YtpobdcdabojhcaaLed10
import Derived.Test.YtpobdcdabojhcaaLayLed
namespace Go.Proofs.Ytpobdcdabojhcaa
open Go.RowKit Go.Shelf Go.Sort
set_option linter.unusedVariables false
set_option linter.unusedSimpArgs false

theorem flat_get {α : Type} (f : α → List Value) (n : Nat) (hf : ∀ x, (f x).length = n) : ∀ (xs : List α) (k : Nat) x (j : Nat) v, xs[k]? = some x → (f x)[j]? = some v → (xs.flatMap f)[k * n + j]? = some v
  | [], k, x, j, v, h, _ => by simp at h
  | y :: r, k, x, j, v, h, hv => by
    have hj : j < n := by rw [← hf x]; exact (List.getElem?_eq_some_iff.1 hv).1
    rw [List.flatMap_cons]
    cases k with
    | zero =>
      simp at h; subst h
      rw [Nat.zero_mul, Nat.zero_add, List.getElem?_append_left (by rw [hf]; exact hj)]
      exact hv
    | succ k =>
      rw [List.getElem?_append_right (by rw [hf, Nat.succ_mul]; omega), hf]
      rw [show (k + 1) * n + j - n = k * n + j by rw [Nat.succ_mul]; omega]
      exact flat_get f n hf r k x j v (by simpa using h) hv
theorem flat_len {α : Type} (f : α → List Value) (n : Nat) (hf : ∀ x, (f x).length = n) : ∀ xs : List α, (xs.flatMap f).length = xs.length * n
  | [] => by simp
  | y :: r => by rw [List.flatMap_cons, List.length_append, hf, flat_len f n hf r, List.length_cons, Nat.succ_mul]; omega

section
variable {α : Type} [Inhabited α] {enc : α → List Value} {K : Nat} {T : TypeId}
theorem holds_own (hk : ∀ x, (enc x).length = K) (h0 : 0 < K) {w : World} {base cap g : Nat} {xs : List α} (h : w.ownsRow base T K (.slice (some ⟨g, 0, none⟩) xs.length cap) xs.length (xs.flatMap enc)) : HoldsK enc K w g 0 xs.toArray := by
  intro j hj
  rw [size_flatK] at hj
  have hj' : j < xs.length * K := by simpa using hj
  refine ⟨?_, h.frozenAt _⟩
  rw [Nat.zero_add, h.cellAt j hj']
  have hi : j / K < xs.length := by rw [Nat.div_lt_iff_lt_mul h0]; exact hj'
  have e1 := List.getElem?_eq_getElem hi
  have hm : j % K < (enc xs[j / K]).length := by rw [hk]; exact Nat.mod_lt _ h0
  have e2 := List.getElem?_eq_getElem hm
  have e3 := flat_get enc K hk xs _ _ _ _ e1 e2
  rw [Nat.div_add_mod' j K] at e3
  rw [e3, get_flatK _ _ _ _ hj]
  simp only [id]
  rw [getElem!_pos xs.toArray (j / K) (by simpa using hi)]
  rw [getElem!_pos _ (j % K) (by simpa using hm)]
  simp
theorem kp_sortWorldK (w : World) (blk off n : Nat) (d : Array α) (os : Array Obj) : Kp [blk] w (sortWorldK enc K w blk off n d os) := by
  unfold sortWorldK
  refine ⟨rfl, rfl, rfl, by simp [size_putRowK], fun k hk hs => ?_⟩
  rw [heap_grow_old _ _ (by rw [size_putRowK]; exact hk)]
  simp only [putRowK, putRow, mapBlock, heap_ahead]
  rw [Array.getElem?_modify]
  have : blk ≠ k := fun e => hs (by simp [e])
  simp [this]
theorem sorted_block (w : World) (blk off n : Nat) (d : Array α) (os : Array Obj) {cur : Array Value} {e : TypeId} {fz : Nat × Nat} (hh : w.heap[blk]? = some (.cells cur e fz)) :
    ∃ cur', (sortWorldK enc K w blk off n d os).heap[blk]? = some (.cells cur' e fz) ∧ cur'.size = cur.size := by
  unfold sortWorldK
  have hlt := block_lt hh
  rw [heap_grow_old _ _ (by rw [size_putRowK]; exact hlt)]
  simp only [putRowK, putRow, mapBlock, heap_ahead]
  rw [Array.getElem?_modify]
  simp only [if_true, hh, Option.map_some, onCells]
  exact ⟨_, rfl, by simp [putCells]⟩
/-- slices.SortFunc over a row of the call's own -/
theorem sort_own (hk : ∀ x, (enc x).length = K) (h0 : 0 < K) {F : Nat} {fv : Value} {cf : α → α → Int} {P : Program}
    (hnone : ∀ w, Calls P F #[.slice none 0 0, fv] w fun e w' => e = .returned (.tuple #[]) ∧ w' = w)
    (hsort : ∀ (blk off cap : Nat) (d : Array α) (w : World), HoldsK enc K w blk off d → blk < w.heap.size → d.size < 4611686018427387904 → Calls P F #[.slice (some ⟨blk, off, none⟩) d.size cap, fv] w fun e w' => e = .returned (.tuple #[]) ∧ ∃ d' n os, PermIn 0 d.size d d' ∧ SortedIn (ltOf cf) 0 d.size d' ∧ w' = sortWorldK enc K w blk off n d' os)
    (base : Nat) (v : Value) (xs : List α) (w : World) (hown : w.ownsRow base T K v xs.length (xs.flatMap enc)) (hl : xs.length < 4611686018427387904) :
    Calls P F #[v, fv] w fun e w' => e = .returned (.tuple #[]) ∧ ∃ ys : List α, ys.Perm xs ∧ ys.Pairwise (fun a b => ltOf cf b a = false) ∧ w'.ownsRow base T K v ys.length (ys.flatMap enc) ∧ Kp v.ownBlock.toList w w' := by
  have hown0 := hown
  obtain ⟨_, ⟨rfl, h1⟩ | ⟨g, cap, cur, rfl, hg, hh, hn, hc, hs, ht⟩⟩ := hown
  · obtain rfl : xs = [] := List.eq_nil_of_length_eq_zero h1
    exact (hnone w).mono fun e w' ⟨he, hw⟩ => ⟨he, [], List.Perm.nil, List.Pairwise.nil, hw ▸ hown0, hw ▸ Kp.refl _ _⟩
  · have hH := holds_own hk h0 hown0
    have hlt := block_lt hh
    have h := hsort g 0 cap xs.toArray w hH hlt (by simpa using hl)
    have hsz : xs.toArray.size = xs.length := by simp
    rw [hsz] at h
    refine h.mono fun e w' ⟨he, d', n, os, hp, hso, hw⟩ => ⟨he, d'.toList, ?_⟩
    obtain ⟨hp1, hp2, hp3⟩ := hp
    have hl' : d'.size = xs.length := by rw [hp1, hsz]
    have hdl : d'.toList.length = xs.length := hl'
    have hperm : d'.toList.Perm xs := by
      have e1 : d'.extract 0 xs.length = d' := by rw [← hl']; simp
      have e2 : xs.toArray.extract 0 xs.length = xs.toArray := by rw [← hsz]; simp
      rw [e1, e2] at hp3
      simpa using hp3
    refine ⟨hperm, ?_, ?_, ?_⟩
    · rw [List.pairwise_iff_getElem]
      intro i j hi hj hij
      have := hso i j (Nat.zero_le _) hij (by simpa [hl'] using hj)
      rw [getElem!_pos d' j (by simpa using hj), getElem!_pos d' i (by simpa using hi)] at this
      simpa using this
    · have hHK : HoldsK enc K w' g 0 d' := by
        rw [hw]
        unfold sortWorldK
        exact holdsK_grow _ _ _ _ _ _ _ (by rw [size_putRowK]; exact hlt) (holdsK_putRowK _ _ _ _ _ xs.toArray _ (holdsK_ahead _ _ _ _ _ _ _ hH) (by rw [hl', hsz]))
      obtain ⟨cur', hc1, hc2⟩ := sorted_block (enc := enc) (K := K) w g 0 n d' os hh
      rw [← hw] at hc1
      have hfl := flat_len enc K hk d'.toList
      rw [hdl] at hfl
      refine ⟨by rw [hdl]; exact hfl, .inr ⟨g, cap, cur', by rw [hdl], hg, hc1, by rw [hdl]; exact hn, hc, by rw [hc2]; exact hs, ?_⟩⟩
      rw [hdl]
      refine List.ext_getElem? fun j => ?_
      by_cases hj : j < xs.length * K
      · rw [List.getElem?_take, if_pos hj]
        have hi : j / K < d'.size := by rw [hl', Nat.div_lt_iff_lt_mul h0]; exact hj
        have hcell := (hHK.cell hi (Nat.mod_lt j h0)).1
        rw [Nat.zero_add, Nat.div_add_mod' j K] at hcell
        have e0 : w'.cell? ⟨g, j, none⟩ = cur'.toList[j]? := by
          simp only [World.cell?, hc1]
          simp
        rw [← e0, hcell]
        have e1 : d'.toList[j / K]? = some d'[j / K]! := by rw [getElem!_pos d' _ hi]; simp [hi]
        have hm : j % K < (enc d'[j / K]!).length := by rw [hk]; exact Nat.mod_lt _ h0
        have e3 := flat_get enc K hk d'.toList _ _ _ _ e1 (List.getElem?_eq_getElem hm)
        rw [Nat.div_add_mod' j K] at e3
        rw [e3, getElem!_pos (enc d'[j / K]!) (j % K) hm]
      · rw [List.getElem?_take, if_neg hj, List.getElem?_eq_none (by rw [hfl]; omega)]
    · rw [hw]
      exact kp_sortWorldK _ _ _ _ _ _
end
instance : Inhabited Ent := ⟨Ent.zero⟩
end Go.Proofs.Ytpobdcdabojhcaa
