/- Lists of Held in memory; slices.SortFunc over them. -/
import Derived.Test.YtledfhoifdihhaaLk12
namespace Go.Proofs.Ytledfhoifdihhaa
open Go.RowKit Go.Shelf Go.Sort
set_option linter.unusedVariables false
set_option linter.unusedSimpArgs false

theorem SlOf.kpo {α : Type} {w w' : World} {n : Nat} {f : α → List Value} {v : Value} {xs : List α} {S : List Nat} (h : SlOf w n f v xs) (hb : Kp S w w') (hs : xs ≠ [] → ∀ b, v.ownBlock = some b → b ∉ S) : SlOf w' n f v xs := by
  obtain ⟨A, cap, rfl, h2, h3, h4⟩ := h
  refine ⟨A, cap, rfl, h2, h3, fun k x hk => ?_⟩
  obtain ⟨b, o, rfl, hc⟩ := h4 k x hk
  exact ⟨b, o, rfl, hc.kp hb (hs (by rintro rfl; simp at hk) b rfl)⟩
theorem SlOf.blk {α : Type} {w : World} {n : Nat} {f : α → List Value} {v : Value} {xs : List α} (hn : ∀ x, f x ≠ []) (h : SlOf w n f v xs) (hx : xs ≠ []) : ∀ b, v.ownBlock = some b → b < w.heap.size := by
  obtain ⟨A, cap, rfl, h2, h3, h4⟩ := h
  intro b hb
  cases xs with
  | nil => exact absurd rfl hx
  | cons x r =>
    obtain ⟨b', o, rfl, hc⟩ := h4 0 x rfl
    cases hb
    cases hf : f x with
    | nil => exact absurd hf (hn x)
    | cons v vs =>
      have := hc 0 v (by rw [hf]; rfl)
      have h9 := World.block_lt_of_cell? _ _ this
      exact h9

/-- a list of Held: rows of eight cells, each with its lists -/
def HdsAt (w : World) (v : Value) (xs : List Hd) : Prop :=
  ∃ raws : List RawH, SlOf w 8 rawC v raws ∧ raws.length = xs.length ∧ ∀ (i : Nat) q h, raws[i]? = some q → xs[i]? = some h → HdV w (.agg (rawC q).toArray) h
theorem HdsAt.below {w w' : World} {v : Value} {xs : List Hd} (h : HdsAt w v xs) (hb : Below w.heap.size w w') : HdsAt w' v xs := by
  obtain ⟨raws, h1, h2, h3⟩ := h
  exact ⟨raws, h1.below hb, h2, fun i q x hq hx => (h3 i q x hq hx).below hb⟩
theorem HdsAt.len {w : World} {v : Value} {xs : List Hd} (h : HdsAt w v xs) : ∃ A cap, v = .slice A xs.length cap ∧ xs.length ≤ 4398046511104 ∧ xs.length * 80 ≤ 140737488355328 := by
  obtain ⟨raws, ⟨A, cap, rfl, h2, ⟨h3, h4⟩, _⟩, hl, _⟩ := h
  exact ⟨A, cap, by rw [hl], by omega, by omega⟩
theorem HdsAt.at {w : World} {v : Value} {xs : List Hd} (h : HdsAt w v xs) {i : Nat} {x : Hd} (hi : xs[i]? = some x) :
    ∃ b o cap Ar cr Aw cw, v = .slice (some ⟨b, o, none⟩) xs.length cap ∧ CellsAt w b (o + i * 8) (hdC x (.slice Ar x.reads.length cr) (.slice Aw x.writes.length cw)).toList ∧ SlOf w 2 spC (.slice Ar x.reads.length cr) x.reads ∧ SlOf w 3 wrC (.slice Aw x.writes.length cw) x.writes := by
  obtain ⟨raws, ⟨A, cap, rfl, h2, ⟨h3, h4⟩, hR⟩, hl, hv⟩ := h
  have hil : i < raws.length := by rw [hl]; exact (List.getElem?_eq_some_iff.1 hi).1
  have hq := List.getElem?_eq_getElem hil
  generalize raws[i] = q at hq
  obtain ⟨b, o, rfl, hc⟩ := hR i q hq
  obtain ⟨r, u, he, hr, hu⟩ := hv i q x hq hi
  have he' : rawC q = (hdC x r u).toList := by simpa using congrArg (fun v => match v with | .agg a => a.toList | _ => []) he
  rw [he'] at hc
  have hr' := hr
  have hu' := hu
  obtain ⟨Ar, cr, rfl, _, _, _⟩ := hr
  obtain ⟨Au, cu, rfl, _, _, _⟩ := hu
  exact ⟨b, o, cap, Ar, cr, Au, cu, by rw [hl], hc, hr', hu'⟩

theorem Kp.of_grown {w w' : World} {row : Option Nat} (h : w.grownBy w' row) : Kp row.toList w w' :=
  ⟨h.os, h.tape, h.output, h.size, fun k hk hs => h.block k hk (by rintro rfl; simp at hs)⟩
theorem kp_sortWorldK (w : World) (blk off n : Nat) (d : Array RawH) (os : Array Obj) : Kp [blk] w (sortWorldK rawC 8 w blk off n d os) := by
  unfold sortWorldK
  refine ⟨rfl, rfl, rfl, by simp [size_putRowK], fun k hk hs => ?_⟩
  rw [heap_grow_old _ _ (by rw [size_putRowK]; exact hk)]
  simp only [putRowK, putRow, mapBlock, heap_ahead]
  rw [Array.getElem?_modify]
  have : blk ≠ k := fun e => hs (by simp [e])
  simp [this]

theorem holds_own {w : World} {base cap g : Nat} {raws : List RawH} (h : w.ownsRow base 49 8 (.slice (some ⟨g, 0, none⟩) raws.length cap) raws.length (raws.flatMap rawC)) : HoldsK rawC 8 w g 0 raws.toArray := by
  intro j hj
  rw [size_flatK] at hj
  have hj' : j < raws.length * 8 := by simpa using hj
  refine ⟨?_, h.frozenAt _⟩
  rw [Nat.zero_add, h.cellAt j hj']
  have hk : j / 8 < raws.length := by omega
  have e1 := List.getElem?_eq_getElem hk
  have hl : (rawC raws[j / 8]).length = 8 := rfl
  have hm : j % 8 < (rawC raws[j / 8]).length := by rw [hl]; omega
  have e2 := List.getElem?_eq_getElem hm
  have e3 := flat_get rawC 8 (fun _ => rfl) raws _ _ _ _ e1 e2
  rw [show j / 8 * 8 + j % 8 = j by omega] at e3
  rw [e3, get_flatK _ _ _ _ hj]
  simp only [id]
  rw [getElem!_pos raws.toArray (j / 8) (by simpa using hk)]
  rw [getElem!_pos _ (j % 8) (by simpa using hm)]
  simp

/-- behind the sort -/
def Sorted33 (w w' : World) (v : Value) (raws raws' : List RawH) : Prop :=
  raws'.Perm raws ∧ raws'.Pairwise (fun a b => ltOf rawLt b a = false) ∧ SlOf w' 8 rawC v raws' ∧ Kp v.ownBlock.toList w w'
theorem sort33_rows (base : Nat) (v : Value) (raws : List RawH) (w : World) (hown : w.ownsRow base 49 8 v raws.length (raws.flatMap rawC)) (hl1 : raws.length ≤ 4398046511104) (hl2 : raws.length * 80 ≤ 140737488355328) :
    Calls Try.prog 33 #[v, .func (.func 34) #[] #[]] w fun e w' => e = .returned (.tuple #[]) ∧ ∃ raws', Sorted33 w w' v raws raws' := by
  have hown0 := hown
  obtain ⟨_, ⟨rfl, h0⟩ | ⟨g, cap, cur, rfl, hg, hh, hn, hc, hs, ht⟩⟩ := hown
  · obtain rfl : raws = [] := List.eq_nil_of_length_eq_zero h0
    exact (AnyF.slices_SortFunc_none (P := Try.prog) (ρ := Ytledfhoifdihhaa.sort33_ren) { sort33 with } none 0 _ w).mono fun e w' ⟨he, hw⟩ => ⟨he, [], List.Perm.nil, List.Pairwise.nil, ⟨none, 0, rfl, Nat.le_refl _, ⟨by simp, by simp⟩, Rows.nil _ _ _ _⟩, by rw [hw]; exact Kp.refl _ _⟩
  · have hH := holds_own hown0
    have hlt := block_lt hh
    have h := sort33_raw g 0 cap raws.toArray w hH hlt (by simp; omega)
    have hsz : raws.toArray.size = raws.length := by simp
    rw [hsz] at h
    refine h.mono fun e w' ⟨he, d', n, os, hp, hso, hw⟩ => ⟨he, d'.toList, ?_⟩
    obtain ⟨hp1, hp2, hp3⟩ := hp
    have hl' : d'.size = raws.length := by rw [hp1, hsz]
    have hdl : d'.toList.length = raws.length := hl'
    have hperm : d'.toList.Perm raws := by
      have e1 : d'.extract 0 raws.length = d' := by rw [← hl']; simp
      have e2 : raws.toArray.extract 0 raws.length = raws.toArray := by rw [← hsz]; simp
      rw [e1, e2] at hp3
      simpa using hp3
    refine ⟨hperm, ?_, ?_, ?_⟩
    · rw [List.pairwise_iff_getElem]
      intro i j hi hj hij
      have := hso i j (Nat.zero_le _) hij (by simpa [hl'] using hj)
      rw [getElem!_pos d' j (by simpa using hj), getElem!_pos d' i (by simpa using hi)] at this
      simpa using this
    · have hHK : HoldsK rawC 8 w' g 0 d' := by
        rw [hw]
        unfold sortWorldK
        exact holdsK_grow _ _ _ _ _ _ _ (by rw [size_putRowK]; exact hlt) (holdsK_putRowK _ _ _ _ _ raws.toArray _ (holdsK_ahead _ _ _ _ _ _ _ hH) (by rw [hl', hsz]))
      refine ⟨some ⟨g, 0, none⟩, cap, by rw [hdl], by rw [hdl]; exact hn, ⟨by rw [hdl]; exact hl1, by rw [hdl]; exact hl2⟩, fun k x hk => ⟨g, 0, rfl, fun j u hj => ?_⟩⟩
      have hkl : k < d'.size := by have := (List.getElem?_eq_some_iff.1 hk).1; simpa using this
      have hj8 : j < 8 := (List.getElem?_eq_some_iff.1 hj).1
      have := (hHK.cell hkl hj8).1
      rw [this]
      have hx : d'[k]! = x := by rw [getElem!_pos d' k hkl]; simpa [hkl] using hk
      rw [hx, getElem!_pos (rawC x) j hj8, ← hj, List.getElem?_eq_getElem hj8]
    · rw [hw]
      exact kp_sortWorldK _ _ _ _ _ _
end Go.Proofs.Ytledfhoifdihhaa
