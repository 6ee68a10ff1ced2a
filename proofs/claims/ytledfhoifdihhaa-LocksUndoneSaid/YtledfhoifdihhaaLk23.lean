/- Arguments of the laws on tables, as their reading says: lists of Held, of Steps. -/
import Derived.Test.YtledfhoifdihhaaRead
import Derived.Test.YtledfhoifdihhaaLk20
namespace Go.Proofs.Ytledfhoifdihhaa
open Go.RowKit Go.ChangeShapes Go.WideShapes Go.Deep
set_option linter.unusedVariables false
set_option linter.unusedSimpArgs false

theorem list_of {α : Type} {p : Nat → α → Prop} : ∀ n : Nat, (∀ i, i < n → ∃ x, p i x) → ∃ xs : List α, xs.length = n ∧ ∀ (k : Nat) x, xs[k]? = some x → p k x
  | 0, _ => ⟨[], rfl, fun k x h => by simp at h⟩
  | n + 1, h => by
    obtain ⟨xs, hl, hx⟩ := list_of n fun i hi => h i (by omega)
    obtain ⟨x, hp⟩ := h n (by omega)
    refine ⟨xs ++ [x], by simp [hl], fun k y hk => ?_⟩
    rw [List.getElem?_append] at hk
    split at hk
    · exact hx k y hk
    · rename_i hkn
      rw [List.getElem?_singleton] at hk
      split at hk
      · cases hk
        obtain rfl : k = n := by omega
        exact hp
      · cases hk
theorem spot_none {w : World} {a : Addr} {v : Value} (h : w.cell? a = some v) : a = ⟨a.block, a.off, none⟩ := by
  obtain ⟨b, o, s⟩ := a
  cases s with
  | none => rfl
  | some s =>
    simp only [World.cell?] at h
    split at h
    · simp at h
    · cases h
theorem add_none (b o n : Nat) : Addr.add ⟨b, o, none⟩ n = ⟨b, o + n, none⟩ := by
  unfold Addr.add
  split
  · rename_i h0; subst h0; rfl
  · rfl
/-- the cells from an address on, one by one -/
theorem okCs_cells {w : World} : ∀ {ts : List Ty} {a : Addr}, ts ≠ [] → okCs w ts a → a = ⟨a.block, a.off, none⟩ ∧ ∃ cs, okL w ts cs ∧ CellsAt w a.block a.off cs
  | [], _, hn, _ => absurd rfl hn
  | [t], a, _, ⟨⟨u, hc, hu⟩, _⟩ => by
    have ha := spot_none hc
    refine ⟨ha, [u], ⟨u, [], rfl, hu, rfl⟩, fun j v hj => ?_⟩
    match j, hj with
    | 0, hj => cases hj; rw [ha] at hc; exact hc
    | j + 1, hj => simp at hj
  | t :: t' :: ts, a, _, ⟨⟨u, hc, hu⟩, hr⟩ => by
    have ha := spot_none hc
    obtain ⟨_, cs, hl, hcs⟩ := okCs_cells (ts := t' :: ts) (by simp) hr
    refine ⟨ha, u :: cs, ⟨u, cs, rfl, hu, hl⟩, fun j v hj => ?_⟩
    match j, hj with
    | 0, hj => cases hj; rw [ha] at hc; exact hc
    | j + 1, hj =>
      have := hcs j v (by simpa using hj)
      rw [ha, add_none] at this
      simp only at this
      rwa [show a.off + (j + 1) = a.off + 1 + j by omega]
theorem sl_of {α : Type} {w : World} {es : List Ty} {by_ n : Nat} {f : α → List Value} {Q : α → Prop} {v : Value} (hne : es ≠ []) (hlen : es.length = n) (hby : 8 * n + 16 ≤ by_) (h32 : 32 ≤ by_) (hel : ∀ cs, okL w es cs → ∃ x, cs = f x ∧ Q x) (h : okC w (.sl es by_) v) :
    ∃ xs, SlOf w n f v xs ∧ xs.length * by_ ≤ 140737488351232 ∧ ∀ x ∈ xs, Q x := by
  obtain ⟨A, len, cap, rfl, h1, h2, h3, h4, h5⟩ := h
  obtain ⟨xs, hl, hx⟩ := list_of (p := fun i x => Q x ∧ ∃ b o, A = some ⟨b, o, none⟩ ∧ CellsAt w b (o + i * n) (f x)) len fun i hi => by
    cases A with
    | none => have := h4 rfl; omega
    | some a =>
      obtain ⟨ha0, _⟩ := okCs_cells hne (h5 a rfl 0 (by omega))
      have ha1 : a = ⟨a.block, a.off, none⟩ := by
        have h0 : a.add 0 = a := by simp [Addr.add]
        rw [Nat.zero_mul, h0] at ha0
        exact ha0
      obtain ⟨_, cs, hl, hcs⟩ := okCs_cells hne (h5 a rfl i hi)
      obtain ⟨x, rfl, hQ⟩ := hel cs hl
      rw [ha1, add_none, hlen] at hcs
      exact ⟨x, hQ, _, _, by rw [ha1], hcs⟩
  subst hl
  have hlb : xs.length * by_ ≤ 140737488351232 := Nat.le_trans (Nat.mul_le_mul_right by_ h1) h3
  have hl32 : xs.length * 32 ≤ 140737488351232 := Nat.le_trans (Nat.mul_le_mul_left _ h32) hlb
  have hln : xs.length * (8 * n + 16) ≤ 140737488351232 := Nat.le_trans (Nat.mul_le_mul_left _ hby) hlb
  refine ⟨xs, ⟨A, cap, rfl, h1, ⟨by omega, by omega⟩, fun k x hk => (hx k x hk).2⟩, hlb, fun x hxs => ?_⟩
  obtain ⟨i, hi, rfl⟩ := List.mem_iff_getElem.1 hxs
  exact (hx i _ (List.getElem?_eq_getElem hi)).1
/-- a size that memory holds -/
def sized (b : ByteArray) : Prop := b.size ≤ 140737488351232

abbrev spTy : List Ty := [.str, .str]
abbrev wrTy : List Ty := [.str, .bool, .str]
abbrev hdTy : List Ty := [.int .u32, .int .u32, .int .u32, .int .u64, .int .u32, .int .u32, .sl spTy 32, .sl wrTy 40]
theorem reads_of {w : World} {v : Value} (h : okC w (.sl spTy 32) v) : ∃ xs, SlOf w 2 spC v xs := by
  obtain ⟨xs, h, _⟩ := sl_of (f := spC) (n := 2) (Q := fun _ => True) (by simp) rfl (by omega) (by omega) (fun cs h => by
    obtain ⟨_, _, rfl, ⟨s, rfl, _⟩, _, _, rfl, ⟨s', rfl, _⟩, rfl⟩ := h
    exact ⟨⟨s, s'⟩, rfl, trivial⟩) h
  exact ⟨xs, h⟩
theorem writes_of {w : World} {v : Value} (h : okC w (.sl wrTy 40) v) : ∃ xs, SlOf w 3 wrC v xs ∧ ∀ x ∈ xs, sized x.key := by
  obtain ⟨xs, h, _, hz⟩ := sl_of (f := wrC) (n := 3) (Q := fun x => sized x.key) (by simp) rfl (by omega) (by omega) (fun cs h => by
    obtain ⟨_, _, rfl, ⟨s, rfl, hz⟩, _, _, rfl, ⟨d, rfl⟩, _, _, rfl, ⟨s', rfl, _⟩, rfl⟩ := h
    exact ⟨⟨s, d, s'⟩, rfl, hz⟩) h
  exact ⟨xs, h, hz⟩
/-- the cells of a Held -/
theorem held_cells {w : World} {cs : List Value} (h : okL w hdTy cs) : ∃ (x : Hd) (r u : Value), cs = (hdC x r u).toList ∧ SlOf w 2 spC r x.reads ∧ SlOf w 3 wrC u x.writes ∧ ∀ y ∈ x.writes, sized y.key := by
  obtain ⟨_, _, rfl, ⟨n0, rfl, _⟩, _, _, rfl, ⟨n1, rfl, _⟩, _, _, rfl, ⟨n2, rfl, _⟩, _, _, rfl, ⟨n3, rfl, _⟩, _, _, rfl, ⟨n4, rfl, _⟩, _, _, rfl, ⟨n5, rfl, _⟩, r, _, rfl, hr, u, _, rfl, hu, rfl⟩ := h
  obtain ⟨xs, hx⟩ := reads_of hr
  obtain ⟨ys, hy, hz⟩ := writes_of hu
  exact ⟨⟨⟨n0, n1⟩, n2, ⟨n3, n4, n5⟩, xs, ys⟩, r, u, rfl, hx, hy, hz⟩

/-! ### Steps -/
structure Step where
  kind : Int
  on : Int
  held : Hd
  span : Sp
abbrev stC (s : Step) (r u : Value) : Array Value := #[.int .i64 s.kind, .int .i64 s.on, .int .u32 s.held.txn.c, .int .u32 s.held.txn.s, .int .u32 s.held.home, .int .u64 s.held.at_.w, .int .u32 s.held.at_.l, .int .u32 s.held.at_.n, r, u, .string s.span.lo, .string s.span.hi]
abbrev stTy : List Ty := [.int .i64, .int .i64, .int .u32, .int .u32, .int .u32, .int .u64, .int .u32, .int .u32, .sl spTy 32, .sl wrTy 40, .str, .str]
theorem step_cells {w : World} {cs : List Value} (h : okL w stTy cs) : ∃ z : Step × Value × Value, cs = (stC z.1 z.2.1 z.2.2).toList ∧ SlOf w 2 spC z.2.1 z.1.held.reads ∧ SlOf w 3 wrC z.2.2 z.1.held.writes := by
  obtain ⟨_, _, rfl, ⟨k0, rfl, _⟩, _, _, rfl, ⟨k1, rfl, _⟩, _, _, rfl, ⟨n0, rfl, _⟩, _, _, rfl, ⟨n1, rfl, _⟩, _, _, rfl, ⟨n2, rfl, _⟩, _, _, rfl, ⟨n3, rfl, _⟩, _, _, rfl, ⟨n4, rfl, _⟩, _, _, rfl, ⟨n5, rfl, _⟩, r, _, rfl, hr, u, _, rfl, hu, _, _, rfl, ⟨lo, rfl, _⟩, _, _, rfl, ⟨hi, rfl, _⟩, rfl⟩ := h
  obtain ⟨xs, hx⟩ := reads_of hr
  obtain ⟨ys, hy, _⟩ := writes_of hu
  exact ⟨⟨⟨k0, k1, ⟨⟨n0, n1⟩, n2, ⟨n3, n4, n5⟩, xs, ys⟩, ⟨lo, hi⟩⟩, r, u⟩, rfl, hx, hy⟩
/-- a script -/
def StepsAt (w : World) (v : Value) (ss : List Step) : Prop :=
  ∃ A cap, v = .slice A ss.length cap ∧ ss.length ≤ cap ∧ ss.length * 128 ≤ 140737488351232 ∧
    ∀ (i : Nat) s, ss[i]? = some s → ∃ b o r u, A = some ⟨b, o, none⟩ ∧ CellsAt w b (o + i * 12) (stC s r u).toList ∧ SlOf w 2 spC r s.held.reads ∧ SlOf w 3 wrC u s.held.writes
theorem StepsAt.below {w w' : World} {v : Value} {ss : List Step} (h : StepsAt w v ss) (hb : Below w.heap.size w w') : StepsAt w' v ss := by
  obtain ⟨A, cap, h1, h2, h3, h4⟩ := h
  refine ⟨A, cap, h1, h2, h3, fun i s hi => ?_⟩
  obtain ⟨b, o, r, u, e, hc, hr, hu⟩ := h4 i s hi
  exact ⟨b, o, r, u, e, hc.below hb, hr.below hb, hu.below hb⟩
theorem steps_of {w : World} {v : Value} (h : okC w (.sl stTy 128) v) : ∃ ss, StepsAt w v ss := by
  obtain ⟨A, len, cap, rfl, h1, h2, h3, h4, h5⟩ := h
  obtain ⟨xs, hl, hx⟩ := list_of (p := fun i s => ∃ b o r u, A = some ⟨b, o, none⟩ ∧ CellsAt w b (o + i * 12) (stC s r u).toList ∧ SlOf w 2 spC r s.held.reads ∧ SlOf w 3 wrC u s.held.writes) len fun i hi => by
    cases A with
    | none => have := h4 rfl; omega
    | some a =>
      have hne : stTy ≠ [] := by simp
      obtain ⟨ha0, _⟩ := okCs_cells hne (h5 a rfl 0 (by omega))
      have ha1 : a = ⟨a.block, a.off, none⟩ := by
        have h0 : a.add 0 = a := by simp [Addr.add]
        rw [Nat.zero_mul, h0] at ha0
        exact ha0
      obtain ⟨_, cs, hl, hcs⟩ := okCs_cells hne (h5 a rfl i hi)
      obtain ⟨z, rfl, hr, hu⟩ := step_cells hl
      rw [ha1, add_none] at hcs
      exact ⟨z.1, _, _, z.2.1, z.2.2, by rw [ha1], hcs, hr, hu⟩
  subst hl
  exact ⟨xs, A, cap, rfl, h1, by omega, hx⟩
theorem cells_one {v u : Value} {P : Program} {w : World} {base : Nat} {t e : TypeId} (ht : P.underlying t = some (.slice e)) (hv : Value.okWide P w .any base t v) (h : v.cells.toList = [u]) : v = u := by
  simp only [Value.okWide, ht, Cell.okWide] at hv
  cases v <;> simp_all [Value.cells, Cell.ok]
theorem flat32 : flat Try.prog 6 32 = some [.sl stTy 128] := by kernel_rfl
end Go.Proofs.Ytledfhoifdihhaa
