/- What an argument's reading says of memory: a type flattened to its cells; strings, numbers, bools, slices. -/
import Derived.Test.YtpobdcdabojhcaaBase
import Derived.Deep.Slices
import Derived.Deep.Fields
import Derived.ChangeSame
import Derived.ProofKit
import Derived.SizedLaws
namespace Go.Proofs.Ytpobdcdabojhcaa
open Go.RowKit Go.ChangeShapes Go.WideShapes Go.Deep
set_option linter.unusedVariables false
set_option linter.unusedSimpArgs false

inductive Ty where
  | str | bool
  | int (k : IntKind)
  | sl (es : List Ty) (bytes : Nat)

mutual
/-- a cell's value, as it is read in w -/
def okC (w : World) : Ty → Value → Prop
  | .str, v => ∃ s : ByteArray, v = .string s ∧ s.size ≤ 140737488351232
  | .int k, v => ∃ n, v = .int k n ∧ (Lit.int k n).wf = true
  | .bool, v => ∃ b, v = .bool b
  | .sl es by_, v => ∃ A len cap, v = .slice A len cap ∧ len ≤ cap ∧ cap ≤ maxLen ∧ cap * by_ ≤ 140737488351232 ∧ (A = none → len = 0) ∧ ∀ a, A = some a → ∀ i, i < len → okCs w es (a.add (i * es.length))
/-- the cells from an address on -/
def okCs (w : World) : List Ty → Addr → Prop
  | [], _ => True
  | t :: ts, a => (∃ u, w.cell? a = some u ∧ okC w t u) ∧ okCs w ts (a.add 1)
end
/-- the cells of a value -/
def okL (w : World) : List Ty → List Value → Prop
  | [], cs => cs = []
  | t :: ts, cs => ∃ u r, cs = u :: r ∧ okC w t u ∧ okL w ts r

theorem okL_append {w : World} : ∀ {ts us : List Ty} {cs ds : List Value}, okL w ts cs → okL w us ds → okL w (ts ++ us) (cs ++ ds)
  | [], us, cs, ds, h, k => by have : cs = [] := h; subst this; exact k
  | t :: ts, us, cs, ds, ⟨u, r, e, h1, h2⟩, k => by subst e; exact ⟨u, r ++ ds, rfl, h1, okL_append h2 k⟩
theorem okL_length {w : World} : ∀ {ts : List Ty} {cs : List Value}, okL w ts cs → cs.length = ts.length
  | [], cs, h => by have : cs = [] := h; subst this; rfl
  | t :: ts, cs, ⟨u, r, e, h1, h2⟩ => by subst e; simp [okL_length h2]
theorem okCs_of {w : World} : ∀ {ts : List Ty} {cs : List Value} {a : Addr}, okL w ts cs → (∀ (j : Nat) u, cs[j]? = some u → w.cell? (a.add j) = some u) → okCs w ts a
  | [], cs, a, h, k => trivial
  | t :: ts, cs, a, ⟨u, r, e, h1, h2⟩, k => by
    subst e
    refine ⟨⟨u, by have := k 0 u rfl; simpa [Addr.add] using this, h1⟩, okCs_of h2 fun j u' hj => ?_⟩
    have := k (j + 1) u' (by simpa using hj)
    rwa [add_add, Nat.add_comm 1 j]

/-- a type's cells -/
def flat (P : Program) : Nat → TypeId → Option (List Ty)
  | 0, _ => none
  | n + 1, t =>
    match P.underlying t with
    | some .bool => some [.bool]
    | some (.int k) => some [.int k]
    | some .string => some [.str]
    | some (.slice e) => (flat P n e).bind fun es => if P.cellsOf e = es.length then some [.sl es (P.bytesOf e)] else none
    | some (.struct fs) => (flatF fs.toList 0 (fun t => flat P n t)).bind fun es => if P.cellsOf t = es.length then some es else none
    | _ => none
where
  flatF (fs : List Field) (o : Nat) (g : TypeId → Option (List Ty)) : Option (List Ty) :=
    match fs with
    | [] => some []
    | f :: r => if f.offset = o then (g f.type).bind fun a => if P.cellsOf f.type = a.length then (flatF r (o + a.length) g).map (a ++ ·) else none else none

section
variable {H : Type} {enc : TypeId × Value → H} {P : Program} {w : World}

theorem weights_each {ts : List TypeId} {ds : List (DataW H)} (h : (DataW.weightsEach P ts ds).all (· ≤ reachBytes) = true) : ∀ (i : Nat) t d, ts[i]? = some t → ds[i]? = some d → (DataW.weights P t d).all (· ≤ reachBytes) = true := by
  induction ts generalizing ds with
  | nil => intro i t d ht; simp at ht
  | cons t ts ih =>
    cases ds with
    | nil => intro i t d _ hd; simp at hd
    | cons d ds =>
      simp only [DataW.weightsEach, List.all_append, Bool.and_eq_true] at h
      intro i t' d' ht hd
      cases i with
      | zero => simp at ht hd; subst ht; subst hd; exact h.1
      | succ i => exact ih h.2 i t' d' (by simpa using ht) (by simpa using hd)
theorem weights_all {e : TypeId} {ds : List (DataW H)} (h : (DataW.weightsAll P e ds).all (· ≤ reachBytes) = true) : ∀ d ∈ ds, (DataW.weights P e d).all (· ≤ reachBytes) = true := by
  induction ds with
  | nil => intro d hd; cases hd
  | cons d ds ih =>
    simp only [DataW.weightsAll, List.all_append, Bool.and_eq_true] at h
    intro d' hd
    rcases List.mem_cons.1 hd with rfl | hd
    · exact h.1
    · exact ih h.2 d' hd

theorem flatF_ok {m : Nat} {cs : List Value} {spare : Nat → Bool} {held : Bool} {g : TypeId → Option (List Ty)} (hg : ∀ t es cs' (d : DataW H) p, g t = some es → DataW.trod enc P w 0 spare held m t cs' = some (d, p) → (DataW.weights P t d).all (· ≤ reachBytes) = true → okL w es cs') :
    ∀ (fs : List Field) (o : Nat) (es : List Ty) (xs : List (DataW H × List MemPlace)), flat.flatF P fs o g = some es → xs.length = fs.length →
      (∀ (i : Nat) (f : Field), fs[i]? = some f → DataW.trod enc P w 0 spare held m f.type ((cs.drop f.offset).take (P.cellsOf f.type)) = xs[i]?) →
      (∀ (i : Nat) (f : Field) x, fs[i]? = some f → xs[i]? = some x → (DataW.weights P f.type x.1).all (· ≤ reachBytes) = true) →
      okL w es ((cs.drop o).take es.length) := by
  intro fs
  induction fs with
  | nil => intro o es xs h _ _ _; simp [flat.flatF] at h; subst h; simp [okL]
  | cons f r ih =>
    intro o es xs h hl hf hw
    rw [flat.flatF] at h
    split at h
    · rename_i ho
      obtain ⟨a, ha, h⟩ := Option.bind_eq_some_iff.1 h
      split at h
      · rename_i hc
        obtain ⟨b, hb, rfl⟩ := Option.map_eq_some_iff.1 h
        match xs, hl with
        | x :: xs, hl =>
          have h0 := hf 0 f rfl
          have w0 := hw 0 f x rfl rfl
          have k0 := hg f.type a _ x.1 x.2 ha h0 w0
          have k1 := ih (o + a.length) b xs hb (by simpa using hl) (fun i f' hi => by have := hf (i + 1) f' (by simpa using hi); simpa using this) (fun i f' x' hi hx => hw (i + 1) f' x' (by simpa using hi) (by simpa using hx))
          rw [ho, hc] at k0
          have := okL_append k0 k1
          rw [List.length_append]
          rwa [← List.drop_drop, ← List.take_add] at this
      · cases h
    · cases h

theorem trod_ok : ∀ (n m : Nat) (t : TypeId) (es : List Ty) (cs : List Value) (d : DataW H) (p : List MemPlace), flat P n t = some es →
    DataW.trod enc P w 0 (fun _ => true) true m t cs = some (d, p) → (DataW.weights P t d).all (· ≤ reachBytes) = true → okL w es cs := by
  intro n
  induction n with
  | zero => intro m t es cs d p h; simp [flat] at h
  | succ n ih =>
    intro m t es cs d p h ht hw
    rw [flat] at h
    split at h
    · rename_i hu
      obtain ⟨b, rfl, _⟩ := DataW.trod_bool hu ht
      cases h
      exact ⟨_, _, rfl, ⟨b, rfl⟩, rfl⟩
    · rename_i k hu
      obtain ⟨b, rfl, _, hwf⟩ := DataW.trod_int hu ht
      cases h
      exact ⟨_, _, rfl, ⟨b, rfl, hwf⟩, rfl⟩
    · rename_i hu
      obtain ⟨s, rfl, hx, hs⟩ := DataW.trod_string hu ht
      cases h
      simp only [Prod.mk.injEq] at hx
      obtain ⟨rfl, _⟩ := hx
      simp only [DataW.weights, List.all_cons, List.all_nil, Bool.and_true, decide_eq_true_eq] at hw
      unfold reachBytes at hw
      exact ⟨_, _, rfl, ⟨s, rfl, by simpa using hw⟩, rfl⟩
    · rename_i e hu
      obtain ⟨es', he, h⟩ := Option.bind_eq_some_iff.1 h
      split at h
      · rename_i hc
        cases h
        rcases open_slice hu ht with ⟨rfl, hx⟩ | ⟨a, len, cap, m', n', D, Pl, rfl, _, hl, hm, hmm, hx, hi⟩
        · exact ⟨_, _, rfl, ⟨none, 0, 0, rfl, Nat.le_refl _, Nat.zero_le _, by simp, fun _ => rfl, fun a ha => by cases ha⟩, rfl⟩
        · simp only [Prod.mk.injEq] at hx
          obtain ⟨rfl, _⟩ := hx
          simp only [if_true] at hmm
          subst hmm
          simp only [DataW.weights, hu, List.all_cons, List.all_append, Bool.and_eq_true, decide_eq_true_eq, List.length_map, List.length_range] at hw
          obtain ⟨hb, hw1, _⟩ := hw
          unfold reachBytes at hb
          refine ⟨_, _, rfl, ⟨some a, len, m', rfl, hl, hm, by rw [show len + (m' - len) = m' by omega] at hb; exact hb, (fun hA => by cases hA), fun a' ha i hil => ?_⟩, rfl⟩
          cases ha
          obtain ⟨cs', hcs, hr⟩ := hi i (by omega)
          rw [hc] at hcs
          obtain ⟨_, hcl, hat⟩ := World.cells?_some hcs
          have hk := ih n' e es' cs' (D i) (Pl i) he hr (weights_all hw1 _ (List.mem_map.2 ⟨i, List.mem_range.2 hil, rfl⟩))
          refine okCs_of hk fun j u hj => ?_
          have hjl : j < es'.length := by
            have := (List.getElem?_eq_some_iff.1 hj).1
            omega
          rw [add_add, ← add_add, hat j hjl, hj]
      · cases h
    · rename_i fs hu
      obtain ⟨xs, m', _, hx, hcl, hxl, hf⟩ := DataW.trod_struct hu ht
      simp only [Prod.mk.injEq] at hx
      obtain ⟨rfl, _⟩ := hx
      simp only [DataW.weights, hu] at hw
      obtain ⟨es1, h, hes⟩ := Option.bind_eq_some_iff.1 h
      split at hes
      case isFalse => cases hes
      rename_i hct
      cases hes
      have hlen : (cs.drop 0).take es.length = cs := by rw [List.drop_zero, ← hct, ← hcl, List.take_length]
      have := flatF_ok (cs := cs) (m := m') (g := fun t => flat P n t) (fun t es cs' d p hg => ih m' t es cs' d p hg) fs.toList 0 es xs h (by simpa using hxl) (fun i f hi => hf i f (by simpa using hi)) (fun i f x hi hxi => weights_each hw i f.type x.1 (by simp [hi]) (by simp [hxi]))
      rwa [hlen] at this
    · cases h

/-- an argument, as its reading says -/
theorem arg_ok {n : Nat} {t : TypeId} {es : List Ty} {v : Value} {d : DataW H} {p : List MemPlace} (hf : flat P n t = some es) (h : DataW.Trod enc P w 0 (fun _ => true) true t v d p)
    (hw : (DataW.weightsEach P ([t] ++ []) ([d] ++ [])).all (· ≤ reachBytes) = true) : okL w es v.cells.toList := by
  obtain ⟨m, hm⟩ := h
  exact trod_ok n m t es _ d p hf hm (weights_each hw 0 t d rfl rfl)
end
end Go.Proofs.Ytpobdcdabojhcaa
