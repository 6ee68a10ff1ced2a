/- Maps at the level of their blocks: looked up, stored into, deleted from, gone over. -/
import Derived.Test.YtpobdcdabojhcaaBase
import Derived.Maps.Keyed
import Derived.Maps.RangeRun
import Derived.Laws.StructEq
namespace Go.Proofs.Ytpobdcdabojhcaa
open Go.RowKit Go.MapKept
open Go.ChangeMaps (setBlock)
set_option linter.unusedVariables false
set_option linter.unusedSimpArgs false

/-- what a key's type owes -/
structure KeyT (P : Program) (k : TypeId) (ok : Value → Prop) : Prop where
  check : ∀ (w : World) (em : Bool) {v : Value}, ok v → (Instr.checkKey em 10000 k v).run P w = .ok () w
  find : ∀ (w : World) {x : Value}, ok x → ∀ es : List MapEntry, (∀ e ∈ es, ok e.key) →
    ((Instr.findKey k x es).run P w = .ok none w ∧ ∀ e ∈ es, e.key ≠ x) ∨ ∃ j e, (Instr.findKey k x es).run P w = .ok (some (j, e.val)) w ∧ es[j]? = some e ∧ e.key = x
  stays : ∀ (w : World) {v : Value}, ok v → (Instr.keyThatStays v v).run P w = .ok v w

def isStr (v : Value) : Prop := ∃ s, v = .string s
theorem keyT_string {P : Program} {k : TypeId} (hk : P.underlying k = some .string) : KeyT P k isStr where
  check w em v h := by obtain ⟨s, rfl⟩ := h; exact run_checkKey hk (show IsKey .string (.string s) from trivial) em 9999
  find w x h es hes := by
    obtain ⟨s, rfl⟩ := h
    have hks : ∀ y ∈ es, IsKey .string y.key := fun y hy => by obtain ⟨t, ht⟩ := hes y hy; rw [ht]; trivial
    rcases findNow_spec (show IsKey .string (.string s) from trivial) es 0 hks with ⟨h1, h2⟩ | ⟨j, e0, h1, h2, h3⟩
    · exact Or.inl ⟨run_findKey hk h1, h2⟩
    · exact Or.inr ⟨j, e0, by simpa using run_findKey hk h1, h2, h3⟩
  stays w v h := by obtain ⟨s, rfl⟩ := h; exact run_keyThatStays (show IsKey .string (.string s) from trivial)

/-- a key's type whose values are asked for their being equal (a struct) -/
theorem keyT_asked {P : Program} {k : TypeId} {ok : Value → Prop} (hagg : ∀ v, ok v → ∃ cs, v = .agg cs)
    (heq : ∀ (w : World) {x y : Value}, ok x → ok y → ∃ b : Bool, (Op.equal k x y).run P w = .ok b w ∧ (b = true ↔ x = y))
    (hcheck : ∀ (w : World) (em : Bool) {v : Value}, ok v → (Instr.checkKey em 10000 k v).run P w = .ok () w)
    (hstay : ∀ {v : Value}, ok v → Instr.sameBits 10000 v v = true) (hu : ∃ d, P.underlying k = some d) : KeyT P k ok where
  check := hcheck
  find w x h es hes := by
    obtain ⟨d, hd⟩ := hu
    obtain ⟨cs, rfl⟩ := hagg x h
    have hask : ∀ (es : List MapEntry) (i : Nat), (∀ e ∈ es, ok e.key) → ((Instr.findAsking k (.agg cs) es i).run P w = .ok none w ∧ ∀ e ∈ es, e.key ≠ .agg cs) ∨
        ∃ j e, (Instr.findAsking k (.agg cs) es i).run P w = .ok (some (i + j, e.val)) w ∧ es[j]? = some e ∧ e.key = .agg cs := by
      intro es
      induction es with
      | nil => intro i _; left; exact ⟨rfl, fun e he => by cases he⟩
      | cons e es ih =>
        intro i hes
        obtain ⟨b, hb, hbi⟩ := heq w h (hes e (by simp))
        cases b with
        | true =>
          right
          exact ⟨0, e, by simp [Instr.findAsking, hb, Result.andThen], rfl, (hbi.1 rfl).symm⟩
        | false =>
          have hne : e.key ≠ .agg cs := fun e' => by have := hbi.2 e'.symm; cases this
          rcases ih (i + 1) (fun e' he' => hes e' (by simp [he'])) with ⟨h1, h2⟩ | ⟨j, e', h1, h2, h3⟩
          · left
            refine ⟨by simp [Instr.findAsking, hb, Result.andThen, h1], fun e' he' => ?_⟩
            rcases List.mem_cons.1 he' with rfl | he'
            · exact hne
            · exact h2 e' he'
          · right
            exact ⟨j + 1, e', by simp [Instr.findAsking, hb, Result.andThen, h1]; omega, by simpa using h2, h3⟩
    have hnow : es = [] ∨ Instr.findNow d (.agg cs) es 0 = none := by
      cases es with
      | nil => exact .inl rfl
      | cons e es =>
        right
        obtain ⟨cs', hcs'⟩ := hagg e.key (hes e (by simp))
        simp only [Instr.findNow, hcs']
        cases d <;> simp [Instr.sameNow]
    rcases hnow with rfl | hnow
    · left
      exact ⟨by simp [Instr.findKey, run_underlying hd, Result.andThen, Instr.findNow], fun e he => by cases he⟩
    · have hrun : (Instr.findKey k (.agg cs) es).run P w = (Instr.findAsking k (.agg cs) es 0).run P w := by
        simp [Instr.findKey, run_underlying hd, Result.andThen, hnow]
      rw [hrun]
      rcases hask es 0 hes with h1 | ⟨j, e, h1, h2, h3⟩
      · exact .inl h1
      · exact .inr ⟨j, e, by simpa using h1, h2, h3⟩
  stays w v h := by simp [Instr.keyThatStays, hstay h]

/-! ### The world but for some blocks -/
structure Kp (S : List Nat) (w w' : World) : Prop where
  os : w'.os = w.os
  tape : w'.tape = w.tape
  output : w'.output = w.output
  size : w.heap.size ≤ w'.heap.size
  block : ∀ k, k < w.heap.size → k ∉ S → w'.heap[k]? = w.heap[k]?
theorem Kp.refl (S : List Nat) (w : World) : Kp S w w := ⟨rfl, rfl, rfl, Nat.le_refl _, fun _ _ _ => rfl⟩
theorem Kp.trans {S : List Nat} {a b c : World} (h : Kp S a b) (k : Kp S b c) : Kp S a c :=
  ⟨k.os.trans h.os, k.tape.trans h.tape, k.output.trans h.output, Nat.le_trans h.size k.size, fun i hi hs => (k.block i (Nat.lt_of_lt_of_le hi h.size) hs).trans (h.block i hi hs)⟩
theorem Kp.mono {S T : List Nat} {a b : World} (h : Kp S a b) (hs : ∀ x ∈ S, x ∈ T) : Kp T a b := ⟨h.os, h.tape, h.output, h.size, fun i hi ht => h.block i hi fun hx => ht (hs i hx)⟩
theorem Kp.of_below {S : List Nat} {a b : World} (h : Below a.heap.size a b) : Kp S a b := ⟨h.os, h.tape, h.output, h.size, fun i hi _ => h.block i hi⟩
theorem Kp.drew {S : List Nat} {a b : World} (h : Kp S a b) : Kp S a b.drew := ⟨h.os, h.tape, h.output, h.size, h.block⟩
theorem Kp.alloc {S : List Nat} {a b : World} (h : Kp S a b) (o : Obj) : Kp S a (b.alloc o) := h.trans (Kp.of_below ((Below.refl _ _).alloc (Nat.le_refl _) o))
theorem Kp.then_below {S : List Nat} {a b c : World} (h : Kp S a b) (k : Below b.heap.size b c) : Kp S a c := h.trans (Kp.of_below k)
theorem Kp.cell {S : List Nat} {a b : World} {p : Addr} {v : Value} (h : Kp S a b) (hc : a.cell? p = some v) (hs : p.block ∉ S) : b.cell? p = some v :=
  (World.cell?_of_block (w := a) (h.block p.block (World.block_lt_of_cell? _ _ hc) hs)).trans hc
theorem Kp.below {S : List Nat} {a b : World} {B : Nat} (h : Kp S a b) (hB : B ≤ a.heap.size) (hs : ∀ x ∈ S, B ≤ x) : Below B a b :=
  ⟨h.os, h.tape, h.output, h.size, fun k hk => h.block k (by omega) fun hx => by have := hs k hx; omega⟩
/-- only blocks that were not there at first have turned -/
theorem Kp.below_new {S : List Nat} {w a b : World} (h : Kp S a b) (hw : Below w.heap.size w a) (hs : ∀ x ∈ S, w.heap.size ≤ x) : Below w.heap.size w b := hw.trans (h.below hw.size hs)

theorem block_lt {w : World} {b : Nat} {o : Obj} (h : w.heap[b]? = some o) : b < w.heap.size := (Array.getElem?_eq_some_iff.1 h).1

/-! ### A map -/
def MapOf (w : World) (b : Nat) (kv : List (Value × Value)) : Prop :=
  ∃ es clock, w.heap[b]? = some (.map es clock) ∧ Stamped es clock ∧ es.toList.map (fun e => (e.key, e.val)) = kv
theorem MapOf.lt {w : World} {b : Nat} {kv : List (Value × Value)} (h : MapOf w b kv) : b < w.heap.size := by obtain ⟨_, _, h, _⟩ := h; exact block_lt h
theorem MapOf.of_block {w w' : World} {b : Nat} {kv : List (Value × Value)} (h : MapOf w b kv) (hb : w'.heap[b]? = w.heap[b]?) : MapOf w' b kv := by
  obtain ⟨es, c, h1, h2⟩ := h
  exact ⟨es, c, hb.trans h1, h2⟩
theorem MapOf.below {w w' : World} {b : Nat} {kv : List (Value × Value)} (h : MapOf w b kv) (hb : Below w.heap.size w w') : MapOf w' b kv := h.of_block (hb.block b h.lt)
theorem MapOf.kp {S : List Nat} {w w' : World} {b : Nat} {kv : List (Value × Value)} (h : MapOf w b kv) (hb : Kp S w w') (hs : b ∉ S) : MapOf w' b kv := h.of_block (hb.block b h.lt hs)
theorem MapOf.alloc {w : World} {b : Nat} {kv : List (Value × Value)} (h : MapOf w b kv) (o : Obj) : MapOf (w.alloc o) b kv := h.of_block (Below.heap_alloc w o b h.lt)
theorem MapOf.drew {w : World} {b : Nat} {kv : List (Value × Value)} (h : MapOf w b kv) : MapOf w.drew b kv := h
theorem MapOf.not_cell {w : World} {b : Nat} {kv : List (Value × Value)} (h : MapOf w b kv) {p : Addr} {v : Value} (hc : w.cell? p = some v) : p.block ≠ b := by
  rintro rfl
  obtain ⟨es, c, h1, _⟩ := h
  simp [World.cell?, h1] at hc
theorem MapOf.setCell {w : World} {b : Nat} {kv : List (Value × Value)} (h : MapOf w b kv) (p : Addr) (u : Value) : MapOf (w.setCell p u) b kv := by
  obtain ⟨es, c, h1, h2⟩ := h
  refine ⟨es, c, ?_, h2⟩
  simp only [World.setCell, Array.getElem?_modify]
  split
  · rw [h1]; rfl
  · exact h1
theorem MapOf.made (w : World) : MapOf (w.alloc (.map #[] 0)) w.heap.size [] := ⟨#[], 0, heap_alloc_new w _, stamped_empty 0, rfl⟩

section
variable {P : Program} {k e t : TypeId} {ok : Value → Prop} {w : World} {b : Nat} {kv : List (Value × Value)}

theorem nodup_fst : ∀ (l : List (Value × Value)), (l.map (·.1)).Nodup → ∀ p ∈ l, ∀ q ∈ l, p.1 = q.1 → p = q := by
  intro l
  induction l with
  | nil => intro _ p hp; cases hp
  | cons a l ih =>
    intro hnd p hp q hq hpq
    rw [List.map_cons, List.nodup_cons] at hnd
    rcases List.mem_cons.1 hp with e1 | hp
    · rcases List.mem_cons.1 hq with e2 | hq
      · rw [e1, e2]
      · exact absurd (List.mem_map.2 ⟨q, hq, by rw [← hpq, e1]⟩) hnd.1
    · rcases List.mem_cons.1 hq with e2 | hq
      · exact absurd (List.mem_map.2 ⟨p, hp, by rw [hpq, e2]⟩) hnd.1
      · exact ih hnd.2 p hp q hq hpq
theorem setBlock_at {w : World} {b : Nat} (h : b < w.heap.size) (o : Obj) : (setBlock w b o).heap[b]? = some o := by
  show (w.heap.setIfInBounds b o)[b]? = some o
  rw [Array.getElem?_setIfInBounds, if_pos rfl, if_pos h]
theorem setBlock_size (w : World) (b : Nat) (o : Obj) : (setBlock w b o).heap.size = w.heap.size := by
  show (w.heap.setIfInBounds b o).size = _
  simp

theorem MapOf.keys_nodup (h : MapOf w b kv) : (kv.map (·.1)).Nodup := by
  obtain ⟨es, c, _, ⟨_, _, h3⟩, rfl⟩ := h
  simpa [List.map_map, Function.comp_def] using h3

theorem run_lookup_none (K : KeyT P k ok) (ht : P.underlying t = some (.map k e)) {z : Value} (hz : (zeroValue e).run P w = .ok z w) (h : MapOf w b kv) (hks : ∀ p ∈ kv, ok p.1) {x : Value} (hx : ok x) (hno : ∀ p ∈ kv, p.1 ≠ x) (c : Bool) :
    (Instr.lookup t (.map (some b)) x c).run P w = .ok (if c then .tuple #[z, .bool false] else z) w := by
  obtain ⟨es, cl, hb, _, rfl⟩ := h
  rcases K.find w hx es.toList (fun e' he' => hks (e'.key, e'.val) (List.mem_map.2 ⟨e', he', rfl⟩)) with ⟨h1, h2⟩ | ⟨j, e0, h1, h2, h3⟩
  · simp [Instr.lookup, run_underlying ht, MapKept.run_getObj_map hb, K.check w _ hx, h1, hz, Result.andThen]
  · exact absurd h3 (hno (e0.key, e0.val) (List.mem_map.2 ⟨e0, List.mem_of_getElem? h2, rfl⟩))

theorem run_lookup_some (K : KeyT P k ok) (ht : P.underlying t = some (.map k e)) (h : MapOf w b kv) (hks : ∀ p ∈ kv, ok p.1) {x v : Value} (hx : ok x) (hin : (x, v) ∈ kv) (c : Bool) :
    (Instr.lookup t (.map (some b)) x c).run P w = .ok (if c then .tuple #[v, .bool true] else v) w := by
  have hnd := h.keys_nodup
  obtain ⟨es, cl, hb, _, rfl⟩ := h
  obtain ⟨e1, he1, hp⟩ := List.mem_map.1 hin
  rcases K.find w hx es.toList (fun e' he' => hks (e'.key, e'.val) (List.mem_map.2 ⟨e', he', rfl⟩)) with ⟨h1, h2⟩ | ⟨j, e0, h1, h2, h3⟩
  · simp only [Prod.mk.injEq] at hp
    exact absurd hp.1 (h2 e1 he1)
  · have : e0.val = v := by
      simp only [Prod.mk.injEq] at hp
      have hm0 : (e0.key, e0.val) ∈ es.toList.map (fun e => (e.key, e.val)) := List.mem_map.2 ⟨e0, List.mem_of_getElem? h2, rfl⟩
      have hm1 : (e1.key, e1.val) ∈ es.toList.map (fun e => (e.key, e.val)) := List.mem_map.2 ⟨e1, he1, rfl⟩
      have := nodup_fst _ hnd _ hm0 _ hm1 (h3.trans hp.1.symm)
      simp only [Prod.mk.injEq] at this
      exact this.2.trans hp.2
    subst this
    simp [Instr.lookup, run_underlying ht, MapKept.run_getObj_map hb, K.check w _ hx, h1, Result.andThen]

theorem kp_setBlock (w : World) (b : Nat) (o : Obj) : Kp [b] w (setBlock w b o) :=
  ⟨rfl, rfl, rfl, by simp [setBlock], fun i hi hs => by simp only [setBlock]; rw [Array.getElem?_setIfInBounds_ne (by simpa using fun e => hs (by simp [e]))]⟩

/-- a store at a key that is not there yet -/
theorem run_update_new (K : KeyT P k ok) (ht : P.underlying t = some (.map k e)) (h : MapOf w b kv) (hks : ∀ p ∈ kv, ok p.1) {x v : Value} (hx : ok x) (hno : ∀ p ∈ kv, p.1 ≠ x) :
    ∃ w', (Instr.mapUpdate t (.map (some b)) x v).run P w = .ok () w' ∧ MapOf w' b (kv ++ [(x, v)]) ∧ Kp [b] w w' ∧ w'.heap.size = w.heap.size := by
  have hlt := h.lt
  obtain ⟨es, cl, hb, hst, rfl⟩ := h
  rcases K.find w hx es.toList (fun e' he' => hks (e'.key, e'.val) (List.mem_map.2 ⟨e', he', rfl⟩)) with ⟨h1, h2⟩ | ⟨j, e0, h1, h2, h3⟩
  · refine ⟨setBlock w b (.map (es.push ⟨x, v, cl⟩) (cl + 1)), ?_, ⟨es.push ⟨x, v, cl⟩, cl + 1, setBlock_at hlt _, stamped_push hst h2, by simp⟩, kp_setBlock _ _ _, setBlock_size _ _ _⟩
    simp [Instr.mapUpdate, run_underlying ht, MapKept.run_getObj_map hb, K.check w false hx, h1, MapKept.run_setObj_map _ hb, Result.andThen, setBlock]
  · exact absurd h3 (hno (e0.key, e0.val) (List.mem_map.2 ⟨e0, List.mem_of_getElem? h2, rfl⟩))

/-- a store at a key that is there: in its place -/
theorem run_update_old (K : KeyT P k ok) (ht : P.underlying t = some (.map k e)) (h : MapOf w b kv) (hks : ∀ p ∈ kv, ok p.1) {x v : Value} (hx : ok x) {j : Nat} {u : Value} (hj : kv[j]? = some (x, u)) :
    ∃ w', (Instr.mapUpdate t (.map (some b)) x v).run P w = .ok () w' ∧ MapOf w' b (kv.set j (x, v)) ∧ Kp [b] w w' ∧ w'.heap.size = w.heap.size := by
  have hlt := h.lt
  have hnd := h.keys_nodup
  obtain ⟨es, cl, hb, hst, rfl⟩ := h
  rw [List.getElem?_map, Option.map_eq_some_iff] at hj
  obtain ⟨ej, hej, hp⟩ := hj
  simp only [Prod.mk.injEq] at hp
  rcases K.find w hx es.toList (fun e' he' => hks (e'.key, e'.val) (List.mem_map.2 ⟨e', he', rfl⟩)) with ⟨h1, h2⟩ | ⟨i, e0, h1, h2, h3⟩
  · exact absurd hp.1 (h2 ej (List.mem_of_getElem? hej))
  · have hij : i = j := by
      have hi' : i < ((es.toList.map (fun e : MapEntry => (e.key, e.val))).map (·.1)).length := by simpa using (List.getElem?_eq_some_iff.1 h2).1
      have hj' : j < ((es.toList.map (fun e : MapEntry => (e.key, e.val))).map (·.1)).length := by simpa using (List.getElem?_eq_some_iff.1 hej).1
      refine (List.getElem_inj hnd (h₀ := hi') (h₁ := hj')).1 ?_
      have a1 := (List.getElem?_eq_some_iff.1 h2).2
      have a2 := (List.getElem?_eq_some_iff.1 hej).2
      simp only [List.getElem_map, a1, a2, h3, hp.1]
    subst hij
    have hesi : es[i]? = some e0 := by simpa using h2
    have hmod : (es.modify i (fun e' => { e' with key := x, val := v })).toList = es.toList.set i { e0 with key := x, val := v } := by
      rw [Array.toList_modify, ChangeMaps.modify_eq_set _ _ _ _ h2]
    refine ⟨setBlock w b (.map (es.modify i (fun e' => { e' with key := x, val := v })) cl), ?_, ⟨es.modify i (fun e' => { e' with key := x, val := v }), cl, setBlock_at hlt _, stamped_modify hst i _ (fun _ _ => rfl) (fun e' _ he' => ?_), ?_⟩, kp_setBlock _ _ _, setBlock_size _ _ _⟩
    · simp [Instr.mapUpdate, run_underlying ht, MapKept.run_getObj_map hb, K.check w false hx, h1, hesi, h3, K.stays w hx, MapKept.run_setObj_map _ hb, Result.andThen, setBlock]
    · rw [hesi] at he'; cases he'; exact h3.symm
    · rw [hmod, List.map_set]

/-- delete -/
theorem run_delete {ty : TypeId} (K : KeyT P k ok) (ht : P.underlying t = some (.map k e)) (h : MapOf w b kv) (hks : ∀ p ∈ kv, ok p.1) {x : Value} (hx : ok x) :
    ∃ w' kv', (Builtin.delete_ #[t, k] ty #[.map (some b), x]).run P w = .ok (.tuple #[]) w' ∧ MapOf w' b kv' ∧ Kp [b] w w' ∧ w'.heap.size = w.heap.size ∧
      (((∀ p ∈ kv, p.1 ≠ x) ∧ kv' = kv) ∨ ∃ j u, kv[j]? = some (x, u) ∧ kv' = kv.eraseIdx j) := by
  have hlt := h.lt
  obtain ⟨es, cl, hb, hst, rfl⟩ := h
  rcases K.find w hx es.toList (fun e' he' => hks (e'.key, e'.val) (List.mem_map.2 ⟨e', he', rfl⟩)) with ⟨h1, h2⟩ | ⟨i, e0, h1, h2, h3⟩
  · refine ⟨setBlock w b (.map es cl), es.toList.map (fun e => (e.key, e.val)), ?_, ⟨es, cl, setBlock_at hlt _, hst, rfl⟩, kp_setBlock _ _ _, setBlock_size _ _ _, .inl ⟨?_, rfl⟩⟩
    · simp [Builtin.delete_, run_underlying ht, MapKept.run_getObj_map hb, K.check w _ hx, h1, MapKept.run_setObj_map _ hb, Result.andThen, setBlock]
    · intro p hp
      obtain ⟨e', he', rfl⟩ := List.mem_map.1 hp
      exact h2 e' he'
  · have hil : i < es.size := by simpa using (List.getElem?_eq_some_iff.1 h2).1
    refine ⟨setBlock w b (.map (es.eraseIdxIfInBounds i) cl), (es.toList.map (fun e => (e.key, e.val))).eraseIdx i, ?_, ⟨es.eraseIdxIfInBounds i, cl, setBlock_at hlt _, stamped_erase hst i, ?_⟩, kp_setBlock _ _ _, setBlock_size _ _ _, .inr ⟨i, e0.val, ?_, rfl⟩⟩
    · simp [Builtin.delete_, run_underlying ht, MapKept.run_getObj_map hb, K.check w _ hx, h1, MapKept.run_setObj_map _ hb, Result.andThen, setBlock]
    · unfold Array.eraseIdxIfInBounds
      rw [dif_pos hil, Array.toList_eraseIdx, ChangeMaps.map_eraseIdx]
    · rw [List.getElem?_map, h2, ← h3]; rfl

theorem run_len_map {ty : TypeId} (ht : P.underlying t = some (.map k e)) (h : MapOf w b kv) : (Builtin.len_ #[t] ty #[.map (some b)]).run P w = .ok (.int .i64 kv.length) w := by
  obtain ⟨es, cl, hb, _, rfl⟩ := h
  simp [Builtin.len_, Builtin.lenOf, run_underlying ht, MapKept.run_getObj_map hb, Result.andThen, goInt]
end
end Go.Proofs.Ytpobdcdabojhcaa
