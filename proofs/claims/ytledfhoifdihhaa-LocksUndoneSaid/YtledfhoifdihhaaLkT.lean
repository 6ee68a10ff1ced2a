/- The lock table in memory: its two maps. -/
import Derived.Test.YtledfhoifdihhaaLk1
namespace Go.Proofs.Ytledfhoifdihhaa
open Go.RowKit
set_option linter.unusedVariables false
set_option linter.unusedSimpArgs false

theorem txnV_inj {a b : Txn} (h : txnV a = txnV b) : a = b := by
  obtain ⟨c, s⟩ := a; obtain ⟨c', s'⟩ := b
  simp only [txnV, Value.agg.injEq, Array.mk.injEq, List.cons.injEq, Value.int.injEq, true_and, and_true] at h
  simp [h]
def isTxn (v : Value) : Prop := ∃ t : Txn, v = txnV t
theorem run_equal_txn (a b : Txn) (w : World) : (Op.equal 40 (txnV a) (txnV b)).run Try.prog w = .ok (a.c == b.c && a.s == b.s) w := by
  have hS : Try.prog.underlying 40 = some (.struct (Try.prog.fieldsOf 40)) := by kernel_rfl
  have hp : Try.prog.stoodInHeld 40 = false := by kernel_rfl
  have u25 := Try.underlying25
  have a25 := Try.isAgg25
  have z25 := Try.sizeOf25
  unfold Op.equal Op.maxDepth
  rw [show (10000 : Nat) = 9999 + 1 from rfl, run_equalIn_agg w 9999 40 _ _ hS hp]
  simp only [Program.fieldsOf, Try.underlying40]
  go_simp
  by_cases h1 : a.c = b.c <;> by_cases h2 : a.s = b.s <;> simp [h1, h2]
theorem run_check_txn (w : World) (em : Bool) (t : Txn) : (Instr.checkKey em 10000 40 (txnV t)).run Try.prog w = .ok () w := by
  cases em <;> kernel_rfl
theorem keyT40 : KeyT Try.prog 40 isTxn :=
  keyT_asked (fun v ⟨t, ht⟩ => ⟨_, ht⟩)
    (fun w x y hx hy => by
      obtain ⟨a, rfl⟩ := hx
      obtain ⟨b, rfl⟩ := hy
      refine ⟨_, run_equal_txn a b w, ?_⟩
      simp only [Bool.and_eq_true, beq_iff_eq]
      exact ⟨fun ⟨h1, h2⟩ => by rw [show a = b by obtain ⟨c, s⟩ := a; obtain ⟨c', s'⟩ := b; simp_all], fun h => by rw [txnV_inj h]; exact ⟨rfl, rfl⟩⟩)
    (fun w em v hv => by obtain ⟨t, rfl⟩ := hv; exact run_check_txn w em t)
    (fun {v} hv => by obtain ⟨t, rfl⟩ := hv; simp [Instr.sameBits]) ⟨_, Try.underlying40⟩
theorem keyT9 : KeyT Try.prog 9 isStr := keyT_string Try.underlying9
def Hd.zero : Hd := ⟨⟨0, 0⟩, 0, ⟨0, 0, 0⟩, [], []⟩
abbrev zeroHd : Value := .agg (hdC Hd.zero (.slice none 0 0) (.slice none 0 0))
theorem zero49 (w : World) : (zeroValue 49).run Try.prog w = .ok zeroHd w := by kernel_rfl
theorem zero40 (w : World) : (zeroValue 40).run Try.prog w = .ok (txnV ⟨0, 0⟩) w := by kernel_rfl

/-! ### The two maps -/
def HeldKV (w : World) (kv : List (Value × Value)) (L : List Hd) : Prop :=
  kv.length = L.length ∧ ∀ (i : Nat) p h, kv[i]? = some p → L[i]? = some h → p.1 = txnV h.txn ∧ HdV w p.2 h
theorem HeldKV.below {w w' : World} {kv : List (Value × Value)} {L : List Hd} (h : HeldKV w kv L) (hb : Below w.heap.size w w') : HeldKV w' kv L :=
  ⟨h.1, fun i p x hp hx => ⟨(h.2 i p x hp hx).1, (h.2 i p x hp hx).2.below hb⟩⟩
theorem HeldKV.of_mem {w : World} {kv : List (Value × Value)} {L : List Hd} (h : HeldKV w kv L) {p : Value × Value} (hp : p ∈ kv) : ∃ x ∈ L, p.1 = txnV x.txn ∧ HdV w p.2 x := by
  obtain ⟨i, hi, rfl⟩ := List.mem_iff_getElem.1 hp
  have hil : i < L.length := by rw [← h.1]; exact hi
  exact ⟨L[i], List.getElem_mem hil, h.2 i _ _ (List.getElem?_eq_getElem hi) (List.getElem?_eq_getElem hil)⟩
theorem HeldKV.mem {w : World} {kv : List (Value × Value)} {L : List Hd} (h : HeldKV w kv L) {x : Hd} (hx : x ∈ L) : ∃ p ∈ kv, p.1 = txnV x.txn ∧ HdV w p.2 x := by
  obtain ⟨i, hi, rfl⟩ := List.mem_iff_getElem.1 hx
  have hil : i < kv.length := by rw [h.1]; exact hi
  exact ⟨kv[i], List.getElem_mem hil, h.2 i _ _ (List.getElem?_eq_getElem hil) (List.getElem?_eq_getElem hi)⟩
theorem HeldKV.keys {w : World} {kv : List (Value × Value)} {L : List Hd} (h : HeldKV w kv L) : ∀ p ∈ kv, isTxn p.1 := fun p hp => by
  obtain ⟨x, _, hx, _⟩ := h.of_mem hp
  exact ⟨_, hx⟩

def findH (L : List Hd) (t : Txn) : Option Hd := L.find? fun h => decide (h.txn = t)
def findI (I : List (ByteArray × Txn)) (k : ByteArray) : Option Txn := (I.find? fun p => decide (p.1 = k)).map (·.2)
abbrev intKV (I : List (ByteArray × Txn)) : List (Value × Value) := I.map fun p => (.string p.1, txnV p.2)

structure TabAt (w : World) (tb hb ib : Nat) (L : List Hd) (I : List (ByteArray × Txn)) : Prop where
  c0 : w.cell? ⟨tb, 0, none⟩ = some (.map (some hb))
  c1 : w.cell? ⟨tb, 1, none⟩ = some (.map (some ib))
  held : ∃ kv, MapOf w hb kv ∧ HeldKV w kv L
  ints : MapOf w ib (intKV I)
  ne : hb ≠ ib
theorem TabAt.below {w w' : World} {tb hb ib : Nat} {L : List Hd} {I : List (ByteArray × Txn)} (h : TabAt w tb hb ib L I) (k : Below w.heap.size w w') : TabAt w' tb hb ib L I := by
  obtain ⟨kv, h1, h2⟩ := h.held
  exact ⟨cellB k h.c0, cellB k h.c1, ⟨kv, h1.below k, h2.below k⟩, h.ints.below k, h.ne⟩
theorem TabAt.alloc {w : World} {tb hb ib : Nat} {L : List Hd} {I : List (ByteArray × Txn)} (h : TabAt w tb hb ib L I) (o : Obj) : TabAt (w.alloc o) tb hb ib L I := h.below ((Below.refl _ _).alloc (Nat.le_refl _) o)

/-- how many entries have come -/
def seenOf (w : World) (r : Nat) : Nat := match w.heap[r]? with | some (.mapIter _ _ seen _) => seen.size | _ => 0
theorem Iter.seen {w : World} {r b : Nat} {kv done : List (Value × Value)} (h : Iter w r b kv done) : seenOf w r = done.length := by
  obtain ⟨es, clock, since, c0, seen, vis, h1, h2, h3, h4, h5, h6, h7, h8, h9, h10, h11, h12⟩ := h
  unfold seenOf
  rw [h4]
  simp only
  rw [← h11, List.length_map]
  have := congrArg List.length h10
  simpa using this

theorem measure_lt {wr wn W : World} {r b : Nat} {kv done : List (Value × Value)} {p : Value × Value} (hit : Iter wn r b kv (done ++ [p])) (hb : Below wn.heap.size wn W) (hs : seenOf wr r = done.length) (hl : done.length < kv.length) :
    kv.length - seenOf W r < kv.length - seenOf wr r := by
  rw [hs, (hit.below hb).seen, List.length_append, List.length_singleton]
  omega

/-- what stands among the intents is what is held -/
structure Good (L : List Hd) (I : List (ByteArray × Txn)) : Prop where
  nodup : (L.map (·.txn)).Nodup
  ints : ∀ k t, (k, t) ∈ I ↔ ∃ h ∈ L, h.txn = t ∧ ∃ x ∈ h.writes, x.key = k
  apart : ∀ h ∈ L, ∀ h' ∈ L, h.txn ≠ h'.txn → meetB h.reads h.writes h' = false

theorem look_ints {w : World} {ib : Nat} {I : List (ByteArray × Txn)} (h : MapOf w ib (intKV I)) (k : ByteArray) :
    (Instr.lookup 74 (.map (some ib)) (.string k) true).run Try.prog w = .ok (.tuple #[txnV ((findI I k).getD ⟨0, 0⟩), .bool (findI I k).isSome]) w := by
  have hks : ∀ p ∈ intKV I, isStr p.1 := fun p hp => by obtain ⟨e, _, rfl⟩ := List.mem_map.1 hp; exact ⟨_, rfl⟩
  unfold findI
  cases hf : I.find? (fun p => decide (p.1 = k)) with
  | none =>
    refine run_lookup_none keyT9 Try.underlying74 (zero40 w) h hks ⟨k, rfl⟩ (fun p hp => ?_) true
    obtain ⟨e, he, rfl⟩ := List.mem_map.1 hp
    have := List.find?_eq_none.1 hf e he
    intro heq
    simp only [Value.string.injEq] at heq
    exact this (by simpa using heq)
  | some e =>
    have ht : e.1 = k := by simpa using List.find?_some hf
    refine run_lookup_some keyT9 Try.underlying74 h hks ⟨k, rfl⟩ ?_ true
    exact List.mem_map.2 ⟨e, List.mem_of_find?_eq_some hf, by rw [ht]; rfl⟩
theorem findI_mem {I : List (ByteArray × Txn)} {k : ByteArray} {t : Txn} (h : findI I k = some t) : (k, t) ∈ I := by
  unfold findI at h
  obtain ⟨p, hp, rfl⟩ := Option.map_eq_some_iff.1 h
  have hk : p.1 = k := by simpa using List.find?_some hp
  rw [← hk]
  exact List.mem_of_find?_eq_some hp
theorem findI_none {I : List (ByteArray × Txn)} {k : ByteArray} (h : findI I k = none) (t : Txn) : (k, t) ∉ I := fun hm => by
  unfold findI at h
  have := List.find?_eq_none.1 (Option.map_eq_none_iff.1 h) _ hm
  exact this (by simp)

/-- the key stands among the intents of another -/
def intB (I : List (ByteArray × Txn)) (t : Txn) (x : Wr) : Bool := match findI I x.key with | some u => decide (u ≠ t) | none => false
def conflictB (L : List Hd) (t : Txn) (r : List Sp) (x : List Wr) : Bool := L.any fun h => decide (h.txn ≠ t) && meetB r x h
def partB (t : Txn) (r : List Sp) (x : List Wr) (h : Hd) : Bool := decide (h.txn ≠ t) && (intoB x h.reads || intoB h.writes r)

theorem conflict_eq {L : List Hd} {I : List (ByteArray × Txn)} (hG : Good L I) (hnd : (I.map (·.1)).Nodup) (t : Txn) (r : List Sp) (x : List Wr) : conflictB L t r x = (x.any (intB I t) || L.any (partB t r x)) := by
  rw [Bool.eq_iff_iff]
  simp only [conflictB, Bool.or_eq_true, List.any_eq_true, Bool.and_eq_true, decide_eq_true_eq, partB, meetB, commonB]
  constructor
  · rintro ⟨h, hL, hne, hm⟩
    rcases hm with (⟨y, hy, z, hz, hk⟩ | hm) | hm
    · left
      refine ⟨y, hy, ?_⟩
      unfold intB
      have hin : (y.key, h.txn) ∈ I := (hG.ints _ _).2 ⟨h, hL, rfl, z, hz, hk.symm⟩
      cases hf : findI I y.key with
      | none => exact absurd hin (findI_none hf _)
      | some u =>
        have hu := findI_mem hf
        have : u = h.txn := by
          obtain ⟨i, hi, e1⟩ := List.mem_iff_getElem.1 hu
          obtain ⟨j, hj, e2⟩ := List.mem_iff_getElem.1 hin
          have hij : i = j := by
            refine (List.getElem_inj hnd (h₀ := by simpa using hi) (h₁ := by simpa using hj)).1 ?_
            simp [e1, e2]
          subst hij
          rw [e1] at e2
          exact (Prod.mk.injEq .. ▸ e2 : _ ∧ _).2
        simp [this, hne]
    · exact .inr ⟨h, hL, hne, .inl hm⟩
    · exact .inr ⟨h, hL, hne, .inr hm⟩
  · rintro (⟨y, hy, hi⟩ | ⟨h, hL, hne, hm⟩)
    · unfold intB at hi
      cases hf : findI I y.key with
      | none => rw [hf] at hi; cases hi
      | some u =>
        rw [hf] at hi
        obtain ⟨h, hL, hu, z, hz, hk⟩ := (hG.ints _ _).1 (findI_mem hf)
        exact ⟨h, hL, by rw [hu]; simpa using hi, .inl (.inl ⟨y, hy, z, hz, hk.symm⟩)⟩
    · rcases hm with hm | hm
      · exact ⟨h, hL, hne, .inl (.inr hm)⟩
      · exact ⟨h, hL, hne, .inr hm⟩
end Go.Proofs.Ytledfhoifdihhaa
