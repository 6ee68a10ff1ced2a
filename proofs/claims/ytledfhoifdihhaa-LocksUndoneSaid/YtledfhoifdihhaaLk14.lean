/- All: the program's. -/
import Derived.Test.YtledfhoifdihhaaLk13
import Derived.Maps.AppendAt
namespace Go.Proofs.Ytledfhoifdihhaa
open Go.RowKit Go.Shelf Go.Sort
set_option linter.unusedVariables false
set_option linter.unusedSimpArgs false

theorem perm_map_back {α β : Type} {f : α → β} {l' m : List β} (h : l'.Perm m) : ∀ {l : List α}, m = l.map f → ∃ k : List α, k.Perm l ∧ k.map f = l' := by
  induction h with
  | nil => intro l hl; exact ⟨[], by rw [List.map_eq_nil_iff.1 hl.symm], rfl⟩
  | cons x _ ih =>
    intro l hl
    cases l with
    | nil => cases hl
    | cons a l =>
      simp only [List.map_cons, List.cons.injEq] at hl
      obtain ⟨k, hk, hm⟩ := ih hl.2
      exact ⟨a :: k, hk.cons a, by rw [List.map_cons, hm, hl.1]⟩
  | swap x y r =>
    intro l hl
    cases l with
    | nil => cases hl
    | cons a l =>
      cases l with
      | nil => simp at hl
      | cons b l =>
        simp only [List.map_cons, List.cons.injEq] at hl
        exact ⟨b :: a :: l, List.Perm.swap a b l, by simp [hl.1, hl.2.1, hl.2.2]⟩
  | trans _ _ ih1 ih2 =>
    intro l hl
    obtain ⟨k, hk, hm⟩ := ih2 hl
    obtain ⟨k', hk', hm'⟩ := ih1 hm.symm
    exact ⟨k', hk'.trans hk, hm'⟩

/-- its lists lie in other blocks than the row's own -/
def Off (v : Value) (q : RawH) (h : Hd) : Prop := (h.reads ≠ [] → ∀ a, q.ra = some a → v.ownBlock ≠ some a.block) ∧ (h.writes ≠ [] → ∀ a, q.xa = some a → v.ownBlock ≠ some a.block)
structure AllR (wr : World) (base : Nat) (v : Value) (L : List Hd) (done : List (Value × Value)) (hs : List Hd) (raws : List RawH) : Prop where
  l1 : hs.length = done.length
  l2 : raws.length = hs.length
  key : ∀ (i : Nat) p h, done[i]? = some p → hs[i]? = some h → p.1 = txnV h.txn
  mem : ∀ h ∈ hs, h ∈ L
  raw : ∀ (i : Nat) q h, raws[i]? = some q → hs[i]? = some h → HdV wr (.agg (rawC q).toArray) h ∧ Off v q h
  own : wr.ownsRow base 49 8 v raws.length (raws.flatMap rawC)
theorem own_below {w w' : World} {base n : Nat} {e : TypeId} {sz : Nat} {v : Value} {xs : List Value} (h : w.ownsRow base e sz v n xs) (hb : Below w.heap.size w w') : w'.ownsRow base e sz v n xs :=
  h.kept (row := none) ⟨hb.os, hb.tape, hb.output, hb.size, fun k hk _ => hb.block k hk⟩ (by cases h : v.ownBlock <;> simp)
theorem AllR.below {wr w' : World} {base : Nat} {v : Value} {L : List Hd} {done : List (Value × Value)} {hs : List Hd} {raws : List RawH} (h : AllR wr base v L done hs raws) (hb : Below wr.heap.size wr w') : AllR w' base v L done hs raws :=
  ⟨h.l1, h.l2, h.key, h.mem, fun i q x hq hx => ⟨(h.raw i q x hq hx).1.below hb, (h.raw i q x hq hx).2⟩, own_below h.own hb⟩
theorem AllR.start (w : World) (base : Nat) (L : List Hd) : AllR w base (.slice none 0 0) L [] [] [] :=
  ⟨rfl, rfl, fun i p h hp => by simp at hp, fun h hh => by simp at hh, fun i q h hq => by simp at hq, World.ownsRow_nil _ _ _ _⟩
theorem raw_eq {q : RawH} {h : Hd} {r x : Value} (he : Value.agg (rawC q).toArray = .agg (hdC h r x)) : q.c = h.txn.c ∧ q.s = h.txn.s ∧ r = .slice q.ra q.rl q.rc ∧ x = .slice q.xa q.xl q.xc := by
  simp [rawC, hdC] at he
  obtain ⟨h1, h2, _, _, _, _, h7, h8⟩ := he
  exact ⟨h1, h2, h7.symm, h8.symm⟩
theorem hdV_slices {w : World} {q : RawH} {h : Hd} (hv : HdV w (.agg (rawC q).toArray) h) : SlOf w 2 spC (.slice q.ra q.rl q.rc) h.reads ∧ SlOf w 3 wrC (.slice q.xa q.xl q.xc) h.writes ∧ q.c = h.txn.c ∧ q.s = h.txn.s := by
  obtain ⟨r, x, he, hr, hx⟩ := hv
  obtain ⟨h1, h2, rfl, rfl⟩ := raw_eq he
  exact ⟨hr, hx, h1, h2⟩
theorem hdV_kpo {w w' : World} {S : List Nat} {q : RawH} {h : Hd} (hv : HdV w (.agg (rawC q).toArray) h) (hk : Kp S w w') (h1 : h.reads ≠ [] → ∀ a, q.ra = some a → a.block ∉ S) (h2 : h.writes ≠ [] → ∀ a, q.xa = some a → a.block ∉ S) : HdV w' (.agg (rawC q).toArray) h := by
  obtain ⟨r, x, he, hr, hx⟩ := hv
  obtain ⟨_, _, rfl, rfl⟩ := raw_eq he
  refine ⟨_, _, he, ?_, ?_⟩
  · refine hr.kpo hk fun hne b hb => ?_
    cases hra : q.ra with
    | none => rw [hra] at hb; cases hb
    | some a => rw [hra] at hb; cases hb; exact h1 hne a hra
  · refine hx.kpo hk fun hne b hb => ?_
    cases hxa : q.xa with
    | none => rw [hxa] at hb; cases hb
    | some a => rw [hxa] at hb; cases hb; exact h2 hne a hxa
theorem hdV_blk {w : World} {q : RawH} {h : Hd} (hv : HdV w (.agg (rawC q).toArray) h) : (h.reads ≠ [] → ∀ a, q.ra = some a → a.block < w.heap.size) ∧ (h.writes ≠ [] → ∀ a, q.xa = some a → a.block < w.heap.size) := by
  obtain ⟨hr, hx, _⟩ := hdV_slices hv
  exact ⟨fun hn a ha => hr.blk (fun _ => by simp [spC]) hn _ (by rw [ha]; rfl), fun hn a ha => hx.blk (fun _ => by simp [wrC]) hn _ (by rw [ha]; rfl)⟩
theorem AllR.step {w1 w2 : World} {base : Nat} {v v' : Value} {L : List Hd} {done : List (Value × Value)} {hs : List Hd} {raws : List RawH} {p : Value × Value} {h : Hd} {q : RawH} (hA : AllR w1 base v L done hs raws)
    (hL : h ∈ L) (hp : p.1 = txnV h.txn) (hq : HdV w1 (.agg (rawC q).toArray) h) (ho : Off v q h) (hg : w1.grownBy w2 v.ownBlock) (hb : v'.ownBlock = v.ownBlock ∨ v'.ownBlock = some w1.heap.size) (hown : w2.ownsRow base 49 8 v' (raws.length + 1) (raws.flatMap rawC ++ rawC q)) :
    AllR w2 base v' L (done ++ [p]) (hs ++ [h]) (raws ++ [q]) := by
  have hall : ∀ (i : Nat) q' h', (raws ++ [q])[i]? = some q' → (hs ++ [h])[i]? = some h' → HdV w1 (.agg (rawC q').toArray) h' ∧ Off v q' h' := by
    intro i q' h' hi hj
    rw [List.getElem?_append] at hi hj
    rw [← hA.l2] at hj
    split at hi
    · rename_i hlt
      rw [if_pos hlt] at hj
      exact hA.raw i q' h' hi hj
    · rename_i hlt
      rw [if_neg hlt] at hj
      rw [List.getElem?_singleton] at hi hj
      split at hi
      · rename_i h0
        rw [if_pos h0] at hj
        cases hi; cases hj
        exact ⟨hq, ho⟩
      · cases hi
  refine ⟨by simp [hA.l1], by simp [hA.l2], ?_, ?_, ?_, by simpa using hown⟩
  · intro i p' h' hi hj
    rw [List.getElem?_append] at hi hj
    rw [hA.l1] at hj
    split at hi
    · rename_i hlt
      rw [if_pos hlt] at hj
      exact hA.key i p' h' hi hj
    · rename_i hlt
      rw [if_neg hlt] at hj
      rw [List.getElem?_singleton] at hi hj
      split at hi
      · rename_i h0
        rw [if_pos h0] at hj
        cases hi; cases hj
        exact hp
      · cases hi
  · intro h' hh
    rcases List.mem_append.1 hh with hh | hh
    · exact hA.mem _ hh
    · rw [List.mem_singleton.1 hh]; exact hL
  · intro i q' h' hi hj
    obtain ⟨hv, ⟨ho1, ho2⟩⟩ := hall i q' h' hi hj
    refine ⟨hdV_kpo hv (Kp.of_grown hg) (fun hn a ha hm => ho1 hn a ha (by simpa using hm)) (fun hn a ha hm => ho2 hn a ha (by simpa using hm)), fun hn a ha => ?_, fun hn a ha => ?_⟩
    · rcases hb with hb | hb <;> rw [hb]
      · exact ho1 hn a ha
      · have := (hdV_blk hv).1 hn a ha
        simp only [ne_eq, Option.some.injEq]
        omega
    · rcases hb with hb | hb <;> rw [hb]
      · exact ho2 hn a ha
      · have := (hdV_blk hv).2 hn a ha
        simp only [ne_eq, Option.some.injEq]
        omega

/-- the list, by transaction -/
def AllOf (L xs : List Hd) : Prop := xs.Perm L ∧ xs.Pairwise (fun a b => beforeB a.txn b.txn = true)
theorem perm_of_keys {L hs : List Hd} {kv done : List (Value × Value)} {w : World} (hn : (L.map (·.txn)).Nodup) (hkv : HeldKV w kv L) (hp : done.Perm kv) (hl : hs.length = done.length) (hk : ∀ (i : Nat) p h, done[i]? = some p → hs[i]? = some h → p.1 = txnV h.txn) (hm : ∀ h ∈ hs, h ∈ L) : hs.Perm L := by
  have e1 : hs.map (fun h => txnV h.txn) = done.map (·.1) := by
    refine List.ext_getElem (by simp [hl]) fun i h1 h2 => ?_
    simp only [List.length_map] at h1 h2
    simp only [List.getElem_map]
    exact (hk i _ _ (List.getElem?_eq_getElem h2) (List.getElem?_eq_getElem h1)).symm
  have e2 : kv.map (·.1) = L.map (fun h => txnV h.txn) := by
    refine List.ext_getElem (by simp [hkv.1]) fun i h1 h2 => ?_
    simp only [List.length_map] at h1 h2
    simp only [List.getElem_map]
    exact (hkv.2 i _ _ (List.getElem?_eq_getElem h1) (List.getElem?_eq_getElem h2)).1
  have e3 : (done.map (·.1)).Perm (L.map fun h => txnV h.txn) := e2 ▸ hp.map _
  obtain ⟨k, hk1, hk2⟩ := perm_map_back e3 rfl
  rw [← e1] at hk2
  have e4 : k = hs := by
    have hlen := congrArg List.length hk2
    simp only [List.length_map] at hlen
    refine List.ext_getElem hlen fun i h1 h2 => ?_
    have h3 : (k.map fun h => txnV h.txn)[i]'(by simpa using h1) = (hs.map fun h => txnV h.txn)[i]'(by simpa using h2) := by simp only [hk2]
    simp only [List.getElem_map] at h3
    exact txn_uniq hn (hk1.mem_iff.1 (List.getElem_mem h1)) (hm _ (List.getElem_mem h2)) (txnV_inj h3)
  rw [← e4]
  exact hk1
theorem AllR.done {wr w' : World} {base : Nat} {v : Value} {L : List Hd} {done kv : List (Value × Value)} {hs : List Hd} {raws raws' : List RawH} {w0 : World} (hA : AllR wr base v L done hs raws) (hn : (L.map (·.txn)).Nodup) (hkv : HeldKV w0 kv L) (hp : done.Perm kv)
    (hS : Sorted33 wr w' v raws raws') : ∃ xs, HdsAt w' v xs ∧ AllOf L xs := by
  obtain ⟨h1, h2, h3, h4⟩ := hS
  have hpL := perm_of_keys hn hkv hp hA.l1 hA.key hA.mem
  have ez : (raws.zip hs).map Prod.fst = raws := List.map_fst_zip (by rw [hA.l2]; exact Nat.le_refl _)
  obtain ⟨zs, hz1, hz2⟩ := perm_map_back (f := Prod.fst) (m := raws) (l := raws.zip hs) h1 ez.symm
  have hall : ∀ z ∈ zs, HdV wr (.agg (rawC z.1).toArray) z.2 ∧ Off v z.1 z.2 := by
    intro z hz
    have hz' := hz1.mem_iff.1 hz
    obtain ⟨i, hi, rfl⟩ := List.mem_iff_getElem.1 hz'
    simp only [List.length_zip] at hi
    simp only [List.getElem_zip]
    exact hA.raw i _ _ (List.getElem?_eq_getElem (by omega)) (List.getElem?_eq_getElem (by omega))
  have hpx : (zs.map Prod.snd).Perm L := by
    refine List.Perm.trans (hz1.map Prod.snd) ?_
    rw [List.map_snd_zip (by rw [hA.l2]; exact Nat.le_refl _)]
    exact hpL
  refine ⟨zs.map Prod.snd, ⟨raws', h3, by rw [← hz2]; simp, fun i q h hq hh => ?_⟩, hpx, ?_⟩
  · rw [← hz2, List.getElem?_map] at hq
    rw [List.getElem?_map] at hh
    cases hzi : zs[i]? with
    | none => rw [hzi] at hq; cases hq
    | some z =>
      rw [hzi] at hq hh
      cases hq; cases hh
      obtain ⟨hv, ho1, ho2⟩ := hall z (List.mem_of_getElem? hzi)
      exact hdV_kpo hv h4 (fun hn a ha hm => ho1 hn a ha (by simpa using hm)) (fun hn a ha hm => ho2 hn a ha (by simpa using hm))
  · have hnd : ((zs.map Prod.snd).map (·.txn)).Nodup := (hpx.map _).nodup_iff.2 hn
    rw [List.pairwise_iff_getElem]
    intro i j hi hj hij
    simp only [List.length_map] at hi hj
    simp only [List.getElem_map]
    have hr := List.pairwise_iff_getElem.1 h2 i j (by rw [← hz2]; simpa using hi) (by rw [← hz2]; simpa using hj) hij
    have er : ∀ (k : Nat) (hk : k < zs.length) (hk' : k < raws'.length), raws'[k] = zs[k].1 := by
      intro k hk hk'
      simp only [← hz2, List.getElem_map]
    rw [er i hi, er j hj] at hr
    obtain ⟨_, _, a1, a2⟩ := hdV_slices (hall _ (List.getElem_mem hi)).1
    obtain ⟨_, _, b1, b2⟩ := hdV_slices (hall _ (List.getElem_mem hj)).1
    rw [← Bool.not_eq_true, rawLt_of] at hr
    have hne : zs[i].2.txn ≠ zs[j].2.txn := by
      intro he
      have := (List.getElem_inj hnd (i := i) (j := j) (h₀ := by simpa using hi) (h₁ := by simpa using hj)).1 (by simpa using he)
      omega
    have hcs := txn_cases zs[i].2.txn zs[j].2.txn
    unfold beforeB
    split
    · simp only [decide_eq_true_eq]
      rcases hcs with h | ⟨_, h⟩ | h
      · omega
      · omega
      · exact absurd h hne
    · simp only [decide_eq_true_eq]
      omega

theorem copied_off {w1 : World} {base : Nat} {v : Value} {q : RawH} {h : Hd} {n : Nat} {xs : List Value} (hown : w1.ownsRow base 49 8 v n xs) (hf : FreshH w1.heap.size (.agg (rawC q).toArray)) : Off v q h := by
  obtain ⟨h', r, x, he, hr, hx⟩ := hf
  obtain ⟨_, _, rfl, rfl⟩ := raw_eq he
  refine ⟨fun _ a ha hb => ?_, fun _ a ha hb => ?_⟩
  · have := (hown.lt _ hb).2
    have := hr a q.rl q.rc (by rw [ha])
    omega
  · have := (hown.lt _ hb).2
    have := hx a q.xl q.xc (by rw [ha])
    omega
end Go.Proofs.Ytledfhoifdihhaa
