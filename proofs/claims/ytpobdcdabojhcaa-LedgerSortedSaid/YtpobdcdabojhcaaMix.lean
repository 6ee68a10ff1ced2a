/- Regions that draw their order: operations that only read come first, those that write stand in one order. -/
import Derived.Test.YtpobdcdabojhcaaBase
import Derived.Test.YtpobdcdabojhcaaMapKit
import Derived.Deep.RegionHeld3
namespace Go.Proofs.Ytpobdcdabojhcaa
open Go.RowKit

section
variable {P : Program} {ops : Array Oper} {Q : Exit → Act → World → Prop} {md : Region.Mode} {C : World → Prop} {last : Nat}

/-- whatever order is picked from here on; every world on the way, but the one behind the last operation, is of the class -/
def wpAnyC (P : Program) (md : Region.Mode) (ops : Array Oper) (C : World → Prop) (last : Nat) (Q : Exit → Act → World → Prop) : Nat → Array Bool → Act → World → Prop
  | 0, listed, a, w => Region.ready md ops listed = [] ∧ Q .normal a w
  | fuel + 1, listed, a, w =>
    (Region.ready md ops listed = [] → Q .normal a w) ∧
    ∀ i ∈ Region.ready md ops listed, wpOp P ops Q i (fun a' w' => (i ≠ last → C w') ∧ wpAnyC P md ops C last Q fuel (listed.setIfInBounds i true) a' w') a w

theorem wpAny_of_C : ∀ (fuel : Nat) (listed : Array Bool) (a : Act) (w : World), wpAnyC P md ops C last Q fuel listed a w → wpAny P md ops Q fuel listed a w
  | 0, _, _, _, h => h
  | fuel + 1, _, _, _, h => ⟨h.1, fun i hi => wpOp_mono (fun a' w' h' => wpAny_of_C fuel _ a' w' h'.2) (h.2 i hi)⟩

/-- it yields v in every world of the class, and leaves the world as it is -/
def YieldsC (P : Program) (ops : Array Oper) (C : World → Prop) (o : Oper) (v : Value) (a : Act) : Prop :=
  (Region.wanted o (yielded ops a.tmps) = true ∧ ∀ w, C w → (execOp a.eval o).run P w = .ok (.value v) w) ∨
  (Region.wanted o (yielded ops a.tmps) = false ∧ v = undef)

theorem YieldsC.wpOp {i : Nat} {o : Oper} {v : Value} {a : Act} (hi : ops[i]? = some o) (hy : YieldsC P ops C o v a)
    {K : Act → World → Prop} {w : World} (hC : C w) (h : K (a.put o.dst v) w) : wpOp P ops Q i K a w := by
  unfold Go.wpOp
  simp only [hi]
  rcases hy with ⟨hw, hv⟩ | ⟨hw, rfl⟩
  · simp only [hw, if_true, Oper.wp, hv w hC, Oper.upon]; exact .inl h
  · simp only [hw, Bool.false_eq_true, if_false]; exact h

theorem YieldsC.of_same {o : Oper} {v : Value} {a a' : Act} (hy : YieldsC P ops C o v a) (he : execOp a'.eval o = execOp a.eval o)
    (hw : Region.wanted o (yielded ops a'.tmps) = Region.wanted o (yielded ops a.tmps)) : YieldsC P ops C o v a' := by
  unfold YieldsC at *
  rw [he, hw]
  exact hy

theorem wpOp_putC {j : Nat} {oi oj : Oper} {v : Value} (hj : ops[j]? = some oj) (hap : oi.apart ops oj = true)
    (hsi : ∀ cs b, oi.op ≠ .select cs b) (hsj : ∀ cs b, oj.op ≠ .select cs b)
    (hQ : ∀ c a w, Q (.panic c) (a.put oi.dst v) w → Q (.panic c) a w) {K : Act → World → Prop} {a : Act} {w : World}
    (hy : YieldsC P ops C oi v a) (h : wpOp P ops Q j K (a.put oi.dst v) w) :
    wpOp P ops Q j (fun a' w' => YieldsC P ops C oi v a' ∧ K (a'.put oi.dst v) w') a w := by
  obtain ⟨h1, h2, h3⟩ := Oper.apart_spec hap
  have keep : ∀ (a : Act), YieldsC P ops C oi v a → ∀ u, YieldsC P ops C oi v (a.put oj.dst u) := fun a hy u =>
    hy.of_same (execOp_put oi hsi a oj.dst u h3) (wanted_put oi a oj.dst u h3)
  have keepD : ∀ d, YieldsC P ops C oi v { a with defers := d :: a.defers } := fun d => hy.of_same rfl rfl
  unfold wpOp at *
  simp only [hj] at *
  rw [wanted_put oj a oi.dst v h1] at h
  split
  · rename_i hw
    simp only [hw, if_true] at h
    rcases h with h | ⟨hasks, hlets⟩
    case inr => exact .inr ⟨by unfold Oper.asks at *; rw [execOp_put oj hsj a oi.dst v h1] at hasks; exact hasks, hlets⟩
    refine .inl ?_
    unfold Oper.wp at *
    rw [execOp_put oj hsj a oi.dst v h1] at h
    generalize (execOp a.eval oj).run P w = r at *
    cases r with
    | ok n w' =>
      cases n <;> simp only [Oper.upon] at h ⊢
      case value u => exact ⟨keep a hy u, by rw [← Act.put_comm a v u h2]; exact h⟩
      case skip => exact ⟨keep a hy _, by rw [← Act.put_comm a v undef h2]; exact h⟩
      case defer d =>
        refine ⟨keep _ (keepD d) _, ?_⟩
        rw [← Act.put_comm _ v undef h2, ← Act.put_defers]
        exact h
      case enter f args =>
        refine Calls.mono h fun e w'' he => ?_
        cases e with
        | returned u => exact ⟨keep a hy u, by rw [← Act.put_comm a v u h2]; exact he⟩
        | panicked c => exact hQ _ _ _ he
        | outgrown => exact he
      case row row args => exact Rows.mono h fun u w'' he => ⟨keep a hy u, by rw [← Act.put_comm a v u h2]; exact he⟩
    | halt x w' =>
      cases x <;> simp only [Oper.upon] at h ⊢
      case panic u => exact hQ _ _ _ h
  · rename_i hw
    simp only [hw] at h
    exact ⟨keep a hy _, by rw [← Act.put_comm a v undef h2]; exact h⟩

/-- what is listed is closed under the edges that bind -/
def Closed (md : Region.Mode) (ops : Array Oper) (listed : Array Bool) : Prop :=
  ∀ (j : Nat) o, ops[j]? = some o → listed.getD j false = true → ∀ e ∈ o.after, Region.binds md e = true → listed.getD e.on false = true
theorem getD_set_mono {listed : Array Bool} {j k : Nat} (h : listed.getD k false = true) : (listed.setIfInBounds j true).getD k false = true := by
  by_cases hjk : j = k
  · subst hjk
    rcases Nat.lt_or_ge j listed.size with h' | h'
    · simp [h']
    · simp [Array.getElem?_eq_none h'] at h
  · rw [getD_set_ne false hjk]; exact h
theorem Closed.step {listed : Array Bool} {j : Nat} (h : Closed md ops listed) (hj : j ∈ Region.ready md ops listed) : Closed md ops (listed.setIfInBounds j true) := by
  intro k o ho hk e he hb
  by_cases hjk : j = k
  · subst hjk
    obtain ⟨_, oj, hoj, hall⟩ := mem_ready.1 hj
    rw [ho] at hoj
    cases hoj
    exact getD_set_mono (hall e he hb)
  · rw [getD_set_ne false hjk] at hk
    exact getD_set_mono (h k o ho hk e he hb)
theorem closed_start (n : Nat) : Closed md ops (Array.replicate n false) := by
  intro j o _ hj
  simp only [Array.getD_eq_getD_getElem?, Array.getElem?_replicate] at hj
  split at hj <;> simp at hj
/-- j waits for i, through edges that bind -/
def depB (md : Region.Mode) (ops : Array Oper) : Nat → Nat → Nat → Bool
  | 0, _, _ => false
  | n + 1, j, i => match ops[j]? with
    | some o => o.after.any fun e => Region.binds md e && (e.on == i || depB md ops n e.on i)
    | none => false
theorem dep_listed {listed : Array Bool} (hc : Closed md ops listed) {i : Nat} : ∀ (n j : Nat) (o : Oper), ops[j]? = some o → (∀ e ∈ o.after, Region.binds md e = true → listed.getD e.on false = true) → depB md ops n j i = true → listed.getD i false = true
  | 0, j, o, _, _, h => by simp [depB] at h
  | n + 1, j, o, ho, hall, h => by
    simp only [depB, ho] at h
    obtain ⟨e, he, hb⟩ := Array.any_eq_true'.1 h
    simp only [Bool.and_eq_true, Bool.or_eq_true, beq_iff_eq] at hb
    obtain ⟨hbind, hb⟩ := hb
    have hl := hall e he hbind
    rcases hb with rfl | hb
    · exact hl
    · cases ho2 : ops[e.on]? with
      | none =>
        cases n with
        | zero => simp [depB] at hb
        | succ n => simp [depB, ho2] at hb
      | some o2 => exact dep_listed hc n e.on o2 ho2 (fun e' he' hb' => hc e.on o2 ho2 hl e' he' hb') hb

/-- a reading operation may be taken first; the last operation waits for it -/
theorem wpAnyC_first {i : Nat} {oi : Oper} {v : Value} (hi : ops[i]? = some oi) (hsel : ∀ (j : Nat) (o : Oper) cs b, ops[j]? = some o → o.op ≠ .select cs b)
    (hQ : ∀ c a w, Q (.panic c) (a.put oi.dst v) w → Q (.panic c) a w) (hil : i ≠ last) (hlast : depB md ops ops.size last i = true) :
    ∀ (fuel : Nat) (listed : Array Bool) (a : Act) (w : World), Closed md ops listed →
      (∀ j oj, ops[j]? = some oj → j ≠ i → listed.getD j true = false → (∀ e ∈ oj.after, Region.binds md e = true → e.on ≠ i) → oi.apart ops oj = true) →
      i ∈ Region.ready md ops listed → YieldsC P ops C oi v a → C w →
      wpAnyC P md ops C last Q fuel (listed.setIfInBounds i true) (a.put oi.dst v) w → wpAnyC P md ops C last Q (fuel + 1) listed a w := by
  intro fuel
  induction fuel with
  | zero =>
    intro listed a w _ _ hr hy hC H
    refine ⟨fun h => (by rw [h] at hr; cases hr), fun j hj => ?_⟩
    by_cases hji : j = i
    · subst hji; exact hy.wpOp hi hC ⟨fun _ => hC, H⟩
    · have := ready_mono hj hji
      rw [H.1] at this
      cases this
  | succ fuel ih =>
    intro listed a w hcl hfree hr hy hC H
    refine ⟨fun h => (by rw [h] at hr; cases hr), fun j hj => ?_⟩
    by_cases hji : j = i
    · subst hji; exact hy.wpOp hi hC ⟨fun _ => hC, H⟩
    · have h1 := H.2 j (ready_mono hj hji)
      obtain ⟨hjun, oj, hoj, hall⟩ := mem_ready.1 hj
      have hnot : ∀ e ∈ oj.after, Region.binds md e = true → e.on ≠ i := fun e he hb heq => by
        have h1 := hall e he hb
        have h0 := (mem_ready.1 hr).1
        rw [heq] at h1
        rcases Nat.lt_or_ge i listed.size with h' | h'
        · simp [h'] at h0 h1; rw [h0] at h1; cases h1
        · simp [Array.getElem?_eq_none h'] at h1
      have hjl : j ≠ last := fun e => by
        subst e
        have h1 := dep_listed hcl _ j oj hoj hall hlast
        have h0 := (mem_ready.1 hr).1
        rcases Nat.lt_or_ge i listed.size with h' | h'
        · simp [h'] at h0 h1; rw [h0] at h1; cases h1
        · simp [Array.getElem?_eq_none h'] at h1
      have h2 := wpOp_putC hoj (hfree j oj hoj hji hjun hnot) (fun cs b => hsel i oi cs b hi) (fun cs b => hsel j oj cs b hoj) hQ hy h1
      have hfree' : ∀ k ok, ops[k]? = some ok → k ≠ i → (listed.setIfInBounds j true).getD k true = false →
          (∀ e ∈ ok.after, Region.binds md e = true → e.on ≠ i) → oi.apart ops ok = true := fun k ok hk hki hun hno => by
        refine hfree k ok hk hki ?_ hno
        by_cases hjk : j = k
        · subst hjk; exact hjun
        · rw [getD_set_ne true hjk] at hun; exact hun
      refine wpOp_mono (fun a' w' h3 => ?_) h2
      obtain ⟨hy', hc', h4⟩ := h3
      refine ⟨hc', ih (listed.setIfInBounds j true) a' w' (hcl.step hj) hfree' (ready_mono hr (Ne.symm hji)) hy' (hc' hjl) ?_⟩
      rw [Array.setIfInBounds_comm _ _ hji]
      exact h4

/-- the reading operations, one behind the other -/
def wpHead (P : Program) (ops : Array Oper) (C : World → Prop) (Q : Act → Prop) : List Oper → Act → Prop
  | [], a => Q a
  | o :: r, a => (Region.wanted o (yielded ops a.tmps) = true ∧ ∃ v, (∀ w, C w → (execOp a.eval o).run P w = .ok (.value v) w) ∧ wpHead P ops C Q r (a.put o.dst v)) ∨
      (Region.wanted o (yielded ops a.tmps) = false ∧ wpHead P ops C Q r (a.put o.dst undef))
/-- the others, in their one order -/
def wpTail (P : Program) (ops : Array Oper) (C : World → Prop) (Q : Exit → Act → World → Prop) : List Oper → Act → World → Prop
  | [], a, w => Q .normal a w
  | o :: r, a, w => (r = [] ∧ wpList P ops Q [o] a w) ∨ (r ≠ [] ∧ Region.wanted o (yielded ops a.tmps) = true ∧ o.wp P a w (fun a' w' => C w' ∧ wpTail P ops C Q r a' w') Q)
theorem wpTail_last {o : Oper} {a : Act} {w : World} (h : wpList P ops Q [o] a w) : wpTail P ops C Q [o] a w := .inl ⟨rfl, h⟩
theorem wpTail_step {o o' : Oper} {r : List Oper} {a : Act} {w : World} (hg : o.guard = none) (h : ∀ K : Act → World → Prop, (∀ a w, C w → wpTail P ops C Q (o' :: r) a w → K a w) → o.wp P a w K Q) : wpTail P ops C Q (o :: o' :: r) a w :=
  .inr ⟨by simp, by simp [Region.wanted, hg], h _ fun _ _ h1 h2 => ⟨h1, h2⟩⟩

/-- what the kernel is asked: heads and tails as they are numbered -/
def headB (md : Region.Mode) (ops : Array Oper) (last : Nat) : List Nat → Array Bool → Bool
  | [], _ => true
  | i :: r, listed => Region.free md ops listed i && (Region.ready md ops listed).contains i && (i != last) &&
      depB md ops ops.size last i && headB md ops last r (listed.setIfInBounds i true)
def tailB (md : Region.Mode) (ops : Array Oper) (last : Nat) : List Nat → Array Bool → Bool
  | [], listed => (Region.ready md ops listed).isEmpty
  | i :: r, listed => Region.ready md ops listed == [i] && (i == last) == r.isEmpty && tailB md ops last r (listed.setIfInBounds i true)
def setAll (l : List Nat) (listed : Array Bool) : Array Bool := l.foldl (fun x i => x.setIfInBounds i true) listed
def pick (hs : List Nat) (l : List Oper) : List Oper := hs.filterMap fun i => l[i]?

theorem tail_ok : ∀ (ts : List Nat) (listed : Array Bool) (a : Act) (w : World) (fuel : Nat) (l : List Oper), ts.length ≤ fuel → l.length = ts.length → (∀ (k : Nat) i, ts[k]? = some i → ops[i]? = l[k]?) → tailB md ops last ts listed = true →
    wpTail P ops C Q l a w → wpAnyC P md ops C last Q fuel listed a w := by
  intro ts
  induction ts with
  | nil =>
    intro listed a w fuel l _ hl _ hB h
    obtain rfl : l = [] := List.eq_nil_of_length_eq_zero (by simpa using hl)
    have hr : Region.ready md ops listed = [] := by simpa [tailB] using hB
    cases fuel with
    | zero => exact ⟨hr, h⟩
    | succ fuel => exact ⟨fun _ => h, by rw [hr]; simp⟩
  | cons i r ih =>
    intro listed a w fuel l hf hl hat hB h
    obtain ⟨fuel, rfl⟩ : ∃ m, fuel = m + 1 := ⟨fuel - 1, by simp at hf; omega⟩
    obtain ⟨o, lr, rfl⟩ : ∃ o lr, l = o :: lr := by
      cases l with
      | nil => simp at hl
      | cons o lr => exact ⟨o, lr, rfl⟩
    have ho : ops[i]? = some o := hat 0 i rfl
    simp only [tailB, Bool.and_eq_true, beq_iff_eq] at hB
    obtain ⟨⟨hr, hl'⟩, he⟩ := hB
    have hat' : ∀ (k : Nat) i', r[k]? = some i' → ops[i']? = lr[k]? := fun k i' hk => by have := hat (k + 1) i' (by simpa using hk); simpa using this
    have hlr : lr.length = r.length := by simpa using hl
    have hfr : r.length ≤ fuel := by simpa using hf
    refine ⟨fun h0 => (by rw [hr] at h0; cases h0), fun j hj => ?_⟩
    rw [hr] at hj
    obtain rfl : j = i := by simpa using hj
    unfold wpTail at h
    unfold wpOp
    simp only [ho]
    rcases h with ⟨hn, h⟩ | ⟨hn, hw, h⟩
    · have hr0 : r = [] := List.eq_nil_of_length_eq_zero (by rw [← hlr, hn]; rfl)
      subst hn
      have hd : ∀ a' w', Q .normal a' w' → (j ≠ last → C w') ∧ wpAnyC P md ops C last Q fuel (listed.setIfInBounds j true) a' w' := fun a' w' hq =>
        ⟨fun hne => absurd (by simpa [hr0] using hl') hne, ih _ a' w' fuel [] hfr hlr hat' he hq⟩
      simp only [wpList] at h
      split
      · rename_i hw
        rw [if_pos hw] at h
        rcases h with h | h
        · exact .inl (Oper.wp_mono hd h)
        · exact .inr h
      · rename_i hw
        rw [if_neg hw] at h
        exact hd _ _ h
    · rw [if_pos hw]
      exact .inl (Oper.wp_mono (fun a' w' h' => ⟨fun _ => h'.1, ih _ a' w' fuel lr hfr hlr hat' he h'.2⟩) h)

theorem head_ok (hsel : Region.noSelect ops = true) (hQ : ∀ c d v a w, Q (.panic c) (Act.put a d v) w → Q (.panic c) a w) {g : Nat} {Lq : Act → Prop} : ∀ (hs : List Nat) (listed : Array Bool) (a : Act) (w : World) (l : List Oper),
    l.length = hs.length → (∀ (k : Nat) i, hs[k]? = some i → ops[i]? = l[k]?) → headB md ops last hs listed = true → Closed md ops listed → C w → (∀ a, Lq a → wpAnyC P md ops C last Q g (setAll hs listed) a w) →
    wpHead P ops C Lq l a → wpAnyC P md ops C last Q (g + hs.length) listed a w
  | [], listed, a, w, l, hl, _, _, _, _, hq, h => by
    have : l = [] := List.eq_nil_of_length_eq_zero (by simpa using hl)
    subst this
    exact hq a h
  | i :: r, listed, a, w, l, hl, hat, hB, hcl, hC, hq, h => by
    match l, hl with
    | o :: lr, hl =>
      have ho : ops[i]? = some o := hat 0 i rfl
      simp only [headB, Bool.and_eq_true, bne_iff_ne] at hB
      obtain ⟨⟨⟨⟨hf, hr⟩, hil⟩, hlw⟩, hrest⟩ := hB
      have key : ∀ v, YieldsC P ops C o v a → wpHead P ops C Lq lr (a.put o.dst v) → wpAnyC P md ops C last Q (g + (i :: r).length) listed a w := by
        intro v hy hn
        have h1 := head_ok hsel hQ r (listed.setIfInBounds i true) (a.put o.dst v) w lr (by simpa using hl) (fun k i' hk => by have := hat (k + 1) i' (by simpa using hk); simpa using this) hrest (hcl.step (by simpa using hr)) hC hq hn
        have := wpAnyC_first (md := md) ho (Region.noSelect_spec hsel) (fun c a w => hQ c o.dst v a w) hil hlw (g + r.length) listed a w hcl (Region.free_spec ho hf) (by simpa using hr) hy hC h1
        simpa [Nat.add_assoc] using this
      rcases h with ⟨hw, v, hv, hn⟩ | ⟨hw, hn⟩
      · exact key v (.inl ⟨hw, hv⟩) hn
      · exact key undef (.inr ⟨hw, rfl⟩) hn

theorem pick_spec (l : List Oper) : ∀ (hs : List Nat), hs.all (fun i => decide (i < l.length)) = true → (pick hs l).length = hs.length ∧ ∀ (k : Nat) i, hs[k]? = some i → l[i]? = (pick hs l)[k]?
  | [], _ => ⟨rfl, fun k i h => by simp at h⟩
  | i :: r, h => by
    simp only [List.all_cons, Bool.and_eq_true, decide_eq_true_eq] at h
    obtain ⟨h1, h2⟩ := pick_spec l r h.2
    have hi : l[i]? = some l[i] := List.getElem?_eq_getElem h.1
    have e : pick (i :: r) l = l[i] :: pick r l := by simp [pick, hi]
    rw [e]
    refine ⟨by simp [h1], fun k j hk => ?_⟩
    cases k with
    | zero => simp at hk; subst hk; rw [hi]; rfl
    | succ k => simpa using h2 k j (by simpa using hk)

def mixB (l : List Oper) (hs ts : List Nat) : Bool :=
  Region.noSelect l.toArray && headB .any l.toArray (ts.getLast?.getD 0) hs (Array.replicate l.length false) && tailB .any l.toArray (ts.getLast?.getD 0) ts (setAll hs (Array.replicate l.length false)) &&
    decide (hs.length + ts.length = l.length) && hs.all (fun i => decide (i < l.length)) && ts.all (fun i => decide (i < l.length))

/-- THE REGION: its reading operations (numbers hs), then the others (numbers ts) in their order -/
theorem wp_region_mix {id : Nat} {a : Act} {w : World} {l : List Oper} (C : World → Prop) (hs ts : List Nat) (hm : P.follows .mixedOrders = true) (hB : mixB l hs ts = true)
    (hC : C w.drew) (h : wpHead P l.toArray C (fun a' => wpTail P l.toArray C (NoPanic Q) (pick ts l) a' w.drew) (pick hs l) a) : (Code.region id l.toArray true).wp P Q a w := by
  refine wp_region_noPanic ?_
  simp only [mixB, Bool.and_eq_true, decide_eq_true_eq] at hB
  obtain ⟨⟨⟨⟨⟨hsel, hh⟩, ht⟩, hlen⟩, e1⟩, e2⟩ := hB
  obtain ⟨l1, a1⟩ := pick_spec l hs e1
  obtain ⟨l2, a2⟩ := pick_spec l ts e2
  refine wp_region_any hm (wpAny_of_C (C := C) (last := ts.getLast?.getD 0) _ _ _ _ ?_)
  have := head_ok (P := P) (C := C) (Q := NoPanic Q) (md := .any) (last := ts.getLast?.getD 0) (g := ts.length) hsel (fun c d v a w h => h) hs (Array.replicate l.length false) a w.drew (pick hs l) l1 (fun k i hk => by simpa using a1 k i hk) hh (closed_start _) hC
    (fun a' h' => tail_ok ts _ a' w.drew ts.length (pick ts l) (Nat.le_refl _) l2 (fun k i hk => by simpa using a2 k i hk) ht h') h
  rw [show l.toArray.size = ts.length + hs.length by simp; omega]
  have hsz : ts.length + hs.length = l.length := by omega
  rw [hsz] at this ⊢
  exact this

theorem wp_region_mixB {id : Nat} {a : Act} {w : World} {l : List Oper} (hs ts : List Nat) (hm : P.follows .mixedOrders = true) (hB : mixB l hs ts = true)
    (h : wpHead P l.toArray (fun w' => Below w.heap.size w w') (fun a' => wpTail P l.toArray (fun w' => Below w.heap.size w w') (NoPanic Q) (pick ts l) a' w.drew) (pick hs l) a) : (Code.region id l.toArray true).wp P Q a w :=
  wp_region_mix _ hs ts hm hB (Below.refl _ _).drew h

theorem pick_cons {i : Nat} {r : List Nat} {l : List Oper} {o : Oper} (hi : l[i]? = some o) : pick (i :: r) l = o :: pick r l := by simp [pick, hi]
theorem hstep {l : List Oper} {i : Nat} {r : List Nat} {o : Oper} {a : Act} {Lq : Act → Prop} (hi : l[i]? = some o) (hg : o.guard = none)
    (h : ∃ v, (∀ w, C w → (execOp a.eval o).run P w = .ok (.value v) w) ∧ wpHead P ops C Lq (pick r l) (a.put o.dst v)) : wpHead P ops C Lq (pick (i :: r) l) a := by
  rw [pick_cons hi]
  exact .inl ⟨by simp [Region.wanted, hg], h⟩
theorem hstep_on {l : List Oper} {i : Nat} {r : List Nat} {o : Oper} {a : Act} {Lq : Act → Prop} (hi : l[i]? = some o) (hg : Region.wanted o (yielded ops a.tmps) = true)
    (h : ∃ v, (∀ w, C w → (execOp a.eval o).run P w = .ok (.value v) w) ∧ wpHead P ops C Lq (pick r l) (a.put o.dst v)) : wpHead P ops C Lq (pick (i :: r) l) a := by
  rw [pick_cons hi]
  exact .inl ⟨hg, h⟩
theorem hstep_off {l : List Oper} {i : Nat} {r : List Nat} {o : Oper} {a : Act} {Lq : Act → Prop} (hi : l[i]? = some o) (hg : Region.wanted o (yielded ops a.tmps) = false)
    (h : wpHead P ops C Lq (pick r l) (a.put o.dst undef)) : wpHead P ops C Lq (pick (i :: r) l) a := by
  rw [pick_cons hi]
  exact .inr ⟨hg, h⟩
theorem hdone {l : List Oper} {a : Act} {Lq : Act → Prop} (h : Lq a) : wpHead P ops C Lq (pick [] l) a := h
theorem tstep {l : List Oper} {i i' : Nat} {r : List Nat} {o o' : Oper} {a : Act} {w : World} (hi : l[i]? = some o) (hi' : l[i']? = some o') (hg : o.guard = none)
    (h : ∀ K : Act → World → Prop, (∀ a w, C w → wpTail P ops C Q (pick (i' :: r) l) a w → K a w) → o.wp P a w K Q) : wpTail P ops C Q (pick (i :: i' :: r) l) a w := by
  rw [pick_cons hi, pick_cons hi']
  rw [pick_cons hi'] at h
  exact wpTail_step hg h
theorem tlast {l : List Oper} {i : Nat} {o : Oper} {a : Act} {w : World} (hi : l[i]? = some o) (h : wpList P ops Q [o] a w) : wpTail P ops C Q (pick [i] l) a w := by
  rw [pick_cons hi]
  exact wpTail_last h
theorem wp_gen {c : Code} {a : Act} {w : World} (R : World → Prop) (hR : R w) (h : ∀ W, R W → c.wp P Q a W) : c.wp P Q a w := h w hR
theorem noPanic_gen {a : Act} {w : World} (R : World → Prop) (hR : R w) (h : ∀ W, R W → Q .normal a W) : NoPanic Q .normal a w := h w hR
theorem noPanic_normal {a : Act} {w : World} (h : Q .normal a w) : NoPanic Q .normal a w := h
end
theorem Kp.then_low {S : List Nat} {w a b : World} (h : Kp S w a) (k : Below w.heap.size a b) : Kp S w b :=
  ⟨k.os.trans h.os, k.tape.trans h.tape, k.output.trans h.output, Nat.le_trans h.size k.size, fun i hi hs => (k.block i hi).trans (h.block i hi hs)⟩
theorem Kp.frozen {S : List Nat} {a b : World} {p : Addr} (h : Kp S a b) (hc : a.frozen? p = false) (hl : p.block < a.heap.size) (hs : p.block ∉ S) : b.frozen? p = false :=
  (World.frozen?_of_block (w := a) (h.block p.block hl hs)).trans hc
theorem cellAlloc {w : World} {p : Addr} {v : Value} (h : w.cell? p = some v) (o : Obj) : (w.alloc o).cell? p = some v := cellB ((Below.refl _ _).alloc (Nat.le_refl _) o) h
theorem cellDrew {w : World} {p : Addr} {v : Value} (h : w.cell? p = some v) : w.drew.cell? p = some v := h
theorem cellDrewN {w : World} {p : Addr} {v : Value} (h : w.cell? p = some v) (n : Nat) : (w.drewN n).cell? p = some v := h
theorem cellSetFar {w : World} {p q : Addr} {v : Value} (h : w.cell? p = some v) (hq : q.block ≠ p.block) (u : Value) : (w.setCell q u).cell? p = some v := by
  rw [World.cell?_setCell_far _ _ _ _ hq]; exact h
theorem frozenB {W W' : World} {a : Addr} (hb : Below W.heap.size W W') (hl : a.block < W.heap.size) (h : W.frozen? a = false) : W'.frozen? a = false := (World.frozen?_of_block (hb.block _ hl)).trans h
theorem frozenAlloc {w : World} {p : Addr} (h : w.frozen? p = false) (hl : p.block < w.heap.size) (o : Obj) : (w.alloc o).frozen? p = false := frozenB ((Below.refl _ _).alloc (Nat.le_refl _) o) hl h
theorem frozenDrew {w : World} {p : Addr} (h : w.frozen? p = false) : w.drew.frozen? p = false := h
theorem frozenSet {w : World} {p q : Addr} (h : w.frozen? p = false) (u : Value) : (w.setCell q u).frozen? p = false := by
  simp [go_sem, h]
end Go.Proofs.Ytpobdcdabojhcaa
