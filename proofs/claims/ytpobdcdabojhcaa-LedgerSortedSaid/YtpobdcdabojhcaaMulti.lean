/- Regions that draw their order and hold calls beside memory of their own: the reading operations and the calls in text order, the new blocks wherever they come up, the rest behind them in one order. -/
import Derived.Test.YtpobdcdabojhcaaMix
namespace Go.Proofs.Ytpobdcdabojhcaa
open Go.RowKit

section
variable {P : Program} {ops : Array Oper} {Q : Exit → Act → World → Prop} {md : Region.Mode} {last : Nat}

/-- what the kernel is asked -/
def multiB (md : Region.Mode) (ops : Array Oper) (last : Nat) (loud ts : List Nat) : Nat → List Nat → List Nat → Array Bool → Bool
  | n, i :: r, ms, listed =>
    if loud.contains i then
      match n with
      | 0 => false
      | n + 1 => (Region.ready md ops listed).contains i && (Region.ready md ops listed).all (fun j => j == i || ms.contains j) && (i != last) &&
          multiB md ops last loud ts n r ms (listed.setIfInBounds i true) && ms.all (fun m => multiB md ops last loud ts n (i :: r) (ms.erase m) (listed.setIfInBounds m true))
    else
      match n with
      | 0 => false
      | n + 1 => Region.free md ops listed i && (Region.ready md ops listed).contains i && (i != last) &&
          depB md ops ops.size last i && multiB md ops last loud ts n r ms (listed.setIfInBounds i true)
  | n, [], ms, listed =>
    if ms.isEmpty then tailB md ops last ts listed else
      match n with
      | 0 => false
      | n + 1 => !(Region.ready md ops listed).isEmpty && (Region.ready md ops listed).all (fun j => ms.contains j) && ms.all (fun m => multiB md ops last loud ts n [] (ms.erase m) (listed.setIfInBounds m true))

/-- the reading operations and the calls, one behind the other; M: what the calls turn -/
def wpHeadM (P : Program) (ops : Array Oper) (S : List Nat) (w0 : World) (Lq : Act → (World → Prop) → Prop) : List (Bool × Oper) → (World → Prop) → Act → Prop
  | [], M, a => Lq a M
  | (true, o) :: r, M, a => Region.wanted o (yielded ops a.tmps) = true ∧ ∃ (v : Value) (M' : World → Prop) (f : FuncId) (args : Array Value), (∀ w o', M' w → M' (w.alloc o')) ∧
      (∀ w, Kp S w0 w → M w → (execOp a.eval o).run P w = .ok (.enter f args) w ∧ Calls P f args w (fun e w' => e = .returned v ∧ Kp S w w' ∧ M' w')) ∧ wpHeadM P ops S w0 Lq r M' (a.put o.dst v)
  | (false, o) :: r, M, a => (Region.wanted o (yielded ops a.tmps) = true ∧ ∃ v, (∀ w, Kp S w0 w → (execOp a.eval o).run P w = .ok (.value v) w) ∧ wpHeadM P ops S w0 Lq r M (a.put o.dst v)) ∨
      (Region.wanted o (yielded ops a.tmps) = false ∧ wpHeadM P ops S w0 Lq r M (a.put o.dst undef))

def dstOf (ops : Array Oper) (m : Nat) : Option Tmp := (ops[m]?).bind (·.dst)
/-- the new blocks' addresses in their slots -/
def putNew (ops : Array Oper) (p : Nat → Nat) (l : List Nat) (a : Act) : Act := l.foldl (fun a m => a.put (dstOf ops m) (.pointer (some ⟨p m, 0, none⟩))) a

/-- behind all of them -/
def FinM (P : Program) (ops : Array Oper) (S : List Nat) (w0 : World) (Q : Exit → Act → World → Prop) (Z : Nat → Obj) (MS : List Nat) (tl : List Oper) (a : Act) (M : World → Prop) : Prop :=
  ∀ (p : Nat → Nat) (w2 : World), Kp S w0 w2 → M w2 → (∀ m ∈ MS, w0.heap.size ≤ p m ∧ w2.heap[p m]? = some (Z m)) → (∀ m ∈ MS, ∀ m' ∈ MS, p m = p m' → m = m') →
    wpTail P ops (Kp S w0) Q tl (putNew ops p MS a) w2

def news (P : Program) (ops : Array Oper) (Z : Nat → Obj) (MS : List Nat) : Prop :=
  ∀ m ∈ MS, ∃ o, ops[m]? = some o ∧ o.guard = none ∧ ∀ ρ w, (execOp ρ o).run P w = .ok (.value (.pointer (some ⟨w.heap.size, 0, none⟩))) (w.alloc (Z m))

def apartB (ops : Array Oper) (hs ms : List Nat) : Bool :=
  ms.all fun m => (hs.all fun i => match ops[m]?, ops[i]? with | some om, some oi => om.apart ops oi | _, _ => false) &&
    ms.all fun m' => m == m' || (match ops[m]?, ops[m']? with | some om, some om' => om.apart ops om' | _, _ => false)

theorem putNew_put {p : Nat → Nat} {d : Option Tmp} {v : Value} : ∀ (l : List Nat) (a : Act), (∀ m ∈ l, ∀ x, dstOf ops m = some x → d ≠ some x) → (putNew ops p l a).put d v = putNew ops p l (a.put d v)
  | [], a, _ => rfl
  | m :: r, a, h => by
    have := putNew_put (p := p) (d := d) (v := v) r (a.put (dstOf ops m) (.pointer (some ⟨p m, 0, none⟩))) (fun m' hm' => h m' (List.mem_cons_of_mem _ hm'))
    simp only [putNew, List.foldl_cons] at this ⊢
    rw [this, Act.put_comm a _ _ (h m List.mem_cons_self)]
theorem putNew_same {o : Oper} {p : Nat → Nat} (hs : ∀ cs b, o.op ≠ .select cs b) : ∀ (l : List Nat) (a : Act), (∀ m ∈ l, ∀ x, dstOf ops m = some x → x ∉ o.looksAt ops) →
    execOp (putNew ops p l a).eval o = execOp a.eval o ∧ Region.wanted o (yielded ops (putNew ops p l a).tmps) = Region.wanted o (yielded ops a.tmps)
  | [], a, _ => ⟨rfl, rfl⟩
  | m :: r, a, h => by
    obtain ⟨h1, h2⟩ := putNew_same hs (p := p) r (a.put (dstOf ops m) (.pointer (some ⟨p m, 0, none⟩))) (fun m' hm' => h m' (List.mem_cons_of_mem _ hm'))
    simp only [putNew, List.foldl_cons] at h1 h2 ⊢
    exact ⟨h1.trans (execOp_put o hs a _ _ (h m List.mem_cons_self)), h2.trans (wanted_put o a _ _ (h m List.mem_cons_self))⟩
theorem putNew_congr {p q : Nat → Nat} : ∀ (l : List Nat) (a : Act), (∀ m ∈ l, p m = q m) → putNew ops p l a = putNew ops q l a
  | [], a, _ => rfl
  | m :: r, a, h => by
    simp only [putNew, List.foldl_cons]
    rw [h m List.mem_cons_self]
    exact putNew_congr r _ fun m' hm' => h m' (List.mem_cons_of_mem _ hm')
theorem putNew_perm {p : Nat → Nat} {l l' : List Nat} (h : l.Perm l') : ∀ (a : Act), (∀ m ∈ l, ∀ m' ∈ l, m ≠ m' → ∀ x, dstOf ops m = some x → dstOf ops m' ≠ some x) → putNew ops p l a = putNew ops p l' a := by
  induction h with
  | nil => intro a _; rfl
  | cons x _ ih => intro a h; simp only [putNew, List.foldl_cons]; exact ih _ fun m hm m' hm' => h m (List.mem_cons_of_mem _ hm) m' (List.mem_cons_of_mem _ hm')
  | swap x y l =>
    intro a h
    simp only [putNew, List.foldl_cons]
    by_cases hxy : x = y
    · rw [hxy]
    · rw [Act.put_comm a _ _ (h y (by simp) x (by simp) (Ne.symm hxy))]
  | trans h1 _ ih1 ih2 => intro a h; exact (ih1 a h).trans (ih2 a fun m hm m' hm' => h m (h1.mem_iff.2 hm) m' (h1.mem_iff.2 hm'))

def pickM (loud : List Nat) (hs : List Nat) (l : List Oper) : List (Bool × Oper) := hs.filterMap fun i => (l[i]?).map fun o => (loud.contains i, o)

theorem multi_ok {loud ts : List Nat} {S : List Nat} {w0 : World} {Z : Nat → Obj} {MS : List Nat} {l : List Oper} (hl : ops = l.toArray) (hsel : Region.noSelect ops = true) (hQ : ∀ c d v a w, Q (.panic c) (Act.put a d v) w → Q (.panic c) a w)
    (hS : ∀ x ∈ S, x < w0.heap.size) (hZ : news P ops Z MS) (hnd : MS.Nodup)
    (htl : ts.all (fun i => decide (i < l.length)) = true) (hapm : ∀ m ∈ MS, ∀ m' ∈ MS, m ≠ m' → ∀ x, dstOf ops m = some x → dstOf ops m' ≠ some x) :
    ∀ (n : Nat) (hs ms : List Nat) (listed : Array Bool) (a0 : Act) (w : World) (M : World → Prop) (dn : List Nat) (p : Nat → Nat),
      multiB md ops last loud ts n hs ms listed = true → n = hs.length + ms.length → hs.all (fun i => decide (i < l.length)) = true →
      (∀ i ∈ hs, ∀ m ∈ MS, ∀ oi om, ops[i]? = some oi → ops[m]? = some om → om.apart ops oi = true) →
      Closed md ops listed → Kp S w0 w → M w → (∀ w o', M w → M (w.alloc o')) → (dn ++ ms).Perm MS → (∀ m ∈ dn, w0.heap.size ≤ p m ∧ w.heap[p m]? = some (Z m)) → (∀ m ∈ dn, ∀ m' ∈ dn, p m = p m' → m = m') →
      wpHeadM P ops S w0 (FinM P ops S w0 Q Z MS (pick ts l)) (pickM loud hs l) M a0 → wpAnyC P md ops (Kp S w0) last Q (n + ts.length) listed (putNew ops p dn a0) w := by
  have alc : ∀ (n : Nat) (hs ms : List Nat) (listed : Array Bool) (a0 : Act) (w : World) (M : World → Prop) (dn : List Nat) (p : Nat → Nat) (m : Nat), m ∈ ms →
      (dn ++ ms).Perm MS → Kp S w0 w → (∀ w o', M w → M (w.alloc o')) → M w → (∀ m ∈ dn, w0.heap.size ≤ p m ∧ w.heap[p m]? = some (Z m)) → (∀ m ∈ dn, ∀ m' ∈ dn, p m = p m' → m = m') →
      (∀ (w' : World) (p' : Nat → Nat), Kp S w0 w' → M w' → ((dn ++ [m]) ++ ms.erase m).Perm MS → (∀ k ∈ dn ++ [m], w0.heap.size ≤ p' k ∧ w'.heap[p' k]? = some (Z k)) → (∀ k ∈ dn ++ [m], ∀ k' ∈ dn ++ [m], p' k = p' k' → k = k') →
        wpAnyC P md ops (Kp S w0) last Q (n + ts.length) (listed.setIfInBounds m true) (putNew ops p' (dn ++ [m]) a0) w') →
      wpOp P ops Q m (fun a' w' => (m ≠ last → Kp S w0 w') ∧ wpAnyC P md ops (Kp S w0) last Q (n + ts.length) (listed.setIfInBounds m true) a' w') (putNew ops p dn a0) w := by
    intro n hs ms listed a0 w M dn p m hm hperm hK hMs hM hd hinj hnext
    have hmMS : m ∈ MS := hperm.mem_iff.1 (List.mem_append_right _ hm)
    obtain ⟨o, ho, hg, hrun⟩ := hZ m hmMS
    have hndn : m ∉ dn := fun h => (List.nodup_append.1 (hperm.nodup_iff.2 hnd)).2.2 m h m hm rfl
    unfold wpOp
    simp only [ho]
    rw [if_pos (by simp [Region.wanted, hg])]
    refine .inl ?_
    unfold Oper.wp
    rw [hrun]
    simp only [Oper.upon]
    have hlt : ∀ k ∈ dn, p k < w.heap.size := fun k hk => block_lt (hd k hk).2
    let p' : Nat → Nat := fun k => if k = m then w.heap.size else p k
    have hp' : ∀ k ∈ dn, p' k = p k := fun k hk => by
      have : k ≠ m := fun e => hndn (e ▸ hk)
      simp [p', this]
    have hpm : p' m = w.heap.size := by simp [p']
    have hact : (putNew ops p dn a0).put o.dst (.pointer (some ⟨w.heap.size, 0, none⟩)) = putNew ops p' (dn ++ [m]) a0 := by
      rw [putNew, putNew, List.foldl_append, List.foldl_cons, List.foldl_nil, hpm]
      have : dstOf ops m = o.dst := by simp [dstOf, ho]
      rw [this]
      have := putNew_congr (ops := ops) (p := p') (q := p) dn a0 hp'
      simp only [putNew] at this
      rw [this]
    rw [hact]
    refine ⟨fun _ => hK.alloc _, hnext _ p' (hK.alloc _) (hMs _ _ hM) ?_ ?_ ?_⟩
    · rw [List.append_assoc]
      exact (List.Perm.append_left dn (List.perm_cons_erase hm).symm).trans hperm
    · intro k hk
      rcases List.mem_append.1 hk with hk | hk
      · rw [hp' k hk]
        refine ⟨(hd k hk).1, ?_⟩
        rw [Below.heap_alloc _ _ _ (hlt k hk)]
        exact (hd k hk).2
      · obtain rfl : k = m := by simpa using hk
        rw [hpm]
        exact ⟨hK.size, heap_alloc_new w _⟩
    · intro k hk k' hk' he
      rcases List.mem_append.1 hk with h1 | h1 <;> rcases List.mem_append.1 hk' with h2 | h2
      · rw [hp' k h1, hp' k' h2] at he
        exact hinj k h1 k' h2 he
      · obtain rfl : k' = m := by simpa using h2
        rw [hp' k h1, hpm] at he
        have := hlt k h1
        omega
      · obtain rfl : k = m := by simpa using h1
        rw [hp' k' h2, hpm] at he
        have := hlt k' h2
        omega
      · have e1 : k = m := by simpa using h1
        have e2 : k' = m := by simpa using h2
        rw [e1, e2]
  intro n
  induction n with
  | zero =>
    intro hs ms listed a0 w M dn p hB hn hhs hap hcl hK hM hMs hperm hd hinj h
    have h1 : hs = [] := List.eq_nil_of_length_eq_zero (by omega)
    have h2 : ms = [] := List.eq_nil_of_length_eq_zero (by omega)
    subst h1; subst h2
    rw [List.append_nil] at hperm
    simp only [multiB, List.isEmpty_nil, if_true] at hB
    obtain ⟨l2, a2⟩ := pick_spec l ts htl
    refine tail_ok ts listed _ w (0 + ts.length) (pick ts l) (by omega) l2 (fun k i hk => by subst hl; simpa using a2 k i hk) hB ?_
    have hf : FinM P ops S w0 Q Z MS (pick ts l) a0 M := h
    rw [putNew_perm hperm a0 (fun m hm m' hm' => hapm m (hperm.mem_iff.1 hm) m' (hperm.mem_iff.1 hm'))]
    exact hf p w hK hM (fun m hm => hd m (hperm.mem_iff.2 hm)) (fun m hm m' hm' => hinj m (hperm.mem_iff.2 hm) m' (hperm.mem_iff.2 hm'))
  | succ n ih =>
    intro hs ms listed a0 w M dn p hB hn hhs hap hcl hK hM hMs hperm hd hinj h
    match hs with
    | [] =>
      have hne : ms ≠ [] := fun e => by subst e; simp at hn
      simp only [multiB, show ms.isEmpty = false by simp [hne], Bool.false_eq_true, if_false, Bool.and_eq_true, Bool.not_eq_true', List.all_eq_true, List.contains_iff_mem] at hB
      obtain ⟨⟨hre, hra⟩, hrest⟩ := hB
      rw [show n + 1 + ts.length = (n + ts.length) + 1 by omega]
      refine ⟨fun h0 => by rw [h0] at hre; simp at hre, fun j hj => ?_⟩
      have hjm := hra j hj
      refine alc n [] ms listed a0 w M dn p j hjm hperm hK hMs hM hd hinj fun w' p' k1 k2 k3 k4 k5 => ?_
      exact ih [] (ms.erase j) _ a0 w' M (dn ++ [j]) p' (hrest j hjm) (by rw [List.length_erase_of_mem hjm]; simp at hn ⊢; omega) (by simp) (fun i hi => by cases hi) (hcl.step hj) k1 k2 hMs k3 k4 k5 h
    | i :: r =>
      simp only [List.all_cons, Bool.and_eq_true, decide_eq_true_eq] at hhs
      have hoi : l[i]? = some l[i] := List.getElem?_eq_getElem hhs.1
      have hoi' : ops[i]? = some l[i] := by subst hl; rw [List.getElem?_toArray]; exact hoi
      have hpk : pickM loud (i :: r) l = (loud.contains i, l[i]) :: pickM loud r l := by simp [pickM, hoi]
      rw [hpk] at h
      have hapi := fun m hm => hap i List.mem_cons_self m hm
      have hdif : ∀ m ∈ dn, ∀ x, dstOf ops m = some x → (l[i]).dst ≠ some x := fun m hm x hx => by
        obtain ⟨om, hom, _, _⟩ := hZ m (hperm.mem_iff.1 (List.mem_append_left _ hm))
        have := (Oper.apart_spec (hapi m (hperm.mem_iff.1 (List.mem_append_left _ hm)) _ om hoi' hom)).2.1 x (by simpa [dstOf, hom] using hx)
        exact this
      have hlook : ∀ m ∈ dn, ∀ x, dstOf ops m = some x → x ∉ (l[i]).looksAt ops := fun m hm x hx => by
        obtain ⟨om, hom, _, _⟩ := hZ m (hperm.mem_iff.1 (List.mem_append_left _ hm))
        exact (Oper.apart_spec (hapi m (hperm.mem_iff.1 (List.mem_append_left _ hm)) _ om hoi' hom)).1 x (by simpa [dstOf, hom] using hx)
      have hselI : ∀ cs b, (l[i]).op ≠ .select cs b := fun cs b => Region.noSelect_spec hsel i _ cs b hoi'
      obtain ⟨he1, he2⟩ := putNew_same (ops := ops) (p := p) hselI dn a0 hlook
      rw [show n + 1 + ts.length = (n + ts.length) + 1 by omega]
      by_cases hlo : loud.contains i = true
      · rw [hlo] at h
        simp only [multiB, hlo, if_true, Bool.and_eq_true, List.contains_iff_mem, List.all_eq_true, Bool.or_eq_true, beq_iff_eq, bne_iff_ne] at hB
        obtain ⟨⟨⟨⟨hri, hra⟩, hil⟩, hB1⟩, hB2⟩ := hB
        obtain ⟨hw, v, M', f, args, hMs', hrun, hnx⟩ := h
        refine ⟨fun h0 => (by rw [h0] at hri; cases hri), fun j hj => ?_⟩
        rcases hra j hj with rfl | hjm
        · unfold wpOp
          simp only [hoi']
          rw [if_pos (by rw [he2]; exact hw)]
          refine .inl ?_
          unfold Oper.wp
          rw [he1, (hrun w hK hM).1]
          simp only [Oper.upon]
          refine Calls.mono (hrun w hK hM).2 fun e w' he => ?_
          obtain ⟨rfl, hkp, hm'⟩ := he
          refine ⟨fun _ => hK.trans hkp, ?_⟩
          rw [putNew_put dn a0 hdif]
          refine ih r ms _ (a0.put (l[j]).dst v) w' M' dn p hB1 (by simp at hn ⊢; omega) hhs.2 (fun i' hi' => hap i' (List.mem_cons_of_mem _ hi')) (hcl.step hri) (hK.trans hkp) hm' hMs' hperm (fun m hm => ?_) hinj hnx
          obtain ⟨q1, q2⟩ := hd m hm
          exact ⟨q1, (hkp.block _ (block_lt q2) fun hx => by have := hS _ hx; omega).trans q2⟩
        · refine alc n (i :: r) ms listed a0 w M dn p j hjm hperm hK hMs hM hd hinj fun w' p' k1 k2 k3 k4 k5 => ?_
          refine ih (i :: r) (ms.erase j) _ a0 w' M (dn ++ [j]) p' (hB2 j hjm) (by rw [List.length_erase_of_mem hjm]; have := List.length_pos_of_mem hjm; simp at hn ⊢; omega) (by simp only [List.all_cons, Bool.and_eq_true, decide_eq_true_eq]; exact hhs) hap (hcl.step hj) k1 k2 hMs k3 k4 k5 ?_
          rw [hpk, hlo]
          exact ⟨hw, v, M', f, args, hMs', hrun, hnx⟩
      · have hlf : loud.contains i = false := by simpa using hlo
        rw [hlf] at h
        simp only [multiB, hlf, Bool.false_eq_true, if_false, Bool.and_eq_true, List.contains_iff_mem, bne_iff_ne] at hB
        obtain ⟨⟨⟨⟨hf, hr⟩, hil⟩, hlw⟩, hrest⟩ := hB
        have key : ∀ v, YieldsC P ops (Kp S w0) (l[i]) v (putNew ops p dn a0) → wpHeadM P ops S w0 (FinM P ops S w0 Q Z MS (pick ts l)) (pickM loud r l) M (a0.put (l[i]).dst v) →
            wpAnyC P md ops (Kp S w0) last Q (n + ts.length + 1) listed (putNew ops p dn a0) w := by
          intro v hy hnx
          refine wpAnyC_first (md := md) hoi' (Region.noSelect_spec hsel) (fun c a w => hQ c _ v a w) hil hlw (n + ts.length) listed _ w hcl (Region.free_spec hoi' hf) hr hy hK ?_
          rw [putNew_put dn a0 hdif]
          exact ih r ms _ (a0.put (l[i]).dst v) w M dn p hrest (by simp at hn ⊢; omega) hhs.2 (fun i' hi' => hap i' (List.mem_cons_of_mem _ hi')) (hcl.step hr) hK hM hMs hperm hd hinj hnx
        rcases h with ⟨hw, v, hv, hnx⟩ | ⟨hw, hnx⟩
        · exact key v (.inl ⟨by rw [he2]; exact hw, fun w hw => by rw [he1]; exact hv w hw⟩) hnx
        · exact key undef (.inr ⟨by rw [he2]; exact hw, rfl⟩) hnx

def multiAll (l : List Oper) (loud hs ms ts : List Nat) : Bool :=
  Region.noSelect l.toArray && multiB .any l.toArray (ts.getLast?.getD 0) loud ts (hs.length + ms.length) hs ms (Array.replicate l.length false) &&
    decide (hs.length + ms.length + ts.length = l.length) && hs.all (fun i => decide (i < l.length)) && ts.all (fun i => decide (i < l.length)) && apartB l.toArray hs ms &&
    ms.all (fun m => m != ts.getLast?.getD 0) && decide ms.Nodup

/-- THE REGION: its reading operations and calls (numbers hs; the calls are 'loud'), its new blocks (ms), then the others (ts) in their order; the calls turn only the blocks S -/
theorem wp_region_multi {id : Nat} {a : Act} {w : World} {l : List Oper} (S : List Nat) (Z : Nat → Obj) (M : World → Prop) (loud hs ms ts : List Nat) (hm : P.follows .mixedOrders = true) (hB : multiAll l loud hs ms ts = true)
    (hS : ∀ x ∈ S, x < w.heap.size) (hZ : news P l.toArray Z ms) (hM : M w.drew) (hMs : ∀ w o', M w → M (w.alloc o'))
    (h : wpHeadM P l.toArray S w (FinM P l.toArray S w (NoPanic Q) Z ms (pick ts l)) (pickM loud hs l) M a) : (Code.region id l.toArray true).wp P Q a w := by
  refine wp_region_noPanic ?_
  simp only [multiAll, Bool.and_eq_true, decide_eq_true_eq] at hB
  obtain ⟨⟨⟨⟨⟨⟨⟨hsel, hmB⟩, hlen⟩, e1⟩, e2⟩, hap⟩, hml⟩, hnd⟩ := hB
  have hap' := hap
  simp only [apartB, List.all_eq_true, Bool.and_eq_true, Bool.or_eq_true, beq_iff_eq] at hap
  have hapm : ∀ m ∈ ms, ∀ m' ∈ ms, m ≠ m' → ∀ x, dstOf l.toArray m = some x → dstOf l.toArray m' ≠ some x := by
    intro m hm m' hm' hne x hx
    rcases (hap m hm).2 m' hm' with he | he
    · exact absurd he hne
    · obtain ⟨om, hom, _, _⟩ := hZ m hm
      obtain ⟨om', hom', _, _⟩ := hZ m' hm'
      rw [hom, hom'] at he
      have := (Oper.apart_spec he).2.1 x (by simpa [dstOf, hom] using hx)
      simpa [dstOf, hom'] using this
  refine wp_region_any hm (wpAny_of_C (C := Kp S w) (last := ts.getLast?.getD 0) _ _ _ _ ?_)
  have := multi_ok (P := P) (Q := NoPanic Q) (md := .any) (last := ts.getLast?.getD 0) (loud := loud) (ts := ts) (S := S) (w0 := w) (Z := Z) (MS := ms) (l := l) rfl hsel (fun c d v a w h => h) hS hZ
    hnd e2 hapm (hs.length + ms.length) hs ms (Array.replicate l.length false) a w.drew M [] (fun _ => 0) hmB rfl e1
    (fun i hi m hm oi om hoi hom => by have := (hap m hm).1 i hi; rw [hom, hoi] at this; exact this)
    (closed_start _) (Kp.refl S w).drew hM hMs (by simp) (by simp) (by simp) h
  rw [show l.toArray.size = hs.length + ms.length + ts.length by simp; omega]
  have hsz : hs.length + ms.length + ts.length = l.length := by omega
  rw [hsz] at this ⊢
  exact this
theorem pickM_cons {loud : List Nat} {i : Nat} {r : List Nat} {l : List Oper} {o : Oper} (hi : l[i]? = some o) : pickM loud (i :: r) l = (loud.contains i, o) :: pickM loud r l := by simp [pickM, hi]
variable {S : List Nat} {w0 : World} {Lq : Act → (World → Prop) → Prop} {M : World → Prop} {l : List Oper} {loud : List Nat}
theorem mstep {i : Nat} {r : List Nat} {o : Oper} {a : Act} (hl : loud.contains i = false) (hi : l[i]? = some o) (hg : o.guard = none)
    (h : ∃ v, (∀ w, Kp S w0 w → (execOp a.eval o).run P w = .ok (.value v) w) ∧ wpHeadM P ops S w0 Lq (pickM loud r l) M (a.put o.dst v)) : wpHeadM P ops S w0 Lq (pickM loud (i :: r) l) M a := by
  rw [pickM_cons hi, hl]
  exact .inl ⟨by simp [Region.wanted, hg], h⟩
theorem mstep_on {i : Nat} {r : List Nat} {o : Oper} {a : Act} (hl : loud.contains i = false) (hi : l[i]? = some o) (hg : Region.wanted o (yielded ops a.tmps) = true)
    (h : ∃ v, (∀ w, Kp S w0 w → (execOp a.eval o).run P w = .ok (.value v) w) ∧ wpHeadM P ops S w0 Lq (pickM loud r l) M (a.put o.dst v)) : wpHeadM P ops S w0 Lq (pickM loud (i :: r) l) M a := by
  rw [pickM_cons hi, hl]
  exact .inl ⟨hg, h⟩
theorem mstep_off {i : Nat} {r : List Nat} {o : Oper} {a : Act} (hl : loud.contains i = false) (hi : l[i]? = some o) (hg : Region.wanted o (yielded ops a.tmps) = false)
    (h : wpHeadM P ops S w0 Lq (pickM loud r l) M (a.put o.dst undef)) : wpHeadM P ops S w0 Lq (pickM loud (i :: r) l) M a := by
  rw [pickM_cons hi, hl]
  exact .inr ⟨hg, h⟩
theorem mcall {i : Nat} {r : List Nat} {o : Oper} {a : Act} (hl : loud.contains i = true) (hi : l[i]? = some o) (hg : Region.wanted o (yielded ops a.tmps) = true)
    (h : ∃ (v : Value) (M' : World → Prop) (f : FuncId) (args : Array Value), (∀ w o', M' w → M' (w.alloc o')) ∧
      (∀ w, Kp S w0 w → M w → (execOp a.eval o).run P w = .ok (.enter f args) w ∧ Calls P f args w (fun e w' => e = .returned v ∧ Kp S w w' ∧ M' w')) ∧ wpHeadM P ops S w0 Lq (pickM loud r l) M' (a.put o.dst v)) : wpHeadM P ops S w0 Lq (pickM loud (i :: r) l) M a := by
  rw [pickM_cons hi, hl]
  exact ⟨hg, h⟩
theorem mdone {a : Act} (h : Lq a M) : wpHeadM P ops S w0 Lq (pickM loud [] l) M a := h
end
theorem Kp.nil_below {a b : World} (h : Kp [] a b) : Below a.heap.size a b := ⟨h.os, h.tape, h.output, h.size, fun k hk => h.block k hk (by simp)⟩
theorem Kp.setCell {S : List Nat} {w a : World} (h : Kp S w a) {p : Addr} (hp : w.heap.size ≤ p.block) (v : Value) : Kp S w (a.setCell p v) :=
  h.then_low ((Below.refl w.heap.size a).setCell hp v)
theorem Kp.low {S : List Nat} {w a b : World} (h : Kp S w a) (k : Kp S a b) : Kp S w b := h.trans k
theorem cell_heap {w : World} {b : Nat} {cs : Array Value} {e : TypeId} {f : Nat × Nat} (h : w.heap[b]? = some (.cells cs e f)) {j : Nat} {v : Value} (hj : cs[j]? = some v) : w.cell? ⟨b, j, none⟩ = some v := by
  simp [World.cell?, h, hj]
theorem frozen_heap {w : World} {b : Nat} {cs : Array Value} {e : TypeId} (h : w.heap[b]? = some (.cells cs e (0, 0))) (j : Nat) : w.frozen? ⟨b, j, none⟩ = false := by
  simp [World.frozen?, h]
end Go.Proofs.Ytpobdcdabojhcaa
