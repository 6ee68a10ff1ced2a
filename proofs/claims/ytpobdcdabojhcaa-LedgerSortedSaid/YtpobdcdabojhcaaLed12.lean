/- Entries: the program's. -/
import Derived.Test.YtpobdcdabojhcaaLed11
import Derived.Test.YtpobdcdabojhcaaLed7
namespace Go.Proofs.Ytpobdcdabojhcaa
open Go.RowKit Go.Shelf Go.Sort
set_option linter.unusedVariables false
set_option linter.unusedSimpArgs false

theorem txnCmp_lt (a b c d : Int) : txnCmp a b c d < 0 ↔ a < c ∨ (a = c ∧ b < d) := by
  unfold txnCmp or2 cmp3
  repeat' split
  all_goals omega
def entLt (x y : Ent) : Int := txnCmp x.txn.c x.txn.s y.txn.c y.txn.s
theorem entLt_of (x y : Ent) : ltOf entLt x y = true ↔ x.txn.c < y.txn.c ∨ (x.txn.c = y.txn.c ∧ x.txn.s < y.txn.s) := by
  unfold ltOf entLt
  rw [decide_eq_true_eq, txnCmp_lt]
theorem swo_ent : SWO (ltOf entLt) where
  irrefl x := by
    rw [← Bool.not_eq_true, entLt_of]
    omega
  trans x y z h1 h2 := by
    rw [entLt_of] at *
    omega
  ntrans x y z h1 h2 := by
    rw [← Bool.not_eq_true, entLt_of] at *
    omega
/-- slices.SortFunc over entries, by whatever comparison -/
theorem sort41_own (cf : Ent → Ent → Int) (gf : Nat) (hO : SWO (ltOf cf)) (hen : ∀ args w, (callFunc gf args).run Try.prog w = .ok (.enter gf args) w)
    (hcmp : ∀ a b w, Calls Try.prog gf #[entV a, entV b] w fun r w' => r = .returned (.int .i64 (cf a b)) ∧ Grew w w')
    (base : Nat) (v : Value) (xs : List Ent) (w : World) (hown : w.ownsRow base 33 7 v xs.length (xs.flatMap entL)) (hl : xs.length < 4611686018427387904) :
    Calls Try.prog 41 #[v, .func (.func gf) #[] #[]] w fun e w' => e = .returned (.tuple #[]) ∧ ∃ ys : List Ent, ys.Perm xs ∧ ys.Pairwise (fun a b => ltOf cf b a = false) ∧ w'.ownsRow base 33 7 v ys.length (ys.flatMap entL) ∧ Kp v.ownBlock.toList w w' :=
  sort_own (enc := entL) (K := 7) (T := 33) (fun _ => rfl) (by omega)
    (fun w => AnyF.slices_SortFunc_none (P := Try.prog) (ρ := Ytpobdcdabojhcaa.sort41_ren) { sort41 with } none 0 _ w)
    (fun blk off cap d w hH hblk hsz => AnyQ.slices_SortFunc sort41 7 Try.isAgg33 Try.sizeOf33 entL (fun _ => rfl) ent_one cf hO gf #[] blk off cap d w hen
      (fun m os dk _ x y => by
        have h := hcmp x y (sortWorldK entL 7 w blk off m dk os)
        simpa using h.mono fun e w' ⟨he, hg⟩ => ⟨he, hg⟩) hH hblk hsz)
    base v xs w hown hl

theorem collect54 (g : Nat) (lb : Array Value) (eg : ∀ args w, (callFunc g args).run Try.prog w = .ok (.enter g args) w)
    (S : List Ent → Prop) (N : Nat) (hN : N * 40 ≤ 140737488355328) (w : World) (hseq : SeqStopsA Fence.wide 2 Try.prog g lb (fun e : Ent => #[entV e]) S (fun _ => True) N w) :
    Calls Try.prog 54 #[.func (.func g) #[] lb] w fun e w' => ∃ v ys, e = .returned v ∧ S ys ∧ w'.ownsRow w.heap.size 33 7 v ys.length (ys.flatMap entL) ∧ Below w.heap.size w w' := by
  have h := callsIn_wide.1 (appendSeq69 Fence.wide 3 trivial rfl (by omega) g lb trivial eg S N hN w hseq)
  go_enter Try.func54, Try.ntmps54
  go_wp2_with (first | (go_at_call 69; refine h.mono ?_; rintro e w' ⟨v, ys, rfl, hS, hrow, hb⟩))
  go_ret
  exact ⟨v, ys, rfl, hS, hrow, hb⟩

theorem enters40 : ∀ args w, (callFunc 40 args).run Try.prog w = .ok (.enter 40 args) w := enters_of Try.func40 (by kernel_rfl) rfl
theorem enters55 : ∀ args w, (callFunc 55 args).run Try.prog w = .ok (.enter 55 args) w := enters_of Try.func55 (by kernel_rfl) rfl
theorem sortedFunc38 (g : Nat) (lb : Array Value) (eg : ∀ args w, (callFunc g args).run Try.prog w = .ok (.enter g args) w)
    (cf : Ent → Ent → Int) (gf : Nat) (hO : SWO (ltOf cf)) (hen : ∀ args w, (callFunc gf args).run Try.prog w = .ok (.enter gf args) w)
    (hcmp : ∀ a b w, Calls Try.prog gf #[entV a, entV b] w fun r w' => r = .returned (.int .i64 (cf a b)) ∧ Grew w w')
    (S : List Ent → Prop) (N : Nat) (hN : N * 40 ≤ 140737488355328) (hS : ∀ ys, S ys → ys.length < 4611686018427387904) (w : World) (hseq : SeqStopsA Fence.wide 2 Try.prog g lb (fun e : Ent => #[entV e]) S (fun _ => True) N w) :
    Calls Try.prog 38 #[.func (.func g) #[] lb, .func (.func gf) #[] #[]] w fun e w' => ∃ (v : Value) (ys zs : List Ent), e = .returned v ∧ S ys ∧ zs.Perm ys ∧ zs.Pairwise (fun a b => ltOf cf b a = false) ∧ w'.ownsRow w.heap.size 33 7 v zs.length (zs.flatMap entL) ∧ Below w.heap.size w w' := by
  have hc := collect54 g lb eg S N hN w hseq
  go_enter Try.func38, Try.ntmps38
  go_wp2_with (first
    | (go_at_call 54; refine hc.mono ?_; rintro e w1 ⟨v, ys, rfl, hSy, hrow, hb⟩; have hR := Lib.hid hrow; have hBB := Lib.hid hb; have hSS := Lib.hid hSy; clear hrow hb hSy hc)
    | (go_at_call 41; refine (sort41_own cf gf hO hen hcmp w.heap.size v ys _ hR.out (hS _ hSS.out)).mono ?_; rintro e w2 ⟨rfl, zs, h1, h2, h3, h4⟩))
  go_ret
  exact ⟨v, ys, zs, rfl, hSS.out, h1, h2, h3, Kp.below_new h4 hBB.out (fun x hx => (hR.out.lt x (by simpa using hx)).1)⟩

/-- strictly rising by transaction -/
def earlier (a b : Txn) : Bool := if a.c = b.c then decide (a.s < b.s) else decide (a.c < b.c)
def EntsOf (L xs : List Ent) : Prop := xs.Perm L ∧ xs.Pairwise (fun a b => earlier a.txn b.txn = true)
theorem sorted_strict {L xs : List Ent} (hn : (L.map (·.txn)).Nodup) (hp : xs.Perm L) (hs : xs.Pairwise (fun a b => ltOf entLt b a = false)) : EntsOf L xs := by
  refine ⟨hp, ?_⟩
  have hnd : (xs.map (·.txn)).Nodup := (hp.map _).nodup_iff.2 hn
  rw [List.pairwise_iff_getElem] at hs ⊢
  intro i j hi hj hij
  have hr := hs i j hi hj hij
  rw [← Bool.not_eq_true, entLt_of] at hr
  have hne : xs[i].txn ≠ xs[j].txn := by
    intro he
    have := (List.getElem_inj hnd (i := i) (j := j) (h₀ := by simpa using hi) (h₁ := by simpa using hj)).1 (by simpa using he)
    omega
  unfold earlier
  rcases txn_cases xs[i].txn xs[j].txn with h | ⟨h, h'⟩ | h
  · rw [if_neg h]; simp only [decide_eq_true_eq]; omega
  · rw [if_pos h]; simp only [decide_eq_true_eq]; omega
  · exact absurd h hne

theorem own_mono {w : World} {base base' : Nat} {e : TypeId} {size : Nat} {v : Value} {k : Nat} {xs : List Value} (h : w.ownsRow base e size v k xs) (hb : base' ≤ base) : w.ownsRow base' e size v k xs := by
  refine ⟨h.1, ?_⟩
  rcases h.2 with hn | ⟨g, cap, cur, hv, hbg, rest⟩
  · exact .inl hn
  · exact .inr ⟨g, cap, cur, hv, Nat.le_trans hb hbg, rest⟩
theorem values39 (mb : Nat) (w : World) : Calls Try.prog 39 #[.map (some mb)] w fun e w' => e = .returned (.func (.func 55) #[] #[.pointer (some ⟨w.heap.size, 0, none⟩)]) ∧ w' = w.alloc (.cells #[.map (some mb)] 65) := by
  go_enter Try.func39, Try.ntmps39
  go_wp2_with fail
  go_ret
  exact ⟨rfl, rfl⟩
set_option maxHeartbeats 4000000 in
theorem entries22 (lb mb : Nat) (L : List Ent) (w : World) (hL : LedAt w lb mb L) (hn : (L.map (·.txn)).Nodup) (hbd : L.length * 40 ≤ 140737488355328) :
    Calls Try.prog 22 #[.pointer (some ⟨lb, 0, none⟩)] w fun e w' => ∃ (v : Value) (xs : List Ent), e = .returned v ∧ EntsOf L xs ∧ w'.ownsRow w.heap.size 33 7 v xs.length (xs.flatMap entL) ∧ Below w.heap.size w w' := by
  have c0 := hL.cell
  have hLL := Lib.hid hL
  have hlt := hL.lt
  go_enter Try.func22, Try.ntmps22
  have hseq : SeqStopsA Fence.wide 2 Try.prog 55 #[.pointer (some ⟨w.heap.size, 0, none⟩)] (fun e : Ent => #[entV e]) (fun ys => ys.Perm L) (fun _ => True) L.length (w.alloc (.cells #[.map (some mb)] 65)) :=
    values_stops Fence.wide 2 trivial rfl (by omega) w.heap.size mb L _ (by simp) (by have := cell_heap (heap_alloc_new w (.cells #[.map (some mb)] 65)) (j := 0) (v := .map (some mb)) rfl; exact this) (hLL.out.map.alloc _)
  have hSF := sortedFunc38 55 _ enters55 entLt 40 swo_ent enters40 (fun a b w => entries40 a b w) _ L.length hbd (fun ys h => by rw [h.length_eq]; omega) _ hseq
  have hF := Lib.hid hSF
  clear hseq hSF
  go_wp2_with (first
    | (go_at_call 39; refine (values39 mb _).mono ?_; rintro e w1 ⟨rfl, rfl⟩)
    | (go_at_call 38; refine hF.out.mono ?_; rintro e w2 ⟨v, ys, zs, rfl, h1, h2, h3, h4, h5⟩))
  go_ret
  exact ⟨v, zs, rfl, sorted_strict hn (h2.trans h1) h3, own_mono h4 (by simp), chain h5 ((Below.refl _ w).alloc (Nat.le_refl _) _)⟩
end Go.Proofs.Ytpobdcdabojhcaa
