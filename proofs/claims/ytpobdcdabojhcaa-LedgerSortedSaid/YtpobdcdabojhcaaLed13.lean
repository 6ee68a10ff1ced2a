/- Commits: the program's. -/
import Derived.Test.YtpobdcdabojhcaaLed12
namespace Go.Proofs.Ytpobdcdabojhcaa
open Go.RowKit Go.Shelf Go.Sort
set_option linter.unusedVariables false
set_option linter.unusedSimpArgs false

def comLt (x y : Ent) : Int := or2 (stampCmp x.at_ y.at_) (txnCmp x.txn.c x.txn.s y.txn.c y.txn.s)
theorem comLt_of (x y : Ent) : ltOf comLt x y = true ↔ (x.at_.w < y.at_.w ∨ (x.at_.w = y.at_.w ∧ (x.at_.l < y.at_.l ∨ (x.at_.l = y.at_.l ∧ (x.at_.n < y.at_.n ∨ (x.at_.n = y.at_.n ∧ (x.txn.c < y.txn.c ∨ (x.txn.c = y.txn.c ∧ x.txn.s < y.txn.s)))))))) := by
  unfold ltOf comLt
  rw [decide_eq_true_eq]
  have hl := txnCmp_lt x.txn.c x.txn.s y.txn.c y.txn.s
  generalize txnCmp x.txn.c x.txn.s y.txn.c y.txn.s = z at hl
  obtain ⟨_, _, _, ⟨a, b, c⟩⟩ := x
  obtain ⟨_, _, _, ⟨a', b', c'⟩⟩ := y
  simp only [stampCmp, lessS, Stamp.mk.injEq, or2]
  rw [← hl]
  by_cases h1 : a = a' <;> by_cases h2 : b = b' <;> by_cases h3 : c = c' <;> simp [h1, h2, h3] <;> (repeat' split) <;> omega
theorem swo_com : SWO (ltOf comLt) where
  irrefl x := by
    rw [← Bool.not_eq_true, comLt_of]
    omega
  trans x y z h1 h2 := by
    rw [comLt_of] at *
    omega
  ntrans x y z h1 h2 := by
    rw [← Bool.not_eq_true, comLt_of] at *
    omega
theorem enters42 : ∀ args w, (callFunc 42 args).run Try.prog w = .ok (.enter 42 args) w := enters_of Try.func42 (by kernel_rfl) rfl
def isCom (home : Int) (e : Ent) : Bool := decide (e.oc = 1) && decide (e.home = home)
/-- the commits of a home, by stamp, then by transaction -/
def ComsOf (L : List Ent) (home : Int) (xs : List Ent) : Prop := xs.Perm (L.filter (isCom home)) ∧ xs.Pairwise (fun a b => ltOf comLt b a = false)
theorem own_next {wr wn : World} {base r b n e sz : Nat} {v : Value} {kv done : List (Value × Value)} {xs : List Value} (h : wr.ownsRow base e sz v n xs) (hk : Kp [r] wr wn) (hr : r < base) : wn.ownsRow base e sz v n xs :=
  h.kept (row := some r) hk.grown (by
    have hlt := h.lt
    cases hv : v.ownBlock with
    | none => exact .inl rfl
    | some g => refine .inr fun e => ?_; cases e; have := hlt _ hv; omega)
theorem own_not_walk {w : World} {base n : Nat} {e : TypeId} {sz : Nat} {v : Value} {xs : List Value} (h : w.ownsRow base e sz v n xs) : ∀ (j : Nat) (o : Obj), v.ownBlock = some j → w.heap[j]? = some o → o.isWalk = false := by
  intro j o hj ho
  rcases h.2 with ⟨rfl, _⟩ | ⟨g, cap, cur, rfl, _, hh, _⟩
  · cases hj
  · cases hj
    rw [hh] at ho
    cases ho
    rfl
theorem own_below {w w' : World} {base n : Nat} {e : TypeId} {sz : Nat} {v : Value} {xs : List Value} (h : w.ownsRow base e sz v n xs) (hb : Below w.heap.size w w') : w'.ownsRow base e sz v n xs :=
  h.kept (row := none) ⟨hb.os, hb.tape, hb.output, hb.size, fun k hk _ => hb.block k hk⟩ (by cases h : v.ownBlock <;> simp)
set_option maxRecDepth 100000 in
set_option maxHeartbeats 4000000 in
theorem commits23 (lb mb : Nat) (L : List Ent) (home : Int) (w : World) (hL : LedAt w lb mb L) (hbd : L.length * 40 ≤ 140737488355328) :
    Calls Try.prog 23 #[.pointer (some ⟨lb, 0, none⟩), .int .u32 home] w fun e w' => ∃ (v : Value) (xs : List Ent), e = .returned v ∧ ComsOf L home xs ∧ w'.ownsRow w.heap.size 33 7 v xs.length (xs.flatMap entL) ∧ Below w.heap.size w w' := by
  obtain ⟨i0, hi, hz0, hz1, hz2⟩ := info_parts (P := Try.prog) (e := 33) (z := entV Ent.zero) (size := 7) (bytes := 40) (by kernel_rfl)
  have c0 := hL.cell
  have hlb := hL.lt
  have hmlt := hL.map.lt
  obtain ⟨ob, hrange, hit⟩ := run_range_map (P := Try.prog) Try.underlying65 hL.map
  have hIT := Lib.hid hit
  have hI := Lib.hid (And.intro hi (And.intro hz0 (And.intro hz1 hz2)))
  have hlen0 : (entKV L).length = L.length := by simp [entKV]
  clear hL hit hi hz0 hz1 hz2
  go_enter Try.func23, Try.ntmps23
  go_wp2_with fail
  go_loopw [5] (fun v wr => ∃ (done : List (Value × Value)) (ys : List Ent), Iter wr w.heap.size mb (entKV L) done ∧ done = entKV ys ∧ Below w.heap.size w wr ∧ wr.ownsRow (w.heap.size + 1) 33 7 v (ys.filter (isCom home)).length ((ys.filter (isCom home)).flatMap entL)) (fun _ wr => L.length - seenOf wr w.heap.size)
  case atStart => exact ⟨[], [], hIT.out, rfl, (Below.refl _ _).alloc (Nat.le_refl _) _, World.ownsRow_nil _ _ _ _⟩
  case round =>
    obtain ⟨done, ys, hit, hd, hbw, hown⟩ := hrel
    have hseen := hit.seen
    have hB := Lib.hid hbw
    have hO := Lib.hid hown
    have hdl : done.length = ys.length := by rw [hd]; simp [entKV]
    rcases run_next_map' (P := Try.prog) 0 hit with ⟨hperm, hrun⟩ | ⟨p, hp, wn, hrun, hit', hkp, hsz, hlen, hnd⟩
    · have hP : ys.Perm L := by
        rw [hd] at hperm
        unfold entKV at hperm
        exact perm_map_inj (fun a b h => ent_inj (Prod.mk.injEq .. ▸ h : _ ∧ _).2) hperm
      have hPF := hP.filter (isCom home)
      have hl9 : (ys.filter (isCom home)).length < 4611686018427387904 := by
        have h1 := List.length_filter_le (isCom home) ys
        rw [hP.length_eq] at h1
        omega
      have hPH := Lib.hid hPF
      clear hit hseen hperm hbw hown hP hPF
      go_wp2_with (first | (go_at_call 41; refine (sort41_own comLt 42 swo_com enters42 (fun a b w => commits42 a b w) (w.heap.size + 1) u5 _ _ hO.out hl9).mono ?_; rintro e wd ⟨rfl, zs, h1, h2, h3, h4⟩; clear hrun))
      go_ret
      exact ⟨u5, zs, rfl, ⟨h1.trans hPH.out, h2⟩, own_mono h3 (by omega), Kp.below_new h4 hB.out (fun x hx => by have := hO.out.lt x (by simpa using hx); omega)⟩
    · obtain ⟨x, hx, rfl⟩ := List.mem_map.1 hp
      have hent := run_entry_map' (P := Try.prog) hit'
      have hb2 : Below w.heap.size w wn := hbw.trans (hkp.below hbw.size (by simp))
      have hO2 := own_next (b := mb) (kv := done) (done := done) hown hkp (Nat.lt_succ_self _)
      have hOW := Lib.hid hO2
      have hIT2 := Lib.hid hit'
      replace hB := Lib.hid hb2
      have hbl : w.heap.size < wn.heap.size := hit'.lt.2
      have hl3 : (ys.filter (isCom home)).length < L.length := by
        have h1 := List.length_filter_le (isCom home) ys
        rw [hdl, hlen0] at hlen
        omega
      have hsnoc : (ys ++ [x]).filter (isCom home) = ys.filter (isCom home) ++ (if isCom home x then [x] else []) := by rw [List.filter_append, List.filter_cons]; simp
      have hSN := Lib.hid hsnoc
      have hlen9 := Lib.hid hlen
      clear hit hit' hsz hkp hb2 hbw hown hO2 hO c0 hsnoc hlen
      have hcs : x.oc ≠ 1 ∨ (x.oc = 1 ∧ x.home ≠ home) ∨ (x.oc = 1 ∧ x.home = home) := by omega
      have hend : ∀ (w' : World), KeepsWalks wn w' → Iter w' w.heap.size mb (entKV L) (entKV (ys ++ [x])) ∧ L.length - seenOf w' w.heap.size < L.length - seenOf wr w.heap.size := by
        intro w' hw
        have h2 : Iter wn w.heap.size mb (entKV L) (entKV (ys ++ [x])) := by
          have := hIT2.out
          rw [hd] at this
          simpa [entKV] using this
        have h3 := h2.of_walks hw
        refine ⟨h3, ?_⟩
        have h5 := hlen9.out
        rw [h3.seen, hseen, hdl]
        rw [hdl, hlen0] at h5
        simp only [entKV, List.length_map, List.length_append, List.length_singleton]
        omega
      have hEND := Lib.hid hend
      clear hend
      rcases hcs with hc | ⟨hc, hc2⟩ | ⟨hc, hc2⟩
      rotate_left 2
      · have hyes : isCom home x = true := by simp [isCom, hc, hc2]
        obtain ⟨xt, xh, xo, xa⟩ := x
        simp only at hc hc2
        subst hc
        subst hc2
        go_wp2_with (first
          | (at_builtin; refine wpList_append_own _ rfl _ _ 22 rfl (w.heap.size + 1) 33 i0 (entV Ent.zero) 7 40 Try.underlying22 hI.out.1 hI.out.2.1 hI.out.2.2.1 hI.out.2.2.2 rfl (by decide) u5 (ys.filter (isCom xh)).length ((ys.filter (isCom xh)).flatMap entL) rfl (own_below hOW.out (((Below.refl _ wn).alloc (Nat.le_refl _) _).alloc (by simp) _)) ⟨wn.heap.size + 1, 0, none⟩ 1 1 (entL (⟨xt, xh, 1, xa⟩ : Ent)) rfl rfl ?hn1 (ent_one (⟨xt, xh, 1, xa⟩ : Ent)) ?hn3 ?hn4 ?hn5 ?_
             rotate_right 1
             intro v' w2 hown' hgrow hnil
             have hX := Lib.hid (And.intro hown' hgrow)
             clear hown' hgrow hnil))
        case hn3 => simp only [maxLen]; omega
        case hn4 => omega
        case hn5 => first | omega | (simp; omega)
        obtain ⟨hown', hgrow⟩ := hX.out
        have hbA : Below wn.heap.size wn ((wn.alloc (.cells (entC (⟨xt, xh, 1, xa⟩ : Ent)) 33)).alloc (.cells (entC (⟨xt, xh, 1, xa⟩ : Ent)) 33)) := ((Below.refl _ wn).alloc (Nat.le_refl _) _).alloc (by simp) _
        have hOA := own_below hOW.out hbA
        have hkA : KeepsWalks wn ((wn.alloc (.cells (entC (⟨xt, xh, 1, xa⟩ : Ent)) 33)).alloc (.cells (entC (⟨xt, xh, 1, xa⟩ : Ent)) 33)) := (KeepsWalks.alloc _ _).trans (KeepsWalks.alloc _ _)
        obtain ⟨k1, k2⟩ := hEND.out w2 (hkA.trans (KeepsWalks.of_grownBy hgrow (own_not_walk hOA)))
        have k3 : w2.ownsRow (w.heap.size + 1) 33 7 v' ((ys ++ [(⟨xt, xh, 1, xa⟩ : Ent)]).filter (isCom xh)).length (((ys ++ [(⟨xt, xh, 1, xa⟩ : Ent)]).filter (isCom xh)).flatMap entL) := by
          rw [hSN.out, hyes]
          simpa using hown'
        have k4 : Below w.heap.size w w2 := (chain (w := w) hbA hB.out).grown hgrow (by simp; omega) (fun k e => by have := hOA.lt k e; omega)
        exact ⟨⟨_, ys ++ [(⟨xt, xh, 1, xa⟩ : Ent)], k1, rfl, k4, k3⟩, k2⟩
      rotate_left 1
      · have hno : isCom home x = false := by simp [isCom, hc, hc2]
        obtain ⟨xt, xh, xo, xa⟩ := x
        simp only at hc hc2
        subst hc
        go_wp2_with fail
        obtain ⟨k1, k2⟩ := hEND.out _ (KeepsWalks.alloc wn (.cells (entC (⟨xt, xh, 1, xa⟩ : Ent)) 33))
        have k3 : (wn.alloc (.cells (entC (⟨xt, xh, 1, xa⟩ : Ent)) 33)).ownsRow (w.heap.size + 1) 33 7 u5 ((ys ++ [(⟨xt, xh, 1, xa⟩ : Ent)]).filter (isCom home)).length (((ys ++ [(⟨xt, xh, 1, xa⟩ : Ent)]).filter (isCom home)).flatMap entL) := by
          rw [hSN.out, hno]
          simpa using hOW.out.alloc _
        have k4 : Below w.heap.size w (wn.alloc (.cells (entC (⟨xt, xh, 1, xa⟩ : Ent)) 33)) := hB.out.alloc hB.out.size _
        exact ⟨⟨_, ys ++ [(⟨xt, xh, 1, xa⟩ : Ent)], k1, rfl, k4, k3⟩, k2⟩
      · have hno : isCom home x = false := by simp [isCom, hc]
        go_wp2_with fail
        obtain ⟨k1, k2⟩ := hEND.out _ (KeepsWalks.alloc wn (.cells (entC x) 33))
        have k3 : (wn.alloc (.cells (entC x) 33)).ownsRow (w.heap.size + 1) 33 7 u5 ((ys ++ [x]).filter (isCom home)).length (((ys ++ [x]).filter (isCom home)).flatMap entL) := by
          rw [hSN.out, hno]
          simpa using hOW.out.alloc _
        have k4 : Below w.heap.size w (wn.alloc (.cells (entC x) 33)) := hB.out.alloc hB.out.size _
        exact ⟨⟨_, ys ++ [x], k1, rfl, k4, k3⟩, k2⟩
end Go.Proofs.Ytpobdcdabojhcaa
