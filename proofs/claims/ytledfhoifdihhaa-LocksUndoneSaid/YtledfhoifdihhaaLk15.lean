/- All: the program's: the walk. -/
import Derived.Test.YtledfhoifdihhaaLk14
namespace Go.Proofs.Ytledfhoifdihhaa
open Go.RowKit Go.Shelf Go.Sort
set_option linter.unusedVariables false
set_option linter.unusedSimpArgs false

theorem cells_new (w : World) (cs : Array Value) (e : TypeId) (f : Nat × Nat) : ∀ (j : Nat) u, cs.toList[j]? = some u → (w.alloc (.cells cs e f)).cell? ((⟨w.heap.size, 0, none⟩ : Addr).add j) = some u := fun j u h => by
  have := cell_heap (heap_alloc_new w (.cells cs e f)) (j := j) (v := u) (by simpa using h)
  have e : ((⟨w.heap.size, 0, none⟩ : Addr).add j) = ⟨w.heap.size, j, none⟩ := by
    cases j <;> simp [Addr.add]
  rw [e]
  exact this
theorem SlOf.cellOf {α : Type} {w : World} {n : Nat} {f : α → List Value} {v : Value} {xs : List α} (hn : ∀ x, f x ≠ []) (h : SlOf w n f v xs) (hx : xs ≠ []) : ∀ b, v.ownBlock = some b → ∃ o u, w.cell? ⟨b, o, none⟩ = some u := by
  obtain ⟨A, cap, rfl, h2, h3, h4⟩ := h
  intro b hb
  cases xs with
  | nil => exact absurd rfl hx
  | cons x r =>
    obtain ⟨b', o, rfl, hc⟩ := h4 0 x rfl
    cases hb
    cases hf : f x with
    | nil => exact absurd hf (hn x)
    | cons v vs => exact ⟨_, v, hc 0 v (by rw [hf]; rfl)⟩
theorem Iter.not_cell {w : World} {r b : Nat} {kv done : List (Value × Value)} (h : Iter w r b kv done) {o : Nat} {u : Value} (hc : w.cell? ⟨r, o, none⟩ = some u) : False := by
  obtain ⟨es, clock, since, c0, seen, vis, hb, hst, hkv, hr, _⟩ := h
  simp [World.cell?, hr] at hc
theorem AllR.next {wr wn : World} {base r b : Nat} {v : Value} {L : List Hd} {kv done dn : List (Value × Value)} {hs : List Hd} {raws : List RawH} (h : AllR wr base v L dn hs raws) (hit : Iter wr r b kv done) (hk : Kp [r] wr wn) (hr : r < base) : AllR wn base v L dn hs raws := by
  refine ⟨h.l1, h.l2, h.key, h.mem, fun i q x hq hx => ⟨?_, (h.raw i q x hq hx).2⟩, ?_⟩
  · obtain ⟨hR, hX, _⟩ := hdV_slices (h.raw i q x hq hx).1
    refine hdV_kpo (h.raw i q x hq hx).1 hk (fun hn a ha hm => ?_) (fun hn a ha hm => ?_)
    · obtain ⟨o, u, hc⟩ := hR.cellOf (fun _ => by simp [spC]) hn _ (by rw [ha]; rfl)
      rw [List.mem_singleton.1 hm] at hc
      exact hit.not_cell hc
    · obtain ⟨o, u, hc⟩ := hX.cellOf (fun _ => by simp [wrC]) hn _ (by rw [ha]; rfl)
      rw [List.mem_singleton.1 hm] at hc
      exact hit.not_cell hc
  · have hlt := h.own.lt
    refine h.own.kept (row := some r) ⟨hk.os, hk.tape, hk.output, hk.size, fun k hk' hs => hk.block k hk' (by simpa using fun e => hs (by rw [e]))⟩ ?_
    cases hv : v.ownBlock with
    | none => exact .inl rfl
    | some g => refine .inr fun e => ?_; cases e; have := hlt _ hv; omega
set_option maxHeartbeats 4000000 in
theorem all15 (tb ha ia : Nat) (L : List Hd) (I : List (ByteArray × Txn)) (w : World) (hT : TabAt w tb ha ia L I) (hn : (L.map (·.txn)).Nodup) (hbd : L.length * 80 ≤ 140737488355328) :
    Calls Try.prog 15 #[.pointer (some ⟨tb, 0, none⟩)] w fun r w' => ∃ v xs, r = .returned v ∧ HdsAt w' v xs ∧ AllOf L xs ∧ Below w.heap.size w w' := by
  obtain ⟨i0, hi, hz0, hz1, hz2⟩ := info_parts (P := Try.prog) (e := 49) (z := zeroHd) (size := 8) (bytes := 80) (by kernel_rfl)
  have c0 := hT.c0
  obtain ⟨kv, hmap, hkv⟩ := hT.held
  have htb : tb < w.heap.size := World.block_lt_of_cell? _ _ c0
  obtain ⟨ob, hrange, hit⟩ := run_range_map (P := Try.prog) Try.underlying73 hmap
  have hmlt : ha < w.heap.size := hmap.lt
  have hKV := Lib.hid hkv
  have hIT := Lib.hid hit
  have hI := Lib.hid (And.intro hi (And.intro hz0 (And.intro hz1 hz2)))
  clear hT hmap hkv hit hi hz0 hz1 hz2
  go_enter Try.func15, Try.ntmps15
  go_wp2_with fail
  go_loopw [3] (fun v wr => ∃ done hs raws, Iter wr w.heap.size ha kv done ∧ Below w.heap.size w wr ∧ AllR wr (w.heap.size + 1) v L done hs raws) (fun _ wr => kv.length - seenOf wr w.heap.size)
  case atStart => exact ⟨[], [], [], hIT.out, (Below.refl _ _).alloc (Nat.le_refl _) _, AllR.start _ _ _⟩
  case round =>
    obtain ⟨done, hs, raws, hit, hbw, hA⟩ := hrel
    have hseen := hit.seen
    have hAR := Lib.hid hA
    have hB := Lib.hid hbw
    rcases run_next_map' (P := Try.prog) 0 hit with ⟨hperm, hrun⟩ | ⟨p, hp, wn, hrun, hit', hkp, hsz, hlen, hnd⟩
    · have hlen : raws.length = L.length := by rw [hA.l2, hA.l1, hperm.length_eq, hKV.out.1]
      have hOwn := Lib.hid hA.own
      have hPm := Lib.hid hperm
      have hl1 : raws.length ≤ 4398046511104 := by omega
      have hl2 : raws.length * 80 ≤ 140737488355328 := by omega
      clear hit hbw hA hperm
      go_wp2_with (first | (go_at_call 33; refine (sort33_rows (w.heap.size + 1) u3 raws _ hOwn.out hl1 hl2).mono ?_; rintro e wd ⟨rfl, raws', hS⟩; clear hrun))
      go_ret
      obtain ⟨xs, hx1, hx2⟩ := hAR.out.done hn hKV.out hPm.out hS
      exact ⟨u3, xs, rfl, hx1, hx2, Kp.below_new hS.2.2.2 hB.out (fun x hx => by have := hOwn.out.lt x (by simpa using hx); omega)⟩
    · obtain ⟨h, hh, hp1, hd⟩ := hKV.out.of_mem hp
      obtain ⟨pk, pv⟩ := p
      obtain rfl : pk = txnV h.txn := hp1
      have hd2 := hd.below hbw
      have hb2 : Below w.heap.size w wn := hbw.trans (hkp.below hbw.size (by simp))
      replace hd := hd.below hb2
      have hHV := Lib.hid hd
      obtain ⟨sr, sw, rfl, ⟨Ar, cr, rfl, _⟩, ⟨Aw, cw, rfl, _⟩⟩ := hd
      have hent := run_entry_map' (P := Try.prog) hit'
      have hA2 := hA.next hit hkp (Nat.lt_succ_self _)
      have hAR2 := Lib.hid hA2
      have hIT2 := Lib.hid hit'
      replace hB := Lib.hid hb2
      have hB3 := Lib.hid (Below.refl wn.heap.size wn)
      have hseen' := hit'.seen
      have hSeen := Lib.hid hseen'
      have hbl : w.heap.size < wn.heap.size := hit'.lt.2
      have hl3 : raws.length < L.length := by rw [hA.l2, hA.l1, ← hKV.out.1]; exact hlen
      have hO2 := Lib.hid hA2.own
      clear hsz hit hbw hA hd2 hb2 hkp hseen' c0 hAR hA2 hit' 
      go_wp2_with (first
        | (go_at_call 32; refine (copied32f _ h _ (hHV.out.below ((Below.refl _ _).alloc (Nat.le_refl _) _))).mono ?_; rintro e wc ⟨v3, rfl, hv3, hb, hfr⟩
           have hV3 := Lib.hid hv3
           have hFR := Lib.hid hfr
           have hBC := Lib.hid (chain (w := wn) hb ((Below.refl _ _).alloc (Nat.le_refl _) _))
           have hWL := Lib.hid hb.size
           obtain ⟨r3, x3, rfl, ⟨A5, cap5, rfl, _⟩, ⟨A6, cap6, rfl, _⟩⟩ := hv3
           clear hb hfr)
        | (at_builtin; refine wpList_append_own_at _ rfl _ _ 35 rfl (w.heap.size + 1) 49 i0 zeroHd 8 80 Try.underlying35 hI.out.1 hI.out.2.1 hI.out.2.2.1 hI.out.2.2.2 rfl (by decide) u3 raws.length (raws.flatMap rawC) rfl (own_below hO2.out (hBC.out.alloc hBC.out.size _)) ⟨wc.heap.size, 0, none⟩ 1 1 (rawC ⟨h.txn.c, h.txn.s, h.home, h.at_.w, h.at_.l, h.at_.n, A5, h.reads.length, cap5, A6, h.writes.length, cap6⟩) rfl rfl ?hn1 ?hn2 ?hn3 ?hn4 ?hn5 ?_
           rotate_right 1
           intro v' w2 hown' hgrow hnil hblk
           have hX := Lib.hid (And.intro hown' (And.intro hgrow hblk))
           clear hown' hgrow hnil hblk))
      case hn1 => exact cells_new wc _ 49 (0, 0)
      case hn2 =>
        intro u hu
        simp only [rawC, List.mem_cons, List.not_mem_nil, or_false] at hu
        rcases hu with rfl | rfl | rfl | rfl | rfl | rfl | rfl | rfl <;> rfl
      case hn3 => simp only [maxLen]; omega
      case hn4 => omega
      case hn5 =>
        have := hBC.out.size
        simp only [World.size_alloc]
        omega
      obtain ⟨hown', hgrow, hblk⟩ := hX.out
      have hbA : Below wn.heap.size wn (wc.alloc (Obj.cells #[.int .u32 h.txn.c, .int .u32 h.txn.s, .int .u32 h.home, .int .u64 h.at_.w, .int .u32 h.at_.l, .int .u32 h.at_.n, .slice A5 h.reads.length cap5, .slice A6 h.writes.length cap6] 49)) := hBC.out.alloc hBC.out.size _
      have hbC : Below wc.heap.size wc (wc.alloc (Obj.cells #[.int .u32 h.txn.c, .int .u32 h.txn.s, .int .u32 h.home, .int .u64 h.at_.w, .int .u32 h.at_.l, .int .u32 h.at_.n, .slice A5 h.reads.length cap5, .slice A6 h.writes.length cap6] 49)) := (Below.refl _ _).alloc (Nat.le_refl _) _
      generalize (wc.alloc (Obj.cells #[.int .u32 h.txn.c, .int .u32 h.txn.s, .int .u32 h.home, .int .u64 h.at_.w, .int .u32 h.at_.l, .int .u32 h.at_.n, .slice A5 h.reads.length cap5, .slice A6 h.writes.length cap6] 49)) = wA at hown' hgrow hblk hbA hbC
      have hA3 := hAR2.out.below hbA
      have hoff : Off u3 ⟨h.txn.c, h.txn.s, h.home, h.at_.w, h.at_.l, h.at_.n, A5, h.reads.length, cap5, A6, h.writes.length, cap6⟩ h := by
        refine copied_off (w1 := wn) hO2.out ?_
        obtain ⟨h9, r9, x9, he9, f1, f2⟩ := hFR.out
        exact ⟨h9, r9, x9, he9, f1.mono (by simp), f2.mono (by simp)⟩
      have hA4 := hA3.step (q := ⟨h.txn.c, h.txn.s, h.home, h.at_.w, h.at_.l, h.at_.n, A5, h.reads.length, cap5, A6, h.writes.length, cap6⟩) (p := (txnV h.txn, .agg (hdC h (.slice Ar h.reads.length cr) (.slice Aw h.writes.length cw)))) hh rfl (hV3.out.below hbC) hoff hgrow hblk hown'
      have hkg := Kp.of_grown hgrow
      have hlt := hA3.own.lt
      have hitA := hIT2.out.below hbA
      have hrne : w.heap.size ∉ u3.ownBlock.toList := fun hm => by
        have := (hlt _ (by simpa using hm)).1
        omega
      have hit3 := hitA.kp hkg (by
        intro hm
        have := (hlt _ (by simpa using hm)).1
        have := hmlt
        omega) hrne
      refine ⟨⟨_, _, _, hit3, ?_, hA4⟩, ?_⟩
      · exact Kp.below_new hkg (chain (w := w) hbA hB.out) (fun x hx => by
          have := (hlt _ (by simpa using hx)).1
          omega)
      · rw [hseen, hit3.seen, List.length_append, List.length_singleton]
        omega
end Go.Proofs.Ytledfhoifdihhaa
