/- The closure of All, over rows as they lie in memory; its order. -/
import Derived.Test.YtledfhoifdihhaaLk10
namespace Go.Proofs.Ytledfhoifdihhaa
open Go.RowKit Go.Shelf Go.Sort
set_option linter.unusedVariables false
set_option linter.unusedSimpArgs false

/-- the eight cells of a Held as they lie -/
structure RawH where
  c : Int
  s : Int
  home : Int
  w : Int
  l : Int
  n : Int
  ra : Option Addr
  rl : Nat
  rc : Nat
  xa : Option Addr
  xl : Nat
  xc : Nat
instance : Inhabited RawH := ⟨⟨0, 0, 0, 0, 0, 0, none, 0, 0, none, 0, 0⟩⟩
def rawC (h : RawH) : List Value := [.int .u32 h.c, .int .u32 h.s, .int .u32 h.home, .int .u64 h.w, .int .u32 h.l, .int .u32 h.n, .slice h.ra h.rl h.rc, .slice h.xa h.xl h.xc]
theorem all34 (a b : RawH) (w : World) : Calls Try.prog 34 #[.agg (rawC a).toArray, .agg (rawC b).toArray] w fun r w' => r = .returned (.int .i64 (txnCmp a.c a.s b.c b.s)) ∧ Grew w w' := by
  have hG := Lib.hid (Grew.refl w)
  unfold rawC
  go_enter Try.func34, Try.ntmps34
  go_wp2_with (go_at_call 35; refine (byID35 ⟨a.c, a.s⟩ ⟨b.c, b.s⟩ _).mono ?_; rintro e w' ⟨rfl, hg⟩; have hb := hg.below; replace hG := Lib.hid (Grew.trans (a := w) (by repeat (first | with_reducible exact hG.out | with_reducible exact Grew.refl _ | with_reducible refine Grew.alloc ?_ _ | with_reducible refine Grew.drew ?_ | with_reducible refine Grew.drewN ?_ _)) hg); clear hb hg)
  go_ret
  exact ⟨rfl, by repeat (first | with_reducible exact hG.out | with_reducible exact Grew.refl _ | with_reducible refine Grew.alloc ?_ _ | with_reducible refine Grew.drew ?_ | with_reducible refine Grew.drewN ?_ _)⟩

theorem txnCmp_lt (a b c d : Int) : txnCmp a b c d < 0 ↔ a < c ∨ (a = c ∧ b < d) := by
  unfold txnCmp or2 cmp3
  repeat' split
  all_goals omega
def rawLt (x y : RawH) : Int := txnCmp x.c x.s y.c y.s
theorem rawLt_of (x y : RawH) : ltOf rawLt x y = true ↔ x.c < y.c ∨ (x.c = y.c ∧ x.s < y.s) := by
  unfold ltOf rawLt
  rw [decide_eq_true_eq, txnCmp_lt]
theorem swo_raw : SWO (ltOf rawLt) where
  irrefl x := by
    rw [← Bool.not_eq_true, rawLt_of]
    omega
  trans x y z h1 h2 := by
    rw [rawLt_of] at *
    omega
  ntrans x y z h1 h2 := by
    rw [← Bool.not_eq_true, rawLt_of] at *
    omega

theorem enters34 : ∀ args w, (callFunc 34 args).run Try.prog w = .ok (.enter 34 args) w := enters_of Try.func34 (by kernel_rfl) rfl
theorem cmpLays34 (blk off size : Nat) (w : World) : CmpLays Try.prog 34 #[] rawC 8 rawLt blk off size w := fun m os dk _ x y => by
  have h := all34 x y (sortWorldK rawC 8 w blk off m dk os)
  simpa using h.mono fun e w' ⟨he, hg⟩ => ⟨he, hg⟩
theorem sort33_raw (blk off cap : Nat) (d : Array RawH) (w : World) (hH : HoldsK rawC 8 w blk off d) (hblk : blk < w.heap.size) (hsz : d.size < 4611686018427387904) :
    Calls Try.prog 33 #[.slice (some ⟨blk, off, none⟩) d.size cap, .func (.func 34) #[] #[]] w fun e w' => e = .returned (.tuple #[]) ∧ ∃ d' n os, PermIn 0 d.size d d' ∧ SortedIn (ltOf rawLt) 0 d.size d' ∧ w' = sortWorldK rawC 8 w blk off n d' os :=
  AnyQ.slices_SortFunc sort33 8 Try.isAgg49 Try.sizeOf49 rawC (fun _ => rfl) (fun x v hv => by
    simp only [rawC, List.mem_cons, List.not_mem_nil, or_false] at hv
    rcases hv with rfl | rfl | rfl | rfl | rfl | rfl | rfl | rfl <;> rfl) rawLt swo_raw 34 #[] blk off cap d w enters34 (cmpLays34 blk off d.size w) hH hblk hsz
end Go.Proofs.Ytledfhoifdihhaa
