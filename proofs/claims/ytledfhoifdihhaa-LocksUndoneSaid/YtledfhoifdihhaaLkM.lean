/- What the lock table holds, as data and in memory. -/
import Derived.Test.YtledfhoifdihhaaMulti
import Derived.Test.YtledfhoifdihhaaMapRange
import Derived.Test.YtledfhoifdihhaaLocks1
namespace Go.Proofs.Ytledfhoifdihhaa
open Go.RowKit
set_option linter.unusedVariables false
set_option linter.unusedSimpArgs false

structure Txn where
  c : Int
  s : Int
deriving DecidableEq
structure Stamp where
  w : Int
  l : Int
  n : Int
deriving DecidableEq
structure Sp where
  lo : ByteArray
  hi : ByteArray
deriving DecidableEq
structure Wr where
  key : ByteArray
  del : Bool
  val : ByteArray
deriving DecidableEq
structure Hd where
  txn : Txn
  home : Int
  at_ : Stamp
  reads : List Sp
  writes : List Wr
deriving DecidableEq

abbrev txnV (t : Txn) : Value := .agg #[.int .u32 t.c, .int .u32 t.s]
abbrev spC (s : Sp) : List Value := [.string s.lo, .string s.hi]
abbrev wrC (x : Wr) : List Value := [.string x.key, .bool x.del, .string x.val]
abbrev spV (s : Sp) : Value := .agg #[.string s.lo, .string s.hi]
abbrev wrV (x : Wr) : Value := .agg #[.string x.key, .bool x.del, .string x.val]

/-! ### Rows of structs in memory -/
/-- cells, one behind the other -/
def CellsAt (w : World) (b p : Nat) (l : List Value) : Prop := ∀ (j : Nat) v, l[j]? = some v → w.cell? ⟨b, p + j, none⟩ = some v
theorem CellsAt.below {w w' : World} {b p : Nat} {l : List Value} (h : CellsAt w b p l) (hb : Below w.heap.size w w') : CellsAt w' b p l := fun j v hj => cellB hb (h j v hj)
theorem CellsAt.kp {S : List Nat} {w w' : World} {b p : Nat} {l : List Value} (h : CellsAt w b p l) (hb : Kp S w w') (hs : b ∉ S) : CellsAt w' b p l := fun j v hj => hb.cell (h j v hj) hs
/-- a list's rows, n cells each; they lie in no block of S -/
def Rows {α : Type} (w : World) (n : Nat) (f : α → List Value) (A : Option Addr) (xs : List α) : Prop :=
  ∀ (k : Nat) x, xs[k]? = some x → ∃ b o, A = some ⟨b, o, none⟩ ∧ CellsAt w b (o + k * n) (f x)
theorem Rows.below {α : Type} {w w' : World} {n : Nat} {f : α → List Value} {A : Option Addr} {xs : List α} (h : Rows w n f A xs) (hb : Below w.heap.size w w') : Rows w' n f A xs := fun k x hk => by
  obtain ⟨b, o, hA, hc⟩ := h k x hk
  exact ⟨b, o, hA, hc.below hb⟩
theorem Rows.kp {α : Type} {S : List Nat} {w w' : World} {n : Nat} {f : α → List Value} {A : Option Addr} {xs : List α} (h : Rows w n f A xs) (hb : Kp S w w') (hs : ∀ a, A = some a → a.block ∉ S) : Rows w' n f A xs := fun k x hk => by
  obtain ⟨b, o, hA, hc⟩ := h k x hk
  exact ⟨b, o, hA, hc.kp hb (hs _ hA)⟩
theorem Rows.nil {α : Type} (w : World) (n : Nat) (f : α → List Value) (A : Option Addr) : Rows w n f A [] := fun k x h => by simp at h

/-- a slice's value that holds a list -/
def SlOf {α : Type} (w : World) (n : Nat) (f : α → List Value) (v : Value) (xs : List α) : Prop :=
  ∃ A cap, v = .slice A xs.length cap ∧ xs.length ≤ cap ∧ (xs.length ≤ 4398046511104 ∧ xs.length * (8 * n + 16) ≤ 140737488355328) ∧ Rows w n f A xs
theorem SlOf.below {α : Type} {w w' : World} {n : Nat} {f : α → List Value} {v : Value} {xs : List α} (h : SlOf w n f v xs) (hb : Below w.heap.size w w') : SlOf w' n f v xs := by
  obtain ⟨A, cap, h1, h2, h3, h4⟩ := h
  exact ⟨A, cap, h1, h2, h3, h4.below hb⟩

/-- the cells of a Held whose lists are the slices r, x -/
abbrev hdC (h : Hd) (r x : Value) : Array Value := #[.int .u32 h.txn.c, .int .u32 h.txn.s, .int .u32 h.home, .int .u64 h.at_.w, .int .u32 h.at_.l, .int .u32 h.at_.n, r, x]
/-- a Held's value -/
def HdV (w : World) (v : Value) (h : Hd) : Prop := ∃ r x, v = .agg (hdC h r x) ∧ SlOf w 2 spC r h.reads ∧ SlOf w 3 wrC x h.writes
theorem HdV.below {w w' : World} {v : Value} {h : Hd} (k : HdV w v h) (hb : Below w.heap.size w w') : HdV w' v h := by
  obtain ⟨r, x, h1, h2, h3⟩ := k
  exact ⟨r, x, h1, h2.below hb, h3.below hb⟩

/-! ### Words -/
def intoB (ws : List Wr) (ss : List Sp) : Bool := ws.any fun x => ss.any fun s => insideB x.key s.lo s.hi
def commonB (a b : List Wr) : Bool := a.any fun x => b.any fun y => decide (x.key = y.key)
def meetB (r : List Sp) (x : List Wr) (h : Hd) : Bool := commonB x h.writes || intoB x h.reads || intoB h.writes r
end Go.Proofs.Ytledfhoifdihhaa
