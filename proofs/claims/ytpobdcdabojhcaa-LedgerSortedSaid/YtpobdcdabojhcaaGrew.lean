/- The world grown: draws, and blocks behind it; nothing else. -/
import Derived.Test.YtpobdcdabojhcaaMulti
import Derived.Sort.Grow
namespace Go.Proofs.Ytpobdcdabojhcaa
open Go.RowKit

def Grew (w w' : World) : Prop := ∃ q os', w' = Sort.grow (w.drewN q) os'
theorem Grew.refl (w : World) : Grew w w := ⟨0, #[], by simp only [Sort.grow, World.drewN, Array.append_empty, Nat.add_zero]⟩
theorem Grew.trans {a b c : World} (h : Grew a b) (k : Grew b c) : Grew a c := by
  obtain ⟨q, os, rfl⟩ := h
  obtain ⟨q', os', rfl⟩ := k
  refine ⟨q + q', os ++ os', ?_⟩
  simp only [Sort.grow, World.drewN, Nat.add_assoc, Array.append_assoc]
theorem Grew.alloc {w a : World} (h : Grew w a) (o : Obj) : Grew w (a.alloc o) := h.trans ⟨0, #[o], by rw [Sort.alloc_eq_grow]; simp only [World.drewN, Sort.grow, Nat.add_zero]⟩
theorem Grew.drew {w a : World} (h : Grew w a) : Grew w a.drew := h.trans ⟨1, #[], by simp only [World.drew, World.drewN, Sort.grow, Array.append_empty]⟩
theorem Grew.drewN {w a : World} (h : Grew w a) (n : Nat) : Grew w (a.drewN n) := h.trans ⟨n, #[], by simp only [World.drewN, Sort.grow, Array.append_empty]⟩
theorem Grew.below {w a : World} (h : Grew w a) : Below w.heap.size w a := by
  obtain ⟨q, os, rfl⟩ := h
  refine ⟨rfl, rfl, rfl, by simp [Sort.grow, World.drewN], fun k hk => ?_⟩
  simp only [Sort.grow, World.drewN]
  rw [Array.getElem?_append_left hk]
end Go.Proofs.Ytpobdcdabojhcaa
