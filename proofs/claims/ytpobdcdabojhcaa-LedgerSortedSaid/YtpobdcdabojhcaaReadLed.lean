/- A list of entries, as its reading says. -/
import Derived.Test.YtpobdcdabojhcaaRead
import Derived.Test.YtpobdcdabojhcaaLed3
namespace Go.Proofs.Ytpobdcdabojhcaa
open Go.RowKit Go.ChangeShapes Go.WideShapes Go.Deep

abbrev entTy : List Ty := [.int .u32, .int .u32, .int .u32, .int .i64, .int .u64, .int .u32, .int .u32]
theorem flat22 : flat Try.prog 4 22 = some [.sl entTy 40] := by kernel_rfl

theorem list_of {α : Type} {p : Nat → α → Prop} : ∀ n : Nat, (∀ i, i < n → ∃ x, p i x) → ∃ xs : List α, xs.length = n ∧ ∀ (k : Nat) x, xs[k]? = some x → p k x
  | 0, _ => ⟨[], rfl, fun k x h => by simp at h⟩
  | n + 1, h => by
    obtain ⟨xs, hl, hx⟩ := list_of n fun i hi => h i (by omega)
    obtain ⟨x, hp⟩ := h n (by omega)
    refine ⟨xs ++ [x], by simp [hl], fun k y hk => ?_⟩
    rw [List.getElem?_append] at hk
    split at hk
    · exact hx k y hk
    · rename_i hkn
      rw [List.getElem?_singleton] at hk
      split at hk
      · cases hk
        obtain rfl : k = n := by omega
        exact hp
      · cases hk

theorem spot_none {w : World} {a : Addr} {v : Value} (h : w.cell? a = some v) : a = ⟨a.block, a.off, none⟩ := by
  obtain ⟨b, o, s⟩ := a
  cases s with
  | none => rfl
  | some s =>
    simp only [World.cell?] at h
    split at h
    · simp at h
    · cases h

theorem ent_of {w : World} {a : Addr} (h : okCs w entTy a) : ∃ e b o, a = ⟨b, o, none⟩ ∧ EntC w b o e := by
  obtain ⟨⟨u0, c0, n0, rfl, _⟩, ⟨u1, c1, n1, rfl, _⟩, ⟨u2, c2, n2, rfl, _⟩, ⟨u3, c3, n3, rfl, _⟩, ⟨u4, c4, n4, rfl, _⟩, ⟨u5, c5, n5, rfl, _⟩, ⟨u6, c6, n6, rfl, _⟩, _⟩ := h
  have ha := spot_none c0
  rw [ha] at c0 c1 c2 c3 c4 c5 c6
  exact ⟨⟨⟨n0, n1⟩, n2, n3, ⟨n4, n5, n6⟩⟩, a.block, a.off, ha, c0, c1, c2, c3, c4, c5, c6⟩

theorem ents_of {w : World} {v : Value} (h : okC w (.sl entTy 40) v) : ∃ A xs cap, v = .slice A (xs.length) cap ∧ Ents w A xs ∧ xs.length ≤ 3518437208781 ∧ xs.length ≤ cap := by
  obtain ⟨A, len, cap, rfl, h1, h2, h3, h4, h5⟩ := h
  obtain ⟨xs, hl, hx⟩ := list_of (p := fun i e => ∃ b o, A = some ⟨b, o, none⟩ ∧ EntC w b (o + i * 7) e) len fun i hi => by
    cases A with
    | none => have := h4 rfl; omega
    | some a =>
      obtain ⟨_, _, _, ha0, _⟩ := ent_of (h5 a rfl 0 (by omega))
      have hadd : ∀ b o n, Addr.add ⟨b, o, none⟩ n = ⟨b, o + n, none⟩ := fun b o n => by
        unfold Addr.add
        split
        · rename_i h0; subst h0; rfl
        · rfl
      have ha1 : a = ⟨a.block, a.off, none⟩ := by
        have h0 : a.add 0 = a := by simp [Addr.add]
        rw [Nat.zero_mul, h0] at ha0
        rw [ha0]
      obtain ⟨e, b, o, ha, hc⟩ := ent_of (h5 a rfl i hi)
      rw [ha1, hadd] at ha
      simp only [Addr.mk.injEq] at ha
      obtain ⟨rfl, rfl, _⟩ := ha
      exact ⟨e, _, _, by rw [ha1], hc⟩
  subst hl
  exact ⟨A, xs, cap, rfl, hx, by omega, h1⟩

theorem cells_one {v u : Value} {P : Program} {w : World} {base : Nat} {t e : TypeId} (ht : P.underlying t = some (.slice e)) (hv : Value.okWide P w .any base t v) (h : v.cells.toList = [u]) : v = u := by
  simp only [Value.okWide, ht, Cell.okWide] at hv
  cases v <;> simp_all [Value.cells, Cell.ok]
end Go.Proofs.Ytpobdcdabojhcaa
