/- New and Len: the program's. -/
import Derived.Test.YtledfhoifdihhaaLk8
namespace Go.Proofs.Ytledfhoifdihhaa
open Go.RowKit
set_option linter.unusedVariables false
set_option linter.unusedSimpArgs false

theorem good_nil : Good [] [] := ⟨by simp, fun k t => by simp, fun h hh => by cases hh⟩
theorem new14 (w : World) : Calls Try.prog 14 #[] w fun r w' => r = .returned (.pointer (some ⟨w.heap.size + 2, 0, none⟩)) ∧ TabAt w' (w.heap.size + 2) w.heap.size (w.heap.size + 1) [] [] ∧ Below w.heap.size w w' := by
  have hmk : ∀ w : World, (Instr.makeMap 73 none).run Try.prog w = .ok (.map (some w.heap.size)) (w.alloc (.map #[] 0)) := fun w => by
    simp [Instr.makeMap, run_underlying Try.underlying73]
  have hmk2 : ∀ w : World, (Instr.makeMap 74 none).run Try.prog w = .ok (.map (some w.heap.size)) (w.alloc (.map #[] 0)) := fun w => by
    simp [Instr.makeMap, run_underlying Try.underlying74]
  go_enter Try.func14, Try.ntmps14
  go_wp2_with fail
  go_ret
  refine ⟨rfl, ⟨by go_simp, by go_simp, ⟨[], ((MapOf.made w).alloc _).alloc _, ⟨rfl, fun i p h hp => by simp at hp⟩⟩, ?_, by omega⟩, by repeat (first | with_reducible exact hB.out | with_reducible exact Below.refl _ _ | with_reducible assumption | with_reducible refine allocW ?_ _ | with_reducible refine Below.drew ?_ | with_reducible refine drewNW ?_ _ | ((with_reducible refine Below.setCell ?_ ?_ _); rotate_left 1; focus (first | (simp; done) | (simp; omega))))⟩
  have := (MapOf.made (w.alloc (.map #[] 0))).alloc (.cells #[.map (some w.heap.size), .map (some (w.heap.size + 1))] 76)
  simpa using this

theorem len21 (tb ha ia : Nat) (L : List Hd) (I : List (ByteArray × Txn)) (w : World) (hT : TabAt w tb ha ia L I) :
    Calls Try.prog 21 #[.pointer (some ⟨tb, 0, none⟩)] w fun r w' => r = .returned (.int .i64 L.length) ∧ Below w.heap.size w w' := by
  obtain ⟨kv, hm, hkv⟩ := hT.held
  have c0 := hT.c0
  have hlen : ∀ ty, (Builtin.len_ #[73] ty #[.map (some ha)]).run Try.prog w = .ok (.int .i64 L.length) w := fun ty => by rw [← hkv.1]; exact run_len_map Try.underlying73 hm
  clear hm hkv hT
  go_enter Try.func21, Try.ntmps21
  go_wp2_with fail
  go_ret
  exact ⟨rfl, Below.refl _ _⟩
end Go.Proofs.Ytledfhoifdihhaa
