/- What New of package recv computes at a window of 64: a box of its own with an empty map. Condition: the window is 64. -/
import Derived.Test.YtallhdlnhegjiaaRecvMiss
import Derived.Maps.Own
namespace Go.Proofs.Ytallhdlnhegjiaa.Recv
open Go.ChangeShapes Go.WideShapes Go.ChangeAt Go.RowKit Go.Lib Go.Maps Spans
set_option linter.unusedVariables false

set_option maxHeartbeats 2000000 in
set_option maxRecDepth 20000 in
theorem new_any (n : Int) (w : World) :
    Calls Try.prog 46 #[.int .u32 n, .int .i64 64] w fun e w' => ∃ b bm, e = .returned (.pointer (some ⟨b, 0, none⟩)) ∧ w.heap.size ≤ b ∧ w.heap.size ≤ bm ∧
      w'.heap[b]? = some (.cells #[.int .u32 (n % 16777216), .int .u32 (n % 16777216), .int .u32 ((n + 64) % 16777216), .int .i64 64, .map (some bm), .slice none 0 0, .slice none 0 0] 102 (0, 0)) ∧
      w'.ownsMap Try.prog 24 (plainElem (H := Unit) Try.prog 9) bm 0 (.map []) ∧ Below w.heap.size w w' := by
  have hmm := @run_makeMap Try.prog
  go_enter Try.func46, Try.ntmps46
  go_wp2_with (first
    | (go_at_call 20; refine (Seq.low_any _ _).mono ?_; rintro e w' ⟨rfl, rfl⟩)
    | (go_at_call 21; refine (Seq.add_any _ _ _).mono ?_; rintro e w' ⟨rfl, rfl⟩))
  rw [show (max (1 : Int) 64) = 64 from by decide]
  go_ret
  have hm := World.ownsMap_made (H := Unit) w Try.prog 24 (plainElem Try.prog 9)
  refine ⟨w.heap.size + 1, w.heap.size, rfl, by omega, Nat.le_refl _, ?_, hm.alloc _, ((Below.refl _ w).alloc (Nat.le_refl _) _).alloc (by simp) _⟩
  rw [show w.heap.size + 1 = (w.alloc (.map #[] 0)).heap.size from by simp]
  exact heap_alloc_new _ _
end Go.Proofs.Ytallhdlnhegjiaa.Recv
