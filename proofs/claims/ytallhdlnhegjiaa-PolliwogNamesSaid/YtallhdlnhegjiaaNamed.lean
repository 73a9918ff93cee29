/- What Named computes of a status: all numbers of the pairs, each once. Conditions: the unit is a STAT; the list's cells are the pairs of a set whose numbers lie from 0 on, below 64. -/
import Derived.Test.YtallhdlnhegjiaaNamedPairs
import Derived.Carry
namespace Go.Proofs.Ytallhdlnhegjiaa.Gaps
open Go.ChangeShapes Go.WideShapes Go.ChangeAt Go.RowKit Go.Lib Go.Maps Spans
set_option linter.unusedVariables false

theorem IsPairs.later {w w' : World} {B : Nat} {A : Option Addr} {r : Int} {L : List Sp} (h : IsPairs w B A r L) (hb : Below B w w') : IsPairs w' B A r L := fun k hk => by
  obtain ⟨g, h1, h2, h3, h4⟩ := h k hk
  exact ⟨g, h1, h2, (hb.cell (show g < B from h2)).trans h3, (hb.cell (show g < B from h2)).trans h4⟩

theorem start_seen (w : World) (o : Obj) : Seen ((((w.alloc o).alloc (.cells #[.slice none 0 0] 62)).alloc (.map #[] 0)).alloc (.cells #[.map (some (w.heap.size + 1 + 1))] 108)) w.heap.size (w.heap.size + 1) (w.heap.size + 1 + 1 + 1) (w.heap.size + 1 + 1) 0 (.slice none 0 0) [] (.map []) ∧
    Below w.heap.size w ((((w.alloc o).alloc (.cells #[.slice none 0 0] 62)).alloc (.map #[] 0)).alloc (.cells #[.map (some (w.heap.size + 1 + 1))] 108)) := by
  have s1 : (w.alloc o).heap.size = w.heap.size + 1 := by simp
  have hb0 := (Below.refl w.heap.size w).alloc (Nat.le_refl _) o
  generalize w.alloc o = W1 at s1 hb0 ⊢
  have h1 := hb0.alloc (by omega) (.cells #[.slice none 0 0] 62)
  have g1 := heap_alloc_new W1 (.cells #[.slice none 0 0] 62)
  have s2 : (W1.alloc (.cells #[.slice none 0 0] 62)).heap.size = w.heap.size + 1 + 1 := by simp [s1]
  rw [s1] at g1
  generalize W1.alloc (.cells #[.slice none 0 0] 62) = W2 at h1 g1 s2 ⊢
  have h2 := h1.alloc (by omega) (.map #[] 0)
  have m2 := World.ownsMap_made (H := Unit) W2 Try.prog 24 (plainElem Try.prog 3)
  have g2 := (Below.heap_alloc W2 (.map #[] 0) _ (by omega)).trans g1
  have s3 : (W2.alloc (.map #[] 0)).heap.size = w.heap.size + 1 + 1 + 1 := by simp [s2]
  rw [s2] at m2
  generalize W2.alloc (.map #[] 0) = W3 at h2 g2 m2 s3 ⊢
  have h3 := h2.alloc (by omega) (.cells #[.map (some (w.heap.size + 1 + 1))] 108)
  have g3 := (Below.heap_alloc W3 (.cells #[.map (some (w.heap.size + 1 + 1))] 108) _ (by omega)).trans g2
  have k3 := heap_alloc_new W3 (.cells #[.map (some (w.heap.size + 1 + 1))] 108)
  rw [s3] at k3
  exact ⟨⟨g3, k3, World.ownsRow_nil _ _ _ _, m2.alloc _, by omega, by omega, by omega⟩, h3⟩

set_option maxHeartbeats 4000000 in
set_option maxRecDepth 20000 in
theorem named_any (r : Int) (L : List Sp) (hn : Norm L) (hin : ∀ x, In x L → 0 ≤ x ∧ x < 64) (A : Option Addr) (c : Nat) (q1 q2 q3 q4 : Int) (q5 : Bool) (q6 : ByteArray) (w : World) (hA : IsPairs w w.heap.size A r L) :
    Calls Try.prog 49 #[.agg #[.int .i64 11, .int .i64 q1, .int .u32 q2, .int .u32 q3, .int .u32 q4, .slice A (L.length * 2) c, .bool q5, .string q6]] w fun e w' => ∃ v, e = .returned v ∧ w'.ownsRow w.heap.size 24 1 v (named r L).length (encU (named r L)) ∧ Below w.heap.size w w' := by
  have hmm := @run_makeMap Try.prog
  have HA := Lib.hid hA
  have HN := Lib.hid hn
  have HIN := Lib.hid hin
  generalize hlen : L.length * 2 = len
  have HL := Lib.hid hlen
  clear hA hn hin hlen
  go_enter Try.func49, Try.ntmps49
  go_wp2_with fail
  obtain ⟨hS, hb⟩ := start_seen w (.cells #[.int .i64 11, .int .i64 q1, .int .u32 q2, .int .u32 q3, .int .u32 q4, .slice A len c, .bool q5, .string q6] 86)
  generalize ((((w.alloc (.cells #[.int .i64 11, .int .i64 q1, .int .u32 q2, .int .u32 q3, .int .u32 q4, .slice A len c, .bool q5, .string q6] 86)).alloc (.cells #[.slice none 0 0] 62)).alloc (.map #[] 0)).alloc (.cells #[.map (some (w.heap.size + 1 + 1))] 108)) = W at hS hb ⊢
  have hp := pairs_any r L HN.out HIN.out A c w.heap.size (w.heap.size + 1) (w.heap.size + 1 + 1 + 1) (w.heap.size + 1 + 1) _ W (HA.out.later hb) hS
  rw [HL.out] at hp
  have HB := Lib.hid hb
  clear hb hS hmm
  refine hp.mono ?_
  rintro e w2 ⟨rfl, v, D, hS, hb2⟩
  have c0 : w2.cell? ⟨w.heap.size + 1, 0, none⟩ = some v := cell_of_one hS.out
  have HR := Lib.hid hS.row
  have HB2 := Lib.hid hb2
  clear hS hb2 hp
  go_wp2_with fail
  go_ret
  exact ⟨v, rfl, HR.out, HB.out.trans HB2.out⟩
end Go.Proofs.Ytallhdlnhegjiaa.Gaps
