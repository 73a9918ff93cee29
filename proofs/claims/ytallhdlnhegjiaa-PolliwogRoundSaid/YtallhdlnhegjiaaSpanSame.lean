/- What Same computes at two sets of the same spans: true. Condition: fewer than 2^40 spans. -/
import Derived.Test.YtallhdlnhegjiaaSpanKit
import Derived.Laws.StructEq
namespace Go.Proofs.Ytallhdlnhegjiaa.Spans
open Go.ChangeShapes Go.WideShapes Go.ChangeAt Go.RowKit Go.Lib
set_option linter.unusedVariables false

theorem guard_any (op : BinOp) (a b : Operand) (xs ys : Array Value) (w : World) : Sem.run Try.prog (eqGuard op 55 a b (.agg xs) (.agg ys)) w = .ok () w := run_eqGuard_agg w op 55 a b xs ys (by kernel_rfl)
theorem neq_same (a b : Int) (w : World) : Sem.run Try.prog (binOp .neq 55 (.agg #[.int .i64 a, .int .i64 b]) (.agg #[.int .i64 a, .int .i64 b])) w = .ok (.bool false) w := by
  have u3 := Try.underlying3
  have a3 := Try.isAgg3
  have z3 := Try.sizeOf3
  have hS : Try.prog.underlying 55 = some (.struct (Try.prog.fieldsOf 55)) := by kernel_rfl
  have hp : Try.prog.stoodInHeld 55 = false := by kernel_rfl
  rw [run_neq_struct, show (10000 : Nat) = 9999 + 1 from rfl, run_equalIn_agg w 9999 55 _ _ hS hp]
  simp only [Program.fieldsOf, Try.underlying55]
  go_simp
set_option maxRecDepth 20000 in
theorem equal_any (v1 v2 : Value) (s : List Sp) (B1 B2 : Nat) (w : World) (h1 : w.ownsRow B1 55 2 v1 s.length (flat s)) (h2 : w.ownsRow B2 55 2 v2 s.length (flat s)) (hl : s.length ≤ 1000000000) :
    Calls Try.prog 62 #[v1, v2] w fun e w' => e = .returned (.bool true) ∧ Below w.heap.size w w' := by
  obtain ⟨A1, c1, rfl, hA1⟩ := isSpans_of_own h1
  obtain ⟨A2, c2, rfl, hA2⟩ := isSpans_of_own h2
  have HA1 := Lib.hid hA1
  have HA2 := Lib.hid hA2
  have HN := Lib.hid neq_same
  clear h1 h2 hA1 hA2
  go_enter Try.func62, Try.ntmps62
  go_wp2_with fail
  go_loopw [13] (fun i wr => ∃ k : Nat, k ≤ s.length ∧ i = .int .i64 k ∧ Below w.heap.size w wr) (fun i _ => s.length - (intOf i).toNat)
  case atStart => exact ⟨0, by omega, rfl, Below.refl _ _⟩
  case round =>
    obtain ⟨k, hk, rfl, hb⟩ := hrel
    by_cases hlt : k < s.length
    · obtain ⟨b, off, rfl, hbl, c0, c1⟩ := HA1.out k hlt
      obtain ⟨b2, off2, rfl, hbl2, d0, d1⟩ := HA2.out k hlt
      rw [← hb.cell (show b < w.heap.size from hbl)] at c0 c1
      rw [← hb.cell (show b2 < w.heap.size from hbl2)] at d0 d1
      generalize s[k] = p at c0 c1 d0 d1
      obtain ⟨p0, p1⟩ := p
      dsimp only at c0 c1 d0 d1
      have hne := fun w => HN.out p0 p1 w
      have hgd := guard_any
      have HB := Lib.hid hb
      clear hb
      go_wp2_with fail
      go_quiet (fail)
      have HB2 := Lib.hid (show Below w.heap.size w (wr.drewN nq) from HB.out.trans ⟨rfl, rfl, rfl, Nat.le_refl _, fun _ _ => rfl⟩)
      clear hne hgd
      go_wp2
      go_roundw
      case rel => exact ⟨k + 1, by omega, by go_num, HB2.out⟩
      case measure => simp [intOf]; omega
    · obtain rfl : k = s.length := by omega
      go_wp2
      go_ret
      exact ⟨rfl, hb⟩
theorem same_any (v1 v2 : Value) (s : List Sp) (B1 B2 : Nat) (w : World) (h1 : w.ownsRow B1 55 2 v1 s.length (flat s)) (h2 : w.ownsRow B2 55 2 v2 s.length (flat s)) (hl : s.length ≤ 1000000000) :
    Calls Try.prog 38 #[v1, v2] w fun e w' => e = .returned (.bool true) ∧ Below w.heap.size w w' := by
  have H1 := Lib.hid h1
  have H2 := Lib.hid h2
  clear h1 h2
  go_enter Try.func38, Try.ntmps38
  go_wp2_with (go_at_call 62; refine (equal_any _ _ s B1 B2 _ H1.out H2.out hl).mono ?_; rintro e w' ⟨rfl, hb⟩)
  go_ret
  exact ⟨rfl, hb⟩
end Go.Proofs.Ytallhdlnhegjiaa.Spans
