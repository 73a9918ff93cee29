/- The walk of SeqAdds: whatever a number and a list of numbers, it returns true and writes nothing that was there. -/
import Derived.Test.YtallhdlnhegjiaaRows
import Derived.WalkKit
import Derived.ProofKit
import Derived.OpenShut
import Derived.Outline
import Derived.Lib.Hide
import Derived.Test.YtallhdlnhegjiaaSeq
import Derived.Test.YtallhdlnhegjiaaInts
namespace Go.Proofs.Ytallhdlnhegjiaa.seqAdds
open Go.ChangeShapes Go.WideShapes Go.ChangeAt Go.RowKit Ints
set_option linter.unusedVariables false

theorem clamp_bd (z : Int) : ∃ n, n = (if -1099511627776 < (if (1099511627776 : Int) < z then 1099511627776 else z) then (if (1099511627776 : Int) < z then 1099511627776 else z) else -1099511627776) ∧ -1099511627776 ≤ n ∧ n ≤ 1099511627776 := by
  refine ⟨_, rfl, ?_, ?_⟩ <;> (repeat' split) <;> omega

theorem walk (a0 : Int) (a1 : Option Addr) (len1 cap1 : Nat) (z1 : List Int) (w : World) (w0 : (Lit.int .u32 a0).wf = true) (w1 : IsRow .i64 w a1 len1 cap1 z1) :
    Calls Try.prog 4 #[.int .u32 a0, .slice a1 len1 cap1] w fun e w' => e = .returned (.bool true) ∧ Below w.heap.size w w' := by
  have b0 := bounds_u32 w0
  have hlen := w1.len_le
  unfold maxLen at hlen
  have W1 := Lib.hid w1
  clear w1 w0
  have a1b : 0 ≤ a0 % 16777216 := by omega
  have a2b : a0 % 16777216 ≤ 16777215 := by omega
  go_enter Try.func4, Try.ntmps4
  go_wp2_with (first
    | (go_at_call 17; refine (Seq.awake_any _).mono ?_; rintro e w' ⟨rfl, rfl⟩) | (go_at_call 18; refine (Seq.refOf_any _ _).mono ?_; rintro e w' ⟨rfl, rfl⟩)
    | (go_at_call 19; refine (Seq.of_any _ _).mono ?_; rintro e w' ⟨rfl, rfl⟩) | (go_at_call 20; refine (Seq.low_any _ _).mono ?_; rintro e w' ⟨rfl, rfl⟩)
    | (go_at_call 21; refine (Seq.add_any _ _ _).mono ?_; rintro e w' ⟨rfl, rfl⟩) | (go_at_call 22; refine (Seq.to_any _ _ _).mono ?_; rintro e w' ⟨rfl, rfl⟩)
    | (go_at_call 23; refine (Seq.refTo_any _ _ _).mono ?_; rintro e w' ⟨rfl, rfl⟩) | (go_at_call 24; refine (Seq.ahead_any _ _ _).mono ?_; rintro e w' ⟨rfl, rfl⟩)
    | (go_at_call 34; refine (Seq.within_any _ _ _ _).mono ?_; rintro e w' ⟨rfl, rfl⟩))
  go_loop [5, 6, 7] (fun x s i => ∃ (k : Nat) (S : Int), k ≤ 30 ∧ k ≤ len1 ∧ -(1099511627776 * (k : Int)) ≤ S ∧ S ≤ 1099511627776 * (k : Int) ∧ i = .int .i64 k ∧ s = .int .i64 S ∧ x = .int .u32 ((a0 + S) % 16777216))
    (fun _ _ i => 30 - (intOf i).toNat)
  case atStart => exact ⟨0, 0, by omega, by omega, by omega, by omega, rfl, rfl, by go_num⟩
  case round =>
    obtain ⟨k, S, hk, hkl, hS1, hS2, rfl, rfl, rfl⟩ := hrel
    have x1 : 0 ≤ (a0 + S) % 16777216 := by omega
    have x2 : (a0 + S) % 16777216 ≤ 16777215 := by omega
    by_cases c1 : k < len1
    · by_cases c2 : k < 30
      · obtain ⟨b, off, rfl, hcell⟩ := W1.out.at_ c1
        generalize z1.getD k 0 = z at hcell
        go_wp2_with (first
    | (go_at_call 17; refine (Seq.awake_any _).mono ?_; rintro e w' ⟨rfl, rfl⟩) | (go_at_call 18; refine (Seq.refOf_any _ _).mono ?_; rintro e w' ⟨rfl, rfl⟩)
    | (go_at_call 19; refine (Seq.of_any _ _).mono ?_; rintro e w' ⟨rfl, rfl⟩) | (go_at_call 20; refine (Seq.low_any _ _).mono ?_; rintro e w' ⟨rfl, rfl⟩)
    | (go_at_call 21; refine (Seq.add_any _ _ _).mono ?_; rintro e w' ⟨rfl, rfl⟩) | (go_at_call 22; refine (Seq.to_any _ _ _).mono ?_; rintro e w' ⟨rfl, rfl⟩)
    | (go_at_call 23; refine (Seq.refTo_any _ _ _).mono ?_; rintro e w' ⟨rfl, rfl⟩) | (go_at_call 24; refine (Seq.ahead_any _ _ _).mono ?_; rintro e w' ⟨rfl, rfl⟩)
    | (go_at_call 34; refine (Seq.within_any _ _ _ _).mono ?_; rintro e w' ⟨rfl, rfl⟩))
        go_round
        case rel =>
          obtain ⟨n, hn, hn1, hn2⟩ := clamp_bd z
          rw [← hn]
          exact ⟨k + 1, S + n, by omega, by omega, by omega, by omega, by go_num, rfl, by go_num⟩
        case measure => simp [intOf]; omega
      · go_wp2_with (first
    | (go_at_call 17; refine (Seq.awake_any _).mono ?_; rintro e w' ⟨rfl, rfl⟩) | (go_at_call 18; refine (Seq.refOf_any _ _).mono ?_; rintro e w' ⟨rfl, rfl⟩)
    | (go_at_call 19; refine (Seq.of_any _ _).mono ?_; rintro e w' ⟨rfl, rfl⟩) | (go_at_call 20; refine (Seq.low_any _ _).mono ?_; rintro e w' ⟨rfl, rfl⟩)
    | (go_at_call 21; refine (Seq.add_any _ _ _).mono ?_; rintro e w' ⟨rfl, rfl⟩) | (go_at_call 22; refine (Seq.to_any _ _ _).mono ?_; rintro e w' ⟨rfl, rfl⟩)
    | (go_at_call 23; refine (Seq.refTo_any _ _ _).mono ?_; rintro e w' ⟨rfl, rfl⟩) | (go_at_call 24; refine (Seq.ahead_any _ _ _).mono ?_; rintro e w' ⟨rfl, rfl⟩)
    | (go_at_call 34; refine (Seq.within_any _ _ _ _).mono ?_; rintro e w' ⟨rfl, rfl⟩))
        go_ret
        exact ⟨rfl, Below.refl _ _⟩
    · go_wp2_with (first
    | (go_at_call 17; refine (Seq.awake_any _).mono ?_; rintro e w' ⟨rfl, rfl⟩) | (go_at_call 18; refine (Seq.refOf_any _ _).mono ?_; rintro e w' ⟨rfl, rfl⟩)
    | (go_at_call 19; refine (Seq.of_any _ _).mono ?_; rintro e w' ⟨rfl, rfl⟩) | (go_at_call 20; refine (Seq.low_any _ _).mono ?_; rintro e w' ⟨rfl, rfl⟩)
    | (go_at_call 21; refine (Seq.add_any _ _ _).mono ?_; rintro e w' ⟨rfl, rfl⟩) | (go_at_call 22; refine (Seq.to_any _ _ _).mono ?_; rintro e w' ⟨rfl, rfl⟩)
    | (go_at_call 23; refine (Seq.refTo_any _ _ _).mono ?_; rintro e w' ⟨rfl, rfl⟩) | (go_at_call 24; refine (Seq.ahead_any _ _ _).mono ?_; rintro e w' ⟨rfl, rfl⟩)
    | (go_at_call 34; refine (Seq.within_any _ _ _ _).mono ?_; rintro e w' ⟨rfl, rfl⟩))
      go_ret
      exact ⟨rfl, Below.refl _ _⟩

end Go.Proofs.Ytallhdlnhegjiaa.seqAdds
