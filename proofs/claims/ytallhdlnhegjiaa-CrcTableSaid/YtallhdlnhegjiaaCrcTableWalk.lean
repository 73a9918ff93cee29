/- The walk of CrcTable: whatever a byte, it returns true and writes nothing that was there. -/
import Derived.Test.YtallhdlnhegjiaaRows
import Derived.WalkKit
import Derived.ProofKit
import Derived.OpenShut
import Derived.Lib.Hide
import Derived.BigQuiet
import Derived.Deep.QuietTactic
import Derived.Test.YtallhdlnhegjiaaCrcFits
namespace Go.Proofs.Ytallhdlnhegjiaa.crcTable
open Go.ChangeShapes Go.WideShapes Go.ChangeAt Go.RowKit CrcP Crc
set_option linter.unusedVariables false

theorem on_zero (b : UInt8) (w : World) : Calls Try.prog 44 #[.int .u32 0, .int .u8 (b.toNat : Int)] w fun e w' => e = .returned (.int .u32 ((tab b.toBitVec).toNat : Int)) ∧ w' = w :=
  (on_any 0#32 b w).mono fun e w' h => ⟨h.1, h.2.symm⟩
theorem walk (a0 : Int) (w0 : (Lit.int .u8 a0).wf = true) (w : World) :
    Calls Try.prog 11 #[.int .u8 a0] w fun e w' => e = .returned (.bool true) ∧ Below w.heap.size w w' := by
  have b0 := bounds_u8 w0
  obtain ⟨b, rfl⟩ : ∃ b : UInt8, a0 = (b.toNat : Int) := ⟨UInt8.ofNat a0.toNat, by rw [UInt8.toNat_ofNat']; omega⟩
  clear w0
  have hb256 : b.toNat < 256 := by omega
  have hq1 : (b.toNat : Int) < 256 := by omega
  have hq0 : (0 : Int) ≤ (b.toNat : Int) := by omega
  go_enter Try.func11, Try.ntmps11
  go_wp2_with (first
    | (go_at_call 40; refine (awake_any _).mono ?_; rintro e wa ⟨rfl, hba⟩)
    | (go_at_call 25; refine (make_any _).mono ?_; rintro e w1 ⟨rfl, hb1⟩; have hb01 := hba.trans (hb1.mono hba.size); clear hb1)
    | (refine wpList_store_row rfl 37 (.tmp 3) (.tmp 6) rfl w1.heap.size (tabK 256) rfl rfl 37 Try.zeroCells37 (heap_alloc_new _ _) size37 zero_size (tabK_one 256) ?_; obtain ⟨W, hW, ht, hb2, hb3, hlt⟩ := made_tab hb01; rw [← hW]; clear hW))
  have hcell := ht.cell (i := b.toNat) hb256
  have e8 : BitVec.ofNat 8 b.toNat = b.toBitVec := by
    apply BitVec.eq_of_toNat_eq
    rw [BitVec.toNat_ofNat]
    exact Nat.mod_eq_of_lt hb256
  rw [e8] at hcell
  clear e8 ht hb01 hb3
  go_quiet ((go_at_call 44; exact Calls.quiet_of_same (on_zero _ _)))
  go_wp2
  go_ret
  exact ⟨rfl, hb2.trans (Drawn.below ⟨_, rfl⟩ _)⟩
end Go.Proofs.Ytallhdlnhegjiaa.crcTable
