/- The walk of crc.Make: it gives the table of the document, in an array of 256 cells. No conditions. -/
import Derived.Test.YtallhdlnhegjiaaRows
import Derived.WalkKit
import Derived.ProofKit
import Derived.OpenShut
import Derived.Outline
import Derived.Lib.Hide
import Derived.Laws.Rows
import Derived.Laws.Tables
import Derived.Test.YtallhdlnhegjiaaCrcLaw
namespace Go.Proofs.Ytallhdlnhegjiaa.Crc
open Go.ChangeShapes Go.WideShapes Go.ChangeAt Go.RowKit CrcP
set_option linter.unusedVariables false

theorem bits_xor_bv (A B : BitVec 32) : bits .xor .u32 (A.toNat : Int) (B.toNat : Int) = ((A ^^^ B).toNat : Int) := by
  rw [u32_xor_nat _ _ A.isLt B.isLt, BitVec.toNat_xor]

/-- a word as a value -/
def u32 (x : BitVec 32) : Value := .int .u32 (x.toNat : Int)
/-- the table's cells behind k rounds -/
def tabK (k : Nat) : Array Value := (Array.range 256).map fun i => if i < k then u32 (tab (BitVec.ofNat 8 i)) else .int .u32 0
theorem tabK_size (k : Nat) : (tabK k).size = 256 := by simp [tabK]
theorem tabK_zero : tabK 0 = Try.zeroCells37 := by kernel_rfl
theorem tabK_at (k i : Nat) (h : i < 256) : (tabK k)[i]? = some (if i < k then u32 (tab (BitVec.ofNat 8 i)) else .int .u32 0) := by
  simp [tabK, h]
theorem tabK_succ (k : Nat) (h : k < 256) : (tabK k).setIfInBounds k (u32 (tab (BitVec.ofNat 8 k))) = tabK (k + 1) := by
  apply Array.ext_getElem?
  intro i
  by_cases hi : i < 256
  · rw [tabK_at _ _ hi, Array.getElem?_setIfInBounds, tabK_at _ _ hi, tabK_size]
    by_cases e : k = i
    · subst e; simp [hi]
    · simp [e, show (i < k + 1) ↔ i < k by omega]
  · rw [Array.getElem?_eq_none (by rw [Array.size_setIfInBounds, tabK_size]; omega), Array.getElem?_eq_none (by rw [tabK_size]; omega)]

/-- what stands in memory behind k rounds -/
def Mid (w : World) (k : Nat) (wr : World) : Prop :=
  wr.heap.size = w.heap.size + 2 ∧ wr.heap[w.heap.size]? = some (.cells Try.zeroCells37 37 (0, 0)) ∧ wr.heap[w.heap.size + 1]? = some (.cells (tabK k) 37 (0, 0)) ∧ Below w.heap.size w wr
theorem mid_zero (w : World) : Mid w 0 ((w.alloc (.cells Try.zeroCells37 37)).alloc (.cells Try.zeroCells37 37)) :=
  ⟨by simp, heap_alloc2_old _ _ _, by rw [tabK_zero]; exact heap_alloc2_new _ _ _, ((Below.refl _ _).alloc (Nat.le_refl _) _).alloc (by simp) _⟩
theorem mid_cell {w wr : World} {k : Nat} (h : Mid w k wr) (hk : k < 256) : wr.cell? ⟨w.heap.size + 1, k, none⟩ = some (.int .u32 0) ∧ wr.frozen? ⟨w.heap.size + 1, k, none⟩ = false := by
  refine ⟨?_, frozen_of_row _ _ _ _ _ h.2.2.1⟩
  rw [cell_of_row _ _ _ _ _ _ h.2.2.1, tabK_at _ _ hk, if_neg (by omega)]
theorem mid_step {w wr : World} {k : Nat} (h : Mid w k wr) (hk : k < 256) : Mid w (k + 1) (wr.setCell ⟨w.heap.size + 1, k, none⟩ (u32 (tab (BitVec.ofNat 8 k)))) :=
  ⟨by simpa [World.setCell] using h.1, (heap_setCell_other _ _ _ _ (by simp)).trans h.2.1, by rw [heap_setCell_same _ _ _ _ _ _ h.2.2.1, tabK_succ k hk], h.2.2.2.setCell (by simp) _⟩

theorem mid_step' {w wr : World} {k : Nat} (h : Mid w k wr) (hk : k < 256) : Mid w (k + 1) (wr.setCell ⟨w.heap.size + 1, k, none⟩ (.int .u32 ((stpN 8 (atTop (BitVec.ofNat 8 k))).toNat : Int))) := by
  have h1 := mid_step h hk
  unfold u32 tab onB at h1
  rw [BitVec.zero_xor] at h1
  exact h1
theorem size37' : (Try.prog.info? 37).map (·.size) = some 256 := by kernel_rfl
theorem size37 : (Try.prog.info? 37).map (·.size) = some (tabK 256).size := size37'.trans (congrArg some (tabK_size 256).symm)
theorem zero_size : Try.zeroCells37.size = (tabK 256).size := by
  rw [← tabK_zero, tabK_size, tabK_size]
theorem tabK_one (k : Nat) : (tabK k).all (·.oneCell') = true := by
  rw [Array.all_eq_true_iff_forall_mem]
  intro v hv
  unfold tabK at hv
  rw [Array.mem_map] at hv
  obtain ⟨i, _, rfl⟩ := hv
  split <;> rfl
theorem made_below {w wr : World} {cs : Array Value} (h1 : wr.heap.size = w.heap.size + 2) (h4 : Below w.heap.size w wr) : Below w.heap.size w (wr.setRow w.heap.size cs) := by
  refine ⟨h4.os, h4.tape, h4.output, by simp; omega, fun i hi => ?_⟩
  rw [setRow_other _ _ _ _ (by omega)]
  exact h4.block i hi
theorem stp_int (X : BitVec 32) : bits .xor .u32 ((X.toNat : Int) * 2 % 4294967296) (79764919 * ((X.toNat : Int) / 2147483648)) = ((stp X).toNat : Int) := by
  have h1 : (X.toNat : Int) * (2 : Int) % (4294967296 : Int) = Int.ofNat (X <<< 1).toNat := by
    rw [BitVec.toNat_shiftLeft, Nat.shiftLeft_eq]; simp only [Int.ofNat_eq_natCast]; omega
  have h2 : (79764919 * ((X.toNat : Int) / 2147483648)) = ((if X.msb then poly else 0#32).toNat : Int) := by
    have hX := X.isLt
    have hm := BitVec.msb_eq_decide X
    by_cases c : 2 ^ 31 ≤ X.toNat
    · have : X.msb = true := by rw [hm]; exact decide_eq_true c
      rw [this]
      have e : (poly.toNat : Int) = 79764919 := by decide
      simp only [if_true, e]
      omega
    · have : X.msb = false := by rw [hm]; exact decide_eq_false c
      rw [this]
      simp only [Bool.false_eq_true, if_false, BitVec.toNat_ofNat]
      omega
  rw [h1, h2, Int.ofNat_eq_natCast, bits_xor_bv]
  rfl
theorem start_top (k : Nat) (h : k < 256) : ((stpN 0 (atTop (BitVec.ofNat 8 k))).toNat : Int) = (k : Int) * 16777216 := by
  rw [stpN]
  unfold atTop
  rw [BitVec.toNat_shiftLeft, BitVec.toNat_setWidth, BitVec.toNat_ofNat, Nat.shiftLeft_eq]
  omega

set_option maxRecDepth 20000 in
theorem make_any (w : World) : Calls Try.prog 25 #[] w fun e w' => e = .returned (.agg (tabK 256)) ∧ Below w.heap.size w w' := by
  go_enter Try.func25, Try.ntmps25
  go_wp2
  go_loopw [5] (fun i wr => ∃ k : Nat, k ≤ 256 ∧ i = .int .i64 k ∧ Mid w k wr)
    (fun i _ => 256 - (intOf i).toNat)
  case atStart => exact ⟨0, by omega, rfl, mid_zero w⟩
  case round =>
    obtain ⟨k, hk, rfl, hm⟩ := hrel
    by_cases hlt : k < 256
    · obtain ⟨hc, hf⟩ := mid_cell hm hlt
      go_wp2
      go_loop [3, 11] (fun x j => ∃ n : Nat, n ≤ 8 ∧ j = .int .i64 n ∧ x = .int .u32 ((stpN n (atTop (BitVec.ofNat 8 k))).toNat : Int)) (fun _ j => 8 - (intOf j).toNat)
      case atStart => exact ⟨0, by omega, rfl, by rw [start_top k hlt]⟩
      case round =>
        obtain ⟨n, hn, rfl, rfl⟩ := hrel
        by_cases hl8 : n < 8
        · have HS := Lib.hid (stpN_add n 1 (atTop (BitVec.ofNat 8 k)))
          generalize stpN n (atTop (BitVec.ofNat 8 k)) = X at HS ⊢
          have hX := X.isLt
          go_wp2
          go_round
          case rel =>
            refine ⟨n + 1, by omega, by go_num, ?_⟩
            rw [HS.out, stp_int]
            rfl
          case measure => simp [intOf]; omega
        · obtain rfl : n = 8 := by omega
          have hst := mid_step' hm hlt
          have HC := Lib.hid hst
          clear hst hm
          go_wp2
          go_roundw
          case rel => exact ⟨k + 1, by omega, by go_num, HC.out⟩
          case measure => simp [intOf]; omega
    · obtain rfl : k = 256 := by omega
      obtain ⟨h1, h2, h3, h4⟩ := hm
      have H1 := Lib.hid h1
      have H2 := Lib.hid h2
      have H3 := Lib.hid h3
      clear h1 h2 h3
      go_wp2_with (first | (refine wpList_load_row rfl 37 (.tmp 1) rfl (w.heap.size + 1) rfl 37 (tabK 256) (0, 0) _ H3.out Try.underlying37 rfl size37 ?_) | (refine wpList_store_row rfl 37 (.tmp 0) (.tmp 25) rfl w.heap.size (tabK 256) rfl rfl 37 Try.zeroCells37 H2.out size37 zero_size (tabK_one 256) ?_))
      refine bodyPost_ret (v := .agg (tabK 256)) (results_cell_row (fn := Try.f25) (p := 0) (ty := 37) rfl _ _ w.heap.size 37 (tabK 256) (0, 0) _ rfl ?_ Try.underlying37 rfl size37) rfl ⟨rfl, ?_⟩
      · exact setRow_heap _ _ _ _ _ _ H2.out
      · exact made_below H1.out h4

end Go.Proofs.Ytallhdlnhegjiaa.Crc
