/- The walk of CrcSums: whatever a text and a number, it returns true and writes nothing that was there. -/
import Derived.Test.YtallhdlnhegjiaaRows
import Derived.WalkKit
import Derived.ProofKit
import Derived.OpenShut
import Derived.Lib.Hide
import Derived.BigQuiet
import Derived.Deep.QuietTactic
import Derived.Deep.RegionHeld3
import Derived.Test.YtallhdlnhegjiaaCrcFits
namespace Go.Proofs.Ytallhdlnhegjiaa.crcSums
open Go.ChangeShapes Go.WideShapes Go.ChangeAt Go.RowKit CrcP Crc
set_option linter.unusedVariables false

theorem ref_sum (s : ByteArray) (hs : s.size ≤ maxLen) (w : World) : Calls Try.prog 42 #[.string s] w fun e w' => e = .returned (.int .u32 ((sum (bitsOf s)).toNat : Int)) ∧ w = w' := refSum_any s hs w
theorem three_bytes (s : ByteArray) (k : Nat) (h : k ≤ s.size) : allBytes [s.extract 0 k, ⟨#[]⟩, s.extract k s.size] = bitsOf s := by
  unfold allBytes bitsOf
  congr 1
  simp only [List.flatMap_cons, List.flatMap_nil, ByteArray.data_extract, Array.toList_extract, List.append_nil]
  have e2 : s.data.toList.length = s.size := by simp
  rw [List.extract_eq_take_drop, List.extract_eq_take_drop, List.drop_zero, Nat.sub_zero, List.take_of_length_le (l := s.data.toList.drop k) (by rw [List.length_drop, e2]; omega), List.nil_append, List.take_append_drop]
theorem sum_three (g b c : Nat) (s : ByteArray) (k : Nat) (hk : k ≤ s.size) (w : World) (hs : s.size ≤ maxLen) (ht : TabAt w g)
    (hc : w.heap[b]? = some (.cells #[.string (s.extract 0 k), .string ⟨#[]⟩, .string (s.extract k s.size)] 9 (0, 0))) :
    Calls Try.prog 27 #[.pointer (some ⟨g, 0, none⟩), .slice (some ⟨b, 0, none⟩) 3 c] w fun e w' => e = .returned (.int .u32 ((sum (bitsOf s)).toNat : Int)) ∧ Drawn w w' := by
  have h := sum_any g (some ⟨b, 0, none⟩) c [s.extract 0 k, ⟨#[]⟩, s.extract k s.size] w (by simp [maxLen]) (by
      intro x hx
      simp only [List.mem_cons, List.not_mem_nil, or_false] at hx
      rcases hx with rfl | rfl | rfl
      · rw [ByteArray.size_extract]; omega
      · exact Nat.zero_le _
      · rw [ByteArray.size_extract]; omega) ht (by
    intro i hi
    refine ⟨b, 0, rfl, ?_⟩
    rw [Nat.zero_add, cell_of_row _ _ _ _ _ _ hc]
    match i, hi with
    | 0, _ => rfl
    | 1, _ => rfl
    | 2, _ => rfl)
  rw [three_bytes s k hk] at h
  exact h

theorem walk (a0 : ByteArray) (a1 : Int) (w0 : a0.size ≤ maxLen) (w1 : (Lit.int .i64 a1).wf = true) (w : World) :
    Calls Try.prog 10 #[.string a0, .int .i64 a1] w fun e w' => e = .returned (.bool true) ∧ Below w.heap.size w w' := by
  have b1 := bounds_i64 w1
  have hcs : (cutS a0 100).size ≤ 100 := by
    unfold cutS
    split
    · rw [ByteArray.size_extract]; omega
    · omega
  have HC := Lib.hid hcs
  clear hcs w1
  go_enter Try.func10, Try.ntmps10
  go_wp2_with (first
    | (go_at_call 40; refine (awake_any _).mono ?_; rintro e wa ⟨rfl, hba⟩))
  refine (cut_any a0 100 (by omega) w0 _).mono ?_
  rintro e wc ⟨rfl, rfl⟩
  rw [show (100 : Int).toNat = 100 from rfl]
  have hs100 := HC.out
  generalize cutS a0 100 = s at hs100 ⊢
  obtain ⟨m, hm⟩ : ∃ m : Int, (if (s.size : Int) < a1 then (s.size : Int) else a1) = m := ⟨_, rfl⟩
  obtain ⟨k, hk, hks⟩ : ∃ k : Nat, (if 0 < m then m else 0) = (k : Int) ∧ k ≤ s.size := by
    refine ⟨(if 0 < m then m else 0).toNat, ?_, ?_⟩
    · split <;> omega
    · split at hm <;> (split <;> omega)
  go_wp2_with (first
    | (go_at_call 25; refine (make_any _).mono ?_; rintro e w1 ⟨rfl, hb1⟩; have hb01 := hba.trans (hb1.mono hba.size); clear hb1)
    | (refine wpList_store_row rfl 37 (.tmp 6) (.tmp 16) rfl w1.heap.size (tabK 256) rfl rfl 37 Try.zeroCells37 (heap_alloc_new _ _) size37 zero_size (tabK_one 256) ?_; obtain ⟨W, hW, ht, hbW, hb3, hlt⟩ := made_tab hb01; rw [← hW]; clear hW))
  clear hm hk hba hb01 hb3 HC
  have HT := Lib.hid ht
  have hsm : s.size ≤ maxLen := by unfold maxLen; omega
  have hs4 : s.size + 4 ≤ maxLen := by unfold maxLen; omega
  have hk1 : (k : Int) ≤ (s.size : Int) := by omega
  have hf4 : (fourS (sum (bitsOf s))).size = 4 := rfl
  have hns : ¬ 9223372036854775807 < s.size + 4 := by omega
  have hse : sealS s = s ++ fourS (sum (bitsOf s)) := rfl
  clear ht
  go_region_held3 (fun w' => Below W.heap.size W w') (first | exact (Below.refl _ _).drew | assumption | exact Below.alloc (by assumption) (Below.size (by assumption)) _) (first
      | (go_at_call 27; (with_reducible refine (sum_one w1.heap.size _ 0 1 s _ hsm ?_ ?_).mono ?_); (exact HT.out.below (by assumption) hlt); (simp); rintro e w2 ⟨rfl, hd1⟩; have hB1 := Below.trans (by assumption) (hd1.below W.heap.size))
      | (go_at_call 27; (with_reducible refine (sum_three w1.heap.size _ 3 s k hks _ hsm ?_ ?_).mono ?_); (exact HT.out.below (by assumption) hlt); (exact heap_alloc_new _ _); rintro e w2 ⟨rfl, hd1⟩; have hB1 := Below.trans (by assumption) (hd1.below W.heap.size))
      | (go_at_call 42; refine (ref_sum s hsm _).mono ?_; rintro e w2 ⟨rfl, rfl⟩)
      | (go_at_call 32; refine (seal_any w1.heap.size s _ hs4 ?_).mono ?_; (exact HT.out.below (by assumption) hlt); rintro e w2 ⟨rfl, hb2⟩; have hB2 := below_then (by assumption) hb2 (Below.size (by assumption)))
      | (go_at_call 43; refine (refFour_any _ _).mono ?_; rintro e w2 ⟨rfl, hb2⟩; have hB2 := below_then (by assumption) hb2 (Below.size (by assumption))))
  go_wp2
  go_ret
  exact ⟨rfl, hbW.trans (hB2.mono hbW.size)⟩
end Go.Proofs.Ytallhdlnhegjiaa.crcSums
