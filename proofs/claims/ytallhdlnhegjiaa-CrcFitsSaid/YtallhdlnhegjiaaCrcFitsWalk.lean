/- The walk of CrcFits: whatever a text, it returns true and writes nothing that was there. -/
import Derived.Test.YtallhdlnhegjiaaRows
import Derived.WalkKit
import Derived.ProofKit
import Derived.OpenShut
import Derived.Lib.Hide
import Derived.BigQuiet
import Derived.Deep.QuietTactic
import Derived.Deep.RegionHeld3
import Derived.Maps.RangeWalk
import Derived.Test.YtallhdlnhegjiaaCrcFits
namespace Go.Proofs.Ytallhdlnhegjiaa.crcFits
open Go.ChangeShapes Go.WideShapes Go.ChangeAt Go.RowKit CrcP Crc
set_option linter.unusedVariables false

theorem ref_sum (s : ByteArray) (hs : s.size ≤ maxLen) (w : World) : Calls Try.prog 42 #[.string s] w fun e w' => e = .returned (.int .u32 ((sum (bitsOf s)).toNat : Int)) ∧ w = w' := refSum_any s hs w
theorem cutS_size (s : ByteArray) (n : Nat) : (cutS s n).size ≤ n := by
  unfold cutS
  split
  · rw [ByteArray.size_extract]; omega
  · omega

theorem walk (a0 : ByteArray) (w0 : a0.size ≤ maxLen) (w : World) :
    Calls Try.prog 12 #[.string a0] w fun e w' => e = .returned (.bool true) ∧ Below w.heap.size w w' := by
  have HC := Lib.hid (cutS_size a0 100)
  go_enter Try.func12, Try.ntmps12
  go_wp2_with (first
    | (go_at_call 40; refine (awake_any _).mono ?_; rintro e wa ⟨rfl, hba⟩))
  refine (cut_any a0 100 (by omega) w0 _).mono ?_
  rintro e wc ⟨rfl, rfl⟩
  rw [show (100 : Int).toNat = 100 from rfl]
  have hs100 := HC.out
  generalize cutS a0 100 = s at hs100 ⊢
  go_wp2_with (first
    | (go_at_call 25; refine (make_any _).mono ?_; rintro e w1 ⟨rfl, hb1⟩; have hb01 := hba.trans (hb1.mono hba.size); clear hb1)
    | (refine wpList_store_row rfl 37 (.tmp 3) (.tmp 9) rfl w1.heap.size (tabK 256) rfl rfl 37 Try.zeroCells37 (heap_alloc_new _ _) size37 zero_size (tabK_one 256) ?_; obtain ⟨W, hW, ht, hbW, hb3, hlt⟩ := made_tab hb01; rw [← hW]; clear hW))
  clear hba hb01 hb3 HC
  have HT := Lib.hid ht
  have hsm : s.size ≤ maxLen := by unfold maxLen; omega
  have hs4 : s.size + 4 ≤ maxLen := by unfold maxLen; omega
  have hss : (sealS s).size ≤ maxLen := by rw [sealS_size]; exact hs4
  have HF := Lib.hid (fits_seal s)
  clear ht
  by_cases h4 : s.size < 4
  · have hd : decide (4 ≤ (s.size : Int)) = false := decide_eq_false (by omega)
    have HB := Lib.hid (fitsB_short h4)
    go_frame
    go_quiet (fail)
    go_wp2_with fail
    have HW : Below W.heap.size W (W.drewN nq) := Drawn.below ⟨_, rfl⟩ _
    have hWs := HW.size
    refine (fits_any w1.heap.size s _ hsm (HT.out.below HW hlt)).mono ?_
    rw [HB.out]
    rintro e w3 ⟨rfl, hb3⟩
    have hc3 := below_then HW hb3 hWs
    go_wp2_with fail
    refine (seal_any w1.heap.size s _ hs4 (HT.out.below hc3 hlt)).mono ?_
    rintro e w4 ⟨rfl, hb4⟩
    have hc4 := below_then hc3 hb4 hc3.size
    go_wp2_with fail
    refine (fits_any w1.heap.size (sealS s) _ hss (HT.out.below hc4 hlt)).mono ?_
    rw [HF.out]
    rintro e w5 ⟨rfl, hb5⟩
    have hc5 := below_then hc4 hb5 hc4.size
    go_wp2
    go_ret
    exact ⟨rfl, hbW.trans (hc5.mono hbW.size)⟩
  · obtain ⟨n, hn⟩ : ∃ n : Nat, (s.size : Int) - 4 = (n : Int) := ⟨s.size - 4, by omega⟩
    have hn1 : n ≤ s.size := by omega
    have hn2 : (n : Int) ≤ (s.size : Int) := by omega
    have hn3 : (0 : Int) ≤ (n : Int) := by omega
    have hn4 : decide ((4 : Int) ≤ (s.size : Int)) = true := decide_eq_true (by omega)
    have HN := Lib.hid hn
    have hx : (s.extract 0 n).size ≤ maxLen := by rw [ByteArray.size_extract]; unfold maxLen; omega
    have hbb : ((s.extract n s.size).toList == (fourS (sum (bitsOf (s.extract 0 n)))).toList) = fitsB s := by rw [fitsB_long hn]; exact Bool.beq_comm
    have hwr : IntKind.i64.wrap ((s.size : Int) - 4) = (n : Int) := by rw [IntWalk.i64_in _ (by omega)]; exact hn
    clear hn
    go_frame
    go_region_held3 (fun w' => Below W.heap.size W w') (first | exact (Below.refl _ _).drew | assumption | exact Below.alloc (by assumption) (Below.size (by assumption)) _) (first
      | (go_at_call 42; refine (ref_sum (s.extract 0 n) hx _).mono ?_; rintro e w2 ⟨rfl, rfl⟩)
      | (go_at_call 43; refine (refFour_any _ _).mono ?_; rintro e w2 ⟨rfl, hb2⟩; have hB2 := below_then (by assumption) hb2 (Below.size (by assumption))))
    go_wp2_with fail
    have HW := hB2
    have hWs := HW.size
    refine (fits_any w1.heap.size s _ hsm (HT.out.below HW hlt)).mono ?_
    rintro e w3 ⟨rfl, hb3⟩
    have hc3 := below_then HW hb3 hWs
    go_wp2_with fail
    refine (seal_any w1.heap.size s _ hs4 (HT.out.below hc3 hlt)).mono ?_
    rintro e w4 ⟨rfl, hb4⟩
    have hc4 := below_then hc3 hb4 hc3.size
    go_wp2_with fail
    refine (fits_any w1.heap.size (sealS s) _ hss (HT.out.below hc4 hlt)).mono ?_
    rw [HF.out]
    rintro e w5 ⟨rfl, hb5⟩
    have hc5 := below_then hc4 hb5 hc4.size
    go_wp2
    go_ret
    exact ⟨rfl, hbW.trans (hc5.mono hbW.size)⟩
end Go.Proofs.Ytallhdlnhegjiaa.crcFits
