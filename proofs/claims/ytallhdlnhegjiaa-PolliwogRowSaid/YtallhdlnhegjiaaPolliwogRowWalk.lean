/- The walk of PolliwogRow: whatever a list of texts and a number, it returns true and writes nothing that was there. (Printed by gen_row.py.) -/
import Derived.Test.YtallhdlnhegjiaaRows
import Derived.WalkKit
import Derived.ProofKit
import Derived.OpenShut
import Derived.Lib.Hide
import Derived.Test.YtallhdlnhegjiaaCrcFits
import Derived.Test.YtallhdlnhegjiaaStrs
import Derived.Test.YtallhdlnhegjiaaRingPut
namespace Go.Proofs.Ytallhdlnhegjiaa.polliwogRow
open Go.ChangeShapes Go.WideShapes Go.ChangeAt Go.RowKit CrcP Strs
open Crc (TabAt tabK make_any made_tab size37 zero_size tabK_one sum_none fitsB fits_any fits_seal sealS seal_any sealS_size below_then)
open Ring (Ring queue room_any take_any put_any clear_any new_any queue_length queue_succ)
set_option linter.unusedVariables false

/-- what stands in the row: it fits, and is short -/
def Fine (y : ByteArray) : Prop := fitsB y = true ∧ y.size ≤ 34
theorem fine_seal (y : ByteArray) (h : y.size ≤ 30) : Fine (sealS y) := ⟨fits_seal y, by rw [sealS_size]; omega⟩
theorem first_mem (cs : List ByteArray) (pos len : Nat) (hl : 0 < len) (hp : pos < cs.length) : cs.getD pos ByteArray.empty ∈ queue cs pos len := by
  unfold queue
  rw [List.mem_map]
  exact ⟨0, by rw [List.mem_range]; exact hl, by rw [Nat.add_zero, Nat.mod_eq_of_lt hp]⟩
theorem took_mem (cs : List ByteArray) (pos len : Nat) (hl : len ≤ cs.length) (hp : pos < cs.length) (x : ByteArray) (hx : x ∈ queue (cs.set pos ByteArray.empty) ((pos + 1) % cs.length) (len - 1)) : x ∈ queue cs pos len := by
  unfold queue at hx ⊢
  rw [List.mem_map] at hx ⊢
  obtain ⟨i, hi, rfl⟩ := hx
  rw [List.mem_range] at hi
  refine ⟨i + 1, by rw [List.mem_range]; omega, ?_⟩
  rw [List.length_set, Nat.mod_add_mod]
  have e : pos + 1 + i = pos + (i + 1) := by omega
  rw [e]
  have hne : (pos + (i + 1)) % cs.length ≠ pos := by
    intro h
    have h1 : (pos + 0) % cs.length ≠ (pos + (i + 1)) % cs.length := Ring.mod_ne (by omega) (by omega)
    rw [Nat.add_zero, Nat.mod_eq_of_lt hp] at h1
    exact h1 h.symm
  rw [List.getD_eq_getElem?_getD, List.getD_eq_getElem?_getD, List.getElem?_set_ne (fun e => hne e.symm)]
theorem clampM (a : Int) : ∃ (M : Int) (m : Nat), (if (40 : Int) < a then (40 : Int) else a) = M ∧ (if (1 : Int) < M then M else 1) = (m : Int) ∧ 1 ≤ m ∧ m ≤ 40 := by
  refine ⟨_, (if (1 : Int) < (if (40 : Int) < a then (40 : Int) else a) then (if (40 : Int) < a then (40 : Int) else a) else 1).toNat, rfl, ?_, ?_, ?_⟩ <;> (repeat' split) <;> omega
theorem cut30 (z : ByteArray) : (z.extract 0 30).size ≤ 30 := by rw [ByteArray.size_extract]; omega

theorem queue_at (cs : List ByteArray) (pos len : Nat) (h : ∀ y ∈ queue cs pos len, Fine y) (i : Nat) (hi : i < len) : ∃ x, ((queue cs pos len).map Value.string)[i]? = some (.string x) ∧ Fine x := by
  have hl : i < (queue cs pos len).length := by rw [queue_length]; exact hi
  refine ⟨(queue cs pos len)[i], ?_, h _ (List.getElem_mem hl)⟩
  rw [List.getElem?_map, List.getElem?_eq_getElem hl]
  rfl

set_option maxRecDepth 20000 in
set_option maxHeartbeats 4000000 in
theorem walk (a0 : Option Addr) (len0 cap0 : Nat) (z0 : List ByteArray) (a1 : Int) (w : World) (w0 : IsStrs w a0 len0 cap0 z0) (w1' : (Lit.int .i64 a1).wf = true) :
    Calls Try.prog 6 #[.slice a0 len0 cap0, .int .i64 a1] w fun e w' => e = .returned (.bool true) ∧ Below w.heap.size w w' := by
  have hlen := w0.len_le
  unfold maxLen at hlen
  have W0 := Lib.hid w0
  clear w0 w1'
  obtain ⟨M, m, hM, hm, hm1, hm40⟩ := clampM a1
  obtain ⟨K, hK, hK0, hK40, hKe⟩ : ∃ K : Nat, (if (40 : Int) < (len0 : Int) then (40 : Int) else (len0 : Int)) = (K : Int) ∧ K ≤ len0 ∧ K ≤ 40 ∧ (K < len0 → K = 40) := by
    by_cases c : 40 < len0
    · exact ⟨40, by rw [if_pos (by omega)]; rfl, by omega, by omega, fun _ => rfl⟩
    · exact ⟨len0, by rw [if_neg (by omega)], by omega, by omega, fun h => absurd h (by omega)⟩
  have HKE := Lib.hid hKe
  have HK := Lib.hid hK
  clear hKe hK
  go_enter Try.func6, Try.ntmps6
  go_wp2_with (first
    | (go_at_call 25; refine (make_any _).mono ?_; rintro e w1 ⟨rfl, hb01⟩)
    | (refine wpList_store_row rfl 37 (.tmp 5) (.tmp 14) rfl w1.heap.size (tabK 256) rfl rfl 37 Try.zeroCells37 (heap_alloc_new _ _) size37 zero_size (tabK_one 256) ?_; obtain ⟨W, hW, ht, hbW, hb3, hlt⟩ := made_tab hb01; rw [← hW]; clear hW))
  have HT := Lib.hid ht
  have HW := Lib.hid hbW
  clear ht hbW hb3 hb01 hM hm
  generalize w1.heap.size = g at HT hlt ⊢
  have hm1' : 0 < m := hm1
  refine (new_any W m hm1' (by omega)).mono ?_
  rintro e w2 ⟨rfl, hR, hb2⟩
  have HR := Lib.hid hR
  have HB2 := Lib.hid hb2
  clear hR hb2
  have hws := HW.out.size
  obtain ⟨B, hB⟩ : ∃ B, W.heap.size = B := ⟨_, rfl⟩
  rw [hB] at HR HB2 hlt hws ⊢
  have HBE := Lib.hid hB
  clear hB
  have HT2 := Lib.hid (HT.out.below HB2.out hlt)
  go_wp2_with fail
  refine (sum_none _ _ HT2.out).mono ?_
  rintro e w3 ⟨rfl, n3, rfl⟩
  have HR3 := Lib.hid (HR.out.drawn ⟨n3, rfl⟩)
  have HB3 := Lib.hid (HB2.out.trans (Ring.Drawn.below (w := w2) ⟨n3, rfl⟩ B))
  generalize w2.drewN n3 = w3 at HR3 HB3 ⊢
  go_wp2_with fail
  go_loopw [7, 8] (fun n i wr => ∃ (k c len : Nat) (A : Option Addr) (pos : Nat) (cs : List ByteArray), k ≤ K ∧ i = .int .i64 k ∧ n = .int .i64 c ∧ c + len = k ∧ Ring wr B B A pos len m cs ∧ (∀ y ∈ queue cs pos len, Fine y) ∧ Below B W wr)
    (fun _ i _ => 40 - (intOf i).toNat)
  case atStart => exact ⟨0, 0, 0, none, 0, [], by omega, rfl, rfl, rfl, HR3.out, (by intro y hy; simp [queue] at hy), HB3.out⟩
  case round =>
    obtain ⟨k, c, len, A, pos, cs, hk, rfl, rfl, hcl, hR, hF, hb⟩ := hrel
    have R0 := Lib.hid hR
    have F0 := Lib.hid hF
    have hB0 := hb
    have hBr := R0.out.lt
    clear hR hF hb
    by_cases c1 : k < K
    · obtain ⟨b, off, rfl, hbl, hcell, hsz⟩ := W0.out.at_ (show k < len0 by omega)
      have hcell' : wr.cell? ⟨b, off + k, none⟩ = some (.string (z0.getD k ByteArray.empty)) := (hB0.cell (by show b < B; omega)).trans ((HW.out.cell (by exact hbl)).trans hcell)
      clear hcell
      generalize z0.getD k ByteArray.empty = z at hcell' hsz
      unfold maxLen at hsz
      have t1 : (k : Int) < (len0 : Int) := by omega
      have t2 : (k : Int) < 40 := by omega
      have q0 : len ≤ m := by have := R0.out.full; have := R0.out.room; omega
      by_cases c30 : 30 < z.size
      · have t3 : (30 : Int) < (z.size : Int) := by omega
        have hy30 := cut30 z
        obtain ⟨y, hy⟩ : ∃ y, z.extract 0 30 = y := ⟨_, rfl⟩
        rw [hy] at hy30
        by_cases cf : len = m
        · have tf : ((m : Int) - (len : Int) == 0) = true := by rw [beq_iff_eq]; omega
          have hlm := Lib.hid cf
          have hml : 0 < len := by omega
          have hpr : len - 1 + 1 = len := by omega
          clear cf
          go_wp2_with fail
          refine (room_any R0.out).mono ?_
          rintro e w4 ⟨rfl, n4, rfl⟩
          have R1 := Lib.hid (R0.out.drawn ⟨n4, rfl⟩)
          have hB1 := hB0.trans (Ring.Drawn.below (w := wr) ⟨n4, rfl⟩ B)
          generalize wr.drewN n4 = W1 at R1 hB1 ⊢
          have hl0 : 0 < len := by omega
          have hpl : pos < cs.length := by have := R1.out.lies; have := R1.out.full; omega
          have HX := Lib.hid (F0.out _ (first_mem cs pos len hl0 hpl))
          have F1 := Lib.hid (fun y hy => F0.out y (took_mem cs pos len R1.out.full hpl y hy))
          go_wp2_with fail
          refine (take_any R1.out hl0).mono ?_
          rintro e w5 ⟨rfl, hR2, hb5⟩
          have R2 := Lib.hid hR2
          have hB2 := hB1.trans hb5
          clear hR2 hb5 hB1 R1
          generalize cs.getD pos ByteArray.empty = x at HX ⊢
          generalize cs.set pos ByteArray.empty = cs2 at R2 F1
          generalize (pos + 1) % cs.length = pos2 at R2 F1
          obtain ⟨len2, hlen2⟩ : ∃ len2, len - 1 = len2 := ⟨_, rfl⟩
          rw [hlen2] at R2 F1
          have hxs := HX.out.2
          go_wp2_with fail
          refine (fits_any g x _ (by unfold maxLen; omega) (HT.out.below (hB2) hlt)).mono ?_
          rw [HX.out.1]
          rintro e w6 ⟨rfl, hb6⟩
          have R3 := Lib.hid (R2.out.below hb6)
          have hB3 := below_then hB2 hb6 (Nat.le_of_lt R2.out.lt)
          clear hb6 hB2 R2
          go_wp2_with fail
          refine (seal_any g y _ (by unfold maxLen; omega) (HT.out.below hB3 hlt)).mono ?_
          rintro e w7 ⟨rfl, hb7⟩
          have R4 := Lib.hid (R3.out.below hb7)
          have hB4 := below_then hB3 hb7 (Nat.le_of_lt R3.out.lt)
          have HFS := Lib.hid (fine_seal y hy30)
          generalize sealS y = sy at HFS ⊢
          clear hb7 hB3
          go_wp2_with fail
          refine (put_any R4.out (by omega) sy (Nat.le_of_lt R4.out.lt)).mono ?_
          rintro e w8 ⟨rfl, A5, pos5, cs5, hR5, hq5, hb8⟩
          have R5 := Lib.hid hR5
          have Q5 := Lib.hid hq5
          have hB5 := hB4.trans hb8
          clear hR5 hq5 hb8 hB4
          go_wp2_with fail
          go_roundw
          case rel => exact ⟨k + 1, c + 1, len2 + 1, A5, pos5, cs5, by omega, by go_num, by go_num, by omega, R5.out, (by intro v hv; rcases Q5.out v hv with rfl | h; exact HFS.out; exact F1.out v h), hB5⟩
          case measure => simp [intOf]; omega
        · have tf : ((m : Int) - (len : Int) == 0) = false := by rw [beq_eq_false_iff_ne]; omega
          go_wp2_with fail
          refine (room_any R0.out).mono ?_
          rintro e w4 ⟨rfl, n4, rfl⟩
          have R1 := Lib.hid (R0.out.drawn ⟨n4, rfl⟩)
          have hB1 := hB0.trans (Ring.Drawn.below (w := wr) ⟨n4, rfl⟩ B)
          generalize wr.drewN n4 = W1 at R1 hB1 ⊢
          have R3 := R1
          have hB3 := hB1
          have F1 := F0
          go_wp2_with fail
          refine (seal_any g y _ (by unfold maxLen; omega) (HT.out.below hB3 hlt)).mono ?_
          rintro e w7 ⟨rfl, hb7⟩
          have R4 := Lib.hid (R3.out.below hb7)
          have hB4 := below_then hB3 hb7 (Nat.le_of_lt R3.out.lt)
          have HFS := Lib.hid (fine_seal y hy30)
          generalize sealS y = sy at HFS ⊢
          clear hb7 hB3
          go_wp2_with fail
          refine (put_any R4.out (by omega) sy (Nat.le_of_lt R4.out.lt)).mono ?_
          rintro e w8 ⟨rfl, A5, pos5, cs5, hR5, hq5, hb8⟩
          have R5 := Lib.hid hR5
          have Q5 := Lib.hid hq5
          have hB5 := hB4.trans hb8
          clear hR5 hq5 hb8 hB4
          go_wp2_with fail
          go_roundw
          case rel => exact ⟨k + 1, c, len + 1, A5, pos5, cs5, by omega, by go_num, by go_num, by omega, R5.out, (by intro v hv; rcases Q5.out v hv with rfl | h; exact HFS.out; exact F1.out v h), hB5⟩
          case measure => simp [intOf]; omega
      · have t3 : ¬ (30 : Int) < (z.size : Int) := by omega
        obtain ⟨y, hy⟩ : ∃ y, z = y := ⟨_, rfl⟩
        have hy30 : y.size ≤ 30 := by rw [← hy]; omega
        rw [hy] at hcell' t3
        clear hy
        by_cases cf : len = m
        · have tf : ((m : Int) - (len : Int) == 0) = true := by rw [beq_iff_eq]; omega
          have hlm := Lib.hid cf
          have hml : 0 < len := by omega
          have hpr : len - 1 + 1 = len := by omega
          clear cf
          go_wp2_with fail
          refine (room_any R0.out).mono ?_
          rintro e w4 ⟨rfl, n4, rfl⟩
          have R1 := Lib.hid (R0.out.drawn ⟨n4, rfl⟩)
          have hB1 := hB0.trans (Ring.Drawn.below (w := wr) ⟨n4, rfl⟩ B)
          generalize wr.drewN n4 = W1 at R1 hB1 ⊢
          have hl0 : 0 < len := by omega
          have hpl : pos < cs.length := by have := R1.out.lies; have := R1.out.full; omega
          have HX := Lib.hid (F0.out _ (first_mem cs pos len hl0 hpl))
          have F1 := Lib.hid (fun y hy => F0.out y (took_mem cs pos len R1.out.full hpl y hy))
          go_wp2_with fail
          refine (take_any R1.out hl0).mono ?_
          rintro e w5 ⟨rfl, hR2, hb5⟩
          have R2 := Lib.hid hR2
          have hB2 := hB1.trans hb5
          clear hR2 hb5 hB1 R1
          generalize cs.getD pos ByteArray.empty = x at HX ⊢
          generalize cs.set pos ByteArray.empty = cs2 at R2 F1
          generalize (pos + 1) % cs.length = pos2 at R2 F1
          obtain ⟨len2, hlen2⟩ : ∃ len2, len - 1 = len2 := ⟨_, rfl⟩
          rw [hlen2] at R2 F1
          have hxs := HX.out.2
          go_wp2_with fail
          refine (fits_any g x _ (by unfold maxLen; omega) (HT.out.below (hB2) hlt)).mono ?_
          rw [HX.out.1]
          rintro e w6 ⟨rfl, hb6⟩
          have R3 := Lib.hid (R2.out.below hb6)
          have hB3 := below_then hB2 hb6 (Nat.le_of_lt R2.out.lt)
          clear hb6 hB2 R2
          go_wp2_with fail
          refine (seal_any g y _ (by unfold maxLen; omega) (HT.out.below hB3 hlt)).mono ?_
          rintro e w7 ⟨rfl, hb7⟩
          have R4 := Lib.hid (R3.out.below hb7)
          have hB4 := below_then hB3 hb7 (Nat.le_of_lt R3.out.lt)
          have HFS := Lib.hid (fine_seal y hy30)
          generalize sealS y = sy at HFS ⊢
          clear hb7 hB3
          go_wp2_with fail
          refine (put_any R4.out (by omega) sy (Nat.le_of_lt R4.out.lt)).mono ?_
          rintro e w8 ⟨rfl, A5, pos5, cs5, hR5, hq5, hb8⟩
          have R5 := Lib.hid hR5
          have Q5 := Lib.hid hq5
          have hB5 := hB4.trans hb8
          clear hR5 hq5 hb8 hB4
          go_wp2_with fail
          go_roundw
          case rel => exact ⟨k + 1, c + 1, len2 + 1, A5, pos5, cs5, by omega, by go_num, by go_num, by omega, R5.out, (by intro v hv; rcases Q5.out v hv with rfl | h; exact HFS.out; exact F1.out v h), hB5⟩
          case measure => simp [intOf]; omega
        · have tf : ((m : Int) - (len : Int) == 0) = false := by rw [beq_eq_false_iff_ne]; omega
          go_wp2_with fail
          refine (room_any R0.out).mono ?_
          rintro e w4 ⟨rfl, n4, rfl⟩
          have R1 := Lib.hid (R0.out.drawn ⟨n4, rfl⟩)
          have hB1 := hB0.trans (Ring.Drawn.below (w := wr) ⟨n4, rfl⟩ B)
          generalize wr.drewN n4 = W1 at R1 hB1 ⊢
          have R3 := R1
          have hB3 := hB1
          have F1 := F0
          go_wp2_with fail
          refine (seal_any g y _ (by unfold maxLen; omega) (HT.out.below hB3 hlt)).mono ?_
          rintro e w7 ⟨rfl, hb7⟩
          have R4 := Lib.hid (R3.out.below hb7)
          have hB4 := below_then hB3 hb7 (Nat.le_of_lt R3.out.lt)
          have HFS := Lib.hid (fine_seal y hy30)
          generalize sealS y = sy at HFS ⊢
          clear hb7 hB3
          go_wp2_with fail
          refine (put_any R4.out (by omega) sy (Nat.le_of_lt R4.out.lt)).mono ?_
          rintro e w8 ⟨rfl, A5, pos5, cs5, hR5, hq5, hb8⟩
          have R5 := Lib.hid hR5
          have Q5 := Lib.hid hq5
          have hB5 := hB4.trans hb8
          clear hR5 hq5 hb8 hB4
          go_wp2_with fail
          go_roundw
          case rel => exact ⟨k + 1, c, len + 1, A5, pos5, cs5, by omega, by go_num, by go_num, by omega, R5.out, (by intro v hv; rcases Q5.out v hv with rfl | h; exact HFS.out; exact F1.out v h), hB5⟩
          case measure => simp [intOf]; omega
    · obtain rfl : k = K := by omega
      by_cases cl : k < len0
      · have t1 : (k : Int) < (len0 : Int) := by omega
        have t2 : ¬ (k : Int) < 40 := by have := HKE.out cl; omega
        go_wp2_with fail
        refine (clear_any R0.out (Nat.le_of_lt hBr)).mono ?_
        rintro e w4 ⟨A4, c4, rfl, hown, hb4⟩
        rw [queue_length] at hown ⊢
        have HO := Lib.hid hown
        have hB4 := hB0.trans hb4
        have hBs := hB4.size
        have hbz : B ≤ w4.heap.size := by have := hb4.size; omega
        have HFX := Lib.hid (fun i (hi : i < len) => queue_at cs pos len F0.out i hi)
        have hlm : len ≤ m := by have := R0.out.full; have := R0.out.room; omega
        clear hown hb4
        go_wp2_with fail
        go_loopw [7, 69] (fun n i wr => ∃ j : Nat, j ≤ len ∧ i = .int .i64 j ∧ n = .int .i64 ((c + j : Nat) : Int) ∧ Below w4.heap.size w4 wr) (fun _ i _ => len - (intOf i).toNat)
        case atStart => exact ⟨0, by omega, rfl, rfl, Below.refl _ _⟩
        case round =>
          obtain ⟨j, hj, rfl, rfl, hb5⟩ := hrel
          have hB5 := hB4.trans (hb5.mono hbz)
          by_cases hjl : j < len
          · obtain ⟨G, rfl, _, hGl, hcG, _⟩ := Own.lt HO.out hjl
            obtain ⟨x, hxe, hxf⟩ := HFX.out j hjl
            rw [hxe] at hcG
            have hcG' := (hb5.cell (p := ⟨G, j, none⟩) hGl).trans hcG
            have hxs := hxf.2
            have HXF := Lib.hid hxf.1
            clear hcG hxe hxf
            go_wp2_with fail
            refine (fits_any g x _ (by unfold maxLen; omega) (HT.out.below hB5 hlt)).mono ?_
            rw [HXF.out]
            rintro e w6 ⟨rfl, hb6⟩
            have hb7 := hb5.trans (hb6.mono hb5.size)
            clear hb6 hcG'
            go_wp2_with fail
            go_roundw
            case rel => exact ⟨j + 1, by omega, by go_num, by go_num, hb7⟩
            case measure => simp [intOf]; omega
          · obtain rfl : j = len := by omega
            have hKK := HK.out
            have hfin : ((c + j : Nat) : Int) = (k : Int) := by omega
            clear hb5 hB4 hBs
            go_wp2
            go_ret
            exact ⟨Crc.ret_bool (by simp; omega), HW.out.trans (hB5.mono (by have := HBE.out; omega))⟩
      · have t1 : ¬ (k : Int) < (len0 : Int) := by omega
        go_wp2_with fail
        refine (clear_any R0.out (Nat.le_of_lt hBr)).mono ?_
        rintro e w4 ⟨A4, c4, rfl, hown, hb4⟩
        rw [queue_length] at hown ⊢
        have HO := Lib.hid hown
        have hB4 := hB0.trans hb4
        have hBs := hB4.size
        have hbz : B ≤ w4.heap.size := by have := hb4.size; omega
        have HFX := Lib.hid (fun i (hi : i < len) => queue_at cs pos len F0.out i hi)
        have hlm : len ≤ m := by have := R0.out.full; have := R0.out.room; omega
        clear hown hb4
        go_wp2_with fail
        go_loopw [7, 69] (fun n i wr => ∃ j : Nat, j ≤ len ∧ i = .int .i64 j ∧ n = .int .i64 ((c + j : Nat) : Int) ∧ Below w4.heap.size w4 wr) (fun _ i _ => len - (intOf i).toNat)
        case atStart => exact ⟨0, by omega, rfl, rfl, Below.refl _ _⟩
        case round =>
          obtain ⟨j, hj, rfl, rfl, hb5⟩ := hrel
          have hB5 := hB4.trans (hb5.mono hbz)
          by_cases hjl : j < len
          · obtain ⟨G, rfl, _, hGl, hcG, _⟩ := Own.lt HO.out hjl
            obtain ⟨x, hxe, hxf⟩ := HFX.out j hjl
            rw [hxe] at hcG
            have hcG' := (hb5.cell (p := ⟨G, j, none⟩) hGl).trans hcG
            have hxs := hxf.2
            have HXF := Lib.hid hxf.1
            clear hcG hxe hxf
            go_wp2_with fail
            refine (fits_any g x _ (by unfold maxLen; omega) (HT.out.below hB5 hlt)).mono ?_
            rw [HXF.out]
            rintro e w6 ⟨rfl, hb6⟩
            have hb7 := hb5.trans (hb6.mono hb5.size)
            clear hb6 hcG'
            go_wp2_with fail
            go_roundw
            case rel => exact ⟨j + 1, by omega, by go_num, by go_num, hb7⟩
            case measure => simp [intOf]; omega
          · obtain rfl : j = len := by omega
            have hKK := HK.out
            have hfin : ((c + j : Nat) : Int) = (k : Int) := by omega
            clear hb5 hB4 hBs
            go_wp2
            go_ret
            exact ⟨Crc.ret_bool (by simp; omega), HW.out.trans (hB5.mono (by have := HBE.out; omega))⟩
end Go.Proofs.Ytallhdlnhegjiaa.polliwogRow
