/- The walks of the reference's sums: On, Sum, Four; and of the program's four. Conditions: what is read is shorter than 2^63. -/
import Derived.Test.YtallhdlnhegjiaaRows
import Derived.WalkKit
import Derived.ProofKit
import Derived.OpenShut
import Derived.Lib.Hide
import Derived.Laws.BytesArg
import Derived.Test.YtallhdlnhegjiaaCrcMake
namespace Go.Proofs.Ytallhdlnhegjiaa.Crc
open Go.ChangeShapes Go.WideShapes Go.ChangeAt Go.RowKit CrcP
set_option linter.unusedVariables false

theorem ret_int {k : IntKind} {a b : Int} (h : a = b) : Ending.returned (.int k a) = .returned (.int k b) := by rw [h]
theorem ret_string {a b : ByteArray} (h : a = b) : Ending.returned (.string a) = .returned (.string b) := by rw [h]
def bytes8 (l : List UInt8) : List (BitVec 8) := l.map UInt8.toBitVec

theorem mul_top (b : UInt8) : (b.toNat : Int) * (16777216 : Int) = Int.ofNat (atTop b.toBitVec).toNat := by
  have h := b.toNat_lt
  unfold atTop
  rw [BitVec.toNat_shiftLeft, BitVec.toNat_setWidth, Nat.shiftLeft_eq]
  have e : b.toBitVec.toNat = b.toNat := rfl
  rw [e]
  simp only [Int.ofNat_eq_natCast]
  omega

theorem msb_of {X : BitVec 32} (h : 2147483648 ≤ (X.toNat : Int)) : X.msb = true := by
  rw [BitVec.msb_eq_decide]; exact decide_eq_true (by omega)
theorem msb_not {X : BitVec 32} (h : (X.toNat : Int) < 2147483648) : X.msb = false := by
  rw [BitVec.msb_eq_decide]; exact decide_eq_false (by omega)
theorem dbl (X : BitVec 32) : (X.toNat : Int) * (2 : Int) % (4294967296 : Int) = Int.ofNat (X <<< 1).toNat := by
  rw [BitVec.toNat_shiftLeft, Nat.shiftLeft_eq]; simp only [Int.ofNat_eq_natCast]; omega
theorem poly_int : (79764919 : Int) = Int.ofNat poly.toNat := by decide
theorem stp_hi (X : BitVec 32) (h : 2147483648 ≤ (X.toNat : Int)) : bits .xor .u32 ((X.toNat : Int) * (2 : Int) % (4294967296 : Int)) (79764919 : Int) = ((stp X).toNat : Int) := by
  rw [dbl, poly_int, Int.ofNat_eq_natCast, Int.ofNat_eq_natCast, bits_xor_bv]
  unfold stp
  rw [msb_of h]
  rfl
theorem stp_lo (X : BitVec 32) (h : (X.toNat : Int) < 2147483648) : (X.toNat : Int) * (2 : Int) % (4294967296 : Int) = ((stp X).toNat : Int) := by
  rw [dbl, stp_small (msb_not h)]
  rfl

theorem on_any (X : BitVec 32) (b : UInt8) (w : World) : Calls Try.prog 44 #[.int .u32 (X.toNat : Int), .int .u8 (b.toNat : Int)] w fun e w' => e = .returned (.int .u32 ((onB X b.toBitVec).toNat : Int)) ∧ w = w' := by
  have hb := b.toNat_lt
  have hX := X.isLt
  go_enter Try.func44, Try.ntmps44
  go_wp2
  go_loop [0, 5] (fun x i => ∃ n : Nat, n ≤ 8 ∧ i = .int .i64 n ∧ x = .int .u32 ((stpN n (X ^^^ atTop b.toBitVec)).toNat : Int)) (fun _ i => 8 - (intOf i).toNat)
  case atStart =>
    refine ⟨0, by omega, rfl, ?_⟩
    rw [mul_top, Int.ofNat_eq_natCast, bits_xor_bv]
    rfl
  case round =>
    obtain ⟨n, hn, rfl, rfl⟩ := hrel
    by_cases h8 : n < 8
    · have HS := Lib.hid (stpN_add n 1 (X ^^^ atTop b.toBitVec))
      generalize stpN n (X ^^^ atTop b.toBitVec) = Y at HS ⊢
      have hY := Y.isLt
      obtain ⟨y, hy⟩ : ∃ y : Int, y = (Y.toNat : Int) := ⟨_, rfl⟩
      have hy0 : 0 ≤ y := by omega
      have hy1 : y ≤ 4294967295 := by omega
      rw [← hy]
      have HY := Lib.hid hy
      clear hy
      go_wp2
      · have ht : 2147483648 ≤ y := by assumption
        go_round
        case rel =>
          refine ⟨n + 1, by omega, by go_num, ?_⟩
          rw [HS.out]
          rw [HY.out] at ht ⊢
          rw [stp_hi _ ht]
          rfl
        case measure => simp [intOf]; omega
      · have ht : y < 2147483648 := by assumption
        go_round
        case rel =>
          refine ⟨n + 1, by omega, by go_num, ?_⟩
          rw [HS.out]
          rw [HY.out] at ht ⊢
          rw [stp_lo _ ht]
          rfl
        case measure => simp [intOf]; omega
    · obtain rfl : n = 8 := by omega
      go_wp2
      go_ret
      exact ⟨rfl, rfl⟩

theorem bytes8_take (s : ByteArray) (k : Nat) (h : k < s.size) : bytes8 (s.data.toList.take (k + 1)) = bytes8 (s.data.toList.take k) ++ [s[k].toBitVec] := by
  unfold bytes8
  rw [List.take_succ_eq_append_getElem (by simpa using h), List.map_append]
  rfl
theorem reg_snoc (x : BitVec 32) (l : List (BitVec 8)) (b : BitVec 8) : reg x (l ++ [b]) = onB (reg x l) b := by
  rw [reg_append]; rfl
theorem refSum_any (s : ByteArray) (hs : s.size ≤ maxLen) (w : World) : Calls Try.prog 42 #[.string s] w fun e w' => e = .returned (.int .u32 ((sum (bytes8 s.data.toList)).toNat : Int)) ∧ w = w' := by
  unfold maxLen at hs
  go_enter Try.func42, Try.ntmps42
  go_wp2
  go_loop [3, 4] (fun x i => ∃ k : Nat, k ≤ s.size ∧ i = .int .i64 k ∧ x = .int .u32 ((reg ones (bytes8 (s.data.toList.take k))).toNat : Int)) (fun _ i => s.size - (intOf i).toNat)
  case atStart => exact ⟨0, Nat.zero_le _, rfl, by simp [bytes8, reg, ones]⟩
  case round =>
    obtain ⟨k, hk, rfl, rfl⟩ := hrel
    by_cases hlt : k < s.size
    · have HS := Lib.hid ((congrArg (reg ones) (bytes8_take s k hlt)).trans (reg_snoc _ _ _))
      generalize reg ones (bytes8 (s.data.toList.take k)) = X at HS ⊢
      go_wp2_with (go_at_call 44; refine (on_any _ _ _).mono ?_; rintro e w' ⟨rfl, rfl⟩)
      go_round
      case rel => exact ⟨k + 1, by omega, by go_num, by rw [HS.out]⟩
      case measure => simp [intOf]; omega
    · obtain rfl : k = s.size := by omega
      have e : s.data.toList.take s.size = s.data.toList := List.take_of_length_le (by simp)
      rw [e]
      have HS := Lib.hid (show sum (bytes8 s.data.toList) = ~~~ (reg ones (bytes8 s.data.toList)) from rfl)
      generalize reg ones (bytes8 s.data.toList) = X at HS ⊢
      have hX := X.isLt
      go_wp2
      go_ret
      rw [HS.out]
      exact ⟨ret_int (by rw [BitVec.toNat_not]; omega), rfl⟩
theorem conv4 (w : World) (a b c d : Int) : Sem.run Try.prog (convert 76 9 (.slice (some ⟨w.heap.size, 0, none⟩) 4 4)) (w.alloc (.cells #[.int .u8 a, .int .u8 b, .int .u8 c, .int .u8 d] 5)) =
    .ok (.string (strOfNums [a, b, c, d])) (w.alloc (.cells #[.int .u8 a, .int .u8 b, .int .u8 c, .int .u8 d] 5)) := by
  refine run_convert_bytes_arg _ 76 5 Try.underlying76 Try.underlying5 w.heap.size 0 4 4 [a, b, c, d] rfl ?_ 9 Try.underlying9
  intro i hi
  rw [cell_of_row _ _ _ _ _ _ (heap_alloc_new w _)]
  match i, hi with
  | 0, _ => rfl
  | 1, _ => rfl
  | 2, _ => rfl
  | 3, _ => rfl
/-- a sum's bytes as a text -/
def fourS (X : BitVec 32) : ByteArray := ⟨((fourB X).map UInt8.ofBitVec).toArray⟩
theorem four_eq (X : BitVec 32) (a b c d : Int) (ha : a = (X.toNat : Int) / 16777216) (hb : b = (X.toNat : Int) / 65536 % 256) (hc : c = (X.toNat : Int) / 256 % 256) (hd : d = (X.toNat : Int) % 256) :
    strOfNums [a, b, c, d] = fourS X := by
  have hX := X.isLt
  unfold strOfNums fourS fourB
  simp only [List.map_cons, List.map_nil]
  have e : ∀ (n : Int) (k : Nat), n.toNat % 256 = X.toNat / 2 ^ (8 * k) % 256 → UInt8.ofNat n.toNat = UInt8.ofBitVec (byteAt X k) := by
    intro n k h
    apply UInt8.toNat_inj.1
    have h1 : (UInt8.ofBitVec (byteAt X k)).toNat = (byteAt X k).toNat := rfl
    rw [h1, byteAt_nat, UInt8.toNat_ofNat']
    exact h
  rw [e a 3 (by omega), e b 2 (by omega), e c 1 (by omega), e d 0 (by omega)]

set_option maxRecDepth 100000 in
theorem refFour_any (X : BitVec 32) (w : World) : Calls Try.prog 43 #[.int .u32 (X.toNat : Int)] w fun e w' => e = .returned (.string (fourS X)) ∧ Below w.heap.size w w' := by
  have hX := X.isLt
  obtain ⟨x, hx⟩ : ∃ x : Int, x = (X.toNat : Int) := ⟨_, rfl⟩
  have hx0 : 0 ≤ x := by omega
  have hx1 : x ≤ 4294967295 := by omega
  rw [← hx]
  have HX := Lib.hid hx
  clear hx hX
  have hconv := conv4 w
  go_enter Try.func43, Try.ntmps43
  go_wp2
  go_ret
  have h := HX.out
  refine ⟨ret_string (four_eq X _ _ _ _ ?_ ?_ ?_ ?_), (Below.refl _ _).alloc (Nat.le_refl _) _⟩ <;> rw [h]
set_option maxRecDepth 100000 in
theorem four_any (X : BitVec 32) (w : World) : Calls Try.prog 53 #[.int .u32 (X.toNat : Int)] w fun e w' => e = .returned (.string (fourS X)) ∧ Below w.heap.size w w' := by
  have hX := X.isLt
  obtain ⟨x, hx⟩ : ∃ x : Int, x = (X.toNat : Int) := ⟨_, rfl⟩
  have hx0 : 0 ≤ x := by omega
  have hx1 : x ≤ 4294967295 := by omega
  rw [← hx]
  have HX := Lib.hid hx
  clear hx hX
  have hconv := conv4 w
  go_enter Try.func53, Try.ntmps53
  go_wp2
  go_ret
  have h := HX.out
  refine ⟨ret_string (four_eq X _ _ _ _ ?_ ?_ ?_ ?_), (Below.refl _ _).alloc (Nat.le_refl _) _⟩ <;> rw [h]
end Go.Proofs.Ytallhdlnhegjiaa.Crc
