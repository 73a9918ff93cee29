/- The contracts of package seq and of its reference: what each function of them gives, whatever the numbers. Conditions: an int argument fits its kind. -/
import Derived.Test.YtallhdlnhegjiaaRows
import Derived.WalkKit
import Derived.ProofKit
import Derived.OpenShut
import Derived.Lib.Hide
namespace Go.Proofs.Ytallhdlnhegjiaa.Seq
open Go.ChangeShapes Go.WideShapes Go.ChangeAt Go.RowKit
set_option linter.unusedVariables false

theorem ofInt_mod (w k : Nat) (x : Int) (h : k ≤ w) : (BitVec.ofInt w x).toNat % 2 ^ k = (x % (2 : Int) ^ k).toNat := by
  rw [BitVec.toNat_ofInt]
  have hd : ((2 : Int) ^ k) ∣ ((2 ^ w : Nat) : Int) := by
    have h1 := Int.natCast_dvd_natCast.2 (Nat.pow_dvd_pow 2 h)
    rw [Int.natCast_pow] at h1
    exact h1
  have hp : (0 : Int) < (2 : Int) ^ k := Int.pow_pos (by decide)
  have hq : (0 : Int) ≤ x % ((2 ^ w : Nat) : Int) := Int.emod_nonneg _ (by have := Nat.two_pow_pos w; omega)
  have h1 : ((x % ((2 ^ w : Nat) : Int)).toNat % 2 ^ k : Nat) = ((x % ((2 ^ w : Nat) : Int)) % ((2 : Int) ^ k)).toNat := by
    apply Int.ofNat_inj.1
    rw [Int.natCast_emod, Int.toNat_of_nonneg hq, Int.toNat_of_nonneg (Int.emod_nonneg _ (by omega)), Int.natCast_pow]
    rfl
  rw [h1, Int.emod_emod_of_dvd _ hd]

theorem and_mask (k : IntKind) (h : 24 < k.bits) (x : Int) : bits .and k x 16777215 = x % 16777216 := by
  have h0 : (BitVec.ofInt k.bits 16777215).toNat = 2 ^ 24 - 1 := by
    rw [BitVec.toNat_ofInt]
    have : (2 : Nat) ^ 25 ≤ 2 ^ k.bits := Nat.pow_le_pow_right (by decide) (by omega)
    rw [Int.emod_eq_of_lt (by decide) (by omega)]
    rfl
  show k.wrap ((BitVec.ofInt k.bits x &&& BitVec.ofInt k.bits 16777215).toNat : Int) = _
  rw [BitVec.toNat_and, h0, Nat.and_two_pow_sub_one_eq_mod, ofInt_mod _ _ _ (by omega)]
  have e : (2 : Int) ^ 24 = 16777216 := by decide
  rw [e, Int.toNat_of_nonneg (by omega)]
  cases k <;> first | (exact absurd h (by decide)) | (simp [IntKind.wrap, IntKind.bits, IntKind.signed]; omega)
theorem and_mask_u32 (x : Int) : bits .and .u32 x 16777215 = x % 16777216 := and_mask .u32 (by decide) x
theorem and_mask_i64 (x : Int) : bits .and .i64 x 16777215 = x % 16777216 := and_mask .i64 (by decide) x
attribute [local go_sem] and_mask_u32 and_mask_i64

theorem ret_int {k : IntKind} {a b : Int} (h : a = b) : Ending.returned (.int k a) = .returned (.int k b) := by rw [h]

theorem ret_bool {a b : Bool} (h : a = b) : Ending.returned (.bool a) = .returned (.bool b) := by rw [h]

theorem of_any (x : Int) (w : World) : Calls Try.prog 19 #[.int .i64 x] w fun e w' => e = .returned (.int .u32 (x % 16777216)) ∧ w = w' := by
  go_enter Try.func19, Try.ntmps19
  go_wp2
  go_ret
  exact ⟨rfl, rfl⟩

theorem low_any (a : Int) (w : World) : Calls Try.prog 20 #[.int .u32 a] w fun e w' => e = .returned (.int .u32 (a % 16777216)) ∧ w = w' := by
  go_enter Try.func20, Try.ntmps20
  go_wp2
  go_ret
  exact ⟨rfl, rfl⟩

theorem add_any (a n : Int) (w : World) : Calls Try.prog 21 #[.int .u32 a, .int .i64 n] w fun e w' => e = .returned (.int .u32 ((a + n) % 16777216)) ∧ w = w' := by
  go_enter Try.func21, Try.ntmps21
  go_wp2_with fail
  refine (low_any _ _).mono ?_
  rintro e w' ⟨rfl, rfl⟩
  have h1 : 0 ≤ a % 16777216 := by omega
  have h2 : a % 16777216 ≤ 16777215 := by omega
  have h3 : 0 ≤ n % 16777216 := by omega
  have h4 : n % 16777216 ≤ 16777215 := by omega
  go_wp2_with fail
  refine (of_any _ _).mono ?_
  rintro e w' ⟨rfl, rfl⟩
  go_wp2
  go_ret
  exact ⟨ret_int (by omega), rfl⟩

theorem to_any (a b : Int) (w : World) : Calls Try.prog 22 #[.int .u32 a, .int .u32 b] w fun e w' => e = .returned (.int .i64 ((b - a) % 16777216)) ∧ w = w' := by
  have h1 : 0 ≤ (b - a) % 16777216 := by omega
  have h2 : (b - a) % 16777216 ≤ 16777215 := by omega
  have HW : IntKind.u32.wrap (b - a) % 16777216 = (b - a) % 16777216 := by rw [IntKind.wrap_u32]; omega
  go_enter Try.func22, Try.ntmps22
  go_wp2
  go_ret
  exact ⟨rfl, rfl⟩
theorem tmod_24 (x : Int) : x.tmod 16777216 = if 0 ≤ x then x % 16777216 else -((-x) % 16777216) := by
  split
  · exact Int.tmod_eq_emod_of_nonneg (by assumption)
  · have h := Int.neg_tmod (a := -x) (b := 16777216)
    rw [Int.neg_neg, Int.tmod_eq_emod_of_nonneg (a := -x) (by omega)] at h
    exact h
theorem refOf_any (x : Int) (w : World) : Calls Try.prog 18 #[.int .i64 x] w fun e w' => e = .returned (.int .i64 (x % 16777216)) ∧ w = w' := by
  have h := tmod_24 x
  have h1 : -16777215 ≤ x.tmod 16777216 := by split at h <;> omega
  have h2 : x.tmod 16777216 ≤ 16777215 := by split at h <;> omega
  have H := Lib.hid h
  clear h
  go_enter Try.func18, Try.ntmps18
  go_wp2
  · have hn : x.tmod 16777216 < 0 := by assumption
    go_ret
    refine ⟨ret_int ?_, rfl⟩
    have h := H.out
    split at h <;> omega
  · have hn : 0 ≤ x.tmod 16777216 := by assumption
    go_ret
    refine ⟨ret_int ?_, rfl⟩
    have h := H.out
    split at h <;> omega
theorem refTo_any (a b : Int) (w : World) : Calls Try.prog 23 #[.int .i64 a, .int .i64 b] w fun e w' => e = .returned (.int .i64 ((b - a) % 16777216)) ∧ w = w' := by
  have h1 : 0 ≤ a % 16777216 := by omega
  have h2 : a % 16777216 ≤ 16777215 := by omega
  have h3 : 0 ≤ b % 16777216 := by omega
  have h4 : b % 16777216 ≤ 16777215 := by omega
  go_enter Try.func23, Try.ntmps23
  go_wp2_with (go_at_call 18; refine (refOf_any _ _).mono ?_; rintro e w' ⟨rfl, rfl⟩)
  go_ret
  exact ⟨ret_int (by omega), rfl⟩
def aheadB (a b : Int) : Bool := decide (0 < (b - a) % 16777216 ∧ (b - a) % 16777216 < 8388608)
theorem ahead_any (a b : Int) (w : World) : Calls Try.prog 24 #[.int .u32 a, .int .u32 b] w fun e w' => e = .returned (.bool (aheadB a b)) ∧ w = w' := by
  have h1 : 0 ≤ (b - a) % 16777216 := by omega
  have h2 : (b - a) % 16777216 ≤ 16777215 := by omega
  by_cases c1 : 0 < (b - a) % 16777216
  · by_cases c2 : (b - a) % 16777216 < 8388608
    · have H := Lib.hid (show aheadB a b = true from decide_eq_true ⟨c1, c2⟩)
      go_enter Try.func24, Try.ntmps24
      go_wp2_with (go_at_call 22; refine (to_any _ _ _).mono ?_; rintro e w' ⟨rfl, rfl⟩)
      go_ret
      exact ⟨by rw [H.out]; rfl, rfl⟩
    · have H := Lib.hid (show aheadB a b = false from decide_eq_false (by omega))
      go_enter Try.func24, Try.ntmps24
      go_wp2_with (go_at_call 22; refine (to_any _ _ _).mono ?_; rintro e w' ⟨rfl, rfl⟩)
      go_ret
      exact ⟨by rw [H.out]; exact ret_bool (decide_eq_false (by omega)), rfl⟩
  · have H := Lib.hid (show aheadB a b = false from decide_eq_false (by omega))
    go_enter Try.func24, Try.ntmps24
    go_wp2_with (go_at_call 22; refine (to_any _ _ _).mono ?_; rintro e w' ⟨rfl, rfl⟩)
    go_ret
    exact ⟨by rw [H.out]; rfl, rfl⟩
theorem within_any (a x b : Int) (w : World) : Calls Try.prog 34 #[.int .u32 a, .int .u32 x, .int .u32 b] w fun e w' => e = .returned (.bool (decide ((x - a) % 16777216 ≤ (b - a) % 16777216))) ∧ w = w' := by
  go_enter Try.func34, Try.ntmps34
  go_wp2_with (go_at_call 22; refine (to_any _ _ _).mono ?_; rintro e w' ⟨rfl, rfl⟩)
  go_ret
  exact ⟨rfl, rfl⟩
theorem between_any (a x b : Int) (w : World) : Calls Try.prog 63 #[.int .u32 a, .int .u32 x, .int .u32 b] w fun e w' => e = .returned (.bool (decide ((x - a) % 16777216 < (b - a) % 16777216))) ∧ w = w' := by
  go_enter Try.func63, Try.ntmps63
  go_wp2_with (go_at_call 22; refine (to_any _ _ _).mono ?_; rintro e w' ⟨rfl, rfl⟩)
  go_ret
  exact ⟨rfl, rfl⟩
def maxN (z a b : Int) : Int := if (b - z) % 16777216 ≤ (a - z) % 16777216 then a % 16777216 else b % 16777216
theorem max_any (z a b : Int) (w : World) : Calls Try.prog 74 #[.int .u32 z, .int .u32 a, .int .u32 b] w fun e w' => e = .returned (.int .u32 (maxN z a b)) ∧ w = w' := by
  by_cases c : (b - z) % 16777216 ≤ (a - z) % 16777216
  · have H := Lib.hid (show maxN z a b = a % 16777216 from if_pos c)
    go_enter Try.func74, Try.ntmps74
    go_wp2_with (first | (go_at_call 22; refine (to_any _ _ _).mono ?_; rintro e w' ⟨rfl, rfl⟩) | (go_at_call 20; refine (low_any _ _).mono ?_; rintro e w' ⟨rfl, rfl⟩))
    go_ret
    exact ⟨by rw [H.out]; rfl, rfl⟩
  · have H := Lib.hid (show maxN z a b = b % 16777216 from if_neg c)
    go_enter Try.func74, Try.ntmps74
    go_wp2_with (first | (go_at_call 22; refine (to_any _ _ _).mono ?_; rintro e w' ⟨rfl, rfl⟩) | (go_at_call 20; refine (low_any _ _).mono ?_; rintro e w' ⟨rfl, rfl⟩))
    go_ret
    exact ⟨by rw [H.out]; rfl, rfl⟩
theorem awake_any (w : World) : Calls Try.prog 17 #[] w fun e w' => e = .returned (.bool true) ∧ w = w' := by
  go_enter Try.func17, Try.ntmps17
  go_wp2_with (first | (go_at_call 22; refine (to_any _ _ _).mono ?_; rintro e w' ⟨rfl, rfl⟩) | (go_at_call 19; refine (of_any _ _).mono ?_; rintro e w' ⟨rfl, rfl⟩) | (go_at_call 21; refine (add_any _ _ _).mono ?_; rintro e w' ⟨rfl, rfl⟩) | (go_at_call 34; refine (within_any _ _ _ _).mono ?_; rintro e w' ⟨rfl, rfl⟩))
  go_ret
  exact ⟨rfl, rfl⟩

end Go.Proofs.Ytallhdlnhegjiaa.Seq
