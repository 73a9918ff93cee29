/- The walks of seq.Run and of SeqRuns: what Run gives is its numbers one behind the other; the law returns true, whatever the input. -/
import Derived.Test.YtallhdlnhegjiaaRows
import Derived.WalkKit
import Derived.ProofKit
import Derived.OpenShut
import Derived.Lib.Hide
import Derived.Test.YtallhdlnhegjiaaSeq
import Derived.Test.YtallhdlnhegjiaaOwn
namespace Go.Proofs.Ytallhdlnhegjiaa.seqRuns
open Go.ChangeShapes Go.WideShapes Go.ChangeAt Go.RowKit
set_option linter.unusedVariables false

theorem info24 : (Try.prog.info? 24).map (fun i => (i.zero, i.size, i.bytes)) = some (some (.int .u32 0), 1, 4) := by kernel_rfl
/-- the first k numbers from a on -/
def nums (a : Int) (k : Nat) : List Value := (List.range k).map fun (i : Nat) => .int .u32 ((a + (i : Int)) % 16777216)
theorem nums_succ (a : Int) (k : Nat) : nums a (k + 1) = nums a k ++ [.int .u32 ((a + (k : Int)) % 16777216)] := by
  unfold nums
  rw [List.range_succ, List.map_append]
  rfl
theorem nums_at (a : Int) (m k : Nat) (h : k < m) : (nums a m)[k]? = some (.int .u32 ((a + (k : Int)) % 16777216)) := by
  unfold nums
  rw [List.getElem?_map, List.getElem?_range h]
  rfl

def Made (w : World) (e : TypeId) (m : Nat) (xs : List Value) (en : Ending) (w' : World) : Prop :=
  ∃ A c, en = .returned (.slice A m c) ∧ w'.ownsRow w.heap.size e 1 (.slice A m c) m xs ∧ Below w.heap.size w w'

theorem step {w wr w1 : World} {a : Int} {k : Nat} {v v' : Value} {o : Obj} (hown : wr.ownsRow w.heap.size 24 1 v k (nums a k)) (hb : Below w.heap.size w wr)
    (h1 : w1.ownsRow w.heap.size 24 1 v' (k + 1) (nums a k ++ [.int .u32 ((a + (k : Int)) % 16777216)])) (hg : (wr.alloc o).grownBy w1 v.ownBlock) :
    w1.ownsRow w.heap.size 24 1 v' (k + 1) (nums a (k + 1)) ∧ Below w.heap.size w w1 :=
  ⟨by rw [nums_succ]; exact h1, (hb.alloc hb.size o).grown hg (by have := hb.size; simp; omega) (fun j hj => (hown.lt j hj).1)⟩

set_option maxRecDepth 20000 in
theorem run_any (a : Int) (n : Nat) (hn : n ≤ 2000) (w : World) : Calls Try.prog 39 #[.int .u32 a, .int .i64 (n : Int)] w (Made w 24 n (nums a n)) := by
  obtain ⟨i0, hi, hz0, hz1, hz2⟩ := info_parts info24
  have hmx : (if 0 < n then (n : Int) else 0) = n := by split <;> omega
  go_enter Try.func39, Try.ntmps39
  go_wp2
  clear hmx
  go_loopw [5, 10] (fun v i wr => ∃ k : Nat, k ≤ n ∧ i = .int .i64 k ∧ wr.ownsRow w.heap.size 24 1 v k (nums a k) ∧ Below w.heap.size w wr)
    (fun _ i _ => n - (intOf i).toNat)
  case atStart => exact ⟨0, Nat.zero_le _, rfl, World.ownsRow_nil _ _ _ _, Below.refl _ _⟩
  case round =>
    obtain ⟨k, hk, rfl, hown, hb⟩ := hrel
    by_cases hlt : k < n
    · go_wp2_with (first
        | (go_at_call 21; refine (Seq.add_any _ _ _).mono ?_; rintro e w' ⟨rfl, rfl⟩)
        | (at_builtin; go_loud (refine wpList_append_own _ rfl _ _ 62 rfl w.heap.size 24 i0 (.int .u32 0) 1 4 Try.underlying62 hi hz0 hz1 hz2 rfl (by decide) _ _ _ rfl (hown.alloc _) ⟨wr.heap.size, 0, none⟩ 1 1 [.int .u32 ((a + (k : Int)) % 16777216)] rfl rfl ?c1 ?c2 ?c3 ?c4 ?c5 ?_)))
      case c1 => exact Own.one_cell _ _ rfl
      case c2 => intro u hu; simp at hu; subst hu; rfl
      case c3 => unfold maxLen; omega
      case c4 => omega
      case c5 => have := hb.size; simp; omega
      intro v' w1 hown' hgrow _
      have R := step hown hb hown' hgrow
      clear hown' hgrow hown hb
      go_wp2
      go_roundw
      case rel => exact ⟨k + 1, by omega, by go_num, R.1, R.2⟩
      case measure => simp [intOf]; omega
    · obtain rfl : k = n := by omega
      go_wp2
      go_ret
      obtain ⟨A, c, rfl⟩ := Own.shape hown
      exact ⟨A, c, rfl, hown, hb⟩

theorem run_neg (a N : Int) (hN : N < 0) (w : World) : Calls Try.prog 39 #[.int .u32 a, .int .i64 N] w (Made w 24 0 (nums a 0)) := by
  have hmx : (if 0 < N then N else 0) = 0 := by split <;> omega
  go_enter Try.func39, Try.ntmps39
  go_wp2
  refine wp_loop_rounds 1 ?_
  rw [rounds_succ]
  go_wp2
  go_ret
  exact ⟨none, 0, rfl, World.ownsRow_nil _ _ _ _, Below.refl _ _⟩
theorem run_int (a N : Int) (hN : N ≤ 2000) (w : World) : Calls Try.prog 39 #[.int .u32 a, .int .i64 N] w (Made w 24 N.toNat (nums a N.toNat)) := by
  by_cases h : N < 0
  · have e : N.toNat = 0 := by omega
    rw [e]
    exact run_neg a N h w
  · obtain ⟨n, rfl⟩ := Int.eq_ofNat_of_zero_le (show 0 ≤ N by omega)
    exact run_any a n (by omega) w

theorem walk (a0 a1 : Int) (w0 : (Lit.int .u32 a0).wf = true) (w1 : (Lit.int .i64 a1).wf = true) (w : World) :
    Calls Try.prog 9 #[.int .u32 a0, .int .i64 a1] w fun e w' => e = .returned (.bool true) ∧ Below w.heap.size w w' := by
  have b0 := bounds_u32 w0
  clear w0 w1
  have f1 : 0 ≤ a0 % 16777216 := by omega
  have f2 : a0 % 16777216 ≤ 16777215 := by omega
  have go : ∀ (N : Int) (m : Nat), N ≤ 2000 → m = N.toNat → ((2000 < a1 ∧ N = 2000) ∨ (a1 ≤ 2000 ∧ N = a1)) → Calls Try.prog 9 #[.int .u32 a0, .int .i64 a1] w fun e w' => e = .returned (.bool true) ∧ Below w.heap.size w w' := by
    intro N m hN hm hc
    have hm2 : m ≤ 2000 := by omega
    have hmx : (if N < 0 then 0 else N) = (m : Int) := by split <;> omega
    have HM := Lib.hid hm
    clear hm
    rcases hc with ⟨hc, rfl⟩ | ⟨hc, rfl⟩
    · have hms : ((m : Int) != 2000) = false := by rw [bne_eq_false_iff_eq]; omega
      go_enter Try.func9, Try.ntmps9
      go_wp2_with (first | (go_at_call 17; refine (Seq.awake_any _).mono ?_; rintro e w' ⟨rfl, rfl⟩) | (go_at_call 39; refine (run_int _ _ hN _).mono ?_; rw [← HM.out]; rintro e w' ⟨A, c, rfl, hown, hb⟩))
      clear hmx
      go_loop [22] (fun i => ∃ k : Nat, k ≤ m ∧ i = .int .i64 k) (fun i => m - (intOf i).toNat)
      case atStart => exact ⟨0, Nat.zero_le _, rfl⟩
      case round =>
        obtain ⟨k, hk, rfl⟩ := hrel
        by_cases hlt : k < m
        · obtain ⟨g, rfl, _, _, hcell, _⟩ := Own.lt hown hlt
          rw [nums_at _ _ _ hlt] at hcell
          have g1 : 0 ≤ (a0 + (k : Int)) % 16777216 := by omega
          have g2 : (a0 + (k : Int)) % 16777216 ≤ 16777215 := by omega
          have t1 : ((a0 + (k : Int)) % 16777216 != (a0 % 16777216 + (k : Int)) % 16777216) = false := by rw [bne_eq_false_iff_eq]; omega
          have t2 : (((a0 + (k : Int)) % 16777216 - a0) % 16777216 != (k : Int)) = false := by rw [bne_eq_false_iff_eq]; omega
          go_wp2_with (first | (go_at_call 18; refine (Seq.refOf_any _ _).mono ?_; rintro e w' ⟨rfl, rfl⟩) | (go_at_call 22; refine (Seq.to_any _ _ _).mono ?_; rintro e w' ⟨rfl, rfl⟩))
          go_round
          case rel => exact ⟨k + 1, by omega, by go_num⟩
          case measure => simp [intOf]; omega
        · go_wp2
          go_ret
          exact ⟨rfl, hb⟩
    · go_enter Try.func9, Try.ntmps9
      go_wp2_with (first | (go_at_call 17; refine (Seq.awake_any _).mono ?_; rintro e w' ⟨rfl, rfl⟩) | (go_at_call 39; refine (run_int _ _ hN _).mono ?_; rw [← HM.out]; rintro e w' ⟨A, c, rfl, hown, hb⟩))
      clear hmx
      go_loop [22] (fun i => ∃ k : Nat, k ≤ m ∧ i = .int .i64 k) (fun i => m - (intOf i).toNat)
      case atStart => exact ⟨0, Nat.zero_le _, rfl⟩
      case round =>
        obtain ⟨k, hk, rfl⟩ := hrel
        by_cases hlt : k < m
        · obtain ⟨g, rfl, _, _, hcell, _⟩ := Own.lt hown hlt
          rw [nums_at _ _ _ hlt] at hcell
          have g1 : 0 ≤ (a0 + (k : Int)) % 16777216 := by omega
          have g2 : (a0 + (k : Int)) % 16777216 ≤ 16777215 := by omega
          have t1 : ((a0 + (k : Int)) % 16777216 != (a0 % 16777216 + (k : Int)) % 16777216) = false := by rw [bne_eq_false_iff_eq]; omega
          have t2 : (((a0 + (k : Int)) % 16777216 - a0) % 16777216 != (k : Int)) = false := by rw [bne_eq_false_iff_eq]; omega
          go_wp2_with (first | (go_at_call 18; refine (Seq.refOf_any _ _).mono ?_; rintro e w' ⟨rfl, rfl⟩) | (go_at_call 22; refine (Seq.to_any _ _ _).mono ?_; rintro e w' ⟨rfl, rfl⟩))
          go_round
          case rel => exact ⟨k + 1, by omega, by go_num⟩
          case measure => simp [intOf]; omega
        · go_wp2
          go_ret
          exact ⟨rfl, hb⟩
  by_cases c : 2000 < a1
  · exact go 2000 2000 (by omega) (by omega) (.inl ⟨c, rfl⟩)
  · exact go a1 a1.toNat (by omega) rfl (.inr ⟨by omega, rfl⟩)

end Go.Proofs.Ytallhdlnhegjiaa.seqRuns
