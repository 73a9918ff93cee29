/- What List of a set computes: its numbers, from the least on. Conditions: the spans' ends lie within 2^40; at most 60000 numbers. -/
import Derived.Test.YtallhdlnhegjiaaSpanKit
import Derived.Lib.Builder
namespace Go.Proofs.Ytallhdlnhegjiaa.Spans
open Go.ChangeShapes Go.WideShapes Go.ChangeAt Go.RowKit Go.Lib
set_option linter.unusedVariables false

def encI (l : List Int) : List Value := l.map (.int .i64)
theorem encI_snoc (l : List Int) (x : Int) : encI (l ++ [x]) = encI l ++ [.int .i64 x] := by unfold encI; rw [List.map_append]; rfl
theorem numsOf_length (p : Sp) : (numsOf p).length = (p.2 - p.1).toNat := by unfold numsOf; simp
theorem numsOf_take (p : Sp) (j : Nat) (h : j < (p.2 - p.1).toNat) : (numsOf p).take (j + 1) = (numsOf p).take j ++ [p.1 + (j : Int)] := by
  rw [List.take_succ_eq_append_getElem (by rw [numsOf_length]; exact h)]
  unfold numsOf
  simp
theorem info3m : (Try.prog.info? 3).map (fun i => (i.zero, i.size, i.bytes)) = some (some (.int .i64 0), 1, 8) := by kernel_rfl
theorem info3 : ∃ i, Try.prog.info? 3 = some i ∧ i.zero = some (.int .i64 0) ∧ i.size = 1 ∧ i.bytes = 8 := by
  have h := info3m
  cases e : Try.prog.info? 3 with
  | none => rw [e] at h; cases h
  | some i =>
    rw [e] at h
    simp at h
    exact ⟨i, rfl, h⟩
theorem one_num (w : World) (x : Int) (T : TypeId) (j : Nat) (u : Value) (hj : [Value.int .i64 x][j]? = some u) : (w.alloc (.cells #[.int .i64 x] T)).cell? ((⟨w.heap.size, 0, none⟩ : Addr).add j) = some u :=
  Own.one_cell _ T rfl j u hj
theorem put_num {w wr w2 : World} {B : Nat} {v v' : Value} {o : Obj} {l : List Int} {x : Int} (hB : B ≤ wr.heap.size) (hown : wr.ownsRow B 3 1 v l.length (encI l)) (hb : Below B w wr)
    (h1 : w2.ownsRow B 3 1 v' (l.length + 1) (encI l ++ [.int .i64 x])) (hg : (wr.alloc o).grownBy w2 v.ownBlock) :
    w2.ownsRow B 3 1 v' (l ++ [x]).length (encI (l ++ [x])) ∧ Below B w w2 :=
  ⟨by rw [encI_snoc, List.length_append]; exact h1, (hb.alloc hB o).grown hg (by simp; omega) (fun j hj => (hown.lt j hj).1)⟩

set_option maxHeartbeats 2000000 in
set_option maxRecDepth 200000 in
theorem list_any (v : Value) (s : List Sp) (B : Nat) (w : World) (h : w.ownsRow B 55 2 v s.length (flat s)) (hl : s.length ≤ 1000000000) (hr : ∀ p ∈ s, Fair p) (hn : (nums s).length ≤ 60000) :
    Calls Try.prog 36 #[v] w fun e w' => ∃ v', e = .returned v' ∧ w'.ownsRow w.heap.size 3 1 v' (nums s).length (encI (nums s)) ∧ Below w.heap.size w w' := by
  obtain ⟨i0, hi, hz0, hz1, hz2⟩ := info3
  obtain ⟨A, c, rfl, hA⟩ := isSpans_of_own h
  have HA := Lib.hid hA
  have HR := Lib.hid hr
  clear hA hr h
  go_enter Try.func36, Try.ntmps36
  go_wp2_with fail
  go_loopw [3, 9] (fun v i wr => ∃ k : Nat, k ≤ s.length ∧ i = .int .i64 k ∧ wr.ownsRow w.heap.size 3 1 v (nums (s.take k)).length (encI (nums (s.take k))) ∧ Below w.heap.size w wr)
    (fun _ i _ => s.length - (intOf i).toNat)
  case atStart => exact ⟨0, by omega, rfl, World.ownsRow_nil _ _ _ _, Below.refl _ _⟩
  case round =>
    obtain ⟨k, hk, rfl, hown, hb⟩ := hrel
    by_cases hlt : k < s.length
    · obtain ⟨b, off, rfl, hbl, c0, c1⟩ := HA.out k hlt
      rw [← hb.cell (show b < w.heap.size from hbl)] at c0 c1
      have hf := HR.out s[k] (List.getElem_mem hlt)
      have HT := Lib.hid (nums_take s k hlt)
      have hle : (nums (s.take (k + 1))).length ≤ 60000 := by
        have e : nums s = nums (s.take (k + 1)) ++ nums (s.drop (k + 1)) := by
          unfold nums
          rw [← List.flatMap_append, List.take_append_drop]
        rw [e, List.length_append] at hn
        omega
      rw [HT.out, List.length_append, numsOf_length] at hle
      generalize s[k] = p at c0 c1 hf HT hle
      obtain ⟨p0, p1⟩ := p
      obtain ⟨f1, f2, f3, f4⟩ := hf
      dsimp only at c0 c1 f1 f2 f3 f4 hle
      generalize nums (s.take k) = pre at hown HT hle
      go_wp2_with fail
      have hg : (wr.alloc (.cells #[.int .i64 p0, .int .i64 p1] 55)).heap[wr.heap.size]? = some (.cells #[.int .i64 p0, .int .i64 p1] 55 (0, 0)) := heap_alloc_new _ _
      have hown1 := hown.alloc (.cells #[.int .i64 p0, .int .i64 p1] 55)
      have hb1 := hb.alloc hb.size (.cells #[.int .i64 p0, .int .i64 p1] 55)
      have hge : w.heap.size ≤ wr.heap.size := hb.size
      generalize wr.alloc (.cells #[.int .i64 p0, .int .i64 p1] 55) = W1 at hg hown1 hb1 ⊢
      clear c0 c1 hown hb
      generalize wr.heap.size = g at hg hge ⊢
      have HG := Lib.hid hg
      have HO := Lib.hid hown1
      have HB := Lib.hid hb1
      clear hg hown1 hb1
      go_loopw [3, 6] (fun v i wr => ∃ j : Nat, j ≤ (p1 - p0).toNat ∧ i = .int .i64 (p0 + (j : Int)) ∧ wr.ownsRow w.heap.size 3 1 v (pre ++ (numsOf (p0, p1)).take j).length (encI (pre ++ (numsOf (p0, p1)).take j)) ∧ Below w.heap.size w wr ∧ wr.heap[g]? = some (.cells #[.int .i64 p0, .int .i64 p1] 55 (0, 0)))
        (fun _ i _ => (p1 - p0).toNat - (intOf i - p0).toNat)
      case atStart => exact ⟨0, by omega, by simp, by simpa using HO.out, HB.out, HG.out⟩
      case round =>
        obtain ⟨j, hj, rfl, hown, hb, hg⟩ := hrel
        have e1 : wr.cell? ⟨g, 1, none⟩ = some (.int .i64 p1) := by rw [cell_of_row _ _ _ _ _ _ hg]; rfl
        have HG2 := Lib.hid hg
        clear hg
        have hb2 := hb.size
        by_cases hj2 : j < (p1 - p0).toNat
        · have HN := Lib.hid (numsOf_take (p0, p1) j hj2)
          have hnl : (numsOf (p0, p1)).length = (p1 - p0).toNat := numsOf_length _
          have hcur : (pre ++ (numsOf (p0, p1)).take j).length = pre.length + j := by rw [List.length_append, List.length_take, hnl]; omega
          generalize hq : pre ++ (numsOf (p0, p1)).take j = cur at hown hcur
          have HQ := Lib.hid hq
          obtain ⟨A3, c3, rfl⟩ := Own.shape hown
          have hc6 : (cur.length : Int) < 65536 := by omega
          have hc7 : p0 + (j : Int) < p1 := by omega
          have HB1 := Lib.hid hb
          have HJ2 := Lib.hid hj2
          clear hnl hq hb hcur hle hj hj2 hn
          go_wp2_with (at_builtin; refine wpList_append_own _ rfl _ _ 30 rfl w.heap.size 3 i0 (.int .i64 0) 1 8 Try.underlying30 hi hz0 hz1 hz2 rfl (by decide) _ _ _ rfl (hown.alloc _) ⟨wr.heap.size, 0, none⟩ 1 1 [.int .i64 (p0 + (j : Int))] rfl rfl ?c1 ?c2 ?c3 ?c4 ?c5 ?_)
          case c2 => first | rfl | (intro u hu; simp at hu; rcases hu with rfl; rfl)
          case c3 => unfold maxLen; omega
          case c4 => omega
          case c5 => first | omega | (simp; omega)
          intro v' w2 hown' hgrow _
          have R := put_num (x := p0 + (j : Int)) hb2 hown HB1.out hown' hgrow
          have hgl := (Array.getElem?_eq_some_iff.1 HG2.out).1
          have hne := Go.Lib.ownBlock_ne hown HG2.out (by decide)
          have hg3 := (hgrow.block g (by simp; omega) (fun e => hne e.symm)).trans ((Below.heap_alloc wr _ g hgl).trans HG2.out)
          clear hown' hgrow hown
          go_wp2
          have hj2 := HJ2.out
          go_roundw
          case rel => exact ⟨j + 1, by omega, by congr 1; omega, by rw [HN.out, ← List.append_assoc, HQ.out]; exact R.1, R.2, hg3⟩
          case measure => simp [intOf]; omega
        · obtain rfl : j = (p1 - p0).toNat := by omega
          have hc7 : ¬ p0 + ((p1 - p0).toNat : Int) < p1 := by omega
          obtain ⟨A3, c3, rfl⟩ := Own.shape hown
          have HO3 := Lib.hid hown
          clear hown
          rw [List.take_of_length_le (by rw [numsOf_length]; exact Nat.le_refl _)] at HO3 ⊢
          go_wp2
          go_roundw
          case rel => exact ⟨k + 1, by omega, by go_num, by rw [HT.out, ← List.length_append]; exact HO3.out, hb⟩
          case measure => simp [intOf]; omega
    · obtain rfl : k = s.length := by omega
      rw [List.take_length] at hown
      go_wp2
      go_ret
      exact ⟨_, rfl, hown, hb⟩
end Go.Proofs.Ytallhdlnhegjiaa.Spans
