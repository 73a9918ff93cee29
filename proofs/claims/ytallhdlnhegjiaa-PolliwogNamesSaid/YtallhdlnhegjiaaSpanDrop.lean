/- What Drop of a set computes: the set without a span. Conditions: the spans' ends lie within 2^40; the span that is dropped has a number. -/
import Derived.Test.YtallhdlnhegjiaaSpanOf
import Derived.Deep.AppendLies
namespace Go.Proofs.Ytallhdlnhegjiaa.Spans
open Go.ChangeShapes Go.WideShapes Go.ChangeAt Go.RowKit Go.Lib
set_option linter.unusedVariables false

/-- what stays of a span -/
def pieces (x p : Sp) : List Sp := [(p.1, min p.2 x.1), (max p.1 x.2, p.2)]
theorem pieces_in {x p : Sp} (hx : x.1 < x.2) (y : Int) : In y (live (pieces x p)) ↔ (p.1 ≤ y ∧ y < p.2) ∧ ¬ (x.1 ≤ y ∧ y < x.2) := by
  rw [in_live]
  unfold pieces
  rw [in_cons, in_one]
  dsimp only
  omega
theorem drop_in {x : Sp} (hx : x.1 < x.2) (s : List Sp) (y : Int) : In y (s.flatMap fun p => live (pieces x p)) ↔ In y s ∧ ¬ (x.1 ≤ y ∧ y < x.2) := by
  induction s with
  | nil => simp [in_nil]
  | cons p s ih =>
    rw [List.flatMap_cons, in_append, ih, in_cons, pieces_in hx]
    constructor
    · rintro (⟨a, b⟩ | ⟨a, b⟩)
      · exact ⟨.inl a, b⟩
      · exact ⟨.inr a, b⟩
    · rintro ⟨a | a, b⟩
      · exact .inl ⟨a, b⟩
      · exact .inr ⟨a, b⟩
theorem live_length (x p : Sp) : (live (pieces x p)).length ≤ 2 := Nat.le_trans (List.length_filter_le _ _) (Nat.le_refl _)
theorem live_fair {x p : Sp} (hx : Fair x) (hp : Fair p) : ∀ q ∈ live (pieces x p), Fair q := by
  intro q hq
  have hq := (List.mem_filter.1 hq).1
  obtain ⟨h1, h2, h3, h4⟩ := hx
  obtain ⟨g1, g2, g3, g4⟩ := hp
  unfold pieces at hq
  simp only [List.mem_cons, List.not_mem_nil, or_false] at hq
  rcases hq with rfl | rfl
  · exact ⟨by dsimp only; omega, by dsimp only; omega, by dsimp only; omega, by dsimp only; omega⟩
  · exact ⟨by dsimp only; omega, by dsimp only; omega, by dsimp only; omega, by dsimp only; omega⟩
theorem flat_live_length (x : Sp) (s : List Sp) : (s.flatMap fun p => live (pieces x p)).length ≤ 2 * s.length := by
  induction s with
  | nil => simp
  | cons p s ih => rw [List.flatMap_cons, List.length_append, List.length_cons]; have := live_length x p; omega
theorem four_cells {w : World} {h : Nat} {a b c d : Int} (hh : w.heap[h]? = some (.cells #[.int .i64 a, .int .i64 b, .int .i64 c, .int .i64 d] 55 (0, 0))) :
    IsSpans w (some ⟨h, 0, none⟩) [(a, b), (c, d)] := by
  intro i hi
  refine ⟨h, 0, rfl, (Array.getElem?_eq_some_iff.1 hh).1, ?_, ?_⟩
  · rw [cell_of_row _ _ _ _ _ _ hh]
    match i, hi with
    | 0, _ => rfl
    | 1, _ => rfl
  · rw [cell_of_row _ _ _ _ _ _ hh]
    match i, hi with
    | 0, _ => rfl
    | 1, _ => rfl

set_option maxHeartbeats 4000000 in
set_option maxRecDepth 20000 in
theorem drop_any (v : Value) (s : List Sp) (x0 x1 : Int) (B : Nat) (w : World) (h : w.ownsRow B 55 2 v s.length (flat s)) (hl : s.length ≤ 1000000000) (hr : ∀ p ∈ s, Fair p) (hx : Fair (x0, x1)) (hpos : x0 < x1) :
    Calls Try.prog 76 #[v, .agg #[.int .i64 x0, .int .i64 x1]] w fun e w' => ∃ v' L, e = .returned v' ∧ w'.ownsRow w.heap.size 55 2 v' L.length (flat L) ∧ Norm L ∧ (∀ y, In y L ↔ In y s ∧ ¬ (x0 ≤ y ∧ y < x1)) ∧ Below w.heap.size w w' := by
  obtain ⟨i0, hi, hz0, hz1, hz2⟩ := info55
  obtain ⟨A, c, rfl, hA⟩ := isSpans_of_own h
  have HA := Lib.hid hA
  have HR := Lib.hid hr
  have hl' : (s.length : Int) ≤ 1000000000 := by omega
  clear hA hr h hl
  go_enter Try.func76, Try.ntmps76
  go_wp2_with fail
  have hg : (w.alloc (.cells #[.int .i64 x0, .int .i64 x1] 55)).heap[w.heap.size]? = some (.cells #[.int .i64 x0, .int .i64 x1] 55 (0, 0)) := heap_alloc_new _ _
  have hb1 := (Below.refl w.heap.size w).alloc (Nat.le_refl _) (.cells #[.int .i64 x0, .int .i64 x1] 55)
  have hlt : w.heap.size < (w.alloc (.cells #[.int .i64 x0, .int .i64 x1] 55)).heap.size := by simp
  generalize w.alloc (.cells #[.int .i64 x0, .int .i64 x1] 55) = W1 at hg hb1 hlt ⊢
  generalize hgw : w.heap.size = g at hg hlt ⊢
  have HGW := Lib.hid hgw
  clear hgw
  refine (near_any x0 x1 hx _).mono ?_
  rintro e W2 ⟨rfl, hb2⟩
  have hg2 := (hb2.block g hlt).trans hg
  have hlt2 : g < W2.heap.size := Nat.lt_of_lt_of_le hlt hb2.size
  have hb3 := hb1.trans (hb2.mono hb1.size)
  clear hg hlt hb1 hb2
  have e0 : W2.cell? ⟨g, 0, none⟩ = some (.int .i64 x0) := by rw [cell_of_row _ _ _ _ _ _ hg2]; rfl
  have e1 : W2.cell? ⟨g, 1, none⟩ = some (.int .i64 x1) := by rw [cell_of_row _ _ _ _ _ _ hg2]; rfl
  have z0 := frozen_of_row W2 g 0 _ _ hg2
  have z1 := frozen_of_row W2 g 1 _ _ hg2
  have s0 := setCell_self e0
  have s1 := setCell_self e1
  go_wp2_with fail
  clear z0 z1 s0 s1 e0 e1
  refine (empty_any x0 x1 _).mono ?_
  rintro e W ⟨rfl, hb4⟩
  have hd : decide (x1 ≤ x0) = false := by simp; omega
  rw [hd]
  have hgW := (hb4.block g hlt2).trans hg2
  have HBW := Lib.hid (hb3.trans (hb4.mono hb3.size))
  have HG := Lib.hid hgW
  have hltW : g < W.heap.size := Nat.lt_of_lt_of_le hlt2 hb4.size
  have hbW := HBW.out
  have HA2 : Hid (IsSpans W A s) := fun i hi => by
    obtain ⟨b, off, h1, h2, h3, h4⟩ := HA.out i hi
    exact ⟨b, off, h1, Nat.lt_of_lt_of_le h2 hbW.size, (hbW.cell (show b < w.heap.size from h2)).trans h3, (hbW.cell (show b < w.heap.size from h2)).trans h4⟩
  clear hgW hb3 hb4 hg2 hlt2 hd hbW
  go_wp2_with fail
  go_loopw [5, 18] (fun v i wr => ∃ k : Nat, k ≤ s.length ∧ i = .int .i64 k ∧ wr.ownsRow W.heap.size 55 2 v ((s.take k).flatMap fun p => live (pieces (x0, x1) p)).length (flat ((s.take k).flatMap fun p => live (pieces (x0, x1) p))) ∧ Below W.heap.size W wr)
    (fun _ i _ => s.length - (intOf i).toNat)
  case atStart => exact ⟨0, by omega, rfl, World.ownsRow_nil _ _ _ _, Below.refl _ _⟩
  case round =>
    obtain ⟨k, hk, rfl, hown, hb⟩ := hrel
    by_cases hlt : k < s.length
    · obtain ⟨b, off, rfl, hbl, c0, c1⟩ := HA2.out k hlt
      rw [← hb.cell (show b < W.heap.size from hbl)] at c0 c1
      have hgr := (hb.block g hltW).trans HG.out
      have e0 : wr.cell? ⟨g, 0, none⟩ = some (.int .i64 x0) := by rw [cell_of_row _ _ _ _ _ _ hgr]; rfl
      have e1 : wr.cell? ⟨g, 1, none⟩ = some (.int .i64 x1) := by rw [cell_of_row _ _ _ _ _ _ hgr]; rfl
      have HT : Hid ((s.take (k + 1)).flatMap (fun p => live (pieces (x0, x1) p)) = (s.take k).flatMap (fun p => live (pieces (x0, x1) p)) ++ live (pieces (x0, x1) s[k])) := by
        show _ = _
        rw [List.take_succ_eq_append_getElem hlt, List.flatMap_append]
        simp
      have HL : Hid (((s.take k).flatMap fun p => live (pieces (x0, x1) p)).length ≤ 2 * k) := by
        have := flat_live_length (x0, x1) (s.take k)
        rw [List.length_take] at this
        show _ ≤ _
        omega
      generalize s[k] = p at c0 c1 HT
      obtain ⟨p0, p1⟩ := p
      dsimp only at c0 c1
      generalize (s.take k).flatMap (fun p => live (pieces (x0, x1) p)) = pre at hown HT HL
      have hbs := hb.size
      have hba := (Below.refl wr.heap.size wr).alloc (Nat.le_refl _) (.cells #[.int .i64 p0, .int .i64 p1] 55)
      have e2 := (hba.cell (p := ⟨g, 0, none⟩) (show g < wr.heap.size by omega)).trans e0
      have e3 := (hba.cell (p := ⟨g, 1, none⟩) (show g < wr.heap.size by omega)).trans e1
      clear hba e0 e1 hgr
      go_wp2_with fail
      have HH : Hid (((wr.alloc (.cells #[.int .i64 p0, .int .i64 p1] 55)).alloc (.cells #[.int .i64 p0, .int .i64 (min p1 x0), .int .i64 (max p0 x1), .int .i64 p1] 55)).heap[wr.heap.size + 1]? = some (.cells #[.int .i64 p0, .int .i64 (min p1 x0), .int .i64 (max p0 x1), .int .i64 p1] 55 (0, 0))) := by
        show _ = _
        rw [show wr.heap.size + 1 = (wr.alloc (.cells #[.int .i64 p0, .int .i64 p1] 55)).heap.size from by simp]
        exact heap_alloc_new _ _
      have hown1 := (hown.alloc (.cells #[.int .i64 p0, .int .i64 p1] 55)).alloc (.cells #[.int .i64 p0, .int .i64 (min p1 x0), .int .i64 (max p0 x1), .int .i64 p1] 55)
      have hb1 := (hb.alloc hbs (.cells #[.int .i64 p0, .int .i64 p1] 55)).alloc (by simp; omega) (.cells #[.int .i64 p0, .int .i64 (min p1 x0), .int .i64 (max p0 x1), .int .i64 p1] 55)
      have hne : u5.ownBlock ≠ some (wr.heap.size + 1) := fun h => by have := (hown.lt _ h).2; omega
      have hhs : wr.heap.size + 1 < ((wr.alloc (.cells #[.int .i64 p0, .int .i64 p1] 55)).alloc (.cells #[.int .i64 p0, .int .i64 (min p1 x0), .int .i64 (max p0 x1), .int .i64 p1] 55)).heap.size := by simp
      generalize (wr.alloc (.cells #[.int .i64 p0, .int .i64 p1] 55)).alloc (.cells #[.int .i64 p0, .int .i64 (min p1 x0), .int .i64 (max p0 x1), .int .i64 p1] 55) = W3 at HH hown1 hb1 hhs ⊢
      generalize wr.heap.size + 1 = h3 at HH hne hhs ⊢
      clear c0 c1 hown hb e2 e3
      have HO1 := Lib.hid hown1
      have HB1 := Lib.hid hb1
      have HNE := Lib.hid hne
      clear hown1 hb1 hne
      go_loopw [5, 40] (fun v i wr => ∃ j : Nat, j ≤ 2 ∧ i = .int .i64 j ∧ wr.ownsRow W.heap.size 55 2 v (pre ++ live ((pieces (x0, x1) (p0, p1)).take j)).length (flat (pre ++ live ((pieces (x0, x1) (p0, p1)).take j))) ∧ Below W.heap.size W wr ∧ wr.heap[h3]? = some (.cells #[.int .i64 p0, .int .i64 (min p1 x0), .int .i64 (max p0 x1), .int .i64 p1] 55 (0, 0)) ∧ v.ownBlock ≠ some h3)
        (fun _ i _ => 2 - (intOf i).toNat)
      case atStart => exact ⟨0, by omega, rfl, by simpa [live] using HO1.out, HB1.out, HH.out, HNE.out⟩
      case round =>
        obtain ⟨j, hj, rfl, hown, hb, hh, hne⟩ := hrel
        by_cases hj2 : j < 2
        · have hps : j < (pieces (x0, x1) (p0, p1)).length := hj2
          obtain ⟨b4, off4, h4, hbl4, c0, c1⟩ := (show IsSpans wr (some ⟨h3, 0, none⟩) (pieces (x0, x1) (p0, p1)) from four_cells hh) j hps
          injection h4 with h4
          injection h4 with h4 h5
          subst h4 h5
          have HT2 := Lib.hid (live_take (pieces (x0, x1) (p0, p1)) j hps)
          generalize (pieces (x0, x1) (p0, p1))[j] = q at HT2 c0 c1
          rw [Nat.zero_add] at c0 c1
          obtain ⟨q0, q1⟩ := q
          dsimp only at c0 c1
          have hll : (live ((pieces (x0, x1) (p0, p1)).take j)).length ≤ 2 := by
            unfold live
            refine Nat.le_trans (List.length_filter_le _ _) ?_
            rw [List.length_take]
            omega
          have hcl : (pre ++ live ((pieces (x0, x1) (p0, p1)).take j)).length ≤ 2 * k + 2 := by rw [List.length_append]; have := HL.out; omega
          generalize hcur : pre ++ live ((pieces (x0, x1) (p0, p1)).take j) = cur at hown hcl
          have HC := Lib.hid hcur
          have HCL := Lib.hid hcl
          have hbs2 := hb.size
          have HB := Lib.hid hb
          have HHH := Lib.hid hh
          have HNE2 := Lib.hid hne
          clear hll hcl hcur hb hh hne
          go_wp2_with fail
          have hgq : (wr.alloc (.cells #[.int .i64 q0, .int .i64 q1] 55)).heap[wr.heap.size]? = some (.cells #[.int .i64 q0, .int .i64 q1] 55 (0, 0)) := heap_alloc_new _ _
          have hown1 := hown.alloc (.cells #[.int .i64 q0, .int .i64 q1] 55)
          have hb1 := HB.out.alloc hbs2 (.cells #[.int .i64 q0, .int .i64 q1] 55)
          have hh1 : Hid ((wr.alloc (.cells #[.int .i64 q0, .int .i64 q1] 55)).heap[h3]? = some (.cells #[.int .i64 p0, .int .i64 (min p1 x0), .int .i64 (max p0 x1), .int .i64 p1] 55 (0, 0))) := (Below.heap_alloc _ _ _ hbl4).trans HHH.out
          have hsz : wr.heap.size < (wr.alloc (.cells #[.int .i64 q0, .int .i64 q1] 55)).heap.size := by simp
          generalize wr.alloc (.cells #[.int .i64 q0, .int .i64 q1] 55) = V1 at hgq hown1 hb1 hh1 hsz ⊢
          generalize wr.heap.size = g5 at hgq hsz hbl4 hbs2 ⊢
          clear c0 c1 hown HB HHH
          refine (empty_any q0 q1 _).mono ?_
          rintro e V2 ⟨rfl, hb2⟩
          have hgq2 := (hb2.block g5 hsz).trans hgq
          have hown2 := own_below hown1 hb2
          have hh2 := Lib.hid ((hb2.block h3 (by omega)).trans hh1.out)
          have hh3 : h3 < V2.heap.size := by have := hb2.size; omega
          have HB2 := Lib.hid (hb1.trans (hb2.mono hb1.size))
          have hbs3 := HB2.out.size
          clear hgq hown1 hb1 hh1 hb2
          have e0 : V2.cell? ⟨g5, 0, none⟩ = some (.int .i64 q0) := by rw [cell_of_row _ _ _ _ _ _ hgq2]; rfl
          have e1 : V2.cell? ⟨g5, 1, none⟩ = some (.int .i64 q1) := by rw [cell_of_row _ _ _ _ _ _ hgq2]; rfl
          clear hgq2
          by_cases hq : q0 < q1
          · have hd : decide (q1 ≤ q0) = false := by simp; omega
            rw [hd]
            clear hd
            obtain ⟨A6, c6, rfl, _⟩ := isSpans_of_own hown2
            go_wp2_with (at_builtin; refine wpList_append_lies _ rfl _ _ 53 rfl W.heap.size 55 i0 (.agg #[.int .i64 0, .int .i64 0]) 2 16 Try.underlying53 hi hz0 hz1 hz2 rfl (by decide) _ _ _ rfl (hown2.alloc _) ⟨V2.heap.size, 0, none⟩ 1 1 [.int .i64 q0, .int .i64 q1] rfl rfl ?d1 ?d2 ?d3 ?d4 ?d5 ?d6 _ rfl ?_)
            case d1 => exact pair_cells2 _ _ _ _
            case d2 => first | exact ⟨rfl, rfl⟩ | (intro u hu; simp at hu; rcases hu with rfl | rfl <;> rfl)
            case d3 => decide
            case d4 => have := HCL.out; unfold maxLen; omega
            case d5 => have := HCL.out; omega
            case d6 => first | omega | (simp; omega)
            intro g7 c7 w2 hown' hgrow hat hlt7
            have hh4 := (hgrow.block h3 (by simp; omega) (fun e => HNE2.out e.symm)).trans ((Below.heap_alloc V2 _ _ hh3).trans hh2.out)
            have R := pushed (p := (q0, q1)) hbs3 hown2 HB2.out hown' hgrow
            have hne7 : (Value.slice (some ⟨g7, 0, none⟩) (cur.length + 1) c7).ownBlock ≠ some h3 := by
              rcases hat with hat | hat
              · intro e
                exact HNE2.out (hat.trans e)
              · intro e
                simp only [Value.ownBlock, Option.some.injEq] at e
                omega
            clear hown' hgrow hown2 hat
            go_wp2
            go_roundw
            case rel => exact ⟨j + 1, by omega, by go_num, by rw [HT2.out, if_pos hq, ← List.append_assoc, HC.out]; exact R.1, R.2, hh4, hne7⟩
            case measure => simp [intOf]; omega
          · have hd : decide (q1 ≤ q0) = true := by simp; omega
            rw [hd]
            clear hd
            go_wp2
            go_roundw
            case rel => exact ⟨j + 1, by omega, by go_num, by rw [HT2.out, if_neg (by omega), List.append_nil, HC.out]; exact hown2, HB2.out, hh2.out, HNE2.out⟩
            case measure => simp [intOf]; omega
        · obtain rfl : j = 2 := by omega
          go_wp2
          go_roundw
          case rel => exact ⟨k + 1, by omega, by go_num, by rw [HT.out]; exact hown, hb⟩
          case measure => simp [intOf]; omega
    · obtain rfl : k = s.length := by omega
      rw [List.take_length] at hown
      have HFA : Hid (∀ q ∈ (s.flatMap fun p => live (pieces (x0, x1) p)), Fair q) := fun q hq => by
        obtain ⟨p, hp, hq⟩ := List.mem_flatMap.1 hq
        exact live_fair hx (HR.out p hp) q hq
      have HIN : Hid (∀ y, In y (s.flatMap fun p => live (pieces (x0, x1) p)) ↔ In y s ∧ ¬ (x0 ≤ y ∧ y < x1)) := fun y => drop_in (x := (x0, x1)) hpos s y
      have hlen := flat_live_length (x0, x1) s
      generalize (s.flatMap fun p => live (pieces (x0, x1) p)) = out at hown HFA HIN hlen
      obtain ⟨A8, c8, rfl, hA8⟩ := isSpans_of_own hown
      have HA8 := Lib.hid hA8
      clear hown hA8
      go_wp2_with fail
      refine (of_any A8 c8 out wr HA8.out HFA.out (by omega)).mono ?_
      rintro e w9 ⟨v9, L, rfl, hown9, hn9, hin9, _, hb9⟩
      have HI9 := Lib.hid hin9
      clear hin9
      go_wp2
      go_ret
      have h1 : w.heap.size ≤ wr.heap.size := Nat.le_trans HBW.out.size hb.size
      exact ⟨v9, L, rfl, own_mono hown9 h1, hn9, fun y => (HI9.out y).trans (HIN.out y), HBW.out.trans ((hb.trans (hb9.mono hb.size)).mono HBW.out.size)⟩
end Go.Proofs.Ytallhdlnhegjiaa.Spans
