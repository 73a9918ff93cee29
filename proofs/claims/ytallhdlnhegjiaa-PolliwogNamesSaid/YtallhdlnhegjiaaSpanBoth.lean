/- What Both of two sets computes: the numbers in both. Conditions: the spans' ends lie within 2^40; at most 10^6 spans in the first, ten in the second. -/
import Derived.Test.YtallhdlnhegjiaaSpanOf
import Derived.Deep.AppendLies
namespace Go.Proofs.Ytallhdlnhegjiaa.Spans
open Go.ChangeShapes Go.WideShapes Go.ChangeAt Go.RowKit Go.Lib
set_option linter.unusedVariables false

def meet (p q : Sp) : Sp := (max p.1 q.1, min p.2 q.2)
theorem meet_in (p : Sp) (t : List Sp) (y : Int) : In y (t.map (meet p)) ↔ (p.1 ≤ y ∧ y < p.2) ∧ In y t := by
  induction t with
  | nil => simp [in_nil]
  | cons q t ih =>
    rw [List.map_cons, in_cons, ih, in_cons]
    unfold meet
    dsimp only
    constructor
    · rintro (h | ⟨h1, h2⟩)
      · exact ⟨by omega, .inl (by omega)⟩
      · exact ⟨h1, .inr h2⟩
    · rintro ⟨h1, h2 | h2⟩
      · exact .inl (by omega)
      · exact .inr ⟨h1, h2⟩
theorem both_in (s t : List Sp) (y : Int) : In y (s.flatMap fun p => t.map (meet p)) ↔ In y s ∧ In y t := by
  induction s with
  | nil => simp [in_nil]
  | cons p s ih =>
    rw [List.flatMap_cons, in_append, ih, in_cons, meet_in]
    constructor
    · rintro (⟨a, b⟩ | ⟨a, b⟩)
      · exact ⟨.inl a, b⟩
      · exact ⟨.inr a, b⟩
    · rintro ⟨a | a, b⟩
      · exact .inl ⟨a, b⟩
      · exact .inr ⟨a, b⟩
theorem both_length (s t : List Sp) (ht : t.length ≤ 10) : (s.flatMap fun p => t.map (meet p)).length ≤ 10 * s.length := by
  induction s with
  | nil => simp
  | cons p s ih => rw [List.flatMap_cons, List.length_append, List.length_cons, List.length_map]; omega
theorem both_fair {s t : List Sp} (hs : ∀ p ∈ s, Fair p) (ht : ∀ p ∈ t, Fair p) : ∀ q ∈ (s.flatMap fun p => t.map (meet p)), Fair q := by
  intro q hq
  obtain ⟨p, hp, hq⟩ := List.mem_flatMap.1 hq
  obtain ⟨r, hr, rfl⟩ := List.mem_map.1 hq
  obtain ⟨h1, h2, h3, h4⟩ := hs p hp
  obtain ⟨g1, g2, g3, g4⟩ := ht r hr
  unfold meet
  exact ⟨by dsimp only; omega, by dsimp only; omega, by dsimp only; omega, by dsimp only; omega⟩

set_option maxHeartbeats 4000000 in
set_option maxRecDepth 20000 in
theorem both_any (A A2 : Option Addr) (c c2 : Nat) (s t : List Sp) (w : World) (hA : IsSpans w A s) (hA2 : IsSpans w A2 t) (hl : s.length ≤ 1000000) (hl2 : t.length ≤ 10) (hr : ∀ p ∈ s, Fair p) (hr2 : ∀ p ∈ t, Fair p) :
    Calls Try.prog 75 #[.slice A s.length c, .slice A2 t.length c2] w fun e w' => ∃ v' L, e = .returned v' ∧ w'.ownsRow w.heap.size 55 2 v' L.length (flat L) ∧ Norm L ∧ (∀ y, In y L ↔ In y s ∧ In y t) ∧ Below w.heap.size w w' := by
  obtain ⟨i0, hi, hz0, hz1, hz2⟩ := info55
  have HA := Lib.hid hA
  have HA2 := Lib.hid hA2
  have HF := Lib.hid (both_fair hr hr2)
  have HLN := Lib.hid (both_length s t hl2)
  have hl' : (s.length : Int) ≤ 1000000 := by omega
  have hl2' : (t.length : Int) ≤ 10 := by omega
  clear hA hA2 hr hr2 hl hl2
  go_enter Try.func75, Try.ntmps75
  go_wp2_with fail
  go_loopw [5, 12] (fun v i wr => ∃ k : Nat, k ≤ s.length ∧ i = .int .i64 k ∧ wr.ownsRow w.heap.size 55 2 v ((s.take k).flatMap fun p => t.map (meet p)).length (flat ((s.take k).flatMap fun p => t.map (meet p))) ∧ Below w.heap.size w wr)
    (fun _ i _ => s.length - (intOf i).toNat)
  case atStart => exact ⟨0, by omega, rfl, World.ownsRow_nil _ _ _ _, Below.refl _ _⟩
  case round =>
    obtain ⟨k, hk, rfl, hown, hb⟩ := hrel
    by_cases hlt : k < s.length
    · obtain ⟨b, off, rfl, hbl, c0, c1⟩ := HA.out k hlt
      rw [← hb.cell (show b < w.heap.size from hbl)] at c0 c1
      have HT : Hid ((s.take (k + 1)).flatMap (fun p => t.map (meet p)) = (s.take k).flatMap (fun p => t.map (meet p)) ++ t.map (meet s[k])) := by
        show _ = _
        rw [List.take_succ_eq_append_getElem hlt, List.flatMap_append]
        simp
      have HL : Hid (((s.take k).flatMap fun p => t.map (meet p)).length ≤ 10 * k) := by
        have := both_length (s.take k) t (by omega)
        rw [List.length_take] at this
        show _ ≤ _
        omega
      generalize s[k] = p at c0 c1 HT
      obtain ⟨p0, p1⟩ := p
      dsimp only at c0 c1
      generalize (s.take k).flatMap (fun p => t.map (meet p)) = pre at hown HT HL
      have hbs := hb.size
      go_wp2_with fail
      have HH : Hid ((wr.alloc (.cells #[.int .i64 p0, .int .i64 p1] 55)).heap[wr.heap.size]? = some (.cells #[.int .i64 p0, .int .i64 p1] 55 (0, 0))) := heap_alloc_new _ _
      have hown1 := hown.alloc (.cells #[.int .i64 p0, .int .i64 p1] 55)
      have hb1 := hb.alloc hbs (.cells #[.int .i64 p0, .int .i64 p1] 55)
      have hne : u5.ownBlock ≠ some wr.heap.size := fun h => by have := (hown.lt _ h).2; omega
      generalize wr.alloc (.cells #[.int .i64 p0, .int .i64 p1] 55) = W3 at HH hown1 hb1 ⊢
      generalize wr.heap.size = h3 at HH hne ⊢
      clear c0 c1 hown hb
      have HO1 := Lib.hid hown1
      have HB1 := Lib.hid hb1
      have HNE := Lib.hid hne
      clear hown1 hb1 hne
      go_loopw [5, 18] (fun v i wr => ∃ j : Nat, j ≤ t.length ∧ i = .int .i64 j ∧ wr.ownsRow w.heap.size 55 2 v (pre ++ (t.take j).map (meet (p0, p1))).length (flat (pre ++ (t.take j).map (meet (p0, p1)))) ∧ Below w.heap.size w wr ∧ wr.heap[h3]? = some (.cells #[.int .i64 p0, .int .i64 p1] 55 (0, 0)) ∧ v.ownBlock ≠ some h3)
        (fun _ i _ => t.length - (intOf i).toNat)
      case atStart => exact ⟨0, by omega, rfl, by simpa using HO1.out, HB1.out, HH.out, HNE.out⟩
      case round =>
        obtain ⟨j, hj, rfl, hown, hb, hh, hne⟩ := hrel
        by_cases hj2 : j < t.length
        · obtain ⟨b4, off4, rfl, hbl4, c0, c1⟩ := HA2.out j hj2
          rw [← hb.cell (show b4 < w.heap.size from hbl4)] at c0 c1
          have HT2 : Hid ((t.take (j + 1)).map (meet (p0, p1)) = (t.take j).map (meet (p0, p1)) ++ [meet (p0, p1) t[j]]) := by
            show _ = _
            rw [List.take_succ_eq_append_getElem hj2, List.map_append]
            rfl
          generalize t[j] = q at HT2 c0 c1
          obtain ⟨q0, q1⟩ := q
          dsimp only at c0 c1
          have hcl : (pre ++ (t.take j).map (meet (p0, p1))).length ≤ 10 * k + 10 := by rw [List.length_append, List.length_map, List.length_take]; have := HL.out; omega
          generalize hcur : pre ++ (t.take j).map (meet (p0, p1)) = cur at hown hcl
          have HC := Lib.hid hcur
          have HCL := Lib.hid hcl
          have hbs2 := hb.size
          have HB := Lib.hid hb
          have HNE2 := Lib.hid hne
          have hh3 := (Array.getElem?_eq_some_iff.1 hh).1
          have hba := (Below.refl wr.heap.size wr).alloc (Nat.le_refl _) (.cells #[.int .i64 q0, .int .i64 q1] 55)
          have hhb := (hba.block h3 hh3).trans hh
          have e0 : (wr.alloc (.cells #[.int .i64 q0, .int .i64 q1] 55)).cell? ⟨h3, 0, none⟩ = some (.int .i64 p0) := by rw [cell_of_row _ _ _ _ _ _ hhb]; rfl
          have e1 : (wr.alloc (.cells #[.int .i64 q0, .int .i64 q1] 55)).cell? ⟨h3, 1, none⟩ = some (.int .i64 p1) := by rw [cell_of_row _ _ _ _ _ _ hhb]; rfl
          have HHB := Lib.hid hhb
          clear hcl hcur hb hh hne hba hhb
          obtain ⟨A6, c6, rfl, _⟩ := isSpans_of_own hown
          have hsz : (wr.alloc (.cells #[.int .i64 q0, .int .i64 q1] 55)).heap.size = wr.heap.size + 1 := by simp
          have HSZ := Lib.hid hsz
          have HPC := Lib.hid (pair_cells2 (wr.alloc (.cells #[.int .i64 q0, .int .i64 q1] 55)) (max p0 q0) (min p1 q1) 55)
          rw [hsz] at HPC
          clear hsz
          go_wp2_with (at_builtin; refine wpList_append_lies _ rfl _ _ 53 rfl w.heap.size 55 i0 (.agg #[.int .i64 0, .int .i64 0]) 2 16 Try.underlying53 hi hz0 hz1 hz2 rfl (by decide) _ _ _ rfl ((hown.alloc _).alloc _) ⟨wr.heap.size + 1, 0, none⟩ 1 1 [.int .i64 (max p0 q0), .int .i64 (min p1 q1)] rfl rfl ?d1 ?d2 ?d3 ?d4 ?d5 ?d6 (wr.heap.size + 2) (by simp) ?_)
          case d1 => exact HPC.out
          case d2 => first | exact ⟨rfl, rfl⟩ | (intro u hu; simp at hu; rcases hu with rfl | rfl <;> rfl)
          case d3 => decide
          case d4 => have := HCL.out; unfold maxLen; omega
          case d5 => have := HCL.out; omega
          case d6 => first | omega | (simp; omega)
          intro g7 c7 w2 hown' hgrow hat hlt7
          have hh4 := (hgrow.block h3 (by simp; omega) (fun e => HNE2.out e.symm)).trans ((Below.heap_alloc (wr.alloc (.cells #[.int .i64 q0, .int .i64 q1] 55)) _ _ (by simp; omega)).trans HHB.out)
          have R := pushed (p := (max p0 q0, min p1 q1)) (by rw [HSZ.out]; omega) (hown.alloc _) (HB.out.alloc hbs2 _) hown' hgrow
          have hne7 : (Value.slice (some ⟨g7, 0, none⟩) (cur.length + 1) c7).ownBlock ≠ some h3 := by
            rcases hat with hat | hat
            · intro e
              exact HNE2.out (hat.trans e)
            · intro e
              simp only [Value.ownBlock, Option.some.injEq] at e
              omega
          clear hown' hgrow hown hat HPC
          go_wp2
          go_roundw
          case rel => exact ⟨j + 1, by omega, by go_num, by rw [HT2.out, ← List.append_assoc, HC.out]; exact R.1, R.2, hh4, hne7⟩
          case measure => simp [intOf]; omega
        · obtain rfl : j = t.length := by omega
          rw [List.take_length] at hown
          go_wp2
          go_roundw
          case rel => exact ⟨k + 1, by omega, by go_num, by rw [HT.out]; exact hown, hb⟩
          case measure => simp [intOf]; omega
    · obtain rfl : k = s.length := by omega
      rw [List.take_length] at hown
      have HIN : Hid (∀ y, In y (s.flatMap fun p => t.map (meet p)) ↔ In y s ∧ In y t) := both_in s t
      generalize (s.flatMap fun p => t.map (meet p)) = out at hown HF HIN HLN
      obtain ⟨A8, c8, rfl, hA8⟩ := isSpans_of_own hown
      have HA8 := Lib.hid hA8
      clear hown hA8
      go_wp2_with fail
      refine (of_any A8 c8 out wr HA8.out HF.out (by have := HLN.out; omega)).mono ?_
      rintro e w9 ⟨v9, L, rfl, hown9, hn9, hin9, _, hb9⟩
      have HI9 := Lib.hid hin9
      clear hin9
      go_wp2
      go_ret
      exact ⟨v9, L, rfl, own_mono hown9 hb.size, hn9, fun y => (HI9.out y).trans (HIN.out y), hb.trans (hb9.mono hb.size)⟩
end Go.Proofs.Ytallhdlnhegjiaa.Spans
