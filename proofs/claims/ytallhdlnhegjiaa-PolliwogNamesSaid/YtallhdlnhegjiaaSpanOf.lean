/- What Of computes: of spans whose ends lie within 2^40, the one row that rises, with something between any two, and has their numbers. -/
import Derived.Test.YtallhdlnhegjiaaSpanSort
import Derived.BigRegion
namespace Go.Proofs.Ytallhdlnhegjiaa.Spans
open Go.ChangeShapes Go.WideShapes Go.ChangeAt Go.RowKit Go.Lib
set_option linter.unusedVariables false

set_option maxHeartbeats 4000000 in
set_option maxRecDepth 20000 in
theorem of_any (A : Option Addr) (c : Nat) (l : List Sp) (w : World) (hA : IsSpans w A l) (hr : ∀ p ∈ l, Fair p) (hl : l.length ≤ 1099511627776) :
    Calls Try.prog 35 #[.slice A l.length c] w fun e w' => ∃ v L, e = .returned v ∧ w'.ownsRow w.heap.size 55 2 v L.length (flat L) ∧ Norm L ∧ (∀ x, In x L ↔ In x l) ∧ L.length ≤ l.length ∧ Below w.heap.size w w' := by
  have HA := Lib.hid hA
  have HR := Lib.hid hr
  clear hA hr
  obtain ⟨i0, hi, hz0, hz1, hz2⟩ := info55
  go_enter Try.func35, Try.ntmps35
  go_wp2_with fail
  go_loopw [3, 12] (fun v i wr => ∃ k : Nat, k ≤ l.length ∧ i = .int .i64 k ∧ wr.ownsRow w.heap.size 55 2 v (live (l.take k)).length (flat (live (l.take k))) ∧ Below w.heap.size w wr)
    (fun _ i _ => l.length - (intOf i).toNat)
  case atStart => exact ⟨0, by omega, rfl, World.ownsRow_nil _ _ _ _, Below.refl _ _⟩
  case round =>
    obtain ⟨k, hk, rfl, hown, hb⟩ := hrel
    by_cases hlt : k < l.length
    · obtain ⟨b, off, rfl, hbl, c0, c1⟩ := HA.out k hlt
      rw [← hb.cell (show b < w.heap.size from hbl)] at c0 c1
      have hf := HR.out l[k] (List.getElem_mem hlt)
      have HT := Lib.hid (live_take l k hlt)
      generalize l[k] = p at c0 c1 hf HT
      obtain ⟨p0, p1⟩ := p
      dsimp only at c0 c1
      go_wp2_with fail
      have hg : (wr.alloc (.cells #[.int .i64 p0, .int .i64 p1] 55)).heap[wr.heap.size]? = some (.cells #[.int .i64 p0, .int .i64 p1] 55 (0, 0)) := heap_alloc_new _ _
      have hown1 := hown.alloc (.cells #[.int .i64 p0, .int .i64 p1] 55)
      have hb1 := hb.alloc hb.size (.cells #[.int .i64 p0, .int .i64 p1] 55)
      have hge : w.heap.size ≤ wr.heap.size := hb.size
      have hlt1 : wr.heap.size < (wr.alloc (.cells #[.int .i64 p0, .int .i64 p1] 55)).heap.size := by simp
      have hne : u3.ownBlock ≠ some wr.heap.size := fun h => by have := (hown.lt _ h).2; omega
      generalize wr.alloc (.cells #[.int .i64 p0, .int .i64 p1] 55) = W1 at hg hown1 hb1 hlt1 ⊢
      clear c0 c1 hown hb
      generalize wr.heap.size = g at hg hge hlt1 hne ⊢
      refine (near_any _ _ hf _).mono ?_
      rintro e W2 ⟨rfl, hb2⟩
      have hg2 := (hb2.block g hlt1).trans hg
      have hs2 := hb2.size
      have hown2 := own_below hown1 hb2
      have hb3 := hb1.trans (hb2.mono hb1.size)
      clear hg hown1 hb1 hb2
      have e0 : W2.cell? ⟨g, 0, none⟩ = some (.int .i64 p0) := by rw [cell_of_row _ _ _ _ _ _ hg2]; rfl
      have e1 : W2.cell? ⟨g, 1, none⟩ = some (.int .i64 p1) := by rw [cell_of_row _ _ _ _ _ _ hg2]; rfl
      have z0 := frozen_of_row W2 g 0 _ _ hg2
      have z1 := frozen_of_row W2 g 1 _ _ hg2
      have s0 := setCell_self e0
      have s1 := setCell_self e1
      go_wp2_with fail
      clear z0 z1 s0 s1 e0 e1
      refine (empty_any p0 p1 _).mono ?_
      rintro e W3 ⟨rfl, hb4⟩
      have hg3 := (hb4.block g (by omega)).trans hg2
      have hown3 := own_below hown2 hb4
      have hb5 := hb3.trans (hb4.mono hb3.size)
      clear hown2 hb3 hg2 hb4
      have e0 : W3.cell? ⟨g, 0, none⟩ = some (.int .i64 p0) := by rw [cell_of_row _ _ _ _ _ _ hg3]; rfl
      have e1 : W3.cell? ⟨g, 1, none⟩ = some (.int .i64 p1) := by rw [cell_of_row _ _ _ _ _ _ hg3]; rfl
      clear hg3
      by_cases hp : p0 < p1
      · have hd : decide (p1 ≤ p0) = false := by simp; omega
        rw [hd]
        have HL := Lib.hid hb5
        clear hb5
        have hll : (live (l.take k)).length ≤ k := by unfold live; refine Nat.le_trans (List.length_filter_le _ _) ?_; rw [List.length_take]; omega
        go_wp2_with (at_builtin; refine wpList_append_own _ rfl _ _ 53 rfl w.heap.size 55 i0 (.agg #[.int .i64 0, .int .i64 0]) 2 16 Try.underlying53 hi hz0 hz1 hz2 rfl (by decide) _ _ _ rfl (hown3.alloc _) ⟨W3.heap.size, 0, none⟩ 1 1 [.int .i64 p0, .int .i64 p1] rfl rfl ?c1 ?c2 ?c3 ?c4 ?c5 ?_)
        case c1 => exact pair_cells2 _ _ _ _
        case c2 => intro u hu; simp at hu; rcases hu with rfl | rfl <;> rfl
        case c3 => unfold maxLen; omega
        case c4 => omega
        case c5 => have := HL.out.size; simp; omega
        intro v' w2 hown' hgrow _
        have R := pushed (p := (p0, p1)) HL.out.size hown3 HL.out hown' hgrow
        clear hown' hgrow hown3
        go_wp2
        go_roundw
        case rel => exact ⟨k + 1, by omega, by go_num, by rw [HT.out, if_pos hp]; exact R.1, R.2⟩
        case measure => simp [intOf]; omega
      · have hd : decide (p1 ≤ p0) = true := by simp; omega
        rw [hd]
        go_wp2
        go_roundw
        case rel => exact ⟨k + 1, by omega, by go_num, by rw [HT.out, if_neg (by omega), List.append_nil]; exact hown3, hb5⟩
        case measure => simp [intOf]; omega
    · obtain rfl : k = l.length := by omega
      rw [List.take_length] at hown
      have hll : (live l).length ≤ l.length := List.length_filter_le _ _
      go_wp2_with fail
      refine (sort_any _ _ _ _ hown (by omega)).mono ?_
      rintro e W ⟨rfl, l', hperm, hsort, hown', hb'⟩
      have hlen : l'.length ≤ l.length := by rw [hperm.length_eq]; exact hll
      have hbW := hb.trans hb'
      clear hown hb hb'
      obtain ⟨A', c', rfl, hA'⟩ := isSpans_of_own hown'
      have HA' := Lib.hid hA'
      have HP := Lib.hid hperm
      have HS := Lib.hid hsort
      have HBW := Lib.hid hbW
      clear hA' hown' hperm hsort hbW
      go_wp2_with fail
      go_loopw [6, 30] (fun v i wr => ∃ (k : Nat) (o : List Sp), k ≤ l'.length ∧ i = .int .i64 k ∧ Norm o ∧ (∀ x, In x o ↔ In x (l'.take k)) ∧ o.length ≤ k ∧ (∀ p ∈ o, ∃ q ∈ l'.take k, p.1 = q.1) ∧ wr.ownsRow W.heap.size 55 2 v o.length (flat o) ∧ Below W.heap.size W wr)
        (fun _ i _ => l'.length - (intOf i).toNat)
      case atStart => exact ⟨0, [], by omega, rfl, Norm.nil, fun x => by simp, Nat.le_refl _, fun p hp => (List.not_mem_nil hp).elim, World.ownsRow_nil _ _ _ _, Below.refl _ _⟩
      case round =>
        obtain ⟨k, o, hk, rfl, hn, hin, hol, hfrom, hown, hb⟩ := hrel
        by_cases hlt : k < l'.length
        · obtain ⟨b, off, rfl, hbl, c0, c1⟩ := HA'.out k hlt
          rw [← hb.cell (show b < W.heap.size from hbl)] at c0 c1
          have HT := Lib.hid (List.take_succ_eq_append_getElem hlt)
          have hpos : l'[k].1 < l'[k].2 := by
            have := HP.out.mem_iff.1 (List.getElem_mem hlt)
            unfold live at this
            rw [List.mem_filter] at this
            simpa using this.2
          have hle : ∀ q ∈ l'.take k, q.1 ≤ l'[k].1 := by
            intro q hq
            obtain ⟨j, hj, rfl⟩ := List.mem_iff_getElem.1 hq
            rw [List.getElem_take]
            rw [List.length_take] at hj
            exact List.pairwise_iff_getElem.1 HS.out j k (by omega) hlt (by omega)
          generalize l'[k] = p at c0 c1 HT hpos hle
          obtain ⟨p0, p1⟩ := p
          dsimp only at c0 c1 hpos hle
          have HIN := Lib.hid hin
          have HF := Lib.hid hfrom
          have HLE := Lib.hid hle
          clear hin hfrom hle
          rcases List.eq_nil_or_concat o with rfl | ⟨o', q, rfl⟩
          · obtain ⟨A2, c2, rfl, hA2⟩ := isSpans_of_own hown
            clear hA2
            go_wp2_with fail
            have hg : (wr.alloc (.cells #[.int .i64 p0, .int .i64 p1] 55)).heap[wr.heap.size]? = some (.cells #[.int .i64 p0, .int .i64 p1] 55 (0, 0)) := heap_alloc_new _ _
            have hown1 := hown.alloc (.cells #[.int .i64 p0, .int .i64 p1] 55)
            have hb1 := hb.alloc hb.size (.cells #[.int .i64 p0, .int .i64 p1] 55)
            have hne : ∀ j, Value.ownBlock (.slice A2 ([] : List Sp).length c2) = some j → j < wr.heap.size := fun j h => (hown.lt _ h).2
            have hge : W.heap.size ≤ wr.heap.size := hb.size
            generalize wr.alloc (.cells #[.int .i64 p0, .int .i64 p1] 55) = W1 at hg hown1 hb1 ⊢
            clear c0 c1 hown hb
            generalize wr.heap.size = g at hg hne hge ⊢
            have e0 : W1.cell? ⟨g, 0, none⟩ = some (.int .i64 p0) := by rw [cell_of_row _ _ _ _ _ _ hg]; rfl
            have e1 : W1.cell? ⟨g, 1, none⟩ = some (.int .i64 p1) := by rw [cell_of_row _ _ _ _ _ _ hg]; rfl
            clear hg
            have HB1 := Lib.hid hb1
            clear hb1
            go_quiet (fail)
            have hown2 : (W1.drewN nq).ownsRow W.heap.size 55 2 (.slice A2 ([] : List Sp).length c2) ([] : List Sp).length (flat ([] : List Sp)) := hown1
            have HB2 : Hid (Below W.heap.size W (W1.drewN nq)) := HB1.out.trans ⟨rfl, rfl, rfl, Nat.le_refl _, fun _ _ => rfl⟩
            have e2 : (W1.drewN nq).cell? ⟨g, 0, none⟩ = some (.int .i64 p0) := e0
            have e3 : (W1.drewN nq).cell? ⟨g, 1, none⟩ = some (.int .i64 p1) := e1
            clear HB1 e0 e1 hown1
            generalize W1.drewN nq = W2 at hown2 HB2 e2 e3 ⊢
            go_wp2_with (at_builtin; refine wpList_append_own _ rfl _ _ 56 rfl W.heap.size 55 i0 (.agg #[.int .i64 0, .int .i64 0]) 2 16 Try.underlying56 hi hz0 hz1 hz2 rfl (by decide) _ _ _ rfl (hown2.alloc _) ⟨W2.heap.size, 0, none⟩ 1 1 [.int .i64 p0, .int .i64 p1] rfl rfl ?c1 ?c2 ?c3 ?c4 ?c5 ?_)
            try (case c1 => exact pair_cells2 _ _ _ _)
            case c2 => intro u hu; simp at hu; rcases hu with rfl | rfl <;> rfl
            case c3 => unfold maxLen; simp
            case c4 => simp
            case c5 => have := HB2.out.size; simp; omega
            intro v' w2 hown' hgrow _
            have R := pushed (p := (p0, p1)) HB2.out.size hown2 HB2.out hown' hgrow
            clear hown' hgrow hown2
            go_wp2
            go_roundw
            case rel => exact ⟨k + 1, [] ++ [(p0, p1)], by omega, by go_num, norm_snoc Norm.nil hpos (fun q hq => (List.not_mem_nil hq).elim), fun x => by rw [HT.out, in_append, in_append, HIN.out x], by simp, from_snoc HF.out HT.out, R.1, R.2⟩
            case measure => simp [intOf]; omega
          · obtain ⟨A2, c2, rfl, hA2⟩ := isSpans_of_own hown
            clear hA2
            obtain ⟨q0, q1⟩ := q
            rw [List.concat_eq_append] at hn HIN hol HF hown ⊢
            obtain ⟨g2, hA2, hg2, hg2lt, f0, f1, fz⟩ := last_own hown
            have hlo : (o' ++ [(q0, q1)]).length = o'.length + 1 := by simp
            have hlo2 : o'.length < k := by omega
            have hbig : (o'.length : Int) ≤ 1099511627776 := by omega
            subst hA2
            have HO := Lib.hid hown
            rw [hlo] at hown ⊢
            generalize hnn : o'.length = n at hlo hlo2 hbig f0 f1 fz hown ⊢
            go_wp2_with fail
            have hg : (wr.alloc (.cells #[.int .i64 p0, .int .i64 p1] 55)).heap[wr.heap.size]? = some (.cells #[.int .i64 p0, .int .i64 p1] 55 (0, 0)) := heap_alloc_new _ _
            have hown1 := HO.out.alloc (.cells #[.int .i64 p0, .int .i64 p1] 55)
            have hb1 := hb.alloc hb.size (.cells #[.int .i64 p0, .int .i64 p1] 55)
            have hge : W.heap.size ≤ wr.heap.size := hb.size
            have hgr : wr.heap.size < (wr.alloc (.cells #[.int .i64 p0, .int .i64 p1] 55)).heap.size := by simp
            have hba := (Below.refl wr.heap.size wr).alloc (Nat.le_refl _) (.cells #[.int .i64 p0, .int .i64 p1] 55)
            rw [← hba.cell hg2lt] at f0 f1
            rw [← hba.frozen hg2lt] at fz
            clear hba
            generalize wr.alloc (.cells #[.int .i64 p0, .int .i64 p1] 55) = W1 at hg hown1 hb1 hgr f0 f1 fz ⊢
            clear c0 c1 hown hb HO
            generalize wr.heap.size = g at hg hge hgr hg2lt ⊢
            have e0 : W1.cell? ⟨g, 0, none⟩ = some (.int .i64 p0) := by rw [cell_of_row _ _ _ _ _ _ hg]; rfl
            have e1 : W1.cell? ⟨g, 1, none⟩ = some (.int .i64 p1) := by rw [cell_of_row _ _ _ _ _ _ hg]; rfl
            clear hg
            have HB1 := Lib.hid hb1
            have HO1 := Lib.hid hown1
            clear hb1 hown1
            have hd : decide ((0 : Int) ≤ (n : Int)) = true := by simp
            obtain ⟨mx, hmx⟩ : ∃ mx : Int, (if q1 < p1 then p1 else q1) = mx := ⟨_, rfl⟩
            by_cases hc : p0 ≤ q1
            · have hcd : decide (p0 ≤ q1) = true := by simpa using hc
              go_quiet (fail)
              have e2 : (W1.drewN nq).cell? ⟨g, 0, none⟩ = some (.int .i64 p0) := e0
              have e3 : (W1.drewN nq).cell? ⟨g, 1, none⟩ = some (.int .i64 p1) := e1
              have f2 : (W1.drewN nq).cell? ⟨g2, n * 2, none⟩ = some (.int .i64 q0) := f0
              have f3 : (W1.drewN nq).cell? ⟨g2, n * 2 + 1, none⟩ = some (.int .i64 q1) := f1
              have fz2 : (W1.drewN nq).frozen? ⟨g2, n * 2 + 1, none⟩ = false := fz
              have HO2 := Lib.hid (show (W1.drewN nq).ownsRow W.heap.size 55 2 (.slice (some ⟨g2, 0, none⟩) (o' ++ [(q0, q1)]).length c2) (o' ++ [(q0, q1)]).length (flat (o' ++ [(q0, q1)])) from HO1.out)
              have HB2 := Lib.hid (show Below W.heap.size W (W1.drewN nq) from HB1.out.trans ⟨rfl, rfl, rfl, Nat.le_refl _, fun _ _ => rfl⟩)
              clear HB1 HO1 e0 e1 f0 f1 fz
              generalize W1.drewN nq = W2 at HO2 HB2 e2 e3 f2 f3 fz2 ⊢
              go_wp2_with fail
              go_region
              have hmx2 : max q1 p1 = if q1 < p1 then p1 else q1 := by split <;> omega
              have R := own_widen (max q1 p1) hnn.symm HO2.out
              have R1 := R.1
              have R2 := HB2.out.trans R.2
              rw [hmx2] at R1
              rw [← hmx2] at R1
              have hlo3 : ∀ m : Int, (o' ++ [(q0, m)]).length = n + 1 := fun m => by simp; exact hnn
              rw [hlo3] at R1
              have HR1 := Lib.hid R1
              have HR2 := Lib.hid R2
              clear R R1 R2 e2 e3 f2 f3 fz2
              generalize W2.setCell ⟨g2, n * 2 + 1, none⟩ (.int .i64 (max q1 p1)) = W3 at HR1 HR2 ⊢
              go_wp2
              go_roundw
              case rel =>
                refine ⟨k + 1, o' ++ [(q0, max q1 p1)], by omega, by go_num, ?_, ?_, by rw [hlo3]; omega, ?_, by rw [hlo3]; exact HR1.out, HR2.out.trans ⟨rfl, rfl, rfl, Nat.le_refl _, fun _ _ => rfl⟩⟩
                · rw [hmx2]; exact norm_widen (p := (p0, p1)) hn
                · intro x
                  have ap := in_append (x := x) (l := l'.take k) (m := [(p0, p1)])
                  rw [hmx2, HT.out, ap, ← HIN.out x]
                  obtain ⟨r, hr, hre⟩ := HF.out (q0, q1) (by simp)
                  exact in_widen (q := (q0, q1)) (p := (p0, p1)) (by have := HLE.out r hr; dsimp only at hre ⊢; omega) hc x
                · exact from_widen HF.out HT.out
              case measure => simp [intOf]; omega
            · have hcd : decide (p0 ≤ q1) = false := by simpa using hc
              go_quiet (fail)
              have e2 : (W1.drewN nq).cell? ⟨g, 0, none⟩ = some (.int .i64 p0) := e0
              have e3 : (W1.drewN nq).cell? ⟨g, 1, none⟩ = some (.int .i64 p1) := e1
              have hown2 : (W1.drewN nq).ownsRow W.heap.size 55 2 (.slice (some ⟨g2, 0, none⟩) (n + 1) c2) (o' ++ [(q0, q1)]).length (flat (o' ++ [(q0, q1)])) := by have := HO1.out; rw [hlo] at this ⊢; exact this
              have HB2 := Lib.hid (show Below W.heap.size W (W1.drewN nq) from HB1.out.trans ⟨rfl, rfl, rfl, Nat.le_refl _, fun _ _ => rfl⟩)
              clear HB1 HO1 e0 e1 f0 f1 fz
              generalize W1.drewN nq = W2 at hown2 HB2 e2 e3 ⊢
              go_wp2_with (at_builtin; refine wpList_append_own _ rfl _ _ 56 rfl W.heap.size 55 i0 (.agg #[.int .i64 0, .int .i64 0]) 2 16 Try.underlying56 hi hz0 hz1 hz2 rfl (by decide) _ _ _ rfl (hown2.alloc _) ⟨W2.heap.size, 0, none⟩ 1 1 [.int .i64 p0, .int .i64 p1] rfl rfl ?c1 ?c2 ?c3 ?c4 ?c5 ?_)
              try (case c1 => exact pair_cells2 _ _ _ _)
              case c2 => first | exact ⟨rfl, rfl⟩ | (intro u hu; simp at hu; rcases hu with rfl | rfl <;> rfl)
              case c3 => unfold maxLen; omega
              case c4 => omega
              case c5 => have := HB2.out.size; simp; omega
              intro v' w2 hown' hgrow _
              rw [show n + 1 + 1 = (o' ++ [(q0, q1)]).length + 1 from by rw [hlo]] at hown'
              have R := pushed (p := (p0, p1)) HB2.out.size hown2 HB2.out hown' hgrow
              clear hown' hgrow hown2
              go_wp2
              go_roundw
              case rel => exact ⟨k + 1, (o' ++ [(q0, q1)]) ++ [(p0, p1)], by omega, by go_num, norm_push hn hpos (by dsimp only; omega), fun x => by rw [HT.out, in_append (l := o' ++ [(q0, q1)]), in_append (l := l'.take k), HIN.out x], by simp; omega, from_snoc HF.out HT.out, R.1, R.2⟩
              case measure => simp [intOf]; omega
        · obtain rfl : k = l'.length := by omega
          rw [List.take_length] at hin
          have HN := Lib.hid hin
          go_wp2
          go_ret
          refine ⟨_, o, rfl, own_mono hown HBW.out.size, hn, fun x => ?_, by omega, HBW.out.trans (hb.mono HBW.out.size)⟩
          rw [HN.out x, in_perm HP.out x, in_live]
end Go.Proofs.Ytallhdlnhegjiaa.Spans
