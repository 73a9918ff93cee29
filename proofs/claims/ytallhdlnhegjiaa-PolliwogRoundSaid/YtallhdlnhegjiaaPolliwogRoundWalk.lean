/- The walk of PolliwogRound: whatever the base and the spans, it returns true and writes nothing that was there. -/
import Derived.Test.YtallhdlnhegjiaaSeq
import Derived.Test.YtallhdlnhegjiaaSpanAdd
import Derived.Test.YtallhdlnhegjiaaSpanList
import Derived.Test.YtallhdlnhegjiaaSpanSame
namespace Go.Proofs.Ytallhdlnhegjiaa.polliwogRound
open Go.ChangeShapes Go.WideShapes Go.ChangeAt Go.RowKit Go.Lib Spans
set_option linter.unusedVariables false

def Small (l : List Sp) : Prop := ∀ p ∈ l, 0 ≤ p.1 ∧ p.1 ≤ p.2 ∧ p.2 ≤ 200
theorem Small.fair {l : List Sp} (h : Small l) : ∀ p ∈ l, Spans.Fair p := fun p hp => by
  obtain ⟨h1, h2, h3⟩ := h p hp
  exact ⟨by omega, by omega, by omega, by omega⟩
theorem Small.in_ {l : List Sp} (h : Small l) {x : Int} (hx : In x l) : 0 ≤ x ∧ x < 200 := by
  obtain ⟨p, hp, h1, h2⟩ := hx
  obtain ⟨h3, h4, h5⟩ := h p hp
  omega
theorem small_of_in {l : List Sp} (hn : Norm l) (h : ∀ x, In x l → 0 ≤ x ∧ x < 200) : Small l := by
  intro p hp
  have h0 := hn.1 p hp
  have h1 := h p.1 ⟨p, hp, Int.le_refl _, h0⟩
  have h2 := h (p.2 - 1) ⟨p, hp, by omega, by omega⟩
  omega
theorem ints_of_own {w : World} {B : Nat} {v : Value} {l : List Int} (h : w.ownsRow B 3 1 v l.length (Spans.encI l)) : ∃ A c, v = .slice A l.length c ∧ ∀ i (hi : i < l.length), ∃ g, A = some ⟨g, 0, none⟩ ∧ g < w.heap.size ∧ w.cell? ⟨g, i, none⟩ = some (.int .i64 l[i]) := by
  obtain ⟨A, c, rfl⟩ := Own.shape h
  refine ⟨A, c, rfl, fun i hi => ?_⟩
  obtain ⟨g, h1, _, h3, h4, _⟩ := Own.lt h hi
  exact ⟨g, h1, h3, by rw [h4]; unfold Spans.encI; simp [hi]⟩

set_option maxHeartbeats 4000000 in
set_option maxRecDepth 20000 in
theorem walk (a0 : Int) (A : Option Addr) (cap : Nat) (l : List Sp) (w : World) (w0 : (Lit.int .u32 a0).wf = true) (hA : IsSpans w A l) (hl : l.length ≤ maxLen) :
    Calls Try.prog 8 #[.int .u32 a0, .slice A l.length cap] w fun e w' => e = .returned (.bool true) ∧ Below w.heap.size w w' := by
  unfold maxLen at hl
  have HA := Lib.hid hA
  clear hA
  obtain ⟨i0, hi, hz0, hz1, hz2⟩ := info55
  go_enter Try.func8, Try.ntmps8
  go_wp2_with fail
  go_loopw [5, 6] (fun v i wr => ∃ (k : Nat) (L : List Sp), k ≤ 8 ∧ k ≤ l.length ∧ L.length = k ∧ i = .int .i64 k ∧ Small L ∧ wr.ownsRow w.heap.size 55 2 v L.length (flat L) ∧ Below w.heap.size w wr)
    (fun _ i _ => 8 - (intOf i).toNat)
  case atStart => exact ⟨0, [], by omega, by omega, rfl, rfl, fun p hp => (List.not_mem_nil hp).elim, World.ownsRow_nil _ _ _ _, Below.refl _ _⟩
  case round =>
    obtain ⟨k, L, hk, hkl, hL, rfl, hsm, hown, hb⟩ := hrel
    by_cases c1 : k < l.length
    · by_cases c2 : k < 8
      · obtain ⟨b, off, rfl, hbl, c0, c1'⟩ := HA.out k c1
        rw [← hb.cell (show b < w.heap.size from hbl)] at c0 c1'
        generalize l[k] = p at c0 c1'
        obtain ⟨p0, p1⟩ := p
        dsimp only at c0 c1'
        have HL := Lib.hid hL
        have hbs := hb.size
        have HB := Lib.hid hb
        clear hL hb
        go_wp2_with (at_builtin; refine wpList_append_own _ rfl _ _ 53 rfl w.heap.size 55 i0 (.agg #[.int .i64 0, .int .i64 0]) 2 16 Try.underlying53 hi hz0 hz1 hz2 rfl (by decide) _ _ _ rfl (hown.alloc _) ⟨wr.heap.size, 0, none⟩ 1 1 [.int .i64 (max 0 (min p0 200)), .int .i64 (max 0 (max (min p0 200) (min p1 200)))] rfl rfl ?c1 ?c2 ?c3 ?c4 ?c5 ?_)
        case c1 => exact pair_cells2 _ _ _ _
        case c2 => first | exact ⟨rfl, rfl⟩ | (intro u hu; simp at hu; rcases hu with rfl | rfl <;> rfl)
        case c3 => have := HL.out; unfold maxLen; omega
        case c4 => have := HL.out; omega
        case c5 => first | omega | (simp; omega)
        intro v' w2 hown' hgrow _
        have R := pushed (p := (max 0 (min p0 200), max 0 (max (min p0 200) (min p1 200)))) hbs hown HB.out hown' hgrow
        clear hown' hgrow hown
        go_wp2
        go_roundw
        case rel =>
          refine ⟨k + 1, _, by omega, by omega, by rw [List.length_append, HL.out]; rfl, by go_num, ?_, R.1, R.2⟩
          intro p hp
          rcases List.mem_append.1 hp with hp | hp
          · exact hsm p hp
          · rw [List.mem_singleton.1 hp]
            dsimp only
            omega
        case measure => simp [intOf]; omega
      · obtain ⟨A', c', rfl, hA'⟩ := isSpans_of_own hown
        have hL8 : L.length ≤ 8 := by omega
        clear hL hown
        go_wp2_with fail
        refine (Spans.of_any A' c' L wr hA' hsm.fair (by omega)).mono ?_
        rintro e w1 ⟨vs, S, rfl, hS, hn, hin, hle, hb1⟩
        have hSi : ∀ x, In x S → 0 ≤ x ∧ x < 200 := fun x hx => hsm.in_ ((hin x).1 hx)
        have hSm := small_of_in hn hSi
        have hfew := norm_few S 0 200 hn (by omega) hSi
        have hbw1 := hb.trans (hb1.mono hb.size)
        have hS1 := own_mono hS hb.size
        clear hA' hsm hin hb hS hb1 hL8 hle
        go_wp2_with fail
        refine (Seq.low_any a0 _).mono ?_
        rintro e w' ⟨rfl, rfl⟩
        have hm0 : 0 ≤ a0 % 16777216 := by omega
        have hm1 : a0 % 16777216 < 16777216 := by omega
        generalize a0 % 16777216 = b0 at hm0 hm1 ⊢
        go_wp2_with fail
        have hbk : (w1.alloc (.cells #[] 55)).ownsRow w.heap.size 55 2 (.slice (some ⟨w1.heap.size, 0, none⟩) 0 0) ([] : List Sp).length (flat []) := World.ownsRow_made w1 #[] 0 hbw1.size (Nat.zero_le _) (by simp)
        have hS2 := hS1.alloc (.cells #[] 55)
        have hbw2 := hbw1.alloc hbw1.size (.cells #[] 55)
        clear hS1 hbw1
        generalize w1.alloc (.cells #[] 55) = W2 at hbk hS2 hbw2 ⊢
        generalize w1.heap.size = g0 at hbk ⊢
        have hnl : (nums S).length ≤ 60000 := by omega
        refine (Spans.list_any vs S w.heap.size W2 hS2 (by omega) hSm.fair hnl).mono ?_
        rintro e W ⟨v4, rfl, hnum, hb3⟩
        have hbk2 := own_below hbk hb3
        have hSW := own_below hS2 hb3
        have hbW := hbw2.trans (hb3.mono hbw2.size)
        clear hbk hS2 hbw2
        obtain ⟨A4, c4, rfl, hcell⟩ := ints_of_own hnum
        have hnum0 : (nums S).length ≤ 200 := by omega
        have HC := Lib.hid hcell
        have HSW := Lib.hid hSW
        have HBW := Lib.hid hbW
        have HBK := Lib.hid hbk2
        have HSi := Lib.hid hSi
        have HNS := Lib.hid hn
        have HSl : Hid (S.length ≤ 200) := by have := hfew.2; show S.length ≤ 200; omega
        have HMN : Hid (∀ x, x ∈ nums S ↔ In x S) := fun x => mem_nums
        clear hnum hcell hSW hbW hbk2 hb3 hSm hfew hSi hn hnl
        generalize nums S = N at HC hnum0 HMN ⊢
        have hnz : (N.length : Int) ≤ 200 := by omega
        go_wp2_with fail
        go_loopw [10, 53] (fun v i wr => ∃ (k : Nat) (Lb : List Sp), k ≤ N.length ∧ i = .int .i64 k ∧ Norm Lb ∧ (∀ x, In x Lb ↔ x ∈ N.take k) ∧ wr.ownsRow w.heap.size 55 2 v Lb.length (flat Lb) ∧ Below W.heap.size W wr)
          (fun _ i _ => N.length - (intOf i).toNat)
        case atStart => exact ⟨0, [], by omega, rfl, Norm.nil, fun x => by simp [in_nil], HBK.out, Below.refl _ _⟩
        case round =>
          obtain ⟨k, Lb, hk, rfl, hnb, hib, hown, hb⟩ := hrel
          by_cases hlt : k < N.length
          · obtain ⟨g4, rfl, hg4, hcx⟩ := HC.out k hlt
            rw [← hb.cell (show g4 < W.heap.size from hg4)] at hcx
            have hx := HSi.out N[k] ((HMN.out _).1 (List.getElem_mem hlt))
            have HT := Lib.hid (List.take_succ_eq_append_getElem hlt)
            generalize N[k] = x at hcx hx HT
            obtain ⟨hx0, hx1⟩ := hx
            have hnu : ∀ y, In y Lb → 0 ≤ y ∧ y < 200 := fun y hy => HSi.out y ((HMN.out y).1 (List.mem_of_mem_take ((hib y).1 hy)))
            have hLb := (norm_few Lb 0 200 hnb (by omega) hnu).2
            have hfair : ∀ p ∈ Lb ++ [(x, x + 1)], Spans.Fair p := by
              intro p hp
              rcases List.mem_append.1 hp with hp | hp
              · exact (small_of_in hnb hnu).fair p hp
              · rw [List.mem_singleton.1 hp]; exact ⟨by dsimp only; omega, by dsimp only; omega, by dsimp only; omega, by dsimp only; omega⟩
            have hwi : decide (((b0 + x) % 16777216 - b0) % 16777216 ≤ ((b0 + 200) % 16777216 - b0) % 16777216) = true := by
              rw [decide_eq_true_eq]
              omega
            have hto : ((b0 + x) % 16777216 - b0) % 16777216 = x := by omega
            have HF := Lib.hid hfair
            have HNU := Lib.hid hnu
            have HIB := Lib.hid hib
            have HWI := Lib.hid hwi
            have HTO := Lib.hid hto
            have HNB := Lib.hid hnb
            clear hfair hnu hib hwi hto hnb
            have hbs := hb.size
            go_wp2_with (first
              | (go_at_call 21; refine (Seq.add_any _ _ _).mono ?_; rintro e w' ⟨rfl, rfl⟩)
              | (go_at_call 34; refine (Seq.within_any _ _ _ _).mono ?_; rw [HWI.out]; rintro e w' ⟨rfl, rfl⟩)
              | (go_at_call 22; refine (Seq.to_any _ _ _).mono ?_; rw [HTO.out]; rintro e w' ⟨rfl, rfl⟩))
            refine (Spans.add_any _ Lb (x, x + 1) w.heap.size _ hown (by omega) HF.out).mono ?_
            rintro e w5 ⟨v5, L5, rfl, hown5, hn5, hin5, hle5, hb5⟩
            have hb6 := hb.trans (hb5.mono hbs)
            have hown6 := own_mono hown5 (Nat.le_trans HBW.out.size hbs)
            have HIN5 := Lib.hid hin5
            clear hown5 hb5 hin5 hle5 hown hb
            go_wp2
            go_roundw
            case rel =>
              refine ⟨k + 1, L5, by omega, by go_num, hn5, fun y => ?_, hown6, hb6⟩
              rw [HIN5.out y, in_append, HIB.out y, in_one, HT.out, List.mem_append, List.mem_singleton]
              dsimp only
              constructor
              · rintro (h | h)
                · exact .inl h
                · exact .inr (by omega)
              · rintro (h | h)
                · exact .inl h
                · exact .inr (by omega)
            case measure => simp [intOf]; omega
          · obtain rfl : k = N.length := by omega
            have hE : Lb = S := by
              refine norm_unique Lb S hnb HNS.out fun x => ?_
              rw [hib x, List.take_length]
              exact HMN.out x
            subst hE
            have hSw := own_below HSW.out hb
            clear hib
            go_wp2_with fail
            refine (same_any _ _ Lb w.heap.size w.heap.size _ hown hSw (by have := HSl.out; omega)).mono ?_
            rintro e w6 ⟨rfl, hb6⟩
            go_wp2_with (go_at_call 21; refine (Seq.add_any _ _ _).mono ?_; rw [show ((16777215 : Int) + 1) % 16777216 = 0 from by decide]; rintro e w' ⟨rfl, rfl⟩)
            go_ret
            exact ⟨rfl, HBW.out.trans ((hb.trans (hb6.mono hb.size)).mono HBW.out.size)⟩
    · obtain ⟨A', c', rfl, hA'⟩ := isSpans_of_own hown
      have hL8 : L.length ≤ 8 := by omega
      clear hL hown
      go_wp2_with fail
      refine (Spans.of_any A' c' L wr hA' hsm.fair (by omega)).mono ?_
      rintro e w1 ⟨vs, S, rfl, hS, hn, hin, hle, hb1⟩
      have hSi : ∀ x, In x S → 0 ≤ x ∧ x < 200 := fun x hx => hsm.in_ ((hin x).1 hx)
      have hSm := small_of_in hn hSi
      have hfew := norm_few S 0 200 hn (by omega) hSi
      have hbw1 := hb.trans (hb1.mono hb.size)
      have hS1 := own_mono hS hb.size
      clear hA' hsm hin hb hS hb1 hL8 hle
      go_wp2_with fail
      refine (Seq.low_any a0 _).mono ?_
      rintro e w' ⟨rfl, rfl⟩
      have hm0 : 0 ≤ a0 % 16777216 := by omega
      have hm1 : a0 % 16777216 < 16777216 := by omega
      generalize a0 % 16777216 = b0 at hm0 hm1 ⊢
      go_wp2_with fail
      have hbk : (w1.alloc (.cells #[] 55)).ownsRow w.heap.size 55 2 (.slice (some ⟨w1.heap.size, 0, none⟩) 0 0) ([] : List Sp).length (flat []) := World.ownsRow_made w1 #[] 0 hbw1.size (Nat.zero_le _) (by simp)
      have hS2 := hS1.alloc (.cells #[] 55)
      have hbw2 := hbw1.alloc hbw1.size (.cells #[] 55)
      clear hS1 hbw1
      generalize w1.alloc (.cells #[] 55) = W2 at hbk hS2 hbw2 ⊢
      generalize w1.heap.size = g0 at hbk ⊢
      have hnl : (nums S).length ≤ 60000 := by omega
      refine (Spans.list_any vs S w.heap.size W2 hS2 (by omega) hSm.fair hnl).mono ?_
      rintro e W ⟨v4, rfl, hnum, hb3⟩
      have hbk2 := own_below hbk hb3
      have hSW := own_below hS2 hb3
      have hbW := hbw2.trans (hb3.mono hbw2.size)
      clear hbk hS2 hbw2
      obtain ⟨A4, c4, rfl, hcell⟩ := ints_of_own hnum
      have hnum0 : (nums S).length ≤ 200 := by omega
      have HC := Lib.hid hcell
      have HSW := Lib.hid hSW
      have HBW := Lib.hid hbW
      have HBK := Lib.hid hbk2
      have HSi := Lib.hid hSi
      have HNS := Lib.hid hn
      have HSl : Hid (S.length ≤ 200) := by have := hfew.2; show S.length ≤ 200; omega
      have HMN : Hid (∀ x, x ∈ nums S ↔ In x S) := fun x => mem_nums
      clear hnum hcell hSW hbW hbk2 hb3 hSm hfew hSi hn hnl
      generalize nums S = N at HC hnum0 HMN ⊢
      have hnz : (N.length : Int) ≤ 200 := by omega
      go_wp2_with fail
      go_loopw [10, 53] (fun v i wr => ∃ (k : Nat) (Lb : List Sp), k ≤ N.length ∧ i = .int .i64 k ∧ Norm Lb ∧ (∀ x, In x Lb ↔ x ∈ N.take k) ∧ wr.ownsRow w.heap.size 55 2 v Lb.length (flat Lb) ∧ Below W.heap.size W wr)
        (fun _ i _ => N.length - (intOf i).toNat)
      case atStart => exact ⟨0, [], by omega, rfl, Norm.nil, fun x => by simp [in_nil], HBK.out, Below.refl _ _⟩
      case round =>
        obtain ⟨k, Lb, hk, rfl, hnb, hib, hown, hb⟩ := hrel
        by_cases hlt : k < N.length
        · obtain ⟨g4, rfl, hg4, hcx⟩ := HC.out k hlt
          rw [← hb.cell (show g4 < W.heap.size from hg4)] at hcx
          have hx := HSi.out N[k] ((HMN.out _).1 (List.getElem_mem hlt))
          have HT := Lib.hid (List.take_succ_eq_append_getElem hlt)
          generalize N[k] = x at hcx hx HT
          obtain ⟨hx0, hx1⟩ := hx
          have hnu : ∀ y, In y Lb → 0 ≤ y ∧ y < 200 := fun y hy => HSi.out y ((HMN.out y).1 (List.mem_of_mem_take ((hib y).1 hy)))
          have hLb := (norm_few Lb 0 200 hnb (by omega) hnu).2
          have hfair : ∀ p ∈ Lb ++ [(x, x + 1)], Spans.Fair p := by
            intro p hp
            rcases List.mem_append.1 hp with hp | hp
            · exact (small_of_in hnb hnu).fair p hp
            · rw [List.mem_singleton.1 hp]; exact ⟨by dsimp only; omega, by dsimp only; omega, by dsimp only; omega, by dsimp only; omega⟩
          have hwi : decide (((b0 + x) % 16777216 - b0) % 16777216 ≤ ((b0 + 200) % 16777216 - b0) % 16777216) = true := by
            rw [decide_eq_true_eq]
            omega
          have hto : ((b0 + x) % 16777216 - b0) % 16777216 = x := by omega
          have HF := Lib.hid hfair
          have HNU := Lib.hid hnu
          have HIB := Lib.hid hib
          have HWI := Lib.hid hwi
          have HTO := Lib.hid hto
          have HNB := Lib.hid hnb
          clear hfair hnu hib hwi hto hnb
          have hbs := hb.size
          go_wp2_with (first
            | (go_at_call 21; refine (Seq.add_any _ _ _).mono ?_; rintro e w' ⟨rfl, rfl⟩)
            | (go_at_call 34; refine (Seq.within_any _ _ _ _).mono ?_; rw [HWI.out]; rintro e w' ⟨rfl, rfl⟩)
            | (go_at_call 22; refine (Seq.to_any _ _ _).mono ?_; rw [HTO.out]; rintro e w' ⟨rfl, rfl⟩))
          refine (Spans.add_any _ Lb (x, x + 1) w.heap.size _ hown (by omega) HF.out).mono ?_
          rintro e w5 ⟨v5, L5, rfl, hown5, hn5, hin5, hle5, hb5⟩
          have hb6 := hb.trans (hb5.mono hbs)
          have hown6 := own_mono hown5 (Nat.le_trans HBW.out.size hbs)
          have HIN5 := Lib.hid hin5
          clear hown5 hb5 hin5 hle5 hown hb
          go_wp2
          go_roundw
          case rel =>
            refine ⟨k + 1, L5, by omega, by go_num, hn5, fun y => ?_, hown6, hb6⟩
            rw [HIN5.out y, in_append, HIB.out y, in_one, HT.out, List.mem_append, List.mem_singleton]
            dsimp only
            constructor
            · rintro (h | h)
              · exact .inl h
              · exact .inr (by omega)
            · rintro (h | h)
              · exact .inl h
              · exact .inr (by omega)
          case measure => simp [intOf]; omega
        · obtain rfl : k = N.length := by omega
          have hE : Lb = S := by
            refine norm_unique Lb S hnb HNS.out fun x => ?_
            rw [hib x, List.take_length]
            exact HMN.out x
          subst hE
          have hSw := own_below HSW.out hb
          clear hib
          go_wp2_with fail
          refine (same_any _ _ Lb w.heap.size w.heap.size _ hown hSw (by have := HSl.out; omega)).mono ?_
          rintro e w6 ⟨rfl, hb6⟩
          go_wp2_with (go_at_call 21; refine (Seq.add_any _ _ _).mono ?_; rw [show ((16777215 : Int) + 1) % 16777216 = 0 from by decide]; rintro e w' ⟨rfl, rfl⟩)
          go_ret
          exact ⟨rfl, HBW.out.trans ((hb.trans (hb6.mono hb.size)).mono HBW.out.size)⟩
end Go.Proofs.Ytallhdlnhegjiaa.polliwogRound
