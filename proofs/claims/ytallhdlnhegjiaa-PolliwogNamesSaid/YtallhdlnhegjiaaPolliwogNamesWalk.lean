/- The walk of PolliwogNames: whatever the start and the numbers, it returns true and writes nothing that was there. -/
import Derived.Test.YtallhdlnhegjiaaNamesLaw
import Derived.Test.YtallhdlnhegjiaaInts
namespace Go.Proofs.Ytallhdlnhegjiaa.polliwogNames
open Go.ChangeShapes Go.WideShapes Go.ChangeAt Go.RowKit Go.Lib Go.Maps Spans Recv Gaps
set_option linter.unusedVariables false

theorem and_63 (x : Int) : bits .and .i64 x 63 = x % 64 := by
  have h0 : (BitVec.ofInt IntKind.i64.bits 63).toNat = 2 ^ 6 - 1 := by decide
  show IntKind.i64.wrap ((BitVec.ofInt IntKind.i64.bits x &&& BitVec.ofInt IntKind.i64.bits 63).toNat : Int) = _
  rw [BitVec.toNat_and, h0, Nat.and_two_pow_sub_one_eq_mod, Seq.ofInt_mod _ _ _ (by decide)]
  have e : (2 : Int) ^ 6 = 64 := by decide
  rw [e, Int.toNat_of_nonneg (by omega)]
  simp [IntKind.wrap, IntKind.bits, IntKind.signed]
  omega
theorem law3 : Keyed Try.prog 3 := int_keyed Try.underlying3
theorem State.below {w w' : World} {B b bm nn : Nat} {S : Int} {f high : Nat} {A G : Value} {ng : Nat} {D : DataW Unit} {c : Nat → Bool} (H : State w B b bm nn S f high A G ng D c) (hb : Below w.heap.size w w') : State w' B b bm nn S f high A G ng D c := ⟨H.box.below hb, H.held, H.low, H.gap, H.top, H.high_⟩
theorem State.other {w w' : World} {B b bm nn bc nc : Nat} {S : Int} {f high : Nat} {A G : Value} {ng : Nat} {D : DataW Unit} {c : Nat → Bool} {k : TypeId} {R : Value → Option (DataW Unit × List MemPlace)} {Dc : DataW Unit}
    (H : State w B b bm nn S f high A G ng D c) (hm : w.ownsMap Try.prog k R bc nc Dc) (hne : bc ≠ bm) (hg : w.grownBy w' (some bc)) : State w' B b bm nn S f high A G ng D c := by
  obtain ⟨es, cl, h1, _⟩ := hm
  obtain ⟨ss, _, ho⟩ := H.box.inb
  obtain ⟨gs, hgs⟩ := H.box.gap
  refine ⟨H.box.kept hg ?_ ?_ (.inr (own_ne_map ho h1)) (.inr (own_ne_map hgs h1)), H.held, H.low, H.gap, H.top, H.high_⟩
  · intro e
    injection e with e
    rw [← e, H.box.blk] at h1
    cases h1
  · intro e
    injection e with e
    exact hne e.symm

theorem field88 (r h m x y z : Int) (w : World) : (Instr.field 88 (.agg #[.int .u32 r, .int .u32 h, .int .u32 m, .int .i64 x, .int .i64 y, .int .i64 z]) 1).run Try.prog w = .ok (.int .u32 h) w := by kernel_rfl
theorem isPairs_mono {w : World} {B B' : Nat} {A : Option Addr} {r : Int} {L : List Sp} (h : IsPairs w B A r L) (hb : B ≤ B') : IsPairs w B' A r L := fun k hk => by
  obtain ⟨g, h1, h2, h3⟩ := h k hk
  exact ⟨g, h1, Nat.lt_of_lt_of_le h2 hb, h3⟩
theorem named_get (r : Int) (L : List Sp) (j : Nat) (h : j < (nums L).length) : (encU (named r L))[j]? = some (.int .u32 ((r + (nums L)[j]) % 16777216)) := by
  unfold encU named
  rw [List.getElem?_map, List.getElem?_map, List.getElem?_eq_getElem h]
  rfl

set_option maxHeartbeats 8000000 in
set_option maxRecDepth 20000 in
theorem walk (a0 : Int) (A : Option Addr) (len cap : Nat) (zs : List Int) (w : World) (hA : Ints.IsRow .i64 w A len cap zs) :
    Calls Try.prog 16 #[.int .i64 a0, .slice A len cap] w fun e w' => e = .returned (.bool true) ∧ Below w.heap.size w w' := by
  obtain ⟨S, hS⟩ : ∃ S : Int, a0 % 16777216 = S := ⟨_, rfl⟩
  have hS0 : 0 ≤ S := by omega
  have hS1 : S < 16777216 := by omega
  have HOF : Hid (∀ w : World, Calls Try.prog 19 #[.int .i64 a0] w fun e w' => e = .returned (.int .u32 S) ∧ w = w') := fun w => by
    have := Seq.of_any a0 w
    rw [hS] at this
    exact this
  have HA := Lib.hid hA
  have hlm := hA.len_le
  unfold maxLen at hlm
  have hmm := @run_makeMap Try.prog
  clear hA hS
  go_enter Try.func16, Try.ntmps16
  go_wp2_with (first | (go_at_call 19; refine (HOF.out _).mono ?_; rintro e w' ⟨rfl, rfl⟩) | fail)
  refine (Recv.new_any S w).mono ?_
  rintro e W ⟨b, bm, rfl, hb, hbm, hblk, hmap, hbl⟩
  have hst : State W w.heap.size b bm 0 S 0 0 (.slice none 0 0) (.slice none 0 0) 0 (.map []) (fun _ => false) := by
    have e1 : S % 16777216 = (S + ((0 : Nat) : Int)) % 16777216 := by omega
    rw [e1] at hblk
    exact ⟨⟨hblk, hmap, ⟨[], by simp, World.ownsRow_nil _ _ _ _⟩, ⟨[], World.ownsRow_nil _ _ _ _⟩, hb, hbm⟩, Held.start S, fun i hi => absurd hi (Nat.not_lt_zero i), rfl, fun i hi => (by cases hi), by decide⟩
  have HST := Lib.hid hst
  have HBL := Lib.hid hbl
  have hWs := hbl.size
  clear hst hblk hmap hbl
  go_wp2_with fail
  have HST1 := Lib.hid (State.below HST.out ((Below.refl _ _).alloc (Nat.le_refl _) (.map #[] 0)))
  have HBL1 := Lib.hid (HBL.out.alloc hWs (.map #[] 0))
  have hmc := World.ownsMap_made (H := Unit) W Try.prog 3 (plainElem Try.prog 3)
  have hne : W.heap.size ≠ bm := fun e => by have := HST.out.box.map.lt; omega
  have hbc : w.heap.size ≤ W.heap.size := hWs
  have HMC := Lib.hid hmc
  clear hmc HST HBL hmm hb hbm
  generalize W.alloc (.map #[] 0) = W1 at HST1 HBL1 HMC ⊢
  generalize W.heap.size = bc at HMC hne hbc ⊢
  clear hWs
  go_loopw [6, 8] (fun hv iv wr => ∃ (i high f nn ng : Nat) (A' G' : Value) (D Dc : DataW Unit) (c : Nat → Bool), i ≤ len ∧ i ≤ 60 ∧ iv = .int .i64 i ∧ hv = .int .i64 high ∧ State wr w.heap.size b bm nn S f high A' G' ng D c ∧ nn ≤ i ∧ wr.ownsMap Try.prog 3 (plainElem (H := Unit) Try.prog 3) bc i Dc ∧ Cnt Dc c i ∧ Below w.heap.size w wr)
    (fun _ iv _ => 60 - (intOf iv).toNat)
  case atStart => exact ⟨0, 0, 0, 0, 0, _, _, _, _, _, by omega, by omega, rfl, rfl, HST1.out, by omega, HMC.out, Cnt.start _ (by omega), HBL1.out⟩
  case round =>
    obtain ⟨i, high, f, nn, ng, A', G', D, Dc, c, hil, hi60, rfl, rfl, hst, hnn, hmc, hcnt, hbl⟩ := hrel
    have HST := Lib.hid hst
    have HMC := Lib.hid hmc
    have HCN := Lib.hid hcnt
    have HBL := Lib.hid hbl
    by_cases hgo : i < len ∧ i < 60
    · obtain ⟨h1, h2⟩ := hgo
      obtain ⟨ab, off, rfl, hc0⟩ := HA.out.at_ h1
      have hab := block_lt_of_cell hc0
      rw [← hbl.cell (show ab < w.heap.size from hab)] at hc0
      generalize zs.getD i 0 = x at hc0
      obtain ⟨n, hn, hn64⟩ : ∃ n : Nat, x % 64 = n ∧ n < 64 := ⟨(x % 64).toNat, by omega, by omega⟩
      have hand : bits .and .i64 x 63 = (n : Int) := by rw [and_63, hn]
      have h1' : (i : Int) < len := by omega
      have h2' : (i : Int) < 60 := by omega
      have HN64 := Lib.hid hn64
      have HNN := Lib.hid hnn
      clear hst hmc hcnt hbl hn hn64 hnn
      go_wp2_with (first
        | (go_at_call 19; refine (HOF.out _).mono ?_; rintro e w' ⟨rfl, rfl⟩)
        | (go_at_call 21; refine (Seq.add_any _ _ _).mono ?_; rintro e w' ⟨rfl, rfl⟩)
        | fail)
      refine (data_any w.heap.size b bm nn f high n S A' G' ng D c ⟨#[109]⟩ (by decide) wr HST.out HN64.out (by have := HNN.out; omega)).mono ?_
      rintro e w2 ⟨⟨v, rfl⟩, nn', f', A2, G2, ng', D', hst2, hnn2, hbe2, hkp2⟩
      obtain ⟨q, hq, hq0, hqi, hqc⟩ := HCN.out.at_ n
      have HMC2 := Lib.hid (hkp2.map HMC.out hne)
      have HST2 := Lib.hid hst2
      have HBE2 := Lib.hid (HBL.out.trans hbe2)
      have HNN2 := Lib.hid hnn2
      have HQ := Lib.hid hq
      have HKEY : Hid (keyOf Try.prog 3 (.int .i64 (n : Int)) = some (.int .i64 (n : Int))) := keyOf_int_mk Try.underlying3 (by simp [Lit.wf, IntKind.min, IntKind.max, IntKind.signed, IntKind.bits]; have := HN64.out; omega)
      have HWF : Hid ((Lit.int .i64 (q + 1)).wf = true) := by
        have : (Lit.int .i64 (q + 1)).wf = true := by simp [Lit.wf, IntKind.min, IntKind.max, IntKind.signed, IntKind.bits]; omega
        exact this
      have hin : (n : Int) < 64 := by have := HN64.out; omega
      have hhi : (high : Int) ≤ 64 := by have := HST.out.high_; omega
      clear hst2 hbe2 hkp2 hnn2 hq hqc hc0 hand
      go_wp2_with (first
        | (at_lookup; refine wpList_lookup_own_int _ rfl _ _ 80 rfl 3 3 .i64 law3 Try.underlying80 Try.underlying3 (zero3 _) bc i _ rfl HMC2.out _ (.int .i64 (n : Int)) rfl HKEY.out ?_; intro q' hat hwq; obtain rfl := lit_inj (HQ.out.symm.trans hat))
        | (at_mapUpdate; refine wpList_mapUpdate_own _ rfl _ _ _ 80 rfl 3 3 law3 Try.underlying80 _ bc i _ rfl HMC2.out (by unfold maxLen; omega) _ _ (.int .i64 (n : Int)) rfl rfl HKEY.out _ [] (plainElem_int Try.underlying3 HWF.out) ?_; intro w3 hown3 hgrow3)
        | fail)
      go_roundw
      case rel =>
        refine ⟨i + 1, max high (n + 1), f', nn', ng', A2, G2, D', _, _, by omega, by omega, by go_num, ?_, State.other HST2.out HMC2.out hne hgrow3, by have := HNN.out; have := HNN2.out; omega, hown3, HCN.out.put (HMC.out.tidy law3) HN64.out HQ.out (by omega) (by omega), HBE2.out.grown hgrow3 (HBE2.out.size) (fun j hj => by cases hj; exact hbc)⟩
        rw [show ((max high (n + 1) : Nat) : Int) = max (high : Int) ((n : Int) + 1) from by omega]
      case measure => simp [intOf]; omega
    · have hx : ((i : Int) < len ∧ ¬ (i : Int) < 60) ∨ ¬ (i : Int) < len := by omega
      have hi60' : (i : Int) ≤ 60 := by omega
      clear hgo hst hmc hcnt hbl
      obtain ⟨ss, hss, hso⟩ := HST.out.box.inb
      obtain ⟨Aa, ca, rfl⟩ := Own.shape hso
      obtain ⟨gs, hgs⟩ := HST.out.box.gap
      obtain ⟨Ag, cg, rfl⟩ := Own.shape hgs
      clear hss hso hgs
      have hle := HST.out.le
      have hh64 := HST.out.high_
      have hmx : Seq.maxN ((S + (f : Int)) % 16777216) ((S + 64) % 16777216) (((S + (f : Int)) % 16777216 + (64 - (f : Int))) % 16777216) = (S + 64) % 16777216 := by
        have e : ((S + (f : Int)) % 16777216 + (64 - (f : Int))) % 16777216 = (S + 64) % 16777216 := by omega
        unfold Seq.maxN
        rw [e, if_pos (Int.le_refl _)]
        omega
      have hd : ((S + (high : Int)) % 16777216 - (S + (f : Int)) % 16777216) % 16777216 = (high : Int) - f := by omega
      have hcall := stat_any b bm nn f ca Aa _ _ _ D wr HST.out.box.c0 HST.out.box.c1 HST.out.box.c2 HST.out.box.c3 HST.out.box.c4 HST.out.box.c5 (HST.out.box.free 2) (by omega) hmx HST.out.box.map (by omega) HST.out.held.range (by rw [hd]; omega)
      have HCALL := Lib.hid hcall
      have HD := Lib.hid hd
      clear hcall hmx hd
      rcases hx with ⟨h1', h2'⟩ | h1'
      all_goals go_wp2_with fail
      all_goals refine HCALL.out.mono ?_
      all_goals rintro e w2 ⟨v2, L, rfl, hN, hown2, hb2⟩
      all_goals
        obtain ⟨A2, c2, rfl, hP⟩ := isPairs_of_own hown2
        have hmm := @run_makeMap Try.prog
        go_wp2_with fail
        have ha2 : Below w2.heap.size w2 (w2.alloc (.map #[] 0)) := (Below.refl _ _).alloc (Nat.le_refl _) _
        have HST3 := Lib.hid (State.below (State.below HST.out hb2) ha2)
        have HMC3 := Lib.hid ((HMC.out.kept (gb hb2) (by simp)).kept (gb ha2) (by simp))
        have HMN3 := Lib.hid (World.ownsMap_made (H := Unit) w2 Try.prog 3 (plainElem Try.prog 3))
        have HP3 := Lib.hid (isPairs_mono (hP.later ha2) ha2.size)
        have HBL2 := HBL.out.trans (hb2.mono HBL.out.size)
        have HBL3 := Lib.hid (HBL2.trans (ha2.mono HBL2.size))
        have hbn : bc ≠ w2.heap.size := fun e => by have := HMC.out.lt; have := hb2.size; omega
        have hbnm : w2.heap.size ≠ bm := fun e => by have := HST.out.box.map.lt; have := hb2.size; omega
        have hwbn : w.heap.size ≤ w2.heap.size := HBL2.size
        have HN := Lib.hid hN
        clear hP hmm hN hown2 hb2 ha2 HBL2 HCALL
        generalize w2.alloc (.map #[] 0) = W3 at HST3 HMC3 HMN3 HP3 HBL3 ⊢
        generalize w2.heap.size = bn at HMN3 hbn hbnm hwbn ⊢
        have hin : ∀ x, In x L → 0 ≤ x ∧ x < 64 := fun x hx => by
          have h1 := ((HN.out.2 x).1 hx).1
          rw [HD.out] at h1
          omega
        have HIN := Lib.hid hin
        clear hin
        refine (named_any _ L HN.out.1 HIN.out A2 c2 _ _ _ _ _ _ W3 HP3.out).mono ?_
        rintro e W4 ⟨v4, rfl, hown4, hb4⟩
        obtain ⟨A4, c4, rfl⟩ := Own.shape hown4
        have HST4 := Lib.hid (State.below HST3.out hb4)
        have HMC4 := Lib.hid (HMC3.out.kept (gb hb4) (by simp))
        have HMN4 := Lib.hid (HMN3.out.kept (gb hb4) (by simp))
        have HBL4 := Lib.hid (HBL3.out.trans (hb4.mono HBL3.out.size))
        have HO4 := Lib.hid hown4
        have hnl : (named ((S + (f : Int)) % 16777216) L).length = (nums L).length := named_length _ _
        have hfew := (norm_few L 0 64 HN.out.1 (by omega) HIN.out).1
        rw [hnl] at HO4 ⊢
        clear hown4 hb4 hnl HP3 HST3 HMC3 HMN3 HBL3
        have hfew' : ((nums L).length : Int) ≤ 64 := by omega
        clear hfew
        go_wp2_with fail
        go_loopw [65] (fun jv wr2 => ∃ (j : Nat) (D2 : DataW Unit) (d : Nat → Bool), j ≤ (nums L).length ∧ jv = .int .i64 j ∧ wr2.ownsMap Try.prog 3 (plainElem (H := Unit) Try.prog 3) bn j D2 ∧ Cnt D2 d 1 ∧ SoNamed f ((nums L).take j) d ∧ State wr2 w.heap.size b bm nn S f high (.slice Aa f ca) (.slice Ag ng cg) ng D c ∧ wr2.ownsMap Try.prog 3 (plainElem (H := Unit) Try.prog 3) bc i Dc ∧ wr2.ownsRow W3.heap.size 24 1 (.slice A4 (nums L).length c4) (nums L).length (encU (named ((S + (f : Int)) % 16777216) L)) ∧ Below w.heap.size w wr2)
          (fun jv _ => (nums L).length - (intOf jv).toNat)
        case atStart => exact ⟨0, _, _, by omega, rfl, HMN4.out, Cnt.start 1 (by omega), soNamed_nil f, HST4.out, HMC4.out, HO4.out, HBL4.out⟩
        case round =>
          obtain ⟨j, D2, d, hj, rfl, hmn, hcn, hso, hst, hmc, hro, hbe⟩ := hrel
          have HMN5 := Lib.hid hmn
          have HCN5 := Lib.hid hcn
          have HSO5 := Lib.hid hso
          have HST5 := Lib.hid hst
          have HMC5 := Lib.hid hmc
          have HRO5 := Lib.hid hro
          have HBE5 := Lib.hid hbe
          by_cases hlt : j < (nums L).length
          · obtain ⟨g4, rfl, _, _, hcell, _⟩ := Own.lt hro hlt
            rw [named_get _ _ _ hlt] at hcell
            have hy := HIN.out (nums L)[j] (mem_nums.1 (List.getElem_mem hlt))
            have hy2 := ((HN.out.2 (nums L)[j]).1 (mem_nums.1 (List.getElem_mem hlt))).1
            rw [HD.out] at hy2
            have HTK := Lib.hid (List.take_succ_eq_append_getElem hlt)
            have hrise : ∀ z ∈ (nums L).take j, z < (nums L)[j] := fun z hz => by
              obtain ⟨m, hm, rfl⟩ := List.mem_iff_getElem.1 hz
              rw [List.getElem_take]
              rw [List.length_take] at hm
              exact List.pairwise_iff_getElem.1 (nums_rise L HN.out.1) m j (by omega) hlt (by omega)
            generalize (nums L)[j] = y at hcell hy hy2 HTK hrise
            obtain ⟨n, hn⟩ : ∃ n : Nat, (f : Int) + y = n := ⟨((f : Int) + y).toNat, by omega⟩
            have hn64 : n < 64 := by omega
            obtain ⟨X, hX⟩ : ∃ X : Int, ((S + (f : Int)) % 16777216 + y) % 16777216 = X := ⟨_, rfl⟩
            rw [hX] at hcell
            have hto : (X - S) % 16777216 = (n : Int) := by omega
            have HTO : Hid (∀ w : World, Calls Try.prog 22 #[.int .u32 S, .int .u32 X] w fun e w' => e = .returned (.int .i64 (n : Int)) ∧ w = w') := fun w => by
              have := Seq.to_any S X w
              rw [hto] at this
              exact this
            have hdn := HSO5.out.new hn hrise
            obtain ⟨q, hq, hq0, hq1, hqc⟩ := HCN5.out.at_ n
            obtain rfl : q = 0 := by
              rcases Int.lt_or_le 0 q with h | h
              · rw [hqc.1 h] at hdn
                cases hdn
              · omega
            have HKEY : Hid (keyOf Try.prog 3 (.int .i64 (n : Int)) = some (.int .i64 (n : Int))) := keyOf_int_mk Try.underlying3 (by simp [Lit.wf, IntKind.min, IntKind.max, IntKind.signed, IntKind.bits]; omega)
            have HQ := Lib.hid hq
            have HNY := Lib.hid hn
            have HN64 := Lib.hid hn64
            have hlt' : (j : Int) < ((nums L).length : Int) := by omega
            clear hmn hcn hso hst hmc hro hbe hy hy2 hrise hn hX hto hdn hq hq0 hq1 hqc hn64
            go_wp2_with (first
              | (go_at_call 19; refine (HOF.out _).mono ?_; rintro e w' ⟨rfl, rfl⟩)
              | (go_at_call 22; refine (HTO.out _).mono ?_; rintro e w' ⟨rfl, rfl⟩)
              | (at_lookup; refine wpList_lookup_own_int _ rfl _ _ 80 rfl 3 3 .i64 law3 Try.underlying80 Try.underlying3 (zero3 _) bn j _ rfl HMN5.out _ (.int .i64 (n : Int)) rfl HKEY.out ?_; intro q' hat hwq; obtain rfl := lit_inj (HQ.out.symm.trans hat))
              | (at_mapUpdate; refine wpList_mapUpdate_own _ rfl _ _ _ 80 rfl 3 3 law3 Try.underlying80 _ bn j _ rfl HMN5.out (by unfold maxLen; omega) _ _ (.int .i64 (n : Int)) rfl rfl HKEY.out _ [] (plainElem_int Try.underlying3 (by decide)) ?_; intro w6 hown6 hgrow6)
              | fail)
            go_roundw
            case rel =>
              have hcn6 := HCN5.out.put (k' := 1) (HMN5.out.tidy law3) HN64.out HQ.out (by omega) (by omega)
              rw [Int.zero_add] at hcn6
              obtain ⟨es6, cl6, hm6, _⟩ := HMN5.out
              refine ⟨j + 1, _, _, by omega, by go_num, hown6, hcn6, by rw [HTK.out]; exact HSO5.out.step HNY.out, State.other HST5.out HMN5.out hbnm hgrow6, HMC5.out.kept hgrow6 (fun e => hbn (by injection e)), HRO5.out.kept hgrow6 (.inr (own_ne_map HRO5.out hm6)), HBE5.out.grown hgrow6 HBE5.out.size (fun j hj => by cases hj; exact hwbn)⟩
            case measure => simp [intOf]; omega
          · obtain rfl : j = (nums L).length := by omega
            rw [List.take_length] at hso
            have hend := soNamed_end HST5.out.held HST5.out.low HST5.out.top HST5.out.high_ HST5.out.le (fun y => by have h1 := HN.out.2 y; rw [HD.out] at h1; exact h1) hso
            have hsum := many_both c d high HST5.out.top hend 64
            have hHN : ((nums L).length : Int) ≤ 64 := hfew'
            have HEND := Lib.hid hend
            have HSUM := Lib.hid hsum
            clear hmn hcn hso hst hmc hro hbe hend hsum
            go_wp2_with fail
            go_loop [78] (fun kv => ∃ k : Nat, k ≤ high ∧ kv = .int .i64 k) (fun kv => high - (intOf kv).toNat)
            case atStart => exact ⟨0, by omega, rfl⟩
            case round =>
              obtain ⟨k, hk, rfl⟩ := hrel
              by_cases hkh : k < high
              · have hk' : (k : Int) < (high : Int) := by omega
                have HKEY : Hid (keyOf Try.prog 3 (.int .i64 (k : Int)) = some (.int .i64 (k : Int))) := keyOf_int_mk Try.underlying3 (by simp [Lit.wf, IntKind.min, IntKind.max, IntKind.signed, IntKind.bits]; omega)
                obtain ⟨q1, hq1, ha1, hb1, hc1⟩ := HCN.out.at_ k
                obtain ⟨q2, hq2, ha2, hb2, hc2⟩ := HCN5.out.at_ k
                have hek := HEND.out k
                have hcase : (0 < q1 ∧ q2 = 0) ∨ (q1 = 0 ∧ q2 = 1) := by
                  cases hck : c k with
                  | true =>
                    left
                    refine ⟨hc1.2 hck, ?_⟩
                    rcases Int.lt_or_le 0 q2 with h | h
                    · have h3 := (hek.1 (hc2.1 h)).2
                      rw [hck] at h3
                      cases h3
                    · omega
                  | false =>
                    right
                    have h4 := hc2.2 (hek.2 ⟨hkh, hck⟩)
                    refine ⟨?_, by omega⟩
                    rcases Int.lt_or_le 0 q1 with h | h
                    · rw [hc1.1 h] at hck
                      cases hck
                    · omega
                obtain ⟨p1, hrun1, hat1, _⟩ := HMC5.out.lookup_int law3 Try.underlying80 Try.underlying3 (zero3 _) HKEY.out
                obtain ⟨p2, hrun2, hat2, _⟩ := HMN5.out.lookup_int law3 Try.underlying80 Try.underlying3 (zero3 _) HKEY.out
                obtain rfl := lit_inj (hq1.symm.trans hat1)
                obtain rfl := lit_inj (hq2.symm.trans hat2)
                clear hq1 hq2 hc1 hc2 hek ha1 hb1 ha2 hb2 hat1 hat2
                rcases hcase with ⟨hp, rfl⟩ | ⟨rfl, rfl⟩
                all_goals
                  go_wp2_with fail
                  go_round
                  case rel => exact ⟨k + 1, by omega, by go_num⟩
                  case measure => simp [intOf]; omega
              · obtain rfl : k = high := by omega
                obtain ⟨s1, hs1⟩ : ∃ s, Maps.size Dc = s := ⟨_, rfl⟩
                obtain ⟨s2, hs2⟩ : ∃ s, Maps.size D2 = s := ⟨_, rfl⟩
                have hsum : (s2 : Int) + (s1 : Int) = (k : Int) := by
                  have h1 := HCN.out.size_
                  have h2 := HCN5.out.size_
                  have h3 := HSUM.out
                  omega
                have HS1 := Lib.hid hs1
                have HS2 := Lib.hid hs2
                have hs2' : (s2 : Int) ≤ 64 := by omega
                have hs1' : (s1 : Int) ≤ 64 := by omega
                have HV := Lib.hid (vars_any b bm nn f ca ng cg Aa Ag _ _ _ D wr HST5.out.box.c0 HST5.out.box.c1 HST5.out.box.c2 HST5.out.box.c4 HST5.out.box.c5 HST5.out.box.c6 HST5.out.box.map)
                clear hs1 hs2
                have hfl := field88
                go_wp2_with (first
                  | (at_len; refine wpList_len_own _ rfl _ 80 rfl 3 3 Try.underlying80 _ bn (nums L).length _ rfl HMN5.out ?_; rw [HS2.out])
                  | (at_len; refine wpList_len_own _ rfl _ 80 rfl 3 3 Try.underlying80 _ bc i _ rfl HMC5.out ?_; rw [HS1.out])
                  | (go_at_call 50; refine HV.out.mono ?_; rintro e w7 ⟨rfl, hb7⟩)
                  | (go_at_call 19; refine (HOF.out _).mono ?_; rintro e w' ⟨rfl, rfl⟩)
                  | (go_at_call 21; refine (Seq.add_any _ _ _).mono ?_; rintro e w' ⟨rfl, rfl⟩)
                  | fail)
                go_ret
                exact ⟨rfl, HBE5.out.trans (hb7.mono HBE5.out.size)⟩
end Go.Proofs.Ytallhdlnhegjiaa.polliwogNames
