/- What missing computes: what lies between R and H and is not held, counted from R on. Conditions: the box's cells and the map it leads to, as the walk has them. -/
import Derived.Test.YtallhdlnhegjiaaSpanDrop
import Derived.Test.YtallhdlnhegjiaaSeq
import Derived.Deep.RegionHeld3
import Derived.Maps.RangeWalk
import Derived.Maps.StringElems
import Derived.Maps.OwnSet
namespace Go.Proofs.Ytallhdlnhegjiaa.Recv
open Go.ChangeShapes Go.WideShapes Go.ChangeAt Go.RowKit Go.Lib Go.Maps Spans
set_option linter.unusedVariables false

theorem lawU : Keyed Try.prog 24 := int_keyed Try.underlying24
/-- the key of the number that lies y ahead of r -/
def keyOfs (r y : Int) : Lit := .int .u32 ((r + y) % 16777216)

theorem grown_of_below {w w' : World} (hb : Below w.heap.size w w') : w.grownBy w' none := ⟨hb.os, hb.tape, hb.output, hb.size, fun k hk _ => hb.block k hk⟩
/-- the set while the round is under way -/
def Sofar (r d : Int) (D : DataW Unit) (left : Lit → Bool) (L : List Sp) : Prop := ∀ y, In y L ↔ (0 ≤ y ∧ y < d) ∧ ¬ (Maps.has D (keyOfs r y) = true ∧ left (keyOfs r y) = false)
theorem sofar_start {r d : Int} {D : DataW Unit} {L : List Sp} (h : ∀ x, In x L ↔ In x [((0 : Int), d)]) : Sofar r d D (Maps.has D) L := by
  intro y
  rw [h y, in_one]
  dsimp only
  constructor
  · intro h
    exact ⟨h, fun ⟨a, b⟩ => by rw [a] at b; cases b⟩
  · exact fun h => h.1
theorem sofar_step {r d x : Int} {D : DataW Unit} {left : Lit → Bool} {L L' : List Sp} (hr : 0 ≤ r ∧ r < 16777216) (hx : 0 ≤ x ∧ x < 16777216) (hd : d ≤ 16777216) (h : Sofar r d D left L) (hh : Maps.has D (.int .u32 x) = true)
    (h' : ∀ y, In y L' ↔ In y L ∧ ¬ ((x - r) % 16777216 ≤ y ∧ y < (x - r) % 16777216 + 1)) : Sofar r d D (fun z => left z && !z.sameKey (.int .u32 x)) L' := by
  intro y
  rw [h' y, h y]
  by_cases e : y = (x - r) % 16777216
  · subst e
    have hk : keyOfs r ((x - r) % 16777216) = .int .u32 x := by unfold keyOfs; congr 1; omega
    rw [hk]
    constructor
    · rintro ⟨_, b⟩
      exact absurd ⟨Int.le_refl _, by omega⟩ b
    · rintro ⟨_, b⟩
      exact absurd ⟨hh, by simp [Lit.sameKey]⟩ b
  · constructor
    · rintro ⟨⟨a, b⟩, _⟩
      refine ⟨a, fun ⟨c1, c2⟩ => b ⟨c1, ?_⟩⟩
      have hne : keyOfs r y ≠ .int .u32 x := by
        unfold keyOfs
        intro hc
        injection hc with _ hc
        omega
      dsimp only at c2
      rw [sameKey_ne hne] at c2
      simpa using c2
    · rintro ⟨a, b⟩
      refine ⟨⟨a, fun ⟨c1, c2⟩ => b ⟨c1, by simp [c2]⟩⟩, fun h => e (by omega)⟩
theorem sofar_end {r d : Int} {D : DataW Unit} {left : Lit → Bool} {L : List Sp} (h : Sofar r d D left L) (hl : ∀ k, left k = false) : ∀ y, In y L ↔ (0 ≤ y ∧ y < d) ∧ ¬ Maps.has D (keyOfs r y) = true := by
  intro y
  rw [h y]
  constructor
  · exact fun ⟨a, b⟩ => ⟨a, fun c => b ⟨c, hl _⟩⟩
  · exact fun ⟨a, b⟩ => ⟨a, fun c => b c.1⟩

theorem own_ne_iter {w : World} {k : TypeId} {R : Value → Option (DataW Unit × List MemPlace)} {b ri nn cnt : Nat} {D : DataW Unit} {left : Lit → Bool} {B e size n : Nat} {v : Value} {xs : List Value} (h : w.ranges Try.prog k R b ri nn D left cnt) (ho : w.ownsRow B e size v n xs) : v.ownBlock = none ∨ v.ownBlock ≠ some ri := by
  obtain ⟨es, clock, since, seen, c0, _, _, _, _, hri, _⟩ := h
  rcases ho.2 with ⟨rfl, _⟩ | ⟨g, cap, cur, rfl, _, hg, _⟩
  · exact .inl rfl
  · right
    intro e
    simp only [Value.ownBlock, Option.some.injEq] at e
    subst e
    rw [hg] at hri
    cases hri
theorem sofar_fair {r d : Int} {D : DataW Unit} {left : Lit → Bool} {L : List Sp} (hn : Norm L) (h : Sofar r d D left L) (hd : d ≤ 16777216) (hd0 : 0 ≤ d) : (∀ p ∈ L, Spans.Fair p) ∧ L.length ≤ 16777216 := by
  have hi : ∀ x, In x L → 0 ≤ x ∧ x < d := fun x hx => ((h x).1 hx).1
  refine ⟨fun p hp => ?_, ?_⟩
  · have h0 := hn.1 p hp
    have h1 := hi p.1 ⟨p, hp, Int.le_refl _, h0⟩
    have h2 := hi (p.2 - 1) ⟨p, hp, by omega, by omega⟩
    exact ⟨by omega, by omega, by omega, by omega⟩
  · have := (norm_few L 0 d hn hd0 hi).2
    omega
set_option maxHeartbeats 4000000 in
set_option maxRecDepth 20000 in
theorem missing_any (b bm nn : Nat) (r h : Int) (D : DataW Unit) (w : World) (c0 : w.cell? ⟨b, 0, none⟩ = some (.int .u32 r)) (c1 : w.cell? ⟨b, 1, none⟩ = some (.int .u32 h)) (c4 : w.cell? ⟨b, 4, none⟩ = some (.map (some bm)))
    (hm : w.ownsMap Try.prog 24 (plainElem (H := Unit) Try.prog 9) bm nn D) (hr : 0 ≤ r ∧ r < 16777216) (hks : ∀ x, Maps.has D (.int .u32 x) = true → 0 ≤ x ∧ x < 16777216) :
    Calls Try.prog 67 #[.pointer (some ⟨b, 0, none⟩)] w fun e w' => ∃ v L, e = .returned v ∧ w'.ownsRow w.heap.size 55 2 v L.length (flat L) ∧ Norm L ∧ (∀ y, In y L ↔ (0 ≤ y ∧ y < (h - r) % 16777216) ∧ ¬ Maps.has D (keyOfs r y) = true) ∧ Below w.heap.size w w' := by
  have hbl := block_lt_of_cell c0
  have hd0 : 0 ≤ (h - r) % 16777216 := by omega
  have hd1 : (h - r) % 16777216 < 16777216 := by omega
  have HM := Lib.hid hm
  have KS := Lib.hid (fun (w' : World) (hb : Below w.heap.size w w') => (⟨(hb.cell (p := ⟨b, 0, none⟩) hbl).trans c0, (hb.cell (p := ⟨b, 1, none⟩) hbl).trans c1⟩ : w'.cell? ⟨b, 0, none⟩ = some (.int .u32 r) ∧ w'.cell? ⟨b, 1, none⟩ = some (.int .u32 h)))
  have hbv := Below.refl w.heap.size w
  have hS : ∀ (d : Int) (W : World), IsSpans (W.alloc (.cells #[.int .i64 0, .int .i64 d] 55)) (some ⟨W.heap.size, 0, none⟩) [((0 : Int), d)] := by
    intro d W i hi
    refine ⟨W.heap.size, 0, rfl, by simp, ?_, ?_⟩
    · rw [cell_of_row _ _ _ _ _ _ (heap_alloc_new _ _)]
      match i, hi with
      | 0, _ => rfl
    · rw [cell_of_row _ _ _ _ _ _ (heap_alloc_new _ _)]
      match i, hi with
      | 0, _ => rfl
  have HS := Lib.hid hS
  have C0 := Lib.hid c0
  have C4 := Lib.hid c4
  have HKS := Lib.hid hks
  have HR := Lib.hid hr
  clear hm c0 c1 c4 hS hks hr
  generalize hdd : (h - r) % 16777216 = d at hd0 hd1 ⊢
  have HDD := Lib.hid hdd
  clear hdd
  go_enter Try.func67, Try.ntmps67
  go_wp2_with fail
  go_region_held3 (fun w' => w'.cell? ⟨b, 0, none⟩ = some (.int .u32 r) ∧ w'.cell? ⟨b, 1, none⟩ = some (.int .u32 h))
    (exact KS.out _ (by first | assumption | exact hbv | exact hbv.drew | exact hbv.drew.alloc (Nat.le_refl _) _))
    (first
      | (go_at_call 22; refine (Seq.to_any _ _ _).mono ?_; rw [HDD.out]; rintro e w2 ⟨rfl, rfl⟩)
      | (go_at_call 35; refine (of_any (some ⟨w.heap.size, 0, none⟩) 1 [((0 : Int), d)] _ (HS.out d w.drew) (fun p hp => by rw [List.mem_singleton.1 hp]; exact ⟨by dsimp only; omega, by dsimp only; omega, by dsimp only; omega, by dsimp only; omega⟩) (by simp)).mono ?_; rintro e w2 ⟨v2, L2, rfl, hown2, hn2, hin2, _, hb2⟩; have hb3 : Below w.heap.size w w2 := (hbv.drew.alloc (Nat.le_refl _) _).trans (hb2.mono (by simp))))
  have hown3 := own_mono hown2 (show w.heap.size ≤ _ by simp)
  clear hown2 hb2
  have HB3 := Lib.hid hb3
  have hm3 := HM.out.kept (grown_of_below hb3) (by simp)
  have c4 := (hb3.cell (p := ⟨b, 4, none⟩) hbl).trans C4.out
  have hso := sofar_start (r := r) (D := D) hin2
  have HSO := Lib.hid hso
  have HO3 := Lib.hid hown3
  clear hin2 hb3 hso hown3
  go_wp2_with (at_range; refine wpList_range_own _ rfl _ 99 rfl 24 9 lawU Try.underlying99 _ bm nn D rfl hm3 ?_; intro w0 hrg0 hg0 hs0)
  go_frame
  have hbr : Below w2.heap.size w2 w0 := ⟨hg0.os, hg0.tape, hg0.output, hg0.size, fun k hk => hg0.block k hk (by simp)⟩
  have hb0 := HB3.out.trans (hbr.mono HB3.out.size)
  have hown0 := own_below HO3.out hbr
  have hs3 := HB3.out.size
  have HN2 := Lib.hid hn2
  generalize w2.heap.size = ri at hrg0 hs0 hs3 ⊢
  have HRG := Lib.hid hrg0
  have HO0 := Lib.hid hown0
  have HB0 := Lib.hid hb0
  clear hg0 hbr hm3 c4 hrg0 hown0 hb0 hn2
  go_loopw [3] (fun v wr => ∃ (left : Lit → Bool) (cnt : Nat) (L : List Sp), wr.ranges Try.prog 24 (plainElem (H := Unit) Try.prog 9) bm ri nn D left cnt ∧ wr.ownsRow w.heap.size 55 2 v L.length (flat L) ∧ Norm L ∧ Sofar r d D left L ∧ Below w.heap.size w wr)
    (fun _ wr => wr.rangeLeft bm ri)
  case atStart => exact ⟨_, _, L2, HRG.out, HO0.out, HN2.out, HSO.out, HB0.out⟩
  case round =>
    obtain ⟨left, cnt, L, hrg, hown, hn, hso, hb⟩ := hrel
    have HO := Lib.hid hown
    have HN := Lib.hid hn
    have HSF := Lib.hid hso
    have HB := Lib.hid hb
    clear hown hn hso hb
    go_wp2_with (at_next; refine wpList_next_ranges_is _ rfl _ rfl 24 9 .u32 lawU Try.underlying24 Try.underlying9 bm ri nn D left cnt rfl hrg ?_ ?_)
    · intro _ hl0
      go_wp2
      go_ret
      exact ⟨_, L, rfl, HO.out, HN.out, sofar_end HSF.out hl0, HB.out⟩
    · intro x c w1 cnt1 hwx hwc hlx hat hrg1 hlt hg1 hs1 hen
      have hhas : Maps.has D (.int .u32 x) = true := has_true_of_atKey hat
      have hx := HKS.out x hhas
      have hb1 := HB.out.grown hg1 HB.out.size (fun j hj => by cases hj; exact hs3)
      have hown1 := HO.out.kept hg1 (own_ne_iter hrg HO.out)
      have hc0 := (hb1.cell (p := ⟨b, 0, none⟩) hbl).trans C0.out
      have hat0 : 0 ≤ (x - r) % 16777216 := by omega
      have hat1 : (x - r) % 16777216 < 16777216 := by omega
      obtain ⟨hfair, hlen⟩ := sofar_fair HN.out HSF.out (by omega) hd0
      have HST : Hid (∀ L', (∀ y, In y L' ↔ In y L ∧ ¬ ((x - r) % 16777216 ≤ y ∧ y < (x - r) % 16777216 + 1)) → Sofar r d D (fun z => left z && !z.sameKey (.int .u32 x)) L') := fun L' h' => sofar_step HR.out hx (by omega) HSF.out hhas h'
      have HDR : Hid (∀ v5 : Value, w1.ownsRow w.heap.size 55 2 v5 L.length (flat L) → Calls Try.prog 76 #[v5, .agg #[.int .i64 ((x - r) % 16777216), .int .i64 ((x - r) % 16777216 + 1)]] w1 fun e w' => ∃ v' L', e = .returned v' ∧ w'.ownsRow w1.heap.size 55 2 v' L'.length (flat L') ∧ Norm L' ∧ (∀ y, In y L' ↔ In y L ∧ ¬ ((x - r) % 16777216 ≤ y ∧ y < (x - r) % 16777216 + 1)) ∧ Below w1.heap.size w1 w') := fun v5 ho => drop_any v5 L _ _ w.heap.size w1 ho (by omega) hfair ⟨by dsimp only; omega, by dsimp only; omega, by dsimp only; omega, by dsimp only; omega⟩ (by omega)
      have HB1 := Lib.hid hb1
      have HO1 := Lib.hid hown1
      have HRG1 := Lib.hid hrg1
      have HRG0 := Lib.hid hrg
      have HEQ : Hid (∀ q : Int, q = (x - r) % 16777216 → q = (x - r) % 16777216) := fun q h => h
      clear hat hhas hx hb1 hown1 hrg1 hrg hg1 hfair hlen hlx hwx hwc hs1
      go_wp2_with (go_at_call 22; refine (Seq.to_any _ _ _).mono ?_; rintro e w' ⟨rfl, rfl⟩)
      refine (HDR.out _ HO1.out).mono ?_
      rintro e w5 ⟨v5, L5, rfl, hown5, hn5, hin5, hb5⟩
      have hs5 := HST.out L5 hin5
      have hrg5 := HRG1.out.kept (grown_of_below hb5) (by simp) (by simp)
      have hb6 := HB1.out.trans (hb5.mono HB1.out.size)
      have hown6 := own_mono hown5 HB1.out.size
      have HS5 := Lib.hid hs5
      have HRG5 := Lib.hid hrg5
      clear hin5 hs5 hrg5 hown5 hb5
      go_wp2
      go_roundw
      case rel => exact ⟨_, cnt1, L5, HRG5.out, hown6, hn5, HS5.out, hb6⟩
      case measure => rw [HRG5.out.left_eq, HRG0.out.left_eq]; omega
end Go.Proofs.Ytallhdlnhegjiaa.Recv
