/- What gaps.List computes: of a set within half the numbers, where each span begins and ends, from a base on. Conditions: the set's numbers lie from 0 on, below 2^23 + 1; at most 10^5 spans. -/
import Derived.Test.YtallhdlnhegjiaaSpanBoth
import Derived.Test.YtallhdlnhegjiaaSeq
import Derived.BigRegion
import Derived.Deep.RegionHeld3
import Derived.Deep.AppendLies
import Derived.Lib.Builder
namespace Go.Proofs.Ytallhdlnhegjiaa.Gaps
open Go.ChangeShapes Go.WideShapes Go.ChangeAt Go.RowKit Go.Lib Spans
set_option linter.unusedVariables false

def encU (l : List Int) : List Value := l.map (.int .u32)
def two (base : Int) (p : Sp) : List Int := [(base + p.1) % 16777216, (base + p.2) % 16777216]
def pairsOf (base : Int) (s : List Sp) : List Int := s.flatMap (two base)
theorem pairsOf_take (base : Int) (s : List Sp) (k : Nat) (h : k < s.length) : pairsOf base (s.take (k + 1)) = pairsOf base (s.take k) ++ two base s[k] := by
  unfold pairsOf
  rw [List.take_succ_eq_append_getElem h, List.flatMap_append]
  simp
theorem pairsOf_length (base : Int) (s : List Sp) : (pairsOf base s).length = s.length * 2 := by
  unfold pairsOf
  induction s with
  | nil => rfl
  | cons p s ih => rw [List.flatMap_cons, List.length_append, ih]; simp [two]; omega
theorem info24m : (Try.prog.info? 24).map (fun i => (i.zero, i.size, i.bytes)) = some (some (.int .u32 0), 1, 4) := by kernel_rfl
theorem info24 : ∃ i, Try.prog.info? 24 = some i ∧ i.zero = some (.int .u32 0) ∧ i.size = 1 ∧ i.bytes = 4 := by
  have h := info24m
  cases e : Try.prog.info? 24 with
  | none => rw [e] at h; cases h
  | some i =>
    rw [e] at h
    simp at h
    exact ⟨i, rfl, h⟩
theorem two_nums (w : World) (a b : Int) (T : TypeId) (j : Nat) (u : Value) (hj : [Value.int .u32 a, .int .u32 b][j]? = some u) :
    (w.alloc (.cells #[.int .u32 a, .int .u32 b] T)).cell? ((⟨w.heap.size, 0, none⟩ : Addr).add j) = some u := by
  have e : (⟨w.heap.size, 0, none⟩ : Addr).add j = ⟨w.heap.size, j, none⟩ := by unfold Addr.add; split <;> simp_all
  rw [e, cell_of_row _ _ _ _ _ _ (heap_alloc_new w _)]
  simpa using hj
theorem put_two {w wr w2 : World} {B : Nat} {v v' : Value} {o : Obj} {l : List Int} {a b : Int} (hB : B ≤ wr.heap.size) (hown : wr.ownsRow B 24 1 v l.length (encU l)) (hb : Below B w wr)
    (h1 : w2.ownsRow B 24 1 v' (l.length + 2) (encU l ++ [.int .u32 a, .int .u32 b])) (hg : (wr.alloc o).grownBy w2 v.ownBlock) :
    w2.ownsRow B 24 1 v' (l ++ [a, b]).length (encU (l ++ [a, b])) ∧ Below B w w2 :=
  ⟨by unfold encU; rw [List.map_append, List.length_append]; exact h1, (hb.alloc hB o).grown hg (by simp; omega) (fun j hj => (hown.lt j hj).1)⟩
theorem half_norm : Norm [((0 : Int), (8388609 : Int))] := ⟨fun p hp => by rw [List.mem_singleton.1 hp]; decide, List.pairwise_singleton _ _⟩

set_option maxHeartbeats 4000000 in
set_option maxRecDepth 20000 in
theorem list_any (base : Int) (v : Value) (s : List Sp) (B : Nat) (w : World) (h : w.ownsRow B 55 2 v s.length (flat s)) (hn : Norm s) (hin : ∀ x, In x s → 0 ≤ x ∧ x < 8388609) (hl : s.length ≤ 100000) :
    Calls Try.prog 66 #[.int .u32 base, v] w fun e w' => ∃ v', e = .returned v' ∧ w'.ownsRow w.heap.size 24 1 v' (pairsOf base s).length (encU (pairsOf base s)) ∧ Below w.heap.size w w' := by
  obtain ⟨i0, hi, hz0, hz1, hz2⟩ := info24
  obtain ⟨A, c, rfl, hA⟩ := isSpans_of_own h
  have HA := Lib.hid hA
  have HN := Lib.hid hn
  have HIN := Lib.hid hin
  have hl' : (s.length : Int) ≤ 100000 := by omega
  clear hA h hn hin hl
  go_enter Try.func66, Try.ntmps66
  go_wp2_with fail
  have hg : (w.alloc (.cells #[.int .i64 0, .int .i64 8388609] 55)).heap[w.heap.size]? = some (.cells #[.int .i64 0, .int .i64 8388609] 55 (0, 0)) := heap_alloc_new _ _
  have hb1 := (Below.refl w.heap.size w).alloc (Nat.le_refl _) (.cells #[.int .i64 0, .int .i64 8388609] 55)
  have hS1 : IsSpans (w.alloc (.cells #[.int .i64 0, .int .i64 8388609] 55)) (some ⟨w.heap.size, 0, none⟩) [((0 : Int), (8388609 : Int))] := by
    intro i hi
    refine ⟨w.heap.size, 0, rfl, by simp, ?_, ?_⟩
    · rw [cell_of_row _ _ _ _ _ _ hg]
      match i, hi with
      | 0, _ => rfl
    · rw [cell_of_row _ _ _ _ _ _ hg]
      match i, hi with
      | 0, _ => rfl
  generalize w.alloc (.cells #[.int .i64 0, .int .i64 8388609] 55) = W1 at hS1 hb1 ⊢
  generalize hgw : w.heap.size = g at hS1 ⊢
  clear hg
  refine (of_any (some ⟨g, 0, none⟩) 1 [((0 : Int), (8388609 : Int))] W1 hS1 (fun p hp => by rw [List.mem_singleton.1 hp]; exact ⟨by decide, by decide, by decide, by decide⟩) (by decide)).mono ?_
  rintro e W2 ⟨v2, L2, rfl, hown2, hn2, hin2, _, hb2⟩
  obtain rfl : L2 = [((0 : Int), (8388609 : Int))] := norm_unique _ _ hn2 half_norm hin2
  obtain ⟨A2, c2, rfl, hA2⟩ := isSpans_of_own hown2
  rw [← hgw]
  clear hS1 hn2 hin2 hown2 hgw
  have hbw := hb1.trans (hb2.mono hb1.size)
  have hA1 : IsSpans W2 A s := fun i hi => by
    obtain ⟨b, off, h1, h2, h3, h4⟩ := HA.out i hi
    exact ⟨b, off, h1, Nat.lt_of_lt_of_le h2 hbw.size, (hbw.cell (show b < w.heap.size from h2)).trans h3, (hbw.cell (show b < w.heap.size from h2)).trans h4⟩
  have HA1 := Lib.hid hA1
  have HAA2 := Lib.hid hA2
  have HBW := Lib.hid hbw
  clear hA1 hA2 hbw hb1 hb2
  go_wp2_with fail
  have hfair : ∀ p ∈ s, Spans.Fair p := fun p hp => by
    have h0 := HN.out.1 p hp
    have h1 := HIN.out p.1 ⟨p, hp, Int.le_refl _, h0⟩
    have h2 := HIN.out (p.2 - 1) ⟨p, hp, by omega, by omega⟩
    exact ⟨by omega, by omega, by omega, by omega⟩
  refine (both_any A A2 c c2 s [((0 : Int), (8388609 : Int))] W2 HA1.out HAA2.out (by omega) (by decide) hfair (fun p hp => by rw [List.mem_singleton.1 hp]; exact ⟨by decide, by decide, by decide, by decide⟩)).mono ?_
  rintro e W3 ⟨v3, L3, rfl, hown3, hn3, hin3, hb3⟩
  have hLs : L3 = s := by
    refine norm_unique _ _ hn3 HN.out fun y => ?_
    rw [hin3 y, in_one]
    constructor
    · exact fun h => h.1
    · exact fun h => ⟨h, by have := HIN.out y h; dsimp only; omega⟩
  subst hLs
  obtain ⟨A3, c3, rfl, hA3⟩ := isSpans_of_own hown3
  have HA3 := Lib.hid hA3
  have HB3 := Lib.hid (HBW.out.trans (hb3.mono HBW.out.size))
  clear hn3 hin3 hown3 hb3 hA3 hfair
  go_wp2_with fail
  go_loopw [5, 14] (fun v i wr => ∃ k : Nat, k ≤ L3.length ∧ i = .int .i64 k ∧ wr.ownsRow W3.heap.size 24 1 v (pairsOf base (L3.take k)).length (encU (pairsOf base (L3.take k))) ∧ Below W3.heap.size W3 wr)
    (fun _ i _ => L3.length - (intOf i).toNat)
  case atStart => exact ⟨0, by omega, rfl, World.ownsRow_nil _ _ _ _, Below.refl _ _⟩
  case round =>
    obtain ⟨k, hk, rfl, hown, hb⟩ := hrel
    by_cases hlt : k < L3.length
    · obtain ⟨b, off, rfl, hbl, c0, c1⟩ := HA3.out k hlt
      rw [← hb.cell (show b < W3.heap.size from hbl)] at c0 c1
      have HT := Lib.hid (pairsOf_take base L3 k hlt)
      have hpl : (pairsOf base (L3.take k)).length ≤ 2 * k := by rw [pairsOf_length, List.length_take]; omega
      generalize L3[k] = p at c0 c1 HT
      obtain ⟨p0, p1⟩ := p
      dsimp only at c0 c1
      generalize pairsOf base (L3.take k) = pre at hown HT hpl
      have HPL := Lib.hid hpl
      clear hpl
      have hbs := hb.size
      go_wp2_with fail
      have hg : (wr.alloc (.cells #[.int .i64 p0, .int .i64 p1] 55)).heap[wr.heap.size]? = some (.cells #[.int .i64 p0, .int .i64 p1] 55 (0, 0)) := heap_alloc_new _ _
      have hown1 := hown.alloc (.cells #[.int .i64 p0, .int .i64 p1] 55)
      have hb1 := hb.alloc hbs (.cells #[.int .i64 p0, .int .i64 p1] 55)
      generalize wr.alloc (.cells #[.int .i64 p0, .int .i64 p1] 55) = V1 at hg hown1 hb1 ⊢
      generalize wr.heap.size = g5 at hg hbs ⊢
      clear c0 c1 hown hb
      have e0 : V1.cell? ⟨g5, 0, none⟩ = some (.int .i64 p0) := by rw [cell_of_row _ _ _ _ _ _ hg]; rfl
      have e1 : V1.cell? ⟨g5, 1, none⟩ = some (.int .i64 p1) := by rw [cell_of_row _ _ _ _ _ _ hg]; rfl
      have hgl := (Array.getElem?_eq_some_iff.1 hg).1
      obtain ⟨A6, c6, rfl⟩ := Own.shape hown1
      have HO1 := Lib.hid hown1
      have HB1 := Lib.hid hb1
      have hvs := hb1.size
      have KS := Lib.hid (fun (w' : World) (hb : Below V1.heap.size V1 w') => (⟨(hb.cell (p := ⟨g5, 0, none⟩) hgl).trans e0, (hb.cell (p := ⟨g5, 1, none⟩) hgl).trans e1⟩ : w'.cell? ⟨g5, 0, none⟩ = some (.int .i64 p0) ∧ w'.cell? ⟨g5, 1, none⟩ = some (.int .i64 p1)))
      have hbv := Below.refl V1.heap.size V1
      have hgne := Go.Lib.ownBlock_ne hown1 hg (by decide)
      have KT := Lib.hid (fun (o : Obj) (w' : World) (hgr : (V1.drew.alloc o).grownBy w' (Value.slice A6 pre.length c6).ownBlock) => (⟨hgr.cell (a := ⟨g5, 0, none⟩) (((hbv.drew.alloc (Nat.le_refl _) o).cell (p := ⟨g5, 0, none⟩) hgl).trans e0) (fun e => hgne e.symm), hgr.cell (a := ⟨g5, 1, none⟩) (((hbv.drew.alloc (Nat.le_refl _) o).cell (p := ⟨g5, 1, none⟩) hgl).trans e1) (fun e => hgne e.symm)⟩ : w'.cell? ⟨g5, 0, none⟩ = some (.int .i64 p0) ∧ w'.cell? ⟨g5, 1, none⟩ = some (.int .i64 p1)))
      clear hg hown1 hb1 e0 e1 hgne
      go_region_held3 (fun w' => w'.cell? ⟨g5, 0, none⟩ = some (.int .i64 p0) ∧ w'.cell? ⟨g5, 1, none⟩ = some (.int .i64 p1))
        (first | assumption | exact KS.out _ (by first | exact hbv | exact hbv.drew | exact hbv.drew.alloc (Nat.le_refl _) _))
        (first
          | (go_at_call 21; refine (Seq.add_any _ _ _).mono ?_; rintro e w2 ⟨rfl, rfl⟩)
          | (refine step_append_lies _ rfl (.tmp 18) (.tmp 27) 62 rfl W3.heap.size 24 i0 (.int .u32 0) 1 4 Try.underlying62 hi hz0 hz1 hz2 rfl (by decide) _ _ _ rfl (HO1.out.drew.alloc _) ⟨V1.heap.size, 0, none⟩ 2 2 [.int .u32 ((base + p0) % 16777216), .int .u32 ((base + p1) % 16777216)] rfl rfl (two_nums V1.drew _ _ _) (by intro u hu; simp at hu; rcases hu with rfl | rfl <;> rfl) (by decide) (by have := HPL.out; unfold maxLen; omega) (by have := HPL.out; omega) (by simp; omega) _ rfl ?_; intro g2 cap2 w3 hown3 hgrow3 _ _; have hSx := KT.out _ _ hgrow3))
      have R := put_two (wr := V1.drew) hvs HO1.out.drew HB1.out.drew hown3 hgrow3
      clear hown3 hgrow3 hSx
      go_wp2
      go_roundw
      case rel => exact ⟨k + 1, by omega, by go_num, by rw [HT.out]; exact R.1, R.2⟩
      case measure => simp [intOf]; omega
    · obtain rfl : k = L3.length := by omega
      rw [List.take_length] at hown
      go_wp2
      go_ret
      exact ⟨_, rfl, own_mono hown HB3.out.size, HB3.out.trans (hb.mono HB3.out.size)⟩
end Go.Proofs.Ytallhdlnhegjiaa.Gaps
