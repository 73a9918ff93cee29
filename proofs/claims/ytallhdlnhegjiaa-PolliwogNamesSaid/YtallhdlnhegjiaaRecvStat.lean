/- What renew, Stat and Vars compute. Conditions: the box's cells; what renew would store stands there already. -/
import Derived.Test.YtallhdlnhegjiaaRecvMiss
import Derived.Test.YtallhdlnhegjiaaGapsList
import Derived.Deep.RegionHeld3
import Derived.OwnWalk
namespace Go.Proofs.Ytallhdlnhegjiaa.Recv
open Go.ChangeShapes Go.WideShapes Go.ChangeAt Go.RowKit Go.Lib Go.Maps Spans
set_option linter.unusedVariables false

set_option maxHeartbeats 4000000 in
set_option maxRecDepth 20000 in
theorem renew_any (b ni ci : Nat) (A : Option Addr) (r mr : Int) (w : World) (c0 : w.cell? ⟨b, 0, none⟩ = some (.int .u32 r)) (c2 : w.cell? ⟨b, 2, none⟩ = some (.int .u32 mr)) (c3 : w.cell? ⟨b, 3, none⟩ = some (.int .i64 64)) (c5 : w.cell? ⟨b, 5, none⟩ = some (.slice A ni ci))
    (f2 : w.frozen? ⟨b, 2, none⟩ = false) (hn : ni ≤ 64) (hmx : Seq.maxN r mr ((r + (64 - (ni : Int))) % 16777216) = mr) :
    Calls Try.prog 65 #[.pointer (some ⟨b, 0, none⟩)] w fun e w' => e = .returned (.tuple #[]) ∧ Below w.heap.size w w' := by
  have hbl := block_lt_of_cell c0
  have hbv := Below.refl w.heap.size w
  have hw : IntKind.i64.wrap (64 - (ni : Int)) = 64 - (ni : Int) := by simp [IntKind.wrap, IntKind.bits, IntKind.signed]; omega
  rw [← hw] at hmx
  have HMX := Lib.hid hmx
  have hni : (ni : Int) ≤ 64 := by omega
  have KS := Lib.hid (fun (w' : World) (hb : Below w.heap.size w w') => (⟨(hb.cell (p := ⟨b, 0, none⟩) hbl).trans c0, (hb.cell (p := ⟨b, 2, none⟩) hbl).trans c2, (hb.cell (p := ⟨b, 3, none⟩) hbl).trans c3, (hb.cell (p := ⟨b, 5, none⟩) hbl).trans c5, (hb.frozen (p := ⟨b, 2, none⟩) hbl).trans f2⟩ :
    w'.cell? ⟨b, 0, none⟩ = some (.int .u32 r) ∧ w'.cell? ⟨b, 2, none⟩ = some (.int .u32 mr) ∧ w'.cell? ⟨b, 3, none⟩ = some (.int .i64 64) ∧ w'.cell? ⟨b, 5, none⟩ = some (.slice A ni ci) ∧ w'.frozen? ⟨b, 2, none⟩ = false))
  have HSE := Lib.hid (setCell_self c2)
  clear hmx c0 c2 c3 c5 f2 hn hw
  go_enter Try.func65, Try.ntmps65
  go_wp2_with fail
  go_region_held3 (fun w' => w'.cell? ⟨b, 0, none⟩ = some (.int .u32 r) ∧ w'.cell? ⟨b, 2, none⟩ = some (.int .u32 mr) ∧ w'.cell? ⟨b, 3, none⟩ = some (.int .i64 64) ∧ w'.cell? ⟨b, 5, none⟩ = some (.slice A ni ci) ∧ w'.frozen? ⟨b, 2, none⟩ = false)
    (first | exact KS.out _ (by first | assumption | exact hbv | exact hbv.drew) | (rw [HSE.out]; exact KS.out _ hbv.drew))
    (first
      | (go_at_call 21; refine (Seq.add_any _ _ _).mono ?_; rintro e w2 ⟨rfl, rfl⟩)
      | (go_at_call 74; refine (Seq.max_any _ _ _ _).mono ?_; rw [HMX.out]; rintro e w2 ⟨rfl, rfl⟩))
  rw [HSE.out]
  go_end0
  exact ⟨rfl, hbv.drew⟩

/-- what Stat names -/
def Names (r h : Int) (D : DataW Unit) (L : List Sp) : Prop := Norm L ∧ ∀ y, In y L ↔ (0 ≤ y ∧ y < (h - r) % 16777216) ∧ ¬ Maps.has D (keyOfs r y) = true
theorem Names.few {r h : Int} {D : DataW Unit} {L : List Sp} (hN : Names r h D L) (hd : (h - r) % 16777216 ≤ 64) : L.length ≤ 64 := by
  have := (norm_few L 0 64 hN.1 (by omega) (fun x hx => by have := ((hN.2 x).1 hx).1; omega)).2
  omega
set_option maxHeartbeats 4000000 in
set_option maxRecDepth 20000 in
theorem stat_any (b bm nn ni ci : Nat) (A : Option Addr) (r h mr : Int) (D : DataW Unit) (w : World) (c0 : w.cell? ⟨b, 0, none⟩ = some (.int .u32 r)) (c1 : w.cell? ⟨b, 1, none⟩ = some (.int .u32 h)) (c2 : w.cell? ⟨b, 2, none⟩ = some (.int .u32 mr))
    (c3 : w.cell? ⟨b, 3, none⟩ = some (.int .i64 64)) (c4 : w.cell? ⟨b, 4, none⟩ = some (.map (some bm))) (c5 : w.cell? ⟨b, 5, none⟩ = some (.slice A ni ci))
    (f2 : w.frozen? ⟨b, 2, none⟩ = false) (hn : ni ≤ 64) (hmx : Seq.maxN r mr ((r + (64 - (ni : Int))) % 16777216) = mr)
    (hm : w.ownsMap Try.prog 24 (plainElem (H := Unit) Try.prog 9) bm nn D) (hr : 0 ≤ r ∧ r < 16777216) (hks : ∀ x, Maps.has D (.int .u32 x) = true → 0 ≤ x ∧ x < 16777216) (hd : (h - r) % 16777216 ≤ 64) :
    Calls Try.prog 48 #[.pointer (some ⟨b, 0, none⟩)] w fun e w' => ∃ v L, e = .returned (.tuple #[v, .int .u32 r, .int .u32 mr]) ∧ Names r h D L ∧ w'.ownsRow w.heap.size 24 1 v (Gaps.pairsOf r L).length (Gaps.encU (Gaps.pairsOf r L)) ∧ Below w.heap.size w w' := by
  have hbl := block_lt_of_cell c0
  have hbv := Below.refl w.heap.size w
  have hbm := hm.lt
  have KS := Lib.hid (fun (w' : World) (hb : Below w.heap.size w w') => (⟨(hb.cell (p := ⟨b, 0, none⟩) hbl).trans c0, (hb.cell (p := ⟨b, 2, none⟩) hbl).trans c2⟩ : w'.cell? ⟨b, 0, none⟩ = some (.int .u32 r) ∧ w'.cell? ⟨b, 2, none⟩ = some (.int .u32 mr)))
  have HRN := Lib.hid (renew_any b ni ci A r mr w c0 c2 c3 c5 f2 hn hmx)
  have HMS : Hid (∀ w', Below w.heap.size w w' → Calls Try.prog 67 #[.pointer (some ⟨b, 0, none⟩)] w' fun e w2 => ∃ v L, e = .returned v ∧ w2.ownsRow w'.heap.size 55 2 v L.length (flat L) ∧ Names r h D L ∧ Below w'.heap.size w' w2) := fun w' hb =>
    (missing_any b bm nn r h D w' ((hb.cell (p := ⟨b, 0, none⟩) hbl).trans c0) ((hb.cell (p := ⟨b, 1, none⟩) hbl).trans c1) ((hb.cell (p := ⟨b, 4, none⟩) hbl).trans c4) (hm.kept (grown_of_below hb) (by simp)) hr hks).mono fun e w2 ⟨v, L, h1, h2, h3, h4, h5⟩ => ⟨v, L, h1, h2, ⟨h3, h4⟩, h5⟩
  have HD := Lib.hid hd
  clear c0 c1 c2 c3 c4 c5 f2 hn hmx hm hr hks hd hbm
  go_enter Try.func48, Try.ntmps48
  go_wp2_with fail
  refine HRN.out.mono ?_
  rintro e W ⟨rfl, hbW⟩
  go_wp2_with fail
  go_region_held3 (fun w' => w'.cell? ⟨b, 0, none⟩ = some (.int .u32 r) ∧ w'.cell? ⟨b, 2, none⟩ = some (.int .u32 mr))
    (exact KS.out _ (by first | assumption | exact hbW.drew))
    (first
      | (go_at_call 67; refine (HMS.out _ hbW.drew).mono ?_; rintro e w2 ⟨v2, L, rfl, hown2, hN, hb2⟩; have hb3 := hbW.drew.trans (hb2.mono hbW.size))
      | (go_at_call 66; refine (Gaps.list_any r v2 L _ _ hown2 hN.1 (fun x hx => by have := ((hN.2 x).1 hx).1; have := HD.out; omega) (by have := hN.few HD.out; omega)).mono ?_; rintro e w4 ⟨v4, rfl, hown4, hb4⟩; have hb5 := hb3.trans (hb4.mono hb3.size)))
  go_wp2
  go_ret3
  exact ⟨v4, L, rfl, hN, own_mono hown4 hb3.size, hb5⟩
end Go.Proofs.Ytallhdlnhegjiaa.Recv
