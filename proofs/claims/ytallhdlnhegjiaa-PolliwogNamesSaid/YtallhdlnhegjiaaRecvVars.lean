/- What Vars computes: the box's numbers. Conditions: the box's cells. -/
import Derived.Test.YtallhdlnhegjiaaRecvMiss
import Derived.Test.YtallhdlnhegjiaaSpanAdd
import Derived.Maps.OwnSet
import Derived.Laws.Rows
import Derived.Laws.Tables
namespace Go.Proofs.Ytallhdlnhegjiaa.Recv
open Go.ChangeShapes Go.WideShapes Go.ChangeAt Go.RowKit Go.Lib Go.Maps Spans
set_option linter.unusedVariables false

theorem size88 : (Try.prog.info? 88).map (·.size) = some 6 := by kernel_rfl
/-- what is right of the value of Vars' i-th operation -/
def VX (b bm ni ci ng cg : Nat) (A Ag : Option Addr) (r h mr q : Int) (v : Value) : Nat → Prop
  | 0 => v = .pointer (some ⟨b, 0, none⟩)
  | 1 => v = .pointer (some ⟨b, 0, none⟩)
  | 2 => v = .pointer (some ⟨b, 0, none⟩)
  | 3 => v = .int .u32 r
  | 4 => v = .pointer (some ⟨b, 0, none⟩)
  | 5 => v = .pointer (some ⟨b, 0, none⟩)
  | 6 => v = .pointer (some ⟨b, 1, none⟩)
  | 7 => v = .int .u32 h
  | 8 => v = .pointer (some ⟨b, 0, none⟩)
  | 9 => v = .pointer (some ⟨b, 0, none⟩)
  | 10 => v = .pointer (some ⟨b, 2, none⟩)
  | 11 => v = .int .u32 mr
  | 12 => v = .pointer (some ⟨b, 0, none⟩)
  | 13 => v = .pointer (some ⟨b, 0, none⟩)
  | 14 => v = .pointer (some ⟨b, 4, none⟩)
  | 15 => v = .map (some bm)
  | 16 => v = .int .i64 q
  | 17 => v = .pointer (some ⟨b, 0, none⟩)
  | 18 => v = .pointer (some ⟨b, 0, none⟩)
  | 19 => v = .pointer (some ⟨b, 5, none⟩)
  | 20 => v = .slice A ni ci
  | 21 => v = .int .i64 ni
  | 22 => v = .pointer (some ⟨b, 0, none⟩)
  | 23 => v = .pointer (some ⟨b, 0, none⟩)
  | 24 => v = .pointer (some ⟨b, 6, none⟩)
  | 25 => v = .slice Ag ng cg
  | 26 => v = .int .i64 ng
  | 27 => v = .agg #[.int .u32 r, .int .u32 h, .int .u32 mr, .int .i64 q, .int .i64 ni, .int .i64 ng]
  | 28 => True
  | _ => False
structure VM (b bm ni ci ng cg : Nat) (A Ag : Option Addr) (r h mr q : Int) (B0 : Nat) (w0 w : World) : Prop where
  c0 : w.cell? ⟨b, 0, none⟩ = some (.int .u32 r)
  c1 : w.cell? ⟨b, 1, none⟩ = some (.int .u32 h)
  c2 : w.cell? ⟨b, 2, none⟩ = some (.int .u32 mr)
  c4 : w.cell? ⟨b, 4, none⟩ = some (.map (some bm))
  c5 : w.cell? ⟨b, 5, none⟩ = some (.slice A ni ci)
  c6 : w.cell? ⟨b, 6, none⟩ = some (.slice Ag ng cg)
  len : ∀ ty, (Builtin.len_ #[99] ty #[.map (some bm)]).run Try.prog w = .ok (.int .i64 q) w
  bel : Below B0 w0 w
structure VI (b bm ni ci ng cg : Nat) (A Ag : Option Addr) (r h mr q : Int) (B0 g : Nat) (w0 : World) (fr : (Nat → Value) → Act) (l : Array Bool) (a : Act) (w : World) (val : Nat → Value) : Prop where
  act : a = fr val
  size : l.size = 29
  mem : VM b bm ni ci ng cg A Ag r h mr q B0 w0 w
  row0 : l.getD 28 false = false → w.heap[g]? = some (.cells #[.int .u32 0, .int .u32 0, .int .u32 0, .int .i64 0, .int .i64 0, .int .i64 0] 88 (0, 0))
  row1 : l.getD 28 false = true → w.heap[g]? = some (.cells #[.int .u32 r, .int .u32 h, .int .u32 mr, .int .i64 q, .int .i64 ni, .int .i64 ng] 88 (0, 0))
  done : ∀ i, l.getD i false = true → VX b bm ni ci ng cg A Ag r h mr q (val i) i
theorem VI.step {b bm ni ci ng cg : Nat} {A Ag : Option Addr} {r h mr q : Int} {B0 g : Nat} {w0 : World} {fr : (Nat → Value) → Act} {l : Array Bool} {a a' : Act} {w : World} {val : Nat → Value}
    (H : VI b bm ni ci ng cg A Ag r h mr q B0 g w0 fr l a w val) (i : Nat) (v : Value) (hi : i < 28) (hf : a' = fr (upd val i v)) (hv : VX b bm ni ci ng cg A Ag r h mr q v i) : ∃ val', VI b bm ni ci ng cg A Ag r h mr q B0 g w0 fr (l.setIfInBounds i true) a' w val' := by
  have hs : i < l.size := by have := H.size; omega
  refine ⟨upd val i v, hf, by rw [Array.size_setIfInBounds]; exact H.size, H.mem, ?_, ?_, ?_⟩
  · rw [getD_set _ _ _ hs, if_neg (by omega)]
    exact H.row0
  · rw [getD_set _ _ _ hs, if_neg (by omega)]
    exact H.row1
  · intro j hj
    rw [getD_set _ _ _ hs] at hj
    unfold upd
    by_cases e : j = i
    · subst e
      rw [if_pos rfl]
      exact hv
    · rw [if_neg e]
      rw [if_neg (fun h => e h.symm)] at hj
      exact H.done j hj
theorem VI.store {b bm ni ci ng cg : Nat} {A Ag : Option Addr} {r h mr q : Int} {B0 g : Nat} {w0 : World} {fr : (Nat → Value) → Act} {l : Array Bool} {a a' : Act} {w w' : World} {val : Nat → Value}
    (H : VI b bm ni ci ng cg A Ag r h mr q B0 g w0 fr l a w val) (hf : a' = fr val) (hm : VM b bm ni ci ng cg A Ag r h mr q B0 w0 w') (hr : w'.heap[g]? = some (.cells #[.int .u32 r, .int .u32 h, .int .u32 mr, .int .i64 q, .int .i64 ni, .int .i64 ng] 88 (0, 0))) : ∃ val', VI b bm ni ci ng cg A Ag r h mr q B0 g w0 fr (l.setIfInBounds 28 true) a' w' val' := by
  have hs : 28 < l.size := by rw [H.size]; decide
  refine ⟨val, hf, by rw [Array.size_setIfInBounds]; exact H.size, hm, ?_, fun _ => hr, ?_⟩
  · rw [getD_set _ _ _ hs, if_pos rfl]
    exact fun h => by cases h
  · intro j hj
    rw [getD_set _ _ _ hs] at hj
    by_cases e : j = 28
    · subst e
      trivial
    · rw [if_neg (fun h => e h.symm)] at hj
      exact H.done j hj

set_option maxHeartbeats 4000000 in
set_option maxRecDepth 20000 in
theorem vars_any (b bm nn ni ci ng cg : Nat) (A Ag : Option Addr) (r h mr : Int) (D : DataW Unit) (w : World) (c0 : w.cell? ⟨b, 0, none⟩ = some (.int .u32 r)) (c1 : w.cell? ⟨b, 1, none⟩ = some (.int .u32 h)) (c2 : w.cell? ⟨b, 2, none⟩ = some (.int .u32 mr))
    (c4 : w.cell? ⟨b, 4, none⟩ = some (.map (some bm))) (c5 : w.cell? ⟨b, 5, none⟩ = some (.slice A ni ci)) (c6 : w.cell? ⟨b, 6, none⟩ = some (.slice Ag ng cg))
    (hm : w.ownsMap Try.prog 24 (plainElem (H := Unit) Try.prog 9) bm nn D) :
    Calls Try.prog 50 #[.pointer (some ⟨b, 0, none⟩)] w fun e w' => e = .returned (.agg #[.int .u32 r, .int .u32 h, .int .u32 mr, .int .i64 (Maps.size D), .int .i64 ni, .int .i64 ng]) ∧ Below w.heap.size w w' := by
  have hbl := block_lt_of_cell c0
  have KM : Hid (∀ w', Below w.heap.size w w' → VM b bm ni ci ng cg A Ag r h mr (Maps.size D : Nat) w.heap.size w w') := fun w' hb =>
    ⟨(hb.cell (p := ⟨b, 0, none⟩) hbl).trans c0, (hb.cell (p := ⟨b, 1, none⟩) hbl).trans c1, (hb.cell (p := ⟨b, 2, none⟩) hbl).trans c2, (hb.cell (p := ⟨b, 4, none⟩) hbl).trans c4, (hb.cell (p := ⟨b, 5, none⟩) hbl).trans c5, (hb.cell (p := ⟨b, 6, none⟩) hbl).trans c6,
      fun ty => (hm.kept (grown_of_below hb) (by simp)).len Try.underlying99 ty, hb⟩
  clear c0 c1 c2 c4 c5 c6 hm
  generalize ((Maps.size D : Nat) : Int) = q at KM ⊢
  go_enter Try.func50, Try.ntmps50
  go_wp2_with fail
  have hba := Lib.hid ((Below.refl w.heap.size w).alloc (Nat.le_refl _) (.cells #[.int .u32 0, .int .u32 0, .int .u32 0, .int .i64 0, .int .i64 0, .int .i64 0] 88))
  have hg := Lib.hid (heap_alloc_new w (.cells #[.int .u32 0, .int .u32 0, .int .u32 0, .int .i64 0, .int .i64 0, .int .i64 0] 88))
  generalize w.alloc (.cells #[.int .u32 0, .int .u32 0, .int .u32 0, .int .i64 0, .int .i64 0, .int .i64 0] 88) = W at hba hg ⊢
  generalize hgw : w.heap.size = g at hg ⊢
  have HGW := Lib.hid hgw
  clear hgw
  obtain ⟨fr, hfr⟩ : ∃ fr : (Nat → Value) → Act, fr = fun val => { tmps := #[.pointer (some ⟨b, 0, none⟩), undef, .pointer (some ⟨g, 0, none⟩), val 0, val 1, val 2, val 3, val 4, val 5, val 6, val 7, val 8, val 9, val 10, val 11, val 12, val 13, val 14, val 15, val 16, val 17, val 18, val 19, val 20, val 21, val 22, val 23, val 24, val 25, val 26, val 27], defers := [] } := ⟨_, rfl⟩
  have HFR := Lib.hid hfr
  clear hfr
  refine AnyInv.wp_region_inv (by kernel_rfl) (fun l a w' => ∃ val, VI b bm ni ci ng cg A Ag r h mr q w.heap.size g w fr l a w' val) ?_ ?_ ?_ ?_
  · refine ⟨fun _ => undef, ?_, by simp, KM.out _ hba.out.drew, ?_, ?_, ?_⟩
    · rw [HFR.out]
    · exact fun _ => hg.out
    · intro hi; exfalso; exact none_run 29 28 hi
    · intro i hi; exfalso; exact none_run 29 i hi
  · kernel_rfl
  · refine AnyInv.size_eq (k := 29) rfl ?_
    refine AnyInv.below_succ (AnyInv.below_succ (AnyInv.below_succ (AnyInv.below_succ (AnyInv.below_succ (AnyInv.below_succ (AnyInv.below_succ (AnyInv.below_succ (AnyInv.below_succ (AnyInv.below_succ (AnyInv.below_succ (AnyInv.below_succ (AnyInv.below_succ (AnyInv.below_succ (AnyInv.below_succ (AnyInv.below_succ (AnyInv.below_succ (AnyInv.below_succ (AnyInv.below_succ (AnyInv.below_succ (AnyInv.below_succ (AnyInv.below_succ (AnyInv.below_succ (AnyInv.below_succ (AnyInv.below_succ (AnyInv.below_succ (AnyInv.below_succ (AnyInv.below_succ (AnyInv.below_succ (AnyInv.below_zero) ?_) ?_) ?_) ?_) ?_) ?_) ?_) ?_) ?_) ?_) ?_) ?_) ?_) ?_) ?_) ?_) ?_) ?_) ?_) ?_) ?_) ?_) ?_) ?_) ?_) ?_) ?_) ?_) ?_
    · rintro l a w' ⟨val, hI⟩ hl hd
      have ev : (fr val).tmps[0]?.getD undef = .pointer (some ⟨b, 0, none⟩) := by rw [HFR.out]; rfl
      have ha := hI.act
      subst ha
      refine AnyInv.wpOp_run (v := .pointer (some ⟨b, 0, none⟩)) (w' := w') rfl rfl ?_ (hI.step 0 _ (by decide) (by rw [HFR.out]; rfl) rfl)
      simp [execOp, go_sem, ev]
    · rintro l a w' ⟨val, hI⟩ hl hd
      have d0 : l.getD 0 false = true := AnyInv.dep_of rfl hd 0 rfl rfl
      have r0 : val 0 = .pointer (some ⟨b, 0, none⟩) := hI.done 0 d0
      have ev0 : (fr val).tmps[3]?.getD undef = .pointer (some ⟨b, 0, none⟩) := by rw [HFR.out]; exact r0
      have ha := hI.act
      subst ha
      refine AnyInv.wpOp_run (v := .pointer (some ⟨b, 0, none⟩)) (w' := w') rfl rfl ?_ (hI.step 1 _ (by decide) (by rw [HFR.out]; rfl) rfl)
      simp [execOp, go_sem, ev0]
    · rintro l a w' ⟨val, hI⟩ hl hd
      have d1 : l.getD 1 false = true := AnyInv.dep_of rfl hd 0 rfl rfl
      have r1 : val 1 = .pointer (some ⟨b, 0, none⟩) := hI.done 1 d1
      have ev1 : (fr val).tmps[4]?.getD undef = .pointer (some ⟨b, 0, none⟩) := by rw [HFR.out]; exact r1
      have ha := hI.act
      subst ha
      refine AnyInv.wpOp_run (v := .pointer (some ⟨b, 0, none⟩)) (w' := w') rfl rfl ?_ (hI.step 2 _ (by decide) (by rw [HFR.out]; rfl) rfl)
      simp [execOp, go_sem, ev1]
    · rintro l a w' ⟨val, hI⟩ hl hd
      have d2 : l.getD 2 false = true := AnyInv.dep_of rfl hd 0 rfl rfl
      have r2 : val 2 = .pointer (some ⟨b, 0, none⟩) := hI.done 2 d2
      have ev2 : (fr val).tmps[5]?.getD undef = .pointer (some ⟨b, 0, none⟩) := by rw [HFR.out]; exact r2
      have cc := hI.mem.c0
      have ha := hI.act
      subst ha
      refine AnyInv.wpOp_run (v := .int .u32 r) (w' := w') rfl rfl ?_ (hI.step 3 _ (by decide) (by rw [HFR.out]; rfl) rfl)
      simp [execOp, go_sem, ev2, cc]
    · rintro l a w' ⟨val, hI⟩ hl hd
      have ev : (fr val).tmps[0]?.getD undef = .pointer (some ⟨b, 0, none⟩) := by rw [HFR.out]; rfl
      have ha := hI.act
      subst ha
      refine AnyInv.wpOp_run (v := .pointer (some ⟨b, 0, none⟩)) (w' := w') rfl rfl ?_ (hI.step 4 _ (by decide) (by rw [HFR.out]; rfl) rfl)
      simp [execOp, go_sem, ev]
    · rintro l a w' ⟨val, hI⟩ hl hd
      have d4 : l.getD 4 false = true := AnyInv.dep_of rfl hd 0 rfl rfl
      have r4 : val 4 = .pointer (some ⟨b, 0, none⟩) := hI.done 4 d4
      have ev4 : (fr val).tmps[7]?.getD undef = .pointer (some ⟨b, 0, none⟩) := by rw [HFR.out]; exact r4
      have ha := hI.act
      subst ha
      refine AnyInv.wpOp_run (v := .pointer (some ⟨b, 0, none⟩)) (w' := w') rfl rfl ?_ (hI.step 5 _ (by decide) (by rw [HFR.out]; rfl) rfl)
      simp [execOp, go_sem, ev4]
    · rintro l a w' ⟨val, hI⟩ hl hd
      have d5 : l.getD 5 false = true := AnyInv.dep_of rfl hd 0 rfl rfl
      have r5 : val 5 = .pointer (some ⟨b, 0, none⟩) := hI.done 5 d5
      have ev5 : (fr val).tmps[8]?.getD undef = .pointer (some ⟨b, 0, none⟩) := by rw [HFR.out]; exact r5
      have ha := hI.act
      subst ha
      refine AnyInv.wpOp_run (v := .pointer (some ⟨b, 1, none⟩)) (w' := w') rfl rfl ?_ (hI.step 6 _ (by decide) (by rw [HFR.out]; rfl) rfl)
      simp [execOp, go_sem, ev5]
    · rintro l a w' ⟨val, hI⟩ hl hd
      have d6 : l.getD 6 false = true := AnyInv.dep_of rfl hd 0 rfl rfl
      have r6 : val 6 = .pointer (some ⟨b, 1, none⟩) := hI.done 6 d6
      have ev6 : (fr val).tmps[9]?.getD undef = .pointer (some ⟨b, 1, none⟩) := by rw [HFR.out]; exact r6
      have cc := hI.mem.c1
      have ha := hI.act
      subst ha
      refine AnyInv.wpOp_run (v := .int .u32 h) (w' := w') rfl rfl ?_ (hI.step 7 _ (by decide) (by rw [HFR.out]; rfl) rfl)
      simp [execOp, go_sem, ev6, cc]
    · rintro l a w' ⟨val, hI⟩ hl hd
      have ev : (fr val).tmps[0]?.getD undef = .pointer (some ⟨b, 0, none⟩) := by rw [HFR.out]; rfl
      have ha := hI.act
      subst ha
      refine AnyInv.wpOp_run (v := .pointer (some ⟨b, 0, none⟩)) (w' := w') rfl rfl ?_ (hI.step 8 _ (by decide) (by rw [HFR.out]; rfl) rfl)
      simp [execOp, go_sem, ev]
    · rintro l a w' ⟨val, hI⟩ hl hd
      have d8 : l.getD 8 false = true := AnyInv.dep_of rfl hd 0 rfl rfl
      have r8 : val 8 = .pointer (some ⟨b, 0, none⟩) := hI.done 8 d8
      have ev8 : (fr val).tmps[11]?.getD undef = .pointer (some ⟨b, 0, none⟩) := by rw [HFR.out]; exact r8
      have ha := hI.act
      subst ha
      refine AnyInv.wpOp_run (v := .pointer (some ⟨b, 0, none⟩)) (w' := w') rfl rfl ?_ (hI.step 9 _ (by decide) (by rw [HFR.out]; rfl) rfl)
      simp [execOp, go_sem, ev8]
    · rintro l a w' ⟨val, hI⟩ hl hd
      have d9 : l.getD 9 false = true := AnyInv.dep_of rfl hd 0 rfl rfl
      have r9 : val 9 = .pointer (some ⟨b, 0, none⟩) := hI.done 9 d9
      have ev9 : (fr val).tmps[12]?.getD undef = .pointer (some ⟨b, 0, none⟩) := by rw [HFR.out]; exact r9
      have ha := hI.act
      subst ha
      refine AnyInv.wpOp_run (v := .pointer (some ⟨b, 2, none⟩)) (w' := w') rfl rfl ?_ (hI.step 10 _ (by decide) (by rw [HFR.out]; rfl) rfl)
      simp [execOp, go_sem, ev9]
    · rintro l a w' ⟨val, hI⟩ hl hd
      have d10 : l.getD 10 false = true := AnyInv.dep_of rfl hd 0 rfl rfl
      have r10 : val 10 = .pointer (some ⟨b, 2, none⟩) := hI.done 10 d10
      have ev10 : (fr val).tmps[13]?.getD undef = .pointer (some ⟨b, 2, none⟩) := by rw [HFR.out]; exact r10
      have cc := hI.mem.c2
      have ha := hI.act
      subst ha
      refine AnyInv.wpOp_run (v := .int .u32 mr) (w' := w') rfl rfl ?_ (hI.step 11 _ (by decide) (by rw [HFR.out]; rfl) rfl)
      simp [execOp, go_sem, ev10, cc]
    · rintro l a w' ⟨val, hI⟩ hl hd
      have ev : (fr val).tmps[0]?.getD undef = .pointer (some ⟨b, 0, none⟩) := by rw [HFR.out]; rfl
      have ha := hI.act
      subst ha
      refine AnyInv.wpOp_run (v := .pointer (some ⟨b, 0, none⟩)) (w' := w') rfl rfl ?_ (hI.step 12 _ (by decide) (by rw [HFR.out]; rfl) rfl)
      simp [execOp, go_sem, ev]
    · rintro l a w' ⟨val, hI⟩ hl hd
      have d12 : l.getD 12 false = true := AnyInv.dep_of rfl hd 0 rfl rfl
      have r12 : val 12 = .pointer (some ⟨b, 0, none⟩) := hI.done 12 d12
      have ev12 : (fr val).tmps[15]?.getD undef = .pointer (some ⟨b, 0, none⟩) := by rw [HFR.out]; exact r12
      have ha := hI.act
      subst ha
      refine AnyInv.wpOp_run (v := .pointer (some ⟨b, 0, none⟩)) (w' := w') rfl rfl ?_ (hI.step 13 _ (by decide) (by rw [HFR.out]; rfl) rfl)
      simp [execOp, go_sem, ev12]
    · rintro l a w' ⟨val, hI⟩ hl hd
      have d13 : l.getD 13 false = true := AnyInv.dep_of rfl hd 0 rfl rfl
      have r13 : val 13 = .pointer (some ⟨b, 0, none⟩) := hI.done 13 d13
      have ev13 : (fr val).tmps[16]?.getD undef = .pointer (some ⟨b, 0, none⟩) := by rw [HFR.out]; exact r13
      have ha := hI.act
      subst ha
      refine AnyInv.wpOp_run (v := .pointer (some ⟨b, 4, none⟩)) (w' := w') rfl rfl ?_ (hI.step 14 _ (by decide) (by rw [HFR.out]; rfl) rfl)
      simp [execOp, go_sem, ev13]
    · rintro l a w' ⟨val, hI⟩ hl hd
      have d14 : l.getD 14 false = true := AnyInv.dep_of rfl hd 0 rfl rfl
      have r14 : val 14 = .pointer (some ⟨b, 4, none⟩) := hI.done 14 d14
      have ev14 : (fr val).tmps[17]?.getD undef = .pointer (some ⟨b, 4, none⟩) := by rw [HFR.out]; exact r14
      have cc := hI.mem.c4
      have ha := hI.act
      subst ha
      refine AnyInv.wpOp_run (v := .map (some bm)) (w' := w') rfl rfl ?_ (hI.step 15 _ (by decide) (by rw [HFR.out]; rfl) rfl)
      simp [execOp, go_sem, ev14, cc]
    · rintro l a w' ⟨val, hI⟩ hl hd
      have d15 : l.getD 15 false = true := AnyInv.dep_of rfl hd 0 rfl rfl
      have r15 : val 15 = .map (some bm) := hI.done 15 d15
      have ev15 : (fr val).tmps[18]?.getD undef = .map (some bm) := by rw [HFR.out]; exact r15
      have cc := hI.mem.len
      have ha := hI.act
      subst ha
      refine AnyInv.wpOp_run (v := .int .i64 q) (w' := w') rfl rfl ?_ (hI.step 16 _ (by decide) (by rw [HFR.out]; rfl) rfl)
      simp [execOp, go_sem, ev15, cc]
    · rintro l a w' ⟨val, hI⟩ hl hd
      have ev : (fr val).tmps[0]?.getD undef = .pointer (some ⟨b, 0, none⟩) := by rw [HFR.out]; rfl
      have ha := hI.act
      subst ha
      refine AnyInv.wpOp_run (v := .pointer (some ⟨b, 0, none⟩)) (w' := w') rfl rfl ?_ (hI.step 17 _ (by decide) (by rw [HFR.out]; rfl) rfl)
      simp [execOp, go_sem, ev]
    · rintro l a w' ⟨val, hI⟩ hl hd
      have d17 : l.getD 17 false = true := AnyInv.dep_of rfl hd 0 rfl rfl
      have r17 : val 17 = .pointer (some ⟨b, 0, none⟩) := hI.done 17 d17
      have ev17 : (fr val).tmps[20]?.getD undef = .pointer (some ⟨b, 0, none⟩) := by rw [HFR.out]; exact r17
      have ha := hI.act
      subst ha
      refine AnyInv.wpOp_run (v := .pointer (some ⟨b, 0, none⟩)) (w' := w') rfl rfl ?_ (hI.step 18 _ (by decide) (by rw [HFR.out]; rfl) rfl)
      simp [execOp, go_sem, ev17]
    · rintro l a w' ⟨val, hI⟩ hl hd
      have d18 : l.getD 18 false = true := AnyInv.dep_of rfl hd 0 rfl rfl
      have r18 : val 18 = .pointer (some ⟨b, 0, none⟩) := hI.done 18 d18
      have ev18 : (fr val).tmps[21]?.getD undef = .pointer (some ⟨b, 0, none⟩) := by rw [HFR.out]; exact r18
      have ha := hI.act
      subst ha
      refine AnyInv.wpOp_run (v := .pointer (some ⟨b, 5, none⟩)) (w' := w') rfl rfl ?_ (hI.step 19 _ (by decide) (by rw [HFR.out]; rfl) rfl)
      simp [execOp, go_sem, ev18]
    · rintro l a w' ⟨val, hI⟩ hl hd
      have d19 : l.getD 19 false = true := AnyInv.dep_of rfl hd 0 rfl rfl
      have r19 : val 19 = .pointer (some ⟨b, 5, none⟩) := hI.done 19 d19
      have ev19 : (fr val).tmps[22]?.getD undef = .pointer (some ⟨b, 5, none⟩) := by rw [HFR.out]; exact r19
      have cc := hI.mem.c5
      have ha := hI.act
      subst ha
      refine AnyInv.wpOp_run (v := .slice A ni ci) (w' := w') rfl rfl ?_ (hI.step 20 _ (by decide) (by rw [HFR.out]; rfl) rfl)
      simp [execOp, go_sem, ev19, cc]
    · rintro l a w' ⟨val, hI⟩ hl hd
      have d20 : l.getD 20 false = true := AnyInv.dep_of rfl hd 0 rfl rfl
      have r20 : val 20 = .slice A ni ci := hI.done 20 d20
      have ev20 : (fr val).tmps[23]?.getD undef = .slice A ni ci := by rw [HFR.out]; exact r20
      have ha := hI.act
      subst ha
      refine AnyInv.wpOp_run (v := .int .i64 ni) (w' := w') rfl rfl ?_ (hI.step 21 _ (by decide) (by rw [HFR.out]; rfl) rfl)
      simp [execOp, go_sem, ev20]
    · rintro l a w' ⟨val, hI⟩ hl hd
      have ev : (fr val).tmps[0]?.getD undef = .pointer (some ⟨b, 0, none⟩) := by rw [HFR.out]; rfl
      have ha := hI.act
      subst ha
      refine AnyInv.wpOp_run (v := .pointer (some ⟨b, 0, none⟩)) (w' := w') rfl rfl ?_ (hI.step 22 _ (by decide) (by rw [HFR.out]; rfl) rfl)
      simp [execOp, go_sem, ev]
    · rintro l a w' ⟨val, hI⟩ hl hd
      have d22 : l.getD 22 false = true := AnyInv.dep_of rfl hd 0 rfl rfl
      have r22 : val 22 = .pointer (some ⟨b, 0, none⟩) := hI.done 22 d22
      have ev22 : (fr val).tmps[25]?.getD undef = .pointer (some ⟨b, 0, none⟩) := by rw [HFR.out]; exact r22
      have ha := hI.act
      subst ha
      refine AnyInv.wpOp_run (v := .pointer (some ⟨b, 0, none⟩)) (w' := w') rfl rfl ?_ (hI.step 23 _ (by decide) (by rw [HFR.out]; rfl) rfl)
      simp [execOp, go_sem, ev22]
    · rintro l a w' ⟨val, hI⟩ hl hd
      have d23 : l.getD 23 false = true := AnyInv.dep_of rfl hd 0 rfl rfl
      have r23 : val 23 = .pointer (some ⟨b, 0, none⟩) := hI.done 23 d23
      have ev23 : (fr val).tmps[26]?.getD undef = .pointer (some ⟨b, 0, none⟩) := by rw [HFR.out]; exact r23
      have ha := hI.act
      subst ha
      refine AnyInv.wpOp_run (v := .pointer (some ⟨b, 6, none⟩)) (w' := w') rfl rfl ?_ (hI.step 24 _ (by decide) (by rw [HFR.out]; rfl) rfl)
      simp [execOp, go_sem, ev23]
    · rintro l a w' ⟨val, hI⟩ hl hd
      have d24 : l.getD 24 false = true := AnyInv.dep_of rfl hd 0 rfl rfl
      have r24 : val 24 = .pointer (some ⟨b, 6, none⟩) := hI.done 24 d24
      have ev24 : (fr val).tmps[27]?.getD undef = .pointer (some ⟨b, 6, none⟩) := by rw [HFR.out]; exact r24
      have cc := hI.mem.c6
      have ha := hI.act
      subst ha
      refine AnyInv.wpOp_run (v := .slice Ag ng cg) (w' := w') rfl rfl ?_ (hI.step 25 _ (by decide) (by rw [HFR.out]; rfl) rfl)
      simp [execOp, go_sem, ev24, cc]
    · rintro l a w' ⟨val, hI⟩ hl hd
      have d25 : l.getD 25 false = true := AnyInv.dep_of rfl hd 0 rfl rfl
      have r25 : val 25 = .slice Ag ng cg := hI.done 25 d25
      have ev25 : (fr val).tmps[28]?.getD undef = .slice Ag ng cg := by rw [HFR.out]; exact r25
      have ha := hI.act
      subst ha
      refine AnyInv.wpOp_run (v := .int .i64 ng) (w' := w') rfl rfl ?_ (hI.step 26 _ (by decide) (by rw [HFR.out]; rfl) rfl)
      simp [execOp, go_sem, ev25]
    · rintro l a w' ⟨val, hI⟩ hl hd
      have d3 : l.getD 3 false = true := AnyInv.dep_of rfl hd 0 rfl rfl
      have r3 : val 3 = .int .u32 r := hI.done 3 d3
      have ev3 : (fr val).tmps[6]?.getD undef = .int .u32 r := by rw [HFR.out]; exact r3
      have d7 : l.getD 7 false = true := AnyInv.dep_of rfl hd 1 rfl rfl
      have r7 : val 7 = .int .u32 h := hI.done 7 d7
      have ev7 : (fr val).tmps[10]?.getD undef = .int .u32 h := by rw [HFR.out]; exact r7
      have d11 : l.getD 11 false = true := AnyInv.dep_of rfl hd 2 rfl rfl
      have r11 : val 11 = .int .u32 mr := hI.done 11 d11
      have ev11 : (fr val).tmps[14]?.getD undef = .int .u32 mr := by rw [HFR.out]; exact r11
      have d16 : l.getD 16 false = true := AnyInv.dep_of rfl hd 3 rfl rfl
      have r16 : val 16 = .int .i64 q := hI.done 16 d16
      have ev16 : (fr val).tmps[19]?.getD undef = .int .i64 q := by rw [HFR.out]; exact r16
      have d21 : l.getD 21 false = true := AnyInv.dep_of rfl hd 4 rfl rfl
      have r21 : val 21 = .int .i64 ni := hI.done 21 d21
      have ev21 : (fr val).tmps[24]?.getD undef = .int .i64 ni := by rw [HFR.out]; exact r21
      have d26 : l.getD 26 false = true := AnyInv.dep_of rfl hd 5 rfl rfl
      have r26 : val 26 = .int .i64 ng := hI.done 26 d26
      have ev26 : (fr val).tmps[29]?.getD undef = .int .i64 ng := by rw [HFR.out]; exact r26
      have ha := hI.act
      subst ha
      refine AnyInv.wpOp_run (v := .agg #[.int .u32 r, .int .u32 h, .int .u32 mr, .int .i64 q, .int .i64 ni, .int .i64 ng]) (w' := w') rfl rfl ?_ (hI.step 27 _ (by decide) (by rw [HFR.out]; rfl) rfl)
      simp [execOp, go_sem, ev3, ev7, ev11, ev16, ev21, ev26]
    · rintro l a w' ⟨val, hI⟩ hl hd
      have d27 : l.getD 27 false = true := AnyInv.dep_of rfl hd 0 rfl rfl
      have r27 : val 27 = .agg #[.int .u32 r, .int .u32 h, .int .u32 mr, .int .i64 q, .int .i64 ni, .int .i64 ng] := hI.done 27 d27
      have ev27 : (fr val).eval (.tmp 30) = .agg #[.int .u32 r, .int .u32 h, .int .u32 mr, .int .i64 q, .int .i64 ni, .int .i64 ng] := by rw [HFR.out]; exact r27
      have ev2 : (fr val).eval (.tmp 2) = .pointer (some ⟨g, 0, none⟩) := by rw [HFR.out]; rfl
      have h28 := not_run (by rw [hI.size]; decide) hl
      have hrow := hI.row0 h28
      have ha := hI.act
      subst ha
      refine wpOp_wp rfl rfl (wp_store_row 88 (.tmp 2) (.tmp 30) rfl g _ ev2 ev27 88 _ hrow size88 rfl (by simp [Value.oneCell']) ?_)
      refine hI.store rfl (KM.out _ (hI.mem.bel.trans ⟨rfl, rfl, rfl, by simp, fun k hk => setRow_other _ _ _ _ (by have := HGW.out; omega)⟩)) (setRow_heap _ _ _ _ _ _ hrow)
  · rintro l a w' ⟨val, hI⟩ hall
    have h28 : l.getD 28 false = true := by
      have h1 := hall 28 (by decide)
      rw [Array.getD_eq_getD_getElem?, Array.getElem?_eq_getElem (by rw [hI.size]; decide)] at h1 ⊢
      exact h1
    have hrow := hI.row1 h28
    have ha := hI.act
    rw [HFR.out] at ha
    subst ha
    have HM := Lib.hid hI.mem.bel
    have HROW := Lib.hid hrow
    clear hI hall h28 hrow
    go_wp2
    refine bodyPost_ret (v := .agg #[.int .u32 r, .int .u32 h, .int .u32 mr, .int .i64 q, .int .i64 ni, .int .i64 ng]) (results_cell_row (fn := Try.f50) (p := 2) (ty := 88) rfl _ _ g 88 _ (0, 0) _ rfl HROW.out Try.underlying88 rfl size88) rfl ⟨rfl, HM.out⟩
end Go.Proofs.Ytallhdlnhegjiaa.Recv
