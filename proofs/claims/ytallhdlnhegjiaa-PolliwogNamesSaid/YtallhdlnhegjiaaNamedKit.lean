/- What the closure of Named computes: the numbers of a run that were not seen are laid on the list, each is marked as seen. Conditions: none of the run was seen; few numbers. -/
import Derived.Test.YtallhdlnhegjiaaGapsList
import Derived.Maps.OwnOps
import Derived.Maps.OwnSet
import Derived.Deep.AppendLies
import Derived.Lib.Builder
import Derived.OneCell
namespace Go.Proofs.Ytallhdlnhegjiaa.Gaps
open Go.ChangeShapes Go.WideShapes Go.ChangeAt Go.RowKit Go.Lib Go.Maps Spans
set_option linter.unusedVariables false

theorem lawG : Keyed Try.prog 24 := int_keyed Try.underlying24
theorem zero3 (w : World) : (zeroValue 3).run Try.prog w = .ok (.int .i64 0) w := Try.zeroValue3 w
def run_ (from_ : Int) (n : Nat) : List Int := (List.range n).map fun (i : Nat) => (from_ + (i : Int)) % 16777216
theorem run_succ (f : Int) (n : Nat) : run_ f (n + 1) = run_ f n ++ [(f + (n : Int)) % 16777216] := by unfold run_; rw [List.range_succ, List.map_append]; rfl
theorem mem_run {f : Int} {n : Nat} {x : Int} : x ∈ run_ f n ↔ ∃ i : Nat, i < n ∧ x = (f + (i : Int)) % 16777216 := by
  unfold run_
  rw [List.mem_map]
  constructor
  · rintro ⟨i, hi, rfl⟩
    exact ⟨i, List.mem_range.1 hi, rfl⟩
  · rintro ⟨i, hi, rfl⟩
    exact ⟨i, List.mem_range.2 hi, rfl⟩
/-- the state that the closure's two boxed variables hold -/
structure Seen (w : World) (B bo bs bm nn : Nat) (v : Value) (xs : List Int) (D : DataW Unit) : Prop where
  out : w.heap[bo]? = some (.cells #[v] 62 (0, 0))
  box : w.heap[bs]? = some (.cells #[.map (some bm)] 108 (0, 0))
  row : w.ownsRow B 24 1 v xs.length (encU xs)
  map : w.ownsMap Try.prog 24 (plainElem (H := Unit) Try.prog 3) bm nn D
  bo_ : B ≤ bo
  bs_ : B ≤ bs
  bm_ : B ≤ bm

theorem run_new {f : Int} {j : Nat} (hj : j ≤ 1000) : (f + (j : Int)) % 16777216 ∉ run_ f j := by
  intro h
  obtain ⟨i, hi, e⟩ := mem_run.1 h
  omega
theorem zero_of {D : DataW Unit} {k : Lit} {c : Int} (h : Maps.has D k = false) (hat : D.atKey k (.lit (.int .i64 0)) = .lit (.int .i64 c)) : c = 0 := by
  rw [atKey_of_not_has h] at hat
  injection hat with hat
  injection hat with _ hat
  exact hat.symm
theorem one_of {D : DataW Unit} {x c : Int} (hD : Maps.IsMap D) (hat : (D.put (.int .u32 x) (.lit (.int .i64 1))).atKey (.int .u32 x) (.lit (.int .i64 0)) = .lit (.int .i64 c)) : c = 1 := by
  rw [atKey_put_same hD (show WideAt.IsKeyLit (Lit.int .u32 x) from trivial)] at hat
  injection hat with hat
  injection hat with _ hat
  exact hat.symm
set_option maxHeartbeats 4000000 in
set_option maxRecDepth 20000 in
theorem closure_any (f : Int) (n B bo bs bm nn : Nat) (v : Value) (xs : List Int) (D : DataW Unit) (w : World) (h : Seen w B bo bs bm nn v xs D) (hn : n + xs.length ≤ 1000) (hnn : nn ≤ 1000) (hf : ∀ x ∈ run_ f n, Maps.has D (.int .u32 x) = false) :
    Calls Try.prog 69 #[.int .u32 f, .int .i64 n, .pointer (some ⟨bo, 0, none⟩), .pointer (some ⟨bs, 0, none⟩)] w fun e w' => e = .returned (.tuple #[]) ∧ ∃ v' D', Seen w' B bo bs bm (nn + n) v' (xs ++ run_ f n) D' ∧ (∀ x, Maps.has D' (.int .u32 x) = true ↔ Maps.has D (.int .u32 x) = true ∨ x ∈ run_ f n) ∧ Below B w w' := by
  obtain ⟨i0, hi, hz0, hz1, hz2⟩ := info24
  have H := Lib.hid h
  have HF := Lib.hid hf
  have hn' : (n : Int) + (xs.length : Int) ≤ 1000 := by omega
  have hnn' : (nn : Int) ≤ 1000 := by omega
  clear h hf hn hnn
  go_enter Try.func69, Try.ntmps69
  go_wp2_with fail
  go_loopw [6] (fun i wr => ∃ (j : Nat) (v' : Value) (D' : DataW Unit), j ≤ n ∧ i = .int .i64 j ∧ Seen wr B bo bs bm (nn + j) v' (xs ++ run_ f j) D' ∧ (∀ x, Maps.has D' (.int .u32 x) = true ↔ Maps.has D (.int .u32 x) = true ∨ x ∈ run_ f j) ∧ Below B w wr)
    (fun i _ => n - (intOf i).toNat)
  case atStart => exact ⟨0, v, D, by omega, rfl, by simpa [run_] using H.out, fun x => by simp [run_], Below.refl _ _⟩
  case round =>
    obtain ⟨j, v', D', hj, rfl, hS, hD, hb⟩ := hrel
    have HS := Lib.hid hS
    have HDD := Lib.hid hD
    have HB := Lib.hid hb
    have c0 : wr.cell? ⟨bo, 0, none⟩ = some v' := by rw [cell_of_row _ _ _ _ _ _ hS.out]; rfl
    have c1 : wr.cell? ⟨bs, 0, none⟩ = some (.map (some bm)) := by rw [cell_of_row _ _ _ _ _ _ hS.box]; rfl
    obtain ⟨A, c, rfl⟩ := Own.shape hS.row
    by_cases hlt : j < n
    · have hlen : ((xs ++ run_ f j).length : Int) = (xs.length : Int) + j := by rw [List.length_append]; unfold run_; simp
      have hx : Maps.has D' (.int .u32 ((f + (j : Int)) % 16777216)) = false := by
        cases e : Maps.has D' (.int .u32 ((f + (j : Int)) % 16777216)) with
        | false => rfl
        | true =>
          rcases (hD _).1 e with h | h
          · rw [HF.out _ (mem_run.2 ⟨j, hlt, rfl⟩)] at h; cases h
          · exact absurd h (run_new (by omega))
      have hx0 : 0 ≤ (f + (j : Int)) % 16777216 := by omega
      have hx1 : (f + (j : Int)) % 16777216 < 16777216 := by omega
      have HR := Lib.hid (run_succ f j)
      have hl6 : ((xs ++ run_ f j).length : Int) < 65536 := by omega
      have hl7 : ((xs ++ run_ f j).length : Int) ≤ 1000 := by omega
      generalize hq : xs ++ run_ f j = cur at HS hS hl6 hl7 hlen c0 ⊢
      have HQ := Lib.hid hq
      clear hq
      have HX := Lib.hid hx
      have hown := hS.map
      obtain ⟨es, clock, hmb, _⟩ := hS.map
      have hne1 : some bo ≠ some bm := fun e => by injection e with e; subst e; have := hS.out; rw [hmb] at this; cases this
      have hne2 : some bs ≠ some bm := fun e => by injection e with e; subst e; have := hS.box; rw [hmb] at this; cases this
      have HG := Lib.hid (fun (w1 : World) (hg : wr.grownBy w1 (some bm)) => (⟨hg.cell (a := ⟨bo, 0, none⟩) c0 hne1, hg.cell (a := ⟨bs, 0, none⟩) c1 hne2⟩ : w1.cell? ⟨bo, 0, none⟩ = some (.slice A cur.length c) ∧ w1.cell? ⟨bs, 0, none⟩ = some (.map (some bm))))
      have hne3 : (Value.slice A cur.length c).ownBlock ≠ some bm := by
        rcases hS.row.2 with ⟨e0, _⟩ | ⟨g, cap, curc, e0, _, hg, _⟩
        · rw [e0]; simp [Value.ownBlock]
        · rw [e0]
          intro e
          simp only [Value.ownBlock, Option.some.injEq] at e
          subst e
          rw [hmb] at hg
          cases hg
      have HRW := Lib.hid (fun (w1 : World) (hg : wr.grownBy w1 (some bm)) => (hS.row.kept hg (.inr hne3) : w1.ownsRow B 24 1 (.slice A cur.length c) cur.length (encU cur)))
      have HGB := Lib.hid (fun (w1 : World) (hg : wr.grownBy w1 (some bm)) => (⟨(hg.block bo (Array.getElem?_eq_some_iff.1 hS.out).1 hne1).trans hS.out, (hg.block bs (Array.getElem?_eq_some_iff.1 hS.box).1 hne2).trans hS.box⟩ : w1.heap[bo]? = some (.cells #[.slice A cur.length c] 62 (0, 0)) ∧ w1.heap[bs]? = some (.cells #[.map (some bm)] 108 (0, 0))))
      have HNE := Lib.hid (⟨hne1, hne3⟩ : some bo ≠ some bm ∧ (Value.slice A cur.length c).ownBlock ≠ some bm)
      clear hne1 hne2 hne3 hmb
      clear hlen hS hD hb hx
      go_wp2_with (first
        | (go_at_call 21; refine (Seq.add_any _ _ _).mono ?_; rintro e w' ⟨rfl, rfl⟩)
        | (at_lookup; refine wpList_lookup_own_int _ rfl _ _ 108 rfl 24 3 .i64 lawG Try.underlying108 Try.underlying3 (zero3 _) bm (nn + j) _ rfl hown _ (.int .u32 ((f + (j : Int)) % 16777216)) rfl (keyOf_int_mk Try.underlying24 (by simp [Lit.wf, IntKind.min, IntKind.max, IntKind.signed, IntKind.bits]; omega)) ?_; intro c hat hwc; obtain rfl := zero_of HX.out hat)
        | (at_mapUpdate; refine wpList_mapUpdate_own _ rfl _ _ _ 108 rfl 24 3 lawG Try.underlying108 _ bm (nn + j) _ rfl hown (by unfold maxLen; omega) _ _ (.int .u32 ((f + (j : Int)) % 16777216)) rfl rfl (keyOf_int_mk Try.underlying24 (by simp [Lit.wf, IntKind.min, IntKind.max, IntKind.signed, IntKind.bits]; omega)) _ [] (plainElem_int Try.underlying3 (by decide)) ?_; intro w1 hown1 hgrow1; obtain ⟨k0, k1⟩ := HG.out _ hgrow1; have HW1 := Lib.hid hgrow1; have HR1 := Lib.hid (HRW.out _ hgrow1); have HB1 := Lib.hid (HGB.out _ hgrow1); have f1 := frozen_of_row _ bo 0 _ _ (HGB.out _ hgrow1).1; clear hgrow1)
        | (at_lookup; refine wpList_lookup_own_int _ rfl _ _ 108 rfl 24 3 .i64 lawG Try.underlying108 Try.underlying3 (zero3 _) bm (nn + j + 1) _ rfl hown1 _ (.int .u32 ((f + (j : Int)) % 16777216)) rfl (keyOf_int_mk Try.underlying24 (by simp [Lit.wf, IntKind.min, IntKind.max, IntKind.signed, IntKind.bits]; omega)) ?_; intro c2 hat2 hwc2; obtain rfl := one_of hown.isMap hat2)
        | (at_builtin; refine wpList_append_lies _ rfl _ _ 62 rfl B 24 i0 (.int .u32 0) 1 4 Try.underlying62 hi hz0 hz1 hz2 rfl (by decide) _ _ _ rfl (HR1.out.alloc _) ⟨w1.heap.size, 0, none⟩ 1 1 [.int .u32 ((f + (j : Int)) % 16777216)] rfl rfl ?d1 ?d2 ?d3 ?d4 ?d5 ?d6 _ rfl ?_)
        | fail)
      case d1 => exact Own.one_cell _ _ rfl
      case d2 => intro u hu; simp at hu; rcases hu with rfl; rfl
      case d3 => decide
      case d4 => unfold maxLen; omega
      case d5 => omega
      case d6 => have := HW1.out.size; have := HS.out.bo_; have := (Array.getElem?_eq_some_iff.1 HB1.out.1).1; simp; omega
      intro g7 c7 w3 hown3 hgrow3 hat3 hlt3
      have q1 := Go.Lib.ownBlock_ne HR1.out HB1.out.1 (by decide)
      have q2 := Go.Lib.ownBlock_ne HR1.out HB1.out.2 (by decide)
      have hl1 := (Array.getElem?_eq_some_iff.1 HB1.out.1).1
      have hl2 := (Array.getElem?_eq_some_iff.1 HB1.out.2).1
      have b1 := (hgrow3.block bo (by simp; omega) (fun e => q1 e.symm)).trans ((Below.heap_alloc w1 _ _ hl1).trans HB1.out.1)
      have b2 := (hgrow3.block bs (by simp; omega) (fun e => q2 e.symm)).trans ((Below.heap_alloc w1 _ _ hl2).trans HB1.out.2)
      have f3 := frozen_of_row _ bo 0 _ _ b1
      have e3 : w3.cell? ⟨bo, 0, none⟩ = some (.slice A cur.length c) := by rw [cell_of_row _ _ _ _ _ _ b1]; rfl
      have HB3 := Lib.hid (show w3.heap[bo]? = some (.cells #[.slice A cur.length c] 62 (0, 0)) ∧ w3.heap[bs]? = some (.cells #[.map (some bm)] 108 (0, 0)) from ⟨b1, b2⟩)
      have HO3 := Lib.hid hown3
      have HG3 := Lib.hid hgrow3
      clear b1 b2 hown3 hgrow3 hat3 q1 q2
      go_wp2
      go_roundw
      case rel =>
        have hq2 : xs ++ run_ f (j + 1) = cur ++ [(f + (j : Int)) % 16777216] := by rw [HR.out, ← List.append_assoc, HQ.out]
        have hB1 : B ≤ wr.heap.size := Nat.le_trans HS.out.bo_ (Nat.le_of_lt (Array.getElem?_eq_some_iff.1 HS.out.out).1)
        have hw1 := HW1.out.size
        have hbs : bs ≠ bo := fun e => by
          have h1 := HB3.out.1
          rw [← e, HB3.out.2] at h1
          simp at h1
        have hbB := HS.out.bo_
        refine ⟨j + 1, .slice (some ⟨g7, 0, none⟩) (cur.length + 1) c7, D'.put (.int .u32 ((f + (j : Int)) % 16777216)) (.lit (.int .i64 1)), by omega, by go_num, ⟨?_, (heap_setCell_other _ _ _ _ hbs).trans HB3.out.2, ?_, ?_, HS.out.bo_, HS.out.bs_, HS.out.bm_⟩, ?_, ?_⟩
        · have := heap_setCell_same w3 bo 0 _ 62 (.slice (some ⟨g7, 0, none⟩) (cur.length + 1) c7) HB3.out.1
          simpa using this
        · rw [hq2]
          have := ownsRow_setCell_other HO3.out (a := ⟨bo, 0, none⟩) (Go.Lib.ownBlock_ne HO3.out HB3.out.1 (by decide)) (.slice (some ⟨g7, 0, none⟩) (cur.length + 1) c7)
          rw [List.length_append]
          unfold encU at this ⊢
          rw [List.map_append]
          exact this
        · exact ((hown1.alloc _).kept HG3.out (fun e => HNE.out.2 e.symm)).setCell (fun e => HNE.out.1 (by rw [e])) _
        · intro y
          rw [HR.out, List.mem_append, List.mem_singleton]
          by_cases e : y = (f + (j : Int)) % 16777216
          · subst e
            rw [has_put_same hown.isMap (show WideAt.IsKeyLit (Lit.int .u32 _) from trivial)]
            simp
          · rw [has_put_other (fun h => e (by injection h)), HDD.out y]
            simp [e]
        · exact (((HB.out.grown HW1.out hB1 (fun k hk => by cases hk; exact HS.out.bm_)).alloc (by omega) _).grown HG3.out (by simp; omega) (fun k hk => (HR1.out.lt k hk).1)).trans ⟨rfl, rfl, rfl, by simp [World.setCell], fun k hk => heap_setCell_other _ _ _ _ (by show k ≠ bo; omega)⟩
      case measure => simp [intOf]; omega
    · obtain rfl : j = n := by omega
      have hS2 := HS.out
      have hD2 := HDD.out
      clear c1 hS hD
      go_wp2
      go_end0
      exact ⟨rfl, _, D', hS2, hD2, HB.out⟩
end Go.Proofs.Ytallhdlnhegjiaa.Gaps
