/- What Clone of a set and Add compute. Conditions: the spans' ends lie within 2^40. -/
import Derived.Test.YtallhdlnhegjiaaSpanOf
import Derived.Test.YtallhdlnhegjiaaAnyInv
import Derived.Lib.SliceRun
namespace Go.Proofs.Ytallhdlnhegjiaa.Spans
open Go.ChangeShapes Go.WideShapes Go.ChangeAt Go.RowKit Go.Lib
set_option linter.unusedVariables false

theorem wpOp_call {P : Program} {ops : Array Oper} {Q : Exit → Act → World → Prop} {i : Nat} {o : Oper} {K : Act → World → Prop} {a : Act} {w : World} {f : FuncId} {args : Array Value} {post : Ending → World → Prop} (ho : ops[i]? = some o) (hg : o.guard = none)
    (hr : (execOp a.eval o).run P w = .ok (.enter f args) w) (hc : Calls P f args w post) (h : ∀ e w', post e w' → ∃ v, e = .returned v ∧ K (a.put o.dst v) w') : wpOp P ops Q i K a w := by
  unfold wpOp
  rw [ho]
  simp only [Region.wanted, hg, if_true]
  left
  unfold Oper.wp
  rw [hr, Oper.upon_enter]
  refine hc.mono ?_
  intro e w' hp
  obtain ⟨v, rfl, hk⟩ := h e w' hp
  exact hk
theorem wpOp_wp {P : Program} {ops : Array Oper} {Q : Exit → Act → World → Prop} {i : Nat} {o : Oper} {K : Act → World → Prop} {a : Act} {w : World} (ho : ops[i]? = some o) (hg : o.guard = none) (h : o.wp P a w K Q) : wpOp P ops Q i K a w := by
  unfold wpOp
  rw [ho]
  simp only [Region.wanted, hg, if_true]
  left
  exact h
theorem getD_set (l : Array Bool) (i j : Nat) (hi : i < l.size) : (l.setIfInBounds i true).getD j false = if i = j then true else l.getD j false := by
  rw [Array.getD_eq_getD_getElem?, Array.getD_eq_getD_getElem?, Array.getElem?_setIfInBounds]
  split
  · rename_i h; subst h; simp
  · rfl
theorem own_sub {w w' : World} {base e size n : Nat} {v : Value} {xs : List Value} (h : w.ownsRow base e size v n xs) (hb : Below w.heap.size w w') : w'.ownsRow base e size v n xs := own_below h hb
def upd (val : Nat → Value) (i : Nat) (v : Value) : Nat → Value := fun j => if j = i then v else val j
theorem last_one {l : Array Bool} {i j k : Nat} (hs : i < l.size) (e : l.getD j false = true → l.getD k false = true) (hn : i = j → l.getD k false = true) (hz : (l.setIfInBounds i true).getD j false = true) : (l.setIfInBounds i true).getD k false = true := by
  rw [getD_set _ _ _ hs] at hz ⊢
  by_cases h : i = k
  · rw [if_pos h]
  · rw [if_neg h]
    by_cases h2 : i = j
    · exact hn h2
    · rw [if_neg h2] at hz
      exact e hz
theorem none_run (n i : Nat) (h : (Array.replicate n false).getD i false = true) : False := by
  rw [Array.getD_eq_getD_getElem?, Array.getElem?_replicate] at h
  split at h <;> cases h
theorem not_run {l : Array Bool} {i : Nat} (hs : i < l.size) (hl : l.getD i true = false) : l.getD i false = false := by
  rw [Array.getD_eq_getD_getElem?, Array.getElem?_eq_getElem hs] at hl ⊢
  exact hl

set_option maxRecDepth 20000 in
/-- a copy of a set, in new memory -/
theorem clone_any (v : Value) (s : List Sp) (B : Nat) (w : World) (h : w.ownsRow B 55 2 v s.length (flat s)) (hl : s.length ≤ 1099511627776) :
    Calls Try.prog 61 #[v] w fun e w' => ∃ v', e = .returned v' ∧ w'.ownsRow w.heap.size 55 2 v' s.length (flat s) ∧ Below w.heap.size w w' := by
  obtain ⟨i0, hi, hz0, hz1, hz2⟩ := info55
  have q56 : ∀ (w : World) (a : Option Addr) (n c n' c' : Nat), (binOp .eql 56 (.slice a n c) (.slice none n' c')).run Try.prog w = .ok (.bool a.isNone) w := fun w a n c n' c' => Lib.run_eql_slice_nil w _ _ a n c n' c' Try.underlying56
  by_cases hv : v = .slice none 0 0
  · subst hv
    have h0 : s = [] := by
      rcases h.2 with ⟨_, h0⟩ | ⟨g, cap, cur, h1, _⟩
      · exact List.eq_nil_of_length_eq_zero h0
      · cases h1
    subst h0
    go_enter Try.func61, Try.ntmps61
    go_wp2
    go_ret
    exact ⟨_, rfl, World.ownsRow_nil _ _ _ _, Below.refl _ _⟩
  · rcases h.2 with ⟨e0, _⟩ | ⟨g, cap, cur, rfl, hb, hg, hn, hm, hs, ht⟩
    · exact absurd e0 hv
    · have hlt := (Array.getElem?_eq_some_iff.1 hg).1
      have HC := Lib.hid h
      generalize hn0 : s.length = n at hl hn ⊢
      clear h ht
      go_enter Try.func61, Try.ntmps61
      go_wp2_with (at_builtin; refine wpList_append_own _ rfl _ _ 56 rfl w.heap.size 55 i0 (.agg #[.int .i64 0, .int .i64 0]) 2 16 Try.underlying56 hi hz0 hz1 hz2 rfl (by decide) _ _ _ rfl (World.ownsRow_made w #[] 0 (Nat.le_refl _) (Nat.zero_le _) (by simp)) ⟨g, 0, none⟩ n cap (flat s) rfl ?c1 ?c2 ?c3 ?c4 ?c5 ?c6 ?_)
      case c1 => rw [flat_length, hn0]
      case c2 =>
        intro j u hj
        have := HC.out.cells (g := g) rfl j u hj
        rw [← this]
        exact ((Below.refl w.heap.size w).alloc (Nat.le_refl _) _).cell (by unfold Addr.add; split <;> exact hlt)
      case c3 =>
        intro u hu
        unfold flat at hu
        rw [List.mem_flatMap] at hu
        obtain ⟨p, _, hu⟩ := hu
        simp [enc2] at hu
        rcases hu with rfl | rfl <;> rfl
      case c4 => unfold maxLen; omega
      case c5 => omega
      case c6 => simp
      intro v' w1 hown hgrow hnil
      go_wp2
      go_ret
      refine ⟨v', rfl, by simpa using hown, ?_⟩
      exact ((Below.refl _ w).alloc (Nat.le_refl _) _).grown hgrow (by simp) (by intro k hk; simp [Value.ownBlock] at hk; omega)

/-- what is right of the value of Add's i-th operation -/
def AX (B0 : Nat) (sv : Value) (s : List Sp) (x : Sp) (w : World) (v : Value) : Nat → Prop
  | 0 => v = sv
  | 1 => w.ownsRow B0 55 2 v s.length (flat s)
  | 2 => v = .agg #[.int .i64 x.1, .int .i64 x.2]
  | 3 => ∃ h, v = .slice (some ⟨h, 0, none⟩) 1 1 ∧ w.heap[h]? = some (.cells #[.int .i64 x.1, .int .i64 x.2] 55 (0, 0))
  | 4 => w.ownsRow B0 55 2 v (s ++ [x]).length (flat (s ++ [x]))
  | 5 => ∃ L : List Sp, w.ownsRow B0 55 2 v L.length (flat L) ∧ Norm L ∧ (∀ y, In y L ↔ In y (s ++ [x])) ∧ L.length ≤ (s ++ [x]).length
  | 6 => ∃ L : List Sp, w.ownsRow B0 55 2 v L.length (flat L) ∧ Norm L ∧ (∀ y, In y L ↔ In y (s ++ [x])) ∧ L.length ≤ (s ++ [x]).length
  | _ => False
theorem AX.ext {B0 : Nat} {sv : Value} {s : List Sp} {x : Sp} {w w' : World} {v : Value} (hb : Below w.heap.size w w') : ∀ i, AX B0 sv s x w v i → AX B0 sv s x w' v i
  | 0, h => h
  | 1, h => own_below h hb
  | 2, h => h
  | 3, ⟨k, h1, h2⟩ => ⟨k, h1, (hb.block k (Array.getElem?_eq_some_iff.1 h2).1).trans h2⟩
  | 4, h => own_below h hb
  | 5, ⟨L, h1, h2⟩ => ⟨L, own_below h1 hb, h2⟩
  | 6, ⟨L, h1, h2⟩ => ⟨L, own_below h1 hb, h2⟩
  | _ + 7, h => h.elim
structure AI (B0 : Nat) (sv : Value) (s : List Sp) (x : Sp) (w0 : World) (fr : (Nat → Value) → Act) (l : Array Bool) (a : Act) (w : World) (val : Nat → Value) : Prop where
  act : a = fr val
  size : l.size = 7
  mem : Below B0 w0 w
  base : B0 ≤ w.heap.size
  done : ∀ i, l.getD i false = true → (i < 4 → l.getD 4 false = false) → AX B0 sv s x w (val i) i
  ord : (l.getD 5 false = true → l.getD 4 false = true) ∧ (l.getD 6 false = true → l.getD 5 false = true) ∧ (l.getD 4 false = true → l.getD 1 false = true) ∧ (l.getD 4 false = true → l.getD 3 false = true)
theorem AI.step {B0 : Nat} {sv : Value} {s : List Sp} {x : Sp} {w0 : World} {fr : (Nat → Value) → Act} {l : Array Bool} {a a' : Act} {w w' : World} {val : Nat → Value} (h : AI B0 sv s x w0 fr l a w val) (i : Nat) (v : Value) (hi : i < 7) (hn : i ≠ 4)
    (hf : a' = fr (upd val i v)) (hb : Below w.heap.size w w') (hv : AX B0 sv s x w' v i) (ho : (i = 5 → l.getD 4 false = true) ∧ (i = 6 → l.getD 5 false = true)) : ∃ val', AI B0 sv s x w0 fr (l.setIfInBounds i true) a' w' val' := by
  have hs : i < l.size := by rw [h.size]; exact hi
  refine ⟨upd val i v, hf, by rw [Array.size_setIfInBounds]; exact h.size, h.mem.trans (hb.mono h.base), Nat.le_trans h.base hb.size, ?_, last_one hs h.ord.1 ho.1, last_one hs h.ord.2.1 ho.2, last_one hs h.ord.2.2.1 (fun e => absurd e hn), last_one hs h.ord.2.2.2 (fun e => absurd e hn)⟩
  intro j hj hj4
  rw [getD_set _ _ _ hs] at hj
  rw [getD_set _ _ _ hs, if_neg hn] at hj4
  unfold upd
  by_cases e : j = i
  · subst e
    rw [if_pos rfl]
    exact hv
  · rw [if_neg e]
    rw [if_neg (fun h => e h.symm)] at hj
    exact AX.ext hb j (h.done j hj hj4)
theorem AI.step4 {B0 : Nat} {sv : Value} {s : List Sp} {x : Sp} {w0 : World} {fr : (Nat → Value) → Act} {l : Array Bool} {a a' : Act} {w w' : World} {val : Nat → Value} (h : AI B0 sv s x w0 fr l a w val) (v : Value) (h4 : l.getD 4 false = false) (h1 : l.getD 1 false = true) (h3 : l.getD 3 false = true)
    (hf : a' = fr (upd val 4 v)) (hm : Below B0 w0 w') (hB : B0 ≤ w'.heap.size) (hv : AX B0 sv s x w' v 4) : ∃ val', AI B0 sv s x w0 fr (l.setIfInBounds 4 true) a' w' val' := by
  have hs : 4 < l.size := by rw [h.size]; decide
  refine ⟨upd val 4 v, hf, by rw [Array.size_setIfInBounds]; exact h.size, hm, hB, ?_, last_one hs h.ord.1 (fun e => absurd e (by decide)), last_one hs h.ord.2.1 (fun e => absurd e (by decide)), last_one hs h.ord.2.2.1 (fun _ => h1), last_one hs h.ord.2.2.2 (fun _ => h3)⟩
  intro j hj hj4
  rw [getD_set _ _ _ hs] at hj
  rw [getD_set _ _ _ hs, if_pos rfl] at hj4
  unfold upd
  by_cases e : j = 4
  · subst e
    rw [if_pos rfl]
    exact hv
  · rw [if_neg (fun h => e h.symm)] at hj
    exfalso
    have h5 : l.getD 5 false = false := by
      cases hz : l.getD 5 false with
      | false => rfl
      | true => rw [h.ord.1 hz] at h4; cases h4
    have h6 : l.getD 6 false = false := by
      cases hz : l.getD 6 false with
      | false => rfl
      | true => rw [h.ord.2.1 hz] at h5; cases h5
    rcases Nat.lt_or_ge j 4 with c | c
    · exact absurd (hj4 c) (by decide)
    · rcases Nat.lt_or_ge j 7 with d | d
      · rcases (show j = 5 ∨ j = 6 by omega) with rfl | rfl
        · rw [h5] at hj; cases hj
        · rw [h6] at hj; cases hj
      · rw [Array.getD_eq_getD_getElem?, Array.getElem?_eq_none (by rw [h.size]; exact d)] at hj
        cases hj

theorem AI.four {B0 : Nat} {sv : Value} {s : List Sp} {x : Sp} {w0 : World} {fr : (Nat → Value) → Act} {l : Array Bool} {a : Act} {w : World} {val : Nat → Value} (h : AI B0 sv s x w0 fr l a w val) (i : Nat) (hi : i = 1 ∨ i = 3 ∨ i = 4) (hl : l.getD i true = false) : l.getD 4 false = false := by
  have hs : i < l.size := by rw [h.size]; omega
  have h0 := not_run hs hl
  rcases hi with rfl | rfl | rfl
  · cases hz : l.getD 4 false with
    | false => rfl
    | true => rw [h.ord.2.2.1 hz] at h0; cases h0
  · cases hz : l.getD 4 false with
    | false => rfl
    | true => rw [h.ord.2.2.2 hz] at h0; cases h0
  · exact h0
set_option maxHeartbeats 2000000 in
set_option maxRecDepth 20000 in
theorem add_any (v : Value) (s : List Sp) (x : Sp) (B : Nat) (w : World) (h : w.ownsRow B 55 2 v s.length (flat s)) (hl : s.length ≤ 1000000000) (hr : ∀ p ∈ s ++ [x], Fair p) :
    Calls Try.prog 37 #[v, .agg #[.int .i64 x.1, .int .i64 x.2]] w fun e w' => ∃ v' L, e = .returned v' ∧ w'.ownsRow w.heap.size 55 2 v' L.length (flat L) ∧ Norm L ∧ (∀ y, In y L ↔ In y (s ++ [x])) ∧ L.length ≤ (s ++ [x]).length ∧ Below w.heap.size w w' := by
  obtain ⟨i0, hi, hz0, hz1, hz2⟩ := info55
  have HR := Lib.hid hr
  have H := Lib.hid h
  clear hr h
  go_enter Try.func37, Try.ntmps37
  go_wp2_with fail
  have hg : (w.alloc (.cells #[.int .i64 x.1, .int .i64 x.2] 55)).heap[w.heap.size]? = some (.cells #[.int .i64 x.1, .int .i64 x.2] 55 (0, 0)) := heap_alloc_new _ _
  have H1 := Lib.hid (H.out.alloc (.cells #[.int .i64 x.1, .int .i64 x.2] 55))
  have HB0 := Lib.hid ((Below.refl w.heap.size w).alloc (Nat.le_refl _) (.cells #[.int .i64 x.1, .int .i64 x.2] 55))
  have hlt : w.heap.size < (w.alloc (.cells #[.int .i64 x.1, .int .i64 x.2] 55)).heap.size := by simp
  generalize w.alloc (.cells #[.int .i64 x.1, .int .i64 x.2] 55) = W at hg H1 HB0 hlt ⊢
  generalize hgw : w.heap.size = g at hg hlt HB0 ⊢
  have HGW := Lib.hid hgw
  clear H hgw
  obtain ⟨fr, hfr⟩ : ∃ fr : (Nat → Value) → Act, fr = fun val => { tmps := #[v, .agg #[.int .i64 x.1, .int .i64 x.2], undef, .pointer (some ⟨g, 0, none⟩), val 6, val 0, val 1, val 2, val 3, val 4, val 5], defers := [] } := ⟨_, rfl⟩
  have HFR := Lib.hid hfr
  clear hfr
  refine AnyInv.wp_region_inv (by kernel_rfl) (fun l a w' => ∃ val, AI W.heap.size v s x W fr l a w' val) ?_ ?_ ?_ ?_
  · refine ⟨fun i => if i = 6 then .slice none 0 0 else undef, ?_, by simp, ⟨rfl, rfl, rfl, Nat.le_refl _, fun _ _ => rfl⟩, Nat.le_refl _, ?_, ?_⟩
    · rw [HFR.out]; rfl
    · intro i hi; exfalso; exact none_run 7 i hi
    · exact ⟨fun hi => (none_run 7 _ hi).elim, fun hi => (none_run 7 _ hi).elim, fun hi => (none_run 7 _ hi).elim, fun hi => (none_run 7 _ hi).elim⟩
  · kernel_rfl
  · refine AnyInv.size_eq (k := 7) rfl ?_
    refine AnyInv.below_succ (AnyInv.below_succ (AnyInv.below_succ (AnyInv.below_succ (AnyInv.below_succ (AnyInv.below_succ (AnyInv.below_succ AnyInv.below_zero ?_) ?_) ?_) ?_) ?_) ?_) ?_
    · rintro l a w' ⟨val, hI⟩ hl hd
      have ev : (fr val).tmps[0]?.getD undef = v := by rw [HFR.out]; rfl
      have ha := hI.act
      subst ha
      refine AnyInv.wpOp_run (v := v) (w' := w') rfl rfl ?_ (hI.step 0 v (by decide) (by decide) (by rw [HFR.out]; rfl) (Below.refl _ _) rfl ⟨fun e => absurd e (by decide), fun e => absurd e (by decide)⟩)
      simp [execOp, go_sem, ev]
    · rintro l a w' ⟨val, hI⟩ hl hd
      have d0 : l.getD 0 false = true := AnyInv.dep_of rfl hd 0 rfl rfl
      have r0 : val 0 = v := hI.done 0 d0 (fun _ => hI.four 1 (.inl rfl) hl)
      have ev : (fr val).tmps[5]?.getD undef = v := by rw [HFR.out]; exact r0
      have ha := hI.act
      subst ha
      refine wpOp_call (f := 61) (args := #[v]) rfl rfl ?_ (clone_any v s B w' (own_sub H1.out hI.mem) (by omega)) ?_
      · simp [execOp, go_sem, ev]
      · rintro e w2 ⟨v', rfl, hown, hb⟩
        exact ⟨v', rfl, hI.step 1 v' (by decide) (by decide) (by rw [HFR.out]; rfl) hb (own_mono hown hI.base) ⟨fun e => absurd e (by decide), fun e => absurd e (by decide)⟩⟩
    · rintro l a w' ⟨val, hI⟩ hl hd
      have hc := (hI.mem.block g hlt).trans hg
      have e0 : w'.cell? ⟨g, 0, none⟩ = some (.int .i64 x.1) := by rw [cell_of_row _ _ _ _ _ _ hc]; rfl
      have e1 : w'.cell? ⟨g, 1, none⟩ = some (.int .i64 x.2) := by rw [cell_of_row _ _ _ _ _ _ hc]; rfl
      have ev : (fr val).tmps[3]?.getD undef = .pointer (some ⟨g, 0, none⟩) := by rw [HFR.out]; rfl
      have ha := hI.act
      subst ha
      refine AnyInv.wpOp_run (v := .agg #[.int .i64 x.1, .int .i64 x.2]) (w' := w') rfl rfl ?_ (hI.step 2 _ (by decide) (by decide) (by rw [HFR.out]; rfl) (Below.refl _ _) rfl ⟨fun e => absurd e (by decide), fun e => absurd e (by decide)⟩)
      simp [execOp, go_sem, ev, e0, e1]
    · rintro l a w' ⟨val, hI⟩ hl hd
      have d2 : l.getD 2 false = true := AnyInv.dep_of rfl hd 0 rfl rfl
      have r2 : val 2 = .agg #[.int .i64 x.1, .int .i64 x.2] := hI.done 2 d2 (fun _ => hI.four 3 (.inr (.inl rfl)) hl)
      have ev : (fr val).tmps[7]?.getD undef = .agg #[.int .i64 x.1, .int .i64 x.2] := by rw [HFR.out]; exact r2
      have ha := hI.act
      subst ha
      refine AnyInv.wpOp_run (v := .slice (some ⟨w'.heap.size, 0, none⟩) 1 1) (w' := w'.alloc (.cells #[.int .i64 x.1, .int .i64 x.2] 55)) rfl rfl ?_ (hI.step 3 _ (by decide) (by decide) (by rw [HFR.out]; rfl) ((Below.refl _ _).alloc (Nat.le_refl _) _) ⟨_, rfl, heap_alloc_new _ _⟩ ⟨fun e => absurd e (by decide), fun e => absurd e (by decide)⟩)
      simp [execOp, go_sem, ev]
    · rintro l a w' ⟨val, hI⟩ hl hd
      have h4 := hI.four 4 (.inr (.inr rfl)) hl
      have d1 : l.getD 1 false = true := AnyInv.dep_of rfl hd 0 rfl rfl
      have d3 : l.getD 3 false = true := AnyInv.dep_of rfl hd 1 rfl rfl
      have r1 : w'.ownsRow W.heap.size 55 2 (val 1) s.length (flat s) := hI.done 1 d1 (fun _ => h4)
      obtain ⟨k, r3, hk⟩ : ∃ h, val 3 = .slice (some ⟨h, 0, none⟩) 1 1 ∧ w'.heap[h]? = some (.cells #[.int .i64 x.1, .int .i64 x.2] 55 (0, 0)) := hI.done 3 d3 (fun _ => h4)
      have ev1 : (fr val).eval (.tmp 6) = val 1 := by rw [HFR.out]; rfl
      have ev3 : (fr val).eval (.tmp 8) = .slice (some ⟨k, 0, none⟩) 1 1 := by rw [HFR.out]; exact r3
      have ha := hI.act
      subst ha
      refine wpOp_wp rfl rfl (wp_append_own _ (.tmp 6) (.tmp 8) 56 rfl W.heap.size 55 i0 (.agg #[.int .i64 0, .int .i64 0]) 2 16 Try.underlying56 hi hz0 hz1 hz2 rfl (by decide) _ _ _ ev1 r1 ⟨k, 0, none⟩ 1 1 [.int .i64 x.1, .int .i64 x.2] ev3 rfl ?_ ?_ ?_ ?_ hI.base ?_)
      · intro j u hj
        rw [show (⟨k, 0, none⟩ : Addr).add j = ⟨k, j, none⟩ from by unfold Addr.add; split <;> simp_all, cell_of_row _ _ _ _ _ _ hk]
        simpa using hj
      · intro u hu; simp at hu; rcases hu with rfl | rfl <;> rfl
      · unfold maxLen; omega
      · omega
      · intro v' w2 hown' hgrow _
        refine hI.step4 v' h4 d1 d3 (by rw [HFR.out]; rfl) (hI.mem.grown hgrow hI.base (fun j hj => (r1.lt j hj).1)) ?_ ?_
        · exact Nat.le_trans hI.base hgrow.size
        · show w2.ownsRow W.heap.size 55 2 v' (s ++ [x]).length (flat (s ++ [x]))
          rw [flat_snoc, List.length_append]
          exact hown'
    · rintro l a w' ⟨val, hI⟩ hl hd
      have d4 : l.getD 4 false = true := AnyInv.dep_of rfl hd 0 rfl rfl
      have r4 : w'.ownsRow W.heap.size 55 2 (val 4) (s ++ [x]).length (flat (s ++ [x])) := hI.done 4 d4 (fun e => absurd e (by decide))
      obtain ⟨A, c, e4, hA⟩ := isSpans_of_own r4
      have ev : (fr val).tmps[9]?.getD undef = .slice A (s ++ [x]).length c := by rw [HFR.out]; exact e4
      have ha := hI.act
      subst ha
      refine wpOp_call (f := 35) (args := #[.slice A (s ++ [x]).length c]) rfl rfl ?_ (of_any A c (s ++ [x]) w' hA HR.out (by simp; omega)) ?_
      · simp [execOp, go_sem, ev]
      · rintro e w2 ⟨v', L, rfl, hown, hn, hin, hle, hb⟩
        exact ⟨v', rfl, hI.step 5 v' (by decide) (by decide) (by rw [HFR.out]; rfl) hb ⟨L, own_mono hown hI.base, hn, hin, hle⟩ ⟨fun _ => d4, fun e => absurd e (by decide)⟩⟩
    · rintro l a w' ⟨val, hI⟩ hl hd
      have d5 : l.getD 5 false = true := AnyInv.dep_of rfl hd 0 rfl rfl
      have r5 := hI.done 5 d5 (fun e => absurd e (by decide))
      have ev : (fr val).tmps[10]?.getD undef = val 5 := by rw [HFR.out]; rfl
      have ha := hI.act
      subst ha
      refine AnyInv.wpOp_run (v := val 5) (w' := w') rfl rfl ?_ (hI.step 6 _ (by decide) (by decide) (by rw [HFR.out]; rfl) (Below.refl _ _) r5 ⟨fun e => absurd e (by decide), fun _ => d5⟩)
      simp [execOp, go_sem, ev]
  · rintro l a w' ⟨val, hI⟩ hall
    have h6 : l.getD 6 false = true := by
      have h1 := hall 6 (by decide)
      rw [Array.getD_eq_getD_getElem?, Array.getElem?_eq_getElem (by rw [hI.size]; decide)] at h1 ⊢
      exact h1
    obtain ⟨L, hown, hn, hin, hle⟩ := hI.done 6 h6 (fun e => absurd e (by decide))
    have ha := hI.act
    rw [HFR.out] at ha
    subst ha
    have HM := Lib.hid hI.mem
    clear hI hall h6
    go_wp2
    go_ret
    have h1 : w.heap.size ≤ W.heap.size := by rw [HGW.out]; omega
    have hb := HB0.out
    rw [← HGW.out] at hb
    exact ⟨_, L, rfl, own_mono hown h1, hn, hin, hle, hb.trans (HM.out.mono h1)⟩
end Go.Proofs.Ytallhdlnhegjiaa.Spans
