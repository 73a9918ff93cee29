/- Small words and laws for rows of spans, and what near, empty, Compare compute. Condition where said: the spans' ends lie within 2^40. -/
import Derived.Test.YtallhdlnhegjiaaRows
import Derived.WalkKit
import Derived.ProofKit
import Derived.OpenShut
import Derived.Lib.Hide
import Derived.BigQuiet
import Derived.Test.YtallhdlnhegjiaaOwn
import Derived.Test.YtallhdlnhegjiaaSpanLaw
namespace Go.Proofs.Ytallhdlnhegjiaa.Spans
open Go.ChangeShapes Go.WideShapes Go.ChangeAt Go.RowKit Go.Lib
set_option linter.unusedVariables false

def enc2 (p : Sp) : List Value := [.int .i64 p.1, .int .i64 p.2]
def flat (l : List Sp) : List Value := l.flatMap enc2
/-- a slice of spans that can be read -/
def IsSpans (w : World) (A : Option Addr) (l : List Sp) : Prop := ∀ i (h : i < l.length), ∃ b off, A = some ⟨b, off, none⟩ ∧ b < w.heap.size ∧ w.cell? ⟨b, off + i * 2, none⟩ = some (.int .i64 l[i].1) ∧ w.cell? ⟨b, off + i * 2 + 1, none⟩ = some (.int .i64 l[i].2)
def Fair (p : Sp) : Prop := -1099511627776 ≤ p.1 ∧ p.1 ≤ 1099511627776 ∧ -1099511627776 ≤ p.2 ∧ p.2 ≤ 1099511627776

theorem near_any (a b : Int) (h : Fair (a, b)) (w : World) : Calls Try.prog 56 #[.agg #[.int .i64 a, .int .i64 b]] w fun e w' => e = .returned (.agg #[.int .i64 a, .int .i64 b]) ∧ Below w.heap.size w w' := by
  obtain ⟨h1, h2, h3, h4⟩ := h
  dsimp only at h1 h2 h3 h4
  have e1 : (if (1099511627776 : Int) < a then 1099511627776 else a) = a := if_neg (by omega)
  have e2 : (if (1099511627777 : Int) < b then 1099511627777 else b) = b := if_neg (by omega)
  have e3 : (if (-1099511627776 : Int) < a then a else -1099511627776) = a := by split <;> omega
  have e4 : (if (-1099511627776 : Int) < b then b else -1099511627776) = b := by split <;> omega
  go_enter Try.func56, Try.ntmps56
  go_wp2
  refine bodyPost_ret (v := .agg #[.int .i64 a, .int .i64 b]) (results_cell_row (fn := Try.f56) (p := 2) (ty := 55) rfl _ _ (w.heap.size + 1) 55 #[.int .i64 a, .int .i64 b] (0, 0) _ rfl ?_ Try.underlying55 rfl (by kernel_rfl)) rfl ⟨rfl, ?_⟩
  · rw [show w.heap.size + 1 = (w.alloc (.cells #[.int .i64 a, .int .i64 b] 55)).heap.size from by simp]
    exact heap_alloc_new _ _
  · exact ((Below.refl _ _).alloc (Nat.le_refl _) _).alloc (by simp) _
theorem empty_any (a b : Int) (w : World) : Calls Try.prog 57 #[.agg #[.int .i64 a, .int .i64 b]] w fun e w' => e = .returned (.bool (decide (b ≤ a))) ∧ Below w.heap.size w w' := by
  go_enter Try.func57, Try.ntmps57
  go_wp2
  go_ret
  exact ⟨rfl, (Below.refl _ _).alloc (Nat.le_refl _) _⟩
theorem isNaN_any (a : Int) (w : World) : Calls Try.prog 72 #[.int .i64 a] w fun e w' => e = .returned (.bool false) ∧ w = w' := by
  go_enter Try.func72, Try.ntmps72
  go_wp2
  go_ret
  exact ⟨rfl, rfl⟩
def cmpI (a b : Int) : Int := if a < b then -1 else if b < a then 1 else 0
theorem compare_any (a b : Int) (w : World) : Calls Try.prog 60 #[.int .i64 a, .int .i64 b] w fun e w' => e = .returned (.int .i64 (cmpI a b)) ∧ w = w' := by
  rcases Int.lt_trichotomy a b with h1 | h1 | h1
  · go_enter Try.func60, Try.ntmps60
    go_wp2_with (go_at_call 72; refine (isNaN_any _ _).mono ?_; rintro e w' ⟨rfl, rfl⟩)
    go_ret
    exact ⟨by unfold cmpI; rw [if_pos h1]; rfl, rfl⟩
  · subst h1
    go_enter Try.func60, Try.ntmps60
    go_wp2_with (go_at_call 72; refine (isNaN_any _ _).mono ?_; rintro e w' ⟨rfl, rfl⟩)
    go_ret
    exact ⟨by unfold cmpI; rw [if_neg (by omega), if_neg (by omega)]; rfl, rfl⟩
  · go_enter Try.func60, Try.ntmps60
    go_wp2_with (go_at_call 72; refine (isNaN_any _ _).mono ?_; rintro e w' ⟨rfl, rfl⟩)
    go_ret
    exact ⟨by unfold cmpI; rw [if_neg (by omega), if_pos (by omega)]; rfl, rfl⟩

theorem own_below {w w' : World} {base e size n : Nat} {v : Value} {xs : List Value} (h : w.ownsRow base e size v n xs) (hb : Below w.heap.size w w') : w'.ownsRow base e size v n xs := by
  refine ⟨h.1, ?_⟩
  rcases h.2 with h1 | ⟨g, cap, cur, h1, h2, h3, h4⟩
  · exact .inl h1
  · exact .inr ⟨g, cap, cur, h1, h2, (hb.block g (Array.getElem?_eq_some_iff.1 h3).1).trans h3, h4⟩
theorem setCell_self {w : World} {b o : Nat} {v : Value} (h : w.cell? ⟨b, o, none⟩ = some v) : w.setCell ⟨b, o, none⟩ v = w := by
  have e : (w.setCell ⟨b, o, none⟩ v).heap = w.heap := by
    unfold World.setCell
    apply Array.ext_getElem?
    intro i
    rw [Array.getElem?_modify]
    split
    · rename_i hi
      have hi' : b = i := hi
      subst hi'
      cases hx : w.heap[b]? with
      | none => rfl
      | some ob =>
        cases ob with
        | cells c elem frozen =>
          have h2 : c[o]? = some v := by simpa [World.cell?, hx] using h
          have h3 : c.setIfInBounds o v = c := by
            apply Array.ext_getElem?
            intro j
            rw [Array.getElem?_setIfInBounds]
            split
            · rename_i hj
              subst hj
              split
              · exact h2.symm
              · rename_i hn
                rw [Array.getElem?_eq_none (by omega)]
            · rfl
          simp [h3]
        | _ => rfl
    · rfl
  have e2 : w.setCell ⟨b, o, none⟩ v = { w with heap := (w.setCell ⟨b, o, none⟩ v).heap } := rfl
  rw [e2, e]
theorem pair_cells2 (w : World) (a b : Int) (T : TypeId) (j : Nat) (u : Value) (hj : [Value.int .i64 a, .int .i64 b][j]? = some u) :
    (w.alloc (.cells #[.int .i64 a, .int .i64 b] T)).cell? ((⟨w.heap.size, 0, none⟩ : Addr).add j) = some u := by
  have e : (⟨w.heap.size, 0, none⟩ : Addr).add j = ⟨w.heap.size, j, none⟩ := by unfold Addr.add; split <;> simp_all
  rw [e, cell_of_row _ _ _ _ _ _ (heap_alloc_new w _)]
  simpa using hj
theorem info55m : (Try.prog.info? 55).map (fun i => (i.zero, i.size, i.bytes)) = some (some (.agg #[.int .i64 0, .int .i64 0]), 2, 16) := by kernel_rfl
theorem info55 : ∃ i, Try.prog.info? 55 = some i ∧ i.zero = some (.agg #[.int .i64 0, .int .i64 0]) ∧ i.size = 2 ∧ i.bytes = 16 := by
  have h := info55m
  cases e : Try.prog.info? 55 with
  | none => rw [e] at h; cases h
  | some i =>
    rw [e] at h
    simp at h
    exact ⟨i, rfl, h⟩
theorem flat_snoc (l : List Sp) (p : Sp) : flat (l ++ [p]) = flat l ++ [.int .i64 p.1, .int .i64 p.2] := by unfold flat; rw [List.flatMap_append]; rfl
theorem flat_cons (l : List Sp) (p : Sp) : flat (p :: l) = .int .i64 p.1 :: .int .i64 p.2 :: flat l := by unfold flat; rw [List.flatMap_cons]; rfl
theorem flat_length (l : List Sp) : (flat l).length = l.length * 2 := by
  induction l with
  | nil => rfl
  | cons p l ih => rw [flat_cons]; simp [ih]; omega
theorem flat_at : ∀ (l : List Sp) (i : Nat) (h : i < l.length), (flat l)[i * 2]? = some (.int .i64 l[i].1) ∧ (flat l)[i * 2 + 1]? = some (.int .i64 l[i].2)
  | p :: l, 0, h => by rw [flat_cons]; exact ⟨rfl, rfl⟩
  | p :: l, i + 1, h => by
    have := flat_at l i (by simpa using h)
    rw [flat_cons, show (i + 1) * 2 = i * 2 + 1 + 1 from by omega, show i * 2 + 1 + 1 + 1 = (i * 2 + 1) + 1 + 1 from by omega]
    simpa using this
theorem from_snoc {o l l' : List Sp} {p : Sp} (h : ∀ p ∈ o, ∃ q ∈ l, p.1 = q.1) (e : l' = l ++ [p]) : ∀ r ∈ o ++ [p], ∃ q ∈ l', r.1 = q.1 := by
  intro r hr
  subst e
  rcases List.mem_append.1 hr with hr | hr
  · obtain ⟨q, hq, e⟩ := h r hr
    exact ⟨q, List.mem_append_left _ hq, e⟩
  · exact ⟨p, List.mem_append_right _ (List.mem_singleton.2 rfl), by rw [List.mem_singleton.1 hr]⟩
theorem pushed {w wr w2 : World} {B : Nat} {v v' : Value} {o : Obj} {l : List Sp} {p : Sp} (hB : B ≤ wr.heap.size) (hown : wr.ownsRow B 55 2 v l.length (flat l)) (hb : Below B w wr)
    (h1 : w2.ownsRow B 55 2 v' (l.length + 1) (flat l ++ [.int .i64 p.1, .int .i64 p.2])) (hg : (wr.alloc o).grownBy w2 v.ownBlock) :
    w2.ownsRow B 55 2 v' (l ++ [p]).length (flat (l ++ [p])) ∧ Below B w w2 :=
  ⟨by rw [flat_snoc, List.length_append]; exact h1, (hb.alloc hB o).grown hg (by simp; omega) (fun j hj => (hown.lt j hj).1)⟩
def live (l : List Sp) : List Sp := l.filter fun p => decide (p.1 < p.2)
theorem live_take (l : List Sp) (k : Nat) (h : k < l.length) : live (l.take (k + 1)) = live (l.take k) ++ (if l[k].1 < l[k].2 then [l[k]] else []) := by
  unfold live
  rw [List.take_succ_eq_append_getElem h, List.filter_append]
  congr 1
  by_cases c : l[k].1 < l[k].2 <;> simp [c]

theorem isSpans_of_own {w : World} {B : Nat} {v : Value} {l : List Sp} (h : w.ownsRow B 55 2 v l.length (flat l)) : ∃ A c, v = .slice A l.length c ∧ IsSpans w A l := by
  rcases h.2 with ⟨rfl, h0⟩ | ⟨g, cap, cur, rfl, hB, hg, hn, hm, hs, ht⟩
  · exact ⟨none, 0, by rw [h0], fun i hi => absurd hi (by omega)⟩
  · refine ⟨_, _, rfl, fun i hi => ⟨g, 0, rfl, (Array.getElem?_eq_some_iff.1 hg).1, ?_, ?_⟩⟩
    · rw [Nat.zero_add, cell_of_row _ _ _ _ _ _ hg]
      have e : (cur.toList.take (l.length * 2))[i * 2]? = (flat l)[i * 2]? := by rw [ht]
      rw [List.getElem?_take, if_pos (by omega), Array.getElem?_toList, (flat_at l i hi).1] at e
      exact e
    · rw [Nat.zero_add, cell_of_row _ _ _ _ _ _ hg]
      have e : (cur.toList.take (l.length * 2))[i * 2 + 1]? = (flat l)[i * 2 + 1]? := by rw [ht]
      rw [List.getElem?_take, if_pos (by omega), Array.getElem?_toList, (flat_at l i hi).2] at e
      exact e
theorem last_own {w : World} {B : Nat} {A : Option Addr} {c : Nat} {o : List Sp} {q0 q1 : Int} (h : w.ownsRow B 55 2 (.slice A (o ++ [(q0, q1)]).length c) (o ++ [(q0, q1)]).length (flat (o ++ [(q0, q1)]))) :
    ∃ g, A = some ⟨g, 0, none⟩ ∧ B ≤ g ∧ g < w.heap.size ∧ w.cell? ⟨g, o.length * 2, none⟩ = some (.int .i64 q0) ∧ w.cell? ⟨g, o.length * 2 + 1, none⟩ = some (.int .i64 q1) ∧ w.frozen? ⟨g, o.length * 2 + 1, none⟩ = false := by
  obtain ⟨A', c', e, hs⟩ := isSpans_of_own h
  injection e with e1 _ e3
  subst e1 e3
  have hl : o.length < (o ++ [(q0, q1)]).length := by simp
  rcases h.2 with ⟨h1, h2⟩ | ⟨g, cap, cur, h1, hB, hg, _⟩
  · omega
  · injection h1 with h1 _ _
    subst h1
    obtain ⟨b, off, e, hb, c0, c1⟩ := hs o.length hl
    injection e with e
    injection e with e1 e2
    subst e1 e2
    simp at c0 c1
    exact ⟨g, rfl, hB, hb, c0, c1, by simp [World.frozen?, hg]⟩
theorem from_widen {o l l' : List Sp} {q0 q1 m : Int} {p : Sp} (h : ∀ p ∈ o ++ [(q0, q1)], ∃ q ∈ l, p.1 = q.1) (e : l' = l ++ [p]) : ∀ r ∈ o ++ [(q0, m)], ∃ q ∈ l', r.1 = q.1 := by
  intro r hr
  subst e
  rcases List.mem_append.1 hr with hr | hr
  · obtain ⟨q, hq, e⟩ := h r (List.mem_append_left _ hr)
    exact ⟨q, List.mem_append_left _ hq, e⟩
  · obtain ⟨q, hq, e⟩ := h (q0, q1) (List.mem_append_right _ (List.mem_singleton.2 rfl))
    exact ⟨q, List.mem_append_left _ hq, by rw [List.mem_singleton.1 hr]; exact e⟩
theorem in_live {l : List Sp} {x : Int} : In x (live l) ↔ In x l := by
  constructor
  · rintro ⟨p, hp, h⟩
    unfold live at hp
    exact ⟨p, (List.mem_filter.1 hp).1, h⟩
  · rintro ⟨p, hp, h⟩
    refine ⟨p, ?_, h⟩
    unfold live
    rw [List.mem_filter]
    exact ⟨hp, by simp; omega⟩
theorem in_perm {l m : List Sp} (h : l.Perm m) (x : Int) : In x l ↔ In x m :=
  ⟨fun ⟨p, hp, k⟩ => ⟨p, h.mem_iff.1 hp, k⟩, fun ⟨p, hp, k⟩ => ⟨p, h.mem_iff.2 hp, k⟩⟩
theorem own_mono {w : World} {base base' e size n : Nat} {v : Value} {xs : List Value} (h : w.ownsRow base e size v n xs) (hb : base' ≤ base) : w.ownsRow base' e size v n xs := by
  refine ⟨h.1, ?_⟩
  rcases h.2 with h1 | ⟨g, cap, cur, h1, h2, h3⟩
  · exact .inl h1
  · exact .inr ⟨g, cap, cur, h1, Nat.le_trans hb h2, h3⟩
theorem own_widen {w : World} {B g c n : Nat} {o : List Sp} {q0 q1 : Int} (m : Int) (hn : n = o.length) (h : w.ownsRow B 55 2 (.slice (some ⟨g, 0, none⟩) (o ++ [(q0, q1)]).length c) (o ++ [(q0, q1)]).length (flat (o ++ [(q0, q1)]))) :
    (w.setCell ⟨g, n * 2 + 1, none⟩ (.int .i64 m)).ownsRow B 55 2 (.slice (some ⟨g, 0, none⟩) (o ++ [(q0, m)]).length c) (o ++ [(q0, m)]).length (flat (o ++ [(q0, m)])) ∧ Below B w (w.setCell ⟨g, n * 2 + 1, none⟩ (.int .i64 m)) := by
  subst hn
  have hl : ∀ x : Int, (o ++ [(q0, x)]).length = o.length + 1 := fun x => by simp
  rw [hl] at h ⊢
  rcases h.2 with ⟨e0, _⟩ | ⟨g', cap', cur, e0, hb, hg, hn, hm, hs, ht⟩
  · cases e0
  · injection e0 with e1 _ e3
    injection e1 with e1
    injection e1 with e1
    subst e1; subst e3
    have hh : (w.setCell ⟨g, o.length * 2 + 1, none⟩ (.int .i64 m)).heap[g]? = some (.cells (cur.setIfInBounds (o.length * 2 + 1) (.int .i64 m)) 55 (0, 0)) := by
      unfold World.setCell
      simp [Array.getElem?_modify, hg]
    refine ⟨⟨by rw [flat_length, hl], .inr ⟨g, c, _, rfl, hb, hh, hn, hm, by simpa using hs, ?_⟩⟩, ⟨rfl, rfl, rfl, ?_, ?_⟩⟩
    · rw [Array.toList_setIfInBounds, List.take_set, ht, flat_snoc, flat_snoc, List.set_append_right _ _ (by rw [flat_length]; omega), flat_length, show o.length * 2 + 1 - o.length * 2 = 1 from by omega]
      rfl
    · unfold World.setCell
      simp
    · intro k hk
      exact Below.heap_setCell _ _ _ _ (by show k ≠ g; omega)
end Go.Proofs.Ytallhdlnhegjiaa.Spans
