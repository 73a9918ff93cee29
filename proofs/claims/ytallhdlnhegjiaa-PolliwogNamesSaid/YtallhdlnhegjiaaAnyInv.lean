/- A region that draws its order, by what stands behind each operation that has run: one step for each operation, whatever order the edges allow. No conditions. -/
import Derived.Test.YtallhdlnhegjiaaRows
import Derived.WalkKit
import Derived.Orders
namespace Go.Proofs.Ytallhdlnhegjiaa.AnyInv
open Go.RowKit

section
variable {P : Program} {ops : Array Oper} {Q : Exit → Act → World → Prop}

theorem mem_ready {listed : Array Bool} {i : Nat} : i ∈ Region.ready .any ops listed ↔ i < ops.size ∧ listed.getD i true = false ∧ ((ops[i]?).map (·.after.all fun e => !Region.binds .any e || listed.getD e.on false)).getD false = true := by
  unfold Region.ready
  rw [List.mem_filter, List.mem_range, Bool.and_eq_true, Bool.not_eq_true']

/-- how many have not run -/
def left (l : Array Bool) : Nat := l.toList.countP (fun b => !b)
theorem left_set (l : Array Bool) (i : Nat) (hi : l.getD i true = false) : left (l.setIfInBounds i true) + 1 = left l := by
  have hl : i < l.size := by
    rcases Nat.lt_or_ge i l.size with h | h
    · exact h
    · rw [Array.getD_eq_getD_getElem?, Array.getElem?_eq_none h] at hi
      cases hi
  have hv : l.toList[i]'(by simpa using hl) = false := by
    rw [Array.getD_eq_getD_getElem?, Array.getElem?_eq_getElem hl] at hi
    simpa using hi
  unfold left
  rw [Array.toList_setIfInBounds, List.countP_set (by simpa using hl), hv]
  have hpos : 0 < l.toList.countP (fun b => !b) := by
    rw [List.countP_pos_iff]
    exact ⟨_, List.getElem_mem (by simpa using hl : i < l.toList.length), by rw [hv]; rfl⟩
  simp only [Bool.not_false, Bool.not_true, if_true, Bool.false_eq_true, if_false]
  omega
/-- each binding edge leads back -/
def ordOk (ops : Array Oper) : Bool := (List.range ops.size).all fun i => ((ops[i]?).map (·.after.all fun e => !Region.binds .any e || decide (e.on < i))).getD true
theorem ordOk_at (h : ordOk ops = true) {i : Nat} (hi : i < ops.size) : (ops[i].after.all fun e => !Region.binds .any e || decide (e.on < i)) = true := by
  unfold ordOk at h
  rw [List.all_eq_true] at h
  have h1 := h i (List.mem_range.2 hi)
  rw [Array.getElem?_eq_getElem hi] at h1
  exact h1
/-- where nothing may come up any more, all has run -/
theorem all_run (hord : ordOk ops = true) {l : Array Bool} (hr : Region.ready .any ops l = []) :
    ∀ i, i < ops.size → l.getD i true = true := by
  intro i
  induction i using Nat.strongRecOn with
  | ind i ih =>
    intro hi
    cases h : l.getD i true with
    | true => rfl
    | false =>
      exfalso
      have hm : i ∈ Region.ready .any ops l := by
        rw [mem_ready]
        refine ⟨hi, h, ?_⟩
        rw [Array.getElem?_eq_getElem hi]
        simp only [Option.map_some, Option.getD_some]
        rw [Array.all_eq_true_iff_forall_mem]
        intro e he
        have hb := Array.all_eq_true_iff_forall_mem.1 (ordOk_at hord hi) e he
        cases hbi : Region.binds .any e with
        | false => rfl
        | true =>
        rw [hbi] at hb
        have hlt : e.on < i := by simpa using hb
        have h1 := ih e.on hlt (by omega)
        have h2 : l.getD e.on false = true := by
          rw [Array.getD_eq_getD_getElem?] at h1 ⊢
          cases hx : l[e.on]? with
          | none =>
            have hlt2 : e.on < l.size ∨ l.size ≤ e.on := by omega
            rcases hlt2 with h3 | h3
            · rw [Array.getElem?_eq_getElem h3] at hx; cases hx
            · exfalso
              have h4 : l.getD i true = true := by rw [Array.getD_eq_getD_getElem?, Array.getElem?_eq_none (by omega)]; rfl
              rw [h4] at h
              cases h
          | some b => rw [hx] at h1; exact h1
        rw [h2]
        rfl
      rw [hr] at hm
      cases hm
theorem wpAny_inv (I : Array Bool → Act → World → Prop)
    (hord : ordOk ops = true)
    (hstep : ∀ i, i < ops.size → ∀ l a w, I l a w → l.getD i true = false → ((ops[i]?).map (·.after.all fun e => !Region.binds .any e || l.getD e.on false)).getD false = true →
      wpOp P ops Q i (fun a' w' => I (l.setIfInBounds i true) a' w') a w)
    (hdone : ∀ l a w, I l a w → (∀ i, i < ops.size → l.getD i true = true) → Q .normal a w) :
    ∀ (fuel : Nat) (l : Array Bool) (a : Act) (w : World), I l a w → left l ≤ fuel → l.size = ops.size → wpAny P .any ops Q fuel l a w := by
  intro fuel
  induction fuel with
  | zero =>
    intro l a w hI hl hs
    have hr : Region.ready .any ops l = [] := by
      rw [List.eq_nil_iff_forall_not_mem]
      intro i hi
      rw [mem_ready] at hi
      have := left_set l i hi.2.1
      omega
    exact ⟨hr, hdone l a w hI (all_run hord hr)⟩
  | succ fuel ih =>
    intro l a w hI hl hs
    refine ⟨fun hr => hdone l a w hI (all_run hord hr), fun i hi => ?_⟩
    have hm := mem_ready.1 hi
    refine wpOp_mono ?_ (hstep i hm.1 l a w hI hm.2.1 hm.2.2)
    intro a' w' hI'
    exact ih _ _ _ hI' (by have := left_set l i hm.2.1; omega) (by rw [Array.size_setIfInBounds]; exact hs)
theorem left_all (n : Nat) : left (Array.replicate n false) = n := by
  unfold left
  rw [Array.toList_replicate, List.countP_replicate]
  rfl
theorem wp_region_inv {id : Nat} {a : Act} {w : World} (hm : P.follows .mixedOrders = true) (I : Array Bool → Act → World → Prop)
    (h0 : I (Array.replicate ops.size false) a w.drew)
    (hord : ordOk ops = true)
    (hstep : ∀ i, i < ops.size → ∀ l a w, I l a w → l.getD i true = false → ((ops[i]?).map (·.after.all fun e => !Region.binds .any e || l.getD e.on false)).getD false = true →
      wpOp P ops Q i (fun a' w' => I (l.setIfInBounds i true) a' w') a w)
    (hdone : ∀ l a w, I l a w → (∀ i, i < ops.size → l.getD i true = true) → Q .normal a w) : (Code.region id ops true).wp P Q a w :=
  wp_region_any hm (wpAny_inv I hord hstep hdone ops.size _ a _ h0 (by rw [left_all]; exact Nat.le_refl _) (by simp))
/-- one operation, by its run -/
theorem wpOp_run {i : Nat} {o : Oper} {K : Act → World → Prop} {a : Act} {w w' : World} {v : Value} (ho : ops[i]? = some o) (hg : o.guard = none) (hr : (execOp a.eval o).run P w = .ok (.value v) w') (h : K (a.put o.dst v) w') : wpOp P ops Q i K a w := by
  unfold wpOp
  rw [ho]
  simp only [Region.wanted, hg, if_true]
  left
  unfold Oper.wp
  rw [hr]
  exact h
theorem below_zero {p : Nat → Prop} : ∀ i, i < 0 → p i := fun i h => absurd h (Nat.not_lt_zero i)
theorem below_succ {p : Nat → Prop} {n : Nat} (h : ∀ i, i < n → p i) (hn : p n) : ∀ i, i < n + 1 → p i := fun i hi => by
  rcases Nat.lt_or_ge i n with h1 | h1
  · exact h i h1
  · obtain rfl : i = n := by omega
    exact hn
theorem size_eq {n k : Nat} {p : Nat → Prop} (h : n = k) (H : ∀ i, i < k → p i) : ∀ i, i < n → p i := fun i hi => H i (by omega)
/-- what an edge that binds says -/
theorem dep_of {i : Nat} {o : Oper} {l : Array Bool} (ho : ops[i]? = some o) (hd : ((ops[i]?).map (·.after.all fun e => !Region.binds .any e || l.getD e.on false)).getD false = true) (q : Nat) {e : Edge} (he : o.after[q]? = some e) (hb : Region.binds .any e = true) : l.getD e.on false = true := by
  rw [ho] at hd
  have h1 := Array.all_eq_true_iff_forall_mem.1 hd e (Array.mem_of_getElem? he)
  rw [hb] at h1
  exact h1
end
end Go.Proofs.Ytallhdlnhegjiaa.AnyInv
