/- The plain law of PolliwogNames: counts in a map, how many keys there are, and that what came and what is named are all numbers once. Conditions: those that the lemmas state. -/
import Derived.Test.YtallhdlnhegjiaaRecvData
import Derived.Test.YtallhdlnhegjiaaNamed
import Derived.Test.YtallhdlnhegjiaaRecvStat
import Derived.Test.YtallhdlnhegjiaaRecvVars
import Derived.Test.YtallhdlnhegjiaaRecvNew
namespace Go.Proofs.Ytallhdlnhegjiaa.polliwogNames
open Go.ChangeShapes Go.WideShapes Go.ChangeAt Go.RowKit Go.Lib Go.Maps Spans Recv Gaps
set_option linter.unusedVariables false

def many (c : Nat → Bool) (m : Nat) : Nat := (List.range m).countP c
theorem many_succ (c : Nat → Bool) (m : Nat) : many c (m + 1) = many c m + if c m then 1 else 0 := by
  unfold many
  rw [List.range_succ, List.countP_append]
  simp [List.countP_cons]
theorem many_one (c : Nat → Bool) (n : Nat) : ∀ m, many (andOne c n) m = many c m + if n < m ∧ c n = false then 1 else 0
  | 0 => by simp [many]
  | m + 1 => by
    rw [many_succ, many_succ, many_one c n m]
    by_cases e : m = n
    · subst e
      cases h : c m <;> simp [andOne, h]
    · have h1 : andOne c n m = c m := by simp [andOne, e]
      have h2 : (n < m + 1 ∧ c n = false) ↔ (n < m ∧ c n = false) := by
        constructor
        · rintro ⟨a, b⟩; exact ⟨by omega, b⟩
        · rintro ⟨a, b⟩; exact ⟨by omega, b⟩
      rw [h1]
      simp only [h2]
      omega
theorem many_both (c d : Nat → Bool) (h : Nat) (hc : ∀ n, c n = true → n < h) (hd : ∀ n, d n = true ↔ n < h ∧ c n = false) : ∀ m, many c m + many d m = min m h
  | 0 => by simp [many]
  | m + 1 => by
    rw [many_succ, many_succ]
    have ih := many_both c d h hc hd m
    cases hm : c m with
    | true =>
      have h1 := hc m hm
      have h2 : d m = false := by
        cases e : d m with
        | false => rfl
        | true => have := ((hd m).1 e).2; rw [hm] at this; cases this
      rw [h2]
      simp only [if_true, Bool.false_eq_true, if_false]
      omega
    | false =>
      by_cases hlt : m < h
      · rw [(hd m).2 ⟨hlt, hm⟩]
        simp only [if_true, Bool.false_eq_true, if_false]
        omega
      · have h2 : d m = false := by
          cases e : d m with
          | false => rfl
          | true => exact absurd ((hd m).1 e).1 hlt
        rw [h2]
        simp only [Bool.false_eq_true, if_false]
        omega
theorem many_none (m : Nat) : many (fun _ => false) m = 0 := by unfold many; simp

/-- a map counts just the numbers of c, each at most k times -/
structure Cnt (D : DataW Unit) (c : Nat → Bool) (k : Int) : Prop where
  has_ : ∀ x, Maps.has D (.int .i64 x) = true ↔ ∃ n : Nat, c n = true ∧ x = n
  at_ : ∀ n : Nat, ∃ q : Int, D.atKey (.int .i64 (n : Int)) (.lit (.int .i64 0)) = .lit (.int .i64 q) ∧ 0 ≤ q ∧ q ≤ k ∧ (0 < q ↔ c n = true)
  size_ : Maps.size D = many c 64
theorem Cnt.start (k : Int) (hk : 0 ≤ k) : Cnt (.map []) (fun _ => false) k := by
  refine ⟨fun x => ?_, fun n => ⟨0, ?_, by omega, hk, by simp⟩, by rw [many_none]; rfl⟩
  · constructor
    · intro h; simp [Maps.has] at h
    · rintro ⟨n, h, _⟩; cases h
  · exact atKey_of_not_has (by simp [Maps.has]) _
theorem lit_inj {a b : Int} (h : (DataW.lit (.int .i64 a) : DataW Unit) = .lit (.int .i64 b)) : a = b := by
  injection h with h
  injection h with _ h
theorem Cnt.put {D : DataW Unit} {c : Nat → Bool} {k k' q : Int} {n : Nat} (H : Cnt D c k) (ht : Tidy D) (hn : n < 64) (hq : D.atKey (.int .i64 (n : Int)) (.lit (.int .i64 0)) = .lit (.int .i64 q)) (hk : q + 1 ≤ k') (hkk : k ≤ k') : Cnt (D.put (.int .i64 (n : Int)) (.lit (.int .i64 (q + 1)))) (andOne c n) k' := by
  have hkey : WideAt.IsKeyLit (Lit.int .i64 (n : Int)) := trivial
  have hq0 : 0 ≤ q := by
    obtain ⟨q', h1, h2, _, _⟩ := H.at_ n
    rw [hq] at h1
    have := lit_inj h1
    omega
  refine ⟨fun x => ?_, fun m => ?_, ?_⟩
  · by_cases e : x = (n : Int)
    · subst e
      rw [has_put_same ht.isMap hkey]
      exact ⟨fun _ => ⟨n, by simp [andOne], rfl⟩, fun _ => rfl⟩
    · rw [has_put_other (fun h => e (by injection h)), H.has_ x]
      constructor
      · rintro ⟨m, h1, h2⟩
        exact ⟨m, by simp [andOne, h1], h2⟩
      · rintro ⟨m, h1, rfl⟩
        refine ⟨m, ?_, rfl⟩
        simp [andOne] at h1
        rcases h1 with h1 | h1
        · exact h1
        · subst h1; exact absurd rfl e
  · by_cases e : m = n
    · subst e
      exact ⟨q + 1, atKey_put_same ht.isMap hkey _ _, by omega, hk, by simp [andOne]; omega⟩
    · obtain ⟨q', h1, h2, h3, h4⟩ := H.at_ m
      refine ⟨q', ?_, h2, by omega, ?_⟩
      · rw [atKey_put_other (fun h => e (by injection h with _ h; omega))]
        exact h1
      · rw [h4]
        simp [andOne, e]
  · rw [size_put ht, many_one, H.size_]
    cases h : c n with
    | true =>
      rw [if_pos ((H.has_ _).2 ⟨n, h, rfl⟩), if_neg (by simp)]
      rfl
    | false =>
      have h1 : ¬ Maps.has D (.int .i64 (n : Int)) = true := fun h1 => by
        obtain ⟨m, h2, h3⟩ := (H.has_ _).1 h1
        obtain rfl : m = n := by omega
        rw [h] at h2
        cases h2
      rw [if_neg h1, if_pos ⟨hn, rfl⟩]

/-- the numbers of a set rise -/
theorem nums_rise : ∀ (L : List Sp), Norm L → (nums L).Pairwise (· < ·)
  | [], _ => List.Pairwise.nil
  | p :: L, h => by
    unfold nums
    rw [List.flatMap_cons]
    refine List.pairwise_append.2 ⟨?_, nums_rise L h.tail, fun x hx y hy => ?_⟩
    · unfold numsOf
      rw [List.pairwise_map]
      exact List.Pairwise.imp (fun hab => by omega) List.pairwise_lt_range
    · have h1 := h.above (mem_nums.1 hy)
      unfold numsOf at hx
      rw [List.mem_map] at hx
      obtain ⟨k, hk, rfl⟩ := hx
      rw [List.mem_range] at hk
      omega
theorem pairs_at (r : Int) : ∀ (L : List Sp) (i : Nat) (h : i < L.length), (pairsOf r L)[i * 2]? = some ((r + L[i].1) % 16777216) ∧ (pairsOf r L)[i * 2 + 1]? = some ((r + L[i].2) % 16777216)
  | p :: L, 0, h => by unfold pairsOf; rw [List.flatMap_cons]; exact ⟨rfl, rfl⟩
  | p :: L, i + 1, h => by
    have := pairs_at r L i (by simpa using h)
    have e : pairsOf r (p :: L) = (r + p.1) % 16777216 :: (r + p.2) % 16777216 :: pairsOf r L := by unfold pairsOf; rw [List.flatMap_cons]; rfl
    rw [e, show (i + 1) * 2 = i * 2 + 1 + 1 from by omega, show i * 2 + 1 + 1 + 1 = (i * 2 + 1) + 1 + 1 from by omega]
    simpa using this
theorem isPairs_of_own {w : World} {B : Nat} {v : Value} {r : Int} {L : List Sp} (h : w.ownsRow B 24 1 v (pairsOf r L).length (encU (pairsOf r L))) : ∃ A c, v = .slice A (L.length * 2) c ∧ IsPairs w w.heap.size A r L := by
  rw [pairsOf_length] at h
  obtain ⟨A, c, rfl⟩ := Own.shape h
  refine ⟨A, c, rfl, fun k hk => ?_⟩
  obtain ⟨g, h1, _, h3, h4, _⟩ := Own.lt h (show k * 2 < L.length * 2 by omega)
  obtain ⟨g', h1', _, _, h4', _⟩ := Own.lt h (show k * 2 + 1 < L.length * 2 by omega)
  have hg : g' = g := by
    rw [h1] at h1'
    injection h1' with h1'
    injection h1' with h1' _ _
    exact h1'.symm
  subst hg
  obtain ⟨p1, p2⟩ := pairs_at r L k hk
  refine ⟨g', h1, h3, ?_, ?_⟩
  · rw [h4]
    unfold encU
    rw [List.getElem?_map, p1]
    rfl
  · rw [h4']
    unfold encU
    rw [List.getElem?_map, p2]
    rfl

/-- what was named among the first j -/
def SoNamed (f : Nat) (ys : List Int) (d : Nat → Bool) : Prop := ∀ n : Nat, d n = true ↔ ∃ y ∈ ys, (f : Int) + y = n
theorem soNamed_nil (f : Nat) : SoNamed f [] (fun _ => false) := fun n => by simp
theorem SoNamed.step {f n : Nat} {ys : List Int} {y : Int} {d : Nat → Bool} (h : SoNamed f ys d) (hy : (f : Int) + y = n) : SoNamed f (ys ++ [y]) (andOne d n) := fun m => by
  constructor
  · intro hm
    simp [andOne] at hm
    rcases hm with hm | hm
    · obtain ⟨z, h1, h2⟩ := (h m).1 hm
      exact ⟨z, List.mem_append_left _ h1, h2⟩
    · subst hm
      exact ⟨y, by simp, hy⟩
  · rintro ⟨z, h1, h2⟩
    simp only [andOne, Bool.or_eq_true, beq_iff_eq]
    rcases List.mem_append.1 h1 with h1 | h1
    · exact .inl ((h m).2 ⟨z, h1, h2⟩)
    · rw [List.mem_singleton.1 h1] at h2
      exact .inr (by omega)
theorem SoNamed.new {f n : Nat} {ys : List Int} {y : Int} {d : Nat → Bool} (h : SoNamed f ys d) (hy : (f : Int) + y = n) (hr : ∀ z ∈ ys, z < y) : d n = false := by
  cases e : d n with
  | false => rfl
  | true =>
    obtain ⟨z, h1, h2⟩ := (h n).1 e
    have := hr z h1
    omega
/-- at the end: named is just what didn't come -/
theorem soNamed_end {S : Int} {f high : Nat} {c d : Nat → Bool} {D : DataW Unit} {L : List Sp} (hH : Held S f c D) (hlow : ∀ i, i < f → c i = true) (htop : ∀ i, c i = true → i < high) (hh : high ≤ 64) (hf : f ≤ high)
    (hN : ∀ y, In y L ↔ (0 ≤ y ∧ y < (high : Int) - f) ∧ ¬ Maps.has D (keyOfs ((S + (f : Int)) % 16777216) y) = true) (h : SoNamed f (nums L) d) (n : Nat) : d n = true ↔ n < high ∧ c n = false := by
  have hlt : ∀ i, c i = true → i < 64 := fun i hi => by have := htop i hi; omega
  have hkey : ∀ m : Nat, keyOfs ((S + (f : Int)) % 16777216) (m : Int) = .int .u32 ((S + ((f + m : Nat) : Int)) % 16777216) := fun m => by unfold keyOfs; congr 1; omega
  rw [h n]
  constructor
  · rintro ⟨y, hy, e⟩
    obtain ⟨h1, h2⟩ := (hN y).1 (mem_nums.1 hy)
    obtain ⟨m, rfl⟩ : ∃ m : Nat, y = m := ⟨y.toNat, by omega⟩
    rw [hkey m, hH.at_ (by omega) hlt] at h2
    obtain rfl : n = f + m := by omega
    refine ⟨by omega, ?_⟩
    simpa using h2
  · rintro ⟨h1, h2⟩
    have hfn : f ≤ n := by
      rcases Nat.lt_or_ge n f with h3 | h3
      · rw [hlow n h3] at h2; cases h2
      · exact h3
    refine ⟨((n - f : Nat) : Int), mem_nums.2 ((hN _).2 ⟨by omega, ?_⟩), by omega⟩
    rw [hkey (n - f), show f + (n - f) = n from by omega, hH.at_ (by omega) hlt, h2]
    simp
end Go.Proofs.Ytallhdlnhegjiaa.polliwogNames
