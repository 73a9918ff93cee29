/- What the sort of Of leaves: the shelf's contract of slices.SortFunc, laid at this program field by field: a row of spans, sorted by where they begin. Condition: fewer than 2^62 spans. -/
import Derived.Shelf.SlSortCmp.WholeK
import Derived.Test.YtallhdlnhegjiaaSpanKit
namespace Go.Proofs.Ytallhdlnhegjiaa.Spans
open Go.ChangeShapes Go.WideShapes Go.ChangeAt Go.RowKit Go.Lib Go.Sort
set_option linter.unusedVariables false

def sortRen : Go.Shelf.Ren := ⟨fun | 6 => 58 | 15 => 71 | 14 => 70 | 28 => 85 | 29 => 86 | 20 => 77 | 21 => 78 | 22 => 79 | 23 => 80 | 24 => 81 | 25 => 82 | 26 => 83 | 27 => 84 | 46 => 87 | 47 => 88 | 48 => 89 | 49 => 90 | 50 => 91 | 57 => 92 | n => n, fun | 22 => 53 | 24 => 55 | 25 => 97 | 3 => 3 | 39 => 91 | 0 => 0 | 53 => 22 | 55 => 126 | 4 => 4 | 46 => 118 | 45 => 117 | 50 => 122 | 5 => 5 | 9 => 9 | 66 => 127 | 70 => 131 | 76 => 133 | 77 => 134 | n => n, fun n => n⟩
set_option maxRecDepth 100000 in
theorem sortL : SlLaysF0.n6 Try.prog sortRen where
  mixed := by kernel_rfl
  f6 := ⟨Try.f58.name, by kernel_rfl, Try.func58.trans (congrArg some (by kernel_rfl))⟩
  f14 := ⟨Try.f70.name, by kernel_rfl, Try.func70.trans (congrArg some (by kernel_rfl))⟩
  f15 := Try.func71.trans (congrArg some (by kernel_rfl))
  f20 := ⟨Try.f77.name, by kernel_rfl, Try.func77.trans (congrArg some (by kernel_rfl))⟩
  f21 := ⟨Try.f78.name, by kernel_rfl, Try.func78.trans (congrArg some (by kernel_rfl))⟩
  f22 := ⟨Try.f79.name, by kernel_rfl, Try.func79.trans (congrArg some (by kernel_rfl))⟩
  f23 := ⟨Try.f80.name, by kernel_rfl, Try.func80.trans (congrArg some (by kernel_rfl))⟩
  f24 := ⟨Try.f81.name, by kernel_rfl, Try.func81.trans (congrArg some (by kernel_rfl))⟩
  f25 := ⟨Try.f82.name, by kernel_rfl, Try.func82.trans (congrArg some (by kernel_rfl))⟩
  f26 := ⟨Try.f83.name, by kernel_rfl, Try.func83.trans (congrArg some (by kernel_rfl))⟩
  f27 := ⟨Try.f84.name, by kernel_rfl, Try.func84.trans (congrArg some (by kernel_rfl))⟩
  f28 := Try.func85.trans (congrArg some (by kernel_rfl))
  f29 := Try.func86.trans (congrArg some (by kernel_rfl))
  f46 := ⟨Try.f87.name, by kernel_rfl, Try.func87.trans (congrArg some (by kernel_rfl))⟩
  f47 := Try.func88.trans (congrArg some (by kernel_rfl))
  f48 := Try.func89.trans (congrArg some (by kernel_rfl))
  f49 := ⟨Try.f90.name, by kernel_rfl, Try.func90.trans (congrArg some (by kernel_rfl))⟩
  f50 := ⟨Try.f91.name, by kernel_rfl, Try.func91.trans (congrArg some (by kernel_rfl))⟩
  f57 := ⟨Try.f92.name, by kernel_rfl, Try.func92.trans (congrArg some (by kernel_rfl))⟩
  t0 := Try.underlying0
  a0 := Try.isAgg0
  z0 := Try.sizeOf0
  v0 := Try.zeroValue0
  t3 := Try.underlying3
  a3 := Try.isAgg3
  z3 := Try.sizeOf3
  v3 := Try.zeroValue3
  t4 := Try.underlying4
  a4 := Try.isAgg4
  z4 := Try.sizeOf4
  v4 := Try.zeroValue4
  t5 := Try.underlying5
  a5 := Try.isAgg5
  z5 := Try.sizeOf5
  v5 := Try.zeroValue5
  t9 := Try.underlying9
  a9 := Try.isAgg9
  z9 := Try.sizeOf9
  v9 := Try.zeroValue9
  t22 := Try.underlying53
  a22 := Try.isAgg53
  z22 := Try.sizeOf53
  v22 := Try.zeroValue53
  t25 := Try.underlying97
  a25 := Try.isAgg97
  z25 := Try.sizeOf97
  v25 := Try.zeroValue97
  t39 := Try.underlying91
  a39 := Try.isAgg91
  z39 := Try.sizeOf91
  v39 := Try.zeroValue91
  t45 := Try.underlying117
  a45 := Try.isAgg117
  z45 := Try.sizeOf117
  v45 := Try.zeroValue117
  t46 := Try.underlying118
  a46 := Try.isAgg118
  z46 := Try.sizeOf118
  v46 := Try.zeroValue118
  t50 := Try.underlying122
  a50 := Try.isAgg122
  z50 := Try.sizeOf122
  v50 := Try.zeroValue122
  t53 := Try.underlying22
  a53 := Try.isAgg22
  z53 := Try.sizeOf22
  v53 := Try.zeroValue22
  t55 := Try.underlying126
  a55 := Try.isAgg126
  z55 := Try.sizeOf126
  v55 := Try.zeroValue126
  t66 := Try.underlying127
  a66 := Try.isAgg127
  z66 := Try.sizeOf127
  v66 := Try.zeroValue127
  t70 := Try.underlying131
  a70 := Try.isAgg131
  z70 := Try.sizeOf131
  v70 := Try.zeroValue131
  t76 := Try.underlying133
  a76 := Try.isAgg133
  z76 := Try.sizeOf133
  v76 := Try.zeroValue133
  t77 := Try.underlying134
  a77 := Try.isAgg134
  z77 := Try.sizeOf134
  v77 := Try.zeroValue134

theorem ltOf_cmp (x y : Sp) : ltOf (fun x y : Sp => cmpI x.1 y.1) x y = decide (x.1 < y.1) := by
  unfold ltOf cmpI
  by_cases h1 : x.1 < y.1
  · simp [h1]
  · by_cases h2 : y.1 < x.1 <;> simp [h1, h2]
theorem swo : SWO (ltOf fun x y : Sp => cmpI x.1 y.1) where
  irrefl x := by rw [ltOf_cmp]; simp
  trans x y z h1 h2 := by rw [ltOf_cmp] at *; simp at *; omega
  ntrans x y z h1 h2 := by rw [ltOf_cmp] at *; simp at *; omega
set_option maxHeartbeats 1000000 in
theorem closure_any (x y : Sp) (W : World) : Calls Try.prog 59 #[.agg #[.int .i64 x.1, .int .i64 x.2], .agg #[.int .i64 y.1, .int .i64 y.2]] W fun e w' => e = .returned (.int .i64 (cmpI x.1 y.1)) ∧ ∃ q os', w' = grow (W.drewN q) os' := by
  have hcon := fun W' => compare_any x.1 y.1 W'
  generalize cmpI x.1 y.1 = r at hcon ⊢
  go_enter Try.func59, Try.ntmps59
  go_wp2_with (go_at_call 60; refine (hcon _).mono ?_; rintro e w' ⟨rfl, rfl⟩)
  go_ret
  exact ⟨rfl, 0, _, by rw [alloc_eq_grow, alloc_eq_grow, grow_grow]; rfl⟩
theorem closure_lays (blk off size : Nat) (w : World) : CmpLays Try.prog 59 #[] enc2 2 (fun x y : Sp => cmpI x.1 y.1) blk off size w :=
  fun _ _ _ _ x y => closure_any x y _
theorem sort_row (blk off cap : Nat) (d : Array Sp) (w : World) (hH : HoldsK enc2 2 w blk off d) (hblk : blk < w.heap.size) (hsz : d.size < 4611686018427387904) :
    Calls Try.prog 58 #[.slice (some ⟨blk, off, none⟩) d.size cap, .func (.func 59) #[] #[]] w fun e w' => e = .returned (.tuple #[]) ∧ ∃ d' n os, PermIn 0 d.size d d' ∧ SortedIn (ltOf fun x y : Sp => cmpI x.1 y.1) 0 d.size d' ∧ w' = sortWorldK enc2 2 w blk off n d' os :=
  AnyQ.slices_SortFunc sortL 2 Try.isAgg55 Try.sizeOf55 enc2 (fun _ => rfl) (fun x v hv => by simp [enc2] at hv; rcases hv with rfl | rfl <;> rfl) (fun x y => cmpI x.1 y.1) swo 59 #[] blk off cap d w (enters_of Try.func59 (by kernel_rfl) rfl) (closure_lays blk off d.size w) hH hblk hsz
theorem insert_none (fv : Value) (w : World) : Calls Try.prog 77 #[.slice none 0 0, .int .i64 0, .int .i64 0, fv] w fun e w' => e = .returned (.tuple #[]) ∧ w' = w := by
  go_enter Try.func77, Try.ntmps77
  go_wp2
  refine wp_loop_rounds 1 ?_
  rw [rounds_succ]
  go_wp2
  go_end0
  exact ⟨rfl, rfl⟩
theorem pdq_none (lim : Int) (fv : Value) (w : World) : Calls Try.prog 70 #[.slice none 0 0, .int .i64 0, .int .i64 0, .int .i64 lim, fv] w fun e w' => e = .returned (.tuple #[]) ∧ w' = w := by
  go_enter Try.func70, Try.ntmps70
  go_wp2
  refine wp_loop_rounds 1 ?_
  rw [rounds_succ]
  go_wp2_with (go_at_call 77; refine (insert_none _ _).mono ?_; rintro e w' ⟨rfl, rfl⟩)
  (try simp only [Exit.inBlock, Exit.then]); refine bodyPost_ret (results_none rfl _ _ _) rfl ?_
  exact ⟨rfl, rfl⟩
theorem len_none (w : World) : Calls Try.prog 71 #[.int .u64 0] w fun e w' => e = .returned (.int .i64 (Lib.bitLen 0 : Nat)) ∧ w' = w :=
  Any.bits_Len (SlLaysF0.n15.bits (P := Try.prog) (ρ := sortRen) { sortL with }) 0 w (by omega) (by omega)
theorem sort_none (fv : Value) (w : World) : Calls Try.prog 58 #[.slice none 0 0, fv] w fun e w' => e = .returned (.tuple #[]) ∧ w' = w := by
  have hl := len_none
  generalize ((Lib.bitLen 0 : Nat) : Int) = q at hl
  go_enter Try.func58, Try.ntmps58
  go_wp2_with (first | (go_at_call 71; refine (hl _).mono ?_; rintro e w' ⟨rfl, rfl⟩) | (go_at_call 70; refine (pdq_none _ _ _).mono ?_; rintro e w' ⟨rfl, rfl⟩))
  go_end0
  exact ⟨rfl, rfl⟩

/-! ### between the two words for a row -/
theorem flatK_flat (l : List Sp) : flatK enc2 2 l.toArray = (flat l).toArray := by
  apply ext_get!
  · simp [flat_length]
  · intro t ht
    rw [size_flatK] at ht
    have ht' : t < l.length * 2 := by simpa using ht
    rw [get_flatK _ _ _ _ ht]
    have hi : t / 2 < l.length := by omega
    obtain ⟨h0, h1⟩ := flat_at l (t / 2) hi
    have e1 : l.toArray[t / 2]! = l[t / 2] := by rw [getElem!_pos _ _ (by simpa using hi)]; simp
    rw [e1]
    have e2 : (flat l).toArray[t]! = ((flat l)[t]?).getD default := by simp [getElem!_def]; cases (flat l)[t]? <;> rfl
    rw [e2]
    generalize l[t / 2] = q at h0 h1 ⊢
    rcases Nat.mod_two_eq_zero_or_one t with c | c
    · rw [show t / 2 * 2 = t from by omega] at h0
      rw [c, h0]; rfl
    · rw [show t / 2 * 2 + 1 = t from by omega] at h1
      rw [c, h1]; rfl
theorem holds_of_own {w : World} {B : Nat} {v : Value} {l : List Sp} (h : w.ownsRow B 55 2 v l.length (flat l)) (hv : v ≠ .slice none 0 0) :
    ∃ g cap, v = .slice (some ⟨g, 0, none⟩) l.length cap ∧ B ≤ g ∧ g < w.heap.size ∧ HoldsK enc2 2 w g 0 l.toArray := by
  rcases h.2 with ⟨e0, _⟩ | ⟨g, cap, cur, rfl, hb, hg, hn, hm, hs, ht⟩
  · exact absurd e0 hv
  · refine ⟨g, cap, rfl, hb, (Array.getElem?_eq_some_iff.1 hg).1, ?_⟩
    unfold HoldsK
    rw [flatK_flat]
    intro j hj
    have hj' : j < l.length * 2 := by simpa [flat_length] using hj
    refine ⟨?_, by simp [World.frozen?, hg]⟩
    have e1 : (cur.toList.take (l.length * 2))[j]? = (flat l)[j]? := by rw [ht]
    rw [List.getElem?_take, if_pos hj', Array.getElem?_toList] at e1
    rw [Nat.zero_add, cell_of_row _ _ _ _ _ _ hg, e1, List.getElem?_eq_getElem (by rw [flat_length]; exact hj')]
    simp [getElem!_pos, flat_length, hj']
theorem own_sorted {w : World} {B g n cap q : Nat} {xs ys : List Value} (os : Array Obj) (h : w.ownsRow B 55 2 (.slice (some ⟨g, 0, none⟩) n cap) n xs) (hy : ys.length = n * 2) :
    (grow (putRow id (Sort.ahead w q) g 0 ys.toArray) os).ownsRow B 55 2 (.slice (some ⟨g, 0, none⟩) n cap) n ys ∧ Below B w (grow (putRow id (Sort.ahead w q) g 0 ys.toArray) os) := by
  rcases h.2 with ⟨e0, _⟩ | ⟨g', cap', cur, e0, hb, hg, hn, hm, hs, ht⟩
  · cases e0
  · injection e0 with e1 _ e3
    injection e1 with e1
    injection e1 with e1
    subst e1; subst e3
    have hlt := (Array.getElem?_eq_some_iff.1 hg).1
    have hsz : (putRow id (Sort.ahead w q) g 0 ys.toArray).heap.size = w.heap.size := by simp [putRow, mapBlock, Sort.ahead]
    have hold : ∀ k, k < w.heap.size → (grow (putRow id (Sort.ahead w q) g 0 ys.toArray) os).heap[k]? = (putRow id (Sort.ahead w q) g 0 ys.toArray).heap[k]? := by
      intro k hk
      unfold grow
      exact Array.getElem?_append_left (by rw [hsz]; exact hk)
    refine ⟨⟨hy, .inr ⟨g, cap, putCells id 0 ys.toArray cur, rfl, hb, ?_, hn, hm, by simpa [putCells] using hs, ?_⟩⟩, ⟨rfl, rfl, rfl, ?_, ?_⟩⟩
    · rw [hold g hlt]
      simp [putRow, mapBlock, Sort.ahead, Array.getElem?_modify, hg, onCells]
    · apply List.ext_getElem?
      intro j
      rw [List.getElem?_take, Array.getElem?_toList]
      by_cases hj : j < n * 2
      · have hjc : j < cur.size := by rw [hs]; omega
        simp only [if_pos hj, putCells, Array.getElem?_mapIdx, Array.getElem?_eq_getElem hjc, Option.map_some]
        rw [if_pos (by simp; omega), List.getElem?_eq_getElem (by omega)]
        simp [getElem!_pos, show j < ys.length by omega]
      · rw [if_neg hj, List.getElem?_eq_none (by omega)]
    · unfold grow
      rw [Array.size_append, hsz]
      omega
    · intro k hk
      rw [hold k (by omega)]
      simp [putRow, mapBlock, Sort.ahead, Array.getElem?_modify, show g ≠ k by omega]
theorem sort_any (v : Value) (l : List Sp) (B : Nat) (w : World) (hown : w.ownsRow B 55 2 v l.length (flat l)) (hl : l.length < 4611686018427387904) :
    Calls Try.prog 58 #[v, .func (.func 59) #[] #[]] w fun e w' => e = .returned (.tuple #[]) ∧ ∃ l' : List Sp, l'.Perm l ∧ l'.Pairwise (fun p q => p.1 ≤ q.1) ∧ w'.ownsRow B 55 2 v l'.length (flat l') ∧ Below B w w' := by
  by_cases hv : v = .slice none 0 0
  · subst hv
    have h0 : l = [] := by
      rcases hown.2 with ⟨_, h0⟩ | ⟨g, cap, cur, h1, _⟩
      · exact List.eq_nil_of_length_eq_zero h0
      · cases h1
    subst h0
    refine (sort_none _ w).mono ?_
    rintro e w' ⟨rfl, rfl⟩
    exact ⟨rfl, [], List.Perm.nil, List.Pairwise.nil, World.ownsRow_nil _ _ _ _, Below.refl _ _⟩
  · obtain ⟨g, cap, rfl, hB, hg, hH⟩ := holds_of_own hown hv
    have h := sort_row g 0 cap l.toArray w hH hg (by simpa using hl)
    rw [List.size_toArray] at h
    refine h.mono ?_
    rintro e w' ⟨rfl, d', n, os, hp, hs, rfl⟩
    obtain ⟨hp1, _, hp3⟩ := hp
    have hp1' : d'.size = l.length := by simpa using hp1
    have hperm : d'.toList.Perm l := by
      have h : d'.toList.Perm (l.take d'.size) := by simpa [← hp1'] using hp3
      rwa [hp1', List.take_length] at h
    have e : flatK enc2 2 d' = (flat d'.toList).toArray := by
      have := flatK_flat d'.toList
      simpa using this
    have hlen : d'.toList.length = l.length := by simpa using hp1'
    have R := own_sorted (q := n) (ys := flat d'.toList) os hown (by rw [flat_length, hlen])
    refine ⟨rfl, d'.toList, hperm, ?_, ?_, ?_⟩
    · rw [List.pairwise_iff_getElem]
      intro i j hi hj hij
      have := hs i j (Nat.zero_le _) hij (by rw [← hlen]; exact hj)
      rw [ltOf_cmp] at this
      rw [Array.length_toList] at hi hj
      rw [getElem!_pos d' j hj, getElem!_pos d' i hi] at this
      simp at this
      simpa using this
    · unfold sortWorldK putRowK
      rw [e, hlen]
      exact R.1
    · unfold sortWorldK putRowK
      rw [e]
      exact R.2
end Go.Proofs.Ytallhdlnhegjiaa.Spans
