/- The walks of package ring at strings: Take, grow, Put, Clear, New. Conditions: the ring lies in memory as it should, with at most 4096 places. -/
import Derived.Test.YtallhdlnhegjiaaRows
import Derived.WalkKit
import Derived.ProofKit
import Derived.OpenShut
import Derived.Lib.Hide
import Derived.BigRegion
import Derived.BigQuiet
import Derived.Deep.QuietTactic
import Derived.Deep.RegionHeld3
import Derived.Laws.CopyOwn
import Derived.Test.YtallhdlnhegjiaaRing
namespace Go.Proofs.Ytallhdlnhegjiaa.Ring
open Go.ChangeShapes Go.WideShapes Go.ChangeAt Go.RowKit
set_option linter.unusedVariables false

section
variable {w : World} {B r : Nat} {A : Option Addr} {pos len most : Nat} {cs : List ByteArray}
theorem Ring.stored (h : Ring w B r A pos len most cs) {G : Nat} (hA : A = some ⟨G, 0, none⟩) (i : Nat) (hi : i < cs.length) (x : ByteArray) : Ring (w.setCell ⟨G, i, none⟩ (.string x)) B r A pos len most (cs.set i x) := by
  obtain ⟨G', hA', hBG, hGr, hgb, cg, cf⟩ := h.row.at_ i hi
  obtain rfl : G' = G := by rw [hA] at hA'; injection hA' with h1; injection h1 with h1 _ _; exact h1.symm
  refine ⟨?_, h.base, .inr ⟨G', hA, hBG, hGr, ?_⟩, ?_, ?_, h.small, ?_⟩
  · unfold Head
    rw [heap_setCell_other _ _ _ _ (by exact fun e => hGr e.symm), List.length_set]
    exact h.head
  · rw [heap_setCell_same _ _ _ _ _ _ hgb]
    congr 2
    apply Array.ext_getElem?
    intro j
    rw [Array.getElem?_setIfInBounds]
    by_cases e : i = j
    · subst e; simp [hi]
    · simp [e, List.getElem?_set_ne e]
  · rw [List.length_set]; exact h.full
  · rw [List.length_set]; exact h.room
  · rw [List.length_set]; exact h.lies
theorem Ring.moved (h : Ring w B r A pos len most cs) (pos' : Nat) (hp : cs.length = 0 ∨ pos' < cs.length) : Ring (w.setCell ⟨r, 1, none⟩ (.int .i64 (pos' : Int))) B r A pos' len most cs := by
  refine ⟨?_, h.base, ?_, h.full, h.room, h.small, hp⟩
  · unfold Head
    rw [heap_setCell_same _ _ _ _ _ _ h.head]
    rfl
  · rcases h.row with hn | ⟨G, hA, hBG, hGr, hg⟩
    · exact .inl hn
    · exact .inr ⟨G, hA, hBG, hGr, (heap_setCell_other _ _ _ _ (by exact hGr)).trans hg⟩
theorem Ring.counted (h : Ring w B r A pos len most cs) (len' : Nat) (hf : len' ≤ cs.length) : Ring (w.setCell ⟨r, 2, none⟩ (.int .i64 (len' : Int))) B r A pos len' most cs := by
  refine ⟨?_, h.base, ?_, hf, h.room, h.small, h.lies⟩
  · unfold Head
    rw [heap_setCell_same _ _ _ _ _ _ h.head]
    rfl
  · rcases h.row with hn | ⟨G, hA, hBG, hGr, hg⟩
    · exact .inl hn
    · exact .inr ⟨G, hA, hBG, hGr, (heap_setCell_other _ _ _ _ (by exact hGr)).trans hg⟩
end

set_option maxHeartbeats 1000000 in
theorem take_any {w : World} {B r : Nat} {A : Option Addr} {pos len most : Nat} {cs : List ByteArray} (h : Ring w B r A pos len most cs) (hl : 0 < len) :
    Calls Try.prog 29 #[.pointer (some ⟨r, 0, none⟩)] w fun e w' => e = .returned (.tuple #[.string (cs.getD pos ByteArray.empty), .int .i64 0]) ∧
      Ring w' B r A ((pos + 1) % cs.length) (len - 1) most (cs.set pos ByteArray.empty) ∧ Below B w w' := by
  have b1 := h.small
  have b2 := h.full
  have b3 := h.room
  have b4 : pos < cs.length := by have := h.lies; omega
  have c0 := h.head.c0
  have c1 := h.head.c1
  have c2 := h.head.c2
  have f1 := h.head.free 1
  have f2 := h.head.free 2
  obtain ⟨G, rfl, hBG, hGr, hgb, cg, cf⟩ := h.row.at_ pos b4
  have HGB := Lib.hid hgb
  have H := Lib.hid h
  clear h hgb
  have q1 : (pos : Int) < (cs.length : Int) := by omega
  have q0 : (0 : Int) ≤ (pos : Int) := by omega
  go_enter Try.func29, Try.ntmps29
  go_wp2_with fail
  refine (first_any H.out hl).mono ?_
  rintro e w1 ⟨rfl, n1, rfl⟩
  obtain ⟨x, hx⟩ : ∃ x, cs.getD pos ByteArray.empty = x := ⟨_, rfl⟩
  rw [hx] at cg ⊢
  have HX := Lib.hid hx
  clear hx
  go_wp2_with fail
  go_region
  go_wp2_with fail
  have hR1 := (H.out.drawn ⟨n1 + 1, rfl⟩).stored rfl pos b4 ⟨#[]⟩
  have hB1 : Below B w ((w.drewN (n1 + 1)).setCell ⟨G, pos, none⟩ (.string ⟨#[]⟩)) := (Drawn.below ⟨n1 + 1, rfl⟩ B).setCell (by exact hBG) _
  generalize (w.drewN (n1 + 1)).setCell ⟨G, pos, none⟩ (.string ⟨#[]⟩) = W1 at hR1 hB1 ⊢
  clear c0 c1 c2 f1 f2 cg cf
  have hN : 0 < (cs.set pos ⟨#[]⟩).length := by rw [List.length_set]; omega
  have R1 := Lib.hid hR1
  clear hR1
  refine (place_any R1.out hN 1 (by omega) (by omega)).mono ?_
  rintro e w2 ⟨rfl, n2, rfl⟩
  rw [show (1 : Int).toNat = 1 from rfl, List.length_set]
  have R2 := Lib.hid (R1.out.drawn ⟨n2, rfl⟩)
  have hB2 := hB1.trans (Drawn.below ⟨n2, rfl⟩ B)
  have hm := Nat.mod_lt (pos + 1) (show 0 < cs.length by omega)
  obtain ⟨m, hme⟩ : ∃ m, (pos + 1) % cs.length = m := ⟨_, rfl⟩
  rw [hme] at hm ⊢
  have HME := Lib.hid hme
  clear hme
  generalize W1.drewN n2 = W2 at R2 hB2 ⊢
  have c1 := R2.out.head.c1
  have f1 := R2.out.head.free 1
  have c2 := R2.out.head.c2
  have f2 := R2.out.head.free 2
  clear R1 hB1
  have hl1 : (1 : Int) ≤ (len : Int) := by omega
  have hlen : (len : Int) - 1 = ((len - 1 : Nat) : Int) := by omega
  have HL := Lib.hid hlen
  clear hlen
  go_wp2
  go_ret2
  have R3 := (R2.out.moved m (.inr (by rw [List.length_set]; exact hm))).counted (len - 1) (by rw [List.length_set]; omega)
  have hB3 := (hB2.setCell (p := ⟨r, 1, none⟩) (H.out.base) (.int .i64 (m : Int))).setCell (p := ⟨r, 2, none⟩) (H.out.base) (.int .i64 ((len : Int) - 1))
  rw [HX.out]
  rw [← HL.out] at R3
  rw [← HME.out] at R3 hB3 ⊢
  exact ⟨rfl, R3, hB3⟩
/-- how many places a greater row has -/
theorem more_places (N most : Nat) (h : N < most) (hm : most ≤ 4096) : ∃ (M : Int) (n : Nat), (if (4 : Int) < 2 * (N : Int) then 2 * (N : Int) else 4) = M ∧ (if M < (most : Int) then M else (most : Int)) = (n : Int) ∧ N < n ∧ n ≤ most := by
  refine ⟨_, (if (if (4 : Int) < 2 * (N : Int) then 2 * (N : Int) else 4) < (most : Int) then (if (4 : Int) < 2 * (N : Int) then 2 * (N : Int) else 4) else (most : Int)).toNat, rfl, ?_, ?_, ?_⟩ <;> (repeat' split) <;> omega
theorem made_row {w : World} {base n g : Nat} (h : w.ownsRow base 9 1 (.slice (some ⟨g, 0, none⟩) n n) n (madeCells (Value.string ⟨#[]⟩).cells (n * 1)).toList) :
    w.heap[g]? = some (.cells (List.replicate n (Value.string ⟨#[]⟩)).toArray 9 (0, 0)) := by
  rcases h.2 with ⟨h1, _⟩ | ⟨g', cap, cur, h1, _, hh, _, _, hs, hx⟩
  · cases h1
  · injection h1 with h1 _ h3
    injection h1 with h1
    injection h1 with h1
    subst h1 h3
    rw [hh]
    congr 2
    apply Array.toList_inj.1
    rw [List.take_of_length_le (by simp; omega)] at hx
    rw [hx, Nat.mul_one]
    exact toList_madeCells_one _ _
theorem grown_none {w w' : World} (h : w.grownBy w' none) : Below w.heap.size w w' := ⟨h.os, h.tape, h.output, h.size, fun k hk => h.block k hk (by simp)⟩
/-- the greater row behind the copy -/
def laid (cs : List ByteArray) (pos len n : Nat) : List ByteArray := queue cs pos len ++ List.replicate (n - len) ByteArray.empty
theorem laid_splice (cs : List ByteArray) (pos len n : Nat) (h : len ≤ n) : splice (List.replicate n (Value.string ⟨#[]⟩)) 0 ((queue cs pos len).map Value.string) = (laid cs pos len n).map Value.string := by
  unfold splice laid
  rw [List.length_map, queue_length, List.take_zero, List.nil_append, List.map_append, Nat.zero_add, List.drop_replicate, List.map_replicate]
  rfl
theorem laid_length (cs : List ByteArray) (pos len n : Nat) (h : len ≤ n) : (laid cs pos len n).length = n := by
  unfold laid
  rw [List.length_append, queue_length, List.length_replicate]
  omega
theorem laid_queue (cs : List ByteArray) (pos len n : Nat) (h : len ≤ n) (x : ByteArray) (hx : x ∈ queue (laid cs pos len n) 0 len) : x ∈ queue cs pos len := by
  unfold queue at hx
  rw [List.mem_map] at hx
  obtain ⟨i, hi, rfl⟩ := hx
  rw [List.mem_range] at hi
  rw [laid_length _ _ _ _ h, Nat.zero_add, Nat.mod_eq_of_lt (by omega)]
  have e : (laid cs pos len n).getD i ByteArray.empty = (queue cs pos len).getD i ByteArray.empty := by
    unfold laid
    rw [List.getD_eq_getElem?_getD, List.getD_eq_getElem?_getD, List.getElem?_append_left (by rw [queue_length]; exact hi)]
  rw [e, List.getD_eq_getElem?_getD, List.getElem?_eq_getElem (by rw [queue_length]; exact hi)]
  exact List.getElem_mem _
theorem Ring.renewed {w : World} {B r : Nat} {A : Option Addr} {pos len most n g : Nat} {cs cs' : List ByteArray} (h : Ring w B r A pos len most cs) (hg : w.heap[g]? = some (.cells (cs'.map Value.string).toArray 9 (0, 0))) (hB : B ≤ g) (hgr : g ≠ r)
    (hn : cs'.length = n) (hln : len ≤ n) (hnm : n ≤ most) (hn0 : 0 < n) : Ring ((w.setCell ⟨r, 0, none⟩ (.slice (some ⟨g, 0, none⟩) n n)).setCell ⟨r, 1, none⟩ (.int .i64 0)) B r (some ⟨g, 0, none⟩) 0 len most cs' := by
  subst hn
  refine ⟨?_, h.base, .inr ⟨g, rfl, hB, hgr, ?_⟩, hln, hnm, h.small, .inr hn0⟩
  · unfold Head
    rw [heap_setCell_same _ _ _ _ _ _ (heap_setCell_same _ _ _ _ _ _ h.head)]
    rfl
  · rw [heap_setCell_other _ _ _ _ (by exact hgr), heap_setCell_other _ _ _ _ (by exact hgr)]
    exact hg
theorem src_cells {w : World} {base n c : Nat} {A : Option Addr} {xs : List Value} (h : w.ownsRow base 9 1 (.slice A n c) n xs) (hp : 0 < n) : ∃ ad, A = some ad ∧ ∀ j v, xs[j]? = some v → w.cell? (ad.add j) = some v := by
  obtain ⟨g, rfl, _⟩ := Own.lt h hp
  exact ⟨_, rfl, h.cells rfl⟩
theorem copy_len {XS : List Value} {len n : Nat} (h : XS.length = len) (hl : len ≤ n) : XS.length = len.min n := by rw [h]; exact (Nat.min_eq_left hl).symm
theorem size9 : (Try.prog.info? 9).map (·.size) = some 1 := by kernel_rfl
def Grew (w : World) (B r pos len most : Nat) (cs : List ByteArray) (w' : World) : Prop :=
  ∃ A' cs', Ring w' B r A' 0 len most cs' ∧ cs.length < cs'.length ∧ (∀ x ∈ queue cs' 0 len, x ∈ queue cs pos len) ∧ Below B w w'
set_option maxRecDepth 20000 in
set_option maxHeartbeats 1000000 in
theorem grow_any {w : World} {B r : Nat} {A : Option Addr} {pos len most : Nat} {cs : List ByteArray} (h : Ring w B r A pos len most cs) (hlt : cs.length < most) (hBw : B ≤ w.heap.size) :
    Calls Try.prog 54 #[.pointer (some ⟨r, 0, none⟩)] w fun e w' => e = .returned (.tuple #[]) ∧ Grew w B r pos len most cs w' := by
  obtain ⟨i0, hi, hz0, hz1, hz2⟩ := info_parts info9
  have b1 := h.small
  have b2 := h.full
  have c0 := h.head.c0
  have c3 := h.head.c3
  obtain ⟨M, n, hM, hn, hn1, hn2⟩ := more_places cs.length most hlt b1
  have hw : IntKind.i64.wrap (2 * (cs.length : Int)) = 2 * (cs.length : Int) := IntWalk.i64_in _ (by omega)
  have H := Lib.hid h
  clear h
  go_enter Try.func54, Try.ntmps54
  go_wp2
  go_quiet (fail)
  clear hM hn hw c0 c3
  have HQ := Lib.hid (H.out.drawn ⟨nq, rfl⟩)
  have hB0 := Drawn.below (w := w) ⟨nq, rfl⟩ B
  have hz0' : w.heap.size = (w.drewN nq).heap.size := rfl
  rw [hz0'] at hBw
  clear hz0'
  generalize w.drewN nq = W0 at HQ hB0 hBw ⊢
  go_wp2_with (at_make; refine wpList_make_full _ rfl _ _ 35 rfl W0.heap.size 9 i0 (.string ⟨#[]⟩) 1 Try.underlying35 hi hz0 hz1 .i64 .i64 (n : Int) (n : Int) n rfl rfl rfl rfl (by rw [hz2]; omega) (by unfold maxLen; omega) (Nat.le_refl _) ?_; intro W1 hown hgr)
  have hg1 := made_row hown
  have hB1 := grown_none hgr
  clear hown hgr
  have HG1 := Lib.hid hg1
  have HR1 := Lib.hid (HQ.out.below hB1)
  clear hg1
  refine (all_any HR1.out).mono ?_
  rintro e W2 ⟨A2, c2, rfl, hown2, hB2⟩
  rw [queue_length] at hown2 ⊢
  have HO2 := Lib.hid hown2
  have HR2 := Lib.hid (HR1.out.below hB2)
  have hlt1 : W0.heap.size < W1.heap.size := (Array.getElem?_eq_some_iff.1 HG1.out).1
  have HG2 := Lib.hid ((hB2.block _ hlt1).trans HG1.out)
  have hB12 := hB1.trans (hB2.mono hB1.size)
  clear hown2 hB1 hB2
  obtain ⟨XS, hXS⟩ : ∃ XS, XS = (queue cs pos len).map Value.string := ⟨_, rfl⟩
  have hXl : XS.length = len := by rw [hXS, List.length_map, queue_length]
  have hX1 : ∀ v ∈ XS, v.oneCell' = true := by
    intro v hv
    rw [hXS, List.mem_map] at hv
    obtain ⟨s, _, rfl⟩ := hv
    rfl
  rw [← hXS] at HO2
  have hsrc := src_cells HO2.out
  have HSRC := Lib.hid hsrc
  have HX1 := Lib.hid hX1
  have HXS := Lib.hid hXS
  have HXL := Lib.hid hXl
  clear hsrc hX1 hXS hXl
  go_wp2_with (with_reducible refine wpList_copy_splice rfl (.tmp 18) (.tmp 20) 35 35 rfl 9 Try.underlying35 size9 (some ⟨W0.heap.size, 0, none⟩) A2 n n len c2 rfl rfl W0.heap.size 0 (List.replicate n (.string ⟨#[]⟩)) 9 HG2.out XS (copy_len HXL.out (by omega)) (fun hp => ⟨rfl, HSRC.out (by rw [← HXL.out]; exact hp)⟩) (by rw [HXL.out, List.length_replicate]; omega) HX1.out W0.heap.size W0 hB12 (Nat.le_refl _) ?_; intro W3 HG3 hB3; have HR3 := Lib.hid (HQ.out.below hB3); have c0 := HR3.out.head.c0; have f0 := HR3.out.head.free 0; have c1 := HR3.out.head.c1; have f1 := HR3.out.head.free 1)
  rw [HXS.out, laid_splice _ _ _ _ (by omega)] at HG3
  have hgr : W0.heap.size ≠ r := by have := HQ.out.lt; omega
  have hr := HR3.out.renewed HG3.out hBw hgr (laid_length cs pos len n (by omega)) (by omega) hn2 (by omega)
  have hB4 := ((hB0.trans (hB3.mono hBw)).setCell (p := ⟨r, 0, none⟩) H.out.base (.slice (some ⟨W0.heap.size, 0, none⟩) n n)).setCell (p := ⟨r, 1, none⟩) H.out.base (.int .i64 0)
  have HR4 := Lib.hid hr
  have HB4 := Lib.hid hB4
  clear hr hB4 c0 c1 f0 f1
  go_wp2
  go_end0
  exact ⟨rfl, _, _, HR4.out, by rw [laid_length _ _ _ _ (by omega)]; exact hn1, laid_queue cs pos len n (by omega), HB4.out⟩
theorem mod_ne {N p i len : Nat} (hp : i < len) (hl : len < N) : (p + i) % N ≠ (p + len) % N := by
  intro h
  have h1 : (p + len) % N = ((p + i) % N + (len - i)) % N := by
    rw [Nat.mod_add_mod]
    congr 1
    omega
  rw [← h] at h1
  have h3 : (p + i) % N < N := Nat.mod_lt _ (by omega)
  generalize (p + i) % N = z at h1 h3
  by_cases hc : z + (len - i) < N
  · rw [Nat.mod_eq_of_lt hc] at h1
    omega
  · rw [Nat.mod_eq_sub_mod (by omega), Nat.mod_eq_of_lt (by omega)] at h1
    omega
theorem queue_put (cs : List ByteArray) (pos len : Nat) (hl : len < cs.length) (x y : ByteArray) (hy : y ∈ queue (cs.set ((pos + len) % cs.length) x) pos (len + 1)) : y = x ∨ y ∈ queue cs pos len := by
  rw [queue_succ, List.mem_append, List.length_set] at hy
  have hm := Nat.mod_lt (pos + len) (show 0 < cs.length by omega)
  rcases hy with hy | hy
  · right
    unfold queue at hy ⊢
    rw [List.mem_map] at hy ⊢
    obtain ⟨i, hi, rfl⟩ := hy
    refine ⟨i, hi, ?_⟩
    rw [List.mem_range] at hi
    have hne := mod_ne (p := pos) hi hl
    rw [List.length_set]
    rw [List.getD_eq_getElem?_getD, List.getD_eq_getElem?_getD, List.getElem?_set_ne (fun e => hne e.symm)]
  · left
    rw [List.mem_singleton] at hy
    rw [hy]
    simp [hm]
def PutDone (w : World) (B r pos len most : Nat) (cs : List ByteArray) (x : ByteArray) (w' : World) : Prop :=
  ∃ A' pos' cs', Ring w' B r A' pos' (len + 1) most cs' ∧ (∀ y ∈ queue cs' pos' (len + 1), y = x ∨ y ∈ queue cs pos len) ∧ Below B w w'
set_option maxRecDepth 20000 in
set_option maxHeartbeats 2000000 in
theorem put_any {w : World} {B r : Nat} {A : Option Addr} {pos len most : Nat} {cs : List ByteArray} (h : Ring w B r A pos len most cs) (hlt : len < most) (x : ByteArray) (hBw : B ≤ w.heap.size) :
    Calls Try.prog 31 #[.pointer (some ⟨r, 0, none⟩), .string x] w fun e w' => e = .returned (.int .i64 0) ∧ PutDone w B r pos len most cs x w' := by
  have b1 := h.small
  have b2 := h.full
  have b3 := h.room
  have H := Lib.hid h
  have hne : ((most : Int) - (len : Int) == 0) = false := by rw [beq_eq_false_iff_ne]; omega
  clear h
  by_cases hfull : len = cs.length
  · have heq : ((len : Int) == (cs.length : Int)) = true := by rw [beq_iff_eq]; omega
    go_enter Try.func31, Try.ntmps31
    go_wp2_with fail
    refine (room_any H.out).mono ?_
    rintro e w1 ⟨rfl, n1, rfl⟩
    have R0 := Lib.hid (H.out.drawn ⟨n1, rfl⟩)
    have hB0 := Drawn.below (w := w) ⟨n1, rfl⟩ B
    have hBw1 : B ≤ (w.drewN n1).heap.size := hBw
    generalize w.drewN n1 = W0 at R0 hB0 hBw1 ⊢
    have c0 := R0.out.head.c0
    have c2 := R0.out.head.c2
    have hF := Lib.hid hfull
    clear hfull
    go_wp2_with fail
    go_quiet (fail)
    clear c0 c2
    have R0' := Lib.hid (R0.out.drawn ⟨nq, rfl⟩)
    have hB0' := hB0.trans (Drawn.below ⟨nq, rfl⟩ B)
    have hBw1' : B ≤ (W0.drewN nq).heap.size := hBw1
    generalize W0.drewN nq = W0' at R0' hB0' hBw1' ⊢
    clear hB0 hBw1 R0
    go_wp2_with fail
    refine (grow_any R0'.out (by have := hF.out; omega) hBw1').mono ?_
    rintro e W1 ⟨rfl, A1, cs1, hR1, hl1, hq, hB1⟩
    have R1 := Lib.hid hR1
    have HQ := Lib.hid hq
    have hB1' := hB0'.trans hB1
    have hll : len < cs1.length := by have := hF.out; omega
    obtain ⟨pos1, hpos1⟩ : ∃ pos1 : Nat, pos1 = 0 := ⟨_, rfl⟩
    rw [← hpos1] at R1 HQ
    clear hR1 hq hB1 hB0' hpos1 hl1
    have hN : 0 < cs1.length := by omega
    have hm := Nat.mod_lt (pos1 + len) hN
    obtain ⟨G, rfl, hBG, hGr, hgb, cg, cf⟩ := R1.out.row.at_ ((pos1 + len) % cs1.length) hm
    have c0 := R1.out.head.c0
    have c2 := R1.out.head.c2
    have b5 := R1.out.room
    have HPL := Lib.hid (fun (w' : World) (hd : Drawn W1 w') => place_any (R1.out.drawn hd) hN (len : Int) (by omega) (by omega))
    obtain ⟨m, hme⟩ : ∃ m, (pos1 + len) % cs1.length = m := ⟨_, rfl⟩
    simp only [Int.toNat_natCast, hme] at HPL
    rw [hme] at hm cg cf
    have HME := Lib.hid hme
    clear hme hgb
    have hq1 : (m : Int) < (cs1.length : Int) := by omega
    have hq0 : (0 : Int) ≤ (m : Int) := by omega
    have hrG : r ≠ G := fun e => hGr e.symm
    go_wp2_with fail
    go_region_held3 (fun w' => w'.cell? ⟨r, 0, none⟩ = some (.slice (some ⟨G, 0, none⟩) cs1.length cs1.length) ∧ w'.cell? ⟨r, 2, none⟩ = some (.int .i64 (len : Int)))
      (go_keep)
      (first
        | (go_at_call 52; refine (HPL.out _ ⟨1, rfl⟩).mono ?_; rintro e w2 ⟨rfl, n2, rfl⟩))
    have R2 := Lib.hid ((R1.out.drawn ⟨1 + n2, rfl⟩).stored rfl m hm x)
    have hB2 : Below B w ((W1.drewN (1 + n2)).setCell ⟨G, m, none⟩ (.string x)) := (hB1'.trans (Drawn.below ⟨1 + n2, rfl⟩ B)).setCell (by exact hBG) _
    clear c0 c2 cf cg HPL
    generalize (W1.drewN (1 + n2)).setCell ⟨G, m, none⟩ (.string x) = W2 at R2 hB2 ⊢
    have c2 := R2.out.head.c2
    have f2 := R2.out.head.free 2
    have hR3 := R2.out.counted (len + 1) (by rw [List.length_set]; omega)
    have hB3 := hB2.setCell (p := ⟨r, 2, none⟩) H.out.base (.int .i64 ((len + 1 : Nat) : Int))
    have hc : ((len + 1 : Nat) : Int) = (len : Int) + 1 := by omega
    rw [hc] at hR3 hB3
    have HR3 := Lib.hid hR3
    have HB3 := Lib.hid hB3
    clear hR3 hB3 hB2 hc
    go_wp2
    go_ret
    refine ⟨rfl, _, _, _, HR3.out, ?_, HB3.out⟩
    rw [← HME.out]
    intro y hy
    rcases queue_put cs1 pos1 len hll x y hy with e | e
    · exact .inl e
    · exact .inr (HQ.out y e)
  · have heq : ((len : Int) == (cs.length : Int)) = false := by rw [beq_eq_false_iff_ne]; omega
    go_enter Try.func31, Try.ntmps31
    go_wp2_with fail
    refine (room_any H.out).mono ?_
    rintro e w1 ⟨rfl, n1, rfl⟩
    have R0 := Lib.hid (H.out.drawn ⟨n1, rfl⟩)
    have hB0 := Drawn.below (w := w) ⟨n1, rfl⟩ B
    generalize w.drewN n1 = W0 at R0 hB0 ⊢
    have c0 := R0.out.head.c0
    have c2 := R0.out.head.c2
    have hll : len < cs.length := by omega
    clear hfull
    go_wp2_with fail
    go_quiet (fail)
    clear c0 c2
    have R1 := Lib.hid (R0.out.drawn ⟨nq, rfl⟩)
    have hB1' := hB0.trans (Drawn.below ⟨nq, rfl⟩ B)
    generalize W0.drewN nq = W1 at R1 hB1' ⊢
    have HQ : Hid (∀ (x : ByteArray), x ∈ queue cs pos len → x ∈ queue cs pos len) := fun x h => h
    clear hB0 R0
    have hN : 0 < cs.length := by omega
    have hm := Nat.mod_lt (pos + len) hN
    obtain ⟨G, rfl, hBG, hGr, hgb, cg, cf⟩ := R1.out.row.at_ ((pos + len) % cs.length) hm
    have c0 := R1.out.head.c0
    have c2 := R1.out.head.c2
    have b5 := R1.out.room
    have HPL := Lib.hid (fun (w' : World) (hd : Drawn W1 w') => place_any (R1.out.drawn hd) hN (len : Int) (by omega) (by omega))
    obtain ⟨m, hme⟩ : ∃ m, (pos + len) % cs.length = m := ⟨_, rfl⟩
    simp only [Int.toNat_natCast, hme] at HPL
    rw [hme] at hm cg cf
    have HME := Lib.hid hme
    clear hme hgb
    have hq1 : (m : Int) < (cs.length : Int) := by omega
    have hq0 : (0 : Int) ≤ (m : Int) := by omega
    have hrG : r ≠ G := fun e => hGr e.symm
    go_wp2_with fail
    go_region_held3 (fun w' => w'.cell? ⟨r, 0, none⟩ = some (.slice (some ⟨G, 0, none⟩) cs.length cs.length) ∧ w'.cell? ⟨r, 2, none⟩ = some (.int .i64 (len : Int)))
      (go_keep)
      (first
        | (go_at_call 52; refine (HPL.out _ ⟨1, rfl⟩).mono ?_; rintro e w2 ⟨rfl, n2, rfl⟩))
    have R2 := Lib.hid ((R1.out.drawn ⟨1 + n2, rfl⟩).stored rfl m hm x)
    have hB2 : Below B w ((W1.drewN (1 + n2)).setCell ⟨G, m, none⟩ (.string x)) := (hB1'.trans (Drawn.below ⟨1 + n2, rfl⟩ B)).setCell (by exact hBG) _
    clear c0 c2 cf cg HPL
    generalize (W1.drewN (1 + n2)).setCell ⟨G, m, none⟩ (.string x) = W2 at R2 hB2 ⊢
    have c2 := R2.out.head.c2
    have f2 := R2.out.head.free 2
    have hR3 := R2.out.counted (len + 1) (by rw [List.length_set]; omega)
    have hB3 := hB2.setCell (p := ⟨r, 2, none⟩) H.out.base (.int .i64 ((len + 1 : Nat) : Int))
    have hc : ((len + 1 : Nat) : Int) = (len : Int) + 1 := by omega
    rw [hc] at hR3 hB3
    have HR3 := Lib.hid hR3
    have HB3 := Lib.hid hB3
    clear hR3 hB3 hB2 hc
    go_wp2
    go_ret
    refine ⟨rfl, _, _, _, HR3.out, ?_, HB3.out⟩
    rw [← HME.out]
    intro y hy
    rcases queue_put cs pos len hll x y hy with e | e
    · exact .inl e
    · exact .inr (HQ.out y e)
def NewDone (w : World) (most : Nat) (e : Ending) (w' : World) : Prop :=
  e = .returned (.pointer (some ⟨w.heap.size, 0, none⟩)) ∧ Ring w' w.heap.size w.heap.size none 0 0 most [] ∧ Below w.heap.size w w'
theorem new_any (w : World) (most : Nat) (h0 : 0 < most) (h1 : most ≤ 4000) : Calls Try.prog 26 #[.int .i64 (most : Int)] w (NewDone w most) := by
  have hmn : (if (4096 : Int) < (most : Int) then (4096 : Int) else (most : Int)) = (most : Int) := by split <;> omega
  have hmx : (if 0 < most then (most : Int) else 0) = (most : Int) := by split <;> omega
  go_enter Try.func26, Try.ntmps26
  go_wp2
  go_ret
  refine ⟨rfl, ⟨?_, Nat.le_refl _, .inl ⟨rfl, rfl⟩, Nat.le_refl _, Nat.zero_le _, by omega, .inl rfl⟩, (Below.refl _ _).alloc (Nat.le_refl _) _⟩
  exact heap_alloc_new w _

def ClearDone (w : World) (B : Nat) (xs : List ByteArray) (e : Ending) (w' : World) : Prop :=
  ∃ A c, e = .returned (.slice A xs.length c) ∧ w'.ownsRow w.heap.size 9 1 (.slice A xs.length c) xs.length (xs.map Value.string) ∧ Below B w w'
set_option maxHeartbeats 1000000 in
theorem clear_any {w : World} {B r : Nat} {A : Option Addr} {pos len most : Nat} {cs : List ByteArray} (h : Ring w B r A pos len most cs) (hBw : B ≤ w.heap.size) :
    Calls Try.prog 33 #[.pointer (some ⟨r, 0, none⟩)] w (ClearDone w B (queue cs pos len)) := by
  have hr := h.lt
  have H := Lib.hid h
  clear h
  go_enter Try.func33, Try.ntmps33
  go_wp2_with fail
  refine (all_any H.out).mono ?_
  rintro e w1 ⟨A1, c1', rfl, hown, hb⟩
  have R1 := Lib.hid (H.out.below hb)
  have HO := Lib.hid hown
  have hb' := hb.mono hBw
  clear hown hb
  obtain ⟨xs, hxs⟩ : ∃ xs, queue cs pos len = xs := ⟨_, rfl⟩
  rw [hxs] at HO ⊢
  have HXS := Lib.hid hxs
  clear hxs
  have c0 := R1.out.head.c0
  have c1 := R1.out.head.c1
  have c2 := R1.out.head.c2
  have f0 := R1.out.head.free 0
  have f1 := R1.out.head.free 1
  have f2 := R1.out.head.free 2
  have d1 : (w1.setCell ⟨r, 0, none⟩ (.slice none 0 0)).cell? ⟨r, 1, none⟩ = some (.int .i64 (pos : Int)) := (World.cell?_setCell_other _ _ _ _ (by simp)).trans c1
  have hB := ((hb'.setCell (p := ⟨r, 0, none⟩) H.out.base (.slice none 0 0)).setCell (p := ⟨r, 1, none⟩) H.out.base (.int .i64 0)).setCell (p := ⟨r, 2, none⟩) H.out.base (.int .i64 0)
  have hO := ownsRow_setCell_below (ownsRow_setCell_below (ownsRow_setCell_below HO.out (a := ⟨r, 0, none⟩) hr (.slice none 0 0)) (a := ⟨r, 1, none⟩) hr (.int .i64 0)) (a := ⟨r, 2, none⟩) hr (.int .i64 0)
  have HB := Lib.hid hB
  have HO2 := Lib.hid hO
  clear hB hO hb'
  go_wp2
  go_ret
  rw [HXS.out]
  exact ⟨A1, c1', rfl, HO2.out, HB.out⟩
end Go.Proofs.Ytallhdlnhegjiaa.Ring
