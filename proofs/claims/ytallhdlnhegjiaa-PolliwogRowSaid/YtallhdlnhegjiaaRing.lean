/- The walks of package ring at strings: Room, place, First, All. Conditions: the ring lies in memory as it should, with at most 4096 places. -/
import Derived.Test.YtallhdlnhegjiaaRows
import Derived.WalkKit
import Derived.ProofKit
import Derived.OpenShut
import Derived.Lib.Hide
import Derived.BigQuiet
import Derived.Deep.QuietTactic
import Derived.Deep.RegionHeld3
import Derived.Deep.AppendLies
import Derived.Laws.Rows
import Derived.Test.YtallhdlnhegjiaaOwn
namespace Go.Proofs.Ytallhdlnhegjiaa.Ring
open Go.ChangeShapes Go.WideShapes Go.ChangeAt Go.RowKit
set_option linter.unusedVariables false

/-- nothing but draws -/
def Drawn (w w' : World) : Prop := ∃ n, w' = w.drewN n
theorem Drawn.below {w w' : World} (h : Drawn w w') (B : Nat) : Below B w w' := by
  obtain ⟨n, rfl⟩ := h
  exact ⟨rfl, rfl, rfl, Nat.le_refl _, fun _ _ => rfl⟩
/-- the ring's four cells -/
def Head (w : World) (r : Nat) (A : Option Addr) (N pos len most : Nat) : Prop :=
  w.heap[r]? = some (.cells #[.slice A N N, .int .i64 (pos : Int), .int .i64 (len : Int), .int .i64 (most : Int)] 93 (0, 0))
/-- the ring's row -/
def Row (w : World) (B r : Nat) (A : Option Addr) (cs : List ByteArray) : Prop :=
  (cs = [] ∧ A = none) ∨ ∃ G, A = some ⟨G, 0, none⟩ ∧ B ≤ G ∧ G ≠ r ∧ w.heap[G]? = some (.cells (cs.map Value.string).toArray 9 (0, 0))
/-- a ring: where it lies, what it holds -/
structure Ring (w : World) (B r : Nat) (A : Option Addr) (pos len most : Nat) (cs : List ByteArray) : Prop where
  head : Head w r A cs.length pos len most
  base : B ≤ r
  row : Row w B r A cs
  full : len ≤ cs.length
  room : cs.length ≤ most
  small : most ≤ 4096
  lies : cs.length = 0 ∨ pos < cs.length

section
variable {w w' : World} {B r : Nat} {A : Option Addr} {pos len most N : Nat} {cs : List ByteArray}
theorem Head.c0 (h : Head w r A N pos len most) : w.cell? ⟨r, 0, none⟩ = some (.slice A N N) := by rw [cell_of_row _ _ _ _ _ _ h]; rfl
theorem Head.c1 (h : Head w r A N pos len most) : w.cell? ⟨r, 1, none⟩ = some (.int .i64 (pos : Int)) := by rw [cell_of_row _ _ _ _ _ _ h]; rfl
theorem Head.c2 (h : Head w r A N pos len most) : w.cell? ⟨r, 2, none⟩ = some (.int .i64 (len : Int)) := by rw [cell_of_row _ _ _ _ _ _ h]; rfl
theorem Head.c3 (h : Head w r A N pos len most) : w.cell? ⟨r, 3, none⟩ = some (.int .i64 (most : Int)) := by rw [cell_of_row _ _ _ _ _ _ h]; rfl
theorem Head.free (h : Head w r A N pos len most) (i : Nat) : w.frozen? ⟨r, i, none⟩ = false := frozen_of_row _ _ _ _ _ h
theorem Row.at_ (h : Row w B r A cs) (i : Nat) (hi : i < cs.length) : ∃ G, A = some ⟨G, 0, none⟩ ∧ B ≤ G ∧ G ≠ r ∧ w.heap[G]? = some (.cells (cs.map Value.string).toArray 9 (0, 0)) ∧ w.cell? ⟨G, i, none⟩ = some (.string (cs.getD i ByteArray.empty)) ∧ w.frozen? ⟨G, i, none⟩ = false := by
  rcases h with ⟨rfl, _⟩ | ⟨G, rfl, hB, hne, hg⟩
  · simp at hi
  · refine ⟨G, rfl, hB, hne, hg, ?_, frozen_of_row _ _ _ _ _ hg⟩
    rw [cell_of_row _ _ _ _ _ _ hg]
    simp [hi]
theorem Ring.drawn (h : Ring w B r A pos len most cs) (hd : Drawn w w') : Ring w' B r A pos len most cs := by
  obtain ⟨n, rfl⟩ := hd
  exact ⟨h.head, h.base, h.row, h.full, h.room, h.small, h.lies⟩
theorem Ring.lt (h : Ring w B r A pos len most cs) : r < w.heap.size := (Array.getElem?_eq_some_iff.1 h.head).1
end

theorem room_any {w : World} {B r : Nat} {A : Option Addr} {pos len most : Nat} {cs : List ByteArray} (h : Ring w B r A pos len most cs) :
    Calls Try.prog 28 #[.pointer (some ⟨r, 0, none⟩)] w fun e w' => e = .returned (.int .i64 ((most : Int) - (len : Int))) ∧ Drawn w w' := by
  have c2 := h.head.c2
  have c3 := h.head.c3
  have b1 := h.small
  have b2 := h.full
  have b3 := h.room
  have H := Lib.hid h
  clear h
  have hw : IntKind.i64.wrap ((most : Int) - (len : Int)) = (most : Int) - (len : Int) := IntWalk.i64_in _ (by omega)
  go_enter Try.func28, Try.ntmps28
  go_wp2
  go_quiet (fail)
  go_wp2
  go_ret
  exact ⟨rfl, _, rfl⟩

theorem place_any {w : World} {B r : Nat} {A : Option Addr} {pos len most : Nat} {cs : List ByteArray} (h : Ring w B r A pos len most cs) (hN : 0 < cs.length) (i : Int) (h0 : 0 ≤ i) (h1 : i ≤ 5000) :
    Calls Try.prog 52 #[.pointer (some ⟨r, 0, none⟩), .int .i64 i] w fun e w' => e = .returned (.int .i64 (((pos + i.toNat) % cs.length : Nat) : Int)) ∧ Drawn w w' := by
  obtain ⟨n, rfl⟩ := Int.eq_ofNat_of_zero_le h0
  rw [Int.toNat_natCast]
  have c0 := h.head.c0
  have c1 := h.head.c1
  have b1 := h.small
  have b3 := h.room
  have b4 := h.lies
  have H := Lib.hid h
  clear h
  generalize cs.length = N at hN c0 b3 b4 ⊢
  have hw : IntKind.i64.wrap ((pos : Int) + (n : Int)) = (pos : Int) + (n : Int) := IntWalk.i64_in _ (by omega)
  have hq : (0 : Int) ≤ (pos : Int) + (n : Int) := by omega
  have hz : ((N : Int) == 0) = false := by rw [beq_eq_false_iff_ne]; omega
  have hm : ((pos : Int) + (n : Int)).tmod (N : Int) = (((pos + n) % N : Nat) : Int) := by
    rw [Int.tmod_eq_emod_of_nonneg hq, Int.natCast_emod, Int.natCast_add]
  have hm2 : ((pos : Int) + (n : Int)) % (N : Int) = (((pos + n) % N : Nat) : Int) := by
    rw [Int.natCast_emod, Int.natCast_add]
  generalize (pos + n) % N = m at hm hm2 ⊢
  go_enter Try.func52, Try.ntmps52
  go_wp2
  go_quiet (fail)
  go_wp2
  go_ret
  exact ⟨rfl, _, rfl⟩

theorem first_any {w : World} {B r : Nat} {A : Option Addr} {pos len most : Nat} {cs : List ByteArray} (h : Ring w B r A pos len most cs) (hl : 0 < len) :
    Calls Try.prog 51 #[.pointer (some ⟨r, 0, none⟩)] w fun e w' => e = .returned (.tuple #[.string (cs.getD pos ByteArray.empty), .int .i64 0]) ∧ Drawn w w' := by
  have b1 := h.small
  have b2 := h.full
  have b3 := h.room
  have b4 : pos < cs.length := by have := h.lies; omega
  have c0 := h.head.c0
  have c1 := h.head.c1
  have c2 := h.head.c2
  obtain ⟨G, rfl, _, _, _, cg, _⟩ := h.row.at_ pos b4
  have H := Lib.hid h
  clear h
  generalize cs.getD pos ByteArray.empty = x at cg ⊢
  have hl0 : ((len : Int) == 0) = false := by rw [beq_eq_false_iff_ne]; omega
  have q1 : (pos : Int) < (cs.length : Int) := by omega
  have q0 : (0 : Int) ≤ (pos : Int) := by omega
  go_enter Try.func51, Try.ntmps51
  go_wp2
  go_quiet (fail)
  go_wp2
  go_ret2
  exact ⟨rfl, _, rfl⟩
theorem info9 : (Try.prog.info? 9).map (fun i => (i.zero, i.size, i.bytes)) = some (some (.string ⟨#[]⟩), 1, 16) := by kernel_rfl
/-- the first k of those that stand in the row, in their order -/
def queue (cs : List ByteArray) (pos k : Nat) : List ByteArray := (List.range k).map fun (i : Nat) => cs.getD ((pos + i) % cs.length) ByteArray.empty
theorem queue_succ (cs : List ByteArray) (pos k : Nat) : queue cs pos (k + 1) = queue cs pos k ++ [cs.getD ((pos + k) % cs.length) ByteArray.empty] := by
  unfold queue
  rw [List.range_succ, List.map_append]
  rfl
theorem queue_length (cs : List ByteArray) (pos k : Nat) : (queue cs pos k).length = k := by unfold queue; simp
theorem Ring.below {w w' : World} {B r : Nat} {A : Option Addr} {pos len most : Nat} {cs : List ByteArray} (h : Ring w B r A pos len most cs) (hb : Below w.heap.size w w') : Ring w' B r A pos len most cs := by
  refine ⟨(hb.block r h.lt).trans h.head, h.base, ?_, h.full, h.room, h.small, h.lies⟩
  rcases h.row with hn | ⟨G, rfl, hB, hne, hg⟩
  · exact .inl hn
  · exact .inr ⟨G, rfl, hB, hne, (hb.block G (Array.getElem?_eq_some_iff.1 hg).1).trans hg⟩
theorem own_drawn {w w' : World} {base e size n : Nat} {v : Value} {xs : List Value} (h : w.ownsRow base e size v n xs) (hd : Drawn w.drew w') : w'.ownsRow base e size v n xs := by
  obtain ⟨n, rfl⟩ := hd
  exact h
theorem str_cell (w : World) (x : ByteArray) (j : Nat) (u : Value) (hj : [Value.string x][j]? = some u) : (w.alloc (.cells #[.string x] 9)).cell? ((⟨w.heap.size, 0, none⟩ : Addr).add j) = some u := Own.one_cell (w := w) (.string x) 9 rfl j u hj
theorem str_one (x : ByteArray) (u : Value) (hu : u ∈ [Value.string x]) : u.oneCell' = true := by simp at hu; subst hu; rfl
def All (w : World) (xs : List ByteArray) (e : Ending) (w' : World) : Prop :=
  ∃ A c, e = .returned (.slice A xs.length c) ∧ w'.ownsRow w.heap.size 9 1 (.slice A xs.length c) xs.length (xs.map Value.string) ∧ Below w.heap.size w w'
theorem all_step {w wr w2 w3 : World} {k g cap : Nat} {v : Value} {cs : List ByteArray} {pos : Nat} {o : Obj} (hown : wr.ownsRow w.heap.size 9 1 v k ((queue cs pos k).map Value.string)) (hb : Below w.heap.size w w2) (hv : ∀ j, v.ownBlock = some j → w.heap.size ≤ j)
    (h1 : w3.ownsRow w.heap.size 9 1 (.slice (some ⟨g, 0, none⟩) (k + 1) cap) (k + 1) ((queue cs pos k).map Value.string ++ [.string (cs.getD ((pos + k) % cs.length) ByteArray.empty)])) (hg : (w2.alloc o).grownBy w3 v.ownBlock) :
    w3.ownsRow w.heap.size 9 1 (.slice (some ⟨g, 0, none⟩) (k + 1) cap) (k + 1) ((queue cs pos (k + 1)).map Value.string) ∧ Below w.heap.size w w3 :=
  ⟨by rw [queue_succ, List.map_append]; exact h1, (hb.alloc hb.size o).grown hg (by have := hb.size; simp; omega) hv⟩

set_option maxHeartbeats 1000000 in
theorem all_any {w : World} {B r : Nat} {A : Option Addr} {pos len most : Nat} {cs : List ByteArray} (h : Ring w B r A pos len most cs) :
    Calls Try.prog 55 #[.pointer (some ⟨r, 0, none⟩)] w (All w (queue cs pos len)) := by
  obtain ⟨i0, hi, hz0, hz1, hz2⟩ := info_parts info9
  have b1 := h.small
  have b2 := h.full
  have b3 := h.room
  have c2 := h.head.c2
  have H := Lib.hid h
  clear h
  go_enter Try.func55, Try.ntmps55
  go_wp2
  clear c2
  go_loopw [3, 9] (fun v i wr => ∃ k : Nat, k ≤ len ∧ i = .int .i64 k ∧ wr.ownsRow w.heap.size 9 1 v k ((queue cs pos k).map Value.string) ∧ Below w.heap.size w wr) (fun _ i _ => len - (intOf i).toNat)
  case atStart => exact ⟨0, by omega, rfl, World.ownsRow_nil _ _ _ _, Below.refl _ _⟩
  case round =>
    obtain ⟨k, hk, rfl, hown, hb⟩ := hrel
    by_cases hlt : k < len
    · have hN : 0 < cs.length := by omega
      have HR := Lib.hid (H.out.below hb)
      have hm := Nat.mod_lt (pos + k) hN
      obtain ⟨G, rfl, hBG, hGr, hgb, cg, _⟩ := H.out.row.at_ ((pos + k) % cs.length) hm
      have c0 := H.out.head.c0
      have hrl := H.out.lt
      have hGl : G < w.heap.size := (Array.getElem?_eq_some_iff.1 hgb).1
      clear hgb
      have hv := fun j hj => (hown.lt j hj).1
      have HST := Lib.hid (fun (w2 w3 : World) (g cap : Nat) (o : Obj) (hb : Below w.heap.size w w2) (h1 : w3.ownsRow w.heap.size 9 1 (.slice (some ⟨g, 0, none⟩) (k + 1) cap) (k + 1) ((queue cs pos k).map Value.string ++ [.string (cs.getD ((pos + k) % cs.length) ByteArray.empty)])) (hg : (w2.alloc o).grownBy w3 _) => all_step (pos := pos) (cs := cs) hown hb hv h1 hg)
      have HPL := Lib.hid (fun (w' : World) (hd : Drawn wr w') => place_any (HR.out.drawn hd) hN (k : Int) (by omega) (by omega))
      generalize cs.getD ((pos + k) % cs.length) ByteArray.empty = x at cg HST
      simp only [Int.toNat_natCast] at HPL
      generalize (pos + k) % cs.length = m at hm cg HPL
      have HOW := Lib.hid hown
      have hq1 : (m : Int) < (cs.length : Int) := by omega
      have hq0 : (0 : Int) ≤ (m : Int) := by omega
      have KS := Lib.hid (fun (w' : World) (hb : Below w.heap.size w w') => (⟨(hb.cell (p := ⟨r, 0, none⟩) hrl).trans c0, (hb.cell (p := ⟨G, m, none⟩) hGl).trans cg, hb⟩ : w'.cell? ⟨r, 0, none⟩ = some (.slice (some ⟨G, 0, none⟩) cs.length cs.length) ∧ w'.cell? ⟨G, m, none⟩ = some (.string x) ∧ Below w.heap.size w w'))
      clear c0 cg
      go_wp2
      go_region_held3 (fun w' => w'.cell? ⟨r, 0, none⟩ = some (.slice (some ⟨G, 0, none⟩) cs.length cs.length) ∧ w'.cell? ⟨G, m, none⟩ = some (.string x) ∧ Below w.heap.size w w')
        (exact KS.out _ (by first | assumption | exact hb.drew | exact Below.alloc (by assumption) (Below.size (by assumption)) _))
        (first
          | (go_at_call 52; refine (HPL.out _ ⟨1, rfl⟩).mono ?_; rintro e w2 ⟨rfl, hd2⟩; have hb2 : Below w.heap.size w w2 := hb.drew.trans (hd2.below _); have hown2 := Lib.hid (own_drawn HOW.out hd2))
          | (refine step_append_lies _ rfl (.tmp 12) (.tmp 22) 35 rfl w.heap.size 9 i0 (.string ⟨#[]⟩) 1 16 Try.underlying35 hi hz0 hz1 hz2 rfl (by decide) _ _ _ rfl (hown2.out.alloc _) ⟨w2.heap.size, 0, none⟩ 1 1 [.string x] rfl rfl (str_cell _ _) (str_one _) (by decide) (by unfold maxLen; omega) (by omega) (by have := hb2.size; simp; omega) _ rfl ?_; intro g2 cap2 w3 hown3 hgrow3 _ _; have R := HST.out _ _ _ _ _ hb2 hown3 hgrow3; have hb3 := R.2))
      have R1 := R.1
      clear hown3 hgrow3 R hd2 hb2
      go_wp2
      go_roundw
      case rel => exact ⟨k + 1, by omega, by go_num, R1, hb3⟩
      case measure => simp [intOf]; omega
    · obtain rfl : k = len := by omega
      obtain ⟨A', c', rfl⟩ := Own.shape hown
      have HOW := Lib.hid hown
      clear hown
      go_wp2
      go_ret
      exact ⟨A', c', by rw [queue_length]; rfl, by rw [queue_length]; exact HOW.out, hb⟩
end Go.Proofs.Ytallhdlnhegjiaa.Ring
