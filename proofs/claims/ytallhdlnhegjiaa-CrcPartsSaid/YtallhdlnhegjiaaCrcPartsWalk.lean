/- The walk of CrcParts: whatever a list of texts, it returns true and writes nothing that was there. -/
import Derived.Test.YtallhdlnhegjiaaRows
import Derived.WalkKit
import Derived.ProofKit
import Derived.OpenShut
import Derived.Lib.Hide
import Derived.BigQuiet
import Derived.Deep.QuietTactic
import Derived.Test.YtallhdlnhegjiaaCrcFits
import Derived.Test.YtallhdlnhegjiaaStrs
import Derived.Test.YtallhdlnhegjiaaOwn
namespace Go.Proofs.Ytallhdlnhegjiaa.crcParts
open Go.ChangeShapes Go.WideShapes Go.ChangeAt Go.RowKit CrcP Crc Strs
set_option linter.unusedVariables false

theorem info9 : (Try.prog.info? 9).map (fun i => (i.zero, i.size, i.bytes)) = some (some (.string ⟨#[]⟩), 1, 16) := by kernel_rfl
theorem ref_sum (s : ByteArray) (hs : s.size ≤ maxLen) (w : World) : Calls Try.prog 42 #[.string s] w fun e w' => e = .returned (.int .u32 ((sum (bitsOf s)).toNat : Int)) ∧ w = w' := refSum_any s hs w
theorem cutS_size (s : ByteArray) (n : Nat) : (cutS s n).size ≤ n := by
  unfold cutS
  split
  · rw [ByteArray.size_extract]; omega
  · omega
/-- the first k texts, cut -/
def cuts (ss : List ByteArray) (k : Nat) : List ByteArray := (List.range k).map fun (j : Nat) => cutS (ss.getD j ByteArray.empty) 30
theorem cuts_succ (ss : List ByteArray) (k : Nat) : cuts ss (k + 1) = cuts ss k ++ [cutS (ss.getD k ByteArray.empty) 30] := by
  unfold cuts
  rw [List.range_succ, List.map_append]
  rfl
/-- all of them, one behind the other -/
def textOf (l : List ByteArray) : ByteArray := l.foldl (· ++ ·) ⟨#[]⟩
theorem textOf_snoc (l : List ByteArray) (s : ByteArray) : textOf (l ++ [s]) = textOf l ++ s := by
  unfold textOf
  rw [List.foldl_append]
  rfl
theorem textOf_size (l : List ByteArray) : (∀ s ∈ l, s.size ≤ 30) → (textOf l).size ≤ 30 * l.length := by
  intro h
  have key : ∀ (l : List ByteArray) (t : ByteArray), (∀ s ∈ l, s.size ≤ 30) → (l.foldl (· ++ ·) t).size ≤ t.size + 30 * l.length := by
    intro l
    induction l with
    | nil => intro t _; simp
    | cons a l ih =>
      intro t ha
      rw [List.foldl_cons]
      have h1 := ih (t ++ a) (fun s hs => ha s (List.mem_cons_of_mem _ hs))
      rw [ByteArray.size_append] at h1
      have h2 := ha a List.mem_cons_self
      simp only [List.length_cons]
      omega
  have := key l ⟨#[]⟩ h
  have e : (⟨#[]⟩ : ByteArray).size = 0 := rfl
  unfold textOf
  omega
theorem cuts_size (ss : List ByteArray) (k : Nat) : (textOf (cuts ss k)).size ≤ 30 * k := by
  have h := textOf_size (cuts ss k) (by
    intro s hs
    unfold cuts at hs
    rw [List.mem_map] at hs
    obtain ⟨j, _, rfl⟩ := hs
    exact cutS_size _ _)
  have e : (cuts ss k).length = k := by unfold cuts; simp
  rwa [e] at h
/-- the parts: each, and an empty one -/
def partsOf (l : List ByteArray) : List ByteArray := l.flatMap fun s => [s, ⟨#[]⟩]
theorem partsOf_snoc (l : List ByteArray) (s : ByteArray) : partsOf (l ++ [s]) = partsOf l ++ [s, ⟨#[]⟩] := by
  unfold partsOf
  rw [List.flatMap_append]
  rfl
theorem partsOf_length (l : List ByteArray) : (partsOf l).length = 2 * l.length := by
  unfold partsOf
  induction l with
  | nil => rfl
  | cons a l ih => rw [List.flatMap_cons, List.length_append, ih]; simp; omega
theorem parts_bytes (l : List ByteArray) : allBytes (partsOf l) = bitsOf (textOf l) := by
  have key : ∀ (l : List ByteArray) (t : ByteArray), bitsOf (l.foldl (· ++ ·) t) = bitsOf t ++ allBytes (partsOf l) := by
    intro l
    induction l with
    | nil => intro t; unfold allBytes partsOf bytes8; simp
    | cons a l ih =>
      intro t
      rw [List.foldl_cons, ih]
      unfold bitsOf allBytes partsOf bytes8
      simp [ByteArray.data_append]
  have h := key l ⟨#[]⟩
  unfold textOf
  rw [h]
  unfold bitsOf bytes8
  simp
theorem sum_parts (g n c : Nat) (A : Option Addr) (l : List ByteArray) (w : World) (hn : n = (partsOf l).length) (hl : n ≤ maxLen) (hs : ∀ s ∈ l, s.size ≤ maxLen) (ht : TabAt w g) (base e : Nat)
    (hown : w.ownsRow base e 1 (.slice A n c) n ((partsOf l).map Value.string)) :
    Calls Try.prog 27 #[.pointer (some ⟨g, 0, none⟩), .slice A n c] w fun e w' => e = .returned (.int .u32 ((sum (bitsOf (textOf l))).toNat : Int)) ∧ Drawn w w' := by
  subst hn
  have h := sum_any g A c (partsOf l) w hl (by
    intro s hs'
    unfold partsOf at hs'
    rw [List.mem_flatMap] at hs'
    obtain ⟨t, ht, hst⟩ := hs'
    simp only [List.mem_cons, List.not_mem_nil, or_false] at hst
    rcases hst with rfl | rfl
    · exact hs _ ht
    · exact Nat.zero_le _) ht (by
    intro k hk
    obtain ⟨g', rfl, _, _, hc, _⟩ := Own.lt hown hk
    refine ⟨g', 0, rfl, ?_⟩
    rw [Nat.zero_add, hc, List.getElem?_map, List.getElem?_eq_getElem hk]
    rfl)
  rw [parts_bytes] at h
  exact h

theorem two_cells (w : World) (y : ByteArray) (j : Nat) (u : Value) (hj : [Value.string y, .string ⟨#[]⟩][j]? = some u) :
    (w.alloc (.cells #[.string y, .string ⟨#[]⟩] 9)).cell? ((⟨w.heap.size, 0, none⟩ : Addr).add j) = some u := by
  have e : (⟨w.heap.size, 0, none⟩ : Addr).add j = ⟨w.heap.size, j, none⟩ := by unfold Addr.add; split <;> simp_all
  rw [e, cell_of_row _ _ _ _ _ _ (heap_alloc_new w _)]
  simpa using hj
theorem step {W wr w2 : World} {k : Nat} {v v' : Value} {o : Obj} {l l' : List ByteArray} {y : ByteArray} (e : partsOf l' = partsOf l ++ [y, ⟨#[]⟩])
    (hown : wr.ownsRow W.heap.size 9 1 v (2 * k) ((partsOf l).map Value.string)) (hb : Below W.heap.size W wr)
    (h1 : w2.ownsRow W.heap.size 9 1 v' (2 * k + 2) ((partsOf l).map Value.string ++ [.string y, .string ⟨#[]⟩])) (hg : (wr.alloc o).grownBy w2 v.ownBlock) :
    w2.ownsRow W.heap.size 9 1 v' (2 * (k + 1)) ((partsOf l').map Value.string) ∧ Below W.heap.size W w2 :=
  ⟨by rw [e, List.map_append]; exact h1, (hb.alloc hb.size o).grown hg (by have := hb.size; simp; omega) (fun j hj => (hown.lt j hj).1)⟩
theorem cuts_length (ss : List ByteArray) (k : Nat) : (cuts ss k).length = k := by unfold cuts; simp
theorem cuts_mem (ss : List ByteArray) (k : Nat) : ∀ s ∈ cuts ss k, s.size ≤ maxLen := by
  intro s hs
  unfold cuts at hs
  rw [List.mem_map] at hs
  obtain ⟨j, _, rfl⟩ := hs
  have := cutS_size (ss.getD j ByteArray.empty) 30
  unfold maxLen
  omega

set_option maxRecDepth 20000 in
theorem walk (a0 : Option Addr) (len0 cap0 : Nat) (z0 : List ByteArray) (w : World) (w0 : IsStrs w a0 len0 cap0 z0) :
    Calls Try.prog 14 #[.slice a0 len0 cap0] w fun e w' => e = .returned (.bool true) ∧ Below w.heap.size w w' := by
  obtain ⟨i0, hi, hz0, hz1, hz2⟩ := info_parts info9
  have hlen := w0.len_le
  unfold maxLen at hlen
  have W0 := Lib.hid w0
  clear w0
  go_enter Try.func14, Try.ntmps14
  go_wp2_with (first
    | (go_at_call 40; refine (awake_any _).mono ?_; rintro e wa ⟨rfl, hba⟩)
    | (go_at_call 25; refine (make_any _).mono ?_; rintro e w1 ⟨rfl, hb1⟩; have hb01 := hba.trans (hb1.mono hba.size); clear hb1)
    | (refine wpList_store_row rfl 37 (.tmp 3) (.tmp 10) rfl w1.heap.size (tabK 256) rfl rfl 37 Try.zeroCells37 (heap_alloc_new _ _) size37 zero_size (tabK_one 256) ?_; obtain ⟨W, hW, ht, hbW, hb3, hlt⟩ := made_tab hb01; rw [← hW]; clear hW))
  have HT := Lib.hid ht
  have HW := Lib.hid hbW
  have hws := hbW.size
  clear ht hbW hb3 hba hb01
  generalize w1.heap.size = g at hlt HT ⊢
  go_loopw [4, 5, 6] (fun t v i wr => ∃ k : Nat, k ≤ 12 ∧ k ≤ len0 ∧ i = .int .i64 k ∧ t = .string (textOf (cuts z0 k)) ∧ wr.ownsRow W.heap.size 9 1 v (2 * k) ((partsOf (cuts z0 k)).map Value.string) ∧ Below W.heap.size W wr)
    (fun _ _ i _ => 12 - (intOf i).toNat)
  case atStart => exact ⟨0, by omega, by omega, rfl, rfl, World.ownsRow_nil _ _ _ _, Below.refl _ _⟩
  case round =>
    obtain ⟨k, hk, hkl, rfl, rfl, hown, hb⟩ := hrel
    by_cases c1 : k < len0
    · by_cases c2 : k < 12
      · obtain ⟨b, off, rfl, hbl, hcell, hsz⟩ := W0.out.at_ c1
        have hcell' : wr.cell? ⟨b, off + k, none⟩ = some (.string (z0.getD k ByteArray.empty)) := (hb.cell (by show b < W.heap.size; omega)).trans ((HW.out.cell (by exact hbl)).trans hcell)
        have HCU := Lib.hid (cuts_succ z0 k)
        have hts := cuts_size z0 k
        generalize z0.getD k ByteArray.empty = z at hcell' hsz HCU
        have hcz := cutS_size z 30
        clear hcell
        go_wp2_with fail
        refine (cut_any z 30 (by omega) hsz _).mono ?_
        rintro e wc ⟨rfl, rfl⟩
        rw [show (30 : Int).toNat = 30 from rfl]
        generalize cutS z 30 = y at HCU hcz ⊢
        have HTX := Lib.hid ((congrArg textOf HCU.out).trans (textOf_snoc _ _))
        have HPX := Lib.hid ((congrArg partsOf HCU.out).trans (partsOf_snoc _ _))
        generalize textOf (cuts z0 k) = tx at hts HTX ⊢
        have hns : ¬ 9223372036854775807 < tx.size + y.size := by omega
        go_wp2_with (at_builtin; refine wpList_append_own _ rfl _ _ 35 rfl W.heap.size 9 i0 (.string ⟨#[]⟩) 1 16 Try.underlying35 hi hz0 hz1 hz2 rfl (by decide) _ _ _ rfl (hown.alloc _) ⟨wr.heap.size, 0, none⟩ 2 2 [.string y, .string ⟨#[]⟩] rfl rfl ?c1 ?c2 ?c3 ?c4 ?c5 ?_)
        case c1 => exact two_cells _ _
        case c2 => intro u hu; simp at hu; rcases hu with rfl | rfl <;> rfl
        case c3 => unfold maxLen; omega
        case c4 => omega
        case c5 => have := hb.size; simp; omega
        intro v' w2 hown' hgrow _
        have R := step HPX.out hown hb hown' hgrow
        clear hown' hgrow hown hb
        go_wp2_with fail
        go_roundw
        case rel => exact ⟨k + 1, by omega, by omega, by go_num, by rw [HTX.out], R.1, R.2⟩
        case measure => simp [intOf]; omega
      · obtain ⟨A, c, rfl⟩ := Own.shape hown
        have SP := Lib.hid (fun (w' : World) (ht : TabAt w' g) (ho : w'.ownsRow W.heap.size 9 1 (.slice A (2 * k) c) (2 * k) ((partsOf (cuts z0 k)).map Value.string)) => sum_parts g (2 * k) c A (cuts z0 k) w' (by rw [partsOf_length, cuts_length]) (by unfold maxLen; omega) (cuts_mem z0 k) ht _ _ ho)
        have hts := cuts_size z0 k
        have HO := Lib.hid hown
        clear hown
        generalize textOf (cuts z0 k) = tx at hts SP ⊢
        have htm : tx.size ≤ maxLen := by unfold maxLen; omega
        have htm4 : (tx ++ fourS (sum (bitsOf tx))).size ≤ maxLen := by rw [ByteArray.size_append, fourS_size]; unfold maxLen; omega
        have hf4 : (fourS (sum (bitsOf tx))).size = 4 := rfl
        have hns : ¬ 9223372036854775807 < tx.size + 4 := by omega
        have HF : Hid (fitsB (tx ++ fourS (sum (bitsOf tx))) = true) := fits_seal tx
        go_wp2_with fail
        refine (SP.out _ (HT.out.below hb hlt) HO.out).mono ?_
        rintro e w3 ⟨rfl, n3, rfl⟩
        have hb3 : Below W.heap.size W (wr.drewN n3) := hb.trans (Drawn.below ⟨_, rfl⟩ _)
        go_wp2_with fail
        refine (ref_sum tx htm _).mono ?_
        rintro e w4 ⟨rfl, rfl⟩
        go_wp2_with fail
        refine (SP.out _ (HT.out.below hb3 hlt) HO.out).mono ?_
        rintro e w3 ⟨rfl, n4, rfl⟩
        have hb4 : Below W.heap.size W (wr.drewN (n3 + n4)) := hb.trans (Drawn.below ⟨_, rfl⟩ _)
        go_wp2_with fail
        refine (refFour_any _ _).mono ?_
        rintro e w5 ⟨rfl, hb5⟩
        have hb6 := below_then hb4 hb5 hb4.size
        clear hb5 hb4 hb3
        go_wp2_with fail
        refine (fits_any g _ _ htm4 (HT.out.below hb6 hlt)).mono ?_
        rw [HF.out]
        rintro e w7 ⟨rfl, hb7⟩
        have hb8 := below_then hb6 hb7 hb6.size
        go_wp2
        go_ret
        exact ⟨rfl, HW.out.trans (hb8.mono hws)⟩
    · obtain ⟨A, c, rfl⟩ := Own.shape hown
      have SP := Lib.hid (fun (w' : World) (ht : TabAt w' g) (ho : w'.ownsRow W.heap.size 9 1 (.slice A (2 * k) c) (2 * k) ((partsOf (cuts z0 k)).map Value.string)) => sum_parts g (2 * k) c A (cuts z0 k) w' (by rw [partsOf_length, cuts_length]) (by unfold maxLen; omega) (cuts_mem z0 k) ht _ _ ho)
      have hts := cuts_size z0 k
      have HO := Lib.hid hown
      clear hown
      generalize textOf (cuts z0 k) = tx at hts SP ⊢
      have htm : tx.size ≤ maxLen := by unfold maxLen; omega
      have htm4 : (tx ++ fourS (sum (bitsOf tx))).size ≤ maxLen := by rw [ByteArray.size_append, fourS_size]; unfold maxLen; omega
      have hf4 : (fourS (sum (bitsOf tx))).size = 4 := rfl
      have hns : ¬ 9223372036854775807 < tx.size + 4 := by omega
      have HF : Hid (fitsB (tx ++ fourS (sum (bitsOf tx))) = true) := fits_seal tx
      go_wp2_with fail
      refine (SP.out _ (HT.out.below hb hlt) HO.out).mono ?_
      rintro e w3 ⟨rfl, n3, rfl⟩
      have hb3 : Below W.heap.size W (wr.drewN n3) := hb.trans (Drawn.below ⟨_, rfl⟩ _)
      go_wp2_with fail
      refine (ref_sum tx htm _).mono ?_
      rintro e w4 ⟨rfl, rfl⟩
      go_wp2_with fail
      refine (SP.out _ (HT.out.below hb3 hlt) HO.out).mono ?_
      rintro e w3 ⟨rfl, n4, rfl⟩
      have hb4 : Below W.heap.size W (wr.drewN (n3 + n4)) := hb.trans (Drawn.below ⟨_, rfl⟩ _)
      go_wp2_with fail
      refine (refFour_any _ _).mono ?_
      rintro e w5 ⟨rfl, hb5⟩
      have hb6 := below_then hb4 hb5 hb4.size
      clear hb5 hb4 hb3
      go_wp2_with fail
      refine (fits_any g _ _ htm4 (HT.out.below hb6 hlt)).mono ?_
      rw [HF.out]
      rintro e w7 ⟨rfl, hb7⟩
      have hb8 := below_then hb6 hb7 hb6.size
      go_wp2
      go_ret
      exact ⟨rfl, HW.out.trans (hb8.mono hws)⟩
end Go.Proofs.Ytallhdlnhegjiaa.crcParts
