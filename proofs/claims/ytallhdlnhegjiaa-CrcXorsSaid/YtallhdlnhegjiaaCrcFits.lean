/- The walks of (*crc.Table).Seal and Fits, of Cut, and of awake. Conditions: the table lies in memory; lengths below 2^63. -/
import Derived.Test.YtallhdlnhegjiaaRows
import Derived.WalkKit
import Derived.ProofKit
import Derived.OpenShut
import Derived.Lib.Hide
import Derived.BigQuiet
import Derived.Deep.QuietTactic
import Derived.Deep.RegionWith
import Derived.Deep.RegionHeld3
import Derived.Test.YtallhdlnhegjiaaCrcSum
namespace Go.Proofs.Ytallhdlnhegjiaa.Crc
open Go.ChangeShapes Go.WideShapes Go.ChangeAt Go.RowKit CrcP
set_option linter.unusedVariables false

theorem loop_eq (bs : ByteArray) : ∀ (n i : Nat) (r : List UInt8), bs.size - i = n → ByteArray.toList.loop bs i r = r.reverse ++ bs.data.toList.drop i := by
  intro n
  induction n with
  | zero =>
    intro i r h
    rw [ByteArray.toList.loop]
    have h1 : ¬ i < bs.size := by omega
    rw [if_neg h1, List.drop_of_length_le (by simp; have : bs.data.size = bs.size := rfl; omega), List.append_nil]
  | succ n ih =>
    intro i r h
    rw [ByteArray.toList.loop]
    have h1 : i < bs.size := by omega
    rw [if_pos h1, ih (i + 1) _ (by omega)]
    have h2 : i < bs.data.toList.length := by simpa using h1
    rw [List.drop_eq_getElem_cons h2, List.reverse_cons, List.append_assoc]
    congr 2
    show [bs.data[i]!] ++ _ = _
    rw [getElem!_pos bs.data i h1]
    rfl
theorem toList_data (bs : ByteArray) : bs.toList = bs.data.toList := by
  unfold ByteArray.toList
  rw [loop_eq bs _ 0 [] rfl]
  rfl
theorem toList_inj {a b : ByteArray} (h : a.toList = b.toList) : a = b := by
  rw [toList_data, toList_data] at h
  have := Array.toList_inj.1 h
  cases a; cases b; simp_all

def sealS (s : ByteArray) : ByteArray := s ++ fourS (sum (bitsOf s))

theorem seal_any (g : Nat) (s : ByteArray) (w : World) (hs : s.size + 4 ≤ maxLen) (ht : TabAt w g) :
    Calls Try.prog 32 #[.pointer (some ⟨g, 0, none⟩), .string s] w fun e w' => e = .returned (.string (sealS s)) ∧ Below w.heap.size w w' := by
  unfold maxLen at hs
  have hg := ht.lt
  have HT := Lib.hid ht
  clear ht
  go_enter Try.func32, Try.ntmps32
  go_wp2_with fail
  refine (sum_one g w.heap.size 0 1 s _ (by unfold maxLen; omega) (HT.out.below ((Below.refl _ _).alloc (Nat.le_refl _) _) hg) (by simp)).mono ?_
  rintro e w1 ⟨rfl, hd⟩
  have hb1 := ((Below.refl w.heap.size w).alloc (Nat.le_refl _) (.cells #[.string s] 9)).trans (hd.below w.heap.size)
  have hz1 := hb1.size
  clear hd
  go_wp2_with fail
  refine (four_any _ _).mono ?_
  rintro e w2 ⟨rfl, hb2⟩
  have hb3 := hb1.trans (hb2.mono hz1)
  clear hb1 hb2 hz1
  have hf4 : (fourS (sum (bitsOf s))).size = 4 := rfl
  go_wp2
  go_ret
  exact ⟨rfl, hb3⟩

theorem below_then {B : Nat} {w w1 w2 : World} (h : Below B w w1) (h2 : Below w1.heap.size w1 w2) (hB : B ≤ w1.heap.size) : Below B w w2 := h.trans (h2.mono hB)
def fitsB (s : ByteArray) : Bool := decide (4 ≤ s.size) && ((fourS (sum (bitsOf (s.extract 0 (s.size - 4))))).toList == (s.extract (s.size - 4) s.size).toList)
theorem fitsB_short {s : ByteArray} (h : s.size < 4) : fitsB s = false := by
  unfold fitsB
  rw [decide_eq_false (by omega)]
  rfl
theorem fitsB_long {s : ByteArray} {n : Nat} (h : (s.size : Int) - 4 = (n : Int)) : fitsB s = ((fourS (sum (bitsOf (s.extract 0 n)))).toList == (s.extract n s.size).toList) := by
  unfold fitsB
  obtain rfl : n = s.size - 4 := by omega
  rw [decide_eq_true (by omega), Bool.true_and]
theorem fourS_size (X : BitVec 32) : (fourS X).size = 4 := rfl
theorem sealS_size (s : ByteArray) : (sealS s).size = s.size + 4 := by
  unfold sealS
  rw [ByteArray.size_append, fourS_size]
theorem fits_seal (s : ByteArray) : fitsB (sealS s) = true := by
  have h : ((sealS s).size : Int) - 4 = (s.size : Int) := by rw [sealS_size]; omega
  rw [fitsB_long h]
  have e1 : (sealS s).extract 0 s.size = s := by unfold sealS; exact ByteArray.extract_append_eq_left rfl
  have e2 : (sealS s).extract s.size (sealS s).size = fourS (sum (bitsOf s)) := by
    rw [sealS_size]
    unfold sealS
    exact ByteArray.extract_append_eq_right rfl rfl
  rw [e1, e2, beq_self_eq_true]
theorem ret_bool {a b : Bool} (h : a = b) : Ending.returned (.bool a) = .returned (.bool b) := by rw [h]
theorem fits_any (g : Nat) (s : ByteArray) (w : World) (hs : s.size ≤ maxLen) (ht : TabAt w g) :
    Calls Try.prog 30 #[.pointer (some ⟨g, 0, none⟩), .string s] w fun e w' => e = .returned (.bool (fitsB s)) ∧ Below w.heap.size w w' := by
  unfold maxLen at hs
  have hg := ht.lt
  have HT := Lib.hid ht
  clear ht
  by_cases h4 : s.size < 4
  · have hd : decide (4 ≤ (s.size : Int)) = false := decide_eq_false (by omega)
    go_enter Try.func30, Try.ntmps30
    go_wp2
    go_quiet (fail)
    go_wp2
    go_ret
    exact ⟨ret_bool (fitsB_short h4).symm, (Drawn.below ⟨_, rfl⟩ _)⟩
  · obtain ⟨n, hn⟩ : ∃ n : Nat, (s.size : Int) - 4 = (n : Int) := ⟨s.size - 4, by omega⟩
    have hn1 : n ≤ s.size := by omega
    have hn2 : (n : Int) ≤ (s.size : Int) := by omega
    have hn3 : (0 : Int) ≤ (n : Int) := by omega
    have hn4 : decide ((0 : Int) ≤ (n : Int)) = true := by simp
    have HN := Lib.hid hn
    have hx : (s.extract 0 n).size ≤ maxLen := by rw [ByteArray.size_extract]; unfold maxLen; omega
    go_enter Try.func30, Try.ntmps30
    go_wp2_with fail
    clear hn
    go_region_held3 (fun w' => Below w.heap.size w w') (first | exact (Below.refl _ _).drew | assumption | exact Below.alloc (by assumption) (Below.size (by assumption)) _) (first
      | (go_at_call 27; refine (sum_one g _ 0 1 (s.extract 0 n) _ hx ?_ ?_).mono ?_; (exact HT.out.below (by assumption) hg); (simp); rintro e w1 ⟨rfl, hd1⟩; have hB1 := Below.trans (by assumption) (hd1.below w.heap.size))
      | (go_at_call 53; refine (four_any _ _).mono ?_; rintro e w2 ⟨rfl, hb2⟩; have hB2 := below_then (by assumption) hb2 (Below.size (by assumption))))
    clear hd1
    go_wp2
    go_ret
    exact ⟨ret_bool (fitsB_long HN.out).symm, hB2⟩

def cutS (s : ByteArray) (n : Nat) : ByteArray := if n < s.size then s.extract 0 n else s
theorem cut_any (s : ByteArray) (n : Int) (h0 : 0 ≤ n) (hs : s.size ≤ maxLen) (w : World) : Calls Try.prog 41 #[.string s, .int .i64 n] w fun e w' => e = .returned (.string (cutS s n.toNat)) ∧ w = w' := by
  unfold maxLen at hs
  obtain ⟨m, rfl⟩ := Int.eq_ofNat_of_zero_le h0
  by_cases c : m < s.size
  · have H := Lib.hid (show cutS s (m : Int).toNat = s.extract 0 m from if_pos c)
    have c1 : (m : Int) < (s.size : Int) := by omega
    go_enter Try.func41, Try.ntmps41
    go_wp2
    go_ret
    exact ⟨by rw [H.out]; rfl, rfl⟩
  · have H := Lib.hid (show cutS s (m : Int).toNat = s from if_neg c)
    have c1 : ¬ (m : Int) < (s.size : Int) := by omega
    go_enter Try.func41, Try.ntmps41
    go_wp2
    go_ret
    exact ⟨ret_string H.out.symm, rfl⟩

/-- 't := crc.Make()': a new block, the table stored into it -/
theorem made_tab {w w1 : World} (hb : Below w.heap.size w w1) : ∃ W, W = (w1.alloc (.cells Try.zeroCells37 37)).setRow w1.heap.size (tabK 256) ∧ TabAt W w1.heap.size ∧ Below w.heap.size w W ∧ Below w1.heap.size w1 W ∧ w1.heap.size < W.heap.size := by
  have hz := hb.size
  have h1 : Below w1.heap.size w1 ((w1.alloc (.cells Try.zeroCells37 37)).setRow w1.heap.size (tabK 256)) :=
    ⟨rfl, rfl, rfl, by simp, fun i hi => by
      rw [setRow_other _ _ _ _ (by omega)]
      exact Below.heap_alloc _ _ i hi⟩
  refine ⟨_, rfl, setRow_heap _ _ _ _ _ _ (heap_alloc_new _ _), hb.trans (h1.mono hz), h1, by simp⟩

theorem sum19 : (sum (bitsOf ⟨#[49, 50, 51, 52, 53, 54, 55, 56, 57]⟩)).toNat = 4236843288 := by decide +kernel
theorem sum_none (g : Nat) (w : World) (ht : TabAt w g) : Calls Try.prog 27 #[.pointer (some ⟨g, 0, none⟩), .slice none 0 0] w fun e w' => e = .returned (.int .u32 0) ∧ Drawn w w' := by
  have h := sum_any g none 0 [] w (by simp) (by intro x hx; simp at hx) ht (by intro k hk; simp at hk)
  have e : ((sum (allBytes [])).toNat : Int) = 0 := by decide
  rw [e] at h
  exact h
theorem awake_any (w : World) : Calls Try.prog 40 #[] w fun e w' => e = .returned (.bool true) ∧ Below w.heap.size w w' := by
  have HS := Lib.hid sum19
  go_enter Try.func40, Try.ntmps40
  go_wp2_with (first
    | (go_at_call 25; refine (make_any _).mono ?_; rintro e w1 ⟨rfl, hb1⟩)
    | (refine wpList_store_row rfl 37 (.tmp 1) (.tmp 2) rfl w1.heap.size (tabK 256) rfl rfl 37 Try.zeroCells37 (heap_alloc_new _ _) size37 zero_size (tabK_one 256) ?_; obtain ⟨W, hW, ht, hb2, hb3, hlt⟩ := made_tab hb1; rw [← hW]; clear hW))
  have HT := Lib.hid ht
  clear ht
  refine (sum_one _ _ 0 1 ⟨#[49, 50, 51, 52, 53, 54, 55, 56, 57]⟩ _ (by decide) (HT.out.below ((Below.refl _ _).alloc (Nat.le_refl _) _) hlt) (by simp)).mono ?_
  rintro e w2 ⟨rfl, hd⟩
  rw [HS.out]
  have hb4 : Below W.heap.size W w2 := ((Below.refl W.heap.size W).alloc (Nat.le_refl _) _).trans (hd.below _)
  have HT2 := Lib.hid (HT.out.below hb4 hlt)
  have hz4 := hb4.size
  have hlt2 : w1.heap.size < w2.heap.size := by omega
  have hb5 := hb2.trans (hb4.mono (by have := hb2.size; omega))
  clear hd hb4
  go_wp2_with fail
  refine (sum_none _ _ HT2.out).mono ?_
  rintro e w3 ⟨rfl, hd⟩
  have hb6 := hd.below w2.heap.size
  have HT3 := Lib.hid (HT2.out.below hb6 hlt2)
  have hz6 := hb6.size
  have hlt3 : w1.heap.size < w3.heap.size := by omega
  have hb7 := hb5.trans (hb6.mono (by have := hb5.size; omega))
  clear hd hb6
  go_wp2_with fail
  refine (seal_any _ _ _ (by decide) HT3.out).mono ?_
  rintro e w4 ⟨rfl, hb8⟩
  have HT4 := Lib.hid (HT3.out.below hb8 hlt3)
  have hb9 := hb7.trans (hb8.mono (by have := hb7.size; omega))
  have HF := Lib.hid (fits_seal ⟨#[97]⟩)
  have hsz : (sealS ⟨#[97]⟩).size ≤ maxLen := by decide
  generalize sealS ⟨#[97]⟩ = sa at HF hsz ⊢
  go_wp2_with fail
  refine (fits_any _ _ _ hsz HT4.out).mono ?_
  rintro e w5 ⟨rfl, hb10⟩
  rw [HF.out]
  have hb11 := hb9.trans (hb10.mono (by have := hb9.size; omega))
  clear hb10 hb8 hb7
  go_wp2
  go_ret
  exact ⟨rfl, hb11⟩

end Go.Proofs.Ytallhdlnhegjiaa.Crc
