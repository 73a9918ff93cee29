/- The walk of CrcBursts: whatever a text, a place and a mask, it returns true and writes nothing that was there. -/
import Derived.Test.YtallhdlnhegjiaaRows
import Derived.WalkKit
import Derived.ProofKit
import Derived.OpenShut
import Derived.Lib.Hide
import Derived.Test.YtallhdlnhegjiaaCrcTurn
namespace Go.Proofs.Ytallhdlnhegjiaa.crcBursts
open Go.ChangeShapes Go.WideShapes Go.ChangeAt Go.RowKit CrcP Crc
set_option linter.unusedVariables false

theorem bitsOf_append (a b : ByteArray) : bitsOf (a ++ b) = bitsOf a ++ bitsOf b := by
  unfold bitsOf bytes8
  simp [ByteArray.data_append]
theorem bitsOf_four (X : BitVec 32) : bitsOf (fourS X) = fourB X := by
  unfold bitsOf fourS bytes8
  simp only [List.map_map]
  have e : (UInt8.toBitVec ∘ UInt8.ofBitVec) = id := by funext x; rfl
  rw [e, List.map_id]
theorem bitsOf_inj {a b : ByteArray} (h : bitsOf a = bitsOf b) : a = b := by
  unfold bitsOf bytes8 at h
  have h1 := (List.map_inj_right (fun x y hxy => by cases x; cases y; simp_all)).1 h
  have h2 := Array.toList_inj.1 h1
  cases a; cases b; simp_all
theorem bitsOf_length (a : ByteArray) : (bitsOf a).length = a.size := by unfold bitsOf bytes8; simp
theorem reg_fits (b : ByteArray) (n : Nat) (hn : (b.size : Int) - 4 = (n : Int)) (h : fitsB b = true) : reg ones (bitsOf b) = stpN 32 ones := by
  rw [fitsB_long hn, beq_iff_eq] at h
  have h1 := toList_inj h
  have e : b = b.extract 0 n ++ b.extract n b.size := by
    rw [ByteArray.extract_append_extract]
    rw [Nat.min_eq_left (by omega), Nat.max_eq_right (by omega)]
    exact ByteArray.extract_zero_size.symm
  rw [e, bitsOf_append, ← h1, bitsOf_four]
  exact (reg_seal _ _).2 rfl
theorem fits_turned (s : ByteArray) (L : List UInt8) (o : Nat) (h : Within L (sealS s).data.toList o 32) :
    fitsB ⟨L.toArray⟩ = ((⟨L.toArray⟩ : ByteArray).toList == (sealS s).toList) := by
  have hx := sealS_size s
  have hxl : (sealS s).data.toList.length = s.size + 4 := by rw [← hx]; simp
  have hl : L.length = s.size + 4 := by rw [h.1, hxl]
  have hbs : (⟨L.toArray⟩ : ByteArray).size = s.size + 4 := by show L.toArray.size = _; simpa using hl
  by_cases e : (⟨L.toArray⟩ : ByteArray).toList = (sealS s).toList
  · rw [toList_inj e, fits_seal, beq_self_eq_true]
  · have e2 : ((⟨L.toArray⟩ : ByteArray).toList == (sealS s).toList) = false := by rw [beq_eq_false_iff_ne]; exact e
    rw [e2]
    cases hf : fitsB ⟨L.toArray⟩ with
    | false => rfl
    | true =>
      exfalso
      apply e
      have r1 := reg_fits _ s.size (by rw [hbs]; omega) hf
      have r2 := reg_fits _ s.size (by rw [hx]; omega) (fits_seal s)
      have hb : bitsOf ⟨L.toArray⟩ = bytes8 L := by unfold bitsOf; simp
      have hlen : (bitsOf ⟨L.toArray⟩).length = (bitsOf (sealS s)).length := by rw [bitsOf_length, bitsOf_length, hbs, hx]
      have := burst _ _ hlen o (fun p hp hin => by
        rw [bitsOf_length, hbs] at hp
        rw [hb]
        exact h.2 p (by rw [hxl]; exact hp) hin) (r1.trans r2.symm)
      rw [bitsOf_inj this]

theorem cutS_size (s : ByteArray) (n : Nat) : (cutS s n).size ≤ n := by
  unfold cutS
  split
  · rw [ByteArray.size_extract]; omega
  · omega
theorem place (a N : Int) (hN : 0 < N) : ∃ (t : Int) (o : Nat), a.tmod N = t ∧ 0 ≤ t + N ∧ t < N ∧ (t + N) % N = (o : Int) ∧ (o : Int) < N := by
  have h1 := Int.tmod_lt_of_pos a hN
  have h2 : -N < a.tmod N := by
    have := Int.tmod_lt_of_pos (-a) hN
    rw [Int.neg_tmod] at this
    omega
  have h3 := Int.emod_nonneg (a.tmod N + N) (show N ≠ 0 by omega)
  have h4 := Int.emod_lt_of_pos (a.tmod N + N) hN
  exact ⟨_, ((a.tmod N + N) % N).toNat, rfl, by omega, h1, by omega, by omega⟩

set_option maxRecDepth 20000 in
theorem walk (a0 : ByteArray) (a1 : Int) (a2 : Int) (w0 : a0.size ≤ maxLen) (w1 : (Lit.int .i64 a1).wf = true) (w2 : (Lit.int .u32 a2).wf = true) (w : World) :
    Calls Try.prog 13 #[.string a0, .int .i64 a1, .int .u32 a2] w fun e w' => e = .returned (.bool true) ∧ Below w.heap.size w w' := by
  have hm := bounds_u32 w2
  have HC := Lib.hid (cutS_size a0 100)
  clear w1 w2
  go_enter Try.func13, Try.ntmps13
  go_wp2_with (first
    | (go_at_call 40; refine (awake_any _).mono ?_; rintro e wa ⟨rfl, hba⟩))
  refine (cut_any a0 100 (by omega) w0 _).mono ?_
  rintro e wc ⟨rfl, rfl⟩
  rw [show (100 : Int).toNat = 100 from rfl]
  have hs100 := HC.out
  generalize cutS a0 100 = s at hs100 ⊢
  go_wp2_with (first
    | (go_at_call 25; refine (make_any _).mono ?_; rintro e w1 ⟨rfl, hb1⟩; have hb01 := hba.trans (hb1.mono hba.size); clear hb1)
    | (refine wpList_store_row rfl 37 (.tmp 7) (.tmp 14) rfl w1.heap.size (tabK 256) rfl rfl 37 Try.zeroCells37 (heap_alloc_new _ _) size37 zero_size (tabK_one 256) ?_; obtain ⟨W, hW, ht, hbW, hb3, hlt⟩ := made_tab hb01; rw [← hW]; clear hW))
  have HT := Lib.hid ht
  clear ht hba hb01 hb3 HC
  refine (seal_any w1.heap.size s _ (by unfold maxLen; omega) HT.out).mono ?_
  rintro e w3 ⟨rfl, hb3⟩
  have HL := Lib.hid (fits_turned s)
  have hxs := sealS_size s
  generalize sealS s = x at hxs HL ⊢
  have hx1 : (4 : Int) ≤ (x.size : Int) := by omega
  have hx2 : (x.size : Int) ≤ 104 := by omega
  have HXS := Lib.hid hxs
  clear hxs
  obtain ⟨t, o, ht1, ht2, ht3, ht4, ht5⟩ := place a1 (8 * (x.size : Int)) (by omega)
  go_wp2_with fail
  refine (turn_any x o a2 (by omega) (by omega) hm.1 hm.2 _).mono ?_
  rintro e w4 ⟨L, rfl, hwi, hb4⟩
  have HFB := Lib.hid (HL.out L o hwi)
  have hbs : (⟨L.toArray⟩ : ByteArray).size ≤ maxLen := by
    have h1 := hwi.1
    have h2 : (⟨L.toArray⟩ : ByteArray).size = L.length := by show L.toArray.size = _; simp
    have h3 : x.data.toList.length = x.size := by simp
    rw [h2, h1, h3]
    unfold maxLen
    omega
  generalize (⟨L.toArray⟩ : ByteArray) = bad at HFB hbs ⊢
  clear hwi ht1 ht4
  have hb5 := hb3.trans (hb4.mono hb3.size)
  go_wp2_with fail
  refine (fits_any w1.heap.size bad _ hbs (HT.out.below hb5 hlt)).mono ?_
  rw [HFB.out]
  rintro e w6 ⟨rfl, hb6⟩
  have hb7 := below_then hb5 hb6 hb5.size
  go_wp2
  go_ret
  exact ⟨ret_bool (by simp), hbW.trans (hb7.mono hbW.size)⟩
end Go.Proofs.Ytallhdlnhegjiaa.crcBursts
