/- The walk of (*crc.Table).Sum: over any texts, the sum of the document. Conditions: the table lies in memory; lengths below 2^63. -/
import Derived.Test.YtallhdlnhegjiaaRows
import Derived.WalkKit
import Derived.ProofKit
import Derived.OpenShut
import Derived.Lib.Hide
import Derived.BigQuiet
import Derived.Deep.QuietTactic
import Derived.Test.YtallhdlnhegjiaaCrcRef
namespace Go.Proofs.Ytallhdlnhegjiaa.Crc
open Go.ChangeShapes Go.WideShapes Go.ChangeAt Go.RowKit CrcP
set_option linter.unusedVariables false

/-- the table lies whole in block g -/
def TabAt (w : World) (g : Nat) : Prop := w.heap[g]? = some (.cells (tabK 256) 37 (0, 0))
/-- a slice that reads as these texts -/
def Strs (w : World) (A : Option Addr) (ss : List ByteArray) : Prop := ∀ k, (h : k < ss.length) → ∃ b off, A = some ⟨b, off, none⟩ ∧ w.cell? ⟨b, off + k, none⟩ = some (.string ss[k])
/-- nothing but draws -/
def Drawn (w w' : World) : Prop := ∃ n, w' = w.drewN n
def allBytes (ss : List ByteArray) : List (BitVec 8) := bytes8 (ss.flatMap fun s => s.data.toList)

theorem TabAt.cell {w : World} {g : Nat} (h : TabAt w g) {i : Nat} (hi : i < 256) : w.cell? ⟨g, i, none⟩ = some (.int .u32 ((tab (BitVec.ofNat 8 i)).toNat : Int)) := by
  rw [cell_of_row _ _ _ _ _ _ h, tabK_at _ _ hi, if_pos hi]
  rfl

theorem allBytes_take (ss : List ByteArray) (k : Nat) (h : k < ss.length) : reg ones (allBytes (ss.take (k + 1))) = reg (reg ones (allBytes (ss.take k))) (bytes8 ss[k].data.toList) := by
  unfold allBytes
  rw [List.take_succ_eq_append_getElem h, List.flatMap_append]
  unfold bytes8
  rw [List.map_append, reg_append]
  simp

theorem cell_drewN (w : World) (n : Nat) (a : Addr) : (w.drewN n).cell? a = w.cell? a := by simp
theorem not_int (X : BitVec 32) : bits .xor .u32 IntKind.u32.max (X.toNat : Int) = ((~~~X).toNat : Int) := by
  have h : IntKind.u32.max = Int.ofNat (BitVec.allOnes 32).toNat := by decide
  rw [h, Int.ofNat_eq_natCast, bits_xor_bv, BitVec.not_def, BitVec.xor_comm]
/-- what a round of the sum reads and reckons -/
theorem round_facts {w : World} (g : Nat) (ht : TabAt w g) (X : BitVec 32) (b : UInt8) (x : Int) (hx : x = (X.toNat : Int)) :
    ∃ (Q : Nat) (T : Int), bits .xor .u8 (x / 16777216) (b.toNat : Int) = (Q : Int) ∧ Q < 256 ∧
      w.cell? ⟨g, Q, none⟩ = some (.int .u32 T) ∧ Hid (bits .xor .u32 (x * 256 % 4294967296) T = ((onB X b.toBitVec).toNat : Int)) := by
  have hX := X.isLt
  have hb := b.toNat_lt
  refine ⟨((X >>> 24).setWidth 8 ^^^ b.toBitVec).toNat, ((tab ((X >>> 24).setWidth 8 ^^^ b.toBitVec)).toNat : Int), ?_, ?_, ?_, ?_⟩
  · have h1 : x / (16777216 : Int) = Int.ofNat ((X >>> 24).setWidth 8 : BitVec 8).toNat := by
      rw [BitVec.toNat_setWidth, BitVec.toNat_ushiftRight, Nat.shiftRight_eq_div_pow]
      simp only [Int.ofNat_eq_natCast]
      omega
    rw [h1, Int.ofNat_eq_natCast, u8_xor_nat _ _ (BitVec.isLt _) hb, BitVec.toNat_xor]
    rfl
  · exact BitVec.isLt _
  · rw [ht.cell (BitVec.isLt _), BitVec.ofNat_toNat, BitVec.setWidth_eq]
  · show bits .xor .u32 _ _ = _
    have h2 : x * (256 : Int) % (4294967296 : Int) = Int.ofNat (X <<< 8).toNat := by
      rw [BitVec.toNat_shiftLeft, Nat.shiftLeft_eq]
      simp only [Int.ofNat_eq_natCast]
      omega
    rw [h2, Int.ofNat_eq_natCast, bits_xor_bv, on_tab]

set_option maxRecDepth 20000 in
theorem sum_any (g : Nat) (A : Option Addr) (c : Nat) (ss : List ByteArray) (w : World) (hn : ss.length ≤ maxLen) (hs : ∀ s ∈ ss, s.size ≤ maxLen) (ht : TabAt w g) (hA : Strs w A ss) :
    Calls Try.prog 27 #[.pointer (some ⟨g, 0, none⟩), .slice A ss.length c] w fun e w' => e = .returned (.int .u32 ((sum (allBytes ss)).toNat : Int)) ∧ Drawn w w' := by
  unfold maxLen at hn
  have HS := Lib.hid hs
  have HA := Lib.hid hA
  have HT := Lib.hid ht
  clear hs hA ht
  go_enter Try.func27, Try.ntmps27
  go_wp2
  go_loopw [5, 11] (fun x i wr => ∃ k : Nat, k ≤ ss.length ∧ i = .int .i64 k ∧ x = .int .u32 ((reg ones (allBytes (ss.take k))).toNat : Int) ∧ Drawn w wr) (fun _ i _ => ss.length - (intOf i).toNat)
  case atStart => exact ⟨0, by omega, rfl, rfl, 0, rfl⟩
  case round =>
    obtain ⟨k, hk, rfl, rfl, hd⟩ := hrel
    by_cases hlt : k < ss.length
    · obtain ⟨nd, rfl⟩ := hd
      obtain ⟨b, off, rfl, hc⟩ := HA.out k hlt
      have hsk := HS.out _ (List.getElem_mem hlt)
      unfold maxLen at hsk
      have HK := Lib.hid (allBytes_take ss k hlt)
      generalize hss : ss[k] = s at hc hsk HK
      clear hss
      generalize reg ones (allBytes (ss.take k)) = R at HK ⊢
      go_wp2
      go_loopw [5, 17] (fun x i wr => ∃ j : Nat, j ≤ s.size ∧ i = .int .i64 j ∧ x = .int .u32 ((reg R (bytes8 (s.data.toList.take j))).toNat : Int) ∧ Drawn w wr) (fun _ i _ => s.size - (intOf i).toNat)
      case atStart => exact ⟨0, by omega, rfl, rfl, nd, rfl⟩
      case round =>
        obtain ⟨j, hj, rfl, rfl, hd⟩ := hrel
        by_cases hjl : j < s.size
        · obtain ⟨nd, rfl⟩ := hd
          have HX := Lib.hid ((congrArg (reg R) (bytes8_take s j hjl)).trans (reg_snoc _ _ _))
          generalize reg R (bytes8 (s.data.toList.take j)) = X at HX ⊢
          have hX := X.isLt
          obtain ⟨x, hx⟩ : ∃ x : Int, x = (X.toNat : Int) := ⟨_, rfl⟩
          have hx0 : 0 ≤ x := by omega
          have hx1 : x ≤ 4294967295 := by omega
          rw [← hx]
          obtain ⟨Q, T, hq, hQ, hcell, HE⟩ := round_facts g HT.out X s[j] x hx
          have hw1 : IntKind.u8.wrap (x / 16777216) = x / 16777216 := by rw [IntKind.wrap_u8]; omega
          have hw2 : IntKind.u32.wrap (x * 256) = x * 256 % 4294967296 := by rw [IntKind.wrap_u32]
          have hQ2 : (Q : Int) < 256 := by omega
          have hQ3 : (0 : Int) ≤ (Q : Int) := by omega
          clear hx hX hc
          go_wp2
          go_quiet (fail)
          clear hq hw1 hw2
          go_wp2
          go_roundw
          case rel => exact ⟨j + 1, by omega, by go_num, by rw [HX.out, ← HE.out], _, rfl⟩
          case measure => simp [intOf]; omega
        · obtain rfl : j = s.size := by omega
          have e : s.data.toList.take s.size = s.data.toList := List.take_of_length_le (by simp)
          rw [e, ← HK.out]
          clear e HK
          go_wp2
          go_roundw
          case rel => exact ⟨k + 1, by omega, by go_num, rfl, hd⟩
          case measure => simp [intOf]; omega
    · obtain rfl : k = ss.length := by omega
      have e : ss.take ss.length = ss := List.take_of_length_le (Nat.le_refl _)
      rw [e]
      have HX := Lib.hid (show sum (allBytes ss) = ~~~ (reg ones (allBytes ss)) from rfl)
      generalize reg ones (allBytes ss) = X at HX ⊢
      have hX := X.isLt
      obtain ⟨x, hx⟩ : ∃ x : Int, x = (X.toNat : Int) := ⟨_, rfl⟩
      have hx0 : 0 ≤ x := by omega
      have hx1 : x ≤ 4294967295 := by omega
      rw [← hx]
      have HY := Lib.hid hx
      clear hx hX e
      go_wp2
      go_ret
      exact ⟨ret_int (by rw [HX.out, HY.out]; exact not_int X), hd⟩
/-- what a byte string is, bit by bit -/
def bitsOf (s : ByteArray) : List (BitVec 8) := bytes8 s.data.toList
theorem sum_one (g b off c : Nat) (s : ByteArray) (w : World) (hs : s.size ≤ maxLen) (ht : TabAt w g) (hc : w.cell? ⟨b, off, none⟩ = some (.string s)) :
    Calls Try.prog 27 #[.pointer (some ⟨g, 0, none⟩), .slice (some ⟨b, off, none⟩) 1 c] w fun e w' => e = .returned (.int .u32 ((sum (bitsOf s)).toNat : Int)) ∧ Drawn w w' := by
  have h := sum_any g (some ⟨b, off, none⟩) c [s] w (by simp [maxLen]) (by intro x hx; simp at hx; subst hx; exact hs) ht (by
    intro k hk
    obtain rfl : k = 0 := by simpa using hk
    exact ⟨b, off, rfl, hc⟩)
  have e : allBytes [s] = bitsOf s := by unfold allBytes bitsOf; simp
  rw [e] at h
  exact h
theorem Drawn.below {w w' : World} (h : Drawn w w') (B : Nat) : Below B w w' := by
  obtain ⟨n, rfl⟩ := h
  exact ⟨rfl, rfl, rfl, Nat.le_refl _, fun _ _ => rfl⟩
theorem TabAt.below {w w' : World} {B g : Nat} (h : TabAt w g) (hb : Below B w w') (hg : g < B) : TabAt w' g := (hb.block g hg).trans h
theorem TabAt.lt {w : World} {g : Nat} (h : TabAt w g) : g < w.heap.size := (Array.getElem?_eq_some_iff.1 h).1

end Go.Proofs.Ytallhdlnhegjiaa.Crc
