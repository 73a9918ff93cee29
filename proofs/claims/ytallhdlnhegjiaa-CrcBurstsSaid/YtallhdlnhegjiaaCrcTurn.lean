/- The walk of Turn: what it turns lies within thirty-two bits; the length stays. Conditions: the place lies in the text, the text is short. -/
import Derived.Test.YtallhdlnhegjiaaRows
import Derived.WalkKit
import Derived.ProofKit
import Derived.OpenShut
import Derived.Lib.Hide
import Derived.BigRegion
import Derived.Laws.IdiomStrings
import Derived.Test.YtallhdlnhegjiaaCrcFits
import Derived.Test.YtallhdlnhegjiaaCrcBurst
namespace Go.Proofs.Ytallhdlnhegjiaa.Crc
open Go.ChangeShapes Go.WideShapes Go.ChangeAt Go.RowKit CrcP
set_option linter.unusedVariables false

/-- bytes L stand at the head of block g, free to be written -/
def Stand (w : World) (g : Nat) (L : List UInt8) : Prop := ∀ j, j < L.length → w.cell? ⟨g, j, none⟩ = some (.int .u8 ((L.getD j 0).toNat : Int)) ∧ w.frozen? ⟨g, j, none⟩ = false
/-- L is as M but for bits from o on, ahead of o + k -/
def Within (L M : List UInt8) (o k : Nat) : Prop := L.length = M.length ∧ ∀ p, p < 8 * M.length → (p < o ∨ o + k ≤ p) → bitAt (bytes8 L) p = bitAt (bytes8 M) p
def Turned (s : ByteArray) (o : Nat) (w : World) (e : Ending) (w' : World) : Prop :=
  ∃ L : List UInt8, e = .returned (.string ⟨L.toArray⟩) ∧ Within L s.data.toList o 32 ∧ Below w.heap.size w w'

theorem stand_start (w : World) (s : ByteArray) (c : Nat) :
    Stand ((w.alloc (.cells (bytesRow s c) 5 ((bytesRow s c).size, (bytesRow s c).size + 1))).drew) w.heap.size s.data.toList := by
  intro j hj
  have hj' : j < s.data.size := by simpa using hj
  have hz : s.data.size ≤ (bytesRow s c).size := by unfold bytesRow; simp
  have e1 : ((w.alloc (.cells (bytesRow s c) 5 ((bytesRow s c).size, (bytesRow s c).size + 1))).drew).cell? ⟨w.heap.size, j, none⟩ = (bytesRow s c)[j]? := World.cell?_alloc_mark w _ 5 _ j
  have e2 : ((w.alloc (.cells (bytesRow s c) 5 ((bytesRow s c).size, (bytesRow s c).size + 1))).drew).frozen? ⟨w.heap.size, j, none⟩ = _ := World.frozen?_alloc_mark w _ 5 _ _ j
  refine ⟨?_, ?_⟩
  · rw [e1, bytesRow_at s c j hj']
    simp
    rw [Array.getElem?_eq_getElem hj']
    rfl
  · rw [e2, decide_eq_false (by omega), Bool.false_and]
theorem Stand.set_ {w : World} {g : Nat} {L : List UInt8} (h : Stand w g L) (j : Nat) (hj : j < L.length) (b : UInt8) :
    Stand (w.setCell ⟨g, j, none⟩ (.int .u8 (b.toNat : Int))) g (L.set j b) := by
  intro i hi
  rw [List.length_set] at hi
  refine ⟨?_, ?_⟩
  · by_cases e : i = j
    · subst e
      rw [World.cell?_setCell_same _ _ _ (h i hj).1]
      simp [hj]
    · rw [World.cell?_setCell_other _ _ _ _ (by intro h2; injection h2 with _ h3 _; exact e h3.symm), (h i hi).1]
      simp [List.getElem?_set_ne (Ne.symm e)]
  · rw [World.frozen?_setCell]
    exact (h i hi).2
theorem Within.start (M : List UInt8) (o : Nat) : Within M M o 0 := ⟨rfl, fun _ _ _ => rfl⟩
theorem Within.more {L M : List UInt8} {o k k' : Nat} (h : Within L M o k) (hk : k ≤ k') : Within L M o k' := ⟨h.1, fun p hp hin => h.2 p hp (by omega)⟩
theorem bytes8_set (L : List UInt8) (j : Nat) (b : UInt8) : bytes8 (L.set j b) = (bytes8 L).set j b.toBitVec := by unfold bytes8; rw [List.map_set]
theorem Within.set_ {L M : List UInt8} {o k : Nat} (h : Within L M o k) (b : UInt8) (hk : o + k < 8 * M.length)
    (hb : ∀ i, i < 8 → i ≠ (o + k) % 8 → b.toBitVec.getMsbD i = (L.getD ((o + k) / 8) 0).toBitVec.getMsbD i) : Within (L.set ((o + k) / 8) b) M o (k + 1) := by
  refine ⟨by rw [List.length_set]; exact h.1, fun p hp hin => ?_⟩
  rw [← h.2 p hp (by omega)]
  unfold bitAt
  rw [bytes8_set]
  by_cases e : p / 8 = (o + k) / 8
  · have hne : p % 8 ≠ (o + k) % 8 := by omega
    have hl : (o + k) / 8 < (bytes8 L).length := by unfold bytes8; rw [List.length_map, h.1]; omega
    have hl2 : (o + k) / 8 < L.length := by rw [h.1]; omega
    rw [e]
    have e2 : ((bytes8 L).set ((o + k) / 8) b.toBitVec).getD ((o + k) / 8) 0#8 = b.toBitVec := by simp [hl]
    have e3 : (bytes8 L).getD ((o + k) / 8) 0#8 = (L.getD ((o + k) / 8) 0).toBitVec := by unfold bytes8; simp [hl2]
    rw [e2, e3]
    exact hb _ (by omega) hne
  · have e2 : ((bytes8 L).set ((o + k) / 8) b.toBitVec).getD (p / 8) 0#8 = (bytes8 L).getD (p / 8) 0#8 := by
      simp [List.getElem?_set_ne (Ne.symm e)]
    rw [e2]
/-- a byte with one bit turned -/
theorem turn_byte (b : UInt8) (m : Nat) (hm : m < 8) : ∃ c : UInt8, bits .xor .u8 (b.toNat : Int) (128 / 2 ^ m) = (c.toNat : Int) ∧ ∀ i, i < 8 → i ≠ m → c.toBitVec.getMsbD i = b.toBitVec.getMsbD i := by
  have hb := b.toNat_lt
  have key : ∀ m : Fin 8, (128 : Int) / 2 ^ m.val = ((128#8 >>> m.val).toNat : Int) ∧ ∀ i : Fin 8, i ≠ m → (128#8 >>> m.val).getMsbD i.val = false := by decide
  obtain ⟨k1, k2⟩ := key ⟨m, hm⟩
  refine ⟨UInt8.ofBitVec (b.toBitVec ^^^ 128#8 >>> m), ?_, ?_⟩
  · rw [k1, u8_xor_nat _ _ hb (BitVec.isLt _)]
    show _ = ((b.toBitVec ^^^ 128#8 >>> m).toNat : Int)
    rw [BitVec.toNat_xor]
    rfl
  · intro i hi hne
    show (b.toBitVec ^^^ 128#8 >>> m).getMsbD i = _
    rw [BitVec.getMsbD_xor, k2 ⟨i, hi⟩ (by intro h; exact hne (congrArg Fin.val h)), Bool.xor_false]

theorem close_within {L M : List UInt8} {o k p : Nat} {b0 c : UInt8} (h : Within L M o k) (hb : ∀ i, i < 8 → i ≠ p % 8 → c.toBitVec.getMsbD i = b0.toBitVec.getMsbD i) (hp : (o : Int) + (k : Int) = (p : Int))
    (hb0 : L.getD (p / 8) 0 = b0) (hl : p < 8 * M.length) : Within (L.set (p / 8) c) M o (k + 1) := by
  obtain rfl : o + k = p := by omega
  subst hb0
  exact h.set_ c hl hb
theorem back (wr : World) (g n cp : Nat) (L : List UInt8) (hn : L.length = n) (hst : Stand wr g L) :
    Sem.run Try.prog (convert 76 9 (.slice (some ⟨g, 0, none⟩) n cp)) wr = .ok (.string ⟨L.toArray⟩) wr := by
  subst hn
  refine run_convert_bytes_back wr 76 9 5 ⟨g, 0, none⟩ cp L Try.underlying76 Try.underlying5 Try.underlying9 fun j hj => ?_
  have e : (⟨g, 0, none⟩ : Addr).add j = ⟨g, j, none⟩ := by unfold Addr.add; split <;> simp_all
  rw [e, (hst j hj).1, List.getD_eq_getElem?_getD, List.getElem?_eq_getElem hj]
  rfl

set_option maxRecDepth 20000 in
theorem turn_any (s : ByteArray) (o : Nat) (mask : Int) (hs : s.size ≤ 1000) (ho : o < 8 * s.size) (h0 : 0 ≤ mask) (h1 : mask ≤ 4294967295) (w : World) :
    Calls Try.prog 45 #[.string s, .int .i64 (o : Int), .int .u32 mask] w (Turned s o w) := by
  have hconv := run_bytes_of_string (P := Try.prog) w 9 76 5 s Try.underlying9 Try.underlying76 Try.underlying5
  go_enter Try.func45, Try.ntmps45
  go_wp2
  clear hconv
  generalize grownCap w s.size 0 5 = cp
  go_loopw [12] (fun i wr => ∃ (k : Nat) (L : List UInt8), k ≤ 32 ∧ i = .int .i64 k ∧ Within L s.data.toList o k ∧ Stand wr w.heap.size L ∧ Below w.heap.size w wr) (fun i _ => 32 - (intOf i).toNat)
  case atStart => exact ⟨0, _, by omega, rfl, Within.start _ _, stand_start w s cp, ((Below.refl _ _).alloc (Nat.le_refl _) _).drew⟩
  case round =>
    obtain ⟨k, L, hk, rfl, hwi, hst, hb⟩ := hrel
    by_cases hlt : k < 32
    · obtain ⟨p, hp⟩ : ∃ p : Nat, (o : Int) + (k : Int) = (p : Int) := ⟨o + k, by omega⟩
      have hLs : L.length = s.size := by rw [hwi.1]; simp
      have hp0 : (0 : Int) ≤ (p : Int) := by omega
      have HP := Lib.hid hp
      have HST := Lib.hid hst
      have HWI := Lib.hid hwi
      have HB := Lib.hid hb
      clear hst hwi hb
      by_cases hpl : p < 8 * s.size
      · obtain ⟨hc, hf⟩ := HST.out (p / 8) (by omega)
        obtain ⟨c, hcx, hcb⟩ := turn_byte (L.getD (p / 8) 0) (p % 8) (by omega)
        obtain ⟨b0, hb0⟩ : ∃ b0, L.getD (p / 8) 0 = b0 := ⟨_, rfl⟩
        rw [hb0] at hc hcx hcb
        have HB0 := Lib.hid hb0
        clear hb0
        have HCB := Lib.hid hcb
        have hbb := b0.toNat_lt
        clear hcb
        have hq1 : (p : Int) / 8 < (s.size : Int) := by omega
        have hq0 : (0 : Int) ≤ (p : Int) / 8 := by omega
        have hq2 : (0 : Int) ≤ (p : Int) % 8 := by omega
        have hq3 : (p : Int) % 8 ≤ 8 := by omega
        clear hLs
        go_wp2
        · go_region
          have R1 := HST.out.set_ (p / 8) (by rw [HWI.out.1]; simp; omega) c
          have R2 := close_within HWI.out HCB.out HP.out HB0.out (by simp; omega)
          have R3 := HB.out.setCell (p := ⟨w.heap.size, p / 8, none⟩) (Nat.le_refl _) (.int .u8 (c.toNat : Int))
          have HR1 := Lib.hid R1
          have HR2 := Lib.hid R2
          have HR3 := Lib.hid R3
          clear R1 R2 R3
          go_wp2
          go_roundw
          case rel => exact ⟨k + 1, _, by omega, by go_num, HR2.out, HR1.out, HR3.out.drew⟩
          case measure => simp [intOf]; omega
        · go_roundw
          case rel => exact ⟨k + 1, L, by omega, by go_num, HWI.out.more (by omega), HST.out, HB.out⟩
          case measure => simp [intOf]; omega
      · go_wp2
        all_goals
          go_roundw
          case rel => exact ⟨k + 1, L, by omega, by go_num, HWI.out.more (by omega), HST.out, HB.out⟩
          case measure => simp [intOf]; omega
    · obtain rfl : k = 32 := by omega
      have hconv2 := back wr w.heap.size s.size cp L (by rw [hwi.1]; simp) hst
      have HWI := Lib.hid hwi
      clear hst hwi
      go_wp2
      go_ret
      exact ⟨L, rfl, HWI.out, hb⟩
end Go.Proofs.Ytallhdlnhegjiaa.Crc
