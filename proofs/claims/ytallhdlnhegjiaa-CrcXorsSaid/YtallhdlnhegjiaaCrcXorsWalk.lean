/- The walk of CrcXors: whatever a list of triples of bytes, it returns true and writes nothing that was there. -/
import Derived.Test.YtallhdlnhegjiaaRows
import Derived.WalkKit
import Derived.ProofKit
import Derived.OpenShut
import Derived.Outline
import Derived.Lib.Hide
import Derived.BigRegion
import Derived.Test.YtallhdlnhegjiaaAnyInv
import Derived.Test.YtallhdlnhegjiaaCrcFits
namespace Go.Proofs.Ytallhdlnhegjiaa.crcXors
open Go.ChangeShapes Go.WideShapes Go.ChangeAt Go.RowKit CrcP Crc
set_option linter.unusedVariables false

/-- nil, or a row whose first 'len' elements are triples of bytes -/
def IsTris (w : World) (a : Option Addr) (len : Nat) (B : Nat → Nat → UInt8) : Prop :=
  len ≤ maxLen ∧ ∀ i, i < len → ∃ b off, a = some ⟨b, off, none⟩ ∧ b < w.heap.size ∧ ∀ j, j < 3 → w.cell? ⟨b, off + (i * 3 + j), none⟩ = some (.int .u8 ((B i j).toNat : Int))

def one (b : UInt8) : ByteArray := ⟨#[b]⟩
def colS (f : Nat → UInt8) (k : Nat) : ByteArray := ⟨((List.range k).map f).toArray⟩
theorem colS_succ (f : Nat → UInt8) (k : Nat) : colS f k ++ one (f k) = colS f (k + 1) := by
  unfold colS one
  rw [List.range_succ, List.map_append]
  apply ByteArray.ext
  simp [ByteArray.data_append]
theorem colS_size (f : Nat → UInt8) (k : Nat) : (colS f k).size = k := by show ((List.range k).map f).toArray.size = k; simp
theorem bitsOf_col (f : Nat → UInt8) (k : Nat) : bitsOf (colS f k) = (List.range k).map fun i => (f i).toBitVec := by
  unfold bitsOf colS bytes8
  simp [List.map_map, Function.comp_def]
theorem zip_map (f g : Nat → BitVec 8) (k : Nat) : List.zipWith (· ^^^ ·) ((List.range k).map f) ((List.range k).map g) = (List.range k).map fun i => f i ^^^ g i := by
  simp [List.zipWith_map]
theorem sums (f g h : Nat → UInt8) (k : Nat) : sum (bitsOf (colS f k)) ^^^ sum (bitsOf (colS g k)) ^^^ sum (bitsOf (colS h k)) = sum (bitsOf (colS (fun i => f i ^^^ g i ^^^ h i) k)) := by
  have e1 := reg_xor (bitsOf (colS f k)) (bitsOf (colS g k)) ones ones (by rw [bitsOf_col, bitsOf_col]; simp)
  rw [bitsOf_col, bitsOf_col, zip_map, BitVec.xor_self] at e1
  have e2 := reg_xor ((List.range k).map fun i => (f i).toBitVec ^^^ (g i).toBitVec) (bitsOf (colS h k)) 0#32 ones (by rw [bitsOf_col]; simp)
  rw [bitsOf_col, zip_map, e1, BitVec.zero_xor] at e2
  unfold sum
  have e3 : ∀ x y z : BitVec 32, ~~~x ^^^ ~~~y ^^^ ~~~z = ~~~(x ^^^ y ^^^ z) := by
    intro x y z
    apply BitVec.eq_of_getLsbD_eq
    intro i hi
    simp [hi]
  rw [e3, bitsOf_col, bitsOf_col, bitsOf_col, bitsOf_col]
  have e4 : (List.range k).map (fun i => (f i ^^^ g i ^^^ h i).toBitVec) = (List.range k).map fun i => (f i).toBitVec ^^^ (g i).toBitVec ^^^ (h i).toBitVec := rfl
  rw [e4, e2]

theorem ref_sum (s : ByteArray) (hs : s.size ≤ maxLen) (w : World) : Calls Try.prog 42 #[.string s] w fun e w' => e = .returned (.int .u32 ((sum (bitsOf s)).toNat : Int)) ∧ w = w' := refSum_any s hs w
def byteOf : Option Value → Option UInt8
  | some (.int .u8 n) => some (UInt8.ofNat n.toNat)
  | _ => none
set_option maxRecDepth 20000 in
theorem run_conv1 : ∃ F : World → Nat → Result Value, ∀ (w : World) (g : Nat), Sem.run Try.prog (convert 76 9 (.slice (some ⟨g, 0, none⟩) 1 1)) w = (match byteOf (w.cell? ⟨g, 0, none⟩) with | some b => .ok (.string (one b)) w | none => F w g) := by
  refine ⟨fun w g => Sem.run Try.prog (convert 76 9 (.slice (some ⟨g, 0, none⟩) 1 1)) w, fun w g => ?_⟩
  cases h : byteOf (w.cell? ⟨g, 0, none⟩) with
  | none => rfl
  | some b =>
    unfold byteOf at h
    split at h
    · rename_i n hc
      injection h with h
      subst h
      have := run_convert_bytes_arg (P := Try.prog) w 76 5 Try.underlying76 Try.underlying5 g 0 1 1 [n] rfl (by
        intro i hi
        obtain rfl : i = 0 := by omega
        exact hc) 9 Try.underlying9
      rw [this]
      rfl
    · cases h
theorem byteOf_byte (b : UInt8) : byteOf (some (.int .u8 (b.toNat : Int))) = some b := by
  unfold byteOf
  simp

theorem xor3 (a b c : UInt8) : ∃ x01 : UInt8, bits .xor .u8 (a.toNat : Int) (b.toNat : Int) = (x01.toNat : Int) ∧ ∃ x012 : UInt8, bits .xor .u8 (x01.toNat : Int) (c.toNat : Int) = (x012.toNat : Int) ∧ x012 = a ^^^ b ^^^ c := by
  have ha := a.toNat_lt
  have hb := b.toNat_lt
  have hc := c.toNat_lt
  have hab := (a ^^^ b).toNat_lt
  exact ⟨a ^^^ b, by rw [u8_xor_nat _ _ ha hb, UInt8.toNat_xor], a ^^^ b ^^^ c, by rw [u8_xor_nat _ _ hab hc, UInt8.toNat_xor (a ^^^ b)], rfl⟩

/-- a slice of one byte, in a block of its own -/
def Fresh (w : World) (v : Value) (x : UInt8) : Prop := ∃ h, v = .slice (some ⟨h, 0, none⟩) 1 1 ∧ w.heap[h]? = some (.cells #[.int .u8 (x.toNat : Int)] 5 (0, 0))
/-- what is right of the value of the i-th operation -/
def RX (g : Nat) (x0 x1 x2 x01 x012 : UInt8) (t0 t1 t2 t3 : ByteArray) (w : World) (v : Value) : Nat → Prop
  | 0 => v = .string t0
  | 1 => v = .pointer (some ⟨g, 0, none⟩)
  | 2 => v = .int .u8 (x0.toNat : Int)
  | 3 => Fresh w v x0
  | 4 => v = .string (one x0)
  | 5 => v = .string (t0 ++ one x0)
  | 6 => v = .string t1
  | 7 => v = .pointer (some ⟨g, 1, none⟩)
  | 8 => v = .int .u8 (x1.toNat : Int)
  | 9 => Fresh w v x1
  | 10 => v = .string (one x1)
  | 11 => v = .string (t1 ++ one x1)
  | 12 => v = .string t2
  | 13 => v = .pointer (some ⟨g, 2, none⟩)
  | 14 => v = .int .u8 (x2.toNat : Int)
  | 15 => Fresh w v x2
  | 16 => v = .string (one x2)
  | 17 => v = .string (t2 ++ one x2)
  | 18 => v = .string t3
  | 19 => v = .pointer (some ⟨g, 0, none⟩)
  | 20 => v = .int .u8 (x0.toNat : Int)
  | 21 => v = .pointer (some ⟨g, 1, none⟩)
  | 22 => v = .int .u8 (x1.toNat : Int)
  | 23 => v = .int .u8 (x01.toNat : Int)
  | 24 => v = .pointer (some ⟨g, 2, none⟩)
  | 25 => v = .int .u8 (x2.toNat : Int)
  | 26 => v = .int .u8 (x012.toNat : Int)
  | 27 => Fresh w v x012
  | 28 => v = .string (one x012)
  | 29 => v = .string (t3 ++ one x012)
  | 30 => v = .string (t0 ++ one x0)
  | 31 => v = .string (t1 ++ one x1)
  | 32 => v = .string (t2 ++ one x2)
  | 33 => v = .string (t3 ++ one x012)
  | _ => False
def Ext (w w' : World) : Prop := ∀ (k : Nat) (c : Obj), w.heap[k]? = some c → w'.heap[k]? = some c
theorem Ext.refl (w : World) : Ext w w := fun _ _ h => h
theorem Ext.alloc (w : World) (o : Obj) : Ext w (w.alloc o) := fun k c h => by
  rw [Below.heap_alloc w o k (Array.getElem?_eq_some_iff.1 h).1]
  exact h
theorem Fresh.ext {w w' : World} {v : Value} {x : UInt8} (h : Fresh w v x) (he : Ext w w') : Fresh w' v x := by
  obtain ⟨k, h1, h2⟩ := h
  exact ⟨k, h1, he _ _ h2⟩
theorem RX.ext {g : Nat} {x0 x1 x2 x01 x012 : UInt8} {t0 t1 t2 t3 : ByteArray} {w w' : World} {v : Value} (he : Ext w w') : ∀ i, RX g x0 x1 x2 x01 x012 t0 t1 t2 t3 w v i → RX g x0 x1 x2 x01 x012 t0 t1 t2 t3 w' v i
  | 0, h => h
  | 1, h => h
  | 2, h => h
  | 3, h => Fresh.ext h he
  | 4, h => h
  | 5, h => h
  | 6, h => h
  | 7, h => h
  | 8, h => h
  | 9, h => Fresh.ext h he
  | 10, h => h
  | 11, h => h
  | 12, h => h
  | 13, h => h
  | 14, h => h
  | 15, h => Fresh.ext h he
  | 16, h => h
  | 17, h => h
  | 18, h => h
  | 19, h => h
  | 20, h => h
  | 21, h => h
  | 22, h => h
  | 23, h => h
  | 24, h => h
  | 25, h => h
  | 26, h => h
  | 27, h => Fresh.ext h he
  | 28, h => h
  | 29, h => h
  | 30, h => h
  | 31, h => h
  | 32, h => h
  | 33, h => h
  | _ + 34, h => h.elim
def upd (val : Nat → Value) (i : Nat) (v : Value) : Nat → Value := fun j => if j = i then v else val j
/-- what stands in memory all along -/
def WX (B0 g : Nat) (x0 x1 x2 : UInt8) (wb w : World) : Prop := Below B0 wb w ∧ w.heap[g]? = some (.cells #[.int .u8 (x0.toNat : Int), .int .u8 (x1.toNat : Int), .int .u8 (x2.toNat : Int)] 75 (0, 0))
structure XI (B0 g : Nat) (x0 x1 x2 x01 x012 : UInt8) (t0 t1 t2 t3 : ByteArray) (wb : World) (fr : (Nat → Value) → Act) (l : Array Bool) (a : Act) (w : World) (val : Nat → Value) : Prop where
  act : a = fr val
  size : l.size = 34
  mem : WX B0 g x0 x1 x2 wb w
  done : ∀ i, l.getD i false = true → RX g x0 x1 x2 x01 x012 t0 t1 t2 t3 w (val i) i
  last : (l.getD 30 false = true → l.getD 0 false = true) ∧ (l.getD 31 false = true → l.getD 6 false = true) ∧ (l.getD 32 false = true → l.getD 12 false = true) ∧ (l.getD 33 false = true → l.getD 18 false = true)
  early : (l.getD 30 false = false → val 30 = .string t0) ∧ (l.getD 31 false = false → val 31 = .string t1) ∧ (l.getD 32 false = false → val 32 = .string t2) ∧ (l.getD 33 false = false → val 33 = .string t3)
theorem getD_set (l : Array Bool) (i j : Nat) (hi : i < l.size) : (l.setIfInBounds i true).getD j false = if i = j then true else l.getD j false := by
  rw [Array.getD_eq_getD_getElem?, Array.getD_eq_getD_getElem?, Array.getElem?_setIfInBounds]
  split
  · rename_i h; subst h; simp
  · rfl
theorem early_one {l : Array Bool} {i j : Nat} {v t : Value} {val : Nat → Value} (hs : i < l.size) (e : l.getD j false = false → val j = t) (hz : (l.setIfInBounds i true).getD j false = false) : upd val i v j = t := by
  rw [getD_set _ _ _ hs] at hz
  unfold upd
  by_cases h : i = j
  · rw [if_pos h] at hz; cases hz
  · rw [if_neg h] at hz
    rw [if_neg (fun e => h e.symm)]
    exact e hz
theorem last_one {l : Array Bool} {i j k : Nat} (hs : i < l.size) (e : l.getD j false = true → l.getD k false = true) (hn : i = j → l.getD k false = true) (hz : (l.setIfInBounds i true).getD j false = true) : (l.setIfInBounds i true).getD k false = true := by
  rw [getD_set _ _ _ hs] at hz ⊢
  by_cases h : i = k
  · rw [if_pos h]
  · rw [if_neg h]
    by_cases h2 : i = j
    · exact hn h2
    · rw [if_neg h2] at hz
      exact e hz
theorem not_run {l : Array Bool} {i : Nat} (hs : i < l.size) (hl : l.getD i true = false) : l.getD i false = false := by
  rw [Array.getD_eq_getD_getElem?, Array.getElem?_eq_getElem hs] at hl ⊢
  exact hl
theorem XI.step {B0 g : Nat} {x0 x1 x2 x01 x012 : UInt8} {t0 t1 t2 t3 : ByteArray} {wb : World} {fr : (Nat → Value) → Act} {l : Array Bool} {a a' : Act} {w w' : World} {val : Nat → Value}
    (h : XI B0 g x0 x1 x2 x01 x012 t0 t1 t2 t3 wb fr l a w val) (i : Nat) (v : Value) (hi : i < 34) (hf : a' = fr (upd val i v)) (he : Ext w w') (hm : WX B0 g x0 x1 x2 wb w')
    (hv : RX g x0 x1 x2 x01 x012 t0 t1 t2 t3 w' v i) (hl : (i = 30 → l.getD 0 false = true) ∧ (i = 31 → l.getD 6 false = true) ∧ (i = 32 → l.getD 12 false = true) ∧ (i = 33 → l.getD 18 false = true)) : ∃ val', XI B0 g x0 x1 x2 x01 x012 t0 t1 t2 t3 wb fr (l.setIfInBounds i true) a' w' val' := by
  have hs : i < l.size := by rw [h.size]; exact hi
  refine ⟨upd val i v, hf, by rw [Array.size_setIfInBounds]; exact h.size, hm, ?_, ?_, ?_⟩
  · intro j hj
    rw [getD_set _ _ _ hs] at hj
    unfold upd
    by_cases e : j = i
    · subst e
      rw [if_pos rfl]
      exact hv
    · rw [if_neg e]
      rw [if_neg (fun h => e h.symm)] at hj
      exact RX.ext he j (h.done j hj)
  · obtain ⟨l0, l1, l2, l3⟩ := h.last
    exact ⟨last_one hs l0 hl.1, last_one hs l1 hl.2.1, last_one hs l2 hl.2.2.1, last_one hs l3 hl.2.2.2⟩
  · obtain ⟨e0, e1, e2, e3⟩ := h.early
    refine ⟨?_, ?_, ?_, ?_⟩ <;> (intro hz; first | exact early_one hs e0 hz | exact early_one hs e1 hz | exact early_one hs e2 hz | exact early_one hs e3 hz)
/-- what the first of a chain reads has not been written -/
theorem XI.reads {B0 g : Nat} {x0 x1 x2 x01 x012 : UInt8} {t0 t1 t2 t3 : ByteArray} {wb : World} {fr : (Nat → Value) → Act} {l : Array Bool} {a : Act} {w : World} {val : Nat → Value}
    (h : XI B0 g x0 x1 x2 x01 x012 t0 t1 t2 t3 wb fr l a w val) : (l.getD 0 true = false → val 30 = .string t0) ∧ (l.getD 6 true = false → val 31 = .string t1) ∧ (l.getD 12 true = false → val 32 = .string t2) ∧ (l.getD 18 true = false → val 33 = .string t3) := by
  have hs := h.size
  obtain ⟨l0, l1, l2, l3⟩ := h.last
  obtain ⟨e0, e1, e2, e3⟩ := h.early
  refine ⟨fun hl => e0 ?_, fun hl => e1 ?_, fun hl => e2 ?_, fun hl => e3 ?_⟩
  · have := not_run (by omega) hl
    cases hz : l.getD 30 false with
    | false => rfl
    | true => rw [l0 hz] at this; cases this
  · have := not_run (by omega) hl
    cases hz : l.getD 31 false with
    | false => rfl
    | true => rw [l1 hz] at this; cases this
  · have := not_run (by omega) hl
    cases hz : l.getD 32 false with
    | false => rfl
    | true => rw [l2 hz] at this; cases this
  · have := not_run (by omega) hl
    cases hz : l.getD 33 false with
    | false => rfl
    | true => rw [l3 hz] at this; cases this
theorem no_last {i : Nat} {p q r s : Prop} (h : i < 30) : (i = 30 → p) ∧ (i = 31 → q) ∧ (i = 32 → r) ∧ (i = 33 → s) := ⟨fun e => absurd e (by omega), fun e => absurd e (by omega), fun e => absurd e (by omega), fun e => absurd e (by omega)⟩
theorem wx_alloc {B0 g : Nat} {x0 x1 x2 : UInt8} {wb w : World} (h : WX B0 g x0 x1 x2 wb w) (hB : B0 ≤ wb.heap.size) (o : Obj) : WX B0 g x0 x1 x2 wb (w.alloc o) :=
  ⟨h.1.alloc (Nat.le_trans hB h.1.size) o, Ext.alloc _ _ _ _ h.2⟩
theorem gcell {w : World} {g : Nat} {x0 x1 x2 : UInt8} {B0 : Nat} {wb : World} (h : WX B0 g x0 x1 x2 wb w) : w.cell? ⟨g, 0, none⟩ = some (.int .u8 (x0.toNat : Int)) ∧ w.cell? ⟨g, 1, none⟩ = some (.int .u8 (x1.toNat : Int)) ∧ w.cell? ⟨g, 2, none⟩ = some (.int .u8 (x2.toNat : Int)) := by
  refine ⟨?_, ?_, ?_⟩ <;> (rw [cell_of_row _ _ _ _ _ _ h.2]; rfl)
theorem conv_fresh {w : World} {v : Value} {x : UInt8} (h : Fresh w v x) : Sem.run Try.prog (convert 76 9 v) w = .ok (.string (one x)) w := by
  obtain ⟨k, rfl, hk⟩ := h
  have := run_convert_bytes_arg (P := Try.prog) w 76 5 Try.underlying76 Try.underlying5 k 0 1 1 [(x.toNat : Int)] rfl (by
    intro i hi
    obtain rfl : i = 0 := by omega
    rw [cell_of_row _ _ _ _ _ _ hk]
    rfl) 9 Try.underlying9
  rw [this]
  have e : strOfNums [(x.toNat : Int)] = one x := by
    unfold strOfNums one
    simp
  rw [e]

theorem none_run (n i : Nat) (h : (Array.replicate n false).getD i false = true) : False := by
  rw [Array.getD_eq_getD_getElem?, Array.getElem?_replicate] at h
  split at h <;> cases h

set_option maxHeartbeats 4000000 in
set_option maxRecDepth 20000 in
theorem walk (a0 : Option Addr) (len0 cap0 : Nat) (B : Nat → Nat → UInt8) (w : World) (w0 : IsTris w a0 len0 B) (hlc : len0 ≤ cap0) (hcm : cap0 ≤ maxLen) :
    Calls Try.prog 15 #[.slice a0 len0 cap0] w fun e w' => e = .returned (.bool true) ∧ Below w.heap.size w w' := by
  unfold maxLen at hcm
  have W0 := Lib.hid w0
  obtain ⟨m, hm, hml, hm60⟩ : ∃ m : Nat, (if (60 : Int) < (len0 : Int) then (60 : Int) else (len0 : Int)) = (m : Int) ∧ m ≤ len0 ∧ m ≤ 60 := by
    by_cases c : 60 < len0
    · exact ⟨60, by rw [if_pos (by omega)]; rfl, by omega, by omega⟩
    · exact ⟨len0, by rw [if_neg (by omega)], by omega, by omega⟩
  have hmc : (m : Int) ≤ (cap0 : Int) := by omega
  have hm0 : (0 : Int) ≤ (m : Int) := by omega
  go_enter Try.func15, Try.ntmps15
  go_wp2_with (first
    | (go_at_call 40; refine (awake_any _).mono ?_; rintro e wa ⟨rfl, hba⟩))
  clear hm
  have HBA := Lib.hid hba
  clear hba
  go_loopw [3, 4, 5, 6, 19] (fun a b c d i wr => ∃ k : Nat, k ≤ m ∧ i = .int .i64 k ∧ a = .string (colS (fun i => B i 0) k) ∧ b = .string (colS (fun i => B i 1) k) ∧ c = .string (colS (fun i => B i 2) k) ∧
      d = .string (colS (fun i => B i 0 ^^^ B i 1 ^^^ B i 2) k) ∧ Below w.heap.size w wr) (fun _ _ _ _ i _ => m - (intOf i).toNat)
  case atStart => exact ⟨0, by omega, rfl, rfl, rfl, rfl, rfl, HBA.out⟩
  case round =>
    obtain ⟨k, hk, rfl, rfl, rfl, rfl, rfl, hb⟩ := hrel
    by_cases hlt : k < m
    · obtain ⟨b, off, rfl, hbl, hcell⟩ := W0.out.2 k (by omega)
      have c0 := hcell 0 (by omega)
      have c1 := hcell 1 (by omega)
      have c2 := hcell 2 (by omega)
      rw [← hb.cell (show b < w.heap.size from hbl)] at c0 c1 c2
      rw [Nat.add_zero] at c0
      rw [← Nat.add_assoc] at c1 c2
      clear hcell
      have S0 := Lib.hid (colS_succ (fun i => B i 0) k)
      have S1 := Lib.hid (colS_succ (fun i => B i 1) k)
      have S2 := Lib.hid (colS_succ (fun i => B i 2) k)
      have S3 := Lib.hid (colS_succ (fun i => B i 0 ^^^ B i 1 ^^^ B i 2) k)
      have z0 := colS_size (fun i => B i 0) k
      have z1 := colS_size (fun i => B i 1) k
      have z2 := colS_size (fun i => B i 2) k
      have z3 := colS_size (fun i => B i 0 ^^^ B i 1 ^^^ B i 2) k
      obtain ⟨x01, h01, x012, h012, hx3⟩ := xor3 (B k 0) (B k 1) (B k 2)
      rw [← hx3] at S3
      clear hx3
      generalize colS (fun i => B i 0) k = t0 at S0 z0 ⊢
      generalize colS (fun i => B i 1) k = t1 at S1 z1 ⊢
      generalize colS (fun i => B i 2) k = t2 at S2 z2 ⊢
      generalize colS (fun i => B i 0 ^^^ B i 1 ^^^ B i 2) k = t3 at S3 z3 ⊢
      generalize B k 0 = x0 at c0 S0 h01
      generalize B k 1 = x1 at c1 S1 h01
      generalize B k 2 = x2 at c2 S2 h012
      have q0 : ¬ 9223372036854775807 < t0.size + 1 := by omega
      have q1 : ¬ 9223372036854775807 < t1.size + 1 := by omega
      have q2 : ¬ 9223372036854775807 < t2.size + 1 := by omega
      have q3 : ¬ 9223372036854775807 < t3.size + 1 := by omega
      clear z0 z1 z2 z3
      go_wp2
      have d0 : (wr.alloc (.cells #[.int .u8 (x0.toNat : Int), .int .u8 (x1.toNat : Int), .int .u8 (x2.toNat : Int)] 75)).cell? ⟨wr.heap.size, 0, none⟩ = some (.int .u8 (x0.toNat : Int)) := by simp
      have d1 : (wr.alloc (.cells #[.int .u8 (x0.toNat : Int), .int .u8 (x1.toNat : Int), .int .u8 (x2.toNat : Int)] 75)).cell? ⟨wr.heap.size, 1, none⟩ = some (.int .u8 (x1.toNat : Int)) := by simp
      have d2 : (wr.alloc (.cells #[.int .u8 (x0.toNat : Int), .int .u8 (x1.toNat : Int), .int .u8 (x2.toNat : Int)] 75)).cell? ⟨wr.heap.size, 2, none⟩ = some (.int .u8 (x2.toNat : Int)) := by simp
      have hb2 := hb.alloc hb.size (.cells #[.int .u8 (x0.toNat : Int), .int .u8 (x1.toNat : Int), .int .u8 (x2.toNat : Int)] 75)
      have hgx : (wr.alloc (.cells #[.int .u8 (x0.toNat : Int), .int .u8 (x1.toNat : Int), .int .u8 (x2.toNat : Int)] 75)).heap[wr.heap.size]? = some (.cells #[.int .u8 (x0.toNat : Int), .int .u8 (x1.toNat : Int), .int .u8 (x2.toNat : Int)] 75 (0, 0)) := heap_alloc_new _ _
      have HGX := Lib.hid hgx
      clear hgx
      have hlt2 : wr.heap.size < (wr.alloc (.cells #[.int .u8 (x0.toNat : Int), .int .u8 (x1.toNat : Int), .int .u8 (x2.toNat : Int)] 75)).heap.size := by simp
      generalize wr.alloc (.cells #[.int .u8 (x0.toNat : Int), .int .u8 (x1.toNat : Int), .int .u8 (x2.toNat : Int)] 75) = W2 at d0 d1 d2 hb2 hlt2 HGX ⊢
      clear c0 c1 c2 hb
      generalize wr.heap.size = g at d0 d1 d2 hlt2 HGX ⊢
      have HB2 := Lib.hid hb2
      clear hb2
      obtain ⟨fr, hfr⟩ : ∃ fr : (Nat → Value) → Act, fr = fun val => { tmps := #[.slice (some ⟨b, off, none⟩) m cap0, undef, .bool false, val 30, val 31, val 32, val 33, undef, .pointer (some ⟨g, 0, none⟩), undef, .bool true, .bool false, .slice (some ⟨b, off, none⟩) len0 cap0, .slice (some ⟨b, off, none⟩) len0 cap0, .int .i64 (len0 : Int), .int .i64 (m : Int), .slice (some ⟨b, off, none⟩) m cap0, .slice (some ⟨b, off, none⟩) m cap0, .int .i64 (m : Int), .int .i64 (k : Int), .bool true, .pointer (some ⟨b, off + k * 3, none⟩), .agg #[.int .u8 (x0.toNat : Int), .int .u8 (x1.toNat : Int), .int .u8 (x2.toNat : Int)], val 0, val 1, val 2, val 3, val 4, val 5, val 6, val 7, val 8, val 9, val 10, val 11, val 12, val 13, val 14, val 15, val 16, val 17, val 18, val 19, val 20, val 21, val 22, val 23, val 24, val 25, val 26, val 27, val 28, val 29, u53, undef, undef, undef, undef, undef, undef, undef, undef, undef, undef, undef, undef, undef, undef, undef, undef, undef, undef, undef, undef, undef, undef, undef, undef], defers := [] } := ⟨_, rfl⟩
      have HFR := Lib.hid hfr
      clear hfr
      have hWX : WX w.heap.size g x0 x1 x2 w W2.drew := ⟨HB2.out.drew, HGX.out⟩
      have HWX := Lib.hid hWX
      clear hWX
      have hBB := Nat.le_refl w.heap.size
      have hone : ∀ b, (one b).size = 1 := fun b => rfl
      refine AnyInv.wp_region_inv (by kernel_rfl) (fun l a w' => ∃ val, XI w.heap.size g x0 x1 x2 x01 x012 t0 t1 t2 t3 w fr l a w' val) ?_ ?_ ?_ ?_
      · refine ⟨fun i => if i = 30 then .string t0 else if i = 31 then .string t1 else if i = 32 then .string t2 else if i = 33 then .string t3 else [u23, u24, u25, u26, u27, u28, u29, u30, u31, u32, u33, u34, u35, u36, u37, u38, u39, u40, u41, u42, u43, u44, u45, u46, u47, u48, u49, u50, u51, u52].getD i undef, ?_, by simp, HWX.out, ?_, ?_, ⟨fun _ => rfl, fun _ => rfl, fun _ => rfl, fun _ => rfl⟩⟩
        · rw [HFR.out]; rfl
        · intro i hi; exfalso; exact none_run 34 i hi
        · refine ⟨fun hi => ?_, fun hi => ?_, fun hi => ?_, fun hi => ?_⟩ <;> exact (none_run 34 _ hi).elim
      · kernel_rfl
      · refine AnyInv.size_eq (k := 34) rfl ?_
        refine AnyInv.below_succ (AnyInv.below_succ (AnyInv.below_succ (AnyInv.below_succ (AnyInv.below_succ (AnyInv.below_succ (AnyInv.below_succ (AnyInv.below_succ (AnyInv.below_succ (AnyInv.below_succ (AnyInv.below_succ (AnyInv.below_succ (AnyInv.below_succ (AnyInv.below_succ (AnyInv.below_succ (AnyInv.below_succ (AnyInv.below_succ (AnyInv.below_succ (AnyInv.below_succ (AnyInv.below_succ (AnyInv.below_succ (AnyInv.below_succ (AnyInv.below_succ (AnyInv.below_succ (AnyInv.below_succ (AnyInv.below_succ (AnyInv.below_succ (AnyInv.below_succ (AnyInv.below_succ (AnyInv.below_succ (AnyInv.below_succ (AnyInv.below_succ (AnyInv.below_succ (AnyInv.below_succ (AnyInv.below_zero) ?_) ?_) ?_) ?_) ?_) ?_) ?_) ?_) ?_) ?_) ?_) ?_) ?_) ?_) ?_) ?_) ?_) ?_) ?_) ?_) ?_) ?_) ?_) ?_) ?_) ?_) ?_) ?_) ?_) ?_) ?_) ?_) ?_) ?_
        · rintro l a w' ⟨val, hI⟩ hl hd
          have r0 : val 30 = .string t0 := hI.reads.1 hl
          have evm : (fr val).tmps[3]?.getD undef = .string t0 := by rw [HFR.out]; exact r0
          have ha := hI.act
          subst ha
          refine AnyInv.wpOp_run (v := (.string t0)) (w' := w') rfl rfl ?_ (hI.step 0 (.string t0) (by decide) (by rw [HFR.out]; rfl) (Ext.refl _) hI.mem rfl (no_last (by decide)))
          simp [execOp, go_sem, evm]
        · rintro l a w' ⟨val, hI⟩ hl hd
          have evp : (fr val).tmps[8]?.getD undef = .pointer (some ⟨g, 0, none⟩) := by rw [HFR.out]; rfl
          have ha := hI.act
          subst ha
          refine AnyInv.wpOp_run (v := (.pointer (some ⟨g, 0, none⟩))) (w' := w') rfl rfl ?_ (hI.step 1 (.pointer (some ⟨g, 0, none⟩)) (by decide) (by rw [HFR.out]; rfl) (Ext.refl _) hI.mem rfl (no_last (by decide)))
          simp [execOp, go_sem, evp]
        · rintro l a w' ⟨val, hI⟩ hl hd
          have d1 : l.getD 1 false = true := AnyInv.dep_of rfl hd 0 rfl rfl
          have r1 : val 1 = .pointer (some ⟨g, 0, none⟩) := hI.done 1 d1
          have ev1 : (fr val).tmps[24]?.getD undef = .pointer (some ⟨g, 0, none⟩) := by rw [HFR.out]; exact r1
          have cg := (gcell hI.mem).1
          have ha := hI.act
          subst ha
          refine AnyInv.wpOp_run (v := (.int .u8 (x0.toNat : Int))) (w' := w') rfl rfl ?_ (hI.step 2 (.int .u8 (x0.toNat : Int)) (by decide) (by rw [HFR.out]; rfl) (Ext.refl _) hI.mem rfl (no_last (by decide)))
          simp [execOp, go_sem, ev1, cg]
        · rintro l a w' ⟨val, hI⟩ hl hd
          have d2 : l.getD 2 false = true := AnyInv.dep_of rfl hd 0 rfl rfl
          have r2 : val 2 = .int .u8 (x0.toNat : Int) := hI.done 2 d2
          have ev2 : (fr val).tmps[25]?.getD undef = .int .u8 (x0.toNat : Int) := by rw [HFR.out]; exact r2
          have ha := hI.act
          subst ha
          refine AnyInv.wpOp_run (v := (.slice (some ⟨w'.heap.size, 0, none⟩) 1 1)) (w' := (w'.alloc (.cells #[.int .u8 (x0.toNat : Int)] 5))) rfl rfl ?_ (hI.step 3 (.slice (some ⟨w'.heap.size, 0, none⟩) 1 1) (by decide) (by rw [HFR.out]; rfl) (Ext.alloc _ _) (wx_alloc hI.mem hBB _) ⟨_, rfl, heap_alloc_new _ _⟩ (no_last (by decide)))
          simp [execOp, go_sem, ev2]
        · rintro l a w' ⟨val, hI⟩ hl hd
          have d3 : l.getD 3 false = true := AnyInv.dep_of rfl hd 0 rfl rfl
          have r3 : Fresh w' (val 3) x0 := hI.done 3 d3
          have ev3 : (fr val).tmps[26]?.getD undef = val 3 := by rw [HFR.out]; rfl
          have cv := conv_fresh r3
          have ha := hI.act
          subst ha
          refine AnyInv.wpOp_run (v := (.string (one x0))) (w' := w') rfl rfl ?_ (hI.step 4 (.string (one x0)) (by decide) (by rw [HFR.out]; rfl) (Ext.refl _) hI.mem rfl (no_last (by decide)))
          simp [execOp, go_sem, ev3, cv]
        · rintro l a w' ⟨val, hI⟩ hl hd
          have d0 : l.getD 0 false = true := AnyInv.dep_of rfl hd 0 rfl rfl
          have r0 : val 0 = .string t0 := hI.done 0 d0
          have ev0 : (fr val).tmps[23]?.getD undef = .string t0 := by rw [HFR.out]; exact r0
          have d4 : l.getD 4 false = true := AnyInv.dep_of rfl hd 1 rfl rfl
          have r4 : val 4 = .string (one x0) := hI.done 4 d4
          have ev4 : (fr val).tmps[27]?.getD undef = .string (one x0) := by rw [HFR.out]; exact r4
          have ha := hI.act
          subst ha
          refine AnyInv.wpOp_run (v := (.string (t0 ++ one x0))) (w' := w') rfl rfl ?_ (hI.step 5 (.string (t0 ++ one x0)) (by decide) (by rw [HFR.out]; rfl) (Ext.refl _) hI.mem rfl (no_last (by decide)))
          simp [execOp, go_sem, ev0, ev4, hone, q0]
        · rintro l a w' ⟨val, hI⟩ hl hd
          have r0 : val 31 = .string t1 := hI.reads.2.1 hl
          have evm : (fr val).tmps[4]?.getD undef = .string t1 := by rw [HFR.out]; exact r0
          have ha := hI.act
          subst ha
          refine AnyInv.wpOp_run (v := (.string t1)) (w' := w') rfl rfl ?_ (hI.step 6 (.string t1) (by decide) (by rw [HFR.out]; rfl) (Ext.refl _) hI.mem rfl (no_last (by decide)))
          simp [execOp, go_sem, evm]
        · rintro l a w' ⟨val, hI⟩ hl hd
          have evp : (fr val).tmps[8]?.getD undef = .pointer (some ⟨g, 0, none⟩) := by rw [HFR.out]; rfl
          have ha := hI.act
          subst ha
          refine AnyInv.wpOp_run (v := (.pointer (some ⟨g, 1, none⟩))) (w' := w') rfl rfl ?_ (hI.step 7 (.pointer (some ⟨g, 1, none⟩)) (by decide) (by rw [HFR.out]; rfl) (Ext.refl _) hI.mem rfl (no_last (by decide)))
          simp [execOp, go_sem, evp]
        · rintro l a w' ⟨val, hI⟩ hl hd
          have d7 : l.getD 7 false = true := AnyInv.dep_of rfl hd 0 rfl rfl
          have r7 : val 7 = .pointer (some ⟨g, 1, none⟩) := hI.done 7 d7
          have ev7 : (fr val).tmps[30]?.getD undef = .pointer (some ⟨g, 1, none⟩) := by rw [HFR.out]; exact r7
          have cg := (gcell hI.mem).2.1
          have ha := hI.act
          subst ha
          refine AnyInv.wpOp_run (v := (.int .u8 (x1.toNat : Int))) (w' := w') rfl rfl ?_ (hI.step 8 (.int .u8 (x1.toNat : Int)) (by decide) (by rw [HFR.out]; rfl) (Ext.refl _) hI.mem rfl (no_last (by decide)))
          simp [execOp, go_sem, ev7, cg]
        · rintro l a w' ⟨val, hI⟩ hl hd
          have d8 : l.getD 8 false = true := AnyInv.dep_of rfl hd 0 rfl rfl
          have r8 : val 8 = .int .u8 (x1.toNat : Int) := hI.done 8 d8
          have ev8 : (fr val).tmps[31]?.getD undef = .int .u8 (x1.toNat : Int) := by rw [HFR.out]; exact r8
          have ha := hI.act
          subst ha
          refine AnyInv.wpOp_run (v := (.slice (some ⟨w'.heap.size, 0, none⟩) 1 1)) (w' := (w'.alloc (.cells #[.int .u8 (x1.toNat : Int)] 5))) rfl rfl ?_ (hI.step 9 (.slice (some ⟨w'.heap.size, 0, none⟩) 1 1) (by decide) (by rw [HFR.out]; rfl) (Ext.alloc _ _) (wx_alloc hI.mem hBB _) ⟨_, rfl, heap_alloc_new _ _⟩ (no_last (by decide)))
          simp [execOp, go_sem, ev8]
        · rintro l a w' ⟨val, hI⟩ hl hd
          have d9 : l.getD 9 false = true := AnyInv.dep_of rfl hd 0 rfl rfl
          have r9 : Fresh w' (val 9) x1 := hI.done 9 d9
          have ev9 : (fr val).tmps[32]?.getD undef = val 9 := by rw [HFR.out]; rfl
          have cv := conv_fresh r9
          have ha := hI.act
          subst ha
          refine AnyInv.wpOp_run (v := (.string (one x1))) (w' := w') rfl rfl ?_ (hI.step 10 (.string (one x1)) (by decide) (by rw [HFR.out]; rfl) (Ext.refl _) hI.mem rfl (no_last (by decide)))
          simp [execOp, go_sem, ev9, cv]
        · rintro l a w' ⟨val, hI⟩ hl hd
          have d6 : l.getD 6 false = true := AnyInv.dep_of rfl hd 0 rfl rfl
          have r6 : val 6 = .string t1 := hI.done 6 d6
          have ev6 : (fr val).tmps[29]?.getD undef = .string t1 := by rw [HFR.out]; exact r6
          have d10 : l.getD 10 false = true := AnyInv.dep_of rfl hd 1 rfl rfl
          have r10 : val 10 = .string (one x1) := hI.done 10 d10
          have ev10 : (fr val).tmps[33]?.getD undef = .string (one x1) := by rw [HFR.out]; exact r10
          have ha := hI.act
          subst ha
          refine AnyInv.wpOp_run (v := (.string (t1 ++ one x1))) (w' := w') rfl rfl ?_ (hI.step 11 (.string (t1 ++ one x1)) (by decide) (by rw [HFR.out]; rfl) (Ext.refl _) hI.mem rfl (no_last (by decide)))
          simp [execOp, go_sem, ev6, ev10, hone, q1]
        · rintro l a w' ⟨val, hI⟩ hl hd
          have r0 : val 32 = .string t2 := hI.reads.2.2.1 hl
          have evm : (fr val).tmps[5]?.getD undef = .string t2 := by rw [HFR.out]; exact r0
          have ha := hI.act
          subst ha
          refine AnyInv.wpOp_run (v := (.string t2)) (w' := w') rfl rfl ?_ (hI.step 12 (.string t2) (by decide) (by rw [HFR.out]; rfl) (Ext.refl _) hI.mem rfl (no_last (by decide)))
          simp [execOp, go_sem, evm]
        · rintro l a w' ⟨val, hI⟩ hl hd
          have evp : (fr val).tmps[8]?.getD undef = .pointer (some ⟨g, 0, none⟩) := by rw [HFR.out]; rfl
          have ha := hI.act
          subst ha
          refine AnyInv.wpOp_run (v := (.pointer (some ⟨g, 2, none⟩))) (w' := w') rfl rfl ?_ (hI.step 13 (.pointer (some ⟨g, 2, none⟩)) (by decide) (by rw [HFR.out]; rfl) (Ext.refl _) hI.mem rfl (no_last (by decide)))
          simp [execOp, go_sem, evp]
        · rintro l a w' ⟨val, hI⟩ hl hd
          have d13 : l.getD 13 false = true := AnyInv.dep_of rfl hd 0 rfl rfl
          have r13 : val 13 = .pointer (some ⟨g, 2, none⟩) := hI.done 13 d13
          have ev13 : (fr val).tmps[36]?.getD undef = .pointer (some ⟨g, 2, none⟩) := by rw [HFR.out]; exact r13
          have cg := (gcell hI.mem).2.2
          have ha := hI.act
          subst ha
          refine AnyInv.wpOp_run (v := (.int .u8 (x2.toNat : Int))) (w' := w') rfl rfl ?_ (hI.step 14 (.int .u8 (x2.toNat : Int)) (by decide) (by rw [HFR.out]; rfl) (Ext.refl _) hI.mem rfl (no_last (by decide)))
          simp [execOp, go_sem, ev13, cg]
        · rintro l a w' ⟨val, hI⟩ hl hd
          have d14 : l.getD 14 false = true := AnyInv.dep_of rfl hd 0 rfl rfl
          have r14 : val 14 = .int .u8 (x2.toNat : Int) := hI.done 14 d14
          have ev14 : (fr val).tmps[37]?.getD undef = .int .u8 (x2.toNat : Int) := by rw [HFR.out]; exact r14
          have ha := hI.act
          subst ha
          refine AnyInv.wpOp_run (v := (.slice (some ⟨w'.heap.size, 0, none⟩) 1 1)) (w' := (w'.alloc (.cells #[.int .u8 (x2.toNat : Int)] 5))) rfl rfl ?_ (hI.step 15 (.slice (some ⟨w'.heap.size, 0, none⟩) 1 1) (by decide) (by rw [HFR.out]; rfl) (Ext.alloc _ _) (wx_alloc hI.mem hBB _) ⟨_, rfl, heap_alloc_new _ _⟩ (no_last (by decide)))
          simp [execOp, go_sem, ev14]
        · rintro l a w' ⟨val, hI⟩ hl hd
          have d15 : l.getD 15 false = true := AnyInv.dep_of rfl hd 0 rfl rfl
          have r15 : Fresh w' (val 15) x2 := hI.done 15 d15
          have ev15 : (fr val).tmps[38]?.getD undef = val 15 := by rw [HFR.out]; rfl
          have cv := conv_fresh r15
          have ha := hI.act
          subst ha
          refine AnyInv.wpOp_run (v := (.string (one x2))) (w' := w') rfl rfl ?_ (hI.step 16 (.string (one x2)) (by decide) (by rw [HFR.out]; rfl) (Ext.refl _) hI.mem rfl (no_last (by decide)))
          simp [execOp, go_sem, ev15, cv]
        · rintro l a w' ⟨val, hI⟩ hl hd
          have d12 : l.getD 12 false = true := AnyInv.dep_of rfl hd 0 rfl rfl
          have r12 : val 12 = .string t2 := hI.done 12 d12
          have ev12 : (fr val).tmps[35]?.getD undef = .string t2 := by rw [HFR.out]; exact r12
          have d16 : l.getD 16 false = true := AnyInv.dep_of rfl hd 1 rfl rfl
          have r16 : val 16 = .string (one x2) := hI.done 16 d16
          have ev16 : (fr val).tmps[39]?.getD undef = .string (one x2) := by rw [HFR.out]; exact r16
          have ha := hI.act
          subst ha
          refine AnyInv.wpOp_run (v := (.string (t2 ++ one x2))) (w' := w') rfl rfl ?_ (hI.step 17 (.string (t2 ++ one x2)) (by decide) (by rw [HFR.out]; rfl) (Ext.refl _) hI.mem rfl (no_last (by decide)))
          simp [execOp, go_sem, ev12, ev16, hone, q2]
        · rintro l a w' ⟨val, hI⟩ hl hd
          have r0 : val 33 = .string t3 := hI.reads.2.2.2 hl
          have evm : (fr val).tmps[6]?.getD undef = .string t3 := by rw [HFR.out]; exact r0
          have ha := hI.act
          subst ha
          refine AnyInv.wpOp_run (v := (.string t3)) (w' := w') rfl rfl ?_ (hI.step 18 (.string t3) (by decide) (by rw [HFR.out]; rfl) (Ext.refl _) hI.mem rfl (no_last (by decide)))
          simp [execOp, go_sem, evm]
        · rintro l a w' ⟨val, hI⟩ hl hd
          have evp : (fr val).tmps[8]?.getD undef = .pointer (some ⟨g, 0, none⟩) := by rw [HFR.out]; rfl
          have ha := hI.act
          subst ha
          refine AnyInv.wpOp_run (v := (.pointer (some ⟨g, 0, none⟩))) (w' := w') rfl rfl ?_ (hI.step 19 (.pointer (some ⟨g, 0, none⟩)) (by decide) (by rw [HFR.out]; rfl) (Ext.refl _) hI.mem rfl (no_last (by decide)))
          simp [execOp, go_sem, evp]
        · rintro l a w' ⟨val, hI⟩ hl hd
          have d19 : l.getD 19 false = true := AnyInv.dep_of rfl hd 0 rfl rfl
          have r19 : val 19 = .pointer (some ⟨g, 0, none⟩) := hI.done 19 d19
          have ev19 : (fr val).tmps[42]?.getD undef = .pointer (some ⟨g, 0, none⟩) := by rw [HFR.out]; exact r19
          have cg := (gcell hI.mem).1
          have ha := hI.act
          subst ha
          refine AnyInv.wpOp_run (v := (.int .u8 (x0.toNat : Int))) (w' := w') rfl rfl ?_ (hI.step 20 (.int .u8 (x0.toNat : Int)) (by decide) (by rw [HFR.out]; rfl) (Ext.refl _) hI.mem rfl (no_last (by decide)))
          simp [execOp, go_sem, ev19, cg]
        · rintro l a w' ⟨val, hI⟩ hl hd
          have evp : (fr val).tmps[8]?.getD undef = .pointer (some ⟨g, 0, none⟩) := by rw [HFR.out]; rfl
          have ha := hI.act
          subst ha
          refine AnyInv.wpOp_run (v := (.pointer (some ⟨g, 1, none⟩))) (w' := w') rfl rfl ?_ (hI.step 21 (.pointer (some ⟨g, 1, none⟩)) (by decide) (by rw [HFR.out]; rfl) (Ext.refl _) hI.mem rfl (no_last (by decide)))
          simp [execOp, go_sem, evp]
        · rintro l a w' ⟨val, hI⟩ hl hd
          have d21 : l.getD 21 false = true := AnyInv.dep_of rfl hd 0 rfl rfl
          have r21 : val 21 = .pointer (some ⟨g, 1, none⟩) := hI.done 21 d21
          have ev21 : (fr val).tmps[44]?.getD undef = .pointer (some ⟨g, 1, none⟩) := by rw [HFR.out]; exact r21
          have cg := (gcell hI.mem).2.1
          have ha := hI.act
          subst ha
          refine AnyInv.wpOp_run (v := (.int .u8 (x1.toNat : Int))) (w' := w') rfl rfl ?_ (hI.step 22 (.int .u8 (x1.toNat : Int)) (by decide) (by rw [HFR.out]; rfl) (Ext.refl _) hI.mem rfl (no_last (by decide)))
          simp [execOp, go_sem, ev21, cg]
        · rintro l a w' ⟨val, hI⟩ hl hd
          have d20 : l.getD 20 false = true := AnyInv.dep_of rfl hd 0 rfl rfl
          have r20 : val 20 = .int .u8 (x0.toNat : Int) := hI.done 20 d20
          have ev20 : (fr val).tmps[43]?.getD undef = .int .u8 (x0.toNat : Int) := by rw [HFR.out]; exact r20
          have d22 : l.getD 22 false = true := AnyInv.dep_of rfl hd 1 rfl rfl
          have r22 : val 22 = .int .u8 (x1.toNat : Int) := hI.done 22 d22
          have ev22 : (fr val).tmps[45]?.getD undef = .int .u8 (x1.toNat : Int) := by rw [HFR.out]; exact r22
          have ha := hI.act
          subst ha
          refine AnyInv.wpOp_run (v := (.int .u8 (x01.toNat : Int))) (w' := w') rfl rfl ?_ (hI.step 23 (.int .u8 (x01.toNat : Int)) (by decide) (by rw [HFR.out]; rfl) (Ext.refl _) hI.mem rfl (no_last (by decide)))
          simp [execOp, go_sem, ev20, ev22, h01]
        · rintro l a w' ⟨val, hI⟩ hl hd
          have evp : (fr val).tmps[8]?.getD undef = .pointer (some ⟨g, 0, none⟩) := by rw [HFR.out]; rfl
          have ha := hI.act
          subst ha
          refine AnyInv.wpOp_run (v := (.pointer (some ⟨g, 2, none⟩))) (w' := w') rfl rfl ?_ (hI.step 24 (.pointer (some ⟨g, 2, none⟩)) (by decide) (by rw [HFR.out]; rfl) (Ext.refl _) hI.mem rfl (no_last (by decide)))
          simp [execOp, go_sem, evp]
        · rintro l a w' ⟨val, hI⟩ hl hd
          have d24 : l.getD 24 false = true := AnyInv.dep_of rfl hd 0 rfl rfl
          have r24 : val 24 = .pointer (some ⟨g, 2, none⟩) := hI.done 24 d24
          have ev24 : (fr val).tmps[47]?.getD undef = .pointer (some ⟨g, 2, none⟩) := by rw [HFR.out]; exact r24
          have cg := (gcell hI.mem).2.2
          have ha := hI.act
          subst ha
          refine AnyInv.wpOp_run (v := (.int .u8 (x2.toNat : Int))) (w' := w') rfl rfl ?_ (hI.step 25 (.int .u8 (x2.toNat : Int)) (by decide) (by rw [HFR.out]; rfl) (Ext.refl _) hI.mem rfl (no_last (by decide)))
          simp [execOp, go_sem, ev24, cg]
        · rintro l a w' ⟨val, hI⟩ hl hd
          have d23 : l.getD 23 false = true := AnyInv.dep_of rfl hd 0 rfl rfl
          have r23 : val 23 = .int .u8 (x01.toNat : Int) := hI.done 23 d23
          have ev23 : (fr val).tmps[46]?.getD undef = .int .u8 (x01.toNat : Int) := by rw [HFR.out]; exact r23
          have d25 : l.getD 25 false = true := AnyInv.dep_of rfl hd 1 rfl rfl
          have r25 : val 25 = .int .u8 (x2.toNat : Int) := hI.done 25 d25
          have ev25 : (fr val).tmps[48]?.getD undef = .int .u8 (x2.toNat : Int) := by rw [HFR.out]; exact r25
          have ha := hI.act
          subst ha
          refine AnyInv.wpOp_run (v := (.int .u8 (x012.toNat : Int))) (w' := w') rfl rfl ?_ (hI.step 26 (.int .u8 (x012.toNat : Int)) (by decide) (by rw [HFR.out]; rfl) (Ext.refl _) hI.mem rfl (no_last (by decide)))
          simp [execOp, go_sem, ev23, ev25, h012]
        · rintro l a w' ⟨val, hI⟩ hl hd
          have d26 : l.getD 26 false = true := AnyInv.dep_of rfl hd 0 rfl rfl
          have r26 : val 26 = .int .u8 (x012.toNat : Int) := hI.done 26 d26
          have ev26 : (fr val).tmps[49]?.getD undef = .int .u8 (x012.toNat : Int) := by rw [HFR.out]; exact r26
          have ha := hI.act
          subst ha
          refine AnyInv.wpOp_run (v := (.slice (some ⟨w'.heap.size, 0, none⟩) 1 1)) (w' := (w'.alloc (.cells #[.int .u8 (x012.toNat : Int)] 5))) rfl rfl ?_ (hI.step 27 (.slice (some ⟨w'.heap.size, 0, none⟩) 1 1) (by decide) (by rw [HFR.out]; rfl) (Ext.alloc _ _) (wx_alloc hI.mem hBB _) ⟨_, rfl, heap_alloc_new _ _⟩ (no_last (by decide)))
          simp [execOp, go_sem, ev26]
        · rintro l a w' ⟨val, hI⟩ hl hd
          have d27 : l.getD 27 false = true := AnyInv.dep_of rfl hd 0 rfl rfl
          have r27 : Fresh w' (val 27) x012 := hI.done 27 d27
          have ev27 : (fr val).tmps[50]?.getD undef = val 27 := by rw [HFR.out]; rfl
          have cv := conv_fresh r27
          have ha := hI.act
          subst ha
          refine AnyInv.wpOp_run (v := (.string (one x012))) (w' := w') rfl rfl ?_ (hI.step 28 (.string (one x012)) (by decide) (by rw [HFR.out]; rfl) (Ext.refl _) hI.mem rfl (no_last (by decide)))
          simp [execOp, go_sem, ev27, cv]
        · rintro l a w' ⟨val, hI⟩ hl hd
          have d18 : l.getD 18 false = true := AnyInv.dep_of rfl hd 0 rfl rfl
          have r18 : val 18 = .string t3 := hI.done 18 d18
          have ev18 : (fr val).tmps[41]?.getD undef = .string t3 := by rw [HFR.out]; exact r18
          have d28 : l.getD 28 false = true := AnyInv.dep_of rfl hd 1 rfl rfl
          have r28 : val 28 = .string (one x012) := hI.done 28 d28
          have ev28 : (fr val).tmps[51]?.getD undef = .string (one x012) := by rw [HFR.out]; exact r28
          have ha := hI.act
          subst ha
          refine AnyInv.wpOp_run (v := (.string (t3 ++ one x012))) (w' := w') rfl rfl ?_ (hI.step 29 (.string (t3 ++ one x012)) (by decide) (by rw [HFR.out]; rfl) (Ext.refl _) hI.mem rfl (no_last (by decide)))
          simp [execOp, go_sem, ev18, ev28, hone, q3]
        · rintro l a w' ⟨val, hI⟩ hl hd
          have d5 : l.getD 5 false = true := AnyInv.dep_of rfl hd 0 rfl rfl
          have r5 : val 5 = .string (t0 ++ one x0) := hI.done 5 d5
          have ev5 : (fr val).tmps[28]?.getD undef = .string (t0 ++ one x0) := by rw [HFR.out]; exact r5
          have ha := hI.act
          subst ha
          have dl : l.getD 0 false = true := AnyInv.dep_of rfl hd 1 rfl rfl
          refine AnyInv.wpOp_run (v := (.string (t0 ++ one x0))) (w' := w') rfl rfl ?_ (hI.step 30 (.string (t0 ++ one x0)) (by decide) (by rw [HFR.out]; rfl) (Ext.refl _) hI.mem rfl ⟨fun _ => dl, fun _ => absurd ‹_› (by decide), fun _ => absurd ‹_› (by decide), fun _ => absurd ‹_› (by decide)⟩)
          simp [execOp, go_sem, ev5]
        · rintro l a w' ⟨val, hI⟩ hl hd
          have d11 : l.getD 11 false = true := AnyInv.dep_of rfl hd 0 rfl rfl
          have r11 : val 11 = .string (t1 ++ one x1) := hI.done 11 d11
          have ev11 : (fr val).tmps[34]?.getD undef = .string (t1 ++ one x1) := by rw [HFR.out]; exact r11
          have ha := hI.act
          subst ha
          have dl : l.getD 6 false = true := AnyInv.dep_of rfl hd 8 rfl rfl
          refine AnyInv.wpOp_run (v := (.string (t1 ++ one x1))) (w' := w') rfl rfl ?_ (hI.step 31 (.string (t1 ++ one x1)) (by decide) (by rw [HFR.out]; rfl) (Ext.refl _) hI.mem rfl ⟨fun _ => absurd ‹_› (by decide), fun _ => dl, fun _ => absurd ‹_› (by decide), fun _ => absurd ‹_› (by decide)⟩)
          simp [execOp, go_sem, ev11]
        · rintro l a w' ⟨val, hI⟩ hl hd
          have d17 : l.getD 17 false = true := AnyInv.dep_of rfl hd 0 rfl rfl
          have r17 : val 17 = .string (t2 ++ one x2) := hI.done 17 d17
          have ev17 : (fr val).tmps[40]?.getD undef = .string (t2 ++ one x2) := by rw [HFR.out]; exact r17
          have ha := hI.act
          subst ha
          have dl : l.getD 12 false = true := AnyInv.dep_of rfl hd 14 rfl rfl
          refine AnyInv.wpOp_run (v := (.string (t2 ++ one x2))) (w' := w') rfl rfl ?_ (hI.step 32 (.string (t2 ++ one x2)) (by decide) (by rw [HFR.out]; rfl) (Ext.refl _) hI.mem rfl ⟨fun _ => absurd ‹_› (by decide), fun _ => absurd ‹_› (by decide), fun _ => dl, fun _ => absurd ‹_› (by decide)⟩)
          simp [execOp, go_sem, ev17]
        · rintro l a w' ⟨val, hI⟩ hl hd
          have d29 : l.getD 29 false = true := AnyInv.dep_of rfl hd 0 rfl rfl
          have r29 : val 29 = .string (t3 ++ one x012) := hI.done 29 d29
          have ev29 : (fr val).tmps[52]?.getD undef = .string (t3 ++ one x012) := by rw [HFR.out]; exact r29
          have ha := hI.act
          subst ha
          have dl : l.getD 18 false = true := AnyInv.dep_of rfl hd 20 rfl rfl
          refine AnyInv.wpOp_run (v := (.string (t3 ++ one x012))) (w' := w') rfl rfl ?_ (hI.step 33 (.string (t3 ++ one x012)) (by decide) (by rw [HFR.out]; rfl) (Ext.refl _) hI.mem rfl ⟨fun _ => absurd ‹_› (by decide), fun _ => absurd ‹_› (by decide), fun _ => absurd ‹_› (by decide), fun _ => dl⟩)
          simp [execOp, go_sem, ev29]
      · rintro l a w' ⟨val, hI⟩ hall
        have hall' : ∀ i, i < 34 → l.getD i true = true := hall
        clear hall
        have hrun : ∀ i, i < 34 → l.getD i false = true := by
          intro i hi
          have h1 := hall' i hi
          rw [Array.getD_eq_getD_getElem?, Array.getElem?_eq_getElem (by rw [hI.size]; exact hi)] at h1 ⊢
          exact h1
        have e0 : val 30 = .string (t0 ++ one x0) := hI.done 30 (hrun 30 (by decide))
        rw [S0.out] at e0
        have e1 : val 31 = .string (t1 ++ one x1) := hI.done 31 (hrun 31 (by decide))
        rw [S1.out] at e1
        have e2 : val 32 = .string (t2 ++ one x2) := hI.done 32 (hrun 32 (by decide))
        rw [S2.out] at e2
        have e3 : val 33 = .string (t3 ++ one x012) := hI.done 33 (hrun 33 (by decide))
        rw [S3.out] at e3
        have ha := hI.act
        rw [HFR.out] at ha
        dsimp only at ha
        rw [e0, e1, e2, e3] at ha
        subst ha
        have HBK := Lib.hid hI.mem.1
        clear hI e0 e1 e2 e3 hall' hrun HFR HWX HGX
        generalize val 0 = y0, val 1 = y1, val 2 = y2, val 3 = y3, val 4 = y4, val 5 = y5, val 6 = y6, val 7 = y7, val 8 = y8, val 9 = y9, val 10 = y10, val 11 = y11, val 12 = y12, val 13 = y13, val 14 = y14, val 15 = y15, val 16 = y16, val 17 = y17, val 18 = y18, val 19 = y19, val 20 = y20, val 21 = y21, val 22 = y22, val 23 = y23, val 24 = y24, val 25 = y25, val 26 = y26, val 27 = y27, val 28 = y28, val 29 = y29
        clear val fr
        go_wp2
        go_roundw
        case rel => exact ⟨k + 1, by omega, by go_num, rfl, rfl, rfl, rfl, HBK.out⟩
        case measure => simp [intOf]; omega
    · obtain rfl : k = m := by omega
      have LAW := sums (fun i => B i 0) (fun i => B i 1) (fun i => B i 2) k
      have z0 : (colS (fun i => B i 0) k).size ≤ maxLen := by rw [colS_size]; unfold maxLen; omega
      have z1 : (colS (fun i => B i 1) k).size ≤ maxLen := by rw [colS_size]; unfold maxLen; omega
      have z2 : (colS (fun i => B i 2) k).size ≤ maxLen := by rw [colS_size]; unfold maxLen; omega
      have z3 : (colS (fun i => B i 0 ^^^ B i 1 ^^^ B i 2) k).size ≤ maxLen := by rw [colS_size]; unfold maxLen; omega
      generalize colS (fun i => B i 0) k = t0 at LAW z0 ⊢
      generalize colS (fun i => B i 1) k = t1 at LAW z1 ⊢
      generalize colS (fun i => B i 2) k = t2 at LAW z2 ⊢
      generalize colS (fun i => B i 0 ^^^ B i 1 ^^^ B i 2) k = t3 at LAW z3 ⊢
      have x1 := bits_xor_bv (sum (bitsOf t0)) (sum (bitsOf t1))
      have x2 := bits_xor_bv (sum (bitsOf t0) ^^^ sum (bitsOf t1)) (sum (bitsOf t2))
      rw [LAW] at x2
      clear LAW
      generalize sum (bitsOf t0) ^^^ sum (bitsOf t1) = y at x1 x2
      go_wp2_with (first
        | (go_at_call 25; refine (make_any _).mono ?_; rintro e w1 ⟨rfl, hb1⟩; have hb01 := hb.trans (hb1.mono hb.size); clear hb1)
        | (refine wpList_store_row rfl 37 (.tmp 9) (.tmp 54) rfl w1.heap.size (tabK 256) rfl rfl 37 Try.zeroCells37 (heap_alloc_new _ _) size37 zero_size (tabK_one 256) ?_; obtain ⟨W, hW, ht, hbW, hb3, hlt⟩ := made_tab hb01; rw [← hW]; clear hW)
        | fail)
      clear hb hb01 hb3
      have HT := Lib.hid ht
      clear ht
      generalize w1.heap.size = g at hlt HT ⊢
      have k0 := Below.alloc (Below.refl W.heap.size W) (Below.size (Below.refl W.heap.size W)) (.cells #[.string t0] 9)
      refine (sum_one g _ 0 1 t0 _ z0 (HT.out.below k0 hlt) (by simp)).mono ?_
      rintro e v0 ⟨rfl, hd0⟩
      have j0 := k0.trans (hd0.below W.heap.size)
      clear k0 hd0
      go_wp2_with fail
      have k1 := Below.alloc j0 (Below.size j0) (.cells #[.string t1] 9)
      refine (sum_one g _ 0 1 t1 _ z1 (HT.out.below k1 hlt) (by simp)).mono ?_
      rintro e v1 ⟨rfl, hd1⟩
      have j1 := k1.trans (hd1.below W.heap.size)
      clear k1 hd1
      go_wp2_with fail
      have k2 := Below.alloc j1 (Below.size j1) (.cells #[.string t2] 9)
      refine (sum_one g _ 0 1 t2 _ z2 (HT.out.below k2 hlt) (by simp)).mono ?_
      rintro e v2 ⟨rfl, hd2⟩
      have j2 := k2.trans (hd2.below W.heap.size)
      clear k2 hd2
      go_wp2_with fail
      have k3 := Below.alloc j2 (Below.size j2) (.cells #[.string t3] 9)
      refine (sum_one g _ 0 1 t3 _ z3 (HT.out.below k3 hlt) (by simp)).mono ?_
      rintro e v3 ⟨rfl, hd3⟩
      have j3 := k3.trans (hd3.below W.heap.size)
      clear k3 hd3
      go_wp2_with fail
      have k4 := Below.alloc j3 (Below.size j3) (.cells #[.string t0] 9)
      refine (sum_one g _ 0 1 t0 _ z0 (HT.out.below k4 hlt) (by simp)).mono ?_
      rintro e v4 ⟨rfl, hd4⟩
      have j4 := k4.trans (hd4.below W.heap.size)
      clear k4 hd4
      go_wp2_with fail
      refine (ref_sum t0 z0 _).mono ?_
      rintro e v5 ⟨rfl, rfl⟩
      go_wp2
      go_ret
      exact ⟨rfl, hbW.trans (j4.mono hbW.size)⟩
end Go.Proofs.Ytallhdlnhegjiaa.crcXors
