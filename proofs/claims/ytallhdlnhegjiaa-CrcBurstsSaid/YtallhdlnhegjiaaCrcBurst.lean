/- The plain law of bursts: two texts of one length whose sums fit alike, and whose bits part within thirty-two bits alone, are one. No program in sight. -/
import Derived.Test.YtallhdlnhegjiaaCrcLaw
namespace Go.Proofs.Ytallhdlnhegjiaa.CrcP

def top : BitVec 32 := 0x80000000#32
def feed (r : BitVec 32) : List Bool → BitVec 32
  | [] => r
  | b :: bs => feed (stp (r ^^^ (if b then top else 0#32))) bs
theorem feed_append : ∀ (l m : List Bool) (r : BitVec 32), feed r (l ++ m) = feed (feed r l) m
  | [], m, r => rfl
  | b :: l, m, r => by rw [List.cons_append, feed, feed, feed_append]
theorem feed_false : ∀ (n : Nat) (r : BitVec 32), feed r (List.replicate n false) = stpN n r
  | 0, r => rfl
  | n + 1, r => by
    rw [List.replicate_succ, feed, stpN, feed_false n]
    simp
def pack : List Bool → BitVec 32
  | [] => 0#32
  | b :: bs => (if b then top else 0#32) ^^^ (pack bs >>> 1)
theorem top_msb (i : Nat) : top.getMsbD i = decide (i = 0) := by
  by_cases h : i < 32
  · have key : ∀ j, j < 32 → top.getMsbD j = decide (j = 0) := by decide
    exact key i h
  · rw [BitVec.getMsbD_of_ge _ _ (by omega)]
    simp; omega
theorem pack_msb : ∀ (l : List Bool) (i : Nat), i < 32 → (pack l).getMsbD i = (l[i]?).getD false
  | [], i, h => by simp [pack]
  | b :: l, 0, h => by
    rw [pack, BitVec.getMsbD_xor]
    cases b <;> simp [top_msb]
  | b :: l, i + 1, h => by
    rw [pack, BitVec.getMsbD_xor, BitVec.getMsbD_ushiftRight]
    have ih := pack_msb l i (by omega)
    cases b <;> simp [top_msb, ih, h]
theorem pack_low : ∀ (l : List Bool), l.length ≤ 31 → (pack l >>> 1) <<< 1 = pack l := by
  intro l h
  apply BitVec.eq_of_getMsbD_eq
  intro i hi
  rw [BitVec.getMsbD_shiftLeft, BitVec.getMsbD_ushiftRight]
  by_cases h31 : i = 31
  · subst h31
    rw [pack_msb l 31 (by omega), List.getElem?_eq_none (by omega)]
    simp
  · have h1 : i + 1 < 32 := by omega
    simp [h1]
/-- at most thirty-two bits at once -/
theorem feed_pack : ∀ (l : List Bool) (r : BitVec 32), l.length ≤ 32 → feed r l = stpN l.length (r ^^^ pack l)
  | [], r, _ => by simp [feed, pack, stpN]
  | b :: l, r, h => by
    have hl : l.length ≤ 31 := by simpa using h
    have hm : (pack l >>> 1).msb = false := by
      rw [BitVec.msb_eq_getMsbD_zero, BitVec.getMsbD_ushiftRight]
      simp
    have e : ∀ y : BitVec 32, stp (y ^^^ (pack l >>> 1)) = stp y ^^^ pack l := fun y => by rw [stp_xor, stp_small hm, pack_low l hl]
    rw [feed, feed_pack l _ (by omega), List.length_cons, stpN, pack, ← BitVec.xor_assoc, e]

def bits8 (b : BitVec 8) : List Bool := (List.range 8).map fun i => b.getMsbD i
theorem bits8_length (b : BitVec 8) : (bits8 b).length = 8 := by simp [bits8]
theorem pack_bits8 (b : BitVec 8) : pack (bits8 b) = atTop b := by
  apply BitVec.eq_of_getMsbD_eq
  intro i hi
  rw [pack_msb _ _ hi]
  unfold bits8 atTop
  rw [BitVec.getMsbD_shiftLeft, BitVec.getMsbD_setWidth]
  by_cases h : i < 8
  · have h2 : 24 + i < 32 := by omega
    have h3 : 24 ≤ i + 24 := by omega
    have h4 : 8 + (i + 24) - 32 = i := by omega
    simp [h, Nat.add_comm, h3, h4]
  · simp [h]
    apply BitVec.getMsbD_of_ge
    omega
theorem feed_bits8 (r : BitVec 32) (b : BitVec 8) : feed r (bits8 b) = onB r b := by
  rw [feed_pack _ _ (by rw [bits8_length]; omega), bits8_length, pack_bits8]
  rfl
def bitsL (l : List (BitVec 8)) : List Bool := l.flatMap bits8
theorem reg_feed : ∀ (l : List (BitVec 8)) (r : BitVec 32), reg r l = feed r (bitsL l)
  | [], r => rfl
  | b :: l, r => by
    have h := reg_feed l (onB r b)
    unfold bitsL at h ⊢
    rw [List.flatMap_cons, feed_append, feed_bits8, ← h]
    rfl
/-- the bit at p: of byte p / 8 the (p % 8)-th from above -/
def bitAt (l : List (BitVec 8)) (p : Nat) : Bool := (l.getD (p / 8) 0#8).getMsbD (p % 8)
theorem bitsL_at : ∀ (l : List (BitVec 8)) (p : Nat), p < 8 * l.length → (bitsL l)[p]? = some (bitAt l p)
  | [], p, h => by simp at h
  | b :: l, p, h => by
    unfold bitsL
    rw [List.flatMap_cons]
    by_cases hp : p < 8
    · rw [List.getElem?_append_left (by rw [bits8_length]; exact hp)]
      have e1 : p / 8 = 0 := by omega
      have e2 : p % 8 = p := by omega
      unfold bits8 bitAt
      rw [e1, e2]
      simp [hp]
    · rw [List.getElem?_append_right (by rw [bits8_length]; omega), bits8_length]
      have hl : p - 8 < 8 * l.length := by simp at h; omega
      have ih := bitsL_at l (p - 8) hl
      unfold bitsL at ih
      rw [ih]
      unfold bitAt
      have e1 : p / 8 = (p - 8) / 8 + 1 := by omega
      have e2 : p % 8 = (p - 8) % 8 := by omega
      rw [e1, e2]
      simp
theorem bitsL_length (l : List (BitVec 8)) : (bitsL l).length = 8 * l.length := by
  unfold bitsL
  induction l with
  | nil => rfl
  | cons a l ih => rw [List.flatMap_cons, List.length_append, ih, bits8_length]; simp; omega

theorem all_false (l : List Bool) (h : ∀ p : Nat, p < l.length → l[p]? = some false) : l = List.replicate l.length false := by
  rw [List.eq_replicate_iff]
  refine ⟨rfl, fun b hb => ?_⟩
  obtain ⟨i, hi, rfl⟩ := List.getElem_of_mem hb
  have := h i hi
  rw [List.getElem?_eq_getElem hi] at this
  exact Option.some.inj this
/-- bits that lie within thirty-two, and leave a register 0 as it was, are none -/
theorem feed_none (l : List Bool) (o : Nat) (hw : ∀ p : Nat, p < l.length → (p < o ∨ o + 32 ≤ p) → l[p]? = some false) (h0 : feed 0#32 l = 0#32) :
    ∀ p : Nat, p < l.length → l[p]? = some false := by
  have e1 : l = l.take o ++ ((l.drop o).take 32 ++ (l.drop o).drop 32) := by rw [List.take_append_drop, List.take_append_drop]
  have h1 : l.take o = List.replicate (l.take o).length false := all_false _ (fun p hp => by
    have hp' : p < o ∧ p < l.length := by rw [List.length_take] at hp; omega
    rw [List.getElem?_take_of_lt hp'.1]
    exact hw p hp'.2 (.inl hp'.1))
  have h2 : (l.drop o).drop 32 = List.replicate ((l.drop o).drop 32).length false := all_false _ (fun p hp => by
    rw [List.length_drop, List.length_drop] at hp
    rw [List.getElem?_drop, List.getElem?_drop]
    exact hw (o + (32 + p)) (by omega) (.inr (by omega)))
  have h3 : feed 0#32 ((l.drop o).take 32) = 0#32 := by
    rw [e1, feed_append, feed_append, h1, h2, feed_false, feed_false, stpN_zero] at h0
    exact stpN_eq_zero _ h0
  have hl : ((l.drop o).take 32).length ≤ 32 := by rw [List.length_take]; omega
  rw [feed_pack _ _ hl, BitVec.zero_xor] at h3
  have h4 := stpN_eq_zero _ h3
  intro p hp
  by_cases hin : p < o ∨ o + 32 ≤ p
  · exact hw p hp hin
  · have h5 := pack_msb ((l.drop o).take 32) (p - o) (by omega)
    rw [h4] at h5
    have e2 : ((l.drop o).take 32)[p - o]? = l[p]? := by
      rw [List.getElem?_take_of_lt (by omega), List.getElem?_drop]
      congr 1
      omega
    rw [e2, List.getElem?_eq_getElem hp] at h5
    rw [List.getElem?_eq_getElem hp]
    simp at h5
    rw [h5]

theorem zip_at (a b : List (BitVec 8)) (h : a.length = b.length) (i : Nat) : (List.zipWith (· ^^^ ·) a b).getD i 0#8 = a.getD i 0#8 ^^^ b.getD i 0#8 := by
  simp only [List.getD_eq_getElem?_getD, List.getElem?_zipWith]
  by_cases hi : i < a.length
  · rw [List.getElem?_eq_getElem hi, List.getElem?_eq_getElem (by omega)]
    simp
  · rw [List.getElem?_eq_none (by omega), List.getElem?_eq_none (l := b) (by omega)]
    simp
theorem burst (a b : List (BitVec 8)) (h : a.length = b.length) (o : Nat) (hw : ∀ p : Nat, p < 8 * a.length → (p < o ∨ o + 32 ≤ p) → bitAt a p = bitAt b p) (hr : reg ones a = reg ones b) : a = b := by
  have hz := reg_xor a b ones ones h
  rw [hr, BitVec.xor_self, BitVec.xor_self, reg_feed] at hz
  have hbit : ∀ p, bitAt (List.zipWith (· ^^^ ·) a b) p = (bitAt a p ^^ bitAt b p) := by
    intro p
    unfold bitAt
    rw [zip_at a b h, BitVec.getMsbD_xor]
  have hlen : (List.zipWith (· ^^^ ·) a b).length = a.length := by rw [List.length_zipWith]; omega
  have hn := feed_none _ o (fun p hp hin => by
    rw [bitsL_length, hlen] at hp
    rw [bitsL_at _ _ (by rw [hlen]; exact hp), hbit, hw p hp hin, Bool.xor_self]) hz
  apply List.ext_getElem h
  intro i h1 h2
  apply BitVec.eq_of_getMsbD_eq
  intro j hj
  have hp : 8 * i + j < 8 * a.length := by omega
  have h3 := hn (8 * i + j) (by rw [bitsL_length, hlen]; exact hp)
  rw [bitsL_at _ _ (by rw [hlen]; exact hp), hbit] at h3
  have h4 : bitAt a (8 * i + j) = bitAt b (8 * i + j) := by
    have := Option.some.inj h3
    cases ha : bitAt a (8 * i + j) <;> cases hb : bitAt b (8 * i + j) <;> simp_all
  unfold bitAt at h4
  have e1 : (8 * i + j) / 8 = i := by omega
  have e2 : (8 * i + j) % 8 = j := by omega
  rw [e1, e2] at h4
  simpa [h1, h2] using h4
end Go.Proofs.Ytallhdlnhegjiaa.CrcP
