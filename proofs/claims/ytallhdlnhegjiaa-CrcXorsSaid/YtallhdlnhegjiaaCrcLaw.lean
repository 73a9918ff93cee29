/- The plain law of the sums, bit by bit and by a table: the register moved on, its linearity, what fits, what bursts do. No conditions; no program in sight. -/
namespace Go.Proofs.Ytallhdlnhegjiaa.CrcP
def poly : BitVec 32 := 0x04c11db7#32
def stp (x : BitVec 32) : BitVec 32 := (x <<< 1) ^^^ (if x.msb then poly else 0#32)
def stpN : Nat → BitVec 32 → BitVec 32
  | 0, x => x
  | n + 1, x => stpN n (stp x)

theorem stp_zero : stp 0#32 = 0#32 := by decide
theorem stp_xor (x y : BitVec 32) : stp (x ^^^ y) = stp x ^^^ stp y := by
  unfold stp
  rw [BitVec.msb_xor, BitVec.shiftLeft_xor_distrib]
  ext i hi
  cases x.msb <;> cases y.msb <;> simp <;> cases (poly[i]) <;> simp

theorem stpN_zero (n : Nat) : stpN n 0#32 = 0#32 := by
  induction n with
  | zero => rfl
  | succ n ih => rw [stpN, stp_zero, ih]
theorem stpN_xor (n : Nat) : ∀ x y : BitVec 32, stpN n (x ^^^ y) = stpN n x ^^^ stpN n y := by
  induction n with
  | zero => intro x y; rfl
  | succ n ih => intro x y; rw [stpN, stp_xor, ih, stpN, stpN]
theorem stpN_add (m n : Nat) : ∀ x, stpN (m + n) x = stpN n (stpN m x) := by
  induction m with
  | zero => intro x; rw [Nat.zero_add]; rfl
  | succ m ih => intro x; rw [Nat.succ_add, stpN, ih, stpN]
/-- injective at nought -/
theorem stp_eq_zero {x : BitVec 32} (h : stp x = 0#32) : x = 0#32 := by
  unfold stp at h
  have h0 := congrArg (fun v : BitVec 32 => v.getLsbD 0) h
  have hm : x.msb = false := by
    cases hx : x.msb with
    | false => rfl
    | true => rw [hx] at h0; simp [poly] at h0
  rw [hm] at h
  simp at h
  apply BitVec.eq_of_getLsbD_eq
  intro i hi
  by_cases h31 : i = 31
  · subst h31
    rw [BitVec.msb_eq_getLsbD_last] at hm
    simpa using hm
  · have := congrArg (fun v : BitVec 32 => v.getLsbD (i + 1)) h
    simp at this
    have h2 := this (by omega)
    simpa using h2
theorem stpN_eq_zero (n : Nat) : ∀ {x : BitVec 32}, stpN n x = 0#32 → x = 0#32 := by
  induction n with
  | zero => intro x h; exact h
  | succ n ih => intro x h; exact stp_eq_zero (ih h)
theorem stpN_inj (n : Nat) {x y : BitVec 32} (h : stpN n x = stpN n y) : x = y := by
  have h1 : stpN n (x ^^^ y) = 0#32 := by rw [stpN_xor, h, BitVec.xor_self]
  have h2 := stpN_eq_zero n h1
  have h3 : x ^^^ y ^^^ y = 0#32 ^^^ y := by rw [h2]
  rwa [BitVec.xor_assoc, BitVec.xor_self, BitVec.xor_zero, BitVec.zero_xor] at h3
/-- what is small is only moved -/
theorem stp_small {x : BitVec 32} (h : x.msb = false) : stp x = x <<< 1 := by unfold stp; rw [h]; simp
theorem stpN_low (x : BitVec 24) : stpN 8 (x.setWidth 32) = (x.setWidth 32) <<< 8 := by
  have key : ∀ k, k ≤ 8 → stpN k (x.setWidth 32) = (x.setWidth 32) <<< k := by
    intro k
    induction k with
    | zero => intro _; simp [stpN]
    | succ k ih =>
      intro hk
      rw [stpN_add k 1, ih (by omega), stpN, stpN, stp_small, BitVec.shiftLeft_add]
      rw [BitVec.msb_eq_getLsbD_last]
      simp
      intro _
      apply BitVec.getLsbD_of_ge
      omega
  exact key 8 (by omega)
/-- the word of a byte, at the top -/
def atTop (b : BitVec 8) : BitVec 32 := (b.setWidth 32) <<< 24
def onB (x : BitVec 32) (b : BitVec 8) : BitVec 32 := stpN 8 (x ^^^ atTop b)
def reg (x : BitVec 32) (l : List (BitVec 8)) : BitVec 32 := l.foldl onB x
def tab (i : BitVec 8) : BitVec 32 := onB 0#32 i

theorem split_top (x : BitVec 32) : x = atTop (x >>> 24 |>.setWidth 8) ^^^ ((x.setWidth 24).setWidth 32) := by
  apply BitVec.eq_of_getLsbD_eq
  intro i hi
  simp [atTop, hi]
  by_cases h : i < 24
  · simp [h]
  · have h1 : i - 24 < 8 := by omega
    have h2 : 24 + (i - 24) = i := by omega
    simp [h, h1, h2, hi]
theorem atTop_xor (a b : BitVec 8) : atTop (a ^^^ b) = atTop a ^^^ atTop b := by
  unfold atTop
  rw [BitVec.setWidth_xor, BitVec.shiftLeft_xor_distrib]
theorem low_shift (x : BitVec 32) : ((x.setWidth 24).setWidth 32) <<< 8 = x <<< 8 := by
  apply BitVec.eq_of_getLsbD_eq
  intro i hi
  have h2 : i - 8 < 24 := by omega
  have h3 : i - 8 < 32 := by omega
  simp [hi, h2, h3]
/-- the table's step is the bits' step -/
theorem on_tab (x : BitVec 32) (b : BitVec 8) : onB x b = (x <<< 8) ^^^ tab ((x >>> 24).setWidth 8 ^^^ b) := by
  have h := split_top x
  unfold tab onB
  rw [BitVec.zero_xor, atTop_xor, stpN_xor, stpN_xor]
  have e : stpN 8 x = stpN 8 (atTop ((x >>> 24).setWidth 8)) ^^^ x <<< 8 := by
    have := congrArg (stpN 8) h
    rw [stpN_xor, stpN_low, low_shift] at this
    exact this
  rw [e, BitVec.xor_comm (stpN 8 _) (x <<< 8), BitVec.xor_assoc]

/-! ## the four bytes -/
def byteAt (x : BitVec 32) (k : Nat) : BitVec 8 := (x >>> (8 * k)).setWidth 8
def fourB (x : BitVec 32) : List (BitVec 8) := [byteAt x 3, byteAt x 2, byteAt x 1, byteAt x 0]
theorem tab_small (x : BitVec 24) : stpN 8 (x.setWidth 32) = (x.setWidth 32) <<< 8 := stpN_low x
theorem onB_word (r : BitVec 32) (w : BitVec 32) : stpN 8 (r ^^^ w) = onB r (byteAt w 3) ^^^ (w <<< 8) := by
  have h := split_top w
  have e : stpN 8 w = stpN 8 (atTop ((w >>> 24).setWidth 8)) ^^^ w <<< 8 := by
    have := congrArg (stpN 8) h
    rw [stpN_xor, stpN_low, low_shift] at this
    exact this
  unfold onB byteAt
  rw [stpN_xor, stpN_xor, e, BitVec.xor_assoc]
theorem byteAt_shift (w : BitVec 32) (k : Nat) (j : Nat) (h : j + k ≤ 3): byteAt (w <<< (8 * j)) (3 - k) = byteAt w (3 - k - j) := by
  unfold byteAt
  apply BitVec.eq_of_getLsbD_eq
  intro i hi
  simp [hi]
  have h1 : 8 * (3 - k) + i < 32 := by omega
  have h2 : ¬ (8 * (3 - k) + i < 8 * j) := by omega
  have h3 : 8 * (3 - k) + i - 8 * j = 8 * (3 - k - j) + i := by omega
  simp [h1, h2, h3]
theorem shift32 (w : BitVec 32) : w <<< 32 = 0#32 := by
  apply BitVec.eq_of_getLsbD_eq
  intro i hi
  simp [hi]
theorem stpN_32 (x : BitVec 32) : stpN 32 x = stpN 8 (stpN 8 (stpN 8 (stpN 8 x))) := by
  have h : ∀ n, n = 8 + (8 + (8 + 8)) → stpN n x = stpN 8 (stpN 8 (stpN 8 (stpN 8 x))) := by
    intro n hn
    rw [hn, stpN_add, stpN_add, stpN_add]
  exact h 32 (by decide)
/-- a word behind a register: it is xored in, and thirty-two bits on -/
theorem reg_four (r w : BitVec 32) : reg r (fourB w) = stpN 32 (r ^^^ w) := by
  have e0 : stpN 8 (r ^^^ w) = onB r (byteAt w 3) ^^^ (w <<< 8) := onB_word r w
  have b1 : byteAt (w <<< 8) 3 = byteAt w 2 := byteAt_shift w 0 1 (by omega)
  have b2 : byteAt (w <<< 16) 3 = byteAt w 1 := byteAt_shift w 0 2 (by omega)
  have b3 : byteAt (w <<< 24) 3 = byteAt w 0 := byteAt_shift w 0 3 (by omega)
  have s1 : w <<< 8 <<< 8 = w <<< 16 := by rw [← BitVec.shiftLeft_add]
  have s2 : w <<< 16 <<< 8 = w <<< 24 := by rw [← BitVec.shiftLeft_add]
  have s3 : w <<< 24 <<< 8 = 0#32 := by rw [← BitVec.shiftLeft_add]; exact shift32 w
  have h1 := (congrArg (stpN 8) e0).trans (onB_word _ (w <<< 8))
  rw [b1, s1] at h1
  have h2 := (congrArg (stpN 8) h1).trans (onB_word _ (w <<< 16))
  rw [b2, s2] at h2
  have h3 := (congrArg (stpN 8) h2).trans (onB_word _ (w <<< 24))
  rw [b3, s3, BitVec.xor_zero] at h3
  have h4 : reg r (fourB w) = onB (onB (onB (onB r (byteAt w 3)) (byteAt w 2)) (byteAt w 1)) (byteAt w 0) := by
    unfold reg fourB
    simp only [List.foldl_cons, List.foldl_nil]
  have h5 := stpN_32 (r ^^^ w)
  generalize stpN 32 (r ^^^ w) = z at *
  rw [h3] at h5
  rw [h4, h5]

theorem onB_xor (x y : BitVec 32) (a b : BitVec 8) : onB (x ^^^ y) (a ^^^ b) = onB x a ^^^ onB y b := by
  have e : x ^^^ y ^^^ atTop (a ^^^ b) = (x ^^^ atTop a) ^^^ (y ^^^ atTop b) := by
    rw [atTop_xor, BitVec.xor_assoc, BitVec.xor_assoc, ← BitVec.xor_assoc y, BitVec.xor_comm y (atTop a), BitVec.xor_assoc (atTop a)]
  unfold onB
  rw [e]
  exact stpN_xor 8 _ _
theorem reg_xor : ∀ (l m : List (BitVec 8)) (x y : BitVec 32), l.length = m.length → reg (x ^^^ y) (List.zipWith (· ^^^ ·) l m) = reg x l ^^^ reg y m
  | [], [], x, y, _ => rfl
  | a :: l, b :: m, x, y, h => by
    simp only [List.zipWith_cons_cons, reg, List.foldl_cons]
    rw [onB_xor]
    exact reg_xor l m _ _ (by simpa using h)
theorem reg_append (x : BitVec 32) (l m : List (BitVec 8)) : reg x (l ++ m) = reg (reg x l) m := by unfold reg; exact List.foldl_append

def ones : BitVec 32 := BitVec.allOnes 32
def sum (l : List (BitVec 8)) : BitVec 32 := ~~~ (reg ones l)

theorem reg_seal (l : List (BitVec 8)) (w : BitVec 32) : reg ones (l ++ fourB w) = stpN 32 ones ↔ w = sum l := by
  rw [reg_append, reg_four]
  constructor
  · intro h
    have h1 := stpN_inj 32 h
    have h2 : reg ones l ^^^ (reg ones l ^^^ w) = reg ones l ^^^ ones := by rw [h1]
    rw [← BitVec.xor_assoc, BitVec.xor_self, BitVec.zero_xor] at h2
    rw [h2]
    unfold sum ones
    rw [BitVec.not_def, BitVec.xor_comm]
  · intro h
    rw [h]
    unfold sum
    rw [BitVec.not_def, BitVec.xor_comm (BitVec.allOnes 32), ← BitVec.xor_assoc, BitVec.xor_self, BitVec.zero_xor]
    rfl
theorem fourB_inj {x y : BitVec 32} (h : fourB x = fourB y) : x = y := by
  unfold fourB at h
  simp only [List.cons.injEq, and_true] at h
  obtain ⟨h3, h2, h1, h0⟩ := h
  apply BitVec.eq_of_getLsbD_eq
  intro i hi
  have key : ∀ k, k < 4 → byteAt x k = byteAt y k := by
    intro k hk
    match k, hk with
    | 0, _ => exact h0
    | 1, _ => exact h1
    | 2, _ => exact h2
    | 3, _ => exact h3
  have := congrArg (fun v : BitVec 8 => v.getLsbD (i % 8)) (key (i / 8) (by omega))
  simp [byteAt, Nat.mod_lt] at this
  rwa [Nat.div_add_mod] at this
theorem byteAt_nat (w : BitVec 32) (k : Nat) : (byteAt w k).toNat = w.toNat / 2 ^ (8 * k) % 256 := by
  unfold byteAt
  rw [BitVec.toNat_setWidth, BitVec.toNat_ushiftRight, Nat.shiftRight_eq_div_pow]
theorem exists_four (l : List (BitVec 8)) (h : l.length = 4) : ∃ w, l = fourB w := by
  match l, h with
  | [a, b, c, d], _ =>
    have ha := a.isLt
    have hb := b.isLt
    have hc := c.isLt
    have hd := d.isLt
    refine ⟨BitVec.ofNat 32 (a.toNat * 16777216 + b.toNat * 65536 + c.toNat * 256 + d.toNat), ?_⟩
    have hw : (BitVec.ofNat 32 (a.toNat * 16777216 + b.toNat * 65536 + c.toNat * 256 + d.toNat)).toNat = a.toNat * 16777216 + b.toNat * 65536 + c.toNat * 256 + d.toNat := by
      rw [BitVec.toNat_ofNat]; apply Nat.mod_eq_of_lt; omega
    unfold fourB
    simp only [List.cons.injEq, and_true]
    refine ⟨?_, ?_, ?_, ?_⟩ <;> (apply BitVec.eq_of_toNat_eq; rw [byteAt_nat, hw]) <;> omega
end Go.Proofs.Ytallhdlnhegjiaa.CrcP
