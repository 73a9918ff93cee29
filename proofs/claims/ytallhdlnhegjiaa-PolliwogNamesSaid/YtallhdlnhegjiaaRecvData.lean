/- What Data computes: a unit's number is taken in once; what lies in its order is delivered. Conditions: the box and what its map holds; the number lies within the window. -/
import Derived.Test.YtallhdlnhegjiaaRecvDeliver
import Derived.Deep.RegionLaw
namespace Go.Proofs.Ytallhdlnhegjiaa.Recv
open Go.ChangeShapes Go.WideShapes Go.ChangeAt Go.RowKit Go.Lib Go.Maps
set_option linter.unusedVariables false

/-- a receiver in whose window of 64 from S on just the offsets of c came -/
structure State (w : World) (B b bm nn : Nat) (S : Int) (f high : Nat) (A G : Value) (ng : Nat) (D : DataW Unit) (c : Nat → Bool) : Prop where
  box : Box w B b bm nn ((S + (f : Int)) % 16777216) ((S + (high : Int)) % 16777216) ((S + 64) % 16777216) A f G ng D
  held : Held S f c D
  low : ∀ i, i < f → c i = true
  gap : c f = false
  top : ∀ i, c i = true → i < high
  high_ : high ≤ 64
theorem State.le {w : World} {B b bm nn : Nat} {S : Int} {f high : Nat} {A G : Value} {ng : Nat} {D : DataW Unit} {c : Nat → Bool} (H : State w B b bm nn S f high A G ng D c) : f ≤ high := by
  rcases Nat.lt_or_ge high f with h | h
  · have := H.top _ (H.low _ h)
    omega
  · exact h
theorem State.lt {w : World} {B b bm nn : Nat} {S : Int} {f high : Nat} {A G : Value} {ng : Nat} {D : DataW Unit} {c : Nat → Bool} (H : State w B b bm nn S f high A G ng D c) : ∀ i, c i = true → i < 64 := fun i hi => by
  have := H.top i hi
  have := H.high_
  omega
theorem between_q (a x b : Int) (q : Bool) (hq : decide ((x - a) % 16777216 < (b - a) % 16777216) = q) (w : World) : Calls Try.prog 63 #[.int .u32 a, .int .u32 x, .int .u32 b] w fun e w' => e = .returned (.bool q) ∧ w' = w :=
  (Seq.between_any a x b w).mono fun e w' ⟨h1, h2⟩ => ⟨by rw [h1, hq], h2.symm⟩
theorem look_now {w : World} {bm nn : Nat} {D : DataW Unit} (hm : w.ownsMap Try.prog 24 (plainElem (H := Unit) Try.prog 9) bm nn D) (x : Int) (hx : 0 ≤ x ∧ x < 16777216) (q : Bool) (hq : Maps.has D (.int .u32 x) = q) :
    ∃ s : ByteArray, (Instr.lookup 99 (.map (some bm)) (.int .u32 x) true).run Try.prog w = .ok (.tuple #[.string s, .bool q]) w := by
  obtain ⟨s, _, h⟩ := look_str hm x hx q hq
  exact ⟨s, h 0⟩
theorem Below.drewN' {B : Nat} {a w : World} (h : Below B a w) (n : Nat) : Below B a (w.drewN n) := ⟨h.os, h.tape, h.output, h.size, h.block⟩
theorem Box.newG {w w' : World} {B b bm nn : Nat} {r h mr : Int} {A : Value} {ni : Nat} {G : Value} {ng : Nat} {D : DataW Unit} (H : Box w B b bm nn r h mr A ni G ng D) (hg : w.grownBy w' G.ownBlock) {G' : Value} {ng' : Nat} {gs : List Value} (ho : w'.ownsRow B 105 2 G' ng' gs) : Box (w'.setCell ⟨b, 6, none⟩ G') B b bm nn r h mr A ni G' ng' D := by
  obtain ⟨ss, hs, ha⟩ := H.inb
  obtain ⟨gs0, hg0⟩ := H.gap
  have hblk := (hg.block b H.lt (fun e => H.g_b e.symm)).trans H.blk
  have ha2 := ha.kept hg (own_ne_own ha hg0 (by decide))
  have hm2 := H.map.kept hg (fun e => H.g_bm e.symm)
  exact ⟨by simpa using heap_setCell_same w' b 6 _ 102 G' hblk, hm2.setCell H.ne _, ⟨ss, hs, ownsRow_setCell_other ha2 H.a_b _⟩, ⟨gs, ownsRow_setCell_other ho (own_ne ho hblk (by decide)) _⟩, H.b_, H.bm_⟩
theorem Box.six {w w' : World} {B b bm nn : Nat} {r h mr : Int} {A : Value} {ni : Nat} {G : Value} {ng : Nat} {D : DataW Unit} (H : Box w B b bm nn r h mr A ni G ng D) (hg : w.grownBy w' G.ownBlock) : w'.cell? ⟨b, 6, none⟩ = some G ∧ w'.frozen? ⟨b, 6, none⟩ = false ∧ ∃ cs T fr, w'.heap[b]? = some (.cells cs T fr) := by
  have hblk := (hg.block b H.lt (fun e => H.g_b e.symm)).trans H.blk
  refine ⟨?_, frozen_of_row w' b 6 _ _ hblk, _, _, _, hblk⟩
  rw [cell_of_row _ _ _ _ _ _ hblk]
  rfl
theorem pair_new (w : World) (a b : Int) (T : TypeId) (j : Nat) (u : Value) (hj : [Value.int .u32 a, .int .u32 b][j]? = some u) :
    (w.alloc (.cells #[.int .u32 a, .int .u32 b] T)).cell? ((⟨w.heap.size, 0, none⟩ : Addr).add j) = some u := by
  have e : (⟨w.heap.size, 0, none⟩ : Addr).add j = ⟨w.heap.size, j, none⟩ := by unfold Addr.add; split <;> simp_all
  rw [e, cell_of_row _ _ _ _ _ _ (heap_alloc_new w _)]
  simpa using hj
theorem pair_one (a b : Int) : ∀ u ∈ [Value.int .u32 a, .int .u32 b], u.oneCell' = true := by
  intro u hu
  simp at hu
  rcases hu with rfl | rfl <;> rfl
theorem andOne_same {c : Nat → Bool} {n : Nat} (h : c n = true) : andOne c n = c := by
  funext i
  unfold andOne
  by_cases e : i = n
  · subst e; simp [h]
  · simp [e]

/-- what Data leaves -/
def After (w w' : World) (B b bm nn : Nat) (S : Int) (high n : Nat) (c : Nat → Bool) : Prop := ∃ nn' f' A' G' ng' D', State w' B b bm nn' S f' (max high (n + 1)) A' G' ng' D' (andOne c n) ∧ nn' ≤ nn + 1 ∧ Below B w w' ∧ Keeps bm w w'

set_option maxHeartbeats 4000000 in
set_option maxRecDepth 20000 in
/-- a number that came and waits -/
theorem data_have (B b bm nn f high n : Nat) (S : Int) (A G : Value) (ng : Nat) (D : DataW Unit) (c : Nat → Bool) (m : ByteArray) (w : World) (HS : State w B b bm nn S f high A G ng D c) (hn : n < 64) (hc : c n = true) (hf : f < n) :
    Calls Try.prog 47 #[.pointer (some ⟨b, 0, none⟩), .int .u32 ((S + (n : Int)) % 16777216), .string m] w fun e w' => (∃ v, e = .returned v) ∧ After w w' B b bm nn S high n c := by
  have hx : 0 ≤ (S + (n : Int)) % 16777216 ∧ (S + (n : Int)) % 16777216 < 16777216 := by omega
  have hhas := HS.held.at_ (y := n) (by omega) HS.lt
  rw [hc, show decide (f ≤ n) = true from decide_eq_true (by omega)] at hhas
  obtain ⟨s, hlk⟩ := look_now HS.box.map _ hx true hhas
  have c4 := HS.box.c4
  have H := Lib.hid HS
  have HF : Hid (∀ w' : World, Below w.heap.size w w' → After w w' B b bm nn S high n c) := fun w' hb => by
    have hh := H.out.top n hc
    refine ⟨nn, f, A, G, ng, D, ?_, by omega, hb.mono (Nat.le_trans H.out.box.b_ (Nat.le_of_lt H.out.box.lt)), (Keeps.refl _ _).below hb⟩
    rw [andOne_same hc, show max high (n + 1) = high from by omega]
    exact ⟨H.out.box.below hb, H.out.held, H.out.low, H.out.gap, H.out.top, H.out.high_⟩
  clear HS hhas hn hc hf
  go_enter Try.func47, Try.ntmps47
  go_wp2_with (go_at_call 20; refine (Seq.low_any _ _).mono ?_; rw [show (S + (n : Int)) % 16777216 % 16777216 = (S + (n : Int)) % 16777216 from by omega]; rintro e w' ⟨rfl, rfl⟩)
  go_quiet (fail)
  go_wp2
  go_ret
  exact ⟨⟨_, rfl⟩, HF.out _ (below_drewN _ _)⟩
set_option maxHeartbeats 4000000 in
set_option maxRecDepth 20000 in
/-- a number that was delivered -/
theorem data_old (B b bm nn f high n : Nat) (S : Int) (A G : Value) (ng : Nat) (D : DataW Unit) (c : Nat → Bool) (m : ByteArray) (w : World) (HS : State w B b bm nn S f high A G ng D c) (hn : n < 64) (hc : c n = true) (hf : n < f) :
    Calls Try.prog 47 #[.pointer (some ⟨b, 0, none⟩), .int .u32 ((S + (n : Int)) % 16777216), .string m] w fun e w' => (∃ v, e = .returned v) ∧ After w w' B b bm nn S high n c := by
  have hx : 0 ≤ (S + (n : Int)) % 16777216 ∧ (S + (n : Int)) % 16777216 < 16777216 := by omega
  have hhas := HS.held.at_ (y := n) (by omega) HS.lt
  rw [show decide (f ≤ n) = false from decide_eq_false (by omega), Bool.false_and] at hhas
  obtain ⟨s, hlk⟩ := look_now HS.box.map _ hx false hhas
  have c4 := HS.box.c4
  have c0 := HS.box.c0
  have c2 := HS.box.c2
  have hff := HS.le
  have hh64 := HS.high_
  have hbt : decide (((S + (n : Int)) % 16777216 - (S + (f : Int)) % 16777216) % 16777216 < ((S + 64) % 16777216 - (S + (f : Int)) % 16777216) % 16777216) = false := decide_eq_false (by omega)
  have H := Lib.hid HS
  have HBT := Lib.hid hbt
  have HF : Hid (∀ w' : World, Below w.heap.size w w' → After w w' B b bm nn S high n c) := fun w' hb => by
    have hh := H.out.top n hc
    refine ⟨nn, f, A, G, ng, D, ?_, by omega, hb.mono (Nat.le_trans H.out.box.b_ (Nat.le_of_lt H.out.box.lt)), (Keeps.refl _ _).below hb⟩
    rw [andOne_same hc, show max high (n + 1) = high from by omega]
    exact ⟨H.out.box.below hb, H.out.held, H.out.low, H.out.gap, H.out.top, H.out.high_⟩
  clear HS hhas hbt hn hc hf hff hh64
  go_enter Try.func47, Try.ntmps47
  go_wp2_with (go_at_call 20; refine (Seq.low_any _ _).mono ?_; rw [show (S + (n : Int)) % 16777216 % 16777216 = (S + (n : Int)) % 16777216 from by omega]; rintro e w' ⟨rfl, rfl⟩)
  go_quiet (first | (go_at_call 63; exact Calls.quiet_of_same (between_q _ _ _ false HBT.out _)))
  go_wp2
  go_ret
  exact ⟨⟨_, rfl⟩, HF.out _ (below_drewN _ _)⟩

set_option maxHeartbeats 8000000 in
set_option maxRecDepth 20000 in
/-- a number that is new -/
theorem data_new (B b bm nn f high n : Nat) (S : Int) (A G : Value) (ng : Nat) (D : DataW Unit) (c : Nat → Bool) (m : ByteArray) (hm : m.size ≤ maxLen) (w : World) (HS : State w B b bm nn S f high A G ng D c) (hn : n < 64) (hc : c n = false) (hf : f ≤ n) (hnn : nn ≤ 1000) :
    Calls Try.prog 47 #[.pointer (some ⟨b, 0, none⟩), .int .u32 ((S + (n : Int)) % 16777216), .string m] w fun e w' => (∃ v, e = .returned v) ∧ After w w' B b bm nn S high n c := by
  obtain ⟨i0, hi, hz0, hz1, hz2⟩ := info_parts info105
  obtain ⟨gs0, hgs0⟩ := HS.box.gap
  obtain ⟨Ag, cg, rfl⟩ := Own.shape hgs0
  clear hgs0
  have hx : 0 ≤ (S + (n : Int)) % 16777216 ∧ (S + (n : Int)) % 16777216 < 16777216 := by omega
  have hhas := HS.held.at_ (y := n) (by omega) HS.lt
  rw [hc, Bool.and_false] at hhas
  obtain ⟨s, hlk⟩ := look_now HS.box.map _ hx false hhas
  have c4 := HS.box.c4
  have c0 := HS.box.c0
  have c2 := HS.box.c2
  have hff := HS.le
  have hh64 := HS.high_
  have hbt : decide (((S + (n : Int)) % 16777216 - (S + (f : Int)) % 16777216) % 16777216 < ((S + 64) % 16777216 - (S + (f : Int)) % 16777216) % 16777216) = true := decide_eq_true (by omega)
  have H := Lib.hid HS
  have HX := Lib.hid hx
  have HBT := Lib.hid hbt
  have HF : Hid (∀ (W : World) (D' : DataW Unit) (nn' : Nat) (G' : Value) (ng' : Nat), Box W B b bm nn' ((S + (f : Int)) % 16777216) ((S + ((max high (n + 1) : Nat) : Int)) % 16777216) ((S + 64) % 16777216) A f G' ng' D' → Held S f (andOne c n) D' → nn' ≤ nn + 1 → Below B w W → Keeps bm w W →
      Calls Try.prog 64 #[.pointer (some ⟨b, 0, none⟩)] W fun e w' => (∃ v, e = .returned v) ∧ After w w' B b bm nn S high n c) := fun W D' nn' G' ng' hb hh hn' hbe hkp => by
    have hlt : ∀ i, andOne c n i = true → i < max high (n + 1) := fun i hi => by
      simp [andOne] at hi
      rcases hi with hi | hi
      · have := H.out.top i hi
        omega
      · omega
    have hlt64 : ∀ i, andOne c n i = true → i < 64 := fun i hi => by
      have := hlt i hi
      omega
    refine (deliver_any B b bm nn' f S _ _ A G' ng' D' (andOne c n) W hb hh hlt64 (fun i hi => by simp [andOne, H.out.low i hi]) (by omega)).mono ?_
    rintro e w' ⟨v, f', A', D2, rfl, h1, h2, h3, h4, h5, h6, h7⟩
    exact ⟨⟨v, rfl⟩, nn', f', A', G', ng', D2, ⟨h1, h2, h3, h4, hlt, by omega⟩, hn', hbe.trans h6, hkp.trans h7⟩
  clear HS hhas hbt hc hx
  go_enter Try.func47, Try.ntmps47
  go_wp2_with (go_at_call 20; refine (Seq.low_any _ _).mono ?_; rw [show (S + (n : Int)) % 16777216 % 16777216 = (S + (n : Int)) % 16777216 from by omega]; rintro e w' ⟨rfl, rfl⟩)
  go_quiet (first | (go_at_call 63; exact Calls.quiet_of_same (between_q _ _ _ true HBT.out _)))
  have HB : Hid (Box (w.drewN nq) B b bm nn ((S + (f : Int)) % 16777216) ((S + (high : Int)) % 16777216) ((S + 64) % 16777216) A f (.slice Ag ng cg) ng D) := H.out.box.below (below_drewN w nq)
  have hBw : B ≤ w.heap.size := Nat.le_trans H.out.box.b_ (Nat.le_of_lt H.out.box.lt)
  have HBE : Hid (Below B w (w.drewN nq)) := (below_drewN w nq).mono hBw
  have HKP : Hid (Keeps bm w (w.drewN nq)) := Keeps.refl _ _
  have hsW : B ≤ (w.drewN nq).heap.size := hBw
  clear c0 c2 c4 hlk
  generalize w.drewN nq = W at HB HBE HKP hsW ⊢
  have c4 := HB.out.c4
  go_wp2_with (first
    | (at_mapUpdate; refine wpList_mapUpdate_own _ rfl _ _ _ 99 rfl 24 9 lawK Try.underlying99 _ bm nn _ rfl HB.out.map (by unfold maxLen; omega) _ _ (.int .u32 ((S + (n : Int)) % 16777216)) rfl rfl (key_of _ HX.out) _ [] (plainElem_string Try.underlying9 hm) ?_)
    | fail)
  intro w1 hown1 hgrow1
  have hb1 := HB.out.setM hgrow1 hown1
  have hbe1 := HBE.out.grown hgrow1 hsW (fun j hj => by cases hj; exact H.out.box.bm_)
  have hkp1 := HKP.out.grown hgrow1 (fun j hj => by cases hj; exact .inl rfl)
  have hh1 := H.out.held.put (d := .lit (.string m.data.toList)) HB.out.map.isMap hn hf
  have hs1 := hgrow1.size
  clear c4
  have c0 := hb1.c0
  have c1 := hb1.c1
  have c6 := hb1.c6
  have HB1 := Lib.hid hb1
  have HBE1 := Lib.hid hbe1
  have HKP1 := Lib.hid hkp1
  have HH1 := Lib.hid hh1
  clear HB HBE HKP hown1 hgrow1 hb1 hbe1 hkp1 hh1
  by_cases hlt : n < high
  · have HBU := Lib.hid (show decide (((S + (n : Int)) % 16777216 - (S + (f : Int)) % 16777216) % 16777216 < ((S + (high : Int)) % 16777216 - (S + (f : Int)) % 16777216) % 16777216) = true from decide_eq_true (by omega))
    go_wp2_with fail
    go_quiet (first | (go_at_call 63; exact Calls.quiet_of_same (between_q _ _ _ true HBU.out _)))
    go_wp2_with fail
    refine (HF.out _ _ _ _ ng (by rw [show max high (n + 1) = high from by omega]; exact HB1.out.below (below_drewN _ _)) HH1.out (Nat.le_refl _) (Below.drewN' HBE1.out _) HKP1.out).mono ?_
    rintro e w2 ⟨⟨v, rfl⟩, haf⟩
    go_wp2
    go_ret
    exact ⟨⟨_, rfl⟩, haf⟩
  · have HBU := Lib.hid (show decide (((S + (n : Int)) % 16777216 - (S + (f : Int)) % 16777216) % 16777216 < ((S + (high : Int)) % 16777216 - (S + (f : Int)) % 16777216) % 16777216) = false from decide_eq_false (by omega))
    have hmx : (S + ((max high (n + 1) : Nat) : Int)) % 16777216 = (S + (n : Int) + 1) % 16777216 := by rw [show max high (n + 1) = n + 1 from by omega]; omega
    have HMX := Lib.hid hmx
    clear hmx
    go_wp2_with fail
    go_quiet (first | (go_at_call 63; exact Calls.quiet_of_same (between_q _ _ _ false HBU.out _)))
    have HB2 := Lib.hid (HB1.out.below (below_drewN w1 nq))
    have HBE2 := Lib.hid (Below.drewN' HBE1.out nq)
    have HKP2 : Hid (Keeps bm w (w1.drewN nq)) := HKP1.out
    have hs2 : B ≤ (w1.drewN nq).heap.size := Nat.le_trans hsW hs1
    clear c0 c1 c6 hs1 HB1 HBE1 HKP1 HBU
    generalize w1.drewN nq = W1 at HB2 HBE2 HKP2 hs2 ⊢
    have c1 := HB2.out.c1
    have f1 := HB2.out.free 1
    have c6 := HB2.out.c6
    have f6 := HB2.out.free 6
    by_cases heq : n = high
    · subst heq
      go_wp2_with (first
        | (go_at_call 21; refine (Seq.add_any _ _ _).mono ?_; rintro e w' ⟨rfl, rfl⟩)
        | (go_at_call 64; refine (HF.out _ _ _ _ ng (by rw [HMX.out]; exact HB2.out.setH _) HH1.out (Nat.le_refl _) (HBE2.out.setCell H.out.box.b_ _) (HKP2.out.setCell HB2.out.blk _)).mono ?_; rintro e w2 ⟨⟨v, rfl⟩, haf⟩)
        | fail)
      go_ret
      exact ⟨⟨_, rfl⟩, haf⟩
    · have hne : ¬ ((S + (n : Int)) % 16777216 = (S + (high : Int)) % 16777216) := by omega
      by_cases hg8 : ng < 8
      · have hg8' : (ng : Int) < 8 := by omega
        obtain ⟨gs, hgs⟩ := HB2.out.gap
        have HGS := Lib.hid hgs
        clear hgs
        go_wp2_with fail
        have e4 : ng + 1 ≤ maxLen := by unfold maxLen; omega
        have e5 : (ng + 1) * 8 ≤ 140737488355328 := by omega
        have e6 : ∀ o : Obj, B ≤ (W1.alloc o).heap.size := fun o => by simp; omega
        have HE := Lib.hid (⟨e4, e5, e6⟩ : ng + 1 ≤ maxLen ∧ (ng + 1) * 8 ≤ 140737488355328 ∧ ∀ o : Obj, B ≤ (W1.alloc o).heap.size)
        clear e4 e5 e6
        have c6a := (HB2.out.alloc (.cells #[.int .u32 ((S + (high : Int)) % 16777216), .int .u32 ((S + (n : Int)) % 16777216)] 105)).c6
        go_region_law (first
          | (refine step_append_lies _ rfl (.tmp 69) (.tmp 76) 100 rfl B 105 i0 (.agg #[.int .u32 0, .int .u32 0]) 2 8 Try.underlying100 hi hz0 hz1 hz2 rfl (by decide) _ _ _ rfl (HGS.out.drew.alloc _) ⟨W1.heap.size, 0, none⟩ 1 1 [.int .u32 ((S + (high : Int)) % 16777216), .int .u32 ((S + (n : Int)) % 16777216)] rfl rfl (pair_new W1.drew _ _ _) (pair_one _ _) (by decide) HE.out.1 HE.out.2.1 (HE.out.2.2 _) _ rfl ?_; intro g2 cap2 w3 hown3 hgrow3 _ _; obtain ⟨k6, q6, cs6, T6, fr6, z6⟩ := (HB2.out.drew.alloc _).six hgrow3; have HB3 := Lib.hid ((HB2.out.drew.alloc _).newG hgrow3 hown3); have HBE3 := Lib.hid (((HBE2.out.drew.alloc hs2 _).grown hgrow3 (HE.out.2.2 _) (fun j hj => (HGS.out.lt j hj).1)).setCell (p := ⟨b, 6, none⟩) H.out.box.b_ (.slice (some ⟨g2, 0, none⟩) (ng + 1) cap2)); have HKP3 := Lib.hid (((HKP2.out.drew.alloc _).grown_own (HGS.out.drew.alloc _) hgrow3).setCell (p := ⟨b, 6, none⟩) z6 (.slice (some ⟨g2, 0, none⟩) (ng + 1) cap2)); clear z6 hgrow3 hown3)
          | (refine step_append_lies _ rfl (.tmp 69) (.tmp 76) 100 rfl B 105 i0 (.agg #[.int .u32 0, .int .u32 0]) 2 8 Try.underlying100 hi hz0 hz1 hz2 rfl (by decide) _ _ _ rfl (HGS.out.alloc _).drew ⟨W1.heap.size, 0, none⟩ 1 1 [.int .u32 ((S + (high : Int)) % 16777216), .int .u32 ((S + (n : Int)) % 16777216)] rfl rfl (pair_new W1 _ _ _) (pair_one _ _) (by decide) HE.out.1 HE.out.2.1 (HE.out.2.2 _) _ rfl ?_; intro g2 cap2 w3 hown3 hgrow3 _ _; obtain ⟨k6, q6, cs6, T6, fr6, z6⟩ := (HB2.out.alloc _).drew.six hgrow3; have HB3 := Lib.hid ((HB2.out.alloc _).drew.newG hgrow3 hown3); have HBE3 := Lib.hid (((HBE2.out.alloc hs2 _).drew.grown hgrow3 (HE.out.2.2 _) (fun j hj => (HGS.out.lt j hj).1)).setCell (p := ⟨b, 6, none⟩) H.out.box.b_ (.slice (some ⟨g2, 0, none⟩) (ng + 1) cap2)); have HKP3 := Lib.hid (((HKP2.out.alloc _).drew.grown_own (HGS.out.alloc _).drew hgrow3).setCell (p := ⟨b, 6, none⟩) z6 (.slice (some ⟨g2, 0, none⟩) (ng + 1) cap2)); clear z6 hgrow3 hown3))
        all_goals
          clear k6 q6 c6a c6 f6 c1 f1
          generalize w3.setCell ⟨b, 6, none⟩ (.slice (some ⟨g2, 0, none⟩) (ng + 1) cap2) = W4 at HB3 HBE3 HKP3 ⊢
          have c1 := HB3.out.c1
          have f1 := HB3.out.free 1
          go_wp2_with (first
            | (go_at_call 21; refine (Seq.add_any _ _ _).mono ?_; rintro e w' ⟨rfl, rfl⟩)
            | (go_at_call 64; refine (HF.out _ _ _ _ (ng + 1) (by rw [HMX.out]; exact HB3.out.setH _) HH1.out (Nat.le_refl _) (HBE3.out.setCell H.out.box.b_ _) (HKP3.out.setCell HB3.out.blk _)).mono ?_; rintro e w2 ⟨⟨v, rfl⟩, haf⟩)
            | fail)
          go_ret
          exact ⟨⟨_, rfl⟩, haf⟩
      · have hg8' : ¬ (ng : Int) < 8 := by omega
        go_wp2_with (first
          | (go_at_call 21; refine (Seq.add_any _ _ _).mono ?_; rintro e w' ⟨rfl, rfl⟩)
          | (go_at_call 64; refine (HF.out _ _ _ _ ng (by rw [HMX.out]; exact HB2.out.setH _) HH1.out (Nat.le_refl _) (HBE2.out.setCell H.out.box.b_ _) (HKP2.out.setCell HB2.out.blk _)).mono ?_; rintro e w2 ⟨⟨v, rfl⟩, haf⟩)
          | fail)
        go_ret
        exact ⟨⟨_, rfl⟩, haf⟩
theorem data_any (B b bm nn f high n : Nat) (S : Int) (A G : Value) (ng : Nat) (D : DataW Unit) (c : Nat → Bool) (m : ByteArray) (hm : m.size ≤ maxLen) (w : World) (HS : State w B b bm nn S f high A G ng D c) (hn : n < 64) (hnn : nn ≤ 1000) :
    Calls Try.prog 47 #[.pointer (some ⟨b, 0, none⟩), .int .u32 ((S + (n : Int)) % 16777216), .string m] w fun e w' => (∃ v, e = .returned v) ∧ After w w' B b bm nn S high n c := by
  cases hc : c n with
  | true =>
    rcases Nat.lt_trichotomy n f with h | h | h
    · exact data_old B b bm nn f high n S A G ng D c m w HS hn hc h
    · rw [h, HS.gap] at hc
      cases hc
    · exact data_have B b bm nn f high n S A G ng D c m w HS hn hc h
  | false =>
    refine data_new B b bm nn f high n S A G ng D c m hm w HS hn hc ?_ hnn
    rcases Nat.lt_or_ge n f with h | h
    · rw [HS.low n h] at hc
      cases hc
    · exact h
end Go.Proofs.Ytallhdlnhegjiaa.Recv
