/- What a walk knows of a receiver's box: its cells, its map, its two rows; and what slices.Clone of strings computes. Conditions: those that the lemmas state. -/
import Derived.Test.YtallhdlnhegjiaaSeq
import Derived.Test.YtallhdlnhegjiaaOwn
import Derived.Test.YtallhdlnhegjiaaMapLook
import Derived.Lib.SliceRun
import Derived.Laws.Rows
import Derived.Laws.AppendOwnNone
import Derived.Deep.QuietTactic
namespace Go.Proofs.Ytallhdlnhegjiaa.Recv
open Go.ChangeShapes Go.WideShapes Go.ChangeAt Go.RowKit Go.Lib Go.Maps
set_option linter.unusedVariables false

theorem own_ne {w : World} {B e T size n b : Nat} {v : Value} {xs : List Value} {cs : Array Value} {fr : Nat × Nat} (ho : w.ownsRow B e size v n xs) (hb : w.heap[b]? = some (.cells cs T fr)) (hT : T ≠ e) : v.ownBlock ≠ some b := by
  rcases ho.2 with ⟨rfl, _⟩ | ⟨g, cap, cur, rfl, _, hg, _⟩
  · simp [Value.ownBlock]
  · intro h
    simp only [Value.ownBlock, Option.some.injEq] at h
    subst h
    rw [hg] at hb
    injection hb with hb
    injection hb with _ hb _
    exact hT hb.symm
theorem own_ne_map {w : World} {B e size n b c : Nat} {v : Value} {xs : List Value} {es : Array MapEntry} (ho : w.ownsRow B e size v n xs) (hb : w.heap[b]? = some (.map es c)) : v.ownBlock ≠ some b := by
  rcases ho.2 with ⟨rfl, _⟩ | ⟨g, cap, cur, rfl, _, hg, _⟩
  · simp [Value.ownBlock]
  · intro h
    simp only [Value.ownBlock, Option.some.injEq] at h
    subst h
    rw [hg] at hb
    cases hb
theorem own_ne_own {w : World} {B e size n B' e' size' n' : Nat} {v v' : Value} {xs xs' : List Value} (ho : w.ownsRow B e size v n xs) (ho' : w.ownsRow B' e' size' v' n' xs') (hT : e' ≠ e) : v.ownBlock = none ∨ v.ownBlock ≠ v'.ownBlock := by
  rcases ho'.2 with ⟨rfl, _⟩ | ⟨g, cap, cur, rfl, _, hg, _⟩
  · cases h : v.ownBlock with
    | none => exact .inl rfl
    | some g => exact .inr (by simp [Value.ownBlock])
  · exact .inr (own_ne ho hg hT)

/-- map blocks other than bm are as they were -/
def Keeps (bm : Nat) (w w' : World) : Prop := ∀ k, k ≠ bm → ∀ es c, w.heap[k]? = some (.map es c) → w'.heap[k]? = some (.map es c)
theorem Keeps.refl (bm : Nat) (w : World) : Keeps bm w w := fun _ _ _ _ h => h
theorem Keeps.trans {bm : Nat} {a b c : World} (h : Keeps bm a b) (k : Keeps bm b c) : Keeps bm a c := fun j hj es e hh => k j hj es e (h j hj es e hh)
theorem Keeps.grown {bm : Nat} {a w w' : World} {row : Option Nat} (h : Keeps bm a w) (hg : w.grownBy w' row) (hr : ∀ j, row = some j → j = bm ∨ ∃ cs T fr, w.heap[j]? = some (.cells cs T fr)) : Keeps bm a w' := fun k hk es c hh => by
  have hw := h k hk es c hh
  refine (hg.block k (Array.getElem?_eq_some_iff.1 hw).1 ?_).trans hw
  intro e
  rcases hr k e.symm with h1 | ⟨cs, T, fr, h1⟩
  · exact hk h1
  · rw [hw] at h1
    cases h1
theorem Keeps.grown_own {bm : Nat} {a w w' : World} {B e size n : Nat} {v : Value} {xs : List Value} (h : Keeps bm a w) (ho : w.ownsRow B e size v n xs) (hg : w.grownBy w' v.ownBlock) : Keeps bm a w' :=
  h.grown hg fun j hj => by
    rcases ho.2 with ⟨rfl, _⟩ | ⟨g, cap, cur, rfl, _, hh, _⟩
    · simp [Value.ownBlock] at hj
    · simp only [Value.ownBlock, Option.some.injEq] at hj
      subst hj
      exact .inr ⟨_, _, _, hh⟩
theorem Keeps.below {bm : Nat} {a w w' : World} (h : Keeps bm a w) (hb : Below w.heap.size w w') : Keeps bm a w' := fun k hk es c hh => by
  have hw := h k hk es c hh
  exact (hb.block k (Array.getElem?_eq_some_iff.1 hw).1).trans hw
theorem Keeps.alloc {bm : Nat} {a w : World} (h : Keeps bm a w) (o : Obj) : Keeps bm a (w.alloc o) := h.below ((Below.refl _ _).alloc (Nat.le_refl _) o)
theorem Keeps.drew {bm : Nat} {a w : World} (h : Keeps bm a w) : Keeps bm a w.drew := h
theorem Keeps.setCell {bm : Nat} {a w : World} {p : Addr} {cs : Array Value} {T : TypeId} {fr : Nat × Nat} (h : Keeps bm a w) (hp : w.heap[p.block]? = some (.cells cs T fr)) (u : Value) : Keeps bm a (w.setCell p u) := fun k hk es c hh => by
  have hw := h k hk es c hh
  rw [Below.heap_setCell _ _ _ _ (fun e => by rw [← e, hw] at hp; cases hp)]
  exact hw
theorem Keeps.map {bm : Nat} {a w : World} {P : Program} {k : TypeId} {R : Value → Option (DataW Unit × List MemPlace)} {b n : Nat} {D : DataW Unit} (h : Keeps bm a w) (hm : a.ownsMap P k R b n D) (hb : b ≠ bm) : w.ownsMap P k R b n D := by
  obtain ⟨es, clock, h1, h2⟩ := hm
  exact ⟨es, clock, h b hb es clock h1, h2⟩

/-- a receiver's box -/
structure Box (w : World) (B b bm nn : Nat) (r h mr : Int) (A : Value) (ni : Nat) (G : Value) (ng : Nat) (D : DataW Unit) : Prop where
  blk : w.heap[b]? = some (.cells #[.int .u32 r, .int .u32 h, .int .u32 mr, .int .i64 64, .map (some bm), A, G] 102 (0, 0))
  map : w.ownsMap Try.prog 24 (plainElem (H := Unit) Try.prog 9) bm nn D
  inb : ∃ ss, (∀ u ∈ ss, u.oneCell' = true) ∧ w.ownsRow B 9 1 A ni ss
  gap : ∃ gs, w.ownsRow B 105 2 G ng gs
  b_ : B ≤ b
  bm_ : B ≤ bm
section
variable {w w' : World} {B b bm nn : Nat} {r h mr : Int} {A : Value} {ni : Nat} {G : Value} {ng : Nat} {D : DataW Unit}
theorem Box.lt (H : Box w B b bm nn r h mr A ni G ng D) : b < w.heap.size := (Array.getElem?_eq_some_iff.1 H.blk).1
theorem Box.ne (H : Box w B b bm nn r h mr A ni G ng D) : bm ≠ b := fun e => by
  obtain ⟨es, c, h1, _⟩ := H.map
  rw [e, H.blk] at h1
  cases h1
theorem Box.cell (H : Box w B b bm nn r h mr A ni G ng D) (i : Nat) {v : Value} (hv : #[Value.int .u32 r, .int .u32 h, .int .u32 mr, .int .i64 64, .map (some bm), A, G][i]? = some v) : w.cell? ⟨b, i, none⟩ = some v := by
  rw [cell_of_row _ _ _ _ _ _ H.blk]
  exact hv
theorem Box.c0 (H : Box w B b bm nn r h mr A ni G ng D) : w.cell? ⟨b, 0, none⟩ = some (.int .u32 r) := H.cell 0 rfl
theorem Box.c1 (H : Box w B b bm nn r h mr A ni G ng D) : w.cell? ⟨b, 1, none⟩ = some (.int .u32 h) := H.cell 1 rfl
theorem Box.c2 (H : Box w B b bm nn r h mr A ni G ng D) : w.cell? ⟨b, 2, none⟩ = some (.int .u32 mr) := H.cell 2 rfl
theorem Box.c3 (H : Box w B b bm nn r h mr A ni G ng D) : w.cell? ⟨b, 3, none⟩ = some (.int .i64 64) := H.cell 3 rfl
theorem Box.c4 (H : Box w B b bm nn r h mr A ni G ng D) : w.cell? ⟨b, 4, none⟩ = some (.map (some bm)) := H.cell 4 rfl
theorem Box.c5 (H : Box w B b bm nn r h mr A ni G ng D) : w.cell? ⟨b, 5, none⟩ = some A := H.cell 5 rfl
theorem Box.c6 (H : Box w B b bm nn r h mr A ni G ng D) : w.cell? ⟨b, 6, none⟩ = some G := H.cell 6 rfl
theorem Box.free (H : Box w B b bm nn r h mr A ni G ng D) (i : Nat) : w.frozen? ⟨b, i, none⟩ = false := frozen_of_row w b i _ _ H.blk
theorem Box.a_b (H : Box w B b bm nn r h mr A ni G ng D) : A.ownBlock ≠ some b := by
  obtain ⟨ss, _, h1⟩ := H.inb
  exact own_ne h1 H.blk (by decide)
theorem Box.g_b (H : Box w B b bm nn r h mr A ni G ng D) : G.ownBlock ≠ some b := by
  obtain ⟨ss, h1⟩ := H.gap
  exact own_ne h1 H.blk (by decide)
theorem Box.a_bm (H : Box w B b bm nn r h mr A ni G ng D) : A.ownBlock ≠ some bm := by
  obtain ⟨ss, _, h1⟩ := H.inb
  obtain ⟨es, c, h2, _⟩ := H.map
  exact own_ne_map h1 h2
theorem Box.g_bm (H : Box w B b bm nn r h mr A ni G ng D) : G.ownBlock ≠ some bm := by
  obtain ⟨ss, h1⟩ := H.gap
  obtain ⟨es, c, h2, _⟩ := H.map
  exact own_ne_map h1 h2
theorem Box.kept (H : Box w B b bm nn r h mr A ni G ng D) {row : Option Nat} (hg : w.grownBy w' row) (h1 : some b ≠ row) (h2 : some bm ≠ row) (h3 : A.ownBlock = none ∨ A.ownBlock ≠ row) (h4 : G.ownBlock = none ∨ G.ownBlock ≠ row) : Box w' B b bm nn r h mr A ni G ng D := by
  obtain ⟨ss, hs, ho⟩ := H.inb
  obtain ⟨gs, hg2⟩ := H.gap
  exact ⟨(hg.block b H.lt h1).trans H.blk, H.map.kept hg h2, ⟨ss, hs, ho.kept hg h3⟩, ⟨gs, hg2.kept hg h4⟩, H.b_, H.bm_⟩
theorem gb {w w' : World} (hb : Below w.heap.size w w') : w.grownBy w' none := ⟨hb.os, hb.tape, hb.output, hb.size, fun k hk _ => hb.block k hk⟩
theorem Box.below (H : Box w B b bm nn r h mr A ni G ng D) (hb : Below w.heap.size w w') : Box w' B b bm nn r h mr A ni G ng D :=
  H.kept (gb hb) (by simp) (by simp) (by cases hA : A.ownBlock with | none => exact .inl rfl | some g => exact .inr (by simp)) (by cases hA : G.ownBlock with | none => exact .inl rfl | some g => exact .inr (by simp))
theorem Box.drew (H : Box w B b bm nn r h mr A ni G ng D) : Box w.drew B b bm nn r h mr A ni G ng D := H.below ((Below.refl _ _).drew)
theorem Box.alloc (H : Box w B b bm nn r h mr A ni G ng D) (o : Obj) : Box (w.alloc o) B b bm nn r h mr A ni G ng D := H.below ((Below.refl _ _).alloc (Nat.le_refl _) o)
theorem Box.setR (H : Box w B b bm nn r h mr A ni G ng D) (r' : Int) : Box (w.setCell ⟨b, 0, none⟩ (.int .u32 r')) B b bm nn r' h mr A ni G ng D := by
  obtain ⟨ss, hs, ho⟩ := H.inb
  obtain ⟨gs, hg2⟩ := H.gap
  exact ⟨by simpa using heap_setCell_same w b 0 _ 102 (.int .u32 r') H.blk, H.map.setCell H.ne _, ⟨ss, hs, ownsRow_setCell_other ho H.a_b _⟩, ⟨gs, ownsRow_setCell_other hg2 H.g_b _⟩, H.b_, H.bm_⟩
theorem Box.setH (H : Box w B b bm nn r h mr A ni G ng D) (h' : Int) : Box (w.setCell ⟨b, 1, none⟩ (.int .u32 h')) B b bm nn r h' mr A ni G ng D := by
  obtain ⟨ss, hs, ho⟩ := H.inb
  obtain ⟨gs, hg2⟩ := H.gap
  exact ⟨by simpa using heap_setCell_same w b 1 _ 102 (.int .u32 h') H.blk, H.map.setCell H.ne _, ⟨ss, hs, ownsRow_setCell_other ho H.a_b _⟩, ⟨gs, ownsRow_setCell_other hg2 H.g_b _⟩, H.b_, H.bm_⟩
theorem Box.setA (H : Box w B b bm nn r h mr A ni G ng D) {A' : Value} {ni' : Nat} {ss : List Value} (hs : ∀ u ∈ ss, u.oneCell' = true) (ho : w.ownsRow B 9 1 A' ni' ss) : Box (w.setCell ⟨b, 5, none⟩ A') B b bm nn r h mr A' ni' G ng D := by
  obtain ⟨gs, hg2⟩ := H.gap
  exact ⟨by simpa using heap_setCell_same w b 5 _ 102 A' H.blk, H.map.setCell H.ne _, ⟨ss, hs, ownsRow_setCell_other ho (own_ne ho H.blk (by decide)) _⟩, ⟨gs, ownsRow_setCell_other hg2 H.g_b _⟩, H.b_, H.bm_⟩
theorem Box.setG (H : Box w B b bm nn r h mr A ni G ng D) {G' : Value} {ng' : Nat} {gs : List Value} (ho : w.ownsRow B 105 2 G' ng' gs) : Box (w.setCell ⟨b, 6, none⟩ G') B b bm nn r h mr A ni G' ng' D := by
  obtain ⟨ss, hs, ho2⟩ := H.inb
  exact ⟨by simpa using heap_setCell_same w b 6 _ 102 G' H.blk, H.map.setCell H.ne _, ⟨ss, hs, ownsRow_setCell_other ho2 H.a_b _⟩, ⟨gs, ownsRow_setCell_other ho (own_ne ho H.blk (by decide)) _⟩, H.b_, H.bm_⟩
/-- a row that is newer than the box was written -/
theorem Box.kept_new {w0 : World} {nn0 : Nat} {r0 h0 mr0 : Int} {D0 : DataW Unit} {ni0 ng0 : Nat} (H0 : Box w0 B b bm nn0 r0 h0 mr0 A ni0 G ng0 D0) (H : Box w B b bm nn r h mr A ni G ng D) {row : Option Nat} (hg : w.grownBy w' row) (hr : ∀ j, row = some j → w0.heap.size ≤ j) : Box w' B b bm nn r h mr A ni G ng D := by
  obtain ⟨ss, _, ho⟩ := H0.inb
  obtain ⟨gs, hg2⟩ := H0.gap
  have hl := H0.lt
  have hm := H0.map.lt
  refine H.kept hg ?_ ?_ ?_ ?_
  · intro e
    have := hr b e.symm
    omega
  · intro e
    have := hr bm e.symm
    omega
  · cases e : A.ownBlock with
    | none => exact .inl rfl
    | some g =>
      refine .inr fun e2 => ?_
      have h1 := (ho.lt g e).2
      have h2 := hr g e2.symm
      omega
  · cases e : G.ownBlock with
    | none => exact .inl rfl
    | some g =>
      refine .inr fun e2 => ?_
      have h1 := (hg2.lt g e).2
      have h2 := hr g e2.symm
      omega
theorem own_base {w : World} {B B' e size n : Nat} {v : Value} {xs : List Value} (h : w.ownsRow B e size v n xs) (hB : B' ≤ B) : w.ownsRow B' e size v n xs := by
  refine ⟨h.1, ?_⟩
  rcases h.2 with h1 | ⟨g, cap, cur, h1, h2, h3⟩
  · exact .inl h1
  · exact .inr ⟨g, cap, cur, h1, Nat.le_trans hB h2, h3⟩
theorem below_drewN (w : World) (n : Nat) : Below w.heap.size w (w.drewN n) := ⟨rfl, rfl, rfl, Nat.le_refl _, fun _ _ => rfl⟩
theorem Keeps.drewN {bm : Nat} {a w : World} (h : Keeps bm a w) (n : Nat) : Keeps bm a (w.drewN n) := h
/-- the map, turned -/
theorem Box.setM (H : Box w B b bm nn r h mr A ni G ng D) {nn' : Nat} {D' : DataW Unit} (hg : w.grownBy w' (some bm)) (hm : w'.ownsMap Try.prog 24 (plainElem (H := Unit) Try.prog 9) bm nn' D') : Box w' B b bm nn' r h mr A ni G ng D' := by
  obtain ⟨ss, hs, ho⟩ := H.inb
  obtain ⟨gs, hg2⟩ := H.gap
  exact ⟨(hg.block b H.lt (fun e => H.ne (by injection e with e; exact e.symm))).trans H.blk, hm, ⟨ss, hs, ho.kept hg (.inr H.a_bm)⟩, ⟨gs, hg2.kept hg (.inr H.g_bm)⟩, H.b_, H.bm_⟩
end

/-- what the map holds: the numbers of the offsets from k on that came -/
def Held (S : Int) (k : Nat) (c : Nat → Bool) (D : DataW Unit) : Prop := ∀ x, Maps.has D (.int .u32 x) = true ↔ ∃ y : Nat, y < 64 ∧ k ≤ y ∧ c y = true ∧ x = (S + (y : Int)) % 16777216
theorem Held.at_ {S : Int} {k : Nat} {c : Nat → Bool} {D : DataW Unit} (h : Held S k c D) {y : Nat} (hy : y < 16777216) (hc : ∀ i, c i = true → i < 64) : Maps.has D (.int .u32 ((S + (y : Int)) % 16777216)) = (decide (k ≤ y) && c y) := by
  cases e : Maps.has D (.int .u32 ((S + (y : Int)) % 16777216)) with
  | true =>
    obtain ⟨z, h1, h2, h3, h4⟩ := (h _).1 e
    obtain rfl : z = y := by omega
    simp [h2, h3]
  | false =>
    cases e2 : (decide (k ≤ y) && c y) with
    | false => rfl
    | true =>
      simp at e2
      have := (h ((S + (y : Int)) % 16777216)).2 ⟨y, hc _ e2.2, e2.1, e2.2, rfl⟩
      rw [e] at this
      cases this
theorem Held.range {S : Int} {k : Nat} {c : Nat → Bool} {D : DataW Unit} (h : Held S k c D) : ∀ x, Maps.has D (.int .u32 x) = true → 0 ≤ x ∧ x < 16777216 := fun x hx => by
  obtain ⟨y, _, _, _, rfl⟩ := (h x).1 hx
  omega
theorem Held.del {S : Int} {k : Nat} {c : Nat → Bool} {D : DataW Unit} (h : Held S k c D) : Held S (k + 1) c (D.del (.int .u32 ((S + (k : Int)) % 16777216))) := fun x => by
  by_cases e : x = (S + (k : Int)) % 16777216
  · subst e
    rw [has_del_same]
    constructor
    · intro h; cases h
    · rintro ⟨y, h1, h2, h3, h4⟩
      omega
  · rw [has_del_other (fun hh => e (by injection hh)), h x]
    constructor
    · rintro ⟨y, h1, h2, h3, h4⟩
      refine ⟨y, h1, ?_, h3, h4⟩
      rcases Nat.lt_or_ge k y with h5 | h5
      · exact h5
      · obtain rfl : y = k := by omega
        exact absurd h4 e
    · rintro ⟨y, h1, h2, h3, h4⟩
      exact ⟨y, h1, by omega, h3, h4⟩
def andOne (c : Nat → Bool) (n : Nat) : Nat → Bool := fun i => c i || i == n
theorem Held.put {S : Int} {k n : Nat} {c : Nat → Bool} {D : DataW Unit} {d : DataW Unit} (h : Held S k c D) (hm : IsMap D) (hn : n < 64) (hk : k ≤ n) : Held S k (andOne c n) (D.put (.int .u32 ((S + (n : Int)) % 16777216)) d) := fun x => by
  by_cases e : x = (S + (n : Int)) % 16777216
  · subst e
    rw [has_put_same hm (show WideAt.IsKeyLit (Lit.int .u32 _) from trivial)]
    exact ⟨fun _ => ⟨n, hn, hk, by simp [andOne], rfl⟩, fun _ => rfl⟩
  · rw [has_put_other (fun hh => e (by injection hh)), h x]
    constructor
    · rintro ⟨y, h1, h2, h3, h4⟩
      exact ⟨y, h1, h2, by simp [andOne, h3], h4⟩
    · rintro ⟨y, h1, h2, h3, h4⟩
      refine ⟨y, h1, h2, ?_, h4⟩
      simp [andOne] at h3
      rcases h3 with h3 | h3
      · exact h3
      · subst h3
        exact absurd h4 e
theorem Held.start (S : Int) : Held S 0 (fun _ => false) (.map []) := fun x => by
  constructor
  · intro h; simp [Maps.has] at h
  · rintro ⟨y, _, _, h, _⟩; cases h

theorem info9 : (Try.prog.info? 9).map (fun i => (i.zero, i.size, i.bytes)) = some (some (.string ⟨#[]⟩), 1, 16) := by kernel_rfl
theorem info105 : (Try.prog.info? 105).map (fun i => (i.zero, i.size, i.bytes)) = some (some (.agg #[.int .u32 0, .int .u32 0]), 2, 8) := by kernel_rfl

set_option maxRecDepth 20000 in
/-- a copy of a slice of strings, in new memory -/
theorem clone_any (v : Value) (n : Nat) (ss : List Value) (hs : ∀ u ∈ ss, u.oneCell' = true) (B : Nat) (w : World) (h : w.ownsRow B 9 1 v n ss) (hl : n ≤ 1000) :
    Calls Try.prog 73 #[v] w fun e w' => ∃ v', e = .returned v' ∧ w'.ownsRow w.heap.size 9 1 v' n ss ∧ Below w.heap.size w w' := by
  obtain ⟨i0, hi, hz0, hz1, hz2⟩ := info_parts info9
  have q35 : ∀ (w : World) (a : Option Addr) (n c n' c' : Nat), (binOp .eql 35 (.slice a n c) (.slice none n' c')).run Try.prog w = .ok (.bool a.isNone) w := fun w a n c n' c' => Lib.run_eql_slice_nil w _ _ a n c n' c' Try.underlying35
  by_cases hv : v = .slice none 0 0
  · subst hv
    obtain ⟨h0, h1⟩ : n = 0 ∧ ss = [] := by
      rcases h.2 with ⟨_, h0⟩ | ⟨g, cap, cur, h1, _⟩
      · subst h0
        exact ⟨rfl, List.eq_nil_of_length_eq_zero (by have := h.1; omega)⟩
      · cases h1
    subst h0 h1
    go_enter Try.func73, Try.ntmps73
    go_wp2
    go_ret
    exact ⟨_, rfl, World.ownsRow_nil _ _ _ _, Below.refl _ _⟩
  · rcases h.2 with ⟨e0, _⟩ | ⟨g, cap, cur, rfl, hb, hg, hn, hm, hsz, ht⟩
    · exact absurd e0 hv
    · have hlt := (Array.getElem?_eq_some_iff.1 hg).1
      have HC := Lib.hid h
      clear h ht
      go_enter Try.func73, Try.ntmps73
      go_wp2_with (at_builtin; refine wpList_append_own _ rfl _ _ 35 rfl w.heap.size 9 i0 (.string ⟨#[]⟩) 1 16 Try.underlying35 hi hz0 hz1 hz2 rfl (by decide) _ _ _ rfl (World.ownsRow_made w #[] 0 (Nat.le_refl _) (Nat.zero_le _) (by simp)) ⟨g, 0, none⟩ n cap ss rfl ?c1 ?c2 ?c3 ?c4 ?c5 ?c6 ?_)
      case c1 => exact HC.out.1
      case c2 =>
        intro j u hj
        have := HC.out.cells (g := g) rfl j u hj
        rw [← this]
        exact ((Below.refl w.heap.size w).alloc (Nat.le_refl _) _).cell (by unfold Addr.add; split <;> exact hlt)
      case c3 => exact hs
      case c4 => unfold maxLen; omega
      case c5 => omega
      case c6 => simp
      intro v' w1 hown hgrow hnil
      go_wp2
      go_ret
      refine ⟨v', rfl, by simpa using hown, ?_⟩
      exact ((Below.refl _ w).alloc (Nat.le_refl _) _).grown hgrow (by simp) (by intro k hk; simp [Value.ownBlock] at hk; omega)
end Go.Proofs.Ytallhdlnhegjiaa.Recv
