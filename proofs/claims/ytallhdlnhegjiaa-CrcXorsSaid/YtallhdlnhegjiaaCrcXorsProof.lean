/-
  PROVED: the given statement 'Rows.CrcXorsSaid': whatever the input, 'CrcXors' returns true and the input reads as it did. No condition. The frame is made after the one that the kit's skeleton program writes for slices of integers; the walk lies in the text YtallhdlnhegjiaaCrcXorsWalk.
-/
import Derived.Test.YtallhdlnhegjiaaRows
import Derived.WalkKit
import Derived.ProofKit
import Derived.OpenShut
import Derived.ShutString
import Derived.ChangeOld
import Derived.Below
import Derived.Laws.Rows
import Derived.Deep.Slices
import Derived.Test.YtallhdlnhegjiaaCrcXorsWalk
namespace Go.Proofs.Ytallhdlnhegjiaa.crcXors
open Go.ChangeShapes Go.WideShapes Go.ChangeAt Go.RowKit CrcP Crc
open Go.ChangeMaps (open_string shut_string)
set_option linter.unusedVariables false

theorem add_off {b off : Nat} (k : Nat) : (⟨b, off, none⟩ : Addr).add k = ⟨b, off + k, none⟩ := by
  unfold Addr.add
  split
  · rename_i h
    have h' : k = 0 := by simpa using h
    subst h'
    rfl
  · rfl
theorem byte_nat {n : Int} (h : (Lit.int .u8 n).wf = true) : ∃ x : UInt8, n = (x.toNat : Int) := by
  have h1 : 0 ≤ n ∧ n ≤ 255 := by simpa [Lit.wf, IntKind.min, IntKind.max, IntKind.signed, IntKind.bits] using h
  refine ⟨UInt8.ofNat n.toNat, ?_⟩
  have : n.toNat < 256 := by omega
  rw [UInt8.toNat_ofNat_of_lt' (by simpa using this)]
  omega
theorem open_tris {H : Type} {enc : TypeId × Value → H} {w : World} {base : Nat} {spare : Nat → Bool} {held : Bool} {fuel : Nat} {cs : List Value} {x : DataW H × List MemPlace}
    (h : DataW.trod enc Try.prog w base spare held fuel 74 cs = some x) : ∃ a len cap B, cs = [.slice a len cap] ∧ len ≤ cap ∧ cap ≤ maxLen ∧ IsTris w a len B := by
  rcases Go.Deep.open_slice Try.underlying74 h with ⟨rfl, _⟩ | ⟨a, len, cap, m, n, D, Pl, rfl, hb, hl, hm, hmm, rfl, hx⟩
  · exact ⟨none, 0, 0, fun _ _ => 0, rfl, Nat.le_refl _, Nat.zero_le _, Nat.zero_le _, fun i hi => absurd hi (Nat.not_lt_zero i)⟩
  · have hlm : len ≤ m := by rw [hmm]; split <;> omega
    have each : ∀ i, i < len → ∃ q : UInt8 × UInt8 × UInt8, w.cell? (a.add (i * 3)) = some (.int .u8 (q.1.toNat : Int)) ∧ w.cell? (a.add (i * 3 + 1)) = some (.int .u8 (q.2.1.toNat : Int)) ∧ w.cell? (a.add (i * 3 + 2)) = some (.int .u8 (q.2.2.toNat : Int)) := by
      intro i hi
      obtain ⟨cs', h1, h2⟩ := hx i (by omega)
      rw [show Try.prog.cellsOf 75 = 3 from by kernel_rfl] at h1
      obtain ⟨_, hlen, hcell⟩ := World.cells?_some h1
      obtain ⟨xs, k, _, _, _, hxl, hf⟩ := DataW.trod_array Try.underlying75 h2
      rw [show Try.prog.cellsOf 5 = 1 from by kernel_rfl] at hf
      match xs, hxl, cs', hlen with
      | [y0, y1, y2], _, [v0, v1, v2], _ =>
        have g0 := hf 0 (by omega)
        have g1 := hf 1 (by omega)
        have g2 := hf 2 (by omega)
        simp at g0 g1 g2
        obtain ⟨n0, e0, _, w0⟩ := DataW.trod_int Try.underlying5 g0
        obtain ⟨n1, e1, _, w1⟩ := DataW.trod_int Try.underlying5 g1
        obtain ⟨n2, e2, _, w2⟩ := DataW.trod_int Try.underlying5 g2
        obtain ⟨x0, rfl⟩ := byte_nat w0
        obtain ⟨x1, rfl⟩ := byte_nat w1
        obtain ⟨x2, rfl⟩ := byte_nat w2
        have c0 := hcell 0 (by omega)
        have c1 := hcell 1 (by omega)
        have c2 := hcell 2 (by omega)
        rw [Go.Deep.add_add] at c0 c1 c2
        simp at e0 e1 e2
        subst e0 e1 e2
        exact ⟨(x0, x1, x2), by simpa using c0, by simpa using c1, by simpa using c2⟩
    obtain ⟨q, hq⟩ := Go.Deep.choose_lt each
    refine ⟨some a, len, cap, fun i j => if j = 0 then (q i).1 else if j = 1 then (q i).2.1 else (q i).2.2, rfl, hl, hm, Nat.le_trans hl hm, ?_⟩
    intro i hi
    obtain ⟨c0, c1, c2⟩ := hq i hi
    obtain ⟨b, off, spot⟩ := a
    have hspot : spot = none := by
      simpa [Addr.add] using World.cell?_spot (hq 0 (by omega)).1
    subst hspot
    rw [add_off] at c0 c1 c2
    refine ⟨b, off, rfl, block_lt_of_cell c0, fun j hj => ?_⟩
    match j, hj with
    | 0, _ => exact c0
    | 1, _ => exact c1
    | 2, _ => exact c2
theorem own : ownKnob Try.prog.godebug = none := by kernel_rfl
theorem laidOut : laidOutB Try.prog = true := by kernel_rfl

set_option maxRecDepth 100000 in
theorem lifted (os : Os) (started : os.Started) (H : Type) (enc : TypeId × Value → H) :
    ReturnsInHanded {} Try.checked os 15 .any (Rows.crcXorsSpec.pre6 enc Try.prog Try.f15 Rows.crcXorsRow.domain false) (Rows.crcXorsSpec.post enc Try.prog Try.f15 false true false false) := by
  refine returnsInHanded_of_change (C := Try.checked) own started (by kernel_rfl) Try.func15
    (ChangeSpec.witness6 (enc := enc) (C := Try.checked) false ⟨#[], #[.slice none 0 0], []⟩ 8 (by kernel_rfl) (by kernel_rfl) (by kernel_rfl) (by kernel_rfl)) ?_
  intro W base args ds gs before hval0 hW hcnd _
  have hval : ∀ (j : Nat) t v, Try.f15.params[j]? = some t → args[j]? = some v → Value.okWide Try.prog W .any base t v := hval0
  have hW' := hW
  obtain ⟨p, q, hA0, hV, rfl, hfz, hnd⟩ := hW
  have hA : DataW.TrodAll enc Try.prog W 0 (fun _ => true) true Try.f15.params.toList args.toList ds p := hA0
  rw [Try.params15] at hA hval
  obtain ⟨v0, vs0, d0, ds0, p0, q0, hargs, rfl, rfl, h0, r0⟩ := trodAll_cons hA
  obtain ⟨rfl, rfl, rfl⟩ := trodAll_nil r0
  obtain rfl : args = #[v0] := by cases args; simp_all
  obtain ⟨rfl, rfl⟩ := trodVars_none hV
  have k0 := h0
  have lt0 : ∀ x ∈ p0, x.block < W.heap.size := by obtain ⟨m, hm⟩ := k0; exact DataW.trod_lt m _ _ _ hm
  obtain ⟨aa0, len0, cap0, rfl⟩ := okWide_slice Try.underlying74 (hval 0 74 v0 rfl rfl)
  obtain ⟨B0, hl0, hm0, w0⟩ : ∃ B, len0 ≤ cap0 ∧ cap0 ≤ maxLen ∧ IsTris W aa0 len0 B := by
    obtain ⟨fuel, hf⟩ := h0
    obtain ⟨a, len, cap, B, hcs, hl, hm, hB⟩ := open_tris hf
    simp [Value.cells] at hcs
    obtain ⟨rfl, rfl, rfl⟩ := hcs
    exact ⟨B, hl, hm, hB⟩
  clear hA0 hval0
  refine (walk aa0 len0 cap0 B0 W w0 hl0 hm0).mono fun e W' ⟨he, bel⟩ => ?_
  subst he
  exact ⟨_, rfl, _, _, _, [], _, [], hW', trodAll_mk1 (shut_bool Try.underlying4 _), (trodAll_cons_mk (Below.trod laidOut (by kernel_rfl) (of_decide_eq_true (by kernel_rfl)) k0 bel lt0) trodAll_mk0), rfl, bel.frame _, fun h => by cases h⟩

theorem over : Rows.crcXorsRow.holds Try.pinned (OpenSpec.ofChange Rows.crcXorsSpec) :=
  OpenClaim.holds_of_wide 15 Try.f15 rfl rfl rfl rfl rfl rfl rfl ⟨rfl, rfl, rfl, rfl, rfl⟩ rfl rfl rfl rfl rfl (by kernel_rfl) Try.func15 (by kernel_rfl)
    (of_decide_eq_true (by kernel_rfl)) (by unfold Func.isWrapper; first | (rw [if_pos (by decide +kernel)]; kernel_rfl) | (rw [if_neg (by decide +kernel)]; exact ⟨rfl, rfl⟩))
    (fun os started H enc _ => lifted os started H enc)

/-- THE STATEMENT -/
theorem proved : Rows.CrcXorsSaid := over
#print axioms proved
end Go.Proofs.Ytallhdlnhegjiaa.crcXors
