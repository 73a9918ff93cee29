/- What a walk is told of a slice of strings that came in, and what it may read of it. No conditions. -/
import Derived.Test.YtallhdlnhegjiaaRows
import Derived.WalkKit
import Derived.ProofKit
import Derived.OpenShut
import Derived.Laws.Rows
import Derived.Lib.Hide
namespace Go.Proofs.Ytallhdlnhegjiaa.Strs
open Go.ChangeShapes Go.WideShapes Go.ChangeAt Go.RowKit
set_option linter.unusedVariables false

/-- nil, or a row whose first 'len' cells are the texts of ss -/
def IsStrs (w : World) (a : Option Addr) (len cap : Nat) (ss : List ByteArray) : Prop :=
  (a = none ∧ len = 0 ∧ cap = 0 ∧ ss = []) ∨
  ∃ x, a = some x ∧ len ≤ cap ∧ cap ≤ maxLen ∧ ss.length = cap ∧ (∀ i, i < ss.length → w.cell? (x.add i) = some (.string (ss.getD i ByteArray.empty))) ∧ ∀ s ∈ ss, s.size ≤ maxLen
theorem IsStrs.at_ {w : World} {a : Option Addr} {len cap : Nat} {ss : List ByteArray} (h : IsStrs w a len cap ss) {i : Nat} (hi : i < len) :
    ∃ b off, a = some ⟨b, off, none⟩ ∧ b < w.heap.size ∧ w.cell? ⟨b, off + i, none⟩ = some (.string (ss.getD i ByteArray.empty)) ∧ (ss.getD i ByteArray.empty).size ≤ maxLen := by
  rcases h with ⟨_, h0, _, _⟩ | ⟨x, rfl, hl, hm, hz, hcell, hws⟩
  · omega
  · obtain ⟨b, off, spot⟩ := x
    have hc0 := hcell 0 (by omega)
    have hspot : spot = none := by simpa [Addr.add] using World.cell?_spot hc0
    subst hspot
    have hc := hcell i (by omega)
    have hil : i < ss.length := by omega
    have hsz : (ss.getD i ByteArray.empty).size ≤ maxLen := by
      rw [List.getD_eq_getElem?_getD, List.getElem?_eq_getElem hil]
      exact hws _ (List.getElem_mem hil)
    have hc' : w.cell? ⟨b, off + i, none⟩ = some (.string (ss.getD i ByteArray.empty)) := by
      unfold Addr.add at hc
      split at hc
      · rename_i h0
        have h0' : i = 0 := by simpa using h0
        subst h0'
        exact hc
      · exact hc
    exact ⟨b, off, rfl, block_lt_of_cell hc', hc', hsz⟩
theorem IsStrs.len_le {w : World} {a : Option Addr} {len cap : Nat} {ss : List ByteArray} (h : IsStrs w a len cap ss) : len ≤ maxLen := by
  rcases h with ⟨_, h0, _, _⟩ | ⟨x, rfl, hl, hm, hz, hcell, hws⟩
  · omega
  · omega
end Go.Proofs.Ytallhdlnhegjiaa.Strs
