/- What a walk knows of a slice that the call itself made ('ownsRow'): its shape, its cells. Small lemmas, no conditions but those stated. -/
import Derived.Test.YtallhdlnhegjiaaRows
import Derived.WalkKit
import Derived.ProofKit
import Derived.OpenShut
import Derived.Lib.Hide
namespace Go.Proofs.Ytallhdlnhegjiaa.Own
open Go.ChangeShapes Go.WideShapes Go.ChangeAt Go.RowKit
set_option linter.unusedVariables false

theorem shape {w : World} {base e size n : Nat} {v : Value} {xs : List Value} (h : w.ownsRow base e size v n xs) : ∃ A c, v = .slice A n c := by
  rcases h.2 with ⟨rfl, rfl⟩ | ⟨g, cap, cur, rfl, _⟩
  · exact ⟨none, 0, rfl⟩
  · exact ⟨_, _, rfl⟩
theorem lt {w : World} {base e n : Nat} {A : Option Addr} {c : Nat} {xs : List Value} (h : w.ownsRow base e 1 (.slice A n c) n xs) {k : Nat} (hk : k < n) :
    ∃ g, A = some ⟨g, 0, none⟩ ∧ base ≤ g ∧ g < w.heap.size ∧ w.cell? ⟨g, k, none⟩ = xs[k]? ∧ w.frozen? ⟨g, k, none⟩ = false := by
  rcases h.2 with ⟨_, h1⟩ | ⟨g, cap, cur, h1, h2⟩
  · omega
  · injection h1 with h1 h3 h4
    subst h1
    have hb := h.lt g rfl
    exact ⟨g, rfl, hb.1, hb.2, h.cellAt k (by omega), h.frozenAt k⟩

/-- a value appended, in new memory of its own ahead of it -/
theorem one_cell {w : World} (u : Value) (T : TypeId) (hu : u.cells = #[u]) (j : Nat) (x : Value) (hj : [u][j]? = some x) :
    (w.alloc (.cells #[u] T)).cell? ((⟨w.heap.size, 0, none⟩ : Addr).add j) = some x := by
  match j, hj with
  | 0, hj =>
    simp at hj
    subst hj
    simp [Addr.add]
end Go.Proofs.Ytallhdlnhegjiaa.Own
