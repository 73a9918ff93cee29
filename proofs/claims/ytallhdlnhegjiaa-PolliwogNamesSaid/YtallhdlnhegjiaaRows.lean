/-
  No cell of these rows narrows 'for every input' (looked for: loops, veiled, ifaces, maps, wideKeys, modest, calm, conditions, laid).
  DERIVED. THE GIVEN ROWS OF THIS SEAT. 14 by the template 'for every input the law returns true; each argument reads behind the call as it read before'; 0 by the template 'total and deterministic' (their statements: YtallhdlnhegjiaaTotals.lean).
  GIVEN WITH THE SEED: the statements are not yours to turn. If you find one false, say at which input.
  Laid BY PROGRAM, IN A SANDBOX (cutbox-rows.mjs): the forced cells as the released guide's own fill.sh prints them over the translation 4424c0c739315f42… (all of the seat's roots in one cut). By AI agents, Wed Nov 11 2026. No macro, syntax, notation, axiom, sorry.
-/
import Derived.Test.YtallhdlnhegjiaaChecked
import GoSem.Claim
import GoSem.ClaimJoined
import GoSem.ClaimMapViews
import Derived.JoinedTies
import Derived.KernelRfl
namespace Go.Proofs.Ytallhdlnhegjiaa
/- THE CELL 'sum', in the pinned program and in every row, IS THE sha256 OF THE DUMP (.gsa) THAT YtallhdlnhegjiaaProg.lean LOADS. Nothing in Lean hashes anything: it is a label: what it is worth is what the hold of that sum in a sandbox is worth. -/
noncomputable def Try.pinned : Pinned := { name := "ytallhdlnhegjiaa", sum := "4424c0c739315f42772ae9faadc64f6791986d2c44e7164386ede3a2d820a923", checked := Try.checked }
namespace Rows
def none {H : Type} : Left H := { results := [], args := [] }

/-- 'polliwoglaw01.SeqOne': WHATEVER THE INPUT: true; the input reads as it did. -/
def seqOneSpec : ChangeSpec := { name := "seqOne", fn := fun _ => fun
  | [d1, d2, d3] => { results := [.lit (.bool true)], args := [d1, d2, d3] }
  | _ => none }
def seqOneRow : OpenClaim := { program := "ytallhdlnhegjiaa", sum := "4424c0c739315f42772ae9faadc64f6791986d2c44e7164386ede3a2d820a923", func := "polliwog/polliwoglaw01.SeqOne", spec := "seqOne", apart := false }
def SeqOneSaid : Prop := seqOneRow.holds Try.pinned (OpenSpec.ofChange seqOneSpec)

/-- ITS FALSE NEIGHBOUR: 'it returns false'. Refute it at one input. -/
def seqOneWrong : ChangeSpec := { name := "seqOne", fn := fun _ => fun
  | [d1, d2, d3] => { results := [.lit (.bool false)], args := [d1, d2, d3] }
  | _ => none }
def SeqOneWrongFalsely : Prop := seqOneRow.holds Try.pinned (OpenSpec.ofChange seqOneWrong)

/-- 'polliwoglaw01.SeqAdds': WHATEVER THE INPUT: true; the input reads as it did. -/
def seqAddsSpec : ChangeSpec := { name := "seqAdds", fn := fun _ => fun
  | [d1, d2] => { results := [.lit (.bool true)], args := [d1, d2] }
  | _ => none }
def seqAddsRow : OpenClaim := { program := "ytallhdlnhegjiaa", sum := "4424c0c739315f42772ae9faadc64f6791986d2c44e7164386ede3a2d820a923", func := "polliwog/polliwoglaw01.SeqAdds", spec := "seqAdds", apart := false }
def SeqAddsSaid : Prop := seqAddsRow.holds Try.pinned (OpenSpec.ofChange seqAddsSpec)

/-- ITS FALSE NEIGHBOUR: 'it returns false'. Refute it at one input. -/
def seqAddsWrong : ChangeSpec := { name := "seqAdds", fn := fun _ => fun
  | [d1, d2] => { results := [.lit (.bool false)], args := [d1, d2] }
  | _ => none }
def SeqAddsWrongFalsely : Prop := seqAddsRow.holds Try.pinned (OpenSpec.ofChange seqAddsWrong)

/-- 'polliwoglaw01.SeqTwo': WHATEVER THE INPUT: true; the input reads as it did. -/
def seqTwoSpec : ChangeSpec := { name := "seqTwo", fn := fun _ => fun
  | [d1, d2] => { results := [.lit (.bool true)], args := [d1, d2] }
  | _ => none }
def seqTwoRow : OpenClaim := { program := "ytallhdlnhegjiaa", sum := "4424c0c739315f42772ae9faadc64f6791986d2c44e7164386ede3a2d820a923", func := "polliwog/polliwoglaw01.SeqTwo", spec := "seqTwo", apart := false }
def SeqTwoSaid : Prop := seqTwoRow.holds Try.pinned (OpenSpec.ofChange seqTwoSpec)

/-- ITS FALSE NEIGHBOUR: 'it returns false'. Refute it at one input. -/
def seqTwoWrong : ChangeSpec := { name := "seqTwo", fn := fun _ => fun
  | [d1, d2] => { results := [.lit (.bool false)], args := [d1, d2] }
  | _ => none }
def SeqTwoWrongFalsely : Prop := seqTwoRow.holds Try.pinned (OpenSpec.ofChange seqTwoWrong)

/-- 'polliwogtop.PolliwogRow': WHATEVER THE INPUT: true; the input reads as it did. -/
def polliwogRowSpec : ChangeSpec := { name := "polliwogRow", fn := fun _ => fun
  | [d1, d2] => { results := [.lit (.bool true)], args := [d1, d2] }
  | _ => none }
def polliwogRowRow : OpenClaim := { program := "ytallhdlnhegjiaa", sum := "4424c0c739315f42772ae9faadc64f6791986d2c44e7164386ede3a2d820a923", func := "polliwog/polliwogtop.PolliwogRow", spec := "polliwogRow", apart := false }
def PolliwogRowSaid : Prop := polliwogRowRow.holds Try.pinned (OpenSpec.ofChange polliwogRowSpec)

/-- ITS FALSE NEIGHBOUR: 'it returns false'. Refute it at one input. -/
def polliwogRowWrong : ChangeSpec := { name := "polliwogRow", fn := fun _ => fun
  | [d1, d2] => { results := [.lit (.bool false)], args := [d1, d2] }
  | _ => none }
def PolliwogRowWrongFalsely : Prop := polliwogRowRow.holds Try.pinned (OpenSpec.ofChange polliwogRowWrong)

/-- 'polliwoglaw01.SeqMoves': WHATEVER THE INPUT: true; the input reads as it did. -/
def seqMovesSpec : ChangeSpec := { name := "seqMoves", fn := fun _ => fun
  | [d1, d2, d3] => { results := [.lit (.bool true)], args := [d1, d2, d3] }
  | _ => none }
def seqMovesRow : OpenClaim := { program := "ytallhdlnhegjiaa", sum := "4424c0c739315f42772ae9faadc64f6791986d2c44e7164386ede3a2d820a923", func := "polliwog/polliwoglaw01.SeqMoves", spec := "seqMoves", apart := false }
def SeqMovesSaid : Prop := seqMovesRow.holds Try.pinned (OpenSpec.ofChange seqMovesSpec)

/-- ITS FALSE NEIGHBOUR: 'it returns false'. Refute it at one input. -/
def seqMovesWrong : ChangeSpec := { name := "seqMoves", fn := fun _ => fun
  | [d1, d2, d3] => { results := [.lit (.bool false)], args := [d1, d2, d3] }
  | _ => none }
def SeqMovesWrongFalsely : Prop := seqMovesRow.holds Try.pinned (OpenSpec.ofChange seqMovesWrong)

/-- 'polliwogtop.PolliwogRound': WHATEVER THE INPUT: true; the input reads as it did. -/
def polliwogRoundSpec : ChangeSpec := { name := "polliwogRound", fn := fun _ => fun
  | [d1, d2] => { results := [.lit (.bool true)], args := [d1, d2] }
  | _ => none }
def polliwogRoundRow : OpenClaim := { program := "ytallhdlnhegjiaa", sum := "4424c0c739315f42772ae9faadc64f6791986d2c44e7164386ede3a2d820a923", func := "polliwog/polliwogtop.PolliwogRound", spec := "polliwogRound", unfollowed := true, recurses := true, apart := false }
def PolliwogRoundSaid : Prop := polliwogRoundRow.holds Try.pinned (OpenSpec.ofChange polliwogRoundSpec)

/-- ITS FALSE NEIGHBOUR: 'it returns false'. Refute it at one input. -/
def polliwogRoundWrong : ChangeSpec := { name := "polliwogRound", fn := fun _ => fun
  | [d1, d2] => { results := [.lit (.bool false)], args := [d1, d2] }
  | _ => none }
def PolliwogRoundWrongFalsely : Prop := polliwogRoundRow.holds Try.pinned (OpenSpec.ofChange polliwogRoundWrong)

/-- 'polliwoglaw01.SeqRuns': WHATEVER THE INPUT: true; the input reads as it did. -/
def seqRunsSpec : ChangeSpec := { name := "seqRuns", fn := fun _ => fun
  | [d1, d2] => { results := [.lit (.bool true)], args := [d1, d2] }
  | _ => none }
def seqRunsRow : OpenClaim := { program := "ytallhdlnhegjiaa", sum := "4424c0c739315f42772ae9faadc64f6791986d2c44e7164386ede3a2d820a923", func := "polliwog/polliwoglaw01.SeqRuns", spec := "seqRuns", apart := false }
def SeqRunsSaid : Prop := seqRunsRow.holds Try.pinned (OpenSpec.ofChange seqRunsSpec)

/-- ITS FALSE NEIGHBOUR: 'it returns false'. Refute it at one input. -/
def seqRunsWrong : ChangeSpec := { name := "seqRuns", fn := fun _ => fun
  | [d1, d2] => { results := [.lit (.bool false)], args := [d1, d2] }
  | _ => none }
def SeqRunsWrongFalsely : Prop := seqRunsRow.holds Try.pinned (OpenSpec.ofChange seqRunsWrong)

/-- 'polliwoglaw02.CrcSums': WHATEVER THE INPUT: true; the input reads as it did. -/
def crcSumsSpec : ChangeSpec := { name := "crcSums", fn := fun _ => fun
  | [d1, d2] => { results := [.lit (.bool true)], args := [d1, d2] }
  | _ => none }
def crcSumsRow : OpenClaim := { program := "ytallhdlnhegjiaa", sum := "4424c0c739315f42772ae9faadc64f6791986d2c44e7164386ede3a2d820a923", func := "polliwog/polliwoglaw02.CrcSums", spec := "crcSums", apart := false }
def CrcSumsSaid : Prop := crcSumsRow.holds Try.pinned (OpenSpec.ofChange crcSumsSpec)

/-- ITS FALSE NEIGHBOUR: 'it returns false'. Refute it at one input. -/
def crcSumsWrong : ChangeSpec := { name := "crcSums", fn := fun _ => fun
  | [d1, d2] => { results := [.lit (.bool false)], args := [d1, d2] }
  | _ => none }
def CrcSumsWrongFalsely : Prop := crcSumsRow.holds Try.pinned (OpenSpec.ofChange crcSumsWrong)

/-- 'polliwoglaw02.CrcTable': WHATEVER THE INPUT: true; the input reads as it did. -/
def crcTableSpec : ChangeSpec := { name := "crcTable", fn := fun _ => fun
  | [d] => { results := [.lit (.bool true)], args := [d] }
  | _ => none }
def crcTableRow : OpenClaim := { program := "ytallhdlnhegjiaa", sum := "4424c0c739315f42772ae9faadc64f6791986d2c44e7164386ede3a2d820a923", func := "polliwog/polliwoglaw02.CrcTable", spec := "crcTable", apart := false }
def CrcTableSaid : Prop := crcTableRow.holds Try.pinned (OpenSpec.ofChange crcTableSpec)

/-- ITS FALSE NEIGHBOUR: 'it returns false'. Refute it at one input. -/
def crcTableWrong : ChangeSpec := { name := "crcTable", fn := fun _ => fun
  | [d] => { results := [.lit (.bool false)], args := [d] }
  | _ => none }
def CrcTableWrongFalsely : Prop := crcTableRow.holds Try.pinned (OpenSpec.ofChange crcTableWrong)

/-- 'polliwoglaw02.CrcFits': WHATEVER THE INPUT: true; the input reads as it did. -/
def crcFitsSpec : ChangeSpec := { name := "crcFits", fn := fun _ => fun
  | [d] => { results := [.lit (.bool true)], args := [d] }
  | _ => none }
def crcFitsRow : OpenClaim := { program := "ytallhdlnhegjiaa", sum := "4424c0c739315f42772ae9faadc64f6791986d2c44e7164386ede3a2d820a923", func := "polliwog/polliwoglaw02.CrcFits", spec := "crcFits", apart := false }
def CrcFitsSaid : Prop := crcFitsRow.holds Try.pinned (OpenSpec.ofChange crcFitsSpec)

/-- ITS FALSE NEIGHBOUR: 'it returns false'. Refute it at one input. -/
def crcFitsWrong : ChangeSpec := { name := "crcFits", fn := fun _ => fun
  | [d] => { results := [.lit (.bool false)], args := [d] }
  | _ => none }
def CrcFitsWrongFalsely : Prop := crcFitsRow.holds Try.pinned (OpenSpec.ofChange crcFitsWrong)

/-- 'polliwoglaw02.CrcBursts': WHATEVER THE INPUT: true; the input reads as it did. -/
def crcBurstsSpec : ChangeSpec := { name := "crcBursts", fn := fun _ => fun
  | [d1, d2, d3] => { results := [.lit (.bool true)], args := [d1, d2, d3] }
  | _ => none }
def crcBurstsRow : OpenClaim := { program := "ytallhdlnhegjiaa", sum := "4424c0c739315f42772ae9faadc64f6791986d2c44e7164386ede3a2d820a923", func := "polliwog/polliwoglaw02.CrcBursts", spec := "crcBursts", apart := false }
def CrcBurstsSaid : Prop := crcBurstsRow.holds Try.pinned (OpenSpec.ofChange crcBurstsSpec)

/-- ITS FALSE NEIGHBOUR: 'it returns false'. Refute it at one input. -/
def crcBurstsWrong : ChangeSpec := { name := "crcBursts", fn := fun _ => fun
  | [d1, d2, d3] => { results := [.lit (.bool false)], args := [d1, d2, d3] }
  | _ => none }
def CrcBurstsWrongFalsely : Prop := crcBurstsRow.holds Try.pinned (OpenSpec.ofChange crcBurstsWrong)

/-- 'polliwoglaw02.CrcParts': WHATEVER THE INPUT: true; the input reads as it did. -/
def crcPartsSpec : ChangeSpec := { name := "crcParts", fn := fun _ => fun
  | [d] => { results := [.lit (.bool true)], args := [d] }
  | _ => none }
def crcPartsRow : OpenClaim := { program := "ytallhdlnhegjiaa", sum := "4424c0c739315f42772ae9faadc64f6791986d2c44e7164386ede3a2d820a923", func := "polliwog/polliwoglaw02.CrcParts", spec := "crcParts", apart := false }
def CrcPartsSaid : Prop := crcPartsRow.holds Try.pinned (OpenSpec.ofChange crcPartsSpec)

/-- ITS FALSE NEIGHBOUR: 'it returns false'. Refute it at one input. -/
def crcPartsWrong : ChangeSpec := { name := "crcParts", fn := fun _ => fun
  | [d] => { results := [.lit (.bool false)], args := [d] }
  | _ => none }
def CrcPartsWrongFalsely : Prop := crcPartsRow.holds Try.pinned (OpenSpec.ofChange crcPartsWrong)

/-- 'polliwoglaw02.CrcXors': WHATEVER THE INPUT: true; the input reads as it did. -/
def crcXorsSpec : ChangeSpec := { name := "crcXors", fn := fun _ => fun
  | [d] => { results := [.lit (.bool true)], args := [d] }
  | _ => none }
def crcXorsRow : OpenClaim := { program := "ytallhdlnhegjiaa", sum := "4424c0c739315f42772ae9faadc64f6791986d2c44e7164386ede3a2d820a923", func := "polliwog/polliwoglaw02.CrcXors", spec := "crcXors", apart := false }
def CrcXorsSaid : Prop := crcXorsRow.holds Try.pinned (OpenSpec.ofChange crcXorsSpec)

/-- ITS FALSE NEIGHBOUR: 'it returns false'. Refute it at one input. -/
def crcXorsWrong : ChangeSpec := { name := "crcXors", fn := fun _ => fun
  | [d] => { results := [.lit (.bool false)], args := [d] }
  | _ => none }
def CrcXorsWrongFalsely : Prop := crcXorsRow.holds Try.pinned (OpenSpec.ofChange crcXorsWrong)

/-- 'polliwogtop.PolliwogNames': WHATEVER THE INPUT: true; the input reads as it did. -/
def polliwogNamesSpec : ChangeSpec := { name := "polliwogNames", fn := fun _ => fun
  | [d1, d2] => { results := [.lit (.bool true)], args := [d1, d2] }
  | _ => none }
def polliwogNamesRow : OpenClaim := { program := "ytallhdlnhegjiaa", sum := "4424c0c739315f42772ae9faadc64f6791986d2c44e7164386ede3a2d820a923", func := "polliwog/polliwogtop.PolliwogNames", spec := "polliwogNames", unfollowed := true, recurses := true, apart := false }
def PolliwogNamesSaid : Prop := polliwogNamesRow.holds Try.pinned (OpenSpec.ofChange polliwogNamesSpec)

/-- ITS FALSE NEIGHBOUR: 'it returns false'. Refute it at one input. -/
def polliwogNamesWrong : ChangeSpec := { name := "polliwogNames", fn := fun _ => fun
  | [d1, d2] => { results := [.lit (.bool false)], args := [d1, d2] }
  | _ => none }
def PolliwogNamesWrongFalsely : Prop := polliwogNamesRow.holds Try.pinned (OpenSpec.ofChange polliwogNamesWrong)

/- THE SECOND FORM. 'bulk': how many values and letters a reading holds, each counted each time it is reached (what is shared counts as often as it is met; a slice's spare places count too). A statement '..UptoSaid' is the law's where the arguments, and the package variables that the reading takes, are together of bulk at most 1048576: NARROWER than '..Said'. Prove '..Said' where nothing that the law and all that it calls make is longer than what came in: it says more and counts as full. Else prove '..UptoSaid'. A law counts once. -/
mutual
def uptoBulk {H : Type} : DataW H → Nat
  | .lit (.string bytes) => bytes.length + 1
  | .lit _ => 1
  | .nil => 1
  | .ptr d => uptoBulk d + 1
  | .slice elems spare => uptoBulkAll elems + uptoBulkAll spare + 1
  | .agg parts => uptoBulkAll parts + 1
  | .iface _ d => uptoBulk d + 1
  | .map entries => uptoBulkEntries entries + 1
  | .held _ => 1
def uptoBulkAll {H : Type} : List (DataW H) → Nat
  | [] => 0
  | d :: r => uptoBulk d + uptoBulkAll r
def uptoBulkEntries {H : Type} : List (Lit × DataW H) → Nat
  | [] => 0
  | x :: r => uptoBulkEntry x + uptoBulkEntries r
def uptoBulkEntry {H : Type} : Lit × DataW H → Nat
  | (.string bytes, d) => bytes.length + uptoBulk d + 1
  | (_, d) => uptoBulk d + 1
 end
def uptoSmall : (H : Type) → List (DataW H) → Bool := fun _ ds => decide (uptoBulkAll ds ≤ 1048576)
def OpenSpec.upto (s : _root_.Go.ChangeSpec) : _root_.Go.OpenSpec := { _root_.Go.OpenSpec.ofChange s with cond := some uptoSmall }

/-- 'polliwoglaw01.SeqOne', WHERE WHAT IT READS IS OF BULK AT MOST 1048576: true; the input reads as it did. -/
def seqOneUptoRow : OpenClaim := { program := "ytallhdlnhegjiaa", sum := "4424c0c739315f42772ae9faadc64f6791986d2c44e7164386ede3a2d820a923", func := "polliwog/polliwoglaw01.SeqOne", spec := "seqOne", apart := false, narrowed := true }
def SeqOneUptoSaid : Prop := seqOneUptoRow.holds Try.pinned (OpenSpec.upto seqOneSpec)

/-- 'polliwoglaw01.SeqAdds', WHERE WHAT IT READS IS OF BULK AT MOST 1048576: true; the input reads as it did. -/
def seqAddsUptoRow : OpenClaim := { program := "ytallhdlnhegjiaa", sum := "4424c0c739315f42772ae9faadc64f6791986d2c44e7164386ede3a2d820a923", func := "polliwog/polliwoglaw01.SeqAdds", spec := "seqAdds", apart := false, narrowed := true }
def SeqAddsUptoSaid : Prop := seqAddsUptoRow.holds Try.pinned (OpenSpec.upto seqAddsSpec)

/-- 'polliwoglaw01.SeqTwo', WHERE WHAT IT READS IS OF BULK AT MOST 1048576: true; the input reads as it did. -/
def seqTwoUptoRow : OpenClaim := { program := "ytallhdlnhegjiaa", sum := "4424c0c739315f42772ae9faadc64f6791986d2c44e7164386ede3a2d820a923", func := "polliwog/polliwoglaw01.SeqTwo", spec := "seqTwo", apart := false, narrowed := true }
def SeqTwoUptoSaid : Prop := seqTwoUptoRow.holds Try.pinned (OpenSpec.upto seqTwoSpec)

/-- 'polliwogtop.PolliwogRow', WHERE WHAT IT READS IS OF BULK AT MOST 1048576: true; the input reads as it did. -/
def polliwogRowUptoRow : OpenClaim := { program := "ytallhdlnhegjiaa", sum := "4424c0c739315f42772ae9faadc64f6791986d2c44e7164386ede3a2d820a923", func := "polliwog/polliwogtop.PolliwogRow", spec := "polliwogRow", apart := false, narrowed := true }
def PolliwogRowUptoSaid : Prop := polliwogRowUptoRow.holds Try.pinned (OpenSpec.upto polliwogRowSpec)

/-- 'polliwoglaw01.SeqMoves', WHERE WHAT IT READS IS OF BULK AT MOST 1048576: true; the input reads as it did. -/
def seqMovesUptoRow : OpenClaim := { program := "ytallhdlnhegjiaa", sum := "4424c0c739315f42772ae9faadc64f6791986d2c44e7164386ede3a2d820a923", func := "polliwog/polliwoglaw01.SeqMoves", spec := "seqMoves", apart := false, narrowed := true }
def SeqMovesUptoSaid : Prop := seqMovesUptoRow.holds Try.pinned (OpenSpec.upto seqMovesSpec)

/-- 'polliwogtop.PolliwogRound', WHERE WHAT IT READS IS OF BULK AT MOST 1048576: true; the input reads as it did. -/
def polliwogRoundUptoRow : OpenClaim := { program := "ytallhdlnhegjiaa", sum := "4424c0c739315f42772ae9faadc64f6791986d2c44e7164386ede3a2d820a923", func := "polliwog/polliwogtop.PolliwogRound", spec := "polliwogRound", unfollowed := true, recurses := true, apart := false, narrowed := true }
def PolliwogRoundUptoSaid : Prop := polliwogRoundUptoRow.holds Try.pinned (OpenSpec.upto polliwogRoundSpec)

/-- 'polliwoglaw01.SeqRuns', WHERE WHAT IT READS IS OF BULK AT MOST 1048576: true; the input reads as it did. -/
def seqRunsUptoRow : OpenClaim := { program := "ytallhdlnhegjiaa", sum := "4424c0c739315f42772ae9faadc64f6791986d2c44e7164386ede3a2d820a923", func := "polliwog/polliwoglaw01.SeqRuns", spec := "seqRuns", apart := false, narrowed := true }
def SeqRunsUptoSaid : Prop := seqRunsUptoRow.holds Try.pinned (OpenSpec.upto seqRunsSpec)

/-- 'polliwoglaw02.CrcSums', WHERE WHAT IT READS IS OF BULK AT MOST 1048576: true; the input reads as it did. -/
def crcSumsUptoRow : OpenClaim := { program := "ytallhdlnhegjiaa", sum := "4424c0c739315f42772ae9faadc64f6791986d2c44e7164386ede3a2d820a923", func := "polliwog/polliwoglaw02.CrcSums", spec := "crcSums", apart := false, narrowed := true }
def CrcSumsUptoSaid : Prop := crcSumsUptoRow.holds Try.pinned (OpenSpec.upto crcSumsSpec)

/-- 'polliwoglaw02.CrcTable', WHERE WHAT IT READS IS OF BULK AT MOST 1048576: true; the input reads as it did. -/
def crcTableUptoRow : OpenClaim := { program := "ytallhdlnhegjiaa", sum := "4424c0c739315f42772ae9faadc64f6791986d2c44e7164386ede3a2d820a923", func := "polliwog/polliwoglaw02.CrcTable", spec := "crcTable", apart := false, narrowed := true }
def CrcTableUptoSaid : Prop := crcTableUptoRow.holds Try.pinned (OpenSpec.upto crcTableSpec)

/-- 'polliwoglaw02.CrcFits', WHERE WHAT IT READS IS OF BULK AT MOST 1048576: true; the input reads as it did. -/
def crcFitsUptoRow : OpenClaim := { program := "ytallhdlnhegjiaa", sum := "4424c0c739315f42772ae9faadc64f6791986d2c44e7164386ede3a2d820a923", func := "polliwog/polliwoglaw02.CrcFits", spec := "crcFits", apart := false, narrowed := true }
def CrcFitsUptoSaid : Prop := crcFitsUptoRow.holds Try.pinned (OpenSpec.upto crcFitsSpec)

/-- 'polliwoglaw02.CrcBursts', WHERE WHAT IT READS IS OF BULK AT MOST 1048576: true; the input reads as it did. -/
def crcBurstsUptoRow : OpenClaim := { program := "ytallhdlnhegjiaa", sum := "4424c0c739315f42772ae9faadc64f6791986d2c44e7164386ede3a2d820a923", func := "polliwog/polliwoglaw02.CrcBursts", spec := "crcBursts", apart := false, narrowed := true }
def CrcBurstsUptoSaid : Prop := crcBurstsUptoRow.holds Try.pinned (OpenSpec.upto crcBurstsSpec)

/-- 'polliwoglaw02.CrcParts', WHERE WHAT IT READS IS OF BULK AT MOST 1048576: true; the input reads as it did. -/
def crcPartsUptoRow : OpenClaim := { program := "ytallhdlnhegjiaa", sum := "4424c0c739315f42772ae9faadc64f6791986d2c44e7164386ede3a2d820a923", func := "polliwog/polliwoglaw02.CrcParts", spec := "crcParts", apart := false, narrowed := true }
def CrcPartsUptoSaid : Prop := crcPartsUptoRow.holds Try.pinned (OpenSpec.upto crcPartsSpec)

/-- 'polliwoglaw02.CrcXors', WHERE WHAT IT READS IS OF BULK AT MOST 1048576: true; the input reads as it did. -/
def crcXorsUptoRow : OpenClaim := { program := "ytallhdlnhegjiaa", sum := "4424c0c739315f42772ae9faadc64f6791986d2c44e7164386ede3a2d820a923", func := "polliwog/polliwoglaw02.CrcXors", spec := "crcXors", apart := false, narrowed := true }
def CrcXorsUptoSaid : Prop := crcXorsUptoRow.holds Try.pinned (OpenSpec.upto crcXorsSpec)

/-- 'polliwogtop.PolliwogNames', WHERE WHAT IT READS IS OF BULK AT MOST 1048576: true; the input reads as it did. -/
def polliwogNamesUptoRow : OpenClaim := { program := "ytallhdlnhegjiaa", sum := "4424c0c739315f42772ae9faadc64f6791986d2c44e7164386ede3a2d820a923", func := "polliwog/polliwogtop.PolliwogNames", spec := "polliwogNames", unfollowed := true, recurses := true, apart := false, narrowed := true }
def PolliwogNamesUptoSaid : Prop := polliwogNamesUptoRow.holds Try.pinned (OpenSpec.upto polliwogNamesSpec)

end Rows
end Go.Proofs.Ytallhdlnhegjiaa
