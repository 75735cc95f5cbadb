/-
  NARROWER THAN 'FOR EVERY INPUT', by the rows' own cells (each row's printed sentence says how): EplPrints: loops · SasePrints: loops · MrPrints: loops · CondPrints: loops.
  DERIVED. THE GIVEN ROWS OF THIS SEAT. 4 by the template 'for every input the law returns true; each argument reads behind the call as it read before'; 0 by the template 'total and deterministic' (their statements: YtpmkfliolekedaaGreatTotals.lean).
  GIVEN WITH THE SEED: the statements are not yours to turn. If you find one false, say at which input.
  Laid BY PROGRAM, IN A SANDBOX (cutbox-rows.mjs): the forced cells as the released guide's own fill.sh prints them over the translation fe3be8fdfadc35a1… (all of the seat's roots in one cut). By AI agents, Wed Nov 11 2026. No macro, syntax, notation, axiom, sorry.
-/
import Derived.Test.YtpmkfliolekedaaGreatChecked
import GoSem.Claim
import GoSem.ClaimJoined
import GoSem.ClaimMapViews
import Derived.JoinedTies
import Derived.KernelRfl
namespace Go.Proofs.YtpmkfliolekedaaGreat
/- THE CELL 'sum', in the pinned program and in every row, IS THE sha256 OF THE DUMP (.gsa) THAT YtpmkfliolekedaaGreatProg.lean LOADS. Nothing in Lean hashes anything: it is a label: what it is worth is what the hold of that sum in a sandbox is worth. -/
noncomputable def Tryz.pinned : Pinned := { name := "ytpmkfliolekedaagreat", sum := "fe3be8fdfadc35a10b163d1e552fc8c458696d815611f64c383b05016e79a160", checked := Tryz.checked }
namespace Rows
def none {H : Type} : Left H := { results := [], args := [] }

/-- 'haruspexlaw20.EplPrints': WHATEVER THE INPUT: true; the input reads as it did. -/
def eplPrintsSpec : ChangeSpec := { name := "eplPrints", fn := fun _ => fun
  | [d] => { results := [.lit (.bool true)], args := [d] }
  | _ => none }
def eplPrintsRow : OpenClaim := { program := "ytpmkfliolekedaagreat", sum := "fe3be8fdfadc35a10b163d1e552fc8c458696d815611f64c383b05016e79a160", func := "haruspex/haruspexlaw20.EplPrints", spec := "eplPrints", inPlace := ["internal/abi.NoEscape"], unfollowed := true, recurses := true, loops := true, apart := false }
def EplPrintsSaid : Prop := eplPrintsRow.holds Tryz.pinned (OpenSpec.ofChange eplPrintsSpec)

/-- ITS FALSE NEIGHBOUR: 'it returns false'. Refute it at one input. -/
def eplPrintsWrong : ChangeSpec := { name := "eplPrints", fn := fun _ => fun
  | [d] => { results := [.lit (.bool false)], args := [d] }
  | _ => none }
def EplPrintsWrongFalsely : Prop := eplPrintsRow.holds Tryz.pinned (OpenSpec.ofChange eplPrintsWrong)

/-- 'haruspexlaw19.SasePrints': WHATEVER THE INPUT: true; the input reads as it did. -/
def sasePrintsSpec : ChangeSpec := { name := "sasePrints", fn := fun _ => fun
  | [d] => { results := [.lit (.bool true)], args := [d] }
  | _ => none }
def sasePrintsRow : OpenClaim := { program := "ytpmkfliolekedaagreat", sum := "fe3be8fdfadc35a10b163d1e552fc8c458696d815611f64c383b05016e79a160", func := "haruspex/haruspexlaw19.SasePrints", spec := "sasePrints", inPlace := ["internal/abi.NoEscape"], unfollowed := true, recurses := true, loops := true, apart := false }
def SasePrintsSaid : Prop := sasePrintsRow.holds Tryz.pinned (OpenSpec.ofChange sasePrintsSpec)

/-- ITS FALSE NEIGHBOUR: 'it returns false'. Refute it at one input. -/
def sasePrintsWrong : ChangeSpec := { name := "sasePrints", fn := fun _ => fun
  | [d] => { results := [.lit (.bool false)], args := [d] }
  | _ => none }
def SasePrintsWrongFalsely : Prop := sasePrintsRow.holds Tryz.pinned (OpenSpec.ofChange sasePrintsWrong)

/-- 'haruspexlaw21.MrPrints': WHATEVER THE INPUT: true; the input reads as it did. -/
def mrPrintsSpec : ChangeSpec := { name := "mrPrints", fn := fun _ => fun
  | [d] => { results := [.lit (.bool true)], args := [d] }
  | _ => none }
def mrPrintsRow : OpenClaim := { program := "ytpmkfliolekedaagreat", sum := "fe3be8fdfadc35a10b163d1e552fc8c458696d815611f64c383b05016e79a160", func := "haruspex/haruspexlaw21.MrPrints", spec := "mrPrints", inPlace := ["internal/abi.NoEscape"], unfollowed := true, recurses := true, loops := true, apart := false }
def MrPrintsSaid : Prop := mrPrintsRow.holds Tryz.pinned (OpenSpec.ofChange mrPrintsSpec)

/-- ITS FALSE NEIGHBOUR: 'it returns false'. Refute it at one input. -/
def mrPrintsWrong : ChangeSpec := { name := "mrPrints", fn := fun _ => fun
  | [d] => { results := [.lit (.bool false)], args := [d] }
  | _ => none }
def MrPrintsWrongFalsely : Prop := mrPrintsRow.holds Tryz.pinned (OpenSpec.ofChange mrPrintsWrong)

/-- 'haruspexlaw18.CondPrints': WHATEVER THE INPUT: true; the input reads as it did. -/
def condPrintsSpec : ChangeSpec := { name := "condPrints", fn := fun _ => fun
  | [d1, d2] => { results := [.lit (.bool true)], args := [d1, d2] }
  | _ => none }
def condPrintsRow : OpenClaim := { program := "ytpmkfliolekedaagreat", sum := "fe3be8fdfadc35a10b163d1e552fc8c458696d815611f64c383b05016e79a160", func := "haruspex/haruspexlaw18.CondPrints", spec := "condPrints", inPlace := ["internal/abi.NoEscape"], unfollowed := true, recurses := true, loops := true, apart := false }
def CondPrintsSaid : Prop := condPrintsRow.holds Tryz.pinned (OpenSpec.ofChange condPrintsSpec)

/-- ITS FALSE NEIGHBOUR: 'it returns false'. Refute it at one input. -/
def condPrintsWrong : ChangeSpec := { name := "condPrints", fn := fun _ => fun
  | [d1, d2] => { results := [.lit (.bool false)], args := [d1, d2] }
  | _ => none }
def CondPrintsWrongFalsely : Prop := condPrintsRow.holds Tryz.pinned (OpenSpec.ofChange condPrintsWrong)

/- THE SECOND FORM. 'bulk': how many values and letters a reading holds, each counted each time it is reached (what is shared counts as often as it is met; a slice's spare places count too). A statement '..UptoSaid' is the law's where the arguments, and the package variables that the reading takes, are together of bulk at most 1048576: NARROWER than '..Said'. Prove '..Said' where nothing that the law and all that it calls make is longer than what came in: it says more and counts as full. Else prove '..UptoSaid'. A law counts once. -/
mutual
def uptoBulk {H : Type} : DataW H → Nat
  | .lit (.string bytes) => bytes.length + 1
  | .lit _ => 1
  | .nil => 1
  | .ptr d => uptoBulk d + 1
  | .slice elems spare => uptoBulkAll elems + uptoBulkAll spare + 1
  | .agg parts => uptoBulkAll parts + 1
  | .iface _ d => uptoBulk d + 1
  | .map entries => uptoBulkEntries entries + 1
  | .held _ => 1
def uptoBulkAll {H : Type} : List (DataW H) → Nat
  | [] => 0
  | d :: r => uptoBulk d + uptoBulkAll r
def uptoBulkEntries {H : Type} : List (Lit × DataW H) → Nat
  | [] => 0
  | x :: r => uptoBulkEntry x + uptoBulkEntries r
def uptoBulkEntry {H : Type} : Lit × DataW H → Nat
  | (.string bytes, d) => bytes.length + uptoBulk d + 1
  | (_, d) => uptoBulk d + 1
 end
def uptoSmall : (H : Type) → List (DataW H) → Bool := fun _ ds => decide (uptoBulkAll ds ≤ 1048576)
def OpenSpec.upto (s : _root_.Go.ChangeSpec) : _root_.Go.OpenSpec := { _root_.Go.OpenSpec.ofChange s with cond := some uptoSmall }

/-- 'haruspexlaw20.EplPrints', WHERE WHAT IT READS IS OF BULK AT MOST 1048576: true; the input reads as it did. -/
def eplPrintsUptoRow : OpenClaim := { program := "ytpmkfliolekedaagreat", sum := "fe3be8fdfadc35a10b163d1e552fc8c458696d815611f64c383b05016e79a160", func := "haruspex/haruspexlaw20.EplPrints", spec := "eplPrints", inPlace := ["internal/abi.NoEscape"], unfollowed := true, recurses := true, loops := true, apart := false, narrowed := true }
def EplPrintsUptoSaid : Prop := eplPrintsUptoRow.holds Tryz.pinned (OpenSpec.upto eplPrintsSpec)

/-- 'haruspexlaw19.SasePrints', WHERE WHAT IT READS IS OF BULK AT MOST 1048576: true; the input reads as it did. -/
def sasePrintsUptoRow : OpenClaim := { program := "ytpmkfliolekedaagreat", sum := "fe3be8fdfadc35a10b163d1e552fc8c458696d815611f64c383b05016e79a160", func := "haruspex/haruspexlaw19.SasePrints", spec := "sasePrints", inPlace := ["internal/abi.NoEscape"], unfollowed := true, recurses := true, loops := true, apart := false, narrowed := true }
def SasePrintsUptoSaid : Prop := sasePrintsUptoRow.holds Tryz.pinned (OpenSpec.upto sasePrintsSpec)

/-- 'haruspexlaw21.MrPrints', WHERE WHAT IT READS IS OF BULK AT MOST 1048576: true; the input reads as it did. -/
def mrPrintsUptoRow : OpenClaim := { program := "ytpmkfliolekedaagreat", sum := "fe3be8fdfadc35a10b163d1e552fc8c458696d815611f64c383b05016e79a160", func := "haruspex/haruspexlaw21.MrPrints", spec := "mrPrints", inPlace := ["internal/abi.NoEscape"], unfollowed := true, recurses := true, loops := true, apart := false, narrowed := true }
def MrPrintsUptoSaid : Prop := mrPrintsUptoRow.holds Tryz.pinned (OpenSpec.upto mrPrintsSpec)

/-- 'haruspexlaw18.CondPrints', WHERE WHAT IT READS IS OF BULK AT MOST 1048576: true; the input reads as it did. -/
def condPrintsUptoRow : OpenClaim := { program := "ytpmkfliolekedaagreat", sum := "fe3be8fdfadc35a10b163d1e552fc8c458696d815611f64c383b05016e79a160", func := "haruspex/haruspexlaw18.CondPrints", spec := "condPrints", inPlace := ["internal/abi.NoEscape"], unfollowed := true, recurses := true, loops := true, apart := false, narrowed := true }
def CondPrintsUptoSaid : Prop := condPrintsUptoRow.holds Tryz.pinned (OpenSpec.upto condPrintsSpec)

end Rows
end Go.Proofs.YtpmkfliolekedaaGreat
