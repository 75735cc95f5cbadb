/-
  NARROWER THAN 'FOR EVERY INPUT', by the rows' own cells (each row's printed sentence says how): CondPrints: loops · CondBack: loops · EplBack: loops · SaseBack: loops.
  DERIVED. THE GIVEN ROWS OF THIS SEAT. 10 by the template 'for every input the law returns true; each argument reads behind the call as it read before'; 0 by the template 'total and deterministic' (their statements: YtancdapnpceogaaGreatTotals.lean).
  GIVEN WITH THE SEED: the statements are not yours to turn. If you find one false, say at which input.
  Laid BY PROGRAM, IN A SANDBOX (cutbox-rows.mjs): the forced cells as the released guide's own fill.sh prints them over the translation 91a9366a4fca8c39… (all of the seat's roots in one cut). By AI agents, Wed Nov 11 2026. No macro, syntax, notation, axiom, sorry.
-/
import Derived.Test.YtancdapnpceogaaGreatChecked
import GoSem.Claim
import GoSem.ClaimJoined
import GoSem.ClaimMapViews
import Derived.JoinedTies
import Derived.KernelRfl
namespace Go.Proofs.YtancdapnpceogaaGreat
/- THE CELL 'sum', in the pinned program and in every row, IS THE sha256 OF THE DUMP (.gsa) THAT YtancdapnpceogaaGreatProg.lean LOADS. Nothing in Lean hashes anything: it is a label: what it is worth is what the hold of that sum in a sandbox is worth. -/
noncomputable def Tryz.pinned : Pinned := { name := "ytancdapnpceogaagreat", sum := "91a9366a4fca8c39236838c9dcfcd064ca9e46cd3d92877200d13738b4cb058b", checked := Tryz.checked }
namespace Rows
def none {H : Type} : Left H := { results := [], args := [] }

/-- 'haruspexlaw18.CondTexts': WHATEVER THE INPUT: true; the input reads as it did. -/
def condTextsSpec : ChangeSpec := { name := "condTexts", fn := fun _ => fun
  | [d] => { results := [.lit (.bool true)], args := [d] }
  | _ => none }
def condTextsRow : OpenClaim := { program := "ytancdapnpceogaagreat", sum := "91a9366a4fca8c39236838c9dcfcd064ca9e46cd3d92877200d13738b4cb058b", func := "haruspex/haruspexlaw18.CondTexts", spec := "condTexts", unfollowed := true, recurses := true, apart := false }
def CondTextsSaid : Prop := condTextsRow.holds Tryz.pinned (OpenSpec.ofChange condTextsSpec)

/-- ITS FALSE NEIGHBOUR: 'it returns false'. Refute it at one input. -/
def condTextsWrong : ChangeSpec := { name := "condTexts", fn := fun _ => fun
  | [d] => { results := [.lit (.bool false)], args := [d] }
  | _ => none }
def CondTextsWrongFalsely : Prop := condTextsRow.holds Tryz.pinned (OpenSpec.ofChange condTextsWrong)

/-- 'haruspexlaw18.CondPrints': WHATEVER THE INPUT: true; the input reads as it did. -/
def condPrintsSpec : ChangeSpec := { name := "condPrints", fn := fun _ => fun
  | [d1, d2] => { results := [.lit (.bool true)], args := [d1, d2] }
  | _ => none }
def condPrintsRow : OpenClaim := { program := "ytancdapnpceogaagreat", sum := "91a9366a4fca8c39236838c9dcfcd064ca9e46cd3d92877200d13738b4cb058b", func := "haruspex/haruspexlaw18.CondPrints", spec := "condPrints", inPlace := ["internal/abi.NoEscape"], unfollowed := true, recurses := true, loops := true, apart := false }
def CondPrintsSaid : Prop := condPrintsRow.holds Tryz.pinned (OpenSpec.ofChange condPrintsSpec)

/-- ITS FALSE NEIGHBOUR: 'it returns false'. Refute it at one input. -/
def condPrintsWrong : ChangeSpec := { name := "condPrints", fn := fun _ => fun
  | [d1, d2] => { results := [.lit (.bool false)], args := [d1, d2] }
  | _ => none }
def CondPrintsWrongFalsely : Prop := condPrintsRow.holds Tryz.pinned (OpenSpec.ofChange condPrintsWrong)

/-- 'haruspexlaw18.CondBack': WHATEVER THE INPUT: true; the input reads as it did. -/
def condBackSpec : ChangeSpec := { name := "condBack", fn := fun _ => fun
  | [d] => { results := [.lit (.bool true)], args := [d] }
  | _ => none }
def condBackRow : OpenClaim := { program := "ytancdapnpceogaagreat", sum := "91a9366a4fca8c39236838c9dcfcd064ca9e46cd3d92877200d13738b4cb058b", func := "haruspex/haruspexlaw18.CondBack", spec := "condBack", inPlace := ["internal/abi.NoEscape"], unfollowed := true, recurses := true, loops := true, apart := false }
def CondBackSaid : Prop := condBackRow.holds Tryz.pinned (OpenSpec.ofChange condBackSpec)

/-- ITS FALSE NEIGHBOUR: 'it returns false'. Refute it at one input. -/
def condBackWrong : ChangeSpec := { name := "condBack", fn := fun _ => fun
  | [d] => { results := [.lit (.bool false)], args := [d] }
  | _ => none }
def CondBackWrongFalsely : Prop := condBackRow.holds Tryz.pinned (OpenSpec.ofChange condBackWrong)

/-- 'haruspexlaw18.CondAgain': WHATEVER THE INPUT: true; the input reads as it did. -/
def condAgainSpec : ChangeSpec := { name := "condAgain", fn := fun _ => fun
  | [d] => { results := [.lit (.bool true)], args := [d] }
  | _ => none }
def condAgainRow : OpenClaim := { program := "ytancdapnpceogaagreat", sum := "91a9366a4fca8c39236838c9dcfcd064ca9e46cd3d92877200d13738b4cb058b", func := "haruspex/haruspexlaw18.CondAgain", spec := "condAgain", inPlace := ["internal/abi.NoEscape"], unfollowed := true, recurses := true, apart := false }
def CondAgainSaid : Prop := condAgainRow.holds Tryz.pinned (OpenSpec.ofChange condAgainSpec)

/-- ITS FALSE NEIGHBOUR: 'it returns false'. Refute it at one input. -/
def condAgainWrong : ChangeSpec := { name := "condAgain", fn := fun _ => fun
  | [d] => { results := [.lit (.bool false)], args := [d] }
  | _ => none }
def CondAgainWrongFalsely : Prop := condAgainRow.holds Tryz.pinned (OpenSpec.ofChange condAgainWrong)

/-- 'haruspexlaw20.EplParses': WHATEVER THE INPUT: true; the input reads as it did. -/
def eplParsesSpec : ChangeSpec := { name := "eplParses", fn := fun _ => fun
  | [d] => { results := [.lit (.bool true)], args := [d] }
  | _ => none }
def eplParsesRow : OpenClaim := { program := "ytancdapnpceogaagreat", sum := "91a9366a4fca8c39236838c9dcfcd064ca9e46cd3d92877200d13738b4cb058b", func := "haruspex/haruspexlaw20.EplParses", spec := "eplParses", inPlace := ["internal/abi.NoEscape"], unfollowed := true, recurses := true, apart := false }
def EplParsesSaid : Prop := eplParsesRow.holds Tryz.pinned (OpenSpec.ofChange eplParsesSpec)

/-- ITS FALSE NEIGHBOUR: 'it returns false'. Refute it at one input. -/
def eplParsesWrong : ChangeSpec := { name := "eplParses", fn := fun _ => fun
  | [d] => { results := [.lit (.bool false)], args := [d] }
  | _ => none }
def EplParsesWrongFalsely : Prop := eplParsesRow.holds Tryz.pinned (OpenSpec.ofChange eplParsesWrong)

/-- 'haruspexlaw19.SaseParses': WHATEVER THE INPUT: true; the input reads as it did. -/
def saseParsesSpec : ChangeSpec := { name := "saseParses", fn := fun _ => fun
  | [d] => { results := [.lit (.bool true)], args := [d] }
  | _ => none }
def saseParsesRow : OpenClaim := { program := "ytancdapnpceogaagreat", sum := "91a9366a4fca8c39236838c9dcfcd064ca9e46cd3d92877200d13738b4cb058b", func := "haruspex/haruspexlaw19.SaseParses", spec := "saseParses", inPlace := ["internal/abi.NoEscape"], unfollowed := true, recurses := true, apart := false }
def SaseParsesSaid : Prop := saseParsesRow.holds Tryz.pinned (OpenSpec.ofChange saseParsesSpec)

/-- ITS FALSE NEIGHBOUR: 'it returns false'. Refute it at one input. -/
def saseParsesWrong : ChangeSpec := { name := "saseParses", fn := fun _ => fun
  | [d] => { results := [.lit (.bool false)], args := [d] }
  | _ => none }
def SaseParsesWrongFalsely : Prop := saseParsesRow.holds Tryz.pinned (OpenSpec.ofChange saseParsesWrong)

/-- 'haruspexlaw20.EplBack': WHATEVER THE INPUT: true; the input reads as it did. -/
def eplBackSpec : ChangeSpec := { name := "eplBack", fn := fun _ => fun
  | [d] => { results := [.lit (.bool true)], args := [d] }
  | _ => none }
def eplBackRow : OpenClaim := { program := "ytancdapnpceogaagreat", sum := "91a9366a4fca8c39236838c9dcfcd064ca9e46cd3d92877200d13738b4cb058b", func := "haruspex/haruspexlaw20.EplBack", spec := "eplBack", inPlace := ["internal/abi.NoEscape"], unfollowed := true, recurses := true, loops := true, apart := false }
def EplBackSaid : Prop := eplBackRow.holds Tryz.pinned (OpenSpec.ofChange eplBackSpec)

/-- ITS FALSE NEIGHBOUR: 'it returns false'. Refute it at one input. -/
def eplBackWrong : ChangeSpec := { name := "eplBack", fn := fun _ => fun
  | [d] => { results := [.lit (.bool false)], args := [d] }
  | _ => none }
def EplBackWrongFalsely : Prop := eplBackRow.holds Tryz.pinned (OpenSpec.ofChange eplBackWrong)

/-- 'haruspexlaw20.EplAgain': WHATEVER THE INPUT: true; the input reads as it did. -/
def eplAgainSpec : ChangeSpec := { name := "eplAgain", fn := fun _ => fun
  | [d] => { results := [.lit (.bool true)], args := [d] }
  | _ => none }
def eplAgainRow : OpenClaim := { program := "ytancdapnpceogaagreat", sum := "91a9366a4fca8c39236838c9dcfcd064ca9e46cd3d92877200d13738b4cb058b", func := "haruspex/haruspexlaw20.EplAgain", spec := "eplAgain", inPlace := ["internal/abi.NoEscape"], unfollowed := true, recurses := true, apart := false }
def EplAgainSaid : Prop := eplAgainRow.holds Tryz.pinned (OpenSpec.ofChange eplAgainSpec)

/-- ITS FALSE NEIGHBOUR: 'it returns false'. Refute it at one input. -/
def eplAgainWrong : ChangeSpec := { name := "eplAgain", fn := fun _ => fun
  | [d] => { results := [.lit (.bool false)], args := [d] }
  | _ => none }
def EplAgainWrongFalsely : Prop := eplAgainRow.holds Tryz.pinned (OpenSpec.ofChange eplAgainWrong)

/-- 'haruspexlaw19.SaseBack': WHATEVER THE INPUT: true; the input reads as it did. -/
def saseBackSpec : ChangeSpec := { name := "saseBack", fn := fun _ => fun
  | [d] => { results := [.lit (.bool true)], args := [d] }
  | _ => none }
def saseBackRow : OpenClaim := { program := "ytancdapnpceogaagreat", sum := "91a9366a4fca8c39236838c9dcfcd064ca9e46cd3d92877200d13738b4cb058b", func := "haruspex/haruspexlaw19.SaseBack", spec := "saseBack", inPlace := ["internal/abi.NoEscape"], unfollowed := true, recurses := true, loops := true, apart := false }
def SaseBackSaid : Prop := saseBackRow.holds Tryz.pinned (OpenSpec.ofChange saseBackSpec)

/-- ITS FALSE NEIGHBOUR: 'it returns false'. Refute it at one input. -/
def saseBackWrong : ChangeSpec := { name := "saseBack", fn := fun _ => fun
  | [d] => { results := [.lit (.bool false)], args := [d] }
  | _ => none }
def SaseBackWrongFalsely : Prop := saseBackRow.holds Tryz.pinned (OpenSpec.ofChange saseBackWrong)

/-- 'haruspexlaw19.SaseAgain': WHATEVER THE INPUT: true; the input reads as it did. -/
def saseAgainSpec : ChangeSpec := { name := "saseAgain", fn := fun _ => fun
  | [d] => { results := [.lit (.bool true)], args := [d] }
  | _ => none }
def saseAgainRow : OpenClaim := { program := "ytancdapnpceogaagreat", sum := "91a9366a4fca8c39236838c9dcfcd064ca9e46cd3d92877200d13738b4cb058b", func := "haruspex/haruspexlaw19.SaseAgain", spec := "saseAgain", inPlace := ["internal/abi.NoEscape"], unfollowed := true, recurses := true, apart := false }
def SaseAgainSaid : Prop := saseAgainRow.holds Tryz.pinned (OpenSpec.ofChange saseAgainSpec)

/-- ITS FALSE NEIGHBOUR: 'it returns false'. Refute it at one input. -/
def saseAgainWrong : ChangeSpec := { name := "saseAgain", fn := fun _ => fun
  | [d] => { results := [.lit (.bool false)], args := [d] }
  | _ => none }
def SaseAgainWrongFalsely : Prop := saseAgainRow.holds Tryz.pinned (OpenSpec.ofChange saseAgainWrong)

/- THE SECOND FORM. 'bulk': how many values and letters a reading holds, each counted each time it is reached (what is shared counts as often as it is met; a slice's spare places count too). A statement '..UptoSaid' is the law's where the arguments, and the package variables that the reading takes, are together of bulk at most 1048576: NARROWER than '..Said'. Prove '..Said' where nothing that the law and all that it calls make is longer than what came in: it says more and counts as full. Else prove '..UptoSaid'. A law counts once. -/
mutual
def uptoBulk {H : Type} : DataW H → Nat
  | .lit (.string bytes) => bytes.length + 1
  | .lit _ => 1
  | .nil => 1
  | .ptr d => uptoBulk d + 1
  | .slice elems spare => uptoBulkAll elems + uptoBulkAll spare + 1
  | .agg parts => uptoBulkAll parts + 1
  | .iface _ d => uptoBulk d + 1
  | .map entries => uptoBulkEntries entries + 1
  | .held _ => 1
def uptoBulkAll {H : Type} : List (DataW H) → Nat
  | [] => 0
  | d :: r => uptoBulk d + uptoBulkAll r
def uptoBulkEntries {H : Type} : List (Lit × DataW H) → Nat
  | [] => 0
  | x :: r => uptoBulkEntry x + uptoBulkEntries r
def uptoBulkEntry {H : Type} : Lit × DataW H → Nat
  | (.string bytes, d) => bytes.length + uptoBulk d + 1
  | (_, d) => uptoBulk d + 1
 end
def uptoSmall : (H : Type) → List (DataW H) → Bool := fun _ ds => decide (uptoBulkAll ds ≤ 1048576)
def OpenSpec.upto (s : _root_.Go.ChangeSpec) : _root_.Go.OpenSpec := { _root_.Go.OpenSpec.ofChange s with cond := some uptoSmall }

/-- 'haruspexlaw18.CondTexts', WHERE WHAT IT READS IS OF BULK AT MOST 1048576: true; the input reads as it did. -/
def condTextsUptoRow : OpenClaim := { program := "ytancdapnpceogaagreat", sum := "91a9366a4fca8c39236838c9dcfcd064ca9e46cd3d92877200d13738b4cb058b", func := "haruspex/haruspexlaw18.CondTexts", spec := "condTexts", unfollowed := true, recurses := true, apart := false, narrowed := true }
def CondTextsUptoSaid : Prop := condTextsUptoRow.holds Tryz.pinned (OpenSpec.upto condTextsSpec)

/-- 'haruspexlaw18.CondPrints', WHERE WHAT IT READS IS OF BULK AT MOST 1048576: true; the input reads as it did. -/
def condPrintsUptoRow : OpenClaim := { program := "ytancdapnpceogaagreat", sum := "91a9366a4fca8c39236838c9dcfcd064ca9e46cd3d92877200d13738b4cb058b", func := "haruspex/haruspexlaw18.CondPrints", spec := "condPrints", inPlace := ["internal/abi.NoEscape"], unfollowed := true, recurses := true, loops := true, apart := false, narrowed := true }
def CondPrintsUptoSaid : Prop := condPrintsUptoRow.holds Tryz.pinned (OpenSpec.upto condPrintsSpec)

/-- 'haruspexlaw18.CondBack', WHERE WHAT IT READS IS OF BULK AT MOST 1048576: true; the input reads as it did. -/
def condBackUptoRow : OpenClaim := { program := "ytancdapnpceogaagreat", sum := "91a9366a4fca8c39236838c9dcfcd064ca9e46cd3d92877200d13738b4cb058b", func := "haruspex/haruspexlaw18.CondBack", spec := "condBack", inPlace := ["internal/abi.NoEscape"], unfollowed := true, recurses := true, loops := true, apart := false, narrowed := true }
def CondBackUptoSaid : Prop := condBackUptoRow.holds Tryz.pinned (OpenSpec.upto condBackSpec)

/-- 'haruspexlaw18.CondAgain', WHERE WHAT IT READS IS OF BULK AT MOST 1048576: true; the input reads as it did. -/
def condAgainUptoRow : OpenClaim := { program := "ytancdapnpceogaagreat", sum := "91a9366a4fca8c39236838c9dcfcd064ca9e46cd3d92877200d13738b4cb058b", func := "haruspex/haruspexlaw18.CondAgain", spec := "condAgain", inPlace := ["internal/abi.NoEscape"], unfollowed := true, recurses := true, apart := false, narrowed := true }
def CondAgainUptoSaid : Prop := condAgainUptoRow.holds Tryz.pinned (OpenSpec.upto condAgainSpec)

/-- 'haruspexlaw20.EplParses', WHERE WHAT IT READS IS OF BULK AT MOST 1048576: true; the input reads as it did. -/
def eplParsesUptoRow : OpenClaim := { program := "ytancdapnpceogaagreat", sum := "91a9366a4fca8c39236838c9dcfcd064ca9e46cd3d92877200d13738b4cb058b", func := "haruspex/haruspexlaw20.EplParses", spec := "eplParses", inPlace := ["internal/abi.NoEscape"], unfollowed := true, recurses := true, apart := false, narrowed := true }
def EplParsesUptoSaid : Prop := eplParsesUptoRow.holds Tryz.pinned (OpenSpec.upto eplParsesSpec)

/-- 'haruspexlaw19.SaseParses', WHERE WHAT IT READS IS OF BULK AT MOST 1048576: true; the input reads as it did. -/
def saseParsesUptoRow : OpenClaim := { program := "ytancdapnpceogaagreat", sum := "91a9366a4fca8c39236838c9dcfcd064ca9e46cd3d92877200d13738b4cb058b", func := "haruspex/haruspexlaw19.SaseParses", spec := "saseParses", inPlace := ["internal/abi.NoEscape"], unfollowed := true, recurses := true, apart := false, narrowed := true }
def SaseParsesUptoSaid : Prop := saseParsesUptoRow.holds Tryz.pinned (OpenSpec.upto saseParsesSpec)

/-- 'haruspexlaw20.EplBack', WHERE WHAT IT READS IS OF BULK AT MOST 1048576: true; the input reads as it did. -/
def eplBackUptoRow : OpenClaim := { program := "ytancdapnpceogaagreat", sum := "91a9366a4fca8c39236838c9dcfcd064ca9e46cd3d92877200d13738b4cb058b", func := "haruspex/haruspexlaw20.EplBack", spec := "eplBack", inPlace := ["internal/abi.NoEscape"], unfollowed := true, recurses := true, loops := true, apart := false, narrowed := true }
def EplBackUptoSaid : Prop := eplBackUptoRow.holds Tryz.pinned (OpenSpec.upto eplBackSpec)

/-- 'haruspexlaw20.EplAgain', WHERE WHAT IT READS IS OF BULK AT MOST 1048576: true; the input reads as it did. -/
def eplAgainUptoRow : OpenClaim := { program := "ytancdapnpceogaagreat", sum := "91a9366a4fca8c39236838c9dcfcd064ca9e46cd3d92877200d13738b4cb058b", func := "haruspex/haruspexlaw20.EplAgain", spec := "eplAgain", inPlace := ["internal/abi.NoEscape"], unfollowed := true, recurses := true, apart := false, narrowed := true }
def EplAgainUptoSaid : Prop := eplAgainUptoRow.holds Tryz.pinned (OpenSpec.upto eplAgainSpec)

/-- 'haruspexlaw19.SaseBack', WHERE WHAT IT READS IS OF BULK AT MOST 1048576: true; the input reads as it did. -/
def saseBackUptoRow : OpenClaim := { program := "ytancdapnpceogaagreat", sum := "91a9366a4fca8c39236838c9dcfcd064ca9e46cd3d92877200d13738b4cb058b", func := "haruspex/haruspexlaw19.SaseBack", spec := "saseBack", inPlace := ["internal/abi.NoEscape"], unfollowed := true, recurses := true, loops := true, apart := false, narrowed := true }
def SaseBackUptoSaid : Prop := saseBackUptoRow.holds Tryz.pinned (OpenSpec.upto saseBackSpec)

/-- 'haruspexlaw19.SaseAgain', WHERE WHAT IT READS IS OF BULK AT MOST 1048576: true; the input reads as it did. -/
def saseAgainUptoRow : OpenClaim := { program := "ytancdapnpceogaagreat", sum := "91a9366a4fca8c39236838c9dcfcd064ca9e46cd3d92877200d13738b4cb058b", func := "haruspex/haruspexlaw19.SaseAgain", spec := "saseAgain", inPlace := ["internal/abi.NoEscape"], unfollowed := true, recurses := true, apart := false, narrowed := true }
def SaseAgainUptoSaid : Prop := saseAgainUptoRow.holds Tryz.pinned (OpenSpec.upto saseAgainSpec)

end Rows
end Go.Proofs.YtancdapnpceogaaGreat
