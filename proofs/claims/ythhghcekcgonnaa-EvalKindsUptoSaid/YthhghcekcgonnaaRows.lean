/-
  NARROWER THAN 'FOR EVERY INPUT', by the rows' own cells (each row's printed sentence says how): TypingZero: loops · TypingKinds: loops · EvalSays: loops · EvalNot: loops · EvalRows: loops · EvalKinds: loops.
  DERIVED. THE GIVEN ROWS OF THIS SEAT. 7 by the template 'for every input the law returns true; each argument reads behind the call as it read before'; 0 by the template 'total and deterministic' (their statements: YthhghcekcgonnaaTotals.lean).
  GIVEN WITH THE SEED: the statements are not yours to turn. If you find one false, say at which input.
  Laid BY PROGRAM, IN A SANDBOX (cutbox-rows.mjs): the forced cells as the released guide's own fill.sh prints them over the translation 039b2dc7951dc143… (all of the seat's roots in one cut). By AI agents, Wed Nov 11 2026. No macro, syntax, notation, axiom, sorry.
-/
import Derived.Test.YthhghcekcgonnaaChecked
import GoSem.Claim
import GoSem.ClaimJoined
import GoSem.ClaimMapViews
import Derived.JoinedTies
import Derived.KernelRfl
namespace Go.Proofs.Ythhghcekcgonnaa
/- THE CELL 'sum', in the pinned program and in every row, IS THE sha256 OF THE DUMP (.gsa) THAT YthhghcekcgonnaaProg.lean LOADS. Nothing in Lean hashes anything: it is a label: what it is worth is what the hold of that sum in a sandbox is worth. -/
noncomputable def Try.pinned : Pinned := { name := "ythhghcekcgonnaa", sum := "039b2dc7951dc14381a4e82f1c07e24341c2466bd322dd1f784e0e1343098c39", checked := Try.checked }
namespace Rows
def none {H : Type} : Left H := { results := [], args := [] }

/-- 'haruspexlaw10.TypingZero': WHATEVER THE INPUT: true; the input reads as it did. -/
def typingZeroSpec : ChangeSpec := { name := "typingZero", fn := fun _ => fun
  | [d1, d2] => { results := [.lit (.bool true)], args := [d1, d2] }
  | _ => none }
def typingZeroRow : OpenClaim := { program := "ythhghcekcgonnaa", sum := "039b2dc7951dc14381a4e82f1c07e24341c2466bd322dd1f784e0e1343098c39", func := "haruspex/haruspexlaw10.TypingZero", spec := "typingZero", inPlace := ["internal/reflectlite.TypeOf"], unfollowed := true, recurses := true, loops := true, apart := false }
def TypingZeroSaid : Prop := typingZeroRow.holds Try.pinned (OpenSpec.ofChange typingZeroSpec)

/-- ITS FALSE NEIGHBOUR: 'it returns false'. Refute it at one input. -/
def typingZeroWrong : ChangeSpec := { name := "typingZero", fn := fun _ => fun
  | [d1, d2] => { results := [.lit (.bool false)], args := [d1, d2] }
  | _ => none }
def TypingZeroWrongFalsely : Prop := typingZeroRow.holds Try.pinned (OpenSpec.ofChange typingZeroWrong)

/-- 'haruspexlaw10.TypingKinds': WHATEVER THE INPUT: true; the input reads as it did. -/
def typingKindsSpec : ChangeSpec := { name := "typingKinds", fn := fun _ => fun
  | [d1, d2, d3, d4, d5] => { results := [.lit (.bool true)], args := [d1, d2, d3, d4, d5] }
  | _ => none }
def typingKindsRow : OpenClaim := { program := "ythhghcekcgonnaa", sum := "039b2dc7951dc14381a4e82f1c07e24341c2466bd322dd1f784e0e1343098c39", func := "haruspex/haruspexlaw10.TypingKinds", spec := "typingKinds", inPlace := ["internal/reflectlite.TypeOf"], unfollowed := true, recurses := true, loops := true, apart := false }
def TypingKindsSaid : Prop := typingKindsRow.holds Try.pinned (OpenSpec.ofChange typingKindsSpec)

/-- ITS FALSE NEIGHBOUR: 'it returns false'. Refute it at one input. -/
def typingKindsWrong : ChangeSpec := { name := "typingKinds", fn := fun _ => fun
  | [d1, d2, d3, d4, d5] => { results := [.lit (.bool false)], args := [d1, d2, d3, d4, d5] }
  | _ => none }
def TypingKindsWrongFalsely : Prop := typingKindsRow.holds Try.pinned (OpenSpec.ofChange typingKindsWrong)

/-- 'haruspexlaw11.EvalSays': WHATEVER THE INPUT: true; the input reads as it did. -/
def evalSaysSpec : ChangeSpec := { name := "evalSays", fn := fun _ => fun
  | [d1, d2, d3, d4, d5, d6] => { results := [.lit (.bool true)], args := [d1, d2, d3, d4, d5, d6] }
  | _ => none }
def evalSaysRow : OpenClaim := { program := "ythhghcekcgonnaa", sum := "039b2dc7951dc14381a4e82f1c07e24341c2466bd322dd1f784e0e1343098c39", func := "haruspex/haruspexlaw11.EvalSays", spec := "evalSays", unfollowed := true, recurses := true, loops := true, apart := false }
def EvalSaysSaid : Prop := evalSaysRow.holds Try.pinned (OpenSpec.ofChange evalSaysSpec)

/-- ITS FALSE NEIGHBOUR: 'it returns false'. Refute it at one input. -/
def evalSaysWrong : ChangeSpec := { name := "evalSays", fn := fun _ => fun
  | [d1, d2, d3, d4, d5, d6] => { results := [.lit (.bool false)], args := [d1, d2, d3, d4, d5, d6] }
  | _ => none }
def EvalSaysWrongFalsely : Prop := evalSaysRow.holds Try.pinned (OpenSpec.ofChange evalSaysWrong)

/-- 'haruspexlaw11.EvalNot': WHATEVER THE INPUT: true; the input reads as it did. -/
def evalNotSpec : ChangeSpec := { name := "evalNot", fn := fun _ => fun
  | [d1, d2, d3, d4] => { results := [.lit (.bool true)], args := [d1, d2, d3, d4] }
  | _ => none }
def evalNotRow : OpenClaim := { program := "ythhghcekcgonnaa", sum := "039b2dc7951dc14381a4e82f1c07e24341c2466bd322dd1f784e0e1343098c39", func := "haruspex/haruspexlaw11.EvalNot", spec := "evalNot", unfollowed := true, recurses := true, loops := true, apart := false }
def EvalNotSaid : Prop := evalNotRow.holds Try.pinned (OpenSpec.ofChange evalNotSpec)

/-- ITS FALSE NEIGHBOUR: 'it returns false'. Refute it at one input. -/
def evalNotWrong : ChangeSpec := { name := "evalNot", fn := fun _ => fun
  | [d1, d2, d3, d4] => { results := [.lit (.bool false)], args := [d1, d2, d3, d4] }
  | _ => none }
def EvalNotWrongFalsely : Prop := evalNotRow.holds Try.pinned (OpenSpec.ofChange evalNotWrong)

/-- 'haruspexlaw11.EvalRows': WHATEVER THE INPUT: true; the input reads as it did. -/
def evalRowsSpec : ChangeSpec := { name := "evalRows", fn := fun _ => fun
  | [d1, d2, d3, d4] => { results := [.lit (.bool true)], args := [d1, d2, d3, d4] }
  | _ => none }
def evalRowsRow : OpenClaim := { program := "ythhghcekcgonnaa", sum := "039b2dc7951dc14381a4e82f1c07e24341c2466bd322dd1f784e0e1343098c39", func := "haruspex/haruspexlaw11.EvalRows", spec := "evalRows", unfollowed := true, recurses := true, loops := true, apart := false }
def EvalRowsSaid : Prop := evalRowsRow.holds Try.pinned (OpenSpec.ofChange evalRowsSpec)

/-- ITS FALSE NEIGHBOUR: 'it returns false'. Refute it at one input. -/
def evalRowsWrong : ChangeSpec := { name := "evalRows", fn := fun _ => fun
  | [d1, d2, d3, d4] => { results := [.lit (.bool false)], args := [d1, d2, d3, d4] }
  | _ => none }
def EvalRowsWrongFalsely : Prop := evalRowsRow.holds Try.pinned (OpenSpec.ofChange evalRowsWrong)

/-- 'haruspexlaw11.EvalOver': WHATEVER THE INPUT: true; the input reads as it did. -/
def evalOverSpec : ChangeSpec := { name := "evalOver", fn := fun _ => fun
  | [d1, d2, d3, d4, d5] => { results := [.lit (.bool true)], args := [d1, d2, d3, d4, d5] }
  | _ => none }
def evalOverRow : OpenClaim := { program := "ythhghcekcgonnaa", sum := "039b2dc7951dc14381a4e82f1c07e24341c2466bd322dd1f784e0e1343098c39", func := "haruspex/haruspexlaw11.EvalOver", spec := "evalOver", unfollowed := true, recurses := true, apart := false }
def EvalOverSaid : Prop := evalOverRow.holds Try.pinned (OpenSpec.ofChange evalOverSpec)

/-- ITS FALSE NEIGHBOUR: 'it returns false'. Refute it at one input. -/
def evalOverWrong : ChangeSpec := { name := "evalOver", fn := fun _ => fun
  | [d1, d2, d3, d4, d5] => { results := [.lit (.bool false)], args := [d1, d2, d3, d4, d5] }
  | _ => none }
def EvalOverWrongFalsely : Prop := evalOverRow.holds Try.pinned (OpenSpec.ofChange evalOverWrong)

/-- 'haruspexlaw11.EvalKinds': WHATEVER THE INPUT: true; the input reads as it did. -/
def evalKindsSpec : ChangeSpec := { name := "evalKinds", fn := fun _ => fun
  | [d1, d2, d3] => { results := [.lit (.bool true)], args := [d1, d2, d3] }
  | _ => none }
def evalKindsRow : OpenClaim := { program := "ythhghcekcgonnaa", sum := "039b2dc7951dc14381a4e82f1c07e24341c2466bd322dd1f784e0e1343098c39", func := "haruspex/haruspexlaw11.EvalKinds", spec := "evalKinds", inPlace := ["internal/reflectlite.TypeOf"], unfollowed := true, recurses := true, loops := true, apart := false }
def EvalKindsSaid : Prop := evalKindsRow.holds Try.pinned (OpenSpec.ofChange evalKindsSpec)

/-- ITS FALSE NEIGHBOUR: 'it returns false'. Refute it at one input. -/
def evalKindsWrong : ChangeSpec := { name := "evalKinds", fn := fun _ => fun
  | [d1, d2, d3] => { results := [.lit (.bool false)], args := [d1, d2, d3] }
  | _ => none }
def EvalKindsWrongFalsely : Prop := evalKindsRow.holds Try.pinned (OpenSpec.ofChange evalKindsWrong)

/- THE SECOND FORM. 'bulk': how many values and letters a reading holds, each counted each time it is reached (what is shared counts as often as it is met; a slice's spare places count too). A statement '..UptoSaid' is the law's where the arguments, and the package variables that the reading takes, are together of bulk at most 1048576: NARROWER than '..Said'. Prove '..Said' where nothing that the law and all that it calls make is longer than what came in: it says more and counts as full. Else prove '..UptoSaid'. A law counts once. -/
mutual
def uptoBulk {H : Type} : DataW H → Nat
  | .lit (.string bytes) => bytes.length + 1
  | .lit _ => 1
  | .nil => 1
  | .ptr d => uptoBulk d + 1
  | .slice elems spare => uptoBulkAll elems + uptoBulkAll spare + 1
  | .agg parts => uptoBulkAll parts + 1
  | .iface _ d => uptoBulk d + 1
  | .map entries => uptoBulkEntries entries + 1
  | .held _ => 1
def uptoBulkAll {H : Type} : List (DataW H) → Nat
  | [] => 0
  | d :: r => uptoBulk d + uptoBulkAll r
def uptoBulkEntries {H : Type} : List (Lit × DataW H) → Nat
  | [] => 0
  | x :: r => uptoBulkEntry x + uptoBulkEntries r
def uptoBulkEntry {H : Type} : Lit × DataW H → Nat
  | (.string bytes, d) => bytes.length + uptoBulk d + 1
  | (_, d) => uptoBulk d + 1
 end
def uptoSmall : (H : Type) → List (DataW H) → Bool := fun _ ds => decide (uptoBulkAll ds ≤ 1048576)
def OpenSpec.upto (s : _root_.Go.ChangeSpec) : _root_.Go.OpenSpec := { _root_.Go.OpenSpec.ofChange s with cond := some uptoSmall }

/-- 'haruspexlaw10.TypingZero', WHERE WHAT IT READS IS OF BULK AT MOST 1048576: true; the input reads as it did. -/
def typingZeroUptoRow : OpenClaim := { program := "ythhghcekcgonnaa", sum := "039b2dc7951dc14381a4e82f1c07e24341c2466bd322dd1f784e0e1343098c39", func := "haruspex/haruspexlaw10.TypingZero", spec := "typingZero", inPlace := ["internal/reflectlite.TypeOf"], unfollowed := true, recurses := true, loops := true, apart := false, narrowed := true }
def TypingZeroUptoSaid : Prop := typingZeroUptoRow.holds Try.pinned (OpenSpec.upto typingZeroSpec)

/-- 'haruspexlaw10.TypingKinds', WHERE WHAT IT READS IS OF BULK AT MOST 1048576: true; the input reads as it did. -/
def typingKindsUptoRow : OpenClaim := { program := "ythhghcekcgonnaa", sum := "039b2dc7951dc14381a4e82f1c07e24341c2466bd322dd1f784e0e1343098c39", func := "haruspex/haruspexlaw10.TypingKinds", spec := "typingKinds", inPlace := ["internal/reflectlite.TypeOf"], unfollowed := true, recurses := true, loops := true, apart := false, narrowed := true }
def TypingKindsUptoSaid : Prop := typingKindsUptoRow.holds Try.pinned (OpenSpec.upto typingKindsSpec)

/-- 'haruspexlaw11.EvalSays', WHERE WHAT IT READS IS OF BULK AT MOST 1048576: true; the input reads as it did. -/
def evalSaysUptoRow : OpenClaim := { program := "ythhghcekcgonnaa", sum := "039b2dc7951dc14381a4e82f1c07e24341c2466bd322dd1f784e0e1343098c39", func := "haruspex/haruspexlaw11.EvalSays", spec := "evalSays", unfollowed := true, recurses := true, loops := true, apart := false, narrowed := true }
def EvalSaysUptoSaid : Prop := evalSaysUptoRow.holds Try.pinned (OpenSpec.upto evalSaysSpec)

/-- 'haruspexlaw11.EvalNot', WHERE WHAT IT READS IS OF BULK AT MOST 1048576: true; the input reads as it did. -/
def evalNotUptoRow : OpenClaim := { program := "ythhghcekcgonnaa", sum := "039b2dc7951dc14381a4e82f1c07e24341c2466bd322dd1f784e0e1343098c39", func := "haruspex/haruspexlaw11.EvalNot", spec := "evalNot", unfollowed := true, recurses := true, loops := true, apart := false, narrowed := true }
def EvalNotUptoSaid : Prop := evalNotUptoRow.holds Try.pinned (OpenSpec.upto evalNotSpec)

/-- 'haruspexlaw11.EvalRows', WHERE WHAT IT READS IS OF BULK AT MOST 1048576: true; the input reads as it did. -/
def evalRowsUptoRow : OpenClaim := { program := "ythhghcekcgonnaa", sum := "039b2dc7951dc14381a4e82f1c07e24341c2466bd322dd1f784e0e1343098c39", func := "haruspex/haruspexlaw11.EvalRows", spec := "evalRows", unfollowed := true, recurses := true, loops := true, apart := false, narrowed := true }
def EvalRowsUptoSaid : Prop := evalRowsUptoRow.holds Try.pinned (OpenSpec.upto evalRowsSpec)

/-- 'haruspexlaw11.EvalOver', WHERE WHAT IT READS IS OF BULK AT MOST 1048576: true; the input reads as it did. -/
def evalOverUptoRow : OpenClaim := { program := "ythhghcekcgonnaa", sum := "039b2dc7951dc14381a4e82f1c07e24341c2466bd322dd1f784e0e1343098c39", func := "haruspex/haruspexlaw11.EvalOver", spec := "evalOver", unfollowed := true, recurses := true, apart := false, narrowed := true }
def EvalOverUptoSaid : Prop := evalOverUptoRow.holds Try.pinned (OpenSpec.upto evalOverSpec)

/-- 'haruspexlaw11.EvalKinds', WHERE WHAT IT READS IS OF BULK AT MOST 1048576: true; the input reads as it did. -/
def evalKindsUptoRow : OpenClaim := { program := "ythhghcekcgonnaa", sum := "039b2dc7951dc14381a4e82f1c07e24341c2466bd322dd1f784e0e1343098c39", func := "haruspex/haruspexlaw11.EvalKinds", spec := "evalKinds", inPlace := ["internal/reflectlite.TypeOf"], unfollowed := true, recurses := true, loops := true, apart := false, narrowed := true }
def EvalKindsUptoSaid : Prop := evalKindsUptoRow.holds Try.pinned (OpenSpec.upto evalKindsSpec)

end Rows
end Go.Proofs.Ythhghcekcgonnaa
