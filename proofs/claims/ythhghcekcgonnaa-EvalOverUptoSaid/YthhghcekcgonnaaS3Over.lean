/- EvalOver: whatever the numbers, the law answers true, where what comes in is of bulk at most 1048576. Own work (session 2). -/
import Derived.Test.YthhghcekcgonnaaS3Z
set_option maxRecDepth 20000
namespace Go.Proofs.Ythhghcekcgonnaa.evalOver
open Go.Hx Go.ChangeShapes Go.WideShapes Go.ChangeAt Go.RowKit
theorem law (av : List AV) (ha : ArgsT Try.prog Try.f8.params.toList av) (hs : szL av ≤ 1048576) : Ev Try.prog Hs (.fn 8) av H0 (fun r _ => r = B true) := by
  have e : ArgsT Try.prog Try.f8.params.toList av = ArgsT Pg [2, 2, 5, 5, 2] av := by kernel_rfl
  rw [e] at ha
  obtain ⟨n1, c1, r1, rfl, g1, n2, c2, r2, rfl, g2, n3, c3, r3, rfl, g3, n4, c4, r4, rfl, g4, n5, c5, r5, rfl, g5, rfl⟩ := ha
  obtain ⟨a, rfl, _⟩ := has_int 2 (.inr rfl) g1
  obtain ⟨b, rfl, _⟩ := has_int 2 (.inr rfl) g2
  obtain ⟨k, rfl, w3⟩ := has_u8 g3
  obtain ⟨o, rfl, w4⟩ := has_u8 g4
  obtain ⟨c, rfl, _⟩ := has_int 2 (.inr rfl) g5
  have p1 : ∀ v, packA Pg 2 [v] = v := fun v => by kernel_rfl
  have p3 : ∀ v, packA Pg 5 [v] = v := fun v => by kernel_rfl
  rw [p1, p1, p3, p3, p1]
  have b3 : 0 ≤ k ∧ k ≤ 255 := by simpa [Lit.wf, IntKind.min, IntKind.max, IntKind.signed, IntKind.bits] using w3
  have b4 : 0 ≤ o ∧ o ≤ 255 := by simpa [Lit.wf, IntKind.min, IntKind.max, IntKind.signed, IntKind.bits] using w4
  exact cEvalOver a b c k o b3.1 b4.1 H0 _ (fun _ => rfl)
theorem contract (H : Type) (enc : TypeId × Value → H) (W : World) (base : Nat) (args : Array Value) (ds gs : List (DataW H)) (before : List MemPlace)
    (hval : ∀ (j : Nat) t v, Try.f8.params[j]? = some t → args[j]? = some v → Value.okWide Try.prog W .any base t v)
    (hW : DataW.Whole enc Try.prog Try.f8.params.toList Rows.evalOverSpec.vars false W args.toList ds gs before) (hk : Rows.uptoSmall H (ds ++ gs) = true) :
    Calls Try.prog 8 args W fun e W' => ∃ v, e = .returned v ∧ Rows.evalOverSpec.post enc Try.prog Try.f8 false true false false W args v W' := by
  obtain ⟨p, q, hA, hV, _, _, _⟩ := id hW
  obtain ⟨rfl, rfl⟩ := trodVars_none (show DataW.TrodVars enc Try.prog W (fun _ => true) [] gs q from hV)
  have hb : Rows.uptoBulkAll ds ≤ 1048576 := by
    have : decide (Rows.uptoBulkAll (ds ++ []) ≤ 1048576) = true := hk
    simpa using this
  have hp : Try.f8.params.toList = [2, 2, 5, 5, 2] := by kernel_rfl
  have hfn : Rows.evalOverSpec.fn H ds = { results := [.lit (.bool true)], args := ds } := by
    have hA' := hA
    rw [hp] at hA'
    obtain ⟨_, _, d0, _, _, _, _, rfl, _, _, hA'⟩ := trodAll_cons hA'
    obtain ⟨_, _, d1, _, _, _, _, rfl, _, _, hA'⟩ := trodAll_cons hA'
    obtain ⟨_, _, d2, _, _, _, _, rfl, _, _, hA'⟩ := trodAll_cons hA'
    obtain ⟨_, _, d3, _, _, _, _, rfl, _, _, hA'⟩ := trodAll_cons hA'
    obtain ⟨_, _, d4, _, _, _, _, rfl, _, _, hA'⟩ := trodAll_cons hA'
    obtain ⟨_, rfl, _⟩ := trodAll_nil hA'
    rfl
  exact row_calls pkOf (hs := Hs) (f := 8) (fn := Try.f8) (s := Rows.evalOverSpec) bulkOf (l := [2, 3, 5, 9, 23, 24, 26, 29, 49]) kidsOf oneOf shutOf fullOf (by rw [hp]; decide) hval hW rfl hfn (tb := 4) (by kernel_rfl) u4
    (fun av ha hs => law av ha (Nat.le_trans hs hb))
theorem lifted (os : Os) (started : os.Started) (H : Type) (enc : TypeId × Value → H) (F : Stop.Interp) :
    ReturnsInHanded {} Try.checked os 8 .any ((Rows.OpenSpec.upto Rows.evalOverSpec).pre6 enc Try.prog Try.f8 Rows.evalOverUptoRow.domain false) (((Rows.OpenSpec.upto Rows.evalOverSpec).at F).post enc Try.prog Try.f8 false true false false) := by
  refine returnsInHanded_of_cond (C := Try.checked) (s := Rows.OpenSpec.upto Rows.evalOverSpec) (k := Rows.uptoSmall) rfl own started (by kernel_rfl) Try.func8
    (OpenSpec.witness (enc := enc) (C := Try.checked) (s := Rows.OpenSpec.upto Rows.evalOverSpec) (k := Rows.uptoSmall) rfl false
      ⟨#[], #[.int .i64 0, .int .i64 0, .int .u8 0, .int .u8 0, .int .i64 0], []⟩ 8 (by kernel_rfl) (by kernel_rfl) (by kernel_rfl)
      (x := ([.lit (.int .i64 0), .lit (.int .i64 0), .lit (.int .u8 0), .lit (.int .u8 0), .lit (.int .i64 0)], [], [])) (by kernel_rfl) rfl (by kernel_rfl)) ?_
  intro W base args ds gs before hval hW _ hk _
  exact contract H enc W base args ds gs before hval hW hk
theorem proved : Rows.EvalOverUptoSaid :=
  OpenClaim.holds_of_cond 8 Try.f8 rfl rfl rfl rfl rfl rfl rfl ⟨rfl, rfl, rfl, rfl, rfl⟩ rfl rfl rfl rfl rfl (by kernel_rfl) Try.func8 (by kernel_rfl)
    (of_decide_eq_true (by kernel_rfl)) (by unfold Func.isWrapper; first | (rw [if_pos (by decide +kernel)]; kernel_rfl) | (rw [if_neg (by decide +kernel)]; exact ⟨rfl, rfl⟩))
    (fun os started H enc _ F => lifted os started H enc F)
end Go.Proofs.Ythhghcekcgonnaa.evalOver
