/- EvalSays: whatever the condition, the table and the names, the law answers true, where what comes in is of bulk at most 1048576. Own work (session 2). -/
import Derived.Test.YthhghcekcgonnaaS3Y3
set_option maxRecDepth 20000
namespace Go.Proofs.Ythhghcekcgonnaa.evalSays
open Go.Hx Go.ChangeShapes Go.WideShapes Go.ChangeAt Go.RowKit
theorem law (av : List AV) (ha : ArgsT Try.prog Try.f5.params.toList av) (hs : szL av ≤ 1048576) : Ev Try.prog Hs (.fn 5) av H0 (fun r _ => r = B true) := by
  have e : ArgsT Try.prog Try.f5.params.toList av = ArgsT Pg [26, 29, 29, 49, 9, 9] av := by kernel_rfl
  rw [e] at ha
  obtain ⟨n1, c1, r1, rfl, g1, n2, c2, r2, rfl, g2, n3, c3, r3, rfl, g3, n4, c4, r4, rfl, g4, n5, c5, r5, rfl, g5, n6, c6, r6, rfl, g6, rfl⟩ := ha
  obtain ⟨x, rfl, hvx⟩ := has_X2 n1 g1
  obtain ⟨b2, t2, l2, rfl, h2⟩ := has_Ss g2
  obtain ⟨b3, t3, l3, rfl, h3⟩ := has_Ss g3
  obtain ⟨b4, t4, l4, rfl, h4, hv4⟩ := has_Vs2 g4
  obtain ⟨s5, rfl⟩ := has_S g5
  obtain ⟨s6, rfl⟩ := has_S g6
  have p1 : packA Pg 26 (encC x) = encX x := by kernel_rfl
  have p2 : ∀ v, packA Pg 29 [v] = v := fun v => by kernel_rfl
  have p4 : ∀ v, packA Pg 49 [v] = v := fun v => by kernel_rfl
  have p5 : ∀ v, packA Pg 9 [v] = v := fun v => by kernel_rfl
  rw [p1, p2, p2, p4, p5, p5] at hs ⊢
  simp only [szL, szA, encX] at hs
  have i2 := len_szS l2
  have i3 := len_szS l3
  have i4 := len_szV l4
  obtain ⟨j1, j2⟩ := sz_X x
  exact cEvalSays 1 1 3 b2 b3 b4 t2 t3 t4 l2 l3 l4 x (j2 (by omega)) hvx (by omega) hv4 h2 h3 h4 (.inr rfl) (.inr rfl) (.inr rfl) (by omega) (by omega) (by omega) s5 s6 H0 _ (fun _ => rfl)
theorem contract (H : Type) (enc : TypeId × Value → H) (W : World) (base : Nat) (args : Array Value) (ds gs : List (DataW H)) (before : List MemPlace)
    (hval : ∀ (j : Nat) t v, Try.f5.params[j]? = some t → args[j]? = some v → Value.okWide Try.prog W .any base t v)
    (hW : DataW.Whole enc Try.prog Try.f5.params.toList Rows.evalSaysSpec.vars false W args.toList ds gs before) (hk : Rows.uptoSmall H (ds ++ gs) = true) :
    Calls Try.prog 5 args W fun e W' => ∃ v, e = .returned v ∧ Rows.evalSaysSpec.post enc Try.prog Try.f5 false true false false W args v W' := by
  obtain ⟨p, q, hA, hV, _, _, _⟩ := id hW
  obtain ⟨rfl, rfl⟩ := trodVars_none (show DataW.TrodVars enc Try.prog W (fun _ => true) [] gs q from hV)
  have hb : Rows.uptoBulkAll ds ≤ 1048576 := by
    have : decide (Rows.uptoBulkAll (ds ++ []) ≤ 1048576) = true := hk
    simpa using this
  have hp : Try.f5.params.toList = [26, 29, 29, 49, 9, 9] := by kernel_rfl
  have hfn : Rows.evalSaysSpec.fn H ds = { results := [.lit (.bool true)], args := ds } := by
    have hA' := hA
    rw [hp] at hA'
    obtain ⟨_, _, d0, _, _, _, _, rfl, _, _, hA'⟩ := trodAll_cons hA'
    obtain ⟨_, _, d1, _, _, _, _, rfl, _, _, hA'⟩ := trodAll_cons hA'
    obtain ⟨_, _, d2, _, _, _, _, rfl, _, _, hA'⟩ := trodAll_cons hA'
    obtain ⟨_, _, d3, _, _, _, _, rfl, _, _, hA'⟩ := trodAll_cons hA'
    obtain ⟨_, _, d4, _, _, _, _, rfl, _, _, hA'⟩ := trodAll_cons hA'
    obtain ⟨_, _, d5, _, _, _, _, rfl, _, _, hA'⟩ := trodAll_cons hA'
    obtain ⟨_, rfl, _⟩ := trodAll_nil hA'
    rfl
  exact row_calls pkOf (hs := Hs) (f := 5) (fn := Try.f5) (s := Rows.evalSaysSpec) bulkOf (l := [2, 3, 5, 9, 23, 24, 26, 29, 49]) kidsOf oneOf shutOf fullOf (by rw [hp]; decide) hval hW rfl hfn (tb := 4) (by kernel_rfl) u4
    (fun av ha hs => law av ha (Nat.le_trans hs hb))
theorem lifted (os : Os) (started : os.Started) (H : Type) (enc : TypeId × Value → H) (F : Stop.Interp) :
    ReturnsInHanded {} Try.checked os 5 .any ((Rows.OpenSpec.upto Rows.evalSaysSpec).pre6 enc Try.prog Try.f5 Rows.evalSaysUptoRow.domain false) (((Rows.OpenSpec.upto Rows.evalSaysSpec).at F).post enc Try.prog Try.f5 false true false false) := by
  refine returnsInHanded_of_cond (C := Try.checked) (s := Rows.OpenSpec.upto Rows.evalSaysSpec) (k := Rows.uptoSmall) rfl own started (by kernel_rfl) Try.func5
    (OpenSpec.witness (enc := enc) (C := Try.checked) (s := Rows.OpenSpec.upto Rows.evalSaysSpec) (k := Rows.uptoSmall) rfl false
      ⟨#[], #[.agg #[.int .i64 0, .int .i64 0, .int .i64 0, .string .empty, .string .empty, .string .empty, .slice none 0 0], .slice none 0 0, .slice none 0 0, .slice none 0 0, .string .empty, .string .empty], []⟩ 8 (by kernel_rfl) (by kernel_rfl) (by kernel_rfl)
      (x := ([.agg [.lit (.int .i64 0), .agg [.lit (.int .i64 0), .lit (.int .i64 0), .lit (.string [])], .lit (.string []), .lit (.string []), .nil], .nil, .nil, .nil, .lit (.string []), .lit (.string [])], [], [])) (by kernel_rfl) rfl (by kernel_rfl)) ?_
  intro W base args ds gs before hval hW _ hk _
  exact contract H enc W base args ds gs before hval hW hk
theorem proved : Rows.EvalSaysUptoSaid :=
  OpenClaim.holds_of_cond 5 Try.f5 rfl rfl rfl rfl rfl rfl rfl ⟨rfl, rfl, rfl, rfl, rfl⟩ rfl rfl rfl rfl rfl (by kernel_rfl) Try.func5 (by kernel_rfl)
    (of_decide_eq_true (by kernel_rfl)) (by unfold Func.isWrapper; first | (rw [if_pos (by decide +kernel)]; kernel_rfl) | (rw [if_neg (by decide +kernel)]; exact ⟨rfl, rfl⟩))
    (fun os started H enc _ F => lifted os started H enc F)
end Go.Proofs.Ythhghcekcgonnaa.evalSays
