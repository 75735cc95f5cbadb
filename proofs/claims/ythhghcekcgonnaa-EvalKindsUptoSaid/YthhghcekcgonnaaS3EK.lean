/- EvalKinds: whatever the condition, the names and the values, the law answers true, where what comes in is of bulk at most 1048576. Own work (session 2). -/
import Derived.Test.YthhghcekcgonnaaS3KM
set_option maxRecDepth 20000
namespace Go.Proofs.Ythhghcekcgonnaa.evalKinds
open Go.Hx Go.ChangeShapes Go.WideShapes Go.ChangeAt Go.RowKit
theorem law (av : List AV) (ha : ArgsT Try.prog Try.f9.params.toList av) (hs : szL av ≤ 1048576) : Ev Try.prog Hs (.fn 9) av H0 (fun r _ => r = B true) := by
  have e : ArgsT Try.prog Try.f9.params.toList av = ArgsT Pg [26, 29, 49] av := by kernel_rfl
  rw [e] at ha
  obtain ⟨n1, c1, r1, rfl, g1, n2, c2, r2, rfl, g2, n3, c3, r3, rfl, g3, rfl⟩ := ha
  obtain ⟨x, rfl, hvx⟩ := has_X2 n1 g1
  obtain ⟨b2, t2, l2, rfl, h2⟩ := has_Ss g2
  obtain ⟨b3, t3, l3, rfl, h3⟩ := has_Vs g3
  have p1 : packA Pg 26 (encC x) = encX x := by kernel_rfl
  have p2 : ∀ v, packA Pg 29 [v] = v := fun v => by kernel_rfl
  have p3 : ∀ v, packA Pg 49 [v] = v := fun v => by kernel_rfl
  rw [p1, p2, p3] at hs ⊢
  simp only [szL, szA, encX] at hs
  have i2 := len_szS l2
  have i3 := len_szV l3
  obtain ⟨j1, j2⟩ := sz_X x
  exact c9 1 b2 t2 l2 h2 (.inr rfl) (by omega) b3 t3 l3 (by omega) x ⟨j2 (by omega), hvx, by omega⟩ H0 _ (fun _ => rfl)
theorem contract (H : Type) (enc : TypeId × Value → H) (W : World) (base : Nat) (args : Array Value) (ds gs : List (DataW H)) (before : List MemPlace)
    (hval : ∀ (j : Nat) t v, Try.f9.params[j]? = some t → args[j]? = some v → Value.okWide Try.prog W .any base t v)
    (hW : DataW.Whole enc Try.prog Try.f9.params.toList Rows.evalKindsSpec.vars false W args.toList ds gs before) (hk : Rows.uptoSmall H (ds ++ gs) = true) :
    Calls Try.prog 9 args W fun e W' => ∃ v, e = .returned v ∧ Rows.evalKindsSpec.post enc Try.prog Try.f9 false true false false W args v W' := by
  obtain ⟨p, q, hA, hV, _, _, _⟩ := id hW
  obtain ⟨rfl, rfl⟩ := trodVars_none (show DataW.TrodVars enc Try.prog W (fun _ => true) [] gs q from hV)
  have hb : Rows.uptoBulkAll ds ≤ 1048576 := by
    have : decide (Rows.uptoBulkAll (ds ++ []) ≤ 1048576) = true := hk
    simpa using this
  have hp : Try.f9.params.toList = [26, 29, 49] := by kernel_rfl
  have hfn : Rows.evalKindsSpec.fn H ds = { results := [.lit (.bool true)], args := ds } := by
    have hA' := hA
    rw [hp] at hA'
    obtain ⟨_, _, d0, _, _, _, _, rfl, _, _, hA'⟩ := trodAll_cons hA'
    obtain ⟨_, _, d1, _, _, _, _, rfl, _, _, hA'⟩ := trodAll_cons hA'
    obtain ⟨_, _, d2, _, _, _, _, rfl, _, _, hA'⟩ := trodAll_cons hA'
    obtain ⟨_, rfl, _⟩ := trodAll_nil hA'
    rfl
  exact row_calls pkOf (hs := Hs) (f := 9) (fn := Try.f9) (s := Rows.evalKindsSpec) bulkOf (l := [2, 3, 5, 9, 23, 24, 26, 29, 49]) kidsOf oneOf shutOf fullOf (by rw [hp]; decide) hval hW rfl hfn (tb := 4) (by kernel_rfl) u4
    (fun av ha hs => law av ha (Nat.le_trans hs hb))
theorem lifted (os : Os) (started : os.Started) (H : Type) (enc : TypeId × Value → H) (F : Stop.Interp) :
    ReturnsInHanded {} Try.checked os 9 .any ((Rows.OpenSpec.upto Rows.evalKindsSpec).pre6 enc Try.prog Try.f9 Rows.evalKindsUptoRow.domain false) (((Rows.OpenSpec.upto Rows.evalKindsSpec).at F).post enc Try.prog Try.f9 false true false false) := by
  refine returnsInHanded_of_cond (C := Try.checked) (s := Rows.OpenSpec.upto Rows.evalKindsSpec) (k := Rows.uptoSmall) rfl own started (by kernel_rfl) Try.func9
    (OpenSpec.witness (enc := enc) (C := Try.checked) (s := Rows.OpenSpec.upto Rows.evalKindsSpec) (k := Rows.uptoSmall) rfl false
      ⟨#[], #[.agg #[.int .i64 0, .int .i64 0, .int .i64 0, .string .empty, .string .empty, .string .empty, .slice none 0 0], .slice none 0 0, .slice none 0 0], []⟩ 8 (by kernel_rfl) (by kernel_rfl) (by kernel_rfl)
      (x := ([.agg [.lit (.int .i64 0), .agg [.lit (.int .i64 0), .lit (.int .i64 0), .lit (.string [])], .lit (.string []), .lit (.string []), .nil], .nil, .nil], [], [])) (by kernel_rfl) rfl (by kernel_rfl)) ?_
  intro W base args ds gs before hval hW _ hk _
  exact contract H enc W base args ds gs before hval hW hk
theorem proved : Rows.EvalKindsUptoSaid :=
  OpenClaim.holds_of_cond 9 Try.f9 rfl rfl rfl rfl rfl rfl rfl ⟨rfl, rfl, rfl, rfl, rfl⟩ rfl rfl rfl rfl rfl (by kernel_rfl) Try.func9 (by kernel_rfl)
    (of_decide_eq_true (by kernel_rfl)) (by unfold Func.isWrapper; first | (rw [if_pos (by decide +kernel)]; kernel_rfl) | (rw [if_neg (by decide +kernel)]; exact ⟨rfl, rfl⟩))
    (fun os started H enc _ F => lifted os started H enc F)
end Go.Proofs.Ythhghcekcgonnaa.evalKinds
