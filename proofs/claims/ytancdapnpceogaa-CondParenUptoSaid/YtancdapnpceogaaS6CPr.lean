/- CondParen: whatever comes in, the law answers true, where what comes in is of bulk at most 1048576. Own work. -/
import Derived.Test.YtancdapnpceogaaS5M2
set_option maxRecDepth 20000
namespace Go.Proofs.Ytancdapnpceogaa.condParen
open Go.Hx Go.ChangeShapes Go.WideShapes Go.ChangeAt Go.RowKit
theorem law (av : List AV) (ha : ArgsT Try.prog Try.f3.params.toList av) (hs : szL av ≤ 1048576) : Ev Try.prog Hs (.fn 3) av H0 (fun r _ => r = B true) := by
  have e : ArgsT Try.prog Try.f3.params.toList av = ArgsT Pg [9] av := by kernel_rfl
  rw [e] at ha
  obtain ⟨n1, c1, r1, rfl, g1, rfl⟩ := ha
  obtain ⟨s, rfl⟩ := has_S g1
  have p1 : packA Pg 9 [S s] = S s := by kernel_rfl
  rw [p1] at hs ⊢
  simp only [szL, szA, S] at hs
  exact lawParen s (by omega) H0 _ (fun _ _ => rfl)
theorem contract (H : Type) (enc : TypeId × Value → H) (W : World) (base : Nat) (args : Array Value) (ds gs : List (DataW H)) (before : List MemPlace)
    (hval : ∀ (j : Nat) t v, Try.f3.params[j]? = some t → args[j]? = some v → Value.okWide Try.prog W .any base t v)
    (hW : DataW.Whole enc Try.prog Try.f3.params.toList Rows.condParenSpec.vars false W args.toList ds gs before) (hk : Rows.uptoSmall H (ds ++ gs) = true) :
    Calls Try.prog 3 args W fun e W' => ∃ v, e = .returned v ∧ Rows.condParenSpec.post enc Try.prog Try.f3 false true false false W args v W' := by
  obtain ⟨p, q, hA, hV, _, _, _⟩ := id hW
  obtain ⟨rfl, rfl⟩ := trodVars_none (show DataW.TrodVars enc Try.prog W (fun _ => true) [] gs q from hV)
  have hb : Rows.uptoBulkAll ds ≤ 1048576 := by
    have : decide (Rows.uptoBulkAll (ds ++ []) ≤ 1048576) = true := hk
    simpa using this
  have hp : Try.f3.params.toList = [9] := by kernel_rfl
  have hfn : Rows.condParenSpec.fn H ds = { results := [.lit (.bool true)], args := ds } := by
    have hA' := hA
    rw [hp] at hA'
    obtain ⟨_, _, d0, _, _, _, _, rfl, _, _, hA'⟩ := trodAll_cons hA'
    obtain ⟨_, rfl, _⟩ := trodAll_nil hA'
    rfl
  exact row_calls pkOf (hs := Hs) (f := 3) (fn := Try.f3) (s := Rows.condParenSpec) bulkOf (l := [2, 3, 5, 9, 23, 24, 26]) kidsOf oneOf shutOf fullOf (by rw [hp]; decide) hval hW rfl hfn (tb := 4) (by kernel_rfl) u4
    (fun av ha hs => law av ha (Nat.le_trans hs hb))
theorem lifted (os : Os) (started : os.Started) (H : Type) (enc : TypeId × Value → H) (F : Stop.Interp) :
    ReturnsInHanded {} Try.checked os 3 .any ((Rows.OpenSpec.upto Rows.condParenSpec).pre6 enc Try.prog Try.f3 Rows.condParenUptoRow.domain false) (((Rows.OpenSpec.upto Rows.condParenSpec).at F).post enc Try.prog Try.f3 false true false false) := by
  refine returnsInHanded_of_cond (C := Try.checked) (s := Rows.OpenSpec.upto Rows.condParenSpec) (k := Rows.uptoSmall) rfl own started (by kernel_rfl) Try.func3
    (OpenSpec.witness (enc := enc) (C := Try.checked) (s := Rows.OpenSpec.upto Rows.condParenSpec) (k := Rows.uptoSmall) rfl false
      ⟨#[], #[.string .empty], []⟩ 8 (by kernel_rfl) (by kernel_rfl) (by kernel_rfl)
      (x := ([.lit (.string [])], [], [])) (by kernel_rfl) rfl (by kernel_rfl)) ?_
  intro W base args ds gs before hval hW _ hk _
  exact contract H enc W base args ds gs before hval hW hk
theorem proved : Rows.CondParenUptoSaid :=
  OpenClaim.holds_of_cond 3 Try.f3 rfl rfl rfl rfl rfl rfl rfl ⟨rfl, rfl, rfl, rfl, rfl⟩ rfl rfl rfl rfl rfl (by kernel_rfl) Try.func3 (by kernel_rfl)
    (of_decide_eq_true (by kernel_rfl)) (by unfold Func.isWrapper; first | (rw [if_pos (by decide +kernel)]; kernel_rfl) | (rw [if_neg (by decide +kernel)]; exact ⟨rfl, rfl⟩))
    (fun os started H enc _ F => lifted os started H enc F)
end Go.Proofs.Ytancdapnpceogaa.condParen
