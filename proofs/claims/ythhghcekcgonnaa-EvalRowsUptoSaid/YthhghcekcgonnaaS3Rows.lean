/- EvalRows: whatever the conditions and the table, the law answers true, where what comes in is of bulk at most 1048576. Own work (session 2). -/
import Derived.Test.YthhghcekcgonnaaS3Y
set_option maxRecDepth 20000
namespace Go.Proofs.Ythhghcekcgonnaa.evalRows
open Go.Hx Go.ChangeShapes Go.WideShapes Go.ChangeAt Go.RowKit
theorem law (av : List AV) (ha : ArgsT Try.prog Try.f7.params.toList av) (hs : szL av ≤ 1048576) : Ev Try.prog Hs (.fn 7) av H0 (fun r _ => r = B true) := by
  have e : ArgsT Try.prog Try.f7.params.toList av = ArgsT Pg [24, 29, 29, 49] av := by kernel_rfl
  rw [e] at ha
  obtain ⟨n1, c1, r1, rfl, g1, n2, c2, r2, rfl, g2, n3, c3, r3, rfl, g3, n4, c4, r4, rfl, g4, rfl⟩ := ha
  obtain ⟨b1, t1, xs, rfl, h1⟩ := has_Xs g1
  obtain ⟨b2, t2, l2, rfl, h2⟩ := has_Ss g2
  obtain ⟨b3, t3, l3, rfl, h3⟩ := has_Ss g3
  obtain ⟨b4, t4, l4, rfl, h4⟩ := has_Vs g4
  have p1 : ∀ v, packA Pg 24 [v] = v := fun v => by kernel_rfl
  have p2 : ∀ v, packA Pg 29 [v] = v := fun v => by kernel_rfl
  have p4 : ∀ v, packA Pg 49 [v] = v := fun v => by kernel_rfl
  rw [p1, p2, p2, p4] at hs ⊢
  simp only [szL, szA, encXs] at hs
  have i2 := len_szS l2
  have i3 := len_szS l3
  have i4 := len_szV l4
  have hx : sizeXs xs ≤ szL (xs.map encX) ∧ (szL (xs.map encX) ≤ 1048576 → allXs okX xs) := sz_Xs xs
  exact cEvalRows 7 b1 t1 xs (hx.2 (by omega)) (by omega) 1 1 3 b2 b3 b4 t2 t3 t4 l2 l3 l4 h2 h3 h4 (.inr rfl) (.inr rfl) (.inr rfl) (by omega) (by omega) (by omega) H0 _ (fun _ => rfl)
theorem contract (H : Type) (enc : TypeId × Value → H) (W : World) (base : Nat) (args : Array Value) (ds gs : List (DataW H)) (before : List MemPlace)
    (hval : ∀ (j : Nat) t v, Try.f7.params[j]? = some t → args[j]? = some v → Value.okWide Try.prog W .any base t v)
    (hW : DataW.Whole enc Try.prog Try.f7.params.toList Rows.evalRowsSpec.vars false W args.toList ds gs before) (hk : Rows.uptoSmall H (ds ++ gs) = true) :
    Calls Try.prog 7 args W fun e W' => ∃ v, e = .returned v ∧ Rows.evalRowsSpec.post enc Try.prog Try.f7 false true false false W args v W' := by
  obtain ⟨p, q, hA, hV, _, _, _⟩ := id hW
  obtain ⟨rfl, rfl⟩ := trodVars_none (show DataW.TrodVars enc Try.prog W (fun _ => true) [] gs q from hV)
  have hb : Rows.uptoBulkAll ds ≤ 1048576 := by
    have : decide (Rows.uptoBulkAll (ds ++ []) ≤ 1048576) = true := hk
    simpa using this
  have hp : Try.f7.params.toList = [24, 29, 29, 49] := by kernel_rfl
  have hfn : Rows.evalRowsSpec.fn H ds = { results := [.lit (.bool true)], args := ds } := by
    have hA' := hA
    rw [hp] at hA'
    obtain ⟨_, _, d0, _, _, _, _, rfl, _, _, hA'⟩ := trodAll_cons hA'
    obtain ⟨_, _, d1, _, _, _, _, rfl, _, _, hA'⟩ := trodAll_cons hA'
    obtain ⟨_, _, d2, _, _, _, _, rfl, _, _, hA'⟩ := trodAll_cons hA'
    obtain ⟨_, _, d3, _, _, _, _, rfl, _, _, hA'⟩ := trodAll_cons hA'
    obtain ⟨_, rfl, _⟩ := trodAll_nil hA'
    rfl
  exact row_calls pkOf (hs := Hs) (f := 7) (fn := Try.f7) (s := Rows.evalRowsSpec) bulkOf (l := [2, 3, 5, 9, 23, 24, 26, 29, 49]) kidsOf oneOf shutOf fullOf (by rw [hp]; decide) hval hW rfl hfn (tb := 4) (by kernel_rfl) u4
    (fun av ha hs => law av ha (Nat.le_trans hs hb))
theorem lifted (os : Os) (started : os.Started) (H : Type) (enc : TypeId × Value → H) (F : Stop.Interp) :
    ReturnsInHanded {} Try.checked os 7 .any ((Rows.OpenSpec.upto Rows.evalRowsSpec).pre6 enc Try.prog Try.f7 Rows.evalRowsUptoRow.domain false) (((Rows.OpenSpec.upto Rows.evalRowsSpec).at F).post enc Try.prog Try.f7 false true false false) := by
  refine returnsInHanded_of_cond (C := Try.checked) (s := Rows.OpenSpec.upto Rows.evalRowsSpec) (k := Rows.uptoSmall) rfl own started (by kernel_rfl) Try.func7
    (OpenSpec.witness (enc := enc) (C := Try.checked) (s := Rows.OpenSpec.upto Rows.evalRowsSpec) (k := Rows.uptoSmall) rfl false
      ⟨#[], #[.slice none 0 0, .slice none 0 0, .slice none 0 0, .slice none 0 0], []⟩ 8 (by kernel_rfl) (by kernel_rfl) (by kernel_rfl)
      (x := ([.nil, .nil, .nil, .nil], [], [])) (by kernel_rfl) rfl (by kernel_rfl)) ?_
  intro W base args ds gs before hval hW _ hk _
  exact contract H enc W base args ds gs before hval hW hk
theorem proved : Rows.EvalRowsUptoSaid :=
  OpenClaim.holds_of_cond 7 Try.f7 rfl rfl rfl rfl rfl rfl rfl ⟨rfl, rfl, rfl, rfl, rfl⟩ rfl rfl rfl rfl rfl (by kernel_rfl) Try.func7 (by kernel_rfl)
    (of_decide_eq_true (by kernel_rfl)) (by unfold Func.isWrapper; first | (rw [if_pos (by decide +kernel)]; kernel_rfl) | (rw [if_neg (by decide +kernel)]; exact ⟨rfl, rfl⟩))
    (fun os started H enc _ F => lifted os started H enc F)
end Go.Proofs.Ythhghcekcgonnaa.evalRows
