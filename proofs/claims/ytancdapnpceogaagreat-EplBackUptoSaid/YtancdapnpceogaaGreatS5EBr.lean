/- EplBack: whatever comes in, the law answers true, where what comes in is of bulk at most 1048576. Own work. -/
import Derived.Test.YtancdapnpceogaaGreatS5M4
set_option maxRecDepth 20000
namespace Go.Proofs.YtancdapnpceogaaGreat.eplBack
open Go.Hx Go.ChangeShapes Go.WideShapes Go.ChangeAt Go.RowKit
theorem proved : Rows.EplBackUptoSaid :=
  OpenClaim.holds_of_cond 9 Tryz.f9 rfl rfl rfl rfl rfl rfl rfl ⟨rfl, rfl, rfl, rfl, rfl⟩ rfl rfl rfl rfl rfl (by kernel_rfl) Tryz.func9 (by unfold joinedFacts; repeat' refine Bool.and_eq_true_iff.2 ⟨?_, ?_⟩; all_goals as_aux_lemma => kernel_rfl)
    (of_decide_eq_true (by kernel_rfl)) (by unfold Func.isWrapper; first | (rw [if_pos (by decide +kernel)]; kernel_rfl) | (rw [if_neg (by decide +kernel)]; exact ⟨rfl, rfl⟩))
    (fun os started H enc _ F => lifted os started H enc F)
end Go.Proofs.YtancdapnpceogaaGreat.eplBack
