/- From the rows of this seat to the abstract machine. Own work (turned from S3R). -/
import Derived.Test.YtancdapnpceogaaGreatS5A
import Derived.Test.YtancdapnpceogaaGreatRows
import Derived.WalkKit
import Derived.ProofKit
import Derived.OpenShut
import Derived.JoinedCond
set_option maxRecDepth 20000
namespace Go.Hx
open Go.Proofs.YtancdapnpceogaaGreat
theorem bulkOf {H : Type} : Bulk (Rows.uptoBulk (H := H)) (Rows.uptoBulkAll (H := H)) :=
  ⟨fun l => by simp [Rows.uptoBulk], fun l => by simp [Rows.uptoBulk], fun k l => by simp [Rows.uptoBulk], by simp [Rows.uptoBulk], fun l r => by simp [Rows.uptoBulk], fun l => by simp [Rows.uptoBulk], by simp [Rows.uptoBulkAll], fun x l => by simp [Rows.uptoBulkAll]⟩
theorem pkOf : PK Pg := by
  refine ⟨fun f fn h => ?_, by kernel_rfl⟩
  have hall : (Pg.funcs.toList.all fun fn => !(fn.name == "runtime.NumGoroutine")) = true := by kernel_rfl
  have := List.all_eq_true.1 hall fn (List.mem_of_getElem? (i := f) (by simpa using h))
  simpa using this
theorem kidsOf : Kids Pg (· < Pg.types.size) := kids_rows (by kernel_rfl) (by kernel_rfl)
theorem oneOf : ∀ e, e < Pg.types.size → aggT Pg e = false → Pg.cellsOf e = 1 := by
  have h : ((List.range Pg.types.size).all fun e => aggT Pg e || Nat.beq (Pg.cellsOf e) 1) = true := by kernel_rfl
  intro e he ha
  have := List.all_eq_true.1 h e (List.mem_range.2 he)
  rw [ha, Bool.false_or] at this
  exact Nat.eq_of_beq_eq_true this
theorem fullOf : ∀ t e, t < Pg.types.size → Pg.underlying t = some (.slice e) → 0 < Pg.cellsOf e := slices_full_of Pg (by kernel_rfl)
theorem shutOf : shutT Pg [2, 3, 5, 9, 23, 24, 26] = true := by kernel_rfl
theorem own : ownKnob Pg.godebug = none := by kernel_rfl
end Go.Hx
