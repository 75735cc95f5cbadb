/- Contracts of errors.Is, and of what typing refuses. Own work (session 2). -/
import Derived.Test.YthhghcekcgonnaaS3B
set_option maxRecDepth 20000
namespace Go.Hx
def faultA (e : Int) : AV := .iface 100 (I e)
def refusedA (e : Int) : AV := .iface 122 (.agg [faultA e])
theorem r_nil (e : Int) : binA Pg .eql 73 true (refusedA e) (.raw .nilIface) = some (B false) := by kernel_rfl
theorem r_nil' (e : Int) : binA Pg .neq 73 true (refusedA e) (.raw .nilIface) = some (B true) := by kernel_rfl
theorem n_nil : binA Pg .eql 73 true (.raw .nilIface) (.raw .nilIface) = some (B true) := by kernel_rfl
theorem n_nil' : binA Pg .neq 73 true (.raw .nilIface) (.raw .nilIface) = some (B false) := by kernel_rfl
theorem f_nil (e : Int) : binA Pg .eql 73 true (faultA e) (.raw .nilIface) = some (B false) := by kernel_rfl
theorem r_f (e d : Int) : binA Pg .eql 73 false (refusedA e) (faultA d) = some (B false) := by kernel_rfl
theorem f_f (e d : Int) : binA Pg .eql 73 false (faultA e) (faultA d) = some (B (decide (e = d))) := by kernel_rfl
theorem as_r145 (e : Int) : asrtA Pg 145 (refusedA e) = some (.tup [.raw .nilIface, B false]) := by kernel_rfl
theorem as_r148 (e : Int) : asrtA Pg 148 (refusedA e) = some (.tup [refusedA e, B true]) := by kernel_rfl
theorem as_f145 (e : Int) : asrtA Pg 145 (faultA e) = some (.tup [.raw .nilIface, B false]) := by kernel_rfl
theorem as_f148 (e : Int) : asrtA Pg 148 (faultA e) = some (.tup [.raw .nilIface, B false]) := by kernel_rfl
theorem as_f149 (e : Int) : asrtA Pg 149 (faultA e) = some (.tup [.raw .nilIface, B false]) := by kernel_rfl
theorem m_unwrap (w : World) (u : Value) : (method (Pg.types.size + Made.depth) 122 u "Unwrap").run Pg w = .ok (149, u) w := by kernel_rfl
theorem m_cmp (w : World) (u : Value) : (method (Pg.types.size + Made.depth) 143 u "Comparable").run Pg w = .ok (153, u) w := by kernel_rfl
theorem x_typeOf (w : World) (u : Value) : (callFunc 84 #[.iface 100 u]).run Pg w = .ok (.value (.iface 143 (.agg #[.pointer (some ⟨0, 100, none⟩)]))) w := by kernel_rfl
theorem x_cmp (w : World) : (callFunc 153 #[.agg #[.pointer (some ⟨0, 100, none⟩)]]).run Pg w = .ok (.value (.bool true)) w := by kernel_rfl
theorem c149 (e : Int) (H : Heap) (Q : Post) : E 149 [.agg [faultA e]] H Q = Q (faultA e) H := f149_eq _ H Q
theorem i_unwrap (e : Int) (H : Heap) (K : Post) (hk : K (faultA e) H) : invA Pg (Ev Pg Hs) "Unwrap" (refusedA e) [] H K :=
  ⟨149, m_unwrap, .inr (by
    show E 149 [.agg [faultA e]] H K
    rw [c149]; exact hk)⟩
theorem p_typeOf (e : Int) (K : AV → Prop) (hk : K (.iface 143 (.agg [.raw (.pointer (some ⟨0, 100, none⟩))]))) : primA Pg 84 [faultA e] K :=
  ⟨143, some ⟨0, 100, none⟩, x_typeOf, hk⟩
theorem i_cmp (H : Heap) (K : Post) (hk : K (B true) H) : invA Pg (Ev Pg Hs) "Comparable" (.iface 143 (.agg [.raw (.pointer (some ⟨0, 100, none⟩))])) [] H K :=
  ⟨153, m_cmp, .inl ⟨true, x_cmp, hk⟩⟩
/-- errors.is, of a refusal and of a fault -/
theorem c85f (e d : Int) (H : Heap) (Q : Post) (hq : Q (B (decide (e = d))) H) : f85_l3 (faultA e) (faultA d) (B true) H Q := by
  have x0 : ∀ x y, extractA (.tup [x, y]) 0 = some x := fun _ _ => rfl
  have x1 : ∀ x y, extractA (.tup [x, y]) 1 = some y := fun _ _ => rfl
  rw [f85_l3_eq, cnd_t, f_f, ob_some, f85_j8_eq]
  refine cnd_intro (fun h => ?_) (fun h => ?_)
  · rw [h] at hq; exact hq
  rw [h] at hq
  rw [as_f145, ob_some, x0, ob_some, x1, ob_some, cnd_f, f85_j18_eq, cnd_f, as_f148, ob_some, x1, ob_some, x0, ob_some, cnd_f, as_f149, ob_some, x1, ob_some, x0, ob_some, cnd_f]
  exact hq
theorem c85 (e d : Int) (H : Heap) (Q : Post) (hq : Q (B (decide (e = d))) H) : E 85 [refusedA e, faultA d, B true] H Q := by
  have x0 : ∀ x y, extractA (.tup [x, y]) 0 = some x := fun _ _ => rfl
  have x1 : ∀ x y, extractA (.tup [x, y]) 1 = some y := fun _ _ => rfl
  rw [f85_eq, f85_l3_eq, cnd_t, r_f, ob_some, f85_j8_eq, cnd_f, as_r145, ob_some, x0, ob_some, x1, ob_some, cnd_f, f85_j18_eq, cnd_f, as_r148, ob_some, x1, ob_some, x0, ob_some, cnd_t]
  refine i_unwrap e H _ ?_
  rw [f_nil, ob_some, cnd_f]
  exact c85f e d H Q hq
theorem c53 (e d : Int) (H : Heap) (Q : Post) (hq : Q (B (decide (e = d))) H) : E 53 [refusedA e, faultA d] H Q := by
  rw [f53_eq, r_nil, ob_some, cnd_f, f_nil, ob_some, f53_j5_eq, cnd_f]
  refine p_typeOf d _ (i_cmp H _ ?_)
  exact c85 e d H Q hq
def errA (e : Int) : AV := if e = 0 then .raw .nilIface else refusedA e
theorem c30 (e : Int) (he : e = 0 ∨ e = 5 ∨ e = 6) (H : Heap) (Q : Post) (hq : Q (I e) H) : E 30 [errA e] H Q := by
  rw [f30_eq]
  rcases he with rfl | rfl | rfl
  · show ob (binA Pg .eql 73 true (.raw .nilIface) (.raw .nilIface)) _
    rw [n_nil, ob_some, cnd_t]; exact hq
  · show ob (binA Pg .eql 73 true (refusedA 5) (.raw .nilIface)) _
    rw [r_nil, ob_some, cnd_f]
    exact c53 5 6 H _ (by rw [show decide ((5 : Int) = 6) = false from rfl, cnd_f]; exact hq)
  · show ob (binA Pg .eql 73 true (refusedA 6) (.raw .nilIface)) _
    rw [r_nil, ob_some, cnd_f]
    exact c53 6 6 H _ (by rw [show decide ((6 : Int) = 6) = true from rfl, cnd_t]; exact hq)
theorem c52 (H : Heap) (Q : Post) : E 52 [] H Q = Q (refusedA 5) H := f52_eq () H Q
theorem c79 (H : Heap) (Q : Post) : E 79 [] H Q = Q (refusedA 6) H := f79_eq () H Q
end Go.Hx
