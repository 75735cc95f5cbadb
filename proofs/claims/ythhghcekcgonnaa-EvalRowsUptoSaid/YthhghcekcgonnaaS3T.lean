/- The law TypingZero over the abstract machine. Own work (session 2). -/
import Derived.Test.YthhghcekcgonnaaS3L
set_option maxRecDepth 20000
namespace Go.Hx
theorem ptr_eql (t : TypeId) (ht : t = 27) : binA Pg .eql t true (.raw (.pointer none)) (.raw (.pointer none)) = some (B true) := by subst ht; kernel_rfl
theorem ptr_eql2 (b : Nat) : binA Pg .eql 27 true (Pt b) (.raw (.pointer none)) = some (B false) := by kernel_rfl
/-- names that nobody made -/
def NoNames (p : AV) (H : Heap) : Prop := p = .raw (.pointer none) ∨ ∃ b x y z, p = Pt b ∧ H.objs b = some (.cells [x, y, z, B false])
theorem c27z (p : AV) (H : Heap) (Q : Post) (hp : NoNames p H) (hq : Q (B true) H) : E 27 [p] H Q := by
  rw [f27_eq]
  rcases hp with rfl | ⟨b, x, y, z, rfl, hb⟩
  · rw [ptr_eql 27 rfl, ob_some, cnd_t, f27_j4_eq]; exact hq
  · have h0 : nilA (Pt b) = some (Pt b) := rfl
    have h3 : addPA (Pt b) 3 = some (.raw (.pointer (some ⟨b, 3, none⟩))) := by simp [addPA, Pt]
    rw [ptr_eql2, ob_some, cnd_f, h0, ob_some, h3, ob_some, ld_off hb]
    simp only [part_f, List.getElem?_cons_zero, List.getElem?_cons_succ, ob_some, not_B, f27_j4_eq]
    exact hq
theorem c10z (p : AV) (x : Ex) (H : Heap) (Q : Post) (hp : NoNames p H) (hq : Q (.tup [I 0, I 7]) H) : E 10 [p, encX x] H Q := by
  rw [f10_eq, szX, ob_some]
  refine c27z p H _ hp ?_
  rw [cnd_t]; exact hq
theorem c11z (p : AV) (v : ByteArray) (H : Heap) (Q : Post) (hp : NoNames p H) (hq : Q (.tup [S e0, B false]) H) : E 11 [p, S v] H Q := by
  rw [f11_eq]
  refine c27z p H _ hp ?_
  rw [cnd_t]; exact hq
theorem c12z (p : AV) (x : Ex) (H : Heap) (Q : Post) (hp : NoNames p H) (hq : Q (I 7) H) : E 12 [p, encX x] H Q := by
  rw [f12_eq, szX, ob_some, partX, ob_some]
  refine c10z p x H _ hp ?_
  have y0 : ∀ x y, extractA (.tup [x, y]) 0 = some x := fun _ _ => rfl
  have y1 : ∀ x y, extractA (.tup [x, y]) 1 = some y := fun _ _ => rfl
  simp only [y0, y1, ob_some, i_neq]
  exact hq
theorem cTypingZero (x : Ex) (v : ByteArray) (H : Heap) (Q : Post) (hq : ∀ H', Q (B true) H') : E 3 [encX x, S v] H Q := by
  rw [f3_eq, szX, ob_some]
  intro b hb
  simp only [Pt_def]
  have o1 := setObj_same H b (.cells [.sl 0 true .full [], .sl 0 true .full [], .sl 0 true .full [], B false])
  generalize H.setObj b (.cells [.sl 0 true .full [], .sl 0 true .full [], .sl 0 true .full [], B false]) = H1 at o1 ⊢
  have n0 : NoNames (.raw (.pointer none)) H1 := .inl rfl
  have n1 : NoNames (Pt b) H1 := .inr ⟨b, _, _, _, rfl, o1⟩
  have y0 : ∀ x y, extractA (.tup [x, y]) 0 = some x := fun _ _ => rfl
  have y1 : ∀ x y, extractA (.tup [x, y]) 1 = some y := fun _ _ => rfl
  rw [partX, ob_some]
  refine c10z _ x H1 _ n0 ?_
  simp only [y0, y1, ob_some]
  refine c10z _ x H1 _ n1 ?_
  simp only [y0, y1, ob_some]
  refine c11z _ v H1 _ n0 ?_
  simp only [y0, y1, ob_some, i_eql, f3_c7_8a_eq, partX, decide_true, cnd_t]
  refine c12z _ x H1 _ n0 ?_
  simp only [ob_some, i_eql, f3_c7_15a_eq, partX, decide_true, cnd_t]
  refine c12z _ x H1 _ n1 ?_
  simp only [ob_some, i_eql, f3_c7_21a_eq, f3_c7_25a_eq, f3_c7_29a_eq, f3_j16_eq, s_eql, not_B, decide_true, cnd_t]
  exact hq H1
end Go.Hx
