/- Contracts of the reference's layers 4, 5, 6, 9, 11. Own work (session 2). -/
import Derived.Test.YthhghcekcgonnaaS3U
set_option maxRecDepth 20000
namespace Go.Hx
theorem c119 (a : Int) (H : Heap) (Q : Post) : E 119 [I a] H Q = Q (encN (negN a)) H := by
  simp only [f119_eq, i_eql, ob_some, cnd_B, decide_eq_true_eq, neg_I, negN]
  split <;> rfl
theorem c120 (a b : Int) (H : Heap) (Q : Post) : E 120 [I a, I b] H Q = Q (encN (addR a b)) H := by
  simp only [f120_eq, f120_c1_8a_eq, f120_c1_8b_eq, f120_c1_17a_eq, f120_c1_17b_eq, f120_c1_17c_eq, f120_j5_eq, i_gtr, i_lss, i_sub, i_add, ob_some, cnd_B, decide_eq_true_eq, addR, Bool.false_eq_true, if_false, if_true]
  repeat' split
  all_goals first | rfl | (simp_all; done) | (exfalso; simp_all; done) | (exfalso; omega) | (exfalso; simp_all; omega)
theorem c121 (a b : Int) (H : Heap) (Q : Post) : E 121 [I a, I b] H Q = Q (encN (subR a b)) H := by
  simp only [f121_eq, i_eql, i_geq, i_sub, neg_I, c120, extN0, extN1, ob_some, cnd_B, decide_eq_true_eq, subR]
  repeat' split
  all_goals rfl
theorem c122 (a b : Int) (H : Heap) (Q : Post) : E 122 [I a, I b] H Q = Q (encN (mulR a b)) H := by
  by_cases h0 : a = 0 ∨ b = 0
  · simp only [f122_eq, i_eql, ob_some, cnd_B, decide_eq_true_eq, f122_j5_eq, mulR, if_pos h0]
    rcases h0 with rfl | rfl
    · simp [encN]
    · by_cases ha : a = 0 <;> simp [ha, encN]
  · have ha : a ≠ 0 := fun e => h0 (.inl e)
    have hb : b ≠ 0 := fun e => h0 (.inr e)
    have q1 := fun x => i_quo (P := Pg) 2 false x a ha
    have q2 := fun x => i_quo (P := Pg) 2 false x b hb
    simp only [f122_eq, f122_j5_eq, f122_c3_6a_eq, f122_c3_6b_eq, f122_c3_13a_eq, f122_c3_13b_eq, f122_c3_13c_eq, f122_j13_eq, f122_c6_12a_eq, f122_c6_12b_eq, f122_c6_12c_eq, f122_c6_19a_eq, f122_c6_19b_eq, f122_c6_19c_eq, f122_j23_eq,
      i_eql, i_neq, i_mul, q1, q2, ob_some, cnd_B, decide_eq_true_eq, mulR, if_neg h0, if_neg ha, if_neg hb, Bool.false_eq_true, if_false, if_true]
    repeat' split
    all_goals first | rfl | (simp_all; done) | (exfalso; simp_all; done) | (exfalso; omega) | (exfalso; simp_all; omega)
theorem c123 (a b : Int) (H : Heap) (Q : Post) : E 123 [I a, I b] H Q = Q (encN (divN a b)) H := by
  simp only [f123_eq, f123_j5_eq, i_eql, ob_some, cnd_B, decide_eq_true_eq, divN, if_true, Bool.false_eq_true, if_false]
  by_cases hb : b = 0
  · simp [hb, encN]
  · simp only [hb, if_false, i_quo 2 false a b hb, ob_some, false_or]
    repeat' split
    all_goals simp_all [encN]
theorem c124 (a b : Int) (H : Heap) (Q : Post) : E 124 [I a, I b] H Q = Q (encN (modN a b)) H := by
  simp only [f124_eq, i_eql, ob_some, cnd_B, decide_eq_true_eq, modN]
  by_cases hb : b = 0
  · simp [hb, encN]
  · simp only [hb, if_false, i_rem 2 false a b hb, ob_some]
    split <;> rfl
theorem c96 (k a b : Int) (ha : rng a) (hb : rng b) (H : Heap) (Q : Post) : E 96 [I k, I a, I b] H Q = Q (encN (reckonN k a b)) H := by
  have e1 := (addR_eq ha hb).trans (addN_eq ha hb).symm
  have e2 := (subR_eq ha hb).trans (subN_eq ha hb).symm
  have e3 := (mulR_eq ha hb).trans (mulN_eq ha hb).symm
  simp only [f96_eq, i_eql, ob_some, cnd_B, decide_eq_true_eq, c119, c120, c121, c122, c123, c124, e1, e2, e3, extN0, extN1, reckonN]
  repeat' split
  all_goals rfl
theorem c97 (n : Int) (H : Heap) (Q : Post) : E 97 [I n] H Q = Q (encV (intV n)) H := f97_eq _ H Q
theorem c47 (b : Bool) (H : Heap) (Q : Post) : E 47 [B b] H Q = Q (encV (boolV b)) H := by
  cases b <;> simp [f47_eq, ob_some, cnd_t, cnd_f, bldA, sizedA, spliceA, partA, cellsA, I, encV, boolV]
/-- a value's number is one -/
def vr (v : Vl) : Prop := rng v.n
theorem rightV_eq {v : Vl} (h : vr v) : rightV v = (if v.k = 0 then decide (v.n = 0) && decide (v.s = e0) else if v.k = 1 then (decide (v.n = 0) || decide (v.n = 1)) && decide (v.s = e0) else if v.k = 2 then decide (v.s = e0)
    else if v.k = 3 then decide (v.n = 0) && decide ((v.s.size : Int) ≤ 256) else false) := by
  simp only [rightV]
  split
  · rename_i hk
    cases v with | mk k n s =>
    simp only at hk
    subst hk
    rw [Bool.eq_iff_iff]; simp [nullV]
  · split
    · rw [Bool.eq_iff_iff]
      simp only [Bool.and_eq_true, decide_eq_true_eq, Bool.or_eq_true, and_not1 h]
      exact and_comm
    · rfl
theorem c67 (v : Vl) (hv : vr v) (H : Heap) (Q : Post) : E 67 [encV v] H Q = Q (B (rightV v)) H := by
  rw [rightV_eq hv]
  simp only [f67_eq, sz3, part_f, ob_some, i_eql, cnd_B, s_eql, len_S, i_leq, f67_j11_eq, f67_j17_eq, f67_j29_eq, List.getElem?_cons_zero, List.getElem?_cons_succ, decide_eq_true_eq]
  repeat' split
  all_goals first | rfl | (simp_all; done) | (exfalso; simp_all; done)
theorem less_irrefl : ∀ l : List UInt8, Op.bytesLess l l = false := by
  intro l
  induction l with
  | nil => rfl
  | cons c r ih => simp [Op.bytesLess, ih]
def ordR (v w : Vl) : Int :=
  if v = w then 0 else if v.k < w.k ∨ (v.k = w.k ∧ (v.n < w.n ∨ (v.n = w.n ∧ Op.bytesLess v.s.toList w.s.toList = true))) then -1 else 1
theorem ordR_eq (v w : Vl) : ordR v w = ordV v w := by
  cases v with | mk k n s => cases w with | mk k' n' s' =>
  simp only [ordR, ordV, cmpI, cmpS, Vl.mk.injEq]
  by_cases h1 : k = k'
  · subst h1
    by_cases h2 : n = n'
    · subst h2
      by_cases h3 : s = s'
      · subst h3
        simp [less_irrefl]
      · have h4 : ¬ s.toList = s'.toList := fun e => h3 (toList_inj.1 e)
        by_cases h5 : Op.bytesLess s.toList s'.toList = true
        · simp [h3, h5]
        · simp only [Bool.not_eq_true] at h5
          simp [h3, h4, h5]
    · by_cases h4 : n < n'
      · simp [h2, h4]
      · have : n' < n := by omega
        simp [h2, h4, this]
  · by_cases h4 : k < k'
    · simp [h1, h4]
    · have : k' < k := by omega
      simp [h1, h4, this]
theorem c98 (v w : Vl) (H : Heap) (Q : Post) : E 98 [encV v, encV w] H Q = Q (I (ordV v w)) H := by
  rw [← ordR_eq]
  simp only [f98_eq, f98_c3_30a_eq, f98_c3_30b_eq, f98_c3_30c_eq, f98_c3_30d_eq, f98_c3_30e_eq, f98_c3_31a_eq, f98_c3_31b_eq, f98_c3_31c_eq, f98_c3_31d_eq, f98_c3_31e_eq, f98_c3_32a_eq, f98_c3_32b_eq, f98_c3_32c_eq, f98_c3_32d_eq, f98_j13_eq, sz3, part3, part_f, List.getElem?_cons_zero, List.getElem?_cons_succ, v_eql, i_lss, i_eql, s_lss, ob_some, cnd_B, decide_eq_true_eq, ordR, Bool.false_eq_true, if_false, if_true]
  repeat' split
  all_goals first | rfl | (simp_all; done) | (exfalso; simp_all; done) | (exfalso; omega) | (exfalso; simp_all; omega)
end Go.Hx
