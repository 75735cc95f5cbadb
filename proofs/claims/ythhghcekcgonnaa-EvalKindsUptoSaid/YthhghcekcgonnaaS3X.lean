/- Contracts of the reference's layers, third part: Check, Look, say, Say, Holds. Own work (session 2). -/
import Derived.Test.YthhghcekcgonnaaS3W
import Derived.Test.YthhghcekcgonnaaS3M
set_option maxRecDepth 20000
namespace Go.Hx
theorem v_neq (t : Bool) (v w : Vl) : binA Pg .neq 23 t (encV v) (encV w) = some (B (!decide (v = w))) := by
  have h0 : binA Pg .neq 23 t (encV v) (encV w) = (eqT Pg 4 23 (encV v) (encV w)).map fun r => .raw (.bool (!r)) := by
    have := v_ok t v w
    simp only [encV] at this ⊢
    simp only [binA, this]
  have h1 := v_eql t v w
  rw [v_eql0] at h1
  rw [h0]
  cases hr : eqT Pg 4 23 (encV v) (encV w) with
  | none => rw [hr] at h1; cases h1
  | some r =>
    rw [hr] at h1
    simp only [Option.map_some, Option.some.injEq, B, AV.raw.injEq, Value.bool.injEq] at h1
    simp only [Option.map_some, h1]
    rfl
theorem p0X (x : Ex) : (encC x)[0]? = some (I x.k) := by rw [encC_eq]; rfl
theorem p4X (x : Ex) : (encC x)[4]? = some (S x.var) := by rw [encC_eq]; rfl
theorem p5X (x : Ex) : (encC x)[5]? = some (S x.fld) := by rw [encC_eq]; rfl
theorem p6X (x : Ex) : (encC x)[6]? = some (encXs x.sz x.nil x.tip x.l) := by rw [encC_eq]; rfl
/-! ### Size -/
theorem sizeXs_append (l r : List Ex) : sizeXs (l ++ r) = sizeXs l + sizeXs r := by
  induction l with
  | nil => simp [sizeXs]
  | cons x l ih => simp only [List.cons_append, sizeXs, ih]; omega
theorem one_le_sizeX (x : Ex) : 1 ≤ sizeX x := by rw [sizeX_eq]; omega
theorem len_sizeXs (l : List Ex) : l.length ≤ sizeXs l := by
  induction l with
  | nil => simp [sizeXs]
  | cons x l ih => have := one_le_sizeX x; simp only [List.length_cons, sizeXs]; omega
theorem c59 (x : Ex) : sizeX x ≤ 1152921504606846975 → ∀ (H : Heap) (Q : Post), E 59 [encX x] H Q = Q (I (sizeX x)) H := by
  induction x using Ex.ind with
  | h x ih =>
    intro hs H Q
    have hs' := hs
    rw [sizeX_eq] at hs'
    have loop : ∀ (r pre : List Ex), x.l = pre ++ r → f59_l8 (encC x) (I ((1 + sizeXs pre : Nat) : Int)) (I pre.length) H Q = Q (I (sizeX x)) H := by
      intro r
      induction r with
      | nil =>
        intro pre e
        have h1 : (pre.length : Int) = x.l.length := by rw [e]; simp
        have h2 : pre = x.l := by rw [e]; simp
        rw [f59_l8_eq, part_f, p6X, ob_some, lenX, ob_some, i_lss, ob_some, cnd_B, h1, sizeX_eq, h2]
        simp
      | cons y r ihr =>
        intro pre e
        have hlt : pre.length < x.l.length := by rw [e]; simp
        have hlt' : (pre.length : Int) < x.l.length := by omega
        have hl := len_sizeXs x.l
        have hsum : sizeXs pre + (sizeX y + sizeXs r) = sizeXs x.l := by rw [e, sizeXs_append]; rfl
        have := ihr (pre ++ [y]) (by simp [e])
        rw [List.length_append, List.length_singleton, sizeXs_append] at this
        rw [f59_l8_eq, part_f, p6X, ob_some, lenX, ob_some, i_lss, ob_some, cnd_B, if_pos (by simpa using hlt'), ob_some, ixX x.l x.sz x.nil x.tip pre r y e, ob_some, partX, ob_some, ih y (by rw [e]; simp) (by omega), i_add, ob_some, i_add, ob_some, w64_succ hlt (by omega),
          w64_id (by omega) (by omega)]
        rw [← this]
        congr 2
        simp only [sizeXs]
        omega
    rw [f59_eq, szX, ob_some]
    exact loop x.l [] rfl
/-! ### right -/
def partOK (k : Int) (y : Ex) : Bool := allR y && !(isRowP k && decide (y.k = k))
theorem all_part (k : Int) (l : List Ex) : l.all (partOK k) = (allRs l && !(isRowP k && l.any fun y => decide (y.k = k))) := by
  induction l with
  | nil => simp [allRs]
  | cons y r ih =>
    simp only [List.all_cons, List.any_cons, allRs, ih, partOK]
    cases allR y <;> cases allRs r <;> cases isRowP k <;> cases decide (y.k = k) <;> cases (r.any fun y => decide (y.k = k)) <;> rfl
def restR (x : Ex) : Bool :=
  if x.k = 1 then decide (x.l.length = 0) && rightV x.v
  else if x.k = 2 then decide (x.l.length = 0) && (nameL x.var.data.toList && nameL x.fld.data.toList)
  else if x.k = 3 ∨ x.k = 15 then decide (x.l.length = 1) && x.l.all (partOK x.k)
  else if 4 ≤ x.k ∧ x.k ≤ 14 then decide (x.l.length = 2) && x.l.all (partOK x.k)
  else if x.k = 16 ∨ x.k = 17 then decide (2 ≤ x.l.length) && x.l.all (partOK x.k)
  else false
theorem restR_eq (x : Ex) : (if (x.k ≠ 1 ∧ x.v ≠ nullV) ∨ (x.k ≠ 2 ∧ (x.var ≠ e0 ∨ x.fld ≠ e0)) then false else restR x) = allR x := by
  rw [allR_eq]
  simp only [restR, rightP, all_part, bareP]
  have hnil : x.l.length = 0 → allRs x.l = true := fun h => by rw [List.eq_nil_of_length_eq_zero h]; rfl
  by_cases h1 : x.k = 1
  · simp only [h1]
    by_cases hv : x.var = e0 <;> by_cases hf : x.fld = e0 <;> by_cases hl : x.l.length = 0 <;> simp [hv, hf, hl, hnil]
  · by_cases h2 : x.k = 2
    · simp only [h2]
      by_cases hv : x.v = nullV <;> by_cases hl : x.l.length = 0 <;> simp [hv, hl, hnil]
    · by_cases hb : x.v = nullV ∧ x.var = e0 ∧ x.fld = e0
      · have hc : ¬ ((x.k ≠ 1 ∧ x.v ≠ nullV) ∨ (x.k ≠ 2 ∧ (x.var ≠ e0 ∨ x.fld ≠ e0))) := by simp [hb]
        rw [if_neg hc]
        simp only [h1, h2, if_false, hb.1, hb.2.1, hb.2.2, decide_true, Bool.and_self, Bool.true_eq_false]
        by_cases h3 : x.k = 3 ∨ x.k = 15
        · have hr : isRowP x.k = false := by rcases h3 with h | h <;> simp [isRowP, h]
          simp [h3, hr]
        · by_cases h4 : 4 ≤ x.k ∧ x.k ≤ 14
          · have hr : isRowP x.k = false := by simp [isRowP]; omega
            simp [h3, h4, hr]
          · by_cases h5 : x.k = 16 ∨ x.k = 17
            · have hr : isRowP x.k = true := by rcases h5 with h | h <;> simp [isRowP, h]
              simp only [h3, h4, h5, hr, if_true, if_false, Bool.true_and]
              cases allRs x.l <;> cases (x.l.any fun y => decide (y.k = x.k)) <;> cases decide (2 ≤ x.l.length) <;> rfl
            · have hr : isRowP x.k = false := by simp [isRowP]; omega
              simp [h3, h4, h5, hr]
      · have hc : (x.k ≠ 1 ∧ x.v ≠ nullV) ∨ (x.k ≠ 2 ∧ (x.var ≠ e0 ∨ x.fld ≠ e0)) := by
          by_cases hv : x.v = nullV
          · by_cases hx : x.var = e0
            · by_cases hf : x.fld = e0
              · exact absurd ⟨hv, hx, hf⟩ hb
              · exact .inr ⟨h2, .inr hf⟩
            · exact .inr ⟨h2, .inl hx⟩
          · exact .inl ⟨h1, hv⟩
        rw [if_pos hc]
        have : (decide (x.v = nullV) && (decide (x.var = e0) && decide (x.fld = e0))) = false := by
          rw [Bool.eq_false_iff]; simp only [ne_eq, Bool.and_eq_true, decide_eq_true_eq]; exact hb
        simp [h1, h2, this]
def vX (x : Ex) : Prop := vr x.v
theorem c60 (x : Ex) : allX okX x → allX vX x → ∀ (H : Heap) (Q : Post), E 60 [encX x] H Q = Q (B (allR x)) H := by
  induction x using Ex.ind with
  | h x ih =>
    intro hok hvx H Q
    have hok' := (allX_eq _ _).1 hok
    have hvx' := (allX_eq _ _).1 hvx
    have hn : x.l.length ≤ 1099511627776 := hok'.1.1
    have loop : ∀ (r pre : List Ex), x.l = pre ++ r → f60_l63 (encC x) (I x.l.length) (I pre.length) H Q = Q (B (r.all (partOK x.k))) H := by
      intro r
      induction r with
      | nil =>
        intro pre e
        have h1 : (pre.length : Int) = x.l.length := by rw [e]; simp
        rw [f60_l63_eq, i_lss, ob_some, cnd_B, h1]
        simp
      | cons y r ihr =>
        intro pre e
        have hlt : pre.length < x.l.length := by rw [e]; simp
        have hlt' : (pre.length : Int) < x.l.length := by omega
        have hy := ih y (by rw [e]; simp) (allXs_mem hok'.2 (by rw [e]; simp)) (allXs_mem hvx'.2 (by rw [e]; simp))
        have ih2 := ihr (pre ++ [y]) (by simp [e])
        rw [List.length_append, List.length_singleton] at ih2
        have p0' : ((encC y).drop 0)[0]? = some (I y.k) := p0X y
        have j74 : ∀ b : Bool, f60_j74 (encC x) (I x.l.length) (I pre.length) (B b) H Q = Q (B (!b && r.all (partOK x.k))) H := fun b => by
          rw [f60_j74_eq, cnd_B, i_add, ob_some, w64_succ hlt (by omega), ih2]
          cases b <;> rfl
        rw [f60_l63_eq, i_lss, ob_some, cnd_B, if_pos (by simpa using hlt'), part_f, p6X, ob_some, ixX x.l x.sz x.nil x.tip pre r y e, ob_some, partX, ob_some, hy]
        simp only [not_B, ob_some, part_f, p0X, p6X, p0', ixX x.l x.sz x.nil x.tip pre r y e, i_eql, f60_c21_16a_eq, f60_c21_16b_eq, f60_c21_16c_eq, f60_c21_27a_eq, f60_c21_27b_eq, f60_c21_27c_eq, j74, cnd_B, List.all_cons, partOK, isRowP]
        cases allR y
        · simp
        · by_cases h16 : x.k = 16
          · simp [h16]
          · by_cases h17 : x.k = 17
            · simp [h17]
            · simp [h16, h17]
    have j5 : ∀ b : Bool, f60_j5 (encC x) (B b) H Q = Q (B (if b = true then false else restR x)) H := fun b => by
      have l0 := loop x.l [] rfl
      have l0' : f60_l63 (encC x) (I x.l.length) (I 0) H Q = Q (B (x.l.all (partOK x.k))) H := l0
      simp only [f60_j5_eq, f60_j19_eq, f60_j25_eq, f60_j28_eq, f60_j38_eq, f60_j48_eq, part_f, p0X, p4X, p5X, p6X, partXV, ob_some, lenX, i_eql, i_neq, i_geq, i_leq, i_lss, c67 x.v hvx'.1, c88 x.var hok'.1.2.1, c88 x.fld hok'.1.2.2, l0', cnd_B, restR, decide_eq_true_eq, len0, len1, len2]
      cases b
      · simp only [Bool.false_eq_true, if_false]
        by_cases h1 : x.k = 1
        · simp only [h1, if_true]
          by_cases hl : x.l.length = 0 <;> simp [hl]
        · by_cases h2 : x.k = 2
          · simp only [h1, h2, if_true, if_false]
            by_cases hl : x.l.length = 0
            · cases hna : nameL x.var.data.toList <;> simp [hl, hna]
            · simp [hl]
          · simp only [h1, h2, if_false]
            by_cases h3 : x.k = 3 ∨ x.k = 15
            · have e1 : x.k = 3 ∨ ¬ x.k = 3 := Classical.em _
              by_cases hl : x.l.length = 1
              · rcases h3 with h | h <;> simp [h, hl]
              · have : ¬ (x.l.length : Int) = 1 := by omega
                rcases h3 with h | h <;> simp [h, hl, this]
            · have h3a : ¬ x.k = 3 := fun h => h3 (.inl h)
              have h3b : ¬ x.k = 15 := fun h => h3 (.inr h)
              by_cases h4 : 4 ≤ x.k ∧ x.k ≤ 14
              · by_cases hl : x.l.length = 2
                · simp [h3a, h3b, h4, hl]
                · have : ¬ (x.l.length : Int) = 2 := by omega
                  simp [h3a, h3b, h4, hl, this]
              · by_cases h5 : x.k = 16 ∨ x.k = 17
                · have h4' : ¬ (x.k ≤ 14) := by omega
                  by_cases hl : 2 ≤ x.l.length
                  · have : ¬ (x.l.length : Int) < 2 := by omega
                    rcases h5 with h | h <;> simp [h, hl, this]
                  · have : (x.l.length : Int) < 2 := by omega
                    rcases h5 with h | h <;> simp [h, hl, this]
                · have h5a : ¬ x.k = 16 := fun h => h5 (.inl h)
                  have h5b : ¬ x.k = 17 := fun h => h5 (.inr h)
                  by_cases h6 : 4 ≤ x.k
                  · have : ¬ x.k ≤ 14 := fun h => h4 ⟨h6, h⟩
                    simp [h3a, h3b, h5a, h5b, h6, this]
                  · simp [h3a, h3b, h5a, h5b, h6]
      · simp
    rw [← restR_eq, f60_eq, szX, ob_some]
    simp only [part_f, p0X, p4X, p5X, partXV, bld0, ob_some, v_neq, i_neq, s_neq, f60_c1_9a_eq, f60_c1_9b_eq, f60_c1_22a_eq, f60_c1_22b_eq, f60_c1_22c_eq, f60_c1_22d_eq, f60_c1_23a_eq, f60_c1_23b_eq, f60_c1_23c_eq, f60_c1_23d_eq, j5, cnd_B]
    by_cases h1 : x.k = 1 <;> by_cases h2 : x.k = 2 <;> by_cases h3 : x.v = nullV <;> by_cases h4 : x.var = e0 <;> by_cases h5 : x.fld = e0 <;> simp [h1, h2, h3, h4, h5]
theorem c39 (x : Ex) (hok : allX okX x) (hv : allX vX x) (hs : sizeX x ≤ 1152921504606846975) (H : Heap) (Q : Post) : E 39 [encX x] H Q = Q (I (checkP x)) H := by
  rw [f39_eq, szX, ob_some, partX, ob_some, c59 x hs, checkP_eq x hs]
  simp only [i_gtr, ob_some, partX, c60 x hok hv, not_B, cnd_B, decide_eq_true_eq]
  by_cases h : 100 < sizeX x
  · rw [if_pos (by omega), if_pos h]
  · rw [if_neg (by omega), if_neg h]
    cases allR x <;> rfl
end Go.Hx
