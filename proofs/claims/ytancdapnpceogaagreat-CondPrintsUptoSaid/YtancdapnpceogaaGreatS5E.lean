/- Contracts of the document's layers 6 and 9 in this seat: may a condition be, how big is it. Own work (turned from S3U, S3J, S3K, S3V, S3X). -/
import Derived.Test.YtancdapnpceogaaGreatS5D
set_option maxRecDepth 20000
namespace Go.Hx
def rng (n : Int) : Prop := -9223372036854775808 ≤ n ∧ n ≤ 9223372036854775807
theorem w64_rng (n : Int) : rng (W64 n) := by
  have hb : IntKind.i64.bits = 64 := rfl
  have hs : IntKind.i64.signed = true := rfl
  simp only [W64, IntKind.wrap, hb, hs, Bool.true_and, decide_eq_true_eq, rng]
  split <;> omega
/-- a wrapped number is another one by so many rounds -/
theorem w64_mod (n : Int) : ∃ k : Int, W64 n = n + k * 18446744073709551616 := by
  have hb : IntKind.i64.bits = 64 := rfl
  have hs : IntKind.i64.signed = true := rfl
  simp only [W64, IntKind.wrap, hb, hs, Bool.true_and, decide_eq_true_eq]
  split
  · exact ⟨-(n / 18446744073709551616) - 1, by omega⟩
  · exact ⟨-(n / 18446744073709551616), by omega⟩
theorem toInt_of {n : Int} (h : rng n) : (BitVec.ofInt 64 n).toInt = n := by
  obtain ⟨h1, h2⟩ := h
  rw [BitVec.toInt_ofInt]
  exact Int.bmod_eq_of_le (by omega) (by omega)
theorem wrap_bv (x : BitVec 64) : W64 (x.toNat : Int) = x.toInt := by
  have hb : IntKind.i64.bits = 64 := rfl
  have hs : IntKind.i64.signed = true := rfl
  have hx := x.isLt
  simp only [W64, IntKind.wrap, hb, hs, Bool.true_and, decide_eq_true_eq]
  rw [BitVec.toInt_eq_toNat_cond]
  split <;> split <;> omega
theorem and_not1 {n : Int} (h : rng n) : bitsI .andNot .i64 n 1 = 0 ↔ (n = 0 ∨ n = 1) := by
  have e : bitsI .andNot .i64 n 1 = (BitVec.ofInt 64 n &&& ~~~BitVec.ofInt 64 1).toInt := wrap_bv _
  rw [e]
  constructor
  · intro h0
    have h1 : BitVec.ofInt 64 n &&& ~~~BitVec.ofInt 64 1 = 0#64 := BitVec.eq_of_toInt_eq (by rw [h0]; rfl)
    have hx : BitVec.ofInt 64 n = 0#64 ∨ BitVec.ofInt 64 n = 1#64 := by
      generalize BitVec.ofInt 64 n = x at h1
      have hi : ∀ i, 0 < i → x.getLsbD i = false := fun i hi => by
        rcases Nat.lt_or_ge i 64 with hlt | hge
        · have := congrArg (fun y => y.getLsbD i) h1
          have o1 : (BitVec.ofInt 64 1).getLsbD i = false := by
            show (1#64).getLsbD i = false
            rw [BitVec.getLsbD_one]; simp; omega
          simp only [BitVec.getLsbD_and, BitVec.getLsbD_not, o1, hlt, decide_true, Bool.true_and, Bool.not_false, Bool.and_true, BitVec.getLsbD_zero] at this
          exact this
        · exact BitVec.getLsbD_of_ge _ _ hge
      cases h0 : x.getLsbD 0 with
      | false =>
        left
        apply BitVec.eq_of_getLsbD_eq
        intro i _
        rw [BitVec.getLsbD_zero]
        cases i with
        | zero => exact h0
        | succ i => exact hi _ (by omega)
      | true =>
        right
        apply BitVec.eq_of_getLsbD_eq
        intro i _
        rw [BitVec.getLsbD_one]
        cases i with
        | zero => rw [h0]; rfl
        | succ i => rw [hi _ (by omega)]; simp
    have ht := toInt_of h
    rcases hx with hx | hx
    · left; rw [hx] at ht; exact ht.symm
    · right; rw [hx] at ht; exact ht.symm
  · rintro (rfl | rfl) <;> decide
theorem sz3 (v : Vl) : sizedA 3 (encV v) = some [I v.k, I v.n, S v.s] := rfl
mutual
/-- may all nodes be -/
def allR : Ex → Bool
  | .mk k v var fld sz nil tip l => rightP (.mk k v var fld sz nil tip l) && allRs l
def allRs : List Ex → Bool
  | [] => true
  | x :: r => allR x && allRs r
end
theorem allR_eq (x : Ex) : allR x = (rightP x && allRs x.l) := by cases x; simp [allR, Ex.l]
theorem allRs_mem {l : List Ex} (h : allRs l = true) {x : Ex} (hx : x ∈ l) : allR x = true := by
  induction l with
  | nil => cases hx
  | cons y r ih =>
    simp only [allRs, Bool.and_eq_true] at h
    cases hx with
    | head => exact h.1
    | tail _ hx => exact ih h.2 hx
/-- of a node that may be and has parts -/
theorem rightP_len {x : Ex} (h : rightP x = true) (h1 : x.k ≠ 1) (h2 : x.k ≠ 2) : (x.k = 3 ∧ x.l.length = 1) ∨ (x.k = 15 ∧ x.l.length = 1) ∨ (4 ≤ x.k ∧ x.k ≤ 14 ∧ x.l.length = 2) ∨ ((x.k = 16 ∨ x.k = 17) ∧ 2 ≤ x.l.length) := by
  simp only [rightP, if_neg h1, if_neg h2] at h
  split at h
  · cases h
  · split at h
    · rename_i h3; simp at h; omega
    · split at h
      · rename_i h3; simp at h; omega
      · simp [isRowP] at h; omega
theorem stepC_all (x : Ex) : ∀ (s : Int × Bool) (d : Int), (foldX stepC s d x).2 = (s.2 && allR x) := by
  induction x using Ex.ind with
  | h x ih =>
    intro s d
    rw [foldX_eq, allR_eq]
    have : ∀ (r : List Ex), (∀ y ∈ r, y ∈ x.l) → ∀ (s : Int × Bool) (d : Int), (foldXs stepC s d r).2 = (s.2 && allRs r) := by
      intro r
      induction r with
      | nil => intro _ s d; simp [foldXs, allRs]
      | cons y r ihr =>
        intro hy s d
        simp only [foldXs, allRs]
        rw [ihr (fun z hz => hy z (by simp [hz])), ih y (hy y (by simp)), Bool.and_assoc]
    rw [this x.l (fun _ h => h)]
    simp only [stepC, Bool.and_assoc]
theorem sizeX_eq (x : Ex) : sizeX x = 1 + sizeXs x.l := by cases x; simp [sizeX, Ex.l]
theorem stepC_size (x : Ex) : ∀ (n : Nat) (b : Bool) (d : Int), n + sizeX x ≤ 1152921504606846976 → (foldX stepC ((n : Int), b) d x).1 = ((n + sizeX x : Nat) : Int) := by
  induction x using Ex.ind with
  | h x ih =>
    intro n b d hn
    rw [sizeX_eq] at hn
    have : ∀ (r : List Ex), (∀ y ∈ r, y ∈ x.l) → ∀ (n : Nat) (b : Bool) (d : Int), n + sizeXs r ≤ 1152921504606846976 → (foldXs stepC ((n : Int), b) d r).1 = ((n + sizeXs r : Nat) : Int) := by
      intro r
      induction r with
      | nil => intro _ n b d _; simp [foldXs, sizeXs]
      | cons y r ihr =>
        intro hy n b d hn
        simp only [foldXs, sizeXs] at hn ⊢
        have h1 := ih y (hy y (by simp)) n b d (by omega)
        have h2 : foldX stepC ((n : Int), b) d y = (((n + sizeX y : Nat) : Int), (foldX stepC ((n : Int), b) d y).2) := by rw [← h1]
        rw [h2, ihr (fun z hz => hy z (by simp [hz])) _ _ _ (by omega)]
        congr 1; omega
    rw [foldX_eq, sizeX_eq]
    have h3 : stepC ((n : Int), b) d x = (((n + 1 : Nat) : Int), b && rightP x) := by
      simp only [stepC]
      rw [w64_id (by omega) (by omega)]; rfl
    rw [h3, this x.l (fun _ h => h) _ _ _ (by omega)]
    congr 1; omega
theorem checkP_eq (x : Ex) (h : sizeX x ≤ 1152921504606846975) : checkP x = if 100 < sizeX x then 2 else if allR x = false then 1 else 0 := by
  have h1 := stepC_size x 0 true 1 (by omega)
  have h2 := stepC_all x (0, true) 1
  simp only [Bool.true_and] at h2
  simp only [checkP, h2]
  have : (foldX stepC (0, true) 1 x).1 = ((sizeX x : Nat) : Int) := by simpa using h1
  rw [this]
  by_cases h3 : 100 < sizeX x
  · rw [if_pos (by omega), if_pos h3]
  · rw [if_neg (by omega), if_neg h3]
theorem checkP_all {x : Ex} (h : checkP x = 0) : allR x = true := by
  have h2 := stepC_all x (0, true) 1
  simp only [Bool.true_and] at h2
  simp only [checkP, h2] at h
  split at h
  · cases h
  · split at h
    · cases h
    · rename_i h3; simpa using h3
/-- a value's number is one -/
def vr (v : Vl) : Prop := rng v.n
theorem rightV_eq {v : Vl} (h : vr v) : rightV v = (if v.k = 0 then decide (v.n = 0) && decide (v.s = e0) else if v.k = 1 then (decide (v.n = 0) || decide (v.n = 1)) && decide (v.s = e0) else if v.k = 2 then decide (v.s = e0)
    else if v.k = 3 then decide (v.n = 0) && decide ((v.s.size : Int) ≤ 256) else false) := by
  simp only [rightV]
  split
  · rename_i hk
    cases v with | mk k n s =>
    simp only at hk
    subst hk
    rw [Bool.eq_iff_iff]; simp [nullV]
  · split
    · rw [Bool.eq_iff_iff]
      simp only [Bool.and_eq_true, decide_eq_true_eq, Bool.or_eq_true, and_not1 h]
      exact and_comm
    · rfl
theorem c190 (v : Vl) (hv : vr v) (H : Heap) (Q : Post) : E 190 [encV v] H Q = Q (B (rightV v)) H := by
  rw [rightV_eq hv]
  simp only [f190_eq, sz3, part_f, ob_some, i_eql, cnd_B, s_eql, len_S, i_leq, f190_j11_eq, f190_j17_eq, f190_j29_eq, List.getElem?_cons_zero, List.getElem?_cons_succ, decide_eq_true_eq]
  repeat' split
  all_goals first | rfl | (simp_all; done) | (exfalso; simp_all; done)
theorem bld0 : bldA [] [I 0, I 0, S e0] = some (encV nullV) := rfl
theorem v_neq (t : Bool) (v w : Vl) : binA Pg .neq 23 t (encV v) (encV w) = some (B (!decide (v = w))) := by
  have h0 : binA Pg .neq 23 t (encV v) (encV w) = (eqT Pg 4 23 (encV v) (encV w)).map fun r => .raw (.bool (!r)) := by
    have := v_ok t v w
    simp only [encV] at this ⊢
    simp only [binA, this]
  have h1 := v_eql t v w
  rw [v_eql0] at h1
  rw [h0]
  cases hr : eqT Pg 4 23 (encV v) (encV w) with
  | none => rw [hr] at h1; cases h1
  | some r =>
    rw [hr] at h1
    simp only [Option.map_some, Option.some.injEq, B, AV.raw.injEq, Value.bool.injEq] at h1
    simp only [Option.map_some, h1]
    rfl
theorem p0X (x : Ex) : (encC x)[0]? = some (I x.k) := by rw [encC_eq]; rfl
theorem p4X (x : Ex) : (encC x)[4]? = some (S x.var) := by rw [encC_eq]; rfl
theorem p5X (x : Ex) : (encC x)[5]? = some (S x.fld) := by rw [encC_eq]; rfl
theorem p6X (x : Ex) : (encC x)[6]? = some (encXs x.sz x.nil x.tip x.l) := by rw [encC_eq]; rfl
/-! ### Size -/
theorem sizeXs_append (l r : List Ex) : sizeXs (l ++ r) = sizeXs l + sizeXs r := by
  induction l with
  | nil => simp [sizeXs]
  | cons x l ih => simp only [List.cons_append, sizeXs, ih]; omega
theorem one_le_sizeX (x : Ex) : 1 ≤ sizeX x := by rw [sizeX_eq]; omega
theorem len_sizeXs (l : List Ex) : l.length ≤ sizeXs l := by
  induction l with
  | nil => simp [sizeXs]
  | cons x l ih => have := one_le_sizeX x; simp only [List.length_cons, sizeXs]; omega
theorem c23 (x : Ex) : sizeX x ≤ 1152921504606846975 → ∀ (H : Heap) (Q : Post), E 23 [encX x] H Q = Q (I (sizeX x)) H := by
  induction x using Ex.ind with
  | h x ih =>
    intro hs H Q
    have hs' := hs
    rw [sizeX_eq] at hs'
    have loop : ∀ (r pre : List Ex), x.l = pre ++ r → f23_l8 (encC x) (I ((1 + sizeXs pre : Nat) : Int)) (I pre.length) H Q = Q (I (sizeX x)) H := by
      intro r
      induction r with
      | nil =>
        intro pre e
        have h1 : (pre.length : Int) = x.l.length := by rw [e]; simp
        have h2 : pre = x.l := by rw [e]; simp
        rw [f23_l8_eq, part_f, p6X, ob_some, lenX, ob_some, i_lss, ob_some, cnd_B, h1, sizeX_eq, h2]
        simp
      | cons y r ihr =>
        intro pre e
        have hlt : pre.length < x.l.length := by rw [e]; simp
        have hlt' : (pre.length : Int) < x.l.length := by omega
        have hl := len_sizeXs x.l
        have hsum : sizeXs pre + (sizeX y + sizeXs r) = sizeXs x.l := by rw [e, sizeXs_append]; rfl
        have := ihr (pre ++ [y]) (by simp [e])
        rw [List.length_append, List.length_singleton, sizeXs_append] at this
        rw [f23_l8_eq, part_f, p6X, ob_some, lenX, ob_some, i_lss, ob_some, cnd_B, if_pos (by simpa using hlt'), ob_some, ixX x.l x.sz x.nil x.tip pre r y e, ob_some, partX, ob_some, ih y (by rw [e]; simp) (by omega), i_add, ob_some, i_add, ob_some, w64_succ hlt (by omega),
          w64_id (by omega) (by omega)]
        rw [← this]
        congr 2
        simp only [sizeXs]
        omega
    rw [f23_eq, szX, ob_some]
    exact loop x.l [] rfl
/-! ### right -/
def partOK (k : Int) (y : Ex) : Bool := allR y && !(isRowP k && decide (y.k = k))
theorem all_part (k : Int) (l : List Ex) : l.all (partOK k) = (allRs l && !(isRowP k && l.any fun y => decide (y.k = k))) := by
  induction l with
  | nil => simp [allRs]
  | cons y r ih =>
    simp only [List.all_cons, List.any_cons, allRs, ih, partOK]
    cases allR y <;> cases allRs r <;> cases isRowP k <;> cases decide (y.k = k) <;> cases (r.any fun y => decide (y.k = k)) <;> rfl
def restR (x : Ex) : Bool :=
  if x.k = 1 then decide (x.l.length = 0) && rightV x.v
  else if x.k = 2 then decide (x.l.length = 0) && (nameL x.var.data.toList && nameL x.fld.data.toList)
  else if x.k = 3 ∨ x.k = 15 then decide (x.l.length = 1) && x.l.all (partOK x.k)
  else if 4 ≤ x.k ∧ x.k ≤ 14 then decide (x.l.length = 2) && x.l.all (partOK x.k)
  else if x.k = 16 ∨ x.k = 17 then decide (2 ≤ x.l.length) && x.l.all (partOK x.k)
  else false
theorem restR_eq (x : Ex) : (if (x.k ≠ 1 ∧ x.v ≠ nullV) ∨ (x.k ≠ 2 ∧ (x.var ≠ e0 ∨ x.fld ≠ e0)) then false else restR x) = allR x := by
  rw [allR_eq]
  simp only [restR, rightP, all_part, bareP]
  have hnil : x.l.length = 0 → allRs x.l = true := fun h => by rw [List.eq_nil_of_length_eq_zero h]; rfl
  by_cases h1 : x.k = 1
  · simp only [h1]
    by_cases hv : x.var = e0 <;> by_cases hf : x.fld = e0 <;> by_cases hl : x.l.length = 0 <;> simp [hv, hf, hl, hnil]
  · by_cases h2 : x.k = 2
    · simp only [h2]
      by_cases hv : x.v = nullV <;> by_cases hl : x.l.length = 0 <;> simp [hv, hl, hnil]
    · by_cases hb : x.v = nullV ∧ x.var = e0 ∧ x.fld = e0
      · have hc : ¬ ((x.k ≠ 1 ∧ x.v ≠ nullV) ∨ (x.k ≠ 2 ∧ (x.var ≠ e0 ∨ x.fld ≠ e0))) := by simp [hb]
        rw [if_neg hc]
        simp only [h1, h2, if_false, hb.1, hb.2.1, hb.2.2, decide_true, Bool.and_self, Bool.true_eq_false]
        by_cases h3 : x.k = 3 ∨ x.k = 15
        · have hr : isRowP x.k = false := by rcases h3 with h | h <;> simp [isRowP, h]
          simp [h3, hr]
        · by_cases h4 : 4 ≤ x.k ∧ x.k ≤ 14
          · have hr : isRowP x.k = false := by simp [isRowP]; omega
            simp [h3, h4, hr]
          · by_cases h5 : x.k = 16 ∨ x.k = 17
            · have hr : isRowP x.k = true := by rcases h5 with h | h <;> simp [isRowP, h]
              simp only [h3, h4, h5, hr, if_true, if_false, Bool.true_and]
              cases allRs x.l <;> cases (x.l.any fun y => decide (y.k = x.k)) <;> cases decide (2 ≤ x.l.length) <;> rfl
            · have hr : isRowP x.k = false := by simp [isRowP]; omega
              simp [h3, h4, h5, hr]
      · have hc : (x.k ≠ 1 ∧ x.v ≠ nullV) ∨ (x.k ≠ 2 ∧ (x.var ≠ e0 ∨ x.fld ≠ e0)) := by
          by_cases hv : x.v = nullV
          · by_cases hx : x.var = e0
            · by_cases hf : x.fld = e0
              · exact absurd ⟨hv, hx, hf⟩ hb
              · exact .inr ⟨h2, .inr hf⟩
            · exact .inr ⟨h2, .inl hx⟩
          · exact .inl ⟨h1, hv⟩
        rw [if_pos hc]
        have : (decide (x.v = nullV) && (decide (x.var = e0) && decide (x.fld = e0))) = false := by
          rw [Bool.eq_false_iff]; simp only [ne_eq, Bool.and_eq_true, decide_eq_true_eq]; exact hb
        simp [h1, h2, this]
def vX (x : Ex) : Prop := vr x.v
theorem c111 (x : Ex) : allX okX x → allX vX x → ∀ (H : Heap) (Q : Post), E 111 [encX x] H Q = Q (B (allR x)) H := by
  induction x using Ex.ind with
  | h x ih =>
    intro hok hvx H Q
    have hok' := (allX_eq _ _).1 hok
    have hvx' := (allX_eq _ _).1 hvx
    have hn : x.l.length ≤ 1099511627776 := hok'.1.1
    have loop : ∀ (r pre : List Ex), x.l = pre ++ r → f111_l63 (encC x) (I x.l.length) (I pre.length) H Q = Q (B (r.all (partOK x.k))) H := by
      intro r
      induction r with
      | nil =>
        intro pre e
        have h1 : (pre.length : Int) = x.l.length := by rw [e]; simp
        rw [f111_l63_eq, i_lss, ob_some, cnd_B, h1]
        simp
      | cons y r ihr =>
        intro pre e
        have hlt : pre.length < x.l.length := by rw [e]; simp
        have hlt' : (pre.length : Int) < x.l.length := by omega
        have hy := ih y (by rw [e]; simp) (allXs_mem hok'.2 (by rw [e]; simp)) (allXs_mem hvx'.2 (by rw [e]; simp))
        have ih2 := ihr (pre ++ [y]) (by simp [e])
        rw [List.length_append, List.length_singleton] at ih2
        have p0' : ((encC y).drop 0)[0]? = some (I y.k) := p0X y
        have j74 : ∀ b : Bool, f111_j74 (encC x) (I x.l.length) (I pre.length) (B b) H Q = Q (B (!b && r.all (partOK x.k))) H := fun b => by
          rw [f111_j74_eq, cnd_B, i_add, ob_some, w64_succ hlt (by omega), ih2]
          cases b <;> rfl
        rw [f111_l63_eq, i_lss, ob_some, cnd_B, if_pos (by simpa using hlt'), part_f, p6X, ob_some, ixX x.l x.sz x.nil x.tip pre r y e, ob_some, partX, ob_some, hy]
        simp only [not_B, ob_some, part_f, p0X, p6X, p0', ixX x.l x.sz x.nil x.tip pre r y e, i_eql, f111_c21_16a_eq, f111_c21_16b_eq, f111_c21_16c_eq, f111_c21_27a_eq, f111_c21_27b_eq, f111_c21_27c_eq, j74, cnd_B, List.all_cons, partOK, isRowP]
        cases allR y
        · simp
        · by_cases h16 : x.k = 16
          · simp [h16]
          · by_cases h17 : x.k = 17
            · simp [h17]
            · simp [h16, h17]
    have j5 : ∀ b : Bool, f111_j5 (encC x) (B b) H Q = Q (B (if b = true then false else restR x)) H := fun b => by
      have l0 := loop x.l [] rfl
      have l0' : f111_l63 (encC x) (I x.l.length) (I 0) H Q = Q (B (x.l.all (partOK x.k))) H := l0
      simp only [f111_j5_eq, f111_j19_eq, f111_j25_eq, f111_j28_eq, f111_j38_eq, f111_j48_eq, part_f, p0X, p4X, p5X, p6X, partXV, ob_some, lenX, i_eql, i_neq, i_geq, i_leq, i_lss, c190 x.v hvx'.1, c191 x.var hok'.1.2.1, c191 x.fld hok'.1.2.2, l0', cnd_B, restR, decide_eq_true_eq, len0, len1, len2]
      cases b
      · simp only [Bool.false_eq_true, if_false]
        by_cases h1 : x.k = 1
        · simp only [h1, if_true]
          by_cases hl : x.l.length = 0 <;> simp [hl]
        · by_cases h2 : x.k = 2
          · simp only [h1, h2, if_true, if_false]
            by_cases hl : x.l.length = 0
            · cases hna : nameL x.var.data.toList <;> simp [hl, hna]
            · simp [hl]
          · simp only [h1, h2, if_false]
            by_cases h3 : x.k = 3 ∨ x.k = 15
            · have e1 : x.k = 3 ∨ ¬ x.k = 3 := Classical.em _
              by_cases hl : x.l.length = 1
              · rcases h3 with h | h <;> simp [h, hl]
              · have : ¬ (x.l.length : Int) = 1 := by omega
                rcases h3 with h | h <;> simp [h, hl, this]
            · have h3a : ¬ x.k = 3 := fun h => h3 (.inl h)
              have h3b : ¬ x.k = 15 := fun h => h3 (.inr h)
              by_cases h4 : 4 ≤ x.k ∧ x.k ≤ 14
              · by_cases hl : x.l.length = 2
                · simp [h3a, h3b, h4, hl]
                · have : ¬ (x.l.length : Int) = 2 := by omega
                  simp [h3a, h3b, h4, hl, this]
              · by_cases h5 : x.k = 16 ∨ x.k = 17
                · have h4' : ¬ (x.k ≤ 14) := by omega
                  by_cases hl : 2 ≤ x.l.length
                  · have : ¬ (x.l.length : Int) < 2 := by omega
                    rcases h5 with h | h <;> simp [h, hl, this]
                  · have : (x.l.length : Int) < 2 := by omega
                    rcases h5 with h | h <;> simp [h, hl, this]
                · have h5a : ¬ x.k = 16 := fun h => h5 (.inl h)
                  have h5b : ¬ x.k = 17 := fun h => h5 (.inr h)
                  by_cases h6 : 4 ≤ x.k
                  · have : ¬ x.k ≤ 14 := fun h => h4 ⟨h6, h⟩
                    simp [h3a, h3b, h5a, h5b, h6, this]
                  · simp [h3a, h3b, h5a, h5b, h6]
      · simp
    rw [← restR_eq, f111_eq, szX, ob_some]
    simp only [part_f, p0X, p4X, p5X, partXV, bld0, ob_some, v_neq, i_neq, s_neq, f111_c1_9a_eq, f111_c1_9b_eq, f111_c1_22a_eq, f111_c1_22b_eq, f111_c1_22c_eq, f111_c1_22d_eq, f111_c1_23a_eq, f111_c1_23b_eq, f111_c1_23c_eq, f111_c1_23d_eq, j5, cnd_B]
    by_cases h1 : x.k = 1 <;> by_cases h2 : x.k = 2 <;> by_cases h3 : x.v = nullV <;> by_cases h4 : x.var = e0 <;> by_cases h5 : x.fld = e0 <;> simp [h1, h2, h3, h4, h5]
theorem c51 (x : Ex) (hok : allX okX x) (hv : allX vX x) (hs : sizeX x ≤ 1152921504606846975) (H : Heap) (Q : Post) : E 51 [encX x] H Q = Q (I (checkP x)) H := by
  rw [f51_eq, szX, ob_some, partX, ob_some, c23 x hs, checkP_eq x hs]
  simp only [i_gtr, ob_some, partX, c111 x hok hv, not_B, cnd_B, decide_eq_true_eq]
  by_cases h : 100 < sizeX x
  · rw [if_pos (by omega), if_pos h]
  · rw [if_neg (by omega), if_neg h]
    cases allR x <;> rfl
end Go.Hx
