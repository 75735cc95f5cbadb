/- Conditions as texts: what is printed, and its bounds. Own work. -/
import Derived.Test.YtancdapnpceogaaGreatS5P
set_option maxRecDepth 20000
namespace Go.Hx
/-- how loose a condition is -/
def numK (x : Ex) : Bool := decide (x.k = 1) && decide (x.v.k = 2)
def levelX (x : Ex) : Int :=
  if x.k = 17 then 1 else if x.k = 16 then 2 else if x.k = 15 then 3 else if 9 ≤ x.k then 4 else if 6 ≤ x.k then 6 else if 4 ≤ x.k then 5 else if x.k = 3 then 7
  else if numK x && decide (x.v.n < 0) then 7 else 8
def parT (x : Ex) (t : List UInt8) (need : Int) : List UInt8 := if need ≤ levelX x then t else 40 :: (t ++ [41])
def joinR (sep : List UInt8) (need : Int) : List (Ex × List UInt8) → List UInt8
  | [] => []
  | p :: r => sep ++ (parT p.1 p.2 need ++ joinR sep need r)
def joinT (sep : List UInt8) (need : Int) : List (Ex × List UInt8) → List UInt8
  | [] => []
  | p :: r => parT p.1 p.2 need ++ joinR sep need r
def signL : List ByteArray := [⟨#[43]⟩, ⟨#[45]⟩, ⟨#[42]⟩, ⟨#[47]⟩, ⟨#[37]⟩, ⟨#[61]⟩, ⟨#[60, 62]⟩, ⟨#[60]⟩, ⟨#[60, 61]⟩, ⟨#[62]⟩, ⟨#[62, 61]⟩]
def opS (j : Nat) : ByteArray := signL.getD j e0
def sOR : List UInt8 := [32, 79, 82, 32]
def sAND : List UInt8 := [32, 65, 78, 68, 32]
def sNOT : List UInt8 := [78, 79, 84, 32]
def numP (y : Ex) : Bool := numK y && decide (0 ≤ y.v.n)
def need1 (k : Int) : Int := if 9 ≤ k then 5 else if 6 ≤ k then 6 else 5
def need2 (k : Int) : Int := if 9 ≤ k then 5 else if 6 ≤ k then 7 else 6
def bodyT (k : Int) (v : Vl) (var fld : ByteArray) (ps : List (Ex × List UInt8)) : List UInt8 :=
  if k = 1 then valT v else if k = 2 then tx var ++ (46 :: tx fld)
  else if k = 3 then (match ps with
    | p :: _ => 45 :: (if numP p.1 = true then 40 :: (parT p.1 p.2 1 ++ [41]) else parT p.1 p.2 7)
    | [] => [])
  else if k = 17 then joinT sOR 2 ps
  else if k = 16 then joinT sAND 3 ps
  else if k = 15 then (match ps with
    | p :: _ => sNOT ++ parT p.1 p.2 3
    | [] => [])
  else (match ps with
    | p :: q :: _ => parT p.1 p.2 (need1 k) ++ ((32 :: (tx (opS (k - 4).toNat) ++ [32])) ++ parT q.1 q.2 (need2 k))
    | _ => [])
mutual
def bareT : Ex → List UInt8
  | .mk k v var fld _ _ _ l => bodyT k v var fld (bareTs l)
def bareTs : List Ex → List (Ex × List UInt8)
  | [] => []
  | x :: r => (x, bareT x) :: bareTs r
end
theorem bareT_eq (x : Ex) : bareT x = bodyT x.k x.v x.var x.fld (bareTs x.l) := by cases x; simp [bareT, Ex.k, Ex.v, Ex.var, Ex.fld, Ex.l]
theorem bareTs_map (l : List Ex) : bareTs l = l.map fun y => (y, bareT y) := by
  induction l with
  | nil => simp [bareTs]
  | cons x r ih => simp [bareTs, ih]
def exprT (x : Ex) (need : Int) : List UInt8 := parT x (bareT x) need
theorem parT_len (x : Ex) (t : List UInt8) (need : Int) : (parT x t need).length ≤ t.length + 2 := by
  simp only [parT]
  split <;> simp
theorem sign_len (j : Nat) : (tx (opS j)).length ≤ 2 := by
  match j with
  | 0 | 1 | 2 | 3 | 4 | 5 | 6 | 7 | 8 | 9 | 10 => simp [opS, signL, tx]
  | n + 11 => simp [opS, signL, tx]
theorem name_len {s : ByteArray} (h : nameL s.data.toList = true) : (tx s).length ≤ 32 := by
  cases hs : s.data.toList with
  | nil => rw [hs] at h; cases h
  | cons c r =>
    rw [hs] at h
    simp only [nameL, Bool.and_eq_true, decide_eq_true_eq] at h
    simp only [tx, hs]; omega
theorem bare_len (x : Ex) (hv : allX vX x) (hr : allR x = true) : (bareT x).length + 10 ≤ 1100 * sizeX x := by
  induction x using Ex.ind with
  | h x ih =>
    rw [allX_eq] at hv
    rw [allR_eq, Bool.and_eq_true] at hr
    have hch : ∀ y ∈ x.l, (bareT y).length + 10 ≤ 1100 * sizeX y := fun y hy => ih y hy (allXs_mem hv.2 hy) (allRs_mem hr.2 hy)
    have hsum : ∀ (r : List Ex) (sep : List UInt8) (need : Int), sep.length ≤ 5 → (∀ y ∈ r, y ∈ x.l) → (joinR sep need (bareTs r)).length ≤ 1100 * sizeXs r := by
      intro r sep need hsep
      induction r with
      | nil => intro _; simp [bareTs, joinR]
      | cons y r ihr =>
        intro hy
        have h1 := hch y (hy y (by simp))
        have h2 := ihr (fun z hz => hy z (by simp [hz]))
        have h3 := parT_len y (bareT y) need
        simp only [bareTs, joinR, sizeXs, List.length_append]
        omega
    have hjoin : ∀ (sep : List UInt8) (need : Int), sep.length ≤ 5 → (joinT sep need (bareTs x.l)).length ≤ 1100 * sizeXs x.l + 10 := by
      intro sep need hsep
      cases hl : x.l with
      | nil => simp [bareTs, joinT]
      | cons y r =>
        have h1 := hch y (by rw [hl]; simp)
        have h2 := hsum r sep need hsep (fun z hz => by rw [hl]; simp [hz])
        have h3 := parT_len y (bareT y) need
        simp only [bareTs, joinT, sizeXs, List.length_append]
        omega
    rw [bareT_eq, sizeX_eq]
    unfold bodyT
    split
    · rename_i hk
      have : rightV x.v = true := by
        have := hr.1
        simp only [rightP, hk, if_true, Bool.and_eq_true] at this
        exact this.2.1
      have := valT_len hv.1 this
      omega
    · split
      · rename_i h1 hk
        have hn : nameL x.var.data.toList = true ∧ nameL x.fld.data.toList = true := by
          have := hr.1
          simp only [rightP, h1, hk, if_false, if_true, Bool.and_eq_true] at this
          have h' := this
          simp only [show ¬ ((2 : Int) = 1) by omega, if_false, Bool.and_eq_true] at h'
          exact h'.2.2
        have a1 := name_len hn.1
        have a2 := name_len hn.2
        simp only [List.length_append, List.length_cons]
        omega
      · split
        · cases hl : x.l with
          | nil => simp [bareTs, sizeXs]
          | cons y r =>
            have h1 := hch y (by rw [hl]; simp)
            have h3 := parT_len y (bareT y) 1
            have h4 := parT_len y (bareT y) 7
            simp only [bareTs, sizeXs]
            split <;> simp only [List.length_cons, List.length_append, List.length_nil] <;> omega
        · split
          · have := hjoin sOR 2 (by simp [sOR]); omega
          · split
            · have := hjoin sAND 3 (by simp [sAND]); omega
            · split
              · cases hl : x.l with
                | nil => simp [bareTs, sizeXs]
                | cons y r =>
                  have h1 := hch y (by rw [hl]; simp)
                  have h3 := parT_len y (bareT y) 3
                  simp only [bareTs, sizeXs, sNOT, List.length_cons, List.length_append, List.length_nil]; omega
              · cases hl : x.l with
                | nil => simp [bareTs, sizeXs]
                | cons y r =>
                  cases hr2 : r with
                  | nil => simp [bareTs, sizeXs]; omega
                  | cons z r2 =>
                    have h1 := hch y (by rw [hl]; simp)
                    have h2 := hch z (by rw [hl, hr2]; simp)
                    have h3 := parT_len y (bareT y) (need1 x.k)
                    have h4 := parT_len z (bareT z) (need2 x.k)
                    have h5 := sign_len (x.k - 4).toNat
                    simp only [bareTs, sizeXs, List.length_cons, List.length_append, List.length_nil]; omega
theorem expr_len (x : Ex) (hv : allX vX x) (hr : allR x = true) (need : Int) : (exprT x need).length + 8 ≤ 1100 * sizeX x := by
  have h1 := bare_len x hv hr
  have h2 := parT_len x (bareT x) need
  simp only [exprT]; omega
/-! ### Levels -/
theorem partV1 (x : Ex) : (encC x)[1]? = some (I x.v.k) := by rw [encC_eq]; rfl
theorem partV2 (x : Ex) : (encC x)[2]? = some (I x.v.n) := by rw [encC_eq]; rfl
theorem c192 (x : Ex) (H : Heap) (Q : Post) : E 192 [encX x] H Q = Q (.tup [I x.v.n, B (numK x)]) H := by
  simp only [f192_eq, f192_j4_eq, szX, ob_some, part_f, p0X, partV1, partV2, i_eql, cnd_B, numK]
  by_cases h : x.k = 1 <;> simp [h]
theorem c112 (x : Ex) (H : Heap) (Q : Post) : E 112 [encX x] H Q = Q (I (levelX x)) H := by
  simp only [f112_eq, f112_j52_eq, szX, partX, ob_some, part_f, p0X, i_eql, i_geq, i_lss, c192, x20, x21, cnd_B, levelX]
  by_cases h17 : x.k = 17
  · simp [h17]
  by_cases h16 : x.k = 16
  · simp [h16]
  by_cases h15 : x.k = 15
  · simp [h15]
  by_cases h9 : 9 ≤ x.k
  · simp [h17, h16, h15, h9]
  by_cases h6 : 6 ≤ x.k
  · simp [h17, h16, h15, h9, h6]
  by_cases h4 : 4 ≤ x.k
  · simp [h17, h16, h15, h9, h6, h4]
  by_cases h3 : x.k = 3
  · simp [h3]
  cases numK x
  · simp [h17, h16, h15, h9, h6, h4, h3]
  · by_cases hn : x.v.n < 0 <;> simp [h17, h16, h15, h9, h6, h4, h3, hn]
theorem c115 (x : Ex) (h1 : 1 ≤ x.k) (h2 : x.k ≤ 17) (H : Heap) (Q : Post) : E 115 [encX x] H Q = Q (I (levelX x)) H := by
  simp only [f115_eq, f115_j24_eq, f115_j30_eq, f115_j36_eq, f115_j42_eq, f115_c13_13a_eq, f115_c13_13b_eq, f115_c13_13c_eq, f115_c13_19a_eq, f115_c13_19b_eq, f115_c13_19c_eq, f115_c13_20a_eq, f115_c13_20b_eq, f115_c13_20c_eq, szX, ob_some, part_f, p0X, partV1, partV2, i_eql, i_geq, i_leq, i_lss, cnd_B, levelX, numK]
  by_cases h17 : x.k = 17
  · simp [h17]
  by_cases h16 : x.k = 16
  · simp [h16]
  by_cases h15 : x.k = 15
  · simp [h15]
  by_cases h9 : 9 ≤ x.k
  · have : x.k ≤ 14 := by omega
    simp [h17, h16, h15, h9, this]
  by_cases h6 : 6 ≤ x.k
  · have a : ¬ x.k = 4 := by omega
    have b : ¬ x.k = 5 := by omega
    have c : x.k ≤ 8 := by omega
    simp [h17, h16, h15, h9, h6, a, b, c]
  by_cases h4 : 4 ≤ x.k
  · have a : x.k = 4 ∨ x.k = 5 := by omega
    rcases a with a | a <;> simp [a]
  have a : ¬ x.k = 4 := by omega
  have b : ¬ x.k = 5 := by omega
  by_cases h3 : x.k = 3
  · simp [h3]
  by_cases hk : x.k = 1
  · by_cases hv : x.v.k = 2
    · by_cases hn : x.v.n < 0 <;> simp [hk, hv, hn]
    · simp [hk, hv]
  · simp [h17, h16, h15, h9, h6, h4, h3, a, b, hk]
/-- a node that may be is of one of these kinds -/
theorem right_k {x : Ex} (h : rightP x = true) : 1 ≤ x.k ∧ x.k ≤ 17 := by
  simp only [rightP] at h
  split at h
  · omega
  · split at h
    · omega
    · split at h
      · cases h
      · split at h
        · omega
        · split at h
          · omega
          · simp [isRowP] at h; omega
theorem strT_tx (s : ByteArray) : S s = strT (tx s) := rfl
end Go.Hx
