/- The law EvalOver over the abstract machine. Own work (session 2). -/
import Derived.Test.YthhghcekcgonnaaS3M
set_option maxRecDepth 20000
namespace Go.Hx
def twoX (k : Int) (x y : Ex) : Ex := nodeX k 7 false .full [x, y]
theorem reckon_err (k a b : Int) : (reckonN k a b).2 = 0 ∨ (reckonN k a b).2 = 10 := by
  simp only [reckonN, negN, addN, subN, mulN, divN, modN]
  repeat' split
  all_goals first | exact .inl rfl | exact .inr rfl
theorem right_two {k : Int} (h1 : 4 ≤ k) (h2 : k ≤ 14) (x y : Ex) : rightP (twoX k x y) = true := by
  have hb : bareP (twoX k x y) = true := by simp [bareP, twoX, nodeX, Ex.v, Ex.var, Ex.fld]
  have hk : (twoX k x y).k = k := rfl
  simp only [rightP, hk, hb]
  rw [if_neg (by omega), if_neg (by omega), if_neg (by simp), if_neg (by omega), if_pos ⟨h1, h2⟩]
  rfl
theorem allR_two {k : Int} (h1 : 4 ≤ k) (h2 : k ≤ 14) {x y : Ex} (hx : allR x = true) (hy : allR y = true) : allR (twoX k x y) = true := by
  rw [allR_eq, right_two h1 h2]
  simp [twoX, nodeX, Ex.l, allRs, hx, hy]
theorem size_two (k : Int) (x y : Ex) : sizeX (twoX k x y) = 1 + (sizeX x + sizeX y) := by simp [twoX, nodeX, sizeX, sizeXs]
theorem ok_node (k : Int) {l : List Ex} {sz : Nat} {nil : Bool} {tip : Tip} (hl : l.length ≤ 1099511627776) (h : allXs okX l) : allX okX (nodeX k sz nil tip l) := by
  rw [allX_eq]
  refine ⟨?_, by simpa [nodeX, Ex.l] using h⟩
  simp only [okX, nodeX, Ex.l, Ex.var, Ex.fld]
  exact ⟨hl, by decide, by decide⟩
theorem ok_two (k : Int) {x y : Ex} (hx : allX okX x) (hy : allX okX y) : allX okX (twoX k x y) := ok_node k (by simp) (by simp [allXs, hx, hy])
theorem say_two (t : Tl) (k : Int) (x y : Ex) (v w : Vl) (hx : sayP t x = (v, 0)) (hy : sayP t y = (w, 0)) : sayP t (twoX k x y) = nodeP t (twoX k x y) [v, w] := by
  rw [sayP_eq]
  simp [twoX, nodeX, Ex.l, saysP, hx, hy]
theorem say_two_err (t : Tl) (k : Int) (x y : Ex) (h : (sayP t x).2 ≠ 0) : sayP t (twoX k x y) = (nullV, (sayP t x).2) := by
  rw [sayP_eq]
  simp [twoX, nodeX, Ex.l, saysP, h]
theorem node_num (t : Tl) {k : Int} (h1 : 4 ≤ k) (h2 : k ≤ 8) (x y : Ex) (a b : Int) : nodeP t (twoX k x y) [intV a, intV b] = reckonL k [intV a, intV b] := by
  have hk : (twoX k x y).k = k := rfl
  simp only [nodeP, hk]
  rw [if_neg (by omega), if_neg (by omega), if_neg (by omega), if_pos h2]
  simp [numberP, intV]
theorem node_cmp (t : Tl) {k : Int} (h1 : 9 ≤ k) (h2 : k ≤ 14) (x y : Ex) (a b : Int) : ∃ r, nodeP t (twoX k x y) [intV a, intV b] = (boolV r, 0) := by
  have hk : (twoX k x y).k = k := rfl
  simp only [nodeP, hk]
  rw [if_neg (by omega), if_neg (by omega), if_neg (by omega), if_neg (by omega)]
  simp only [comparedP, List.getD_cons_zero, List.getD_cons_succ]
  repeat' split
  all_goals first | exact ⟨_, rfl⟩ | (rename_i h; simp [intV] at h)
theorem over_law (t : Tl) (k l a b c : Int) (h1 : 4 ≤ k) (h2 : k ≤ 8) (h3 : 9 ≤ l) (h4 : l ≤ 14) (s u : Ex) (hs : s = twoX k (constX (intV a)) (constX (intV b))) (hu : u = twoX l s (constX (intV c))) :
    ((SayP t s).2 = 10 ∧ HoldsP t u = false ∧ HoldsP t (notX u) = false) ∨ ((SayP t s).2 = 0 ∧ HoldsP t u = !HoldsP t (notX u)) := by
  have hc : ∀ n, allR (constX (intV n)) = true := fun n => allR_const _ (right_int n)
  have rs : allR s = true := by rw [hs]; exact allR_two h1 (by omega) (hc a) (hc b)
  have ru : allR u = true := by rw [hu]; exact allR_two (by omega) h4 rs (hc c)
  have ss : sizeX s = 3 := by rw [hs, size_two, size_const, size_const]
  have su : sizeX u = 5 := by rw [hu, size_two, ss, size_const]
  have sn : sizeX (notX u) = 6 := by have : sizeX (notX u) = 1 + sizeX u := by simp [notX, nodeX, sizeX, sizeXs]
                                     omega
  have rn : allR (notX u) = true := by
    rw [allR_eq]
    have hr : rightP (notX u) = true := by
      have hb : bareP (notX u) = true := by simp [bareP, notX, nodeX, Ex.v, Ex.var, Ex.fld]
      have hk : (notX u).k = 15 := rfl
      simp only [rightP, hk, hb]
      simp [notX, nodeX, Ex.l]
    rw [hr]; simp [notX, nodeX, Ex.l, allRs, ru]
  have cs : checkP s = 0 := by rw [checkP_eq _ (by omega), if_neg (by omega), rs]; rfl
  have cu : checkP u = 0 := by rw [checkP_eq _ (by omega), if_neg (by omega), ru]; rfl
  have cn : checkP (notX u) = 0 := by rw [checkP_eq _ (by omega), if_neg (by omega), rn]; rfl
  have vs : sayP t s = reckonL k [intV a, intV b] := by
    rw [hs, say_two t k _ _ _ _ (sayP_const t _) (sayP_const t _), node_num t h1 h2]
  have e10 : (sayP t s).2 = 10 ∨ ∃ n, sayP t s = (intV n, 0) := by
    rw [vs]
    simp only [reckonL]
    rcases reckon_err k (([intV a, intV b].map (·.n)).headD 0) (([intV a, intV b].map (·.n)).getLastD 0) with h | h
    · right; rw [if_pos h]; exact ⟨_, rfl⟩
    · left; rw [if_neg (by rw [h]; decide)]; exact h
  rw [SayP_ok cs]
  simp only [HoldsP, SayP_ok cu, SayP_ok cn, sayP_not]
  rcases e10 with h | ⟨n, h⟩
  · left
    have : sayP t u = (nullV, 10) := by rw [hu, say_two_err t l s _ (by rw [h]; decide), h]
    rw [this]
    exact ⟨h, rfl, rfl⟩
  · right
    have : sayP t u = nodeP t u [intV n, intV c] := by rw [hu, say_two t l s _ _ _ h (sayP_const t _)]
    rw [this, hu]
    obtain ⟨r, hr⟩ := node_cmp t h3 h4 s (constX (intV c)) n c
    rw [hr, h]
    refine ⟨rfl, ?_⟩
    have hb : badB (boolV r) = false := by cases r <;> decide
    simp only [if_true, logic_not, hb, Bool.false_eq_true, if_false, isT]
    cases r <;> simp [boolV]
theorem cEvalOver (a b c k op : Int) (hk0 : 0 ≤ k) (hop0 : 0 ≤ op) (H : Heap) (Q : Post) (hq : ∀ H', Q (B true) H') : E 8 [I a, I b, .raw (.int .u8 k), .raw (.int .u8 op), I c] H Q := by
  have r5 := k_rem (P := Pg) 5 true k 5 .u8 (by decide)
  have r6 := k_rem (P := Pg) 5 true op 6 .u8 (by decide)
  have b5 : 0 ≤ k.tmod 5 ∧ k.tmod 5 ≤ 4 := by
    have h1 := Int.tmod_nonneg 5 hk0
    have h2 := Int.tmod_lt_of_pos k (show (0 : Int) < 5 by decide)
    omega
  have b6 : 0 ≤ op.tmod 6 ∧ op.tmod 6 ≤ 5 := by
    have h1 := Int.tmod_nonneg 6 hop0
    have h2 := Int.tmod_lt_of_pos op (show (0 : Int) < 6 by decide)
    omega
  have cv : ∀ n : Int, cvtIA .i64 (.raw (.int .u8 n)) = some (I (W64 n)) := fun _ => rfl
  have w5 : W64 (4 + W64 (k.tmod 5)) = 4 + k.tmod 5 := by rw [w64_id (n := k.tmod 5) (by omega) (by omega), w64_id (by omega) (by omega)]
  have w6 : W64 (9 + W64 (op.tmod 6)) = 9 + op.tmod 6 := by rw [w64_id (n := op.tmod 6) (by omega) (by omega), w64_id (by omega) (by omega)]
  have m2 : ∀ x y : Ex, mkSlA 7 [encX x, encX y] = some (.sl 7 false .full [encX x, encX y]) := fun x y => mk2 7 _ _ (szX x) (szX y)
  have m1 : ∀ x : Ex, mkSlA 7 [encX x] = some (.sl 7 false .full [encX x]) := fun x => mk1 7 _ (szX x)
  have bi : ∀ n, bldA [(0, 1, I 2), (1, 1, I n)] [I 0, I 0, S e0] = some (encV (intV n)) := fun n => bld_v 2 n
  have bt : ∀ (k : Int) (x y : Ex), bldA [(0, 1, I k), (6, 1, AV.sl 7 false .full [encX x, encX y])] [I 0, I 0, I 0, S e0, S e0, S e0, .sl 0 true .full []] = some (encX (twoX k x y)) := fun k x y => bld_node k 7 false .full [x, y]
  have bn : ∀ x : Ex, bldA [(0, 1, I 15), (6, 1, AV.sl 7 false .full [encX x])] [I 0, I 0, I 0, S e0, S e0, S e0, .sl 0 true .full []] = some (encX (notX x)) := fun x => bld_node 15 7 false .full [x]
  rw [f8_eq]
  refine c19nil H _ (fun b1 b2 b3 t H1 e1 ht => ?_)
  rw [fn_nil, ob_some, cnd_f]
  simp only [bi, bld_const, ob_some, szX, splX, r5, r6, cv, i_add, w5, w6, partX, m2, bt]
  generalize hK : 4 + k.tmod 5 = K
  generalize hL : 9 + op.tmod 6 = L
  have hs := over_law t K L a b c (by omega) (by omega) (by omega) (by omega) _ _ rfl rfl
  have oc : ∀ n, allX okX (constX (intV n)) := fun n => ok_const _
  have os : allX okX (twoX K (constX (intV a)) (constX (intV b))) := ok_two K (oc a) (oc b)
  have ou : allX okX (twoX L (twoX K (constX (intV a)) (constX (intV b))) (constX (intV c))) := ok_two L os (oc c)
  have on : allX okX (notX (twoX L (twoX K (constX (intV a)) (constX (intV b))) (constX (intV c)))) := ok_node 15 (by simp) (by simp [allXs, ou])
  generalize twoX K (constX (intV a)) (constX (intV b)) = s at hs os ou on ⊢
  generalize twoX L s (constX (intV c)) = u at hs ou on ⊢
  refine c20 t 42 _ s os H1 _ ht (fun H2 e2 => ?_)
  simp only [ext0, ext1, ob_some, sz3, spl3]
  refine c23 t 42 _ u ou H2 _ (ht.ext e2) (fun H3 e3 => ?_)
  simp only [m1, bn, ob_some]
  refine c23 t 42 _ (notX u) on H3 _ (ht.ext (e2.trans e3)) (fun H4 e4 => ?_)
  have aw : ∀ (H : Heap) (K : Post), (∀ H', K (B true) H') → E 25 [] H K := fun H K hk => c25 H K (fun H' _ => hk H')
  simp only [i_eql, i_neq, ob_some, not_B, b_neq 4 false u4, f8_c13_6a_eq, f8_c13_6b_eq, f8_j38_eq, f8_c13_10a_eq, f8_c13_10b_eq, f8_c13_13a_eq, f8_c13_13b_eq, f8_j34_eq]
  rcases hs with ⟨h1, h2, h3⟩ | ⟨h1, h2⟩
  · simp only [h1, h2, h3]
    exact aw _ _ (fun H' => hq H')
  · simp only [h1, h2]
    cases HoldsP t (notX u) <;> exact aw _ _ (fun H' => hq H')
end Go.Hx
