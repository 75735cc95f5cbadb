/- Contracts of the functions of layer 11 and below. Own work (session 2). -/
import Derived.Test.YthhghcekcgonnaaS3F
import Derived.Test.YthhghcekcgonnaaHxSimp
namespace Go.Hx
abbrev e0 : ByteArray := ⟨#[]⟩
structure Vl where
  k : Int
  n : Int
  s : ByteArray
  deriving DecidableEq
def encV (v : Vl) : AV := .agg [I v.k, I v.n, S v.s]
def nullV : Vl := ⟨0, 0, e0⟩
def boolV (b : Bool) : Vl := ⟨1, if b then 1 else 0, e0⟩
def intV (n : Int) : Vl := ⟨2, n, e0⟩
theorem u4 : Pg.underlying 4 = some .bool := by kernel_rfl
theorem v_ok (t : Bool) (v w : Vl) : eqOK Pg t 23 (encV v) (encV w) = true := by kernel_rfl
theorem v_eqlT (v w : Vl) : eqT Pg 4 23 (encV v) (encV w) =
    (match v.k == w.k with
     | true => match v.n == w.n with
       | true => match v.s == w.s with
         | true => some true
         | false => some false
       | false => some false
     | false => some false) := by kernel_rfl
theorem v_eql0 (t : Bool) (v w : Vl) : binA Pg .eql 23 t (encV v) (encV w) = (eqT Pg 4 23 (encV v) (encV w)).map B := by
  have := v_ok t v w
  simp only [encV] at this ⊢
  simp only [binA, this]; rfl
theorem v_eql (t : Bool) (v w : Vl) : binA Pg .eql 23 t (encV v) (encV w) = some (B (decide (v = w))) := by
  rw [v_eql0, v_eqlT]
  cases v; cases w
  simp only [Vl.mk.injEq]
  split
  · split
    · split
      · simp_all [ba_beq]
      · simp_all [ba_beq]
    · simp_all
  · simp_all
theorem c43 (H : Heap) (Q : Post) : E 43 [] H Q = Q (encV nullV) H := f43_eq () H Q
theorem c46 (b : Bool) (H : Heap) (Q : Post) : E 46 [B b] H Q = Q (encV (boolV b)) H := by
  cases b <;> simp [f46_eq, f46_j10_eq, ob_some, cnd_t, cnd_f, bldA, sizedA, spliceA, partA, cellsA, I, encV, boolV]
theorem c93 (n : Int) (H : Heap) (Q : Post) : E 93 [I n] H Q = Q (encV (intV n)) H := f93_eq _ H Q
theorem c90 (v : Vl) (H : Heap) (Q : Post) : E 90 [encV v] H Q = Q (B (decide (v.k = 0))) H := f90_eq _ H Q

/-! ### Orders -/
def cmpI (a b : Int) : Int := if a < b then -1 else if b < a then 1 else 0
def cmpS (x y : ByteArray) : Int := if Op.bytesLess x.toList y.toList = true then -1 else if (!(Op.bytesLess x.toList y.toList || x.toList == y.toList)) = true then 1 else 0
def ordV (v w : Vl) : Int := if cmpI v.k w.k ≠ 0 then cmpI v.k w.k else if cmpI v.n w.n ≠ 0 then cmpI v.n w.n else cmpS v.s w.s
theorem c129 (a : Int) (H : Heap) (Q : Post) : E 129 [I a] H Q = Q (B false) H := by simp [f129_eq, i_neq, ob_some]
theorem c130 (a : Int) (H : Heap) (Q : Post) : E 130 [I a] H Q = Q (B false) H := by simp [f130_eq, i_neq, ob_some]
theorem c131 (a : ByteArray) (H : Heap) (Q : Post) : E 131 [S a] H Q = Q (B false) H := by simp [f131_eq, s_neq, ob_some]
theorem c116 (a b : Int) (H : Heap) (Q : Post) : E 116 [I a, I b] H Q = Q (I (cmpI a b)) H := by
  simp only [f116_eq, c129, i_lss, i_gtr, ob_some, cnd_B, Bool.false_eq_true, if_false, decide_eq_true_eq, cmpI]
  repeat' split
  all_goals first | rfl | simp_all
theorem c117 (a b : Int) (H : Heap) (Q : Post) : E 117 [I a, I b] H Q = Q (I (cmpI a b)) H := by
  simp only [f117_eq, c130, i_lss, i_gtr, ob_some, cnd_B, Bool.false_eq_true, if_false, decide_eq_true_eq, cmpI]
  repeat' split
  all_goals first | rfl | simp_all
theorem c118 (a b : ByteArray) (H : Heap) (Q : Post) : E 118 [S a, S b] H Q = Q (I (cmpS a b)) H := by
  simp only [f118_eq, c131, s_lss, s_gtr, ob_some, cnd_B, Bool.false_eq_true, if_false, decide_eq_true_eq, cmpS]
  repeat' split
  all_goals first | rfl | simp_all
theorem c94 (v w : Vl) (H : Heap) (Q : Post) : E 94 [encV v, encV w] H Q = Q (I (ordV v w)) H := by
  have h0 : ∀ v : Vl, sizedA 3 (encV v) = some [I v.k, I v.n, S v.s] := fun _ => rfl
  simp only [f94_eq, h0, part_f, ob_some, c116, c117, c118, i_neq, cnd_B, ordV, List.getElem?_cons_zero, List.getElem?_cons_succ]
  repeat' split
  all_goals first | rfl | simp_all
def rightV (v : Vl) : Bool :=
  if v.k = 0 then decide (v = nullV) else if v.k = 1 then decide (v.s = e0) && decide (bitsI .andNot .i64 v.n 1 = 0) else if v.k = 2 then decide (v.s = e0)
  else if v.k = 3 then decide (v.n = 0) && decide ((v.s.size : Int) ≤ 256) else false
theorem enc_null : AV.agg [I 0, I 0, S e0] = encV nullV := rfl
theorem c73 (v : Vl) (H : Heap) (Q : Post) : E 73 [encV v] H Q = Q (B (rightV v)) H := by
  have hb : bldA [] [I 0, I 0, S e0] = some (encV nullV) := rfl
  have h0 : sizedA 3 (encV v) = some [I v.k, I v.n, S v.s] := rfl
  have h1 : partA true 0 3 [I v.k, I v.n, S v.s] = some (encV v) := rfl
  simp only [f73_eq, h0, h1, hb, part_f, ob_some, i_eql, cnd_B, v_eql, s_eql, i_andNot, len_S, i_leq, f73_j17_eq, f73_j29_eq, List.getElem?_cons_zero, List.getElem?_cons_succ, decide_eq_true_eq, rightV]
  split
  · rfl
  · split
    · split <;> simp_all
    · split
      · rfl
      · split
        · split <;> simp_all
        · rfl
theorem c95 (v w : Vl) (H : Heap) (Q : Post) : E 95 [encV v, encV w] H Q = Q (B (decide (v.k = w.k) && (decide (v.k = 2) || decide (v.k = 3)))) H := by
  have h0 : ∀ v : Vl, sizedA 3 (encV v) = some [I v.k, I v.n, S v.s] := fun _ => rfl
  simp only [f95_eq, f95_j4_eq, h0, part_f, ob_some, i_eql, cnd_B, List.getElem?_cons_zero, decide_eq_true_eq]
  split
  · split <;> simp_all
  · simp_all

/-! ### Numbers -/
def negN (a : Int) : Int × Int := if a = -9223372036854775808 then (0, 10) else (W64 (0 - a), 0)
def addN (a b : Int) : Int × Int := if bitsI .xor .i64 a (W64 (a + b)) < 0 ∧ bitsI .xor .i64 b (W64 (a + b)) < 0 then (0, 10) else (W64 (a + b), 0)
def subN (a b : Int) : Int × Int := if bitsI .xor .i64 a b < 0 ∧ bitsI .xor .i64 a (W64 (a - b)) < 0 then (0, 10) else (W64 (a - b), 0)
def signN (a : Int) : Int := if a < 0 then -1 else if 0 < a then 1 else 0
def mulN (a b : Int) : Int × Int :=
  if W64 (signN a * signN b) = 1 then
    (if (0 < a ∧ W64 ((9223372036854775807 : Int).tdiv a) < b) ∨ (a < 0 ∧ b < W64 ((9223372036854775807 : Int).tdiv a)) then (0, 10) else (W64 (a * b), 0))
  else if W64 (signN a * signN b) = -1 then
    (if (0 < a ∧ b < W64 ((-9223372036854775808 : Int).tdiv a)) ∨ (0 < b ∧ a < W64 ((-9223372036854775808 : Int).tdiv b)) then (0, 10) else (W64 (a * b), 0))
  else (0, 0)
def divN (a b : Int) : Int × Int := if b = 0 ∨ (a = -9223372036854775808 ∧ b = -1) then (0, 10) else (W64 (a.tdiv b), 0)
def modN (a b : Int) : Int × Int := if b = 0 then (0, 10) else if b = -1 then (0, 0) else (a.tmod b, 0)
def encN (p : Int × Int) : AV := .tup [I p.1, I p.2]
theorem c110 (a : Int) (H : Heap) (Q : Post) : E 110 [I a] H Q = Q (encN (negN a)) H := by
  simp only [f110_eq, i_eql, ob_some, cnd_B, decide_eq_true_eq, neg_I, negN]
  split <;> rfl
theorem c111 (a b : Int) (H : Heap) (Q : Post) : E 111 [I a, I b] H Q = Q (encN (addN a b)) H := by
  simp only [f111_eq, f111_j7_eq, i_add, i_xor, i_lss, ob_some, cnd_B, decide_eq_true_eq, addN]
  repeat' split
  all_goals first | rfl | (simp_all; done) | (exfalso; simp_all; done) | (simp_all; omega)
theorem c112 (a b : Int) (H : Heap) (Q : Post) : E 112 [I a, I b] H Q = Q (encN (subN a b)) H := by
  simp only [f112_eq, f112_j7_eq, i_sub, i_xor, i_lss, ob_some, cnd_B, decide_eq_true_eq, subN]
  repeat' split
  all_goals first | rfl | (simp_all; done) | (exfalso; simp_all; done) | (simp_all; omega)
theorem c128 (a : Int) (H : Heap) (Q : Post) : E 128 [I a] H Q = Q (I (signN a)) H := by
  simp only [f128_eq, i_lss, i_gtr, ob_some, cnd_B, decide_eq_true_eq, signN]
  split
  · rfl
  · split <;> rfl
theorem c114 (a b : Int) (H : Heap) (Q : Post) : E 114 [I a, I b] H Q = Q (encN (divN a b)) H := by
  simp only [f114_eq, f114_j16_eq, i_eql, ob_some, cnd_B, decide_eq_true_eq, divN]
  by_cases hb : b = 0
  · simp [hb, encN]
  · simp only [hb, if_false, i_quo 2 false a b hb, ob_some, false_or]
    split
    · split <;> simp_all [encN]
    · simp_all [encN]
theorem c115 (a b : Int) (H : Heap) (Q : Post) : E 115 [I a, I b] H Q = Q (encN (modN a b)) H := by
  simp only [f115_eq, i_eql, ob_some, cnd_B, decide_eq_true_eq, modN]
  by_cases hb : b = 0
  · simp [hb, encN]
  · simp only [hb, if_false, i_rem 2 false a b hb, ob_some]
    split <;> rfl
theorem c113 (a b : Int) (H : Heap) (Q : Post) : E 113 [I a, I b] H Q = Q (encN (mulN a b)) H := by
  by_cases ha : a = 0
  · subst ha
    have h : W64 (signN 0 * signN b) = 0 := by simp [signN]; rfl
    simp [f113_eq, c128, i_mul, ob_some, i_eql, cnd_B, h, mulN, f113_j50_eq, encN]
  by_cases hb : b = 0
  · subst hb
    have h : W64 (signN a * signN 0) = 0 := by simp [signN]; rfl
    simp [f113_eq, c128, i_mul, ob_some, i_eql, cnd_B, h, mulN, f113_j50_eq, encN]
  have q1 := fun x => i_quo (P := Pg) 2 true x a ha
  have q2 := fun x => i_quo (P := Pg) 2 true x b hb
  simp only [f113_eq, f113_c5_8a_eq, f113_c5_8b_eq, f113_c7_8a_eq, f113_c7_8b_eq, f113_j50_eq, f113_c5_17a_eq, f113_c5_17b_eq, f113_c5_17c_eq, f113_c7_17a_eq, f113_c7_17b_eq, f113_c7_17c_eq, f113_j35_eq, f113_j44_eq,
    c128, i_mul, i_eql, i_gtr, i_lss, q1, q2, ob_some, cnd_B, decide_eq_true_eq, mulN, Bool.false_eq_true, if_false, if_true]
  repeat' split
  all_goals first | rfl | (simp_all; done) | (exfalso; simp_all; done) | (exfalso; simp_all; omega) | (exfalso; omega)
def reckonN (k a b : Int) : Int × Int :=
  if k = 3 then negN a else if k = 4 then addN a b else if k = 5 then subN a b else if k = 6 then mulN a b else if k = 7 then divN a b else modN a b
theorem c92 (k : Int) (sz : Nat) (nil : Bool) (tip : Tip) (a : Int) (l : List Int) (hl : (a :: l).length ≤ 1152921504606846976) (H : Heap) (Q : Post) : E 92 [I k, .sl 1 nil tip ((a :: l).map I)] H Q = Q (encN (reckonN k a ((a :: l).getLast (by simp)))) H := by
  have h0 : ixaA 1 (.sl 1 nil tip ((a :: l).map I)) (I 0) = some [I a] := rfl
  have hw : W64 (((((a :: l).map I).length : Nat) : Int) - 1) = (l.length : Int) := by
    rw [List.length_map, List.length_cons, w64_id] <;> simp only [List.length_cons] at hl <;> omega
  have h1 : ixaA 1 (.sl 1 nil tip ((a :: l).map I)) (I (l.length : Int)) = some [I ((a :: l).getLast (by simp))] := by
    refine ix_mk 1 nil tip _ l.length (x := I ((a :: l).getLast (by simp))) ?_ rfl
    rw [List.getElem?_map, List.getLast_eq_getElem]
    simp
  simp only [f92_eq, h0, h1, hw, len_sl, i_sub, part_f, ob_some, List.getElem?_cons_zero, i_eql, cnd_B, decide_eq_true_eq, c110, c111, c112, c113, c114, c115, reckonN]
  repeat' split
  all_goals rfl

/-! ### Values that are null -/
def nullIx : Nat → List Vl → Int
  | _, [] => -1
  | i, v :: r => if v.k = 0 then i else nullIx (i + 1) r
def encVs (nil : Bool) (tip : Tip) (l : List Vl) : AV := .sl 3 nil tip (l.map encV)
theorem c109_l (vs : List Vl) (nil : Bool) (tip : Tip) (hn : vs.length ≤ 1152921504606846976) (H : Heap) (Q : Post) : ∀ (r pre : List Vl), vs = pre ++ r →
    f109_l6 (encVs nil tip vs) (.fn (.func 90) [] []) (I vs.length) (I pre.length) H Q = Q (I (nullIx pre.length r)) H
  | [], pre, e => by
    have : (pre.length : Int) = vs.length := by rw [e]; simp
    rw [f109_l6_eq, i_lss, ob_some, cnd_B, this]
    simp [nullIx]
  | v :: r, pre, e => by
    have hlt : pre.length < vs.length := by rw [e]; simp
    have hlt' : (pre.length : Int) < vs.length := by omega
    have ih := c109_l vs nil tip hn H Q r (pre ++ [v]) (by simp [e])
    have hx : ixaA 3 (encVs nil tip vs) (I pre.length) = some [I v.k, I v.n, I 0] ∨ ixaA 3 (encVs nil tip vs) (I pre.length) = some [I v.k, I v.n, S v.s] := .inr (by
      refine ix_mk 3 nil tip _ pre.length (x := encV v) (by rw [e]; exact get_mid encV pre r v) rfl)
    have hx : ixaA 3 (encVs nil tip vs) (I pre.length) = some [I v.k, I v.n, S v.s] := by
      refine ix_mk 3 nil tip _ pre.length (x := encV v) (by rw [e]; exact get_mid encV pre r v) rfl
    have h1 : partA true 0 3 [I v.k, I v.n, S v.s] = some (encV v) := rfl
    rw [f109_l6_eq, i_lss, ob_some, cnd_B, if_pos (by simpa using hlt'), hx, ob_some, h1, ob_some]
    show E 90 [encV v] H _ = _
    rw [c90, cnd_B, i_add, ob_some, w64_succ hlt hn]
    rw [List.length_append, List.length_singleton] at ih
    rw [ih]
    simp only [nullIx, decide_eq_true_eq]
    split <;> rfl
theorem nullIx_ge (i : Nat) (l : List Vl) : decide (0 ≤ nullIx i l) = l.any fun v => decide (v.k = 0) := by
  induction l generalizing i with
  | nil => simp [nullIx]
  | cons v r ih =>
    simp only [nullIx, List.any_cons]
    split
    · rename_i h; simp [h]
    · rename_i h; simp only [h, decide_false, Bool.false_or]; exact ih (i + 1)
theorem c91 (vs : List Vl) (nil : Bool) (tip : Tip) (hn : vs.length ≤ 1152921504606846976) (H : Heap) (Q : Post) : E 91 [encVs nil tip vs, .fn (.func 90) [] []] H Q = Q (B (vs.any fun v => decide (v.k = 0))) H := by
  have := fun K => c109_l vs nil tip hn H K vs [] rfl
  rw [f91_eq, f109_eq]
  have hl : lenA (encVs nil tip vs) = some (I vs.length) := by simp [encVs, len_sl]
  rw [hl, ob_some]
  refine (this _).trans ?_
  rw [i_geq, ob_some, nullIx_ge]

/-! ### Nodes of numbers -/
def encR (p : Vl × Int) : AV := .tup [encV p.1, I p.2]
def reckonL (k : Int) (l : List Vl) : Vl × Int :=
  match reckonN k ((l.map (·.n)).headD 0) ((l.map (·.n)).getLastD 0) with
  | (x, e) => if e = 0 then (intV x, 0) else (nullV, e)
def numberP (k : Int) (l : List Vl) : Vl × Int :=
  if (l.any fun v => decide (v.k = 0)) = true then (nullV, 0) else if (l.any fun v => !decide (v.k = 2)) = true then (nullV, 5) else reckonL k l
theorem sz3 (v : Vl) : sizedA 3 (encV v) = some [I v.k, I v.n, S v.s] := rfl
theorem spl3 (v : Vl) : spliceA 0 [I v.k, I v.n, S v.s] [I 0, I 0, S e0] = some [I v.k, I v.n, S v.s] := rfl
theorem part3 (v : Vl) : partA true 0 3 [I v.k, I v.n, S v.s] = some (encV v) := rfl
theorem c92' (k : Int) (sz : Nat) (nil : Bool) (tip : Tip) (l : List Int) (h0 : l ≠ []) (hl : l.length ≤ 1152921504606846976) (H : Heap) (Q : Post) : E 92 [I k, .sl 1 nil tip (l.map I)] H Q = Q (encN (reckonN k (l.headD 0) (l.getLastD 0))) H := by
  cases l with
  | nil => exact absurd rfl h0
  | cons a l =>
    rw [c92 k sz nil tip a l hl, List.headD_cons]
    congr 3
theorem ext0 (p : Vl × Int) : extractA (encR p) 0 = some (encV p.1) := rfl
theorem ext1 (p : Vl × Int) : extractA (encR p) 1 = some (I p.2) := rfl
theorem extN0 (p : Int × Int) : extractA (encN p) 0 = some (I p.1) := rfl
theorem extN1 (p : Int × Int) : extractA (encN p) 1 = some (I p.2) := rfl
theorem ixV (vs : List Vl) (nil : Bool) (tip : Tip) (pre r : List Vl) (v : Vl) (e : vs = pre ++ v :: r) : ixaA 3 (encVs nil tip vs) (I pre.length) = some [I v.k, I v.n, S v.s] :=
  ix_mk 3 nil tip _ pre.length (x := encV v) (by rw [e]; exact get_mid encV pre r v) rfl
set_option maxRecDepth 20000 in
theorem c65_l (H0 : Heap) (k : Int) (vs : List Vl) (n' : Bool) (t' : Tip) (hne : vs ≠ []) (hn : vs.length ≤ 1099511627776) (Q : Post) : ∀ (r pre : List Vl) (s : Nat) (nil : Bool) (tip : Tip) (H : Heap), vs = pre ++ r →
    HExt H0 H → OwnS H0 H 1 pre.length tip → (nil = true ∨ s = 1) → (r = [] → s = 1) →
    (∀ H', HExt H0 H' → Q (encR (if (r.any fun v => !decide (v.k = 2)) = true then (nullV, 5) else reckonL k vs)) H') →
    f65_l16 (I k) [I 0, I 0, S e0] (.sl s nil tip (pre.map fun v => I v.n)) (encVs n' t' vs) (I vs.length) (I pre.length) H Q := by
  intro r
  induction r with
  | nil =>
    intro pre s nil tip H e he ho hs hs1 hq
    have : (pre.length : Int) = vs.length := by rw [e]; simp
    have e' : pre = vs := by rw [e]; simp
    rw [f65_l16_eq, i_lss, ob_some, cnd_B, this]
    simp only [Int.lt_irrefl, decide_false, Bool.false_eq_true, if_false]
    have e1 : (pre.map fun v => I v.n) = (vs.map (·.n)).map I := by rw [e']; simp
    rw [hs1 rfl, e1, c92' k 1 nil tip (vs.map (·.n)) (by simpa using hne) (by simp; omega)]
    simp only [extN0, extN1, ob_some, i_neq, cnd_B, c43, sz3, spl3, part3, c93]
    have := hq H he
    simp only [List.any_nil, Bool.false_eq_true, if_false, reckonL] at this
    split
    · rename_i h
      simp only [Bool.not_eq_true', decide_eq_false_iff_not] at h
      rw [if_neg h] at this; exact this
    · rename_i h
      simp only [Bool.not_eq_true', decide_eq_false_iff_not, Decidable.not_not] at h
      rw [if_pos h] at this; exact this
  | cons v r ih =>
    intro pre s nil tip H e he ho hs hs1 hq
    have hlt : pre.length < vs.length := by rw [e]; simp
    have hlt' : (pre.length : Int) < vs.length := by omega
    have ih := ih (pre ++ [v])
    rw [f65_l16_eq, i_lss, ob_some, cnd_B, if_pos (by simpa using hlt'), ixV vs n' t' pre r v e]
    simp only [ob_some, part3, sz3, spl3, part_f, List.getElem?_cons_zero, List.getElem?_cons_succ, i_neq, c43]
    refine cnd_intro (fun h => ?_) (fun h => ?_)
    · have := hq H he
      simp only [List.any_cons, h, Bool.true_or, if_true] at this
      exact this
    · rw [mk1 1 (I v.n) (sz1_I _), ob_some]
      refine app_own (H0 := H0) _ he (by simpa using ho) hs (by omega) (by simp; omega) (fun tip' H' he' ho' => ?_)
      rw [i_add, ob_some, w64_succ hlt (by omega)]
      have := ih 1 false tip' H' (by simp [e]) he' (by simpa using ho') (.inr rfl) (fun _ => rfl) (fun H'' hx => by
        have := hq H'' hx
        simp only [List.any_cons, h, Bool.false_or] at this
        exact this)
      rw [List.length_append, List.length_singleton, List.map_append] at this
      exact this
set_option maxRecDepth 20000 in
theorem c65 (k : Int) (vs : List Vl) (n' : Bool) (t' : Tip) (hne : vs ≠ []) (hn : vs.length ≤ 1099511627776) (H : Heap) (Q : Post) (hq : ∀ H', HExt H H' → Q (encR (numberP k vs)) H') : E 65 [I k, encVs n' t' vs] H Q := by
  rw [f65_eq, c91 vs n' t' (by omega)]
  have hl : lenA (encVs n' t' vs) = some (I vs.length) := by simp [encVs, len_sl]
  simp only [c43, sz3, spl3, part3, ob_some, hl]
  refine cnd_intro (fun h => ?_) (fun h => ?_)
  · have := hq H (HExt.refl H)
    simp only [numberP, h, if_true] at this
    exact this
  · exact c65_l H k vs n' t' hne hn Q vs [] 0 true .full H rfl (HExt.refl H) trivial (.inl rfl) (fun e => absurd e hne) (fun H' hx => by
      have := hq H' hx
      simp only [numberP, h, Bool.false_eq_true, if_false] at this
      exact this)

/-! ### Nodes of two that are compared -/
def comparedP (k : Int) (v w : Vl) : Vl × Int :=
  if k = 9 then (boolV (decide (ordV v w = 0)), 0) else if k = 10 then (boolV (!decide (ordV v w = 0)), 0)
  else if v.k = 0 ∨ w.k = 0 then (boolV false, 0)
  else if (decide (v.k = w.k) && (decide (v.k = 2) || decide (v.k = 3))) = false then (nullV, 5)
  else if k = 11 then (boolV (decide (ordV v w < 0)), 0) else if k = 13 then (boolV (decide (0 < ordV v w)), 0)
  else if k = 12 then (boolV (decide (ordV v w ≤ 0)), 0) else (boolV (decide (0 ≤ ordV v w)), 0)
theorem c66 (k : Int) (v w : Vl) (H : Heap) (Q : Post) : E 66 [I k, encV v, encV w] H Q = Q (encR (comparedP k v w)) H := by
  have j55 : ∀ (b : Bool) (H : Heap), f66_j55 [I 0, I 0, S e0] (B b) H Q = Q (encR (boolV b, 0)) H := fun b H => by
    rw [f66_j55_eq, c46]; rfl
  simp only [f66_eq, sz3, part3, spl3, ob_some, c94, i_eql, i_neq, i_lss, i_gtr, i_leq, i_geq, c90, c95, cnd_B, decide_eq_true_eq, j55, f66_j24_eq, not_B, c43, comparedP, if_true]
  repeat' split
  all_goals first | rfl | (simp_all; done) | (exfalso; simp_all; done)

/-! ### Nodes of BOOLs -/
def badB (v : Vl) : Bool := !decide (v.k = 0) && !decide (v.k = 1)
def isT (v : Vl) : Bool := decide (v = boolV true)
def logicR (k : Int) (sm al : Bool) : Vl × Int := if k = 15 then (boolV (!sm), 0) else if k = 16 then (boolV al, 0) else (boolV sm, 0)
def logicP (k : Int) (l : List Vl) : Vl × Int := if l.any badB = true then (nullV, 5) else logicR k (l.any isT) (l.all isT)
set_option maxRecDepth 20000 in
theorem c64_l (k : Int) (vs : List Vl) (n' : Bool) (t' : Tip) (hn : vs.length ≤ 1099511627776) (H : Heap) (Q : Post) : ∀ (r pre : List Vl) (sm al : Bool), vs = pre ++ r →
    f64_l8 (I k) [I 0, I 0, S e0] (B sm) (B al) (encVs n' t' vs) (I vs.length) (I pre.length) H Q = Q (encR (if r.any badB = true then (nullV, 5) else logicR k (sm || r.any isT) (al && r.all isT))) H := by
  intro r
  induction r with
  | nil =>
    intro pre sm al e
    have : (pre.length : Int) = vs.length := by rw [e]; simp
    rw [f64_l8_eq, i_lss, ob_some, cnd_B, this]
    simp only [Int.lt_irrefl, decide_false, Bool.false_eq_true, if_false, i_eql, ob_some, cnd_B, decide_eq_true_eq, not_B, c46, sz3, spl3, part3, List.any_nil, List.all_nil, Bool.or_false, Bool.and_true, logicR]
    repeat' split
    all_goals rfl
  | cons v r ih =>
    intro pre sm al e
    have hlt : pre.length < vs.length := by rw [e]; simp
    have hlt' : (pre.length : Int) < vs.length := by omega
    have ih := ih (pre ++ [v])
    rw [List.length_append, List.length_singleton] at ih
    have hj : ∀ b : Bool, b = badB v → f64_j22 (I k) [I 0, I 0, S e0] (B sm) (B al) [I v.k, I v.n, S v.s] (encVs n' t' vs) (I vs.length) (I pre.length) (B b) H Q =
        Q (encR (if ((v :: r).any badB) = true then (nullV, 5) else logicR k (sm || (v :: r).any isT) (al && (v :: r).all isT))) H := fun b hb => by
      rw [f64_j22_eq]
      simp only [c43, sz3, spl3, part3, ob_some, c46, v_eql, i_add, w64_succ hlt (by omega : vs.length ≤ 1152921504606846976), cnd_B]
      rw [List.any_cons, List.any_cons, List.all_cons, ← hb]
      cases b with
      | true => simp only [if_true, Bool.true_or]; rfl
      | false =>
        simp only [Bool.false_eq_true, if_false, Bool.false_or]
        cases sm <;> cases al <;> simp only [Bool.false_eq_true, if_false, if_true, Bool.true_or, Bool.false_or, Bool.false_and, Bool.true_and]
        · rw [ih _ _ (by simp [e])]; rfl
        · rw [ih _ _ (by simp [e])]; rfl
        · rw [ih _ _ (by simp [e])]; simp
        · rw [ih _ _ (by simp [e])]; simp; rfl
    rw [f64_l8_eq, i_lss, ob_some, cnd_B, if_pos (by simpa using hlt'), ixV vs n' t' pre r v e]
    simp only [ob_some, part3, sz3, spl3, part_f, List.getElem?_cons_zero, i_neq, c90, not_B, cnd_B]
    split
    · rename_i h
      exact hj _ (by simp only [badB, h, Bool.true_and])
    · rename_i h
      exact hj _ (by simp only [badB, h, Bool.false_and])
set_option maxRecDepth 20000 in
theorem c64 (k : Int) (vs : List Vl) (n' : Bool) (t' : Tip) (hn : vs.length ≤ 1099511627776) (H : Heap) (Q : Post) : E 64 [I k, encVs n' t' vs] H Q = Q (encR (logicP k vs)) H := by
  have hl : lenA (encVs n' t' vs) = some (I vs.length) := by simp [encVs, len_sl]
  rw [f64_eq, hl, ob_some]
  have := c64_l k vs n' t' hn H Q vs [] false true rfl
  simp only [Bool.false_or, Bool.true_and] at this
  exact this
end Go.Hx
