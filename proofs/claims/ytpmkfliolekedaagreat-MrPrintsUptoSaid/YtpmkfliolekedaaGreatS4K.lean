/- Contracts of the document's layer 13: may a query be. Own work. -/
import Derived.Test.YtpmkfliolekedaaGreatS4J
set_option maxRecDepth 20000
namespace Go.Hx
theorem c103 (x : It) (hok : okI x) (H : Heap) (Q : Post) : E 103 [encIt x] H Q = Q (B (itemP x)) H := by
  have g0 : (itC x)[0]? = some (S x.name) := rfl
  have g1 : (itC x)[1]? = some (I x.k) := rfl
  have g2 : (itC x)[2]? = some (S x.var) := rfl
  have g3 : (itC x)[3]? = some (S x.fld) := rfl
  simp only [f103_eq, szIt, ob_some, part_f, g0, g1, g2, g3, i_eql, s_eql, c102 _ hok.1, c102 _ hok.2.1, c102 _ hok.2.2, f103_c1_8a_eq, f103_c1_8b_eq, f103_c1_17a_eq, f103_c1_17b_eq, f103_c1_17c_eq, f103_c1_26a_eq, f103_c1_26b_eq, f103_c1_26c_eq, f103_c1_26d_eq,
    f103_c1_31a_eq, f103_c1_31b_eq, f103_c1_31c_eq, f103_c1_31d_eq, f103_c1_36a_eq, f103_c1_36b_eq, f103_c1_36c_eq, f103_c1_36d_eq, f103_c1_37a_eq, f103_c1_37b_eq, f103_c1_37c_eq, f103_c1_37d_eq, f103_c1_38a_eq, f103_c1_38b_eq, f103_c1_38c_eq, f103_j4_eq, cnd_B, decide_eq_true_eq, itemP]
  cases nameL x.name.data.toList
  · simp
  · cases nameL x.var.data.toList
    · simp
    · simp only [Bool.true_and, if_true]
      by_cases k3 : x.k = 3
      · by_cases hf : x.fld = e0
        · simp [k3, hf]
        · simp [k3, hf]
      · by_cases k1 : x.k = 1
        · simp [k1]
        · by_cases k2 : x.k = 2
          · simp [k2]
          · by_cases k4 : x.k = 4 <;> simp [k1, k2, k3, k4]
theorem hasB_map (s : ByteArray) (l : List It) : hasB s (l.map It.name) = l.any fun z => decide (s = z.name) := by
  induction l with
  | nil => rfl
  | cons z r ih => simp only [hasB, List.map_cons, List.any_cons] at ih ⊢; rw [ih]
theorem c68 (q : Qu) (hok : OkQ q) (H : Heap) (Q : Post) : E 68 [encQ q] H Q = Q (I (queryP q)) H := by
  have hil := hok.il
  have hwl := hok.wl
  have inner : ∀ (y : It) (r1 pre : List It), q.its = pre ++ y :: r1 → ∀ (r2 pre2 : List It) (f : Bool), pre = pre2 ++ r2 →
      f68_l77 (qC q) (B f) (I pre.length) (I pre2.length) H Q = f68_l63 (qC q) (B (f && !(r2.any fun z => decide (y.name = z.name)))) (I ((pre.length + 1 : Nat) : Int)) H Q := by
    intro y r1 pre e r2
    have hlt : pre.length < q.its.length := by rw [e]; simp
    induction r2 with
    | nil =>
      intro pre2 f e2
      have h1 : (pre2.length : Int) = pre.length := by rw [e2]; simp
      rw [f68_l77_eq, i_lss, ob_some, cnd_B, h1]
      simp only [Int.lt_irrefl, decide_false, Bool.false_eq_true, if_false, List.any_nil, Bool.not_false, Bool.and_true]
      rw [i_add, ob_some, w64_succ hlt (by omega)]
    | cons z r2 ih =>
      intro pre2 f e2
      have hlt2 : pre2.length < pre.length := by rw [e2]; simp
      have hlt2' : (pre2.length : Int) < pre.length := by omega
      have i1 := ixIt q.its q.isz q.inil q.itip pre2 (r2 ++ y :: r1) z (by rw [e, e2]; simp)
      have i2 := ixIt q.its q.isz q.inil q.itip pre r1 y e
      have d0 : ∀ x : It, ((itC x).drop 0)[0]? = some (S x.name) := fun _ => rfl
      have ih2 := fun f => ih (pre2 ++ [z]) f (by simp [e2])
      simp only [List.length_append, List.length_singleton] at ih2
      rw [f68_l77_eq, i_lss, ob_some, cnd_B, if_pos (by simpa using hlt2')]
      simp only [part_f, q10, ob_some, i1, i2, d0, s_neq, f68_j87_eq, i_add, w64_succ hlt2 (show pre.length ≤ 1152921504606846976 by omega), ih2, cnd_B, List.any_cons]
      cases f
      · simp
      · by_cases h : z.name = y.name
        · simp [h]
        · have : ¬ y.name = z.name := fun e => h e.symm
          simp [h, this]
  have items : ∀ (r pre : List It) (f : Bool), q.its = pre ++ r → f68_l63 (qC q) (B f) (I pre.length) H Q = Q (I (if (f && !wrongI (pre.map It.name) r) = true then 0 else 1)) H := by
    intro r
    induction r with
    | nil =>
      intro pre f e
      have h1 : (pre.length : Int) = q.its.length := by rw [e]; simp
      rw [f68_l63_eq, part_f, q10, ob_some, lenIt, ob_some, i_lss, ob_some, cnd_B, h1]
      simp only [Int.lt_irrefl, decide_false, Bool.false_eq_true, if_false, not_B, ob_some, cnd_B, wrongI, Bool.not_false, Bool.and_true]
      cases f <;> simp
    | cons y r ih =>
      intro pre f e
      have hlt : pre.length < q.its.length := by rw [e]; simp
      have hlt' : (pre.length : Int) < q.its.length := by omega
      have i2 := ixIt q.its q.isz q.inil q.itip pre r y e
      have hin : ∀ f, f68_l77 (qC q) (B f) (I pre.length) (I 0) H Q = _ := fun f => inner y r pre e pre [] f rfl
      have ih2 := fun f => ih (pre ++ [y]) f (by simp [e])
      simp only [List.length_append, List.length_singleton] at ih2
      rw [f68_l63_eq, part_f, q10, ob_some, lenIt, ob_some, i_lss, ob_some, cnd_B, if_pos (by simpa using hlt')]
      simp only [part_f, q10, ob_some, i2, partIt, c103 y (hok.it y (by rw [e]; simp)), f68_j74_eq, hin, ih2, cnd_B, wrongI, hasB_map, List.map_append, List.map_cons, List.map_nil]
      cases f
      · simp
      · cases hit : itemP y <;> cases (pre.any fun z => decide (y.name = z.name)) <;> simp
  have wh : ∀ (r pre : List Ex) (n : Nat) (f : Bool), q.ws = pre ++ r → n + sizeXs r ≤ 1099511627776 →
      f68_l28 (qC q) (B f) (I n) (I pre.length) H Q = (if whereP n r = 0 then f68_l63 (qC q) (B (f && !(r.any fun y => decide (y.k = 16)))) (I 0) H Q else Q (I (whereP n r)) H) := by
    intro r
    induction r with
    | nil =>
      intro pre n f e hn
      have h1 : (pre.length : Int) = q.ws.length := by rw [e]; simp
      rw [f68_l28_eq, part_f, q6, ob_some, lenX, ob_some, i_lss, ob_some, cnd_B, h1]
      simp only [Int.lt_irrefl, decide_false, Bool.false_eq_true, if_false, i_geq, ob_some, cnd_B, whereP, List.any_nil, Bool.not_false, Bool.and_true, decide_eq_true_eq]
      by_cases h : 100 ≤ n
      · have h' : (100 : Int) ≤ (n : Int) := by omega
        simp [h, h']
      · have h' : ¬ (100 : Int) ≤ (n : Int) := by omega
        simp [h, h']
    | cons x r ih =>
      intro pre n f e hn
      have hlt : pre.length < q.ws.length := by rw [e]; simp
      have hlt' : (pre.length : Int) < q.ws.length := by omega
      have hx := hok.wx x (by rw [e]; simp)
      simp only [sizeXs] at hn
      have i1 := ixX q.ws q.wsz q.wnil q.wtip pre r x e
      have p0' : ((encC x).drop 0)[0]? = some (I x.k) := p0X x
      have ih2 := fun f => ih (pre ++ [x]) (n + sizeX x) f (by simp [e]) (by omega)
      simp only [List.length_append, List.length_singleton] at ih2
      have hw : W64 ((n : Int) + (sizeX x : Int)) = ((n + sizeX x : Nat) : Int) := by rw [w64_id (by omega) (by omega)]; rfl
      rw [f68_l28_eq, part_f, q6, ob_some, lenX, ob_some, i_lss, ob_some, cnd_B, if_pos (by simpa using hlt')]
      simp only [part_f, q6, ob_some, i1, partX, c57 x hx.1 hx.2 (show sizeX x ≤ 1152921504606846975 by omega), c23 x (show sizeX x ≤ 1152921504606846975 by omega), p0', i_neq, i_add, hw, w64_succ hlt (show q.ws.length ≤ 1152921504606846976 by omega), f68_j50_eq, ih2, cnd_B, whereP, List.any_cons]
      by_cases h : checkP x = 0
      · simp only [h, decide_true, Bool.not_true, Bool.false_eq_true, if_false, if_true]
        cases f
        · simp
        · by_cases h16 : x.k = 16 <;> simp [h16]
      · simp [h]
  have key : f68_j22 (qC q) (B (decide (q.key = e0 ∨ nameL q.key.data.toList = true) && rangeP q)) H Q = Q (I (if whereP 0 q.ws ≠ 0 then whereP 0 q.ws else restP q)) H := by
    have h0 : ∀ f, f68_l28 (qC q) (B f) (I 0) (I 0) H Q = _ := fun f => wh q.ws [] 0 f rfl (by have := hok.wsum; omega)
    have h1 : ∀ f, f68_l63 (qC q) (B f) (I 0) H Q = _ := fun f => items q.its [] f rfl
    rw [f68_j22_eq, h0, h1]
    by_cases h : whereP 0 q.ws = 0
    · simp only [h, if_true, ne_eq, not_true, if_false, restP, List.map_nil, Bool.and_eq_true, decide_eq_true_eq, Bool.not_eq_true']
      congr 2
      simp only [and_assoc]
    · simp [h]
  have ps : sizeT q.p ≤ 1152921504606846975 := by have := hok.ps; omega
  have c6 : ∀ b : Bool, f68_j15 (qC q) (B b) H Q = if b = true then Q (I 2) H else Q (I (if whereP 0 q.ws ≠ 0 then whereP 0 q.ws else restP q)) H := fun b => by
    rw [← key, f68_j15_eq]
    simp only [part_f, q7, q8, q9, ob_some, s_eql, i_geq, i_leq, c102 _ hok.key, f68_c6_8a_eq, f68_c6_8b_eq, f68_c6_13a_eq, f68_c6_13b_eq, f68_c6_18a_eq, f68_c6_18b_eq, f68_c6_23a_eq, f68_c6_23b_eq, f68_c6_28a_eq, f68_c6_28b_eq, cnd_B, rangeP]
    cases b
    · simp only [Bool.false_eq_true, if_false]
      by_cases hk : q.key = e0
      · by_cases h1 : 0 ≤ q.mode <;> by_cases h2 : q.mode ≤ 2 <;> by_cases h3 : 0 ≤ q.within <;> by_cases h4 : q.within ≤ 1099511627776 <;> simp [hk, h1, h2, h3, h4]
      · cases nameL q.key.data.toList
        · simp [hk]
        · by_cases h1 : 0 ≤ q.mode <;> by_cases h2 : q.mode ≤ 2 <;> by_cases h3 : 0 ≤ q.within <;> by_cases h4 : q.within ≤ 1099511627776 <;> simp [hk, h1, h2, h3, h4]
    · simp
  rw [f68_eq, szQ, ob_some, partQT, ob_some, c101 q.p hok.p ps]
  simp only [i_neq, ob_some, part_f, q6, q10, lenX, lenIt, i_gtr, c6, cnd_B, queryP, countsP]
  by_cases h : checkT q.p = 0
  · simp only [h, decide_true, Bool.not_true, Bool.false_eq_true, if_false, ne_eq, not_true]
    by_cases h1 : 16 < q.ws.length
    · have h1' : (16 : Int) < (q.ws.length : Int) := by omega
      simp [h1, h1']
    · have h1' : ¬ (16 : Int) < (q.ws.length : Int) := by omega
      by_cases h2 : 16 < q.its.length
      · have h2' : (16 : Int) < (q.its.length : Int) := by omega
        simp [h1, h1', h2, h2']
      · have h2' : ¬ (16 : Int) < (q.its.length : Int) := by omega
        simp [h1, h1', h2, h2']
  · simp [h]
end Go.Hx
