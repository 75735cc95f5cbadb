/- Numbers: what digits are worth; contracts. Own work (first part turned from S3C, S3U, S3V). -/
import Derived.Test.YtancdapnpceogaaGreatS5X
set_option maxRecDepth 20000
namespace Go.Hx
def negN (a : Int) : Int × Int := if a = -9223372036854775808 then (0, 10) else (W64 (0 - a), 0)
def subN (a b : Int) : Int × Int := if bitsI .xor .i64 a b < 0 ∧ bitsI .xor .i64 a (W64 (a - b)) < 0 then (0, 10) else (W64 (a - b), 0)
def signN (a : Int) : Int := if a < 0 then -1 else if 0 < a then 1 else 0
def mulN (a b : Int) : Int × Int :=
  if W64 (signN a * signN b) = 1 then
    (if (0 < a ∧ W64 ((9223372036854775807 : Int).tdiv a) < b) ∨ (a < 0 ∧ b < W64 ((9223372036854775807 : Int).tdiv a)) then (0, 10) else (W64 (a * b), 0))
  else if W64 (signN a * signN b) = -1 then
    (if (0 < a ∧ b < W64 ((-9223372036854775808 : Int).tdiv a)) ∨ (0 < b ∧ a < W64 ((-9223372036854775808 : Int).tdiv b)) then (0, 10) else (W64 (a * b), 0))
  else (0, 0)
def encN (p : Int × Int) : AV := .tup [I p.1, I p.2]
theorem c295 (a : Int) (H : Heap) (Q : Post) : E 295 [I a] H Q = Q (encN (negN a)) H := by
  simp only [f295_eq, i_eql, ob_some, cnd_B, decide_eq_true_eq, neg_I, negN]
  split <;> rfl
theorem c294 (a b : Int) (H : Heap) (Q : Post) : E 294 [I a, I b] H Q = Q (encN (subN a b)) H := by
  simp only [f294_eq, f294_j7_eq, i_sub, i_xor, i_lss, ob_some, cnd_B, decide_eq_true_eq, subN]
  repeat' split
  all_goals first | rfl | (simp_all; done) | (exfalso; simp_all; done) | (simp_all; omega)
theorem c304 (a : Int) (H : Heap) (Q : Post) : E 304 [I a] H Q = Q (I (signN a)) H := by
  simp only [f304_eq, i_lss, i_gtr, ob_some, cnd_B, decide_eq_true_eq, signN]
  split
  · rfl
  · split <;> rfl
theorem c293 (a b : Int) (H : Heap) (Q : Post) : E 293 [I a, I b] H Q = Q (encN (mulN a b)) H := by
  by_cases ha : a = 0
  · subst ha
    have h : W64 (signN 0 * signN b) = 0 := by simp [signN]; rfl
    simp [f293_eq, c304, i_mul, ob_some, i_eql, cnd_B, h, mulN, f293_j50_eq, encN]
  by_cases hb : b = 0
  · subst hb
    have h : W64 (signN a * signN 0) = 0 := by simp [signN]; rfl
    simp [f293_eq, c304, i_mul, ob_some, i_eql, cnd_B, h, mulN, f293_j50_eq, encN]
  have q1 := fun x => i_quo (P := Pg) 2 true x a ha
  have q2 := fun x => i_quo (P := Pg) 2 true x b hb
  simp only [f293_eq, f293_c5_8a_eq, f293_c5_8b_eq, f293_c7_8a_eq, f293_c7_8b_eq, f293_j50_eq, f293_c5_17a_eq, f293_c5_17b_eq, f293_c5_17c_eq, f293_c7_17a_eq, f293_c7_17b_eq, f293_c7_17c_eq, f293_j35_eq, f293_j44_eq,
    c304, i_mul, i_eql, i_gtr, i_lss, q1, q2, ob_some, cnd_B, decide_eq_true_eq, mulN, Bool.false_eq_true, if_false, if_true]
  repeat' split
  all_goals first | rfl | (simp_all; done) | (exfalso; simp_all; done) | (exfalso; simp_all; omega) | (exfalso; omega)
theorem xor_neg {a b : Int} (ha : rng a) (hb : rng b) : bitsI .xor .i64 a b < 0 ↔ ((a < 0) ↔ ¬ (b < 0)) := by
  have h : bitsI .xor .i64 a b = (BitVec.ofInt 64 a ^^^ BitVec.ofInt 64 b).toInt := wrap_bv _
  have hm : ∀ x : BitVec 64, x.toInt < 0 ↔ x.msb = true := fun x => by rw [BitVec.msb_eq_toInt]; simp
  rw [h, hm, BitVec.msb_xor, BitVec.msb_eq_toInt, BitVec.msb_eq_toInt, toInt_of ha, toInt_of hb]
  by_cases h1 : a < 0 <;> by_cases h2 : b < 0 <;> simp [h1, h2]
def inOr (n : Int) : Int × Int := if -9223372036854775808 ≤ n ∧ n ≤ 9223372036854775807 then (n, 0) else (0, 10)
theorem subN_eq {a b : Int} (ha : rng a) (hb : rng b) : subN a b = inOr (a - b) := by
  have hw := w64_rng (a - b)
  obtain ⟨k, hk⟩ := w64_mod (a - b)
  simp only [subN, xor_neg ha hb, xor_neg ha hw, inOr]
  obtain ⟨a1, a2⟩ := ha
  obtain ⟨b1, b2⟩ := hb
  obtain ⟨w1, w2⟩ := hw
  have hk1 : k = 0 ∨ k = 1 ∨ k = -1 := by omega
  rcases hk1 with rfl | rfl | rfl
  · rw [if_neg (by omega), if_pos (by omega)]
    congr 1; omega
  · rw [if_pos (by omega), if_neg (by omega)]
  · rw [if_pos (by omega), if_neg (by omega)]
def addR (a b : Int) : Int × Int :=
  if (0 < b ∧ W64 (9223372036854775807 - b) < a) ∨ (b < 0 ∧ a < W64 (-9223372036854775808 - b)) then (0, 10) else (W64 (a + b), 0)
theorem addR_eq {a b : Int} (ha : rng a) (hb : rng b) : addR a b = inOr (a + b) := by
  obtain ⟨a1, a2⟩ := ha
  obtain ⟨b1, b2⟩ := hb
  simp only [addR, inOr]
  by_cases h1 : 0 < b
  · rw [w64_id (n := 9223372036854775807 - b) (by omega) (by omega)]
    by_cases h2 : 9223372036854775807 - b < a
    · rw [if_pos (.inl ⟨h1, h2⟩), if_neg (by omega)]
    · rw [if_neg (by omega), if_pos (by omega), w64_id (by omega) (by omega)]
  · by_cases h3 : b < 0
    · rw [w64_id (n := -9223372036854775808 - b) (by omega) (by omega)]
      by_cases h2 : a < -9223372036854775808 - b
      · rw [if_pos (.inr ⟨h3, h2⟩), if_neg (by omega)]
      · rw [if_neg (by omega), if_pos (by omega), w64_id (by omega) (by omega)]
    · rw [if_neg (by omega), if_pos (by omega), w64_id (by omega) (by omega)]
def subR (a b : Int) : Int × Int :=
  if b = -9223372036854775808 then (if 0 ≤ a then (0, 10) else (W64 (a - b), 0)) else addR a (W64 (0 - b))
theorem subR_eq {a b : Int} (ha : rng a) (hb : rng b) : subR a b = inOr (a - b) := by
  simp only [subR]
  by_cases h : b = -9223372036854775808
  · rw [if_pos h]
    obtain ⟨a1, a2⟩ := ha
    simp only [inOr]
    by_cases h2 : 0 ≤ a
    · rw [if_pos h2, if_neg (by omega)]
    · rw [if_neg h2, if_pos (by omega), w64_id (by omega) (by omega)]
  · rw [if_neg h]
    obtain ⟨b1, b2⟩ := id hb
    rw [w64_id (n := 0 - b) (by omega) (by omega), addR_eq ha ⟨by omega, by omega⟩]
    congr 1; omega


/-- a quotient tells whether a product is beyond -/
theorem gt_div {m a b : Int} (ha : 0 < a) : m / a < b ↔ m < a * b := by
  rw [Int.ediv_lt_iff_lt_mul ha, Int.mul_comm]
theorem div_rng {m a : Int} (hm : 0 ≤ m) (ha : 0 < a) : 0 ≤ m / a ∧ m / a ≤ m := ⟨Int.ediv_nonneg hm (by omega), Int.ediv_le_self _ hm⟩
theorem mulN_eq {a b : Int} (ha : rng a) (hb : rng b) : mulN a b = inOr (a * b) := by
  obtain ⟨a1, a2⟩ := ha
  obtain ⟨b1, b2⟩ := hb
  have w1 : W64 (1 : Int) = 1 := rfl
  have wm : W64 (-1 : Int) = -1 := rfl
  have w0 : W64 (0 : Int) = 0 := rfl
  simp only [mulN, inOr]
  rcases Int.lt_trichotomy a 0 with h | rfl | h
  · have sa : signN a = -1 := by simp [signN, h]
    rcases Int.lt_trichotomy b 0 with g | rfl | g
    · have sb : signN b = -1 := by simp [signN, g]
      have hp : 0 < a * b := Int.mul_pos_of_neg_of_neg h g
      have hd : (9223372036854775807 : Int).tdiv a = -(9223372036854775807 / (-a)) := by
        rw [← Int.tdiv_eq_ediv_of_nonneg (by omega), Int.tdiv_neg, Int.neg_neg]
      obtain ⟨d1, d2⟩ := div_rng (m := 9223372036854775807) (a := -a) (by omega) (by omega)
      have hg := gt_div (m := 9223372036854775807) (a := -a) (b := -b) (by omega)
      rw [Int.neg_mul_neg] at hg
      rw [sa, sb, show (-1 : Int) * -1 = 1 from rfl, w1, if_pos rfl, hd, w64_id (n := -(9223372036854775807 / (-a))) (by omega) (by omega)]
      by_cases hc : 9223372036854775807 < a * b
      · rw [if_pos (.inr ⟨h, by have := hg.2 hc; omega⟩), if_neg (by omega)]
      · have : ¬ 9223372036854775807 / (-a) < -b := fun x => hc (hg.1 x)
        rw [if_neg (by omega), if_pos (by omega), w64_id (by omega) (by omega)]
    · simp [signN, w0]
    · have sb : signN b = 1 := by have : ¬ b < 0 := by omega
                                  simp [signN, g, this]
      have hp : a * b < 0 := Int.mul_neg_of_neg_of_pos h g
      have hd : (-9223372036854775808 : Int).tdiv b = -(9223372036854775808 / b) := by
        rw [← Int.tdiv_eq_ediv_of_nonneg (by omega), ← Int.neg_tdiv]
      obtain ⟨d1, d2⟩ := div_rng (m := 9223372036854775808) (a := b) (by omega) g
      have hg := gt_div (m := 9223372036854775808) (a := b) (b := -a) g
      rw [Int.mul_neg, Int.mul_comm b a] at hg
      rw [sa, sb, show (-1 : Int) * 1 = -1 from rfl, wm, if_neg (by decide), if_pos rfl, hd, w64_id (n := -(9223372036854775808 / b)) (by omega) (by omega)]
      by_cases hc : a * b < -9223372036854775808
      · rw [if_pos (.inr ⟨g, by have := hg.2 (by omega); omega⟩), if_neg (by omega)]
      · have : ¬ 9223372036854775808 / b < -a := fun x => hc (by have := hg.1 x; omega)
        rw [if_neg (by omega), if_pos (by omega), w64_id (by omega) (by omega)]
  · simp [signN, w0]
  · have sa : signN a = 1 := by have : ¬ a < 0 := by omega
                                simp [signN, h, this]
    rcases Int.lt_trichotomy b 0 with g | rfl | g
    · have sb : signN b = -1 := by simp [signN, g]
      have hp : a * b < 0 := Int.mul_neg_of_pos_of_neg h g
      have hd : (-9223372036854775808 : Int).tdiv a = -(9223372036854775808 / a) := by
        rw [← Int.tdiv_eq_ediv_of_nonneg (by omega), ← Int.neg_tdiv]
      obtain ⟨d1, d2⟩ := div_rng (m := 9223372036854775808) (a := a) (by omega) h
      have hg := gt_div (m := 9223372036854775808) (a := a) (b := -b) h
      rw [Int.mul_neg] at hg
      rw [sa, sb, show (1 : Int) * -1 = -1 from rfl, wm, if_neg (by decide), if_pos rfl, hd, w64_id (n := -(9223372036854775808 / a)) (by omega) (by omega)]
      by_cases hc : a * b < -9223372036854775808
      · rw [if_pos (.inl ⟨h, by have := hg.2 (by omega); omega⟩), if_neg (by omega)]
      · have : ¬ 9223372036854775808 / a < -b := fun x => hc (by have := hg.1 x; omega)
        rw [if_neg (by omega), if_pos (by omega), w64_id (by omega) (by omega)]
    · simp [signN, w0]
    · have sb : signN b = 1 := by have : ¬ b < 0 := by omega
                                  simp [signN, g, this]
      have hp : 0 < a * b := Int.mul_pos h g
      have hd : (9223372036854775807 : Int).tdiv a = 9223372036854775807 / a := Int.tdiv_eq_ediv_of_nonneg (by omega)
      obtain ⟨d1, d2⟩ := div_rng (m := 9223372036854775807) (a := a) (by omega) h
      have hg := gt_div (m := 9223372036854775807) (a := a) (b := b) h
      rw [sa, sb, show (1 : Int) * 1 = 1 from rfl, w1, if_pos rfl, hd, w64_id (n := 9223372036854775807 / a) (by omega) (by omega)]
      by_cases hc : 9223372036854775807 < a * b
      · rw [if_pos (.inl ⟨h, hg.2 hc⟩), if_neg (by omega)]
      · have : ¬ 9223372036854775807 / a < b := fun x => hc (hg.1 x)
        rw [if_neg (by omega), if_pos (by omega), w64_id (by omega) (by omega)]
def mulR (a b : Int) : Int × Int :=
  if a = 0 ∨ b = 0 then (0, 0)
  else if (a = -9223372036854775808 ∧ b = -1) ∨ (b = -9223372036854775808 ∧ a = -1) then (0, 10)
  else if W64 ((W64 (a * b)).tdiv b) ≠ a ∨ (a = -9223372036854775808 ∧ b ≠ 1 ∧ W64 ((W64 (a * b)).tdiv a) ≠ b) then (0, 10)
  else (W64 (a * b), 0)
theorem mulR_eq {a b : Int} (ha : rng a) (hb : rng b) : mulR a b = inOr (a * b) := by
  obtain ⟨a1, a2⟩ := id ha
  obtain ⟨b1, b2⟩ := id hb
  simp only [mulR]
  by_cases h0 : a = 0 ∨ b = 0
  · rw [if_pos h0]
    rcases h0 with rfl | rfl <;> simp [inOr]
  · rw [if_neg h0]
    have ha0 : a ≠ 0 := fun e => h0 (.inl e)
    have hb0 : b ≠ 0 := fun e => h0 (.inr e)
    by_cases h1 : (a = -9223372036854775808 ∧ b = -1) ∨ (b = -9223372036854775808 ∧ a = -1)
    · rw [if_pos h1]
      rcases h1 with ⟨rfl, rfl⟩ | ⟨rfl, rfl⟩ <;> rfl
    · rw [if_neg h1]
      by_cases hin : -9223372036854775808 ≤ a * b ∧ a * b ≤ 9223372036854775807
      · rw [w64_id hin.1 hin.2, Int.mul_tdiv_cancel a hb0, Int.mul_tdiv_cancel_left b ha0, w64_id a1 a2, w64_id b1 b2, if_neg (by simp), inOr, if_pos hin]
      · have hne : W64 ((W64 (a * b)).tdiv b) ≠ a := by
          intro hq
          obtain ⟨c1, c2⟩ := w64_rng (a * b)
          obtain ⟨k, hk⟩ := w64_mod (a * b)
          generalize W64 (a * b) = c at hq c1 c2 hk
          have e1 := Int.mul_tdiv_add_tmod c b
          have e2 : (c.tmod b).natAbs < b.natAbs := by rw [Int.natAbs_tmod]; exact Nat.mod_lt _ (by omega)
          have e3 := Int.natAbs_tdiv_le_natAbs c b
          generalize c.tmod b = r at e1 e2
          generalize c.tdiv b = q at hq e1 e3
          by_cases hq2 : q = 9223372036854775808
          · subst hq2
            have hcl : c = -9223372036854775808 := by omega
            have hb1 : b = -1 := by omega
            subst hb1
            have : a * -1 = -a := by omega
            rw [this] at hin
            omega
          · rw [w64_id (by omega) (by omega)] at hq
            subst hq
            rw [Int.mul_comm] at hk
            have : r = k * 18446744073709551616 := by omega
            have hk0 : k = 0 := by omega
            subst hk0
            rw [Int.mul_comm] at hin
            omega
        rw [inOr, if_neg hin, if_pos (.inl hne)]
theorem extN0 (p : Int × Int) : extractA (encN p) 0 = some (I p.1) := rfl
theorem extN1 (p : Int × Int) : extractA (encN p) 1 = some (I p.2) := rfl
theorem c272 (a : Int) (H : Heap) (Q : Post) : E 272 [I a] H Q = Q (encN (negN a)) H := by
  simp only [f272_eq, i_eql, ob_some, cnd_B, decide_eq_true_eq, neg_I, negN]
  split <;> rfl
theorem c296 (a b : Int) (H : Heap) (Q : Post) : E 296 [I a, I b] H Q = Q (encN (addR a b)) H := by
  simp only [f296_eq, f296_c1_8a_eq, f296_c1_8b_eq, f296_c1_17a_eq, f296_c1_17b_eq, f296_c1_17c_eq, f296_j5_eq, i_gtr, i_lss, i_sub, i_add, ob_some, cnd_B, decide_eq_true_eq, addR, Bool.false_eq_true, if_false, if_true]
  repeat' split
  all_goals first | rfl | (simp_all; done) | (exfalso; simp_all; done) | (exfalso; omega) | (exfalso; simp_all; omega)
theorem c271 (a b : Int) (H : Heap) (Q : Post) : E 271 [I a, I b] H Q = Q (encN (subR a b)) H := by
  simp only [f271_eq, i_eql, i_geq, i_sub, neg_I, c296, extN0, extN1, ob_some, cnd_B, decide_eq_true_eq, subR]
  repeat' split
  all_goals rfl
theorem c270 (a b : Int) (H : Heap) (Q : Post) : E 270 [I a, I b] H Q = Q (encN (mulR a b)) H := by
  by_cases h0 : a = 0 ∨ b = 0
  · simp only [f270_eq, i_eql, ob_some, cnd_B, decide_eq_true_eq, f270_j5_eq, mulR, if_pos h0]
    rcases h0 with rfl | rfl
    · simp [encN]
    · by_cases ha : a = 0 <;> simp [ha, encN]
  · have ha : a ≠ 0 := fun e => h0 (.inl e)
    have hb : b ≠ 0 := fun e => h0 (.inr e)
    have q1 := fun x => i_quo (P := Pg) 2 false x a ha
    have q2 := fun x => i_quo (P := Pg) 2 false x b hb
    simp only [f270_eq, f270_j5_eq, f270_c3_6a_eq, f270_c3_6b_eq, f270_c3_13a_eq, f270_c3_13b_eq, f270_c3_13c_eq, f270_j13_eq, f270_c6_12a_eq, f270_c6_12b_eq, f270_c6_12c_eq, f270_c6_19a_eq, f270_c6_19b_eq, f270_c6_19c_eq, f270_j23_eq,
      i_eql, i_neq, i_mul, q1, q2, ob_some, cnd_B, decide_eq_true_eq, mulR, if_neg h0, if_neg ha, if_neg hb, Bool.false_eq_true, if_false, if_true]
    repeat' split
    all_goals first | rfl | (simp_all; done) | (exfalso; simp_all; done) | (exfalso; omega) | (exfalso; simp_all; omega)
end Go.Hx
