/- Numbers: what digits are worth; contracts. Own work (first part turned from S3C, S3U, S3V). And what builds on it. -/
import Derived.Test.YtancdapnpceogaaGreatS5M1
set_option maxRecDepth 20000
namespace Go.Hx
def negN (a : Int) : Int × Int := if a = -9223372036854775808 then (0, 10) else (W64 (0 - a), 0)
def subN (a b : Int) : Int × Int := if bitsI .xor .i64 a b < 0 ∧ bitsI .xor .i64 a (W64 (a - b)) < 0 then (0, 10) else (W64 (a - b), 0)
def signN (a : Int) : Int := if a < 0 then -1 else if 0 < a then 1 else 0
def mulN (a b : Int) : Int × Int :=
  if W64 (signN a * signN b) = 1 then
    (if (0 < a ∧ W64 ((9223372036854775807 : Int).tdiv a) < b) ∨ (a < 0 ∧ b < W64 ((9223372036854775807 : Int).tdiv a)) then (0, 10) else (W64 (a * b), 0))
  else if W64 (signN a * signN b) = -1 then
    (if (0 < a ∧ b < W64 ((-9223372036854775808 : Int).tdiv a)) ∨ (0 < b ∧ a < W64 ((-9223372036854775808 : Int).tdiv b)) then (0, 10) else (W64 (a * b), 0))
  else (0, 0)
def encN (p : Int × Int) : AV := .tup [I p.1, I p.2]
theorem c295 (a : Int) (H : Heap) (Q : Post) : E 295 [I a] H Q = Q (encN (negN a)) H := by
  simp only [f295_eq, i_eql, ob_some, cnd_B, decide_eq_true_eq, neg_I, negN]
  split <;> rfl
theorem c294 (a b : Int) (H : Heap) (Q : Post) : E 294 [I a, I b] H Q = Q (encN (subN a b)) H := by
  simp only [f294_eq, f294_j7_eq, i_sub, i_xor, i_lss, ob_some, cnd_B, decide_eq_true_eq, subN]
  repeat' split
  all_goals first | rfl | (simp_all; done) | (exfalso; simp_all; done) | (simp_all; omega)
theorem c304 (a : Int) (H : Heap) (Q : Post) : E 304 [I a] H Q = Q (I (signN a)) H := by
  simp only [f304_eq, i_lss, i_gtr, ob_some, cnd_B, decide_eq_true_eq, signN]
  split
  · rfl
  · split <;> rfl
theorem c293 (a b : Int) (H : Heap) (Q : Post) : E 293 [I a, I b] H Q = Q (encN (mulN a b)) H := by
  by_cases ha : a = 0
  · subst ha
    have h : W64 (signN 0 * signN b) = 0 := by simp [signN]; rfl
    simp [f293_eq, c304, i_mul, ob_some, i_eql, cnd_B, h, mulN, f293_j50_eq, encN]
  by_cases hb : b = 0
  · subst hb
    have h : W64 (signN a * signN 0) = 0 := by simp [signN]; rfl
    simp [f293_eq, c304, i_mul, ob_some, i_eql, cnd_B, h, mulN, f293_j50_eq, encN]
  have q1 := fun x => i_quo (P := Pg) 2 true x a ha
  have q2 := fun x => i_quo (P := Pg) 2 true x b hb
  simp only [f293_eq, f293_c5_8a_eq, f293_c5_8b_eq, f293_c7_8a_eq, f293_c7_8b_eq, f293_j50_eq, f293_c5_17a_eq, f293_c5_17b_eq, f293_c5_17c_eq, f293_c7_17a_eq, f293_c7_17b_eq, f293_c7_17c_eq, f293_j35_eq, f293_j44_eq,
    c304, i_mul, i_eql, i_gtr, i_lss, q1, q2, ob_some, cnd_B, decide_eq_true_eq, mulN, Bool.false_eq_true, if_false, if_true]
  repeat' split
  all_goals first | rfl | (simp_all; done) | (exfalso; simp_all; done) | (exfalso; simp_all; omega) | (exfalso; omega)
theorem xor_neg {a b : Int} (ha : rng a) (hb : rng b) : bitsI .xor .i64 a b < 0 ↔ ((a < 0) ↔ ¬ (b < 0)) := by
  have h : bitsI .xor .i64 a b = (BitVec.ofInt 64 a ^^^ BitVec.ofInt 64 b).toInt := wrap_bv _
  have hm : ∀ x : BitVec 64, x.toInt < 0 ↔ x.msb = true := fun x => by rw [BitVec.msb_eq_toInt]; simp
  rw [h, hm, BitVec.msb_xor, BitVec.msb_eq_toInt, BitVec.msb_eq_toInt, toInt_of ha, toInt_of hb]
  by_cases h1 : a < 0 <;> by_cases h2 : b < 0 <;> simp [h1, h2]
def inOr (n : Int) : Int × Int := if -9223372036854775808 ≤ n ∧ n ≤ 9223372036854775807 then (n, 0) else (0, 10)
theorem subN_eq {a b : Int} (ha : rng a) (hb : rng b) : subN a b = inOr (a - b) := by
  have hw := w64_rng (a - b)
  obtain ⟨k, hk⟩ := w64_mod (a - b)
  simp only [subN, xor_neg ha hb, xor_neg ha hw, inOr]
  obtain ⟨a1, a2⟩ := ha
  obtain ⟨b1, b2⟩ := hb
  obtain ⟨w1, w2⟩ := hw
  have hk1 : k = 0 ∨ k = 1 ∨ k = -1 := by omega
  rcases hk1 with rfl | rfl | rfl
  · rw [if_neg (by omega), if_pos (by omega)]
    congr 1; omega
  · rw [if_pos (by omega), if_neg (by omega)]
  · rw [if_pos (by omega), if_neg (by omega)]
def addR (a b : Int) : Int × Int :=
  if (0 < b ∧ W64 (9223372036854775807 - b) < a) ∨ (b < 0 ∧ a < W64 (-9223372036854775808 - b)) then (0, 10) else (W64 (a + b), 0)
theorem addR_eq {a b : Int} (ha : rng a) (hb : rng b) : addR a b = inOr (a + b) := by
  obtain ⟨a1, a2⟩ := ha
  obtain ⟨b1, b2⟩ := hb
  simp only [addR, inOr]
  by_cases h1 : 0 < b
  · rw [w64_id (n := 9223372036854775807 - b) (by omega) (by omega)]
    by_cases h2 : 9223372036854775807 - b < a
    · rw [if_pos (.inl ⟨h1, h2⟩), if_neg (by omega)]
    · rw [if_neg (by omega), if_pos (by omega), w64_id (by omega) (by omega)]
  · by_cases h3 : b < 0
    · rw [w64_id (n := -9223372036854775808 - b) (by omega) (by omega)]
      by_cases h2 : a < -9223372036854775808 - b
      · rw [if_pos (.inr ⟨h3, h2⟩), if_neg (by omega)]
      · rw [if_neg (by omega), if_pos (by omega), w64_id (by omega) (by omega)]
    · rw [if_neg (by omega), if_pos (by omega), w64_id (by omega) (by omega)]
def subR (a b : Int) : Int × Int :=
  if b = -9223372036854775808 then (if 0 ≤ a then (0, 10) else (W64 (a - b), 0)) else addR a (W64 (0 - b))
theorem subR_eq {a b : Int} (ha : rng a) (hb : rng b) : subR a b = inOr (a - b) := by
  simp only [subR]
  by_cases h : b = -9223372036854775808
  · rw [if_pos h]
    obtain ⟨a1, a2⟩ := ha
    simp only [inOr]
    by_cases h2 : 0 ≤ a
    · rw [if_pos h2, if_neg (by omega)]
    · rw [if_neg h2, if_pos (by omega), w64_id (by omega) (by omega)]
  · rw [if_neg h]
    obtain ⟨b1, b2⟩ := id hb
    rw [w64_id (n := 0 - b) (by omega) (by omega), addR_eq ha ⟨by omega, by omega⟩]
    congr 1; omega


/-- a quotient tells whether a product is beyond -/
theorem gt_div {m a b : Int} (ha : 0 < a) : m / a < b ↔ m < a * b := by
  rw [Int.ediv_lt_iff_lt_mul ha, Int.mul_comm]
theorem div_rng {m a : Int} (hm : 0 ≤ m) (ha : 0 < a) : 0 ≤ m / a ∧ m / a ≤ m := ⟨Int.ediv_nonneg hm (by omega), Int.ediv_le_self _ hm⟩
theorem mulN_eq {a b : Int} (ha : rng a) (hb : rng b) : mulN a b = inOr (a * b) := by
  obtain ⟨a1, a2⟩ := ha
  obtain ⟨b1, b2⟩ := hb
  have w1 : W64 (1 : Int) = 1 := rfl
  have wm : W64 (-1 : Int) = -1 := rfl
  have w0 : W64 (0 : Int) = 0 := rfl
  simp only [mulN, inOr]
  rcases Int.lt_trichotomy a 0 with h | rfl | h
  · have sa : signN a = -1 := by simp [signN, h]
    rcases Int.lt_trichotomy b 0 with g | rfl | g
    · have sb : signN b = -1 := by simp [signN, g]
      have hp : 0 < a * b := Int.mul_pos_of_neg_of_neg h g
      have hd : (9223372036854775807 : Int).tdiv a = -(9223372036854775807 / (-a)) := by
        rw [← Int.tdiv_eq_ediv_of_nonneg (by omega), Int.tdiv_neg, Int.neg_neg]
      obtain ⟨d1, d2⟩ := div_rng (m := 9223372036854775807) (a := -a) (by omega) (by omega)
      have hg := gt_div (m := 9223372036854775807) (a := -a) (b := -b) (by omega)
      rw [Int.neg_mul_neg] at hg
      rw [sa, sb, show (-1 : Int) * -1 = 1 from rfl, w1, if_pos rfl, hd, w64_id (n := -(9223372036854775807 / (-a))) (by omega) (by omega)]
      by_cases hc : 9223372036854775807 < a * b
      · rw [if_pos (.inr ⟨h, by have := hg.2 hc; omega⟩), if_neg (by omega)]
      · have : ¬ 9223372036854775807 / (-a) < -b := fun x => hc (hg.1 x)
        rw [if_neg (by omega), if_pos (by omega), w64_id (by omega) (by omega)]
    · simp [signN, w0]
    · have sb : signN b = 1 := by have : ¬ b < 0 := by omega
                                  simp [signN, g, this]
      have hp : a * b < 0 := Int.mul_neg_of_neg_of_pos h g
      have hd : (-9223372036854775808 : Int).tdiv b = -(9223372036854775808 / b) := by
        rw [← Int.tdiv_eq_ediv_of_nonneg (by omega), ← Int.neg_tdiv]
      obtain ⟨d1, d2⟩ := div_rng (m := 9223372036854775808) (a := b) (by omega) g
      have hg := gt_div (m := 9223372036854775808) (a := b) (b := -a) g
      rw [Int.mul_neg, Int.mul_comm b a] at hg
      rw [sa, sb, show (-1 : Int) * 1 = -1 from rfl, wm, if_neg (by decide), if_pos rfl, hd, w64_id (n := -(9223372036854775808 / b)) (by omega) (by omega)]
      by_cases hc : a * b < -9223372036854775808
      · rw [if_pos (.inr ⟨g, by have := hg.2 (by omega); omega⟩), if_neg (by omega)]
      · have : ¬ 9223372036854775808 / b < -a := fun x => hc (by have := hg.1 x; omega)
        rw [if_neg (by omega), if_pos (by omega), w64_id (by omega) (by omega)]
  · simp [signN, w0]
  · have sa : signN a = 1 := by have : ¬ a < 0 := by omega
                                simp [signN, h, this]
    rcases Int.lt_trichotomy b 0 with g | rfl | g
    · have sb : signN b = -1 := by simp [signN, g]
      have hp : a * b < 0 := Int.mul_neg_of_pos_of_neg h g
      have hd : (-9223372036854775808 : Int).tdiv a = -(9223372036854775808 / a) := by
        rw [← Int.tdiv_eq_ediv_of_nonneg (by omega), ← Int.neg_tdiv]
      obtain ⟨d1, d2⟩ := div_rng (m := 9223372036854775808) (a := a) (by omega) h
      have hg := gt_div (m := 9223372036854775808) (a := a) (b := -b) h
      rw [Int.mul_neg] at hg
      rw [sa, sb, show (1 : Int) * -1 = -1 from rfl, wm, if_neg (by decide), if_pos rfl, hd, w64_id (n := -(9223372036854775808 / a)) (by omega) (by omega)]
      by_cases hc : a * b < -9223372036854775808
      · rw [if_pos (.inl ⟨h, by have := hg.2 (by omega); omega⟩), if_neg (by omega)]
      · have : ¬ 9223372036854775808 / a < -b := fun x => hc (by have := hg.1 x; omega)
        rw [if_neg (by omega), if_pos (by omega), w64_id (by omega) (by omega)]
    · simp [signN, w0]
    · have sb : signN b = 1 := by have : ¬ b < 0 := by omega
                                  simp [signN, g, this]
      have hp : 0 < a * b := Int.mul_pos h g
      have hd : (9223372036854775807 : Int).tdiv a = 9223372036854775807 / a := Int.tdiv_eq_ediv_of_nonneg (by omega)
      obtain ⟨d1, d2⟩ := div_rng (m := 9223372036854775807) (a := a) (by omega) h
      have hg := gt_div (m := 9223372036854775807) (a := a) (b := b) h
      rw [sa, sb, show (1 : Int) * 1 = 1 from rfl, w1, if_pos rfl, hd, w64_id (n := 9223372036854775807 / a) (by omega) (by omega)]
      by_cases hc : 9223372036854775807 < a * b
      · rw [if_pos (.inl ⟨h, hg.2 hc⟩), if_neg (by omega)]
      · have : ¬ 9223372036854775807 / a < b := fun x => hc (hg.1 x)
        rw [if_neg (by omega), if_pos (by omega), w64_id (by omega) (by omega)]
def mulR (a b : Int) : Int × Int :=
  if a = 0 ∨ b = 0 then (0, 0)
  else if (a = -9223372036854775808 ∧ b = -1) ∨ (b = -9223372036854775808 ∧ a = -1) then (0, 10)
  else if W64 ((W64 (a * b)).tdiv b) ≠ a ∨ (a = -9223372036854775808 ∧ b ≠ 1 ∧ W64 ((W64 (a * b)).tdiv a) ≠ b) then (0, 10)
  else (W64 (a * b), 0)
theorem mulR_eq {a b : Int} (ha : rng a) (hb : rng b) : mulR a b = inOr (a * b) := by
  obtain ⟨a1, a2⟩ := id ha
  obtain ⟨b1, b2⟩ := id hb
  simp only [mulR]
  by_cases h0 : a = 0 ∨ b = 0
  · rw [if_pos h0]
    rcases h0 with rfl | rfl <;> simp [inOr]
  · rw [if_neg h0]
    have ha0 : a ≠ 0 := fun e => h0 (.inl e)
    have hb0 : b ≠ 0 := fun e => h0 (.inr e)
    by_cases h1 : (a = -9223372036854775808 ∧ b = -1) ∨ (b = -9223372036854775808 ∧ a = -1)
    · rw [if_pos h1]
      rcases h1 with ⟨rfl, rfl⟩ | ⟨rfl, rfl⟩ <;> rfl
    · rw [if_neg h1]
      by_cases hin : -9223372036854775808 ≤ a * b ∧ a * b ≤ 9223372036854775807
      · rw [w64_id hin.1 hin.2, Int.mul_tdiv_cancel a hb0, Int.mul_tdiv_cancel_left b ha0, w64_id a1 a2, w64_id b1 b2, if_neg (by simp), inOr, if_pos hin]
      · have hne : W64 ((W64 (a * b)).tdiv b) ≠ a := by
          intro hq
          obtain ⟨c1, c2⟩ := w64_rng (a * b)
          obtain ⟨k, hk⟩ := w64_mod (a * b)
          generalize W64 (a * b) = c at hq c1 c2 hk
          have e1 := Int.mul_tdiv_add_tmod c b
          have e2 : (c.tmod b).natAbs < b.natAbs := by rw [Int.natAbs_tmod]; exact Nat.mod_lt _ (by omega)
          have e3 := Int.natAbs_tdiv_le_natAbs c b
          generalize c.tmod b = r at e1 e2
          generalize c.tdiv b = q at hq e1 e3
          by_cases hq2 : q = 9223372036854775808
          · subst hq2
            have hcl : c = -9223372036854775808 := by omega
            have hb1 : b = -1 := by omega
            subst hb1
            have : a * -1 = -a := by omega
            rw [this] at hin
            omega
          · rw [w64_id (by omega) (by omega)] at hq
            subst hq
            rw [Int.mul_comm] at hk
            have : r = k * 18446744073709551616 := by omega
            have hk0 : k = 0 := by omega
            subst hk0
            rw [Int.mul_comm] at hin
            omega
        rw [inOr, if_neg hin, if_pos (.inl hne)]
theorem extN0 (p : Int × Int) : extractA (encN p) 0 = some (I p.1) := rfl
theorem extN1 (p : Int × Int) : extractA (encN p) 1 = some (I p.2) := rfl
theorem c272 (a : Int) (H : Heap) (Q : Post) : E 272 [I a] H Q = Q (encN (negN a)) H := by
  simp only [f272_eq, i_eql, ob_some, cnd_B, decide_eq_true_eq, neg_I, negN]
  split <;> rfl
theorem c296 (a b : Int) (H : Heap) (Q : Post) : E 296 [I a, I b] H Q = Q (encN (addR a b)) H := by
  simp only [f296_eq, f296_c1_8a_eq, f296_c1_8b_eq, f296_c1_17a_eq, f296_c1_17b_eq, f296_c1_17c_eq, f296_j5_eq, i_gtr, i_lss, i_sub, i_add, ob_some, cnd_B, decide_eq_true_eq, addR, Bool.false_eq_true, if_false, if_true]
  repeat' split
  all_goals first | rfl | (simp_all; done) | (exfalso; simp_all; done) | (exfalso; omega) | (exfalso; simp_all; omega)
theorem c271 (a b : Int) (H : Heap) (Q : Post) : E 271 [I a, I b] H Q = Q (encN (subR a b)) H := by
  simp only [f271_eq, i_eql, i_geq, i_sub, neg_I, c296, extN0, extN1, ob_some, cnd_B, decide_eq_true_eq, subR]
  repeat' split
  all_goals rfl
theorem c270 (a b : Int) (H : Heap) (Q : Post) : E 270 [I a, I b] H Q = Q (encN (mulR a b)) H := by
  by_cases h0 : a = 0 ∨ b = 0
  · simp only [f270_eq, i_eql, ob_some, cnd_B, decide_eq_true_eq, f270_j5_eq, mulR, if_pos h0]
    rcases h0 with rfl | rfl
    · simp [encN]
    · by_cases ha : a = 0 <;> simp [ha, encN]
  · have ha : a ≠ 0 := fun e => h0 (.inl e)
    have hb : b ≠ 0 := fun e => h0 (.inr e)
    have q1 := fun x => i_quo (P := Pg) 2 false x a ha
    have q2 := fun x => i_quo (P := Pg) 2 false x b hb
    simp only [f270_eq, f270_j5_eq, f270_c3_6a_eq, f270_c3_6b_eq, f270_c3_13a_eq, f270_c3_13b_eq, f270_c3_13c_eq, f270_j13_eq, f270_c6_12a_eq, f270_c6_12b_eq, f270_c6_12c_eq, f270_c6_19a_eq, f270_c6_19b_eq, f270_c6_19c_eq, f270_j23_eq,
      i_eql, i_neq, i_mul, q1, q2, ob_some, cnd_B, decide_eq_true_eq, mulR, if_neg h0, if_neg ha, if_neg hb, Bool.false_eq_true, if_false, if_true]
    repeat' split
    all_goals first | rfl | (simp_all; done) | (exfalso; simp_all; done) | (exfalso; omega) | (exfalso; simp_all; omega)
end Go.Hx
namespace Go.Hx
def valF (acc : Nat) (l : List UInt8) : Nat := l.foldl (fun n c => 10 * n + (c.toNat - 48)) acc
theorem valD_eq (l : List UInt8) : valD l = valF 0 l := rfl
theorem valF_ge : ∀ (l : List UInt8) (a : Nat), a ≤ valF a l := by
  intro l
  induction l with
  | nil => intro a; exact Nat.le_refl a
  | cons c l ih => intro a; have := ih (10 * a + (c.toNat - 48)); simp only [valF, List.foldl_cons] at this ⊢; omega
def numV (m : Bool) (d : ByteArray) : Int × Int := match numOf m d with
  | some n => (n, 0)
  | none => (0, 10)
/-- digits as a number's text has them -/
def DigL (m : Bool) (d : List UInt8) : Prop := d ≠ [] ∧ d.all digB = true ∧ (d.head?.map (·.toNat) ≠ some 48 ∨ (m = false ∧ d.length = 1))
def numB (m : Bool) (d : List UInt8) : List UInt8 := (if m = true then [45] else []) ++ d
theorem digB_iff {c : UInt8} : digB c = true ↔ 48 ≤ c.toNat ∧ c.toNat ≤ 57 := by
  show digI (c.toNat : Nat) = true ↔ _
  simp only [digI, Bool.and_eq_true, decide_eq_true_eq]; omega
theorem sub48 {c : UInt8} (h : digB c = true) : binA Pg .sub 5 true (byteA c) (AV.raw (.int .u8 48)) = some (U8 ((c.toNat - 48 : Nat) : Int)) := by
  have h := digB_iff.1 h
  have : ∀ n : Fin 10, IntKind.u8.wrap (((48 + n.1 : Nat) : Int) - 48) = (n.1 : Int) := by decide +kernel
  have := this ⟨c.toNat - 48, by omega⟩
  show some (AV.raw (.int .u8 (IntKind.u8.wrap ((c.toNat : Int) - 48)))) = _
  have e : ((c.toNat : Nat) : Int) = ((48 + (c.toNat - 48) : Nat) : Int) := by omega
  rw [e, this]
theorem cv64 (n : Nat) (h : n < 10) : cvtIA .i64 (U8 (n : Int)) = some (I (n : Int)) := by
  show some (AV.raw (.int .i64 (W64 (n : Int)))) = _
  rw [w64_nat (by omega)]; rfl
theorem mul10 {a : Nat} (h : a ≤ 9223372036854775808) : mulN (-(a : Int)) 10 = inOr (-((10 * a : Nat) : Int)) := by
  rw [mulN_eq ⟨by omega, by omega⟩ ⟨by omega, by omega⟩]; congr 1; omega
theorem mul10R {a : Nat} (h : a ≤ 9223372036854775808) : mulR (-(a : Int)) 10 = inOr (-((10 * a : Nat) : Int)) := by
  rw [mulR_eq ⟨by omega, by omega⟩ ⟨by omega, by omega⟩]; congr 1; omega
theorem inOr_ok {a : Nat} (h : a ≤ 9223372036854775808) : inOr (-(a : Int)) = (-(a : Int), 0) := by simp only [inOr]; rw [if_pos (by omega)]
theorem inOr_no {a : Nat} (h : 9223372036854775808 < a) : inOr (-(a : Int)) = (0, 10) := by simp only [inOr]; rw [if_neg (by omega)]
theorem sub_dig {a d : Nat} (h : a ≤ 9223372036854775808) (hd : d < 10) : subN (-(a : Int)) (d : Int) = inOr (-((a + d : Nat) : Int)) := by
  rw [subN_eq ⟨by omega, by omega⟩ ⟨by omega, by omega⟩]; congr 1; omega
theorem sub_digR {a d : Nat} (h : a ≤ 9223372036854775808) (hd : d < 10) : subR (-(a : Int)) (d : Int) = inOr (-((a + d : Nat) : Int)) := by
  rw [subR_eq ⟨by omega, by omega⟩ ⟨by omega, by omega⟩]; congr 1; omega
theorem numV_over {m : Bool} {d : List UInt8} (h : 9223372036854775808 < valD d) : numV m (bs d) = (0, 10) := by
  simp only [numV, numOf, tx_bs]
  rw [if_neg (by omega : ¬ valD d ≤ 9223372036854775808), if_neg (by omega : ¬ valD d ≤ 9223372036854775807)]
  cases m <;> rfl
theorem enc_err (e : Int) (he : e ≠ 0) (t : TypeId) : binA Pg .neq t true (I e) (I 0) = some (B true) := by rw [i_neq, decide_eq_false he]; rfl
theorem enc_ok (t : TypeId) : binA Pg .neq t true (I 0) (I 0) = some (B false) := rfl
theorem neg_num (m : Bool) (d : List UInt8) (h : valD d ≤ 9223372036854775808) : (if m = true then ((-(valD d : Int), 0) : Int × Int) else negN (-(valD d : Int))) = numV m (bs d) := by
  simp only [numV, numOf, tx_bs]
  cases m with
  | true => simp only [if_true, if_pos h]
  | false =>
    simp only [Bool.false_eq_true, if_false, negN]
    by_cases h1 : valD d ≤ 9223372036854775807
    · rw [if_pos h1, if_neg (by omega), w64_id (by omega) (by omega)]
      congr 1; omega
    · rw [if_neg h1, if_pos (by omega)]
theorem ixb (nil : Bool) (tip : Tip) (l pre r : List UInt8) (c : UInt8) (e : l = pre ++ c :: r) : ixaA 1 (.sl 1 nil tip (l.map byteA)) (I pre.length) = some [byteA c] :=
  ix_mk 1 nil tip _ pre.length (x := byteA c) (by rw [e]; exact get_mid byteA pre r c) rfl
theorem c269_l (m : Bool) (d : List UInt8) (hl : d.length ≤ 1099511627776) (hd : d.all digB = true) (H : Heap) (Q : Post) : ∀ (r pre : List UInt8) (a : Nat), d = pre ++ r → a ≤ 9223372036854775808 → valF a r = valD d →
    f269_l18 (B m) (I (-(a : Int))) (.sl 1 false .any (d.map byteA)) (I d.length) (I pre.length) H Q = Q (encN (numV m (bs d))) H := by
  intro r
  induction r with
  | nil =>
    intro pre a e ha hv
    have h1 : (pre.length : Int) = d.length := by rw [e]; simp
    have hv : a = valD d := hv
    rw [f269_l18_eq, i_lss, ob_some, cnd_B, h1]
    simp only [Int.lt_irrefl, decide_false, Bool.false_eq_true, if_false]
    rw [← neg_num m d (by omega), ← hv]
    cases m with
    | true => rw [cnd_t]; rfl
    | false => rw [cnd_f, c295, extN0, ob_some, extN1, ob_some]; rfl
  | cons c r ih =>
    intro pre a e ha hv
    have hlt : pre.length < d.length := by rw [e]; simp
    have hlt' : (pre.length : Int) < d.length := by omega
    have hc : digB c = true := List.all_eq_true.1 hd c (by rw [e]; simp)
    have hcd := digB_iff.1 hc
    have hv' : valF (10 * a + (c.toNat - 48)) r = valD d := hv
    have hge := valF_ge r (10 * a + (c.toNat - 48))
    rw [f269_l18_eq, i_lss, ob_some, cnd_B, if_pos (by simpa using hlt'), ixb false .any d pre r c e, ob_some, part_f, List.getElem?_cons_zero, ob_some, c293, mul10 ha, extN0, ob_some, extN1, ob_some]
    by_cases h1 : 10 * a ≤ 9223372036854775808
    · rw [inOr_ok h1]
      simp only [enc_ok, ob_some, cnd_f, sub48 hc, cv64 (c.toNat - 48) (by omega)]
      rw [c294, sub_dig h1 (by omega), extN0, ob_some, extN1, ob_some]
      by_cases h2 : 10 * a + (c.toNat - 48) ≤ 9223372036854775808
      · rw [inOr_ok h2]
        simp only [enc_ok, ob_some, cnd_f]
        rw [i_add, ob_some, w64_succ hlt (by omega)]
        have := ih (pre ++ [c]) (10 * a + (c.toNat - 48)) (by simp [e]) h2 hv'
        rw [List.length_append, List.length_singleton] at this
        exact this
      · rw [inOr_no (by omega)]
        simp only [enc_err 10 (by decide), ob_some, cnd_t]
        rw [numV_over (by omega)]; rfl
    · rw [inOr_no (by omega)]
      simp only [enc_err 10 (by decide), ob_some, cnd_t]
      rw [numV_over (by omega)]; rfl
theorem c292_l (m : Bool) (d : List UInt8) (hl : d.length ≤ 1099511627776) (hd : d.all digB = true) (H : Heap) (Q : Post) : ∀ (r pre : List UInt8), d = pre ++ r →
    f292_l22 (S (bs d)) (B m) (.sl 1 false .any (d.map byteA)) (I d.length) (I pre.length) H Q = Q (.tup [S (bs d), B m, B true]) H := by
  intro r
  induction r with
  | nil =>
    intro pre e
    have h1 : (pre.length : Int) = d.length := by rw [e]; simp
    rw [f292_l22_eq, i_lss, ob_some, cnd_B, h1]
    simp only [Int.lt_irrefl, decide_false, Bool.false_eq_true, if_false]
  | cons c r ih =>
    intro pre e
    have hlt : pre.length < d.length := by rw [e]; simp
    have hlt' : (pre.length : Int) < d.length := by omega
    have hc : digB c = true := List.all_eq_true.1 hd c (by rw [e]; simp)
    have hcd := digB_iff.1 hc
    have l1 : binA Pg .lss 5 true (byteA c) (AV.raw (.int .u8 48)) = some (B false) := by rw [byteA, k_lss, decide_eq_false (by omega)]
    have l2 : binA Pg .gtr 5 true (byteA c) (AV.raw (.int .u8 57)) = some (B false) := by rw [byteA, k_gtr, decide_eq_false (by omega)]
    rw [f292_l22_eq, i_lss, ob_some, cnd_B, if_pos (by simpa using hlt'), ixb false .any d pre r c e, ob_some, part_f, List.getElem?_cons_zero, ob_some, l1, ob_some, cnd_f, l2, ob_some, f292_j35_eq, cnd_f, i_add, ob_some, w64_succ hlt (by omega)]
    have := ih (pre ++ [c]) (by simp [e])
    rw [List.length_append, List.length_singleton] at this
    exact this
theorem e45 (c : UInt8) : binA Pg .eql 5 true (U8 c.toNat) (AV.raw (.int .u8 45)) = some (B (decide (c.toNat = 45))) := b_eq39 c 45 5 true
theorem e48 (c : UInt8) : binA Pg .eql 5 true (U8 c.toNat) (AV.raw (.int .u8 48)) = some (B (decide (c.toNat = 48))) := b_eq39 c 48 5 true
theorem ix0 (c : UInt8) (r : List UInt8) : ixA (S (bs (c :: r))) (I 0) = some (U8 c.toNat) := ixS (bs (c :: r)) [] r c (by rw [← tx_bs (c :: r)]; simp)
theorem s_ne {c : UInt8} {r : List UInt8} (t : TypeId) (l : Bool) : binA Pg .eql t l (S (bs (c :: r))) (S ⟨#[]⟩) = some (B false) := by
  rw [s_eql, decide_eq_false]
  intro h
  have : bs (c :: r) = bs [] := h
  have := bs_inj.1 this
  cases this
theorem c292 (m : Bool) (d : List UInt8) (hl : d.length ≤ 1099511627775) (hd : DigL m d) (H : Heap) (Q : Post) : E 292 [S (bs (numB m d))] H Q = Q (.tup [S (bs d), B m, B true]) H := by
  obtain ⟨hne, hall, hz⟩ := hd
  cases d with
  | nil => exact (hne rfl).elim
  | cons c r =>
    have hc : digB c = true := List.all_eq_true.1 hall c (by simp)
    have hcd := digB_iff.1 hc
    have fin : ∀ K : Prop, f292_j13 (S (bs (c :: r))) (B m) (B false) H Q = Q (.tup [S (bs (c :: r)), B m, B true]) H := fun _ => by
      rw [f292_j13_eq, cnd_f]
      show ob (lenA (.sl 1 false .any ((tx (bs (c :: r))).map byteA))) (fun r17 => f292_l22 (S (bs (c :: r))) (B m) (.sl 1 false .any ((tx (bs (c :: r))).map byteA)) r17 (I 0) H Q) = _
      rw [tx_bs, len_sl, ob_some, List.length_map]
      exact c292_l m (c :: r) (by omega) hall H Q (c :: r) [] rfl
    have hs0 : binA Pg .gtr 3 true (I ((numB m (c :: r)).length : Nat)) (I 0) = some (B true) := by
      rw [i_gtr, decide_eq_true]; simp [numB]; omega
    rw [f292_eq, len_S, ob_some, bs_size, hs0, ob_some, cnd_t]
    cases m with
    | true =>
      have hz : c.toNat ≠ 48 := by rcases hz with hz | hz <;> simp at hz; exact hz
      have e0 : numB true (c :: r) = 45 :: c :: r := rfl
      rw [e0, ix0, ob_some, e45, ob_some]
      have : decide ((45 : UInt8).toNat = 45) = true := rfl
      have sl : sliceSA (S (bs (45 :: c :: r))) (some (I 1)) none = some (S (bs (c :: r))) := slS_from (pre := [45]) (by rw [tx_bs]; rfl)
      rw [this, f292_j7_eq, cnd_t, sl, ob_some, s_ne, ob_some, cnd_f, ix0, ob_some, e48, ob_some, decide_eq_false hz, cnd_f]
      exact fin True
    | false =>
      have e0 : numB false (c :: r) = c :: r := rfl
      rw [e0, ix0, ob_some, e45, ob_some, decide_eq_false (by omega), f292_j7_eq, cnd_f, s_ne, ob_some, cnd_f, ix0, ob_some, e48, ob_some]
      by_cases h48 : c.toNat = 48
      · have h1 : r = [] := by
          rcases hz with hz | hz
          · simp [h48] at hz
          · simpa using hz.2
        subst h1
        rw [decide_eq_true h48, cnd_t, len_S, ob_some]
        exact fin True
      · rw [decide_eq_false h48, cnd_f]; exact fin True
theorem c269 (m : Bool) (d : List UInt8) (hl : d.length ≤ 1099511627775) (hd : DigL m d) (H : Heap) (Q : Post) : E 269 [S (bs (numB m d))] H Q = Q (encN (numV m (bs d))) H := by
  rw [f269_eq, c292 m d hl hd]
  simp only [x3_0, x3_1, x3_2, ob_some, not_B, Bool.not_true, cnd_f]
  show ob (lenA (.sl 1 false .any ((tx (bs d)).map byteA))) (fun r8 => f269_l18 (B m) (I 0) (.sl 1 false .any ((tx (bs d)).map byteA)) r8 (I 0) H Q) = _
  rw [tx_bs, len_sl, ob_some, List.length_map]
  exact c269_l m d (by omega) hd.2.1 H Q d [] 0 rfl (by omega) rfl
/-! ### The document's -/
theorem c220_l (m : Bool) (d : List UInt8) (hl : d.length ≤ 1099511627775) (hd : d.all digB = true) (H : Heap) (Q : Post) : ∀ (r pre : List UInt8) (a : Nat) (ov : Bool), d = pre ++ r → a ≤ 9223372036854775808 → (ov = false → valF a r = valD d) → (ov = true → 9223372036854775808 < valD d) →
    f220_l26 (S (bs (numB m d))) (S (bs d)) (I (-(a : Int))) (B ov) (I pre.length) H Q = Q (encN (numV m (bs d))) H := by
  intro r
  induction r with
  | nil =>
    intro pre a ov e ha hv ho
    have h1 : (pre.length : Int) = d.length := by rw [e]; simp
    have hlt : decide ((pre.length : Int) < (d.length : Int)) = false := by rw [h1]; simp
    have heq : binA Pg .eql 9 false (S (bs d)) (S (bs (numB m d))) = some (B (!m)) := by
      rw [s_eql]
      cases m with
      | true =>
        have : bs d ≠ bs (numB true d) := fun h => by
          have := congrArg List.length (bs_inj.1 h)
          simp [numB] at this
        rw [decide_eq_false this]; rfl
      | false => rw [decide_eq_true (show bs d = bs (numB false d) from rfl)]; rfl
    rw [f220_l26_eq, len_S, bs_size, ob_some, i_lss, ob_some, hlt, cnd_f, heq, ob_some]
    cases ov with
    | true =>
      rw [numV_over (ho rfl)]
      cases m with
      | true => rw [Bool.not_true, cnd_f, cnd_t]; rfl
      | false => rw [Bool.not_false, cnd_t, c272, extN0, ob_some, extN1, ob_some, cnd_t, f220_j59_eq, cnd_t]; rfl
    | false =>
      have hv : a = valD d := hv rfl
      have hn := neg_num m d (by omega)
      rw [← hv] at hn
      rw [← hn]
      cases m with
      | true => rw [Bool.not_true, cnd_f, cnd_f]; rfl
      | false =>
        rw [Bool.not_false, cnd_t, c272, extN0, ob_some, extN1, ob_some, cnd_f, i_neq, ob_some, f220_j59_eq]
        simp only [Bool.false_eq_true, if_false, negN]
        split
        · rfl
        · rfl
  | cons c r ih =>
    intro pre a ov e ha hv ho
    have hlt : pre.length < d.length := by rw [e]; simp
    have hlt' : decide ((pre.length : Int) < (d.length : Int)) = true := by simp; omega
    have hc : digB c = true := List.all_eq_true.1 hd c (by rw [e]; simp)
    have hcd := digB_iff.1 hc
    have hge := valF_ge r (10 * a + (c.toNat - 48))
    have ix : ixA (S (bs d)) (I pre.length) = some (byteA c) := ixS (bs d) pre r c ((tx_bs d).trans e)
    have l1 : binA Pg .lss 5 true (byteA c) (AV.raw (.int .u8 48)) = some (B false) := by rw [byteA, k_lss, decide_eq_false (by omega)]
    have l2 : binA Pg .gtr 5 true (byteA c) (AV.raw (.int .u8 57)) = some (B false) := by rw [byteA, k_gtr, decide_eq_false (by omega)]
    rw [f220_l26_eq, len_S, bs_size, ob_some, i_lss, ob_some, hlt', cnd_t, ix, ob_some, l1, ob_some, cnd_f, ob_some, l2, ob_some, f220_j38_eq, cnd_f, c270, mul10R ha, extN0, ob_some, extN1, ob_some, ix, ob_some, sub48 hc, ob_some, cv64 (c.toNat - 48) (by omega), ob_some]
    have next : ∀ (a' : Nat) (ov' : Bool), a' ≤ 9223372036854775808 → (ov' = false → valF a' r = valD d) → (ov' = true → 9223372036854775808 < valD d) →
        f220_j49 (S (bs (numB m d))) (S (bs d)) (B ov') (I pre.length) (I (-(a' : Int))) H Q = Q (encN (numV m (bs d))) H := fun a' ov' h1 h2 h3 => by
      rw [f220_j49_eq, i_add, ob_some, w64_succ hlt (by omega)]
      have := ih (pre ++ [c]) a' ov' (by simp [e]) h1 h2 h3
      rw [List.length_append, List.length_singleton] at this
      exact this
    by_cases h1 : 10 * a ≤ 9223372036854775808
    · rw [inOr_ok h1]
      simp only
      rw [c271, sub_digR h1 (by omega), extN0, ob_some, extN1, ob_some, enc_ok, ob_some, cnd_f]
      by_cases h2 : 10 * a + (c.toNat - 48) ≤ 9223372036854775808
      · rw [inOr_ok h2]
        simp only [enc_ok, ob_some]
        cases ov with
        | true => rw [cnd_t]; exact next _ true h2 (fun h => by cases h) ho
        | false => rw [cnd_f]; exact next _ false h2 (fun _ => hv rfl) (fun h => by cases h)
      · rw [inOr_no (by omega)]
        simp only [enc_err 10 (by decide), ob_some]
        have ho' : 9223372036854775808 < valD d := by
          cases ov with
          | true => exact ho rfl
          | false =>
            have hv' : valF (10 * a + (c.toNat - 48)) r = valD d := hv rfl
            omega
        have n0 := next 0 true (by omega) (fun h => by cases h) (fun _ => ho')
        cases ov with
        | true => rw [cnd_t]; exact n0
        | false => rw [cnd_f]; exact n0
    · rw [inOr_no (by omega)]
      simp only
      have z : subR 0 ((c.toNat - 48 : Nat) : Int) = inOr (-((c.toNat - 48 : Nat) : Int)) := by have := sub_digR (a := 0) (d := c.toNat - 48) (by omega) (by omega); simpa using this
      rw [c271, z, inOr_ok (by omega), extN0, ob_some, extN1, ob_some, enc_err 10 (by decide), ob_some, cnd_t]
      have ho' : 9223372036854775808 < valD d := by
        cases ov with
        | true => exact ho rfl
        | false =>
          have hv' : valF (10 * a + (c.toNat - 48)) r = valD d := hv rfl
          omega
      have n0 := next (c.toNat - 48) true (by omega) (fun h => by cases h) (fun _ => ho')
      cases ov with
      | true => rw [cnd_t]; exact n0
      | false => rw [cnd_f]; exact n0
theorem c220 (m : Bool) (d : List UInt8) (hl : d.length ≤ 1099511627775) (hd : DigL m d) (H : Heap) (Q : Post) : E 220 [S (bs (numB m d))] H Q = Q (encN (numV m (bs d))) H := by
  obtain ⟨hne, hall, hz⟩ := hd
  cases d with
  | nil => exact (hne rfl).elim
  | cons c r =>
    have hc : digB c = true := List.all_eq_true.1 hall c (by simp)
    have hcd := digB_iff.1 hc
    have fin : f220_j13 (S (bs (numB m (c :: r)))) (S (bs (c :: r))) (B false) H Q = Q (encN (numV m (bs (c :: r)))) H := by
      rw [f220_j13_eq, cnd_f]
      exact c220_l m (c :: r) hl hall H Q (c :: r) [] 0 false rfl (by omega) (fun _ => rfl) (fun h => by cases h)
    have nn : ∀ (x : UInt8) (l : List UInt8), binA Pg .neq 9 true (S (bs (x :: l))) (S ⟨#[]⟩) = some (B true) := fun x l => by
      rw [s_neq, decide_eq_false]
      · rfl
      · intro h
        have : bs (x :: l) = bs [] := h
        have := bs_inj.1 this
        cases this
    rw [f220_eq]
    cases m with
    | true =>
      have hz : c.toNat ≠ 48 := by rcases hz with hz | hz <;> simp at hz; exact hz
      have e0 : numB true (c :: r) = 45 :: c :: r := rfl
      rw [e0] at fin ⊢
      have : decide ((45 : UInt8).toNat = 45) = true := rfl
      have sl : sliceSA (S (bs (45 :: c :: r))) (some (I 1)) none = some (S (bs (c :: r))) := slS_from (pre := [45]) (by rw [tx_bs]; rfl)
      rw [nn, ob_some, cnd_t, ix0, ob_some, e45, ob_some, this, f220_j7_eq, cnd_t, sl, ob_some, s_ne, ob_some, cnd_f, ix0, ob_some, e48, ob_some, decide_eq_false hz, cnd_f]
      exact fin
    | false =>
      have e0 : numB false (c :: r) = c :: r := rfl
      rw [e0] at fin ⊢
      rw [nn, ob_some, cnd_t, ix0, ob_some, e45, ob_some, decide_eq_false (by omega), f220_j7_eq, cnd_f, s_ne, ob_some, cnd_f, ix0, ob_some, e48, ob_some]
      by_cases h48 : c.toNat = 48
      · have h1 : r = [] := by
          rcases hz with hz | hz
          · simp [h48] at hz
          · simpa using hz.2
        subst h1
        rw [decide_eq_true h48, cnd_t, len_S, ob_some]
        exact fin
      · rw [decide_eq_false h48, cnd_f]; exact fin
/-- - ahead of 0 -/
theorem c220_m0 (H : Heap) (Q : Post) : E 220 [S ⟨#[45, 48]⟩] H Q = Q (encN (0, 4)) H := by
  have nn : binA Pg .neq 9 true (S ⟨#[45, 48]⟩) (S ⟨#[]⟩) = some (B true) := by rw [s_neq]; rfl
  have i0 : ixA (S ⟨#[45, 48]⟩) (I 0) = some (U8 45) := rfl
  have e0 : binA Pg .eql 5 true (U8 45) (AV.raw (.int .u8 45)) = some (B true) := rfl
  have sl : sliceSA (S ⟨#[45, 48]⟩) (some (I 1)) none = some (S ⟨#[48]⟩) := rfl
  have s0 : binA Pg .eql 9 true (S ⟨#[48]⟩) (S ⟨#[]⟩) = some (B false) := by rw [s_eql]; rfl
  have i1 : ixA (S ⟨#[48]⟩) (I 0) = some (U8 48) := rfl
  have e1 : binA Pg .eql 5 true (U8 48) (AV.raw (.int .u8 48)) = some (B true) := rfl
  have g : binA Pg .gtr 3 true (I (ByteArray.size ⟨#[45, 48]⟩ : Nat)) (I 1) = some (B true) := rfl
  rw [f220_eq, nn, ob_some, cnd_t, i0, ob_some, e0, ob_some, f220_j7_eq, cnd_t, sl, ob_some, s0, ob_some, cnd_f, i1, ob_some, e1, ob_some, cnd_t, len_S, ob_some, g, ob_some, f220_j13_eq, cnd_t]
  rfl
end Go.Hx
namespace Go.Hx
theorem numR_bad {m : Bool} {r : List Tk} {e : Int} {p : Nat} (h : numR m r = .bad e p) : e = 4 := by
  cases r with
  | nil => cases h; rfl
  | cons t r =>
    simp only [numR] at h
    split at h <;> cases h
    rfl
theorem atomR_bad {r : List Tk} {e : Int} {p : Nat} (h : atomR r = .bad e p) : e = 4 := by
  cases r with
  | nil => cases h; rfl
  | cons t r =>
    simp only [atomR] at h
    split at h
    · exact numR_bad h
    · split at h
      · cases h
      · split at h
        · simp only [fieldR] at h
          split at h
          · split at h
            · cases h; rfl
            · split at h
              · cases h
              · cases h; rfl
          · cases h; rfl
        · split at h
          · split at h
            · cases h
            · cases h; rfl
          · cases h; rfl
theorem P_ne {g : Gl} {o : Nat} {r : List Tk} {R : PR} (h : P g o r R) : ∀ e p, R = .bad e p → e ≠ 0 := by
  induction h with
  | neg_num h1 h2 => intro e p h; rw [numR_bad h]; decide
  | last_atom h1 => intro e p h; rw [atomR_bad h]; decide
  | row_bad _ ih => exact ih
  | row_ok _ _ _ ih => exact ih
  | more_no => intro e p h; cases h
  | more_bad _ _ ih => exact ih
  | more_ok _ _ _ _ ih => exact ih
  | not_no _ _ ih => exact ih
  | not_long => intro e p h; cases h; decide
  | not_bad _ _ _ ih => exact ih
  | not_ok => intro e p h; cases h
  | cmp_bad _ ih => exact ih
  | cmp_no => intro e p h; cases h
  | cmp_bad2 _ _ _ _ ih => exact ih
  | cmp_ok => intro e p h; cases h
  | left_bad _ ih => exact ih
  | left_ok _ _ _ ih => exact ih
  | lmore_no => intro e p h; cases h
  | lmore_bad _ _ ih => exact ih
  | lmore_ok _ _ _ _ ih => exact ih
  | neg_no _ _ ih => exact ih
  | neg_long => intro e p h; cases h; decide
  | neg_bad _ _ _ _ ih => exact ih
  | neg_ok => intro e p h; cases h
  | last_long => intro e p h; cases h; decide
  | last_bad _ _ _ ih => exact ih
  | last_open => intro e p h; cases h; decide
  | last_ok => intro e p h; cases h
/-- what is left ends what there was -/
def Suf (r r1 : List Tk) : Prop := endsT r1 ∧ ∃ pre, r = pre ++ r1
theorem Suf.refl {r : List Tk} (h : endsT r) : Suf r r := ⟨h, [], rfl⟩
theorem Suf.trans {r r1 r2 : List Tk} (h : Suf r r1) (h' : Suf r1 r2) : Suf r r2 := by
  obtain ⟨_, p1, rfl⟩ := h
  obtain ⟨h2, p2, rfl⟩ := h'
  exact ⟨h2, p1 ++ p2, by simp⟩
theorem Suf.cons {t : Tk} {r r1 : List Tk} (h : Suf r r1) : Suf (t :: r) r1 := by
  obtain ⟨h1, p, rfl⟩ := h
  exact ⟨h1, t :: p, rfl⟩
theorem Suf.len {r r1 : List Tk} (h : Suf r r1) : r1.length ≤ r.length := by
  obtain ⟨_, p, rfl⟩ := h
  simp
theorem Suf.mem {r r1 : List Tk} (h : Suf r r1) {p : Tk → Prop} (hp : ∀ t ∈ r, p t) : ∀ t ∈ r1, p t := by
  obtain ⟨_, q, rfl⟩ := h
  exact fun t ht => hp t (by simp [ht])
def SufR (r : List Tk) : PR → Prop
  | .ok _ r1 => Suf r r1
  | .bad _ _ => True
theorem numR_suf {m : Bool} {r : List Tk} (h : endsT r) (hk : kindN r = 3) : SufR r (numR m r) := by
  cases r with
  | nil => exact h.elim
  | cons t r =>
    simp only [numR]
    split
    · trivial
    · exact (Suf.refl (endsT_tail h (by simp only [kindN] at hk; omega))).cons
theorem atomR_suf {r : List Tk} (h : endsT r) : SufR r (atomR r) := by
  cases r with
  | nil => exact h.elim
  | cons t r =>
    simp only [atomR]
    split
    · exact numR_suf h (by simpa [kindN])
    · rename_i h3
      split
      · rename_i h4; exact (Suf.refl (endsT_tail h (by omega))).cons
      · split
        · rename_i h2
          have ht := endsT_tail h (by omega : t.k ≠ 6)
          simp only [fieldR]
          split
          · rename_i hn
            obtain ⟨u, r1, rfl, hu, _⟩ := nextIs_ne hn
            have ht1 := endsT_tail ht (by omega : u.k ≠ 6)
            simp only [List.tail_cons]
            split
            · trivial
            · rename_i v r2
              split
              · exact (Suf.refl (endsT_tail ht1 (by omega))).cons.cons.cons
              · trivial
          · trivial
        · split
          · split
            · exact (Suf.refl (endsT_tail h (by omega))).cons
            · trivial
          · trivial
theorem nextIs_cons {k : Int} {s : ByteArray} {t : Tk} {r : List Tk} (h : nextIs k s (t :: r) = true) : t.k = k ∧ t.s = s := by
  simp only [nextIs, Bool.and_eq_true, decide_eq_true_eq] at h; exact h
theorem opOf_cons {lo hi k : Int} {t : Tk} {r : List Tk} (h : opOf lo hi (t :: r) = some k) : t.k = 5 := by
  obtain ⟨u, r1, e, hu⟩ := opOf_ne h
  cases e; exact hu
theorem P_suf {g : Gl} {o : Nat} {r : List Tk} {R : PR} (h : P g o r R) : endsT r → SufR r R := by
  have tl : ∀ {k : Int} {s : ByteArray} {t : Tk} {r : List Tk}, k ≠ 6 → nextIs k s (t :: r) = true → endsT (t :: r) → endsT r := fun hk h he => endsT_tail he (by rw [(nextIs_cons h).1]; exact hk)
  have tl5 : ∀ {lo hi k : Int} {t : Tk} {r : List Tk}, opOf lo hi (t :: r) = some k → endsT (t :: r) → endsT r := fun h he => endsT_tail he (by rw [opOf_cons h]; decide)
  have up : ∀ {r r1 : List Tk} {R : PR}, Suf r r1 → SufR r1 R → SufR r R := fun {r r1 R} h1 h2 => by
    cases R with
    | ok => exact h1.trans h2
    | bad => trivial
  have upc : ∀ {t : Tk} {r : List Tk} {R : PR}, SufR r R → SufR (t :: r) R := fun {t r R} h2 => by
    cases R with
    | ok => exact Suf.cons h2
    | bad => trivial
  induction h with
  | neg_num h1 h2 => intro he; exact upc (numR_suf (tl (by decide) h1 he) h2)
  | last_atom h1 => intro he; exact atomR_suf he
  | row_bad _ ih => exact fun _ => trivial
  | row_ok _ _ ih1 ih2 => intro he; have h1 := ih1 he; exact up h1 (ih2 h1.1)
  | more_no => intro he; exact Suf.refl he
  | more_bad => exact fun _ => trivial
  | more_ok hn _ _ ih1 ih2 => intro he; have h1 := ih1 (tl (by decide) hn he); exact upc (up h1 (ih2 h1.1))
  | not_no _ _ ih => exact ih
  | not_long => exact fun _ => trivial
  | not_bad => exact fun _ => trivial
  | not_ok hn _ _ ih => intro he; exact Suf.cons (ih (tl (by decide) hn he))
  | cmp_bad => exact fun _ => trivial
  | cmp_no _ _ ih => exact ih
  | cmp_bad2 => exact fun _ => trivial
  | cmp_ok _ hk _ ih1 ih2 => intro he; have h1 := ih1 he; exact h1.trans (Suf.cons (ih2 (tl5 hk h1.1)))
  | left_bad => exact fun _ => trivial
  | left_ok _ _ ih1 ih2 => intro he; have h1 := ih1 he; exact up h1 (ih2 h1.1)
  | lmore_no => intro he; exact Suf.refl he
  | lmore_bad => exact fun _ => trivial
  | lmore_ok hk _ _ ih1 ih2 => intro he; have h1 := ih1 (tl5 hk he); exact upc (up h1 (ih2 h1.1))
  | neg_no _ _ ih => exact ih
  | neg_long => exact fun _ => trivial
  | neg_bad => exact fun _ => trivial
  | neg_ok hn _ _ _ ih => intro he; exact Suf.cons (ih (tl (by decide) hn he))
  | last_long => exact fun _ => trivial
  | last_bad => exact fun _ => trivial
  | last_open => exact fun _ => trivial
  | last_ok hn _ _ hs ih => intro he; have h1 := ih (tl (by decide) hn he); exact Suf.cons (Suf.trans h1 ((Suf.refl (tl (by decide) hs h1.1)).cons))
/-! ### How large it is -/
theorem sizeX_nd (k : Int) (v : Vl) (a b : ByteArray) (l : List Ex) : sizeX (nd k v a b l) = 1 + sizeXs l := by simp [nd, sizeX]
theorem sizeXs_parts (k : Int) (l : List Ex) : sizeXs (partsJ k l) ≤ sizeXs l := by
  induction l with
  | nil => simp [partsJ, sizeXs]
  | cons x l ih =>
    have e : partsJ k (x :: l) = (if x.k = k then x.l else [x]) ++ partsJ k l := by simp [partsJ]
    rw [e, sizeXs_append]
    have := sizeX_eq x
    simp only [sizeXs]
    split
    · omega
    · simp only [sizeXs]; omega
theorem size_join (k : Int) (l : List Ex) (hl : l ≠ []) : sizeX (joinE k l) ≤ sizeXs l + if l.length ≤ 1 then 0 else 1 := by
  have hp := sizeXs_parts k l
  have h1 := len_sizeXs l
  have hl' : 1 ≤ l.length := List.length_pos_iff.2 hl
  simp only [joinE]
  split
  · rw [sizeX_nd]; simp only [sizeXs]; omega
  · rename_i x hx; rw [hx] at hp; simp only [sizeXs] at hp; omega
  · rename_i hne hns
    rw [sizeX_nd]
    split
    · rename_i h1
      obtain ⟨x, rfl⟩ := List.length_eq_one_iff.1 (by omega : l.length = 1)
      have e : partsJ k [x] = if x.k = k then x.l else [x] := by simp [partsJ]
      rw [e] at hns ⊢
      by_cases hk : x.k = k
      · rw [if_pos hk]; have := sizeX_eq x; simp only [sizeXs]; omega
      · rw [if_neg hk] at hns; exact (hns x rfl).elim
    · omega
def SizeR (g : Gl) (r : List Tk) : PR → Prop
  | .bad _ _ => True
  | .ok x r1 => match g with
    | .more _ l => l ≠ [] → sizeX x + r1.length ≤ r.length + sizeXs l + if l.length ≤ 1 then 0 else 1
    | .lmore _ y => sizeX x + r1.length ≤ r.length + sizeX y
    | _ => sizeX x + r1.length ≤ r.length
theorem numR_size {m : Bool} {r : List Tk} {x : Ex} {r1 : List Tk} (h : numR m r = .ok x r1) : sizeX x + r1.length ≤ r.length := by
  cases r with
  | nil => cases h
  | cons t r =>
    simp only [numR] at h
    split at h <;> cases h
    rw [sizeX_nd]; simp [sizeXs]; omega
theorem atomR_size {r : List Tk} {x : Ex} {r1 : List Tk} (h : atomR r = .ok x r1) : sizeX x + r1.length ≤ r.length := by
  cases r with
  | nil => cases h
  | cons t r =>
    simp only [atomR] at h
    split at h
    · exact numR_size h
    · split at h
      · cases h; rw [sizeX_nd]; simp [sizeXs]; omega
      · split at h
        · simp only [fieldR] at h
          split at h
          · rename_i hn
            obtain ⟨u, r2, rfl, hu, _⟩ := nextIs_ne hn
            simp only [List.tail_cons] at h
            split at h
            · cases h
            · split at h
              · cases h; rw [sizeX_nd]; simp [sizeXs]; omega
              · cases h
          · cases h
        · split at h
          · split at h
            · cases h; rw [sizeX_nd]; simp [sizeXs]; omega
            · cases h
          · cases h
theorem P_size {g : Gl} {o : Nat} {r : List Tk} {R : PR} (h : P g o r R) : SizeR g r R := by
  have gp : ∀ (b : Bool) {r : List Tk} {x : Ex} {r1 : List Tk}, SizeR (rowP b) r (.ok x r1) → sizeX x + r1.length ≤ r.length := fun b => by cases b <;> exact id
  have gl : ∀ (b : Bool) {r : List Tk} {x : Ex} {r1 : List Tk}, SizeR (leftP b) r (.ok x r1) → sizeX x + r1.length ≤ r.length := fun b => by cases b <;> exact id
  induction h with
  | neg_num h1 h2 =>
    rename_i o t r
    cases hr : numR true r with
    | bad => trivial
    | ok x r1 => have := numR_size hr; show _ ≤ _; simp; omega
  | last_atom h1 =>
    rename_i o r
    cases hr : atomR r with
    | bad => trivial
    | ok x r1 => exact atomR_size hr
  | row_bad => trivial
  | row_ok _ _ ih1 ih2 =>
    rename_i b o r x r1 R _ _
    cases R with
    | bad => trivial
    | ok y r2 =>
      have h1 := gp b ih1
      have h2 := ih2 (by simp)
      simp only [sizeXs, List.length_singleton, Nat.le_refl, if_true] at h2
      show _ ≤ _
      omega
  | more_no =>
    rename_i b l o r hn
    intro hl
    have := size_join (rowK b) l hl
    omega
  | more_bad => trivial
  | more_ok hn _ _ ih1 ih2 =>
    rename_i b l o t r x r1 R _ _
    cases R with
    | bad => trivial
    | ok y r2 =>
      intro hl
      have h1 := gp b ih1
      have h2 := ih2 (by simp)
      rw [sizeXs_append] at h2
      have hl' : 1 ≤ l.length := List.length_pos_iff.2 hl
      simp only [sizeXs, List.length_append, List.length_singleton] at h2
      rw [if_neg (by omega)] at h2
      simp only [List.length_cons]
      omega
  | not_no _ _ ih =>
    rename_i R _ _
    cases R with
    | bad => trivial
    | ok => exact ih
  | not_long => trivial
  | not_bad => trivial
  | not_ok hn _ _ ih =>
    have h1 : _ ≤ _ := ih
    show _ ≤ _
    rw [sizeX_nd]; simp only [sizeXs, List.length_cons]; omega
  | cmp_bad => trivial
  | cmp_no _ _ ih => exact ih
  | cmp_bad2 => trivial
  | cmp_ok _ hk _ ih1 ih2 =>
    have h1 : _ ≤ _ := ih1
    have h2 : _ ≤ _ := ih2
    show _ ≤ _
    simp only [List.length_cons] at h1
    rw [sizeX_nd]; simp only [sizeXs]; omega
  | left_bad => trivial
  | left_ok _ _ ih1 ih2 =>
    rename_i b o r x r1 R _ _
    cases R with
    | bad => trivial
    | ok y r2 =>
      have h1 := gl b ih1
      have h2 : _ ≤ _ := ih2
      show _ ≤ _
      omega
  | lmore_no => show _ ≤ _; omega
  | lmore_bad => trivial
  | lmore_ok hk _ _ ih1 ih2 =>
    rename_i b x o t r k y r1 R _ _
    cases R with
    | bad => trivial
    | ok z r2 =>
      have h1 := gl b ih1
      have h2 : _ ≤ _ := ih2
      rw [sizeX_nd] at h2
      simp only [sizeXs] at h2
      show _ ≤ _
      simp only [List.length_cons]; omega
  | neg_no _ _ ih =>
    rename_i R _ _
    cases R with
    | bad => trivial
    | ok => exact ih
  | neg_long => trivial
  | neg_bad => trivial
  | neg_ok hn _ _ _ ih =>
    have h1 : _ ≤ _ := ih
    show _ ≤ _
    rw [sizeX_nd]; simp only [sizeXs, List.length_cons]; omega
  | last_long => trivial
  | last_bad => trivial
  | last_open => trivial
  | last_ok hn _ _ hs ih =>
    have h1 : _ ≤ _ := ih
    show _ ≤ _
    simp only [List.length_cons] at h1 ⊢; omega
/-! ### Tokens as texts have them -/
def okTk (t : Tk) : Prop := t.s.size ≤ 1099511627775 ∧ (t.k = 3 → DigL false (tx t.s)) ∧ (t.k = 4 → t.s.size ≤ 256)
def gX (x : Ex) : Prop := x.var.size ≤ 1099511627776 ∧ x.fld.size ≤ 1099511627776 ∧ vr x.v
theorem allX_nd {p : Ex → Prop} (k : Int) (v : Vl) (a b : ByteArray) (l : List Ex) : allX p (nd k v a b l) ↔ p (nd k v a b l) ∧ allXs p l := by simp [nd, allX]
theorem allXs_of {p : Ex → Prop} {l : List Ex} (h : ∀ x ∈ l, allX p x) : allXs p l := by
  induction l with
  | nil => trivial
  | cons x l ih => exact ⟨h x (by simp), ih fun y hy => h y (by simp [hy])⟩
theorem gX_nd {k : Int} {v : Vl} (hv : vr v) (l : List Ex) : gX (nd k v e0 e0 l) := ⟨by show 0 ≤ _; omega, by show 0 ≤ _; omega, hv⟩
theorem vr_null : vr nullV := ⟨by show _ ≤ (0 : Int); omega, by show (0 : Int) ≤ _; omega⟩
def GoodR : PR → Prop
  | .bad _ _ => True
  | .ok x _ => allX gX x
theorem numOf_rng {m : Bool} {s : ByteArray} {n : Int} (h : numOf m s = some n) : rng n := by
  simp only [numOf] at h
  split at h
  · split at h
    · cases h; exact ⟨by omega, by omega⟩
    · cases h
  · split at h
    · cases h; exact ⟨by omega, by omega⟩
    · cases h
theorem numR_good {m : Bool} {r : List Tk} : GoodR (numR m r) := by
  cases r with
  | nil => trivial
  | cons t r =>
    simp only [numR]
    split
    · trivial
    · rename_i n hn
      exact (allX_nd _ _ _ _ _).2 ⟨gX_nd (numOf_rng hn) _, trivial⟩
theorem atomR_good {r : List Tk} (h : ∀ t ∈ r, okTk t) : GoodR (atomR r) := by
  cases r with
  | nil => trivial
  | cons t r =>
    simp only [atomR]
    have z : rng 0 := ⟨by omega, by omega⟩
    have o : rng 1 := ⟨by omega, by omega⟩
    split
    · exact numR_good
    · split
      · exact (allX_nd _ _ _ _ _).2 ⟨gX_nd (show vr (textV t.s) from z) _, trivial⟩
      · split
        · simp only [fieldR]
          split
          · rename_i hn
            obtain ⟨u, r2, rfl, hu, _⟩ := nextIs_ne hn
            simp only [List.tail_cons]
            split
            · trivial
            · rename_i v r3
              split
              · have h1 := (h t (by simp)).1
                have h2 := (h v (by simp)).1
                exact (allX_nd _ _ _ _ _).2 ⟨⟨by show t.s.size ≤ _; omega, by show v.s.size ≤ _; omega, vr_null⟩, trivial⟩
              · trivial
          · trivial
        · split
          · split
            · rename_i v hv
              refine (allX_nd _ _ _ _ _).2 ⟨gX_nd ?_ _, trivial⟩
              simp only [wordV] at hv
              split at hv
              · cases hv; exact o
              · split at hv
                · cases hv; exact z
                · split at hv
                  · cases hv; exact z
                  · cases hv
            · trivial
          · trivial
theorem good_join {k : Int} {l : List Ex} (h : ∀ x ∈ l, allX gX x) : allX gX (joinE k l) := by
  have hp : ∀ x ∈ partsJ k l, allX gX x := fun x hx => by
    simp only [partsJ, List.mem_flatMap] at hx
    obtain ⟨y, hy, hx⟩ := hx
    split at hx
    · exact allXs_mem ((allX_eq _ _).1 (h y hy)).2 hx
    · simp at hx; subst hx; exact h _ hy
  simp only [joinE]
  split
  · refine (allX_nd _ _ _ _ _).2 ⟨gX_nd ?_ _, trivial⟩
    by_cases hk : k = 16 <;> simp [hk, boolV, vr, rng]
  · rename_i x hx; exact hp x (by rw [hx]; simp)
  · exact (allX_nd _ _ _ _ _).2 ⟨gX_nd vr_null _, allXs_of hp⟩
theorem P_good {g : Gl} {o : Nat} {r : List Tk} {R : PR} (h : P g o r R) : (∀ t ∈ r, okTk t) → endsT r → (∀ b l, g = .more b l → ∀ x ∈ l, allX gX x) → (∀ b x, g = .lmore b x → allX gX x) → GoodR R := by
  have tl : ∀ {k : Int} {s : ByteArray} {t : Tk} {r : List Tk}, k ≠ 6 → nextIs k s (t :: r) = true → endsT (t :: r) → endsT r := fun hk h he => endsT_tail he (by rw [(nextIs_cons h).1]; exact hk)
  have tl5 : ∀ {lo hi k : Int} {t : Tk} {r : List Tk}, opOf lo hi (t :: r) = some k → endsT (t :: r) → endsT r := fun h he => endsT_tail he (by rw [opOf_cons h]; decide)
  have tm : ∀ {t : Tk} {r : List Tk}, (∀ u ∈ t :: r, okTk u) → ∀ u ∈ r, okTk u := fun h u hu => h u (by simp [hu])
  have bin : ∀ {k : Int} {x y : Ex}, allX gX x → allX gX y → allX gX (nd k nullV e0 e0 [x, y]) := fun h1 h2 => (allX_nd _ _ _ _ _).2 ⟨gX_nd vr_null _, h1, h2, trivial⟩
  have un : ∀ {k : Int} {x : Ex}, allX gX x → allX gX (nd k nullV e0 e0 [x]) := fun h1 => (allX_nd _ _ _ _ _).2 ⟨gX_nd vr_null _, h1, trivial⟩
  have rp : ∀ b b' l, rowP b ≠ .more b' l := fun b b' l h => by cases b <;> cases h
  have rp' : ∀ b b' l, rowP b ≠ .lmore b' l := fun b b' l h => by cases b <;> cases h
  have lp : ∀ b b' l, leftP b ≠ .more b' l := fun b b' l h => by cases b <;> cases h
  have lp' : ∀ b b' l, leftP b ≠ .lmore b' l := fun b b' l h => by cases b <;> cases h
  induction h with
  | neg_num h1 h2 => intros; exact numR_good
  | last_atom h1 => intro ht _ _ _; exact atomR_good ht
  | row_bad => intros; trivial
  | row_ok h1 _ ih1 ih2 =>
    intro ht he _ _
    have hs : Suf _ _ := P_suf h1 he
    have g1 : allX gX _ := ih1 ht he (fun _ _ h => (rp _ _ _ h).elim) (fun _ _ h => (rp' _ _ _ h).elim)
    exact ih2 (hs.mem ht) hs.1 (fun _ _ h x hx => by cases h; simp at hx; subst hx; exact g1) (fun _ _ h => by cases h)
  | more_no => intro ht he hl _; exact good_join (hl _ _ rfl)
  | more_bad => intros; trivial
  | more_ok hn h1 _ ih1 ih2 =>
    intro ht he hl _
    have he' := tl (by decide) hn he
    have hs : Suf _ _ := P_suf h1 he'
    have g1 : allX gX _ := ih1 (tm ht) he' (fun _ _ h => (rp _ _ _ h).elim) (fun _ _ h => (rp' _ _ _ h).elim)
    refine ih2 (hs.mem (tm ht)) hs.1 (fun _ _ h x hx => ?_) (fun _ _ h => by cases h)
    cases h
    simp only [List.mem_append, List.mem_singleton] at hx
    rcases hx with hx | hx
    · exact hl _ _ rfl x hx
    · subst hx; exact g1
  | not_no _ _ ih => intro ht he _ _; exact ih ht he (fun _ _ h => by cases h) (fun _ _ h => by cases h)
  | not_long => intros; trivial
  | not_bad => intros; trivial
  | not_ok hn _ _ ih => intro ht he _ _; exact un (ih (tm ht) (tl (by decide) hn he) (fun _ _ h => by cases h) (fun _ _ h => by cases h))
  | cmp_bad => intros; trivial
  | cmp_no _ _ ih => intro ht he _ _; exact ih ht he (fun _ _ h => by cases h) (fun _ _ h => by cases h)
  | cmp_bad2 => intros; trivial
  | cmp_ok h1 hk _ ih1 ih2 =>
    intro ht he _ _
    have hs : Suf _ _ := P_suf h1 he
    exact bin (ih1 ht he (fun _ _ h => by cases h) (fun _ _ h => by cases h)) (ih2 (tm (hs.mem ht)) (tl5 hk hs.1) (fun _ _ h => by cases h) (fun _ _ h => by cases h))
  | left_bad => intros; trivial
  | left_ok h1 _ ih1 ih2 =>
    intro ht he _ _
    have hs : Suf _ _ := P_suf h1 he
    have g1 : allX gX _ := ih1 ht he (fun _ _ h => (lp _ _ _ h).elim) (fun _ _ h => (lp' _ _ _ h).elim)
    exact ih2 (hs.mem ht) hs.1 (fun _ _ h => by cases h) (fun _ _ h => by cases h; exact g1)
  | lmore_no => intro ht he _ hx; exact hx _ _ rfl
  | lmore_bad => intros; trivial
  | lmore_ok hk h1 _ ih1 ih2 =>
    intro ht he _ hx
    have he' := tl5 hk he
    have hs : Suf _ _ := P_suf h1 he'
    have g1 : allX gX _ := ih1 (tm ht) he' (fun _ _ h => (lp _ _ _ h).elim) (fun _ _ h => (lp' _ _ _ h).elim)
    exact ih2 (hs.mem (tm ht)) hs.1 (fun _ _ h => by cases h) (fun _ _ h => by cases h; exact bin (hx _ _ rfl) g1)
  | neg_no _ _ ih => intro ht he _ _; exact ih ht he (fun _ _ h => by cases h) (fun _ _ h => by cases h)
  | neg_long => intros; trivial
  | neg_bad => intros; trivial
  | neg_ok hn _ _ _ ih => intro ht he _ _; exact un (ih (tm ht) (tl (by decide) hn he) (fun _ _ h => by cases h) (fun _ _ h => by cases h))
  | last_long => intros; trivial
  | last_bad => intros; trivial
  | last_open => intros; trivial
  | last_ok hn _ _ hs ih => intro ht he _ _; exact ih (tm ht) (tl (by decide) hn he) (fun _ _ h => by cases h) (fun _ _ h => by cases h)
/-! ### How slices lie -/
theorem norm_k (x : Ex) : (norm x).k = x.k := by rw [norm_eq]; rfl
theorem norm_v (x : Ex) : (norm x).v = x.v := by rw [norm_eq]; rfl
theorem norm_var (x : Ex) : (norm x).var = x.var := by rw [norm_eq]; rfl
theorem norm_fld (x : Ex) : (norm x).fld = x.fld := by rw [norm_eq]; rfl
theorem norm_l (x : Ex) : (norm x).l = x.l.map norm := by rw [norm_eq]; rfl
theorem norm_size (x : Ex) : sizeX (norm x) = sizeX x := by
  induction x using Ex.ind with
  | h x ih =>
    rw [sizeX_eq, sizeX_eq x, norm_l]
    have : ∀ l : List Ex, (∀ y ∈ l, y ∈ x.l) → sizeXs (l.map norm) = sizeXs l := by
      intro l
      induction l with
      | nil => intro _; rfl
      | cons y l ihl => intro h; simp only [List.map_cons, sizeXs, ih y (h y (by simp)), ihl fun z hz => h z (by simp [hz])]
    rw [this x.l fun _ h => h]
theorem norm_right (x : Ex) : rightP (norm x) = rightP x := by
  have hb : bareP (norm x) = bareP x := by simp only [bareP, norm_v, norm_var, norm_fld]
  have ha : (norm x).l.any (fun y => decide (y.k = (norm x).k)) = x.l.any fun y => decide (y.k = x.k) := by
    rw [norm_l, List.any_map, norm_k]
    congr 1
    funext y
    simp only [Function.comp, norm_k]
  simp only [rightP, hb, norm_k, norm_v, norm_var, norm_fld, norm_l, List.length_map]
  rw [norm_l, norm_k] at ha
  simp only [ha]
theorem norm_allR (x : Ex) : allR (norm x) = allR x := by
  induction x using Ex.ind with
  | h x ih =>
    rw [allR_eq, allR_eq x, norm_right, norm_l]
    have : ∀ l : List Ex, (∀ y ∈ l, y ∈ x.l) → allRs (l.map norm) = allRs l := by
      intro l
      induction l with
      | nil => intro _; rfl
      | cons y l ihl => intro h; simp only [List.map_cons, allRs, ih y (h y (by simp)), ihl fun z hz => h z (by simp [hz])]
    rw [this x.l fun _ h => h]
theorem norm_gX (x : Ex) : allX gX (norm x) ↔ allX gX x := by
  induction x using Ex.ind with
  | h x ih =>
    rw [allX_eq, allX_eq gX x, norm_l]
    have : ∀ l : List Ex, (∀ y ∈ l, y ∈ x.l) → (allXs gX (l.map norm) ↔ allXs gX l) := by
      intro l
      induction l with
      | nil => intro _; exact Iff.rfl
      | cons y l ihl => intro h; simp only [List.map_cons, allXs, ih y (h y (by simp)), ihl fun z hz => h z (by simp [hz])]
    rw [this x.l fun _ h => h]
    simp only [gX, norm_var, norm_fld, norm_v]
theorem gX_ok {x : Ex} (h : allX gX x) (hs : sizeX x ≤ 1099511627776) : allX okX x ∧ allX vX x := by
  induction x using Ex.ind with
  | h x ih =>
    have h' := (allX_eq _ _).1 h
    have hs' := sizeX_eq x
    have hl := len_sizeXs x.l
    have : ∀ l : List Ex, (∀ y ∈ l, y ∈ x.l) → sizeXs l ≤ 1099511627776 → allXs okX l ∧ allXs vX l := by
      intro l
      induction l with
      | nil => intro _ _; exact ⟨trivial, trivial⟩
      | cons y l ihl =>
        intro hy hl
        simp only [sizeXs] at hl
        have h1 := ih y (hy y (by simp)) (allXs_mem h'.2 (hy y (by simp))) (by omega)
        have h2 := ihl (fun z hz => hy z (by simp [hz])) (by omega)
        exact ⟨⟨h1.1, h2.1⟩, h1.2, h2.2⟩
    have := this x.l (fun _ h => h) (by omega)
    exact ⟨(allX_eq _ _).2 ⟨⟨by omega, h'.1.1, h'.1.2.1⟩, this.1⟩, (allX_eq _ _).2 ⟨h'.1.2.2, this.2⟩⟩
end Go.Hx
namespace Go.Hx
theorem rp_some (b : Nat) : binA Pg .eql 33 true (Pt b) (.raw (.pointer none)) = some (B false) := by kernel_rfl
theorem fK0 (t : Tk) (K : AV → Prop) : fldK false 0 1 (encK t) K = K (I t.k) := rfl
theorem fK1 (t : Tk) (K : AV → Prop) : fldK false 1 1 (encK t) K = K (S t.s) := rfl
theorem fK2 (t : Tk) (K : AV → Prop) : fldK false 2 1 (encK t) K = K (I t.p) := rfl
/-- a reader: its tokens, how many were taken -/
structure RI (b : Nat) (L : List Tk) (i : Nat) (H : Heap) : Prop where
  obj : ∃ s' n' t', H.objs b = some (.cells [.sl s' n' t' (L.map encK), I i])
  len : L.length ≤ 1048576
theorem RS_RI {b : Nat} {r : List Tk} {H : Heap} : RS b r H ↔ ∃ L i, RI b L i H ∧ L.drop i = r :=
  ⟨fun ⟨L, i, s', n', t', h1, h2, h3⟩ => ⟨L, i, ⟨⟨s', n', t', h1⟩, h3⟩, h2⟩, fun ⟨L, i, ⟨⟨s', n', t', h1⟩, h3⟩, h2⟩ => ⟨L, i, s', n', t', h1, h2, h3⟩⟩
theorem RI.get {b i : Nat} {L : List Tk} {H : Heap} {t : Tk} {r : List Tk} (_h : RI b L i H) (e : L.drop i = t :: r) : L[i]? = some t ∧ i < L.length ∧ L.drop (i + 1) = r := by
  have h1 : L[i]? = some t := by
    have := congrArg (fun l => l[0]?) e
    simpa using this
  have h2 : i < L.length := by
    rcases Nat.lt_or_ge i L.length with h | h
    · exact h
    · rw [List.drop_eq_nil_of_le h] at e; cases e
  refine ⟨h1, h2, ?_⟩
  rw [← List.drop_drop, e]; rfl
theorem RI.set {b i : Nat} {L : List Tk} {H : Heap} (h : RI b L i H) (j : Nat) : ∃ o, stH H 1 (Poff b 1) (I j) = some (H.setObj b o) ∧ RI b L j (H.setObj b o) := by
  obtain ⟨⟨s', n', t', h1⟩, h2⟩ := h
  exact ⟨.cells [.sl s' n' t' (L.map encK), I j], by simp [stH, h1, sizedA, cellsA, spliceA, I], ⟨s', n', t', setObj_same _ _ _⟩, h2⟩
theorem c100 {b i : Nat} {L : List Tk} {H : Heap} (h : RI b L i H) (hl : L ≠ []) (Q : Post) : E 100 [Pt b] H Q = Q (B false) H := by
  obtain ⟨⟨s', n', t', h1⟩, h2⟩ := h
  have hz : decide ((L.length : Int) = 0) = false := decide_eq_false (by have := List.length_pos_iff.2 hl; omega)
  rw [f100_eq, rp_some, ob_some, cnd_f]
  simp only [nil_Pt, ob_some, add_Pt, ld_off h1, part_f, List.getElem?_cons_zero, len_sl, List.length_map, i_eql, hz]
  rw [f100_j4_eq]
theorem ne_of_drop {L r : List Tk} {t : Tk} {i : Nat} (e : L.drop i = t :: r) : L ≠ [] := fun h => by subst h; simp at e
theorem c44 {b i : Nat} {L r : List Tk} {t : Tk} {H : Heap} (h : RI b L i H) (e : L.drop i = t :: r) (Q : Post) : E 44 [Pt b] H Q = Q (encK t) H := by
  rw [f44_eq, c100 h (ne_of_drop e), cnd_f]
  have hg := (h.get e).1
  obtain ⟨⟨s', n', t', h1⟩, h2⟩ := h
  have hx : (L.map encK)[i]? = some (encK t) := by rw [List.getElem?_map, hg]; rfl
  simp only [nil_Pt, ob_some, add_Pt, ld_off h1, part_f, List.getElem?_cons_zero, List.getElem?_cons_succ, ix_mk 3 n' t' (L.map encK) i hx (encK_sz t), encK_pt, encK_sz, encK_sp]
theorem c44' {b : Nat} {r : List Tk} {t : Tk} {H : Heap} (h : RS b (t :: r) H) (Q : Post) : E 44 [Pt b] H Q = Q (encK t) H := by
  obtain ⟨L, i, h1, e⟩ := RS_RI.1 h
  exact c44 h1 e Q
theorem c21 {b : Nat} {r : List Tk} {H : Heap} (h : RS b r H) (he : r ≠ []) (Q : Post) : E 21 [Pt b] H Q = Q (I (posn r)) H := by
  cases r with
  | nil => exact (he rfl).elim
  | cons t r => rw [f21_eq, c44' h, fK2]; rfl
theorem c268 {b i : Nat} {L r : List Tk} {t : Tk} {H : Heap} (h : RI b L i H) (e : L.drop i = t :: r) (hk : t.k ≠ 6) (Q : Post) (hq : ∀ o, RI b L (i + 1) (H.setObj b o) → Q (encK t) (H.setObj b o)) : E 268 [Pt b] H Q := by
  have hg := h.get e
  obtain ⟨o, ho, h'⟩ := h.set (i + 1)
  have h0 := h
  obtain ⟨⟨s', n', t', h1⟩, h2⟩ := h
  rw [f268_eq, c44 h0 e]
  have hb : binA Pg .neq 3 true (I t.k) (I 6) = some (B true) := by rw [i_neq, decide_eq_false hk]; rfl
  simp only [encK_sz, encK_sp, ob_some, part_f, List.getElem?_cons_zero, hb, cnd_t, nil_Pt, add_Pt, ld_off h1, List.getElem?_cons_succ, i_add]
  rw [w64_succ hg.2.1 (by omega), ho, ob_some, f268_j10_eq]
  simp only [encK_pt, encK_sz, encK_sp, ob_some]
  exact hq o h'
theorem c268' {b : Nat} {r : List Tk} {t : Tk} {H : Heap} (h : RS b (t :: r) H) (hk : t.k ≠ 6) (Q : Post) (hq : ∀ o, RS b r (H.setObj b o) → Q (encK t) (H.setObj b o)) : E 268 [Pt b] H Q := by
  obtain ⟨L, i, h1, e⟩ := RS_RI.1 h
  exact c268 h1 e hk Q (fun o h2 => hq o (RS_RI.2 ⟨L, i + 1, h2, (h1.get e).2.2⟩))
/-- takes it, if it is that -/
theorem c206 {b : Nat} {r : List Tk} {H : Heap} (k : Int) (s : ByteArray) (hk : k ≠ 6) (h : RS b r H) (he : r ≠ []) (Q : Post) (h0 : nextIs k s r = false → Q (B false) H)
    (h1 : ∀ t r1 o, r = t :: r1 → nextIs k s r = true → RS b r1 (H.setObj b o) → Q (B true) (H.setObj b o)) : E 206 [Pt b, I k, S s] H Q := by
  cases r with
  | nil => exact (he rfl).elim
  | cons t r =>
    rw [f206_eq, c44' h]
    simp only [encK_sz, encK_sp, ob_some, part_f, List.getElem?_cons_zero, List.getElem?_cons_succ, i_neq, s_neq]
    by_cases hk1 : t.k = k
    · rw [decide_eq_true hk1, Bool.not_true, cnd_f, f206_j7_eq]
      by_cases hs1 : t.s = s
      · rw [decide_eq_true hs1, Bool.not_true, cnd_f]
        exact c268' h (hk1 ▸ hk) _ (fun o h2 => h1 t r o rfl (by simp [nextIs, hk1, hs1]) h2)
      · rw [decide_eq_false hs1, Bool.not_false, cnd_t]
        exact h0 (by simp [nextIs, hs1])
    · rw [decide_eq_false hk1, Bool.not_false, cnd_t, f206_j7_eq, cnd_t]
      exact h0 (by simp [nextIs, hk1])
theorem c130 {b : Nat} {r : List Tk} {H : Heap} (s : ByteArray) (h : RS b r H) (he : r ≠ []) (Q : Post) (h0 : nextIs 1 s r = false → Q (B false) H)
    (h1 : ∀ t r1 o, r = t :: r1 → nextIs 1 s r = true → RS b r1 (H.setObj b o) → Q (B true) (H.setObj b o)) : E 130 [Pt b, S s] H Q := by
  rw [f130_eq]; exact c206 1 s (by decide) h he _ h0 h1
theorem c228 {b : Nat} {r : List Tk} {H : Heap} (s : ByteArray) (h : RS b r H) (he : r ≠ []) (Q : Post) (h0 : nextIs 5 s r = false → Q (B false) H)
    (h1 : ∀ t r1 o, r = t :: r1 → nextIs 5 s r = true → RS b r1 (H.setObj b o) → Q (B true) (H.setObj b o)) : E 228 [Pt b, S s] H Q := by
  rw [f228_eq]; exact c206 5 s (by decide) h he _ h0 h1
theorem c229 {b : Nat} {r : List Tk} {H : Heap} (h : RS b r H) (he : r ≠ []) (Q : Post) (h0 : kindN r ≠ 2 → Q (.tup [S e0, B false]) H)
    (h1 : ∀ t r1 o, r = t :: r1 → t.k = 2 → RS b r1 (H.setObj b o) → Q (.tup [S t.s, B true]) (H.setObj b o)) : E 229 [Pt b] H Q := by
  cases r with
  | nil => exact (he rfl).elim
  | cons t r =>
    rw [f229_eq, c44' h]
    simp only [encK_sz, encK_sp, ob_some, part_f, List.getElem?_cons_zero, List.getElem?_cons_succ, i_neq]
    by_cases hk : t.k = 2
    · rw [decide_eq_true hk, Bool.not_true, cnd_f]
      exact c268' h (by omega) _ (fun o h2 => h1 t r o rfl hk h2)
    · rw [decide_eq_false hk, Bool.not_false, cnd_t]
      exact h0 hk
theorem c310 {b i : Nat} {L : List Tk} {H : Heap} (h : RI b L i H) (hl : L ≠ []) (Q : Post) : E 310 [Pt b] H Q = Q (I i) H := by
  rw [f310_eq, c100 h hl, cnd_f]
  obtain ⟨⟨s', n', t', h1⟩, h2⟩ := h
  simp only [nil_Pt, ob_some, add_Pt, ld_off h1, part_f, List.getElem?_cons_zero, List.getElem?_cons_succ]
theorem c312 {b i j : Nat} {L : List Tk} {H : Heap} (h : RI b L i H) (hl : L ≠ []) (hj : j ≤ i) (Q : Post) (hq : ∀ o, RI b L j (H.setObj b o) → Q (.tup []) (H.setObj b o)) : E 312 [Pt b, I j] H Q := by
  rw [f312_eq, c100 h hl, not_B, ob_some, Bool.not_false, cnd_t]
  obtain ⟨o, ho, h'⟩ := h.set j
  obtain ⟨⟨s', n', t', h1⟩, h2⟩ := h
  have g0 : decide ((0 : Int) ≤ (j : Int)) = true := decide_eq_true (by omega)
  have g1 : decide ((j : Int) ≤ (i : Int)) = true := decide_eq_true (by omega)
  rw [i_geq, g0, ob_some, cnd_t, nil_Pt, ob_some, add_Pt, ob_some, ld_off h1, part_f]
  simp only [List.getElem?_cons_succ, List.getElem?_cons_zero, ob_some, i_leq, g1]
  rw [f312_j2_eq, cnd_t, nil_Pt, ob_some, add_Pt, ob_some, ho, ob_some]
  exact hq o h'
/-! ### The parser -/
structure PS (H0 : Heap) (T : Nat → Nat → Prop) (pb rb : Nat) (r : List Tk) (o e a : Int) (H : Heap) : Prop where
  ext : HExt H0 H
  fp : H0.fresh pb
  fr : H0.fresh rb
  ne : pb ≠ rb
  op : H.objs pb = some (.cells [Pt rb, I o, I e, I a])
  rd : RS rb r H
  tp : ∀ c n, T c n → H.tips c = some n
section
variable {H0 H : Heap} {T : Nat → Nat → Prop} {pb rb : Nat} {r : List Tk} {o e a : Int} {Q : Post}
theorem PS.mono {H' : Heap} (h : PS H0 T pb rb r o e a H) (he : HExt H H') : PS H0 T pb rb r o e a H' :=
  ⟨h.ext.trans he, h.fp, h.fr, h.ne, he.obj h.op, h.rd.mono he, fun c n hc => by have := h.tp c n hc; rw [(he c (fun hf => by rw [hf.2] at this; cases this)).2.1]; exact this⟩
theorem PS.setr {ob : AObj} {r1 : List Tk} (h : PS H0 T pb rb r o e a H) (hr : RS rb r1 (H.setObj rb ob)) : PS H0 T pb rb r1 o e a (H.setObj rb ob) :=
  ⟨h.ext.setObj h.fr _, h.fp, h.fr, h.ne, by rw [setObj_ne _ _ h.ne]; exact h.op, hr, h.tp⟩
theorem PS.setp (h : PS H0 T pb rb r o e a H) (o' e' a' : Int) : PS H0 T pb rb r o' e' a' (H.setObj pb (.cells [Pt rb, I o', I e', I a'])) :=
  ⟨h.ext.setObj h.fp _, h.fp, h.fr, h.ne, setObj_same _ _ _, by
    obtain ⟨L, i, s', n', t', h1, h2⟩ := h.rd
    exact ⟨L, i, s', n', t', by rw [setObj_ne _ _ (Ne.symm h.ne)]; exact h1, h2⟩, h.tp⟩
theorem PS.ld0 (h : PS H0 T pb rb r o e a H) : ldH H false 1 (Poff pb 0) = some (Pt rb) := by rw [ld_off h.op]; rfl
theorem PS.ld1 (h : PS H0 T pb rb r o e a H) : ldH H false 1 (Poff pb 1) = some (I o) := by rw [ld_off h.op]; rfl
theorem PS.ld2 (h : PS H0 T pb rb r o e a H) : ldH H false 1 (Poff pb 2) = some (I e) := by rw [ld_off h.op]; rfl
theorem PS.ld3 (h : PS H0 T pb rb r o e a H) : ldH H false 1 (Poff pb 3) = some (I a) := by rw [ld_off h.op]; rfl
theorem PS.st1 (h : PS H0 T pb rb r o e a H) (n : Int) : stH H 1 (Poff pb 1) (I n) = some (H.setObj pb (.cells [Pt rb, I n, I e, I a])) := by simp [stH, h.op, sizedA, cellsA, spliceA, I, Pt]
theorem PS.st2 (h : PS H0 T pb rb r o e a H) (n : Int) : stH H 1 (Poff pb 2) (I n) = some (H.setObj pb (.cells [Pt rb, I o, I n, I a])) := by simp [stH, h.op, sizedA, cellsA, spliceA, I, Pt]
theorem PS.st3 (h : PS H0 T pb rb r o e a H) (n : Int) : stH H 1 (Poff pb 3) (I n) = some (H.setObj pb (.cells [Pt rb, I o, I e, I n])) := by simp [stH, h.op, sizedA, cellsA, spliceA, I, Pt]
/-- no node -/
def zX : Ex := .mk 0 nullV e0 e0 0 true .full []
theorem zX_b : bldA [] [I 0, I 0, I 0, S ⟨#[]⟩, S ⟨#[]⟩, S ⟨#[]⟩, AV.sl 0 true .full []] = some (encX zX) := rfl
/-- the first fault is noted -/
theorem c285 (h : PS H0 T pb rb r o 0 a H) (hr : r ≠ []) (e' : Int) (hq : ∀ H', PS H0 T pb rb r o e' (posn r) H' → Q (encX zX) H') : E 285 [Pt pb, I e'] H Q := by
  have e0' : decide ((0 : Int) = 0) = true := rfl
  rw [f285_eq]
  simp only [nil_Pt, ob_some, add_Pt, h.ld2, i_eql, e0', cnd_t, h.ld0]
  rw [c21 h.rd hr]
  have h1 := h.setp o e' a
  have h2 := h1.setp o e' (posn r)
  rw [h.st2, ob_some, h1.st3, ob_some, f285_j8_eq]
  simp only [zX_b, ob_some, szX, splX, partX]
  exact hq _ h2
end
end Go.Hx
namespace Go.Hx
theorem byte_U8 (c : UInt8) : byteA c = U8 c.toNat := rfl
theorem c106 (c : UInt8) (H : Heap) (Q : Post) : E 106 [U8 c.toNat] H Q = Q (B (blankB c)) H := by
  simp only [f106_eq, f106_j4_eq, k_eql, ob_some, cnd_B, decide_eq_true_eq, blankB, blankI]
  repeat' split
  all_goals simp_all
theorem c180 (c : UInt8) (H : Heap) (Q : Post) : E 180 [U8 c.toNat] H Q = Q (B (uppB c)) H := by
  simp only [f180_eq, f180_j4_eq, k_geq, k_leq, ob_some, cnd_B, decide_eq_true_eq, uppB, uppI]
  split <;> rename_i h <;> simp only [h, decide_true, decide_false, Bool.true_and, Bool.false_and]
theorem c181 (c : UInt8) (H : Heap) (Q : Post) : E 181 [U8 c.toNat] H Q = Q (B (lowB c)) H := by
  simp only [f181_eq, f181_j4_eq, k_geq, k_leq, ob_some, cnd_B, decide_eq_true_eq, lowB, lowI]
  split <;> rename_i h <;> simp only [h, decide_true, decide_false, Bool.true_and, Bool.false_and]
theorem c182 (c : UInt8) (H : Heap) (Q : Post) : E 182 [U8 c.toNat] H Q = Q (B (digB c)) H := by
  simp only [f182_eq, f182_j4_eq, k_geq, k_leq, ob_some, cnd_B, decide_eq_true_eq, digB, digI]
  split <;> rename_i h <;> simp only [h, decide_true, decide_false, Bool.true_and, Bool.false_and]
theorem c250' (c : UInt8) (H : Heap) (Q : Post) : E 250 [U8 c.toNat] H Q = Q (B (signB c)) H := c250 _ H Q
def kindP (k : Nat) : UInt8 → Bool := if k = 1 then uppB else if k = 2 then signB else digB
/-- how many bytes are of a kind -/
theorem c185 {s : ByteArray} {pre r : List UInt8} (k : Nat) (hk : k = 1 ∨ k = 2 ∨ k = 3) (e : tx s = pre ++ r) (hsz : s.size ≤ 1099511627776) (H : Heap) (Q : Post) : E 185 [S s, I pre.length, I k] H Q = Q (I (r.takeWhile (kindP k)).length) H := by
  have loop : ∀ (r2 r1 : List UInt8), r = r1 ++ r2 → f185_l6 (S s) (I pre.length) (I k) (I r1.length) H Q = Q (I ((r1.length + (r2.takeWhile (kindP k)).length : Nat) : Int)) H := by
    intro r2
    induction r2 with
    | nil =>
      intro r1 e2
      have hb := size_bound e
      have hl : r.length = r1.length := by rw [e2]; simp
      have hlt : decide (((pre.length + r1.length : Nat) : Int) < (s.size : Int)) = false := decide_eq_false (by omega)
      rw [f185_l6_eq, i_add, ob_some, w64_add (by omega), len_S, ob_some, i_lss, ob_some, hlt, cnd_f]
      simp
    | cons c r2 ih =>
      intro r1 e2
      have hb := size_bound e
      have hl : r.length = r1.length + (r2.length + 1) := by rw [e2]; simp
      have hlt : decide (((pre.length + r1.length : Nat) : Int) < (s.size : Int)) = true := decide_eq_true (by omega)
      have hix : ixA (S s) (I ((pre.length + r1.length : Nat) : Int)) = some (U8 c.toNat) := by
        have := ixS s (pre ++ r1) r2 c (by show tx s = _; rw [e, e2, List.append_assoc])
        rw [List.length_append] at this; exact this
      have next : kindP k c = true → f185_j19 (S s) (I pre.length) (I k) (I r1.length) (B false) H Q = Q (I ((r1.length + ((c :: r2).takeWhile (kindP k)).length : Nat) : Int)) H := fun hc => by
        rw [f185_j19_eq, cnd_f, i_add, ob_some, w64_succ (n := 1099511627776) (by omega) (by omega)]
        have := ih (r1 ++ [c]) (by rw [e2]; simp)
        rw [List.length_append, List.length_singleton] at this
        rw [this, List.takeWhile_cons, if_pos hc, List.length_cons]
        congr 2; omega
      have stop : kindP k c = false → f185_j19 (S s) (I pre.length) (I k) (I r1.length) (B true) H Q = Q (I ((r1.length + ((c :: r2).takeWhile (kindP k)).length : Nat) : Int)) H := fun hc => by
        rw [f185_j19_eq, cnd_t, List.takeWhile_cons, if_neg (by rw [hc]; decide)]
        rfl
      have d11 : decide (((1 : Nat) : Int) = 1) = true := rfl
      have d12 : decide (((1 : Nat) : Int) = 2) = false := rfl
      have d13 : decide (((1 : Nat) : Int) = 3) = false := rfl
      have d21 : decide (((2 : Nat) : Int) = 1) = false := rfl
      have d22 : decide (((2 : Nat) : Int) = 2) = true := rfl
      have d23 : decide (((2 : Nat) : Int) = 3) = false := rfl
      have d31 : decide (((3 : Nat) : Int) = 1) = false := rfl
      have d32 : decide (((3 : Nat) : Int) = 2) = false := rfl
      have d33 : decide (((3 : Nat) : Int) = 3) = true := rfl
      rw [f185_l6_eq, i_add, ob_some, w64_add (by omega), len_S, ob_some, i_lss, ob_some, hlt, cnd_t, ob_some, hix, ob_some]
      rcases hk with rfl | rfl | rfl
      · rw [i_eql, ob_some, d11, cnd_t, c180, not_B, ob_some, f185_c4_7a_eq]
        cases hc : uppB c with
        | true =>
          rw [Bool.not_true, cnd_f, i_eql, ob_some, d12, cnd_f, f185_c4_15c_eq, f185_c4_16c_eq, i_eql, ob_some, d13, cnd_f, f185_c4_24c_eq]
          exact next hc
        | false =>
          rw [Bool.not_false, cnd_t, f185_c4_15a_eq, f185_c4_16a_eq, f185_c4_24a_eq]
          exact stop hc
      · rw [i_eql, ob_some, d21, cnd_f, f185_c4_7b_eq, i_eql, ob_some, d22, cnd_t, c250', not_B, ob_some, f185_c4_15b_eq, f185_c4_16b_eq]
        cases hc : signB c with
        | true =>
          rw [Bool.not_true, cnd_f, i_eql, ob_some, d23, cnd_f, f185_c4_24c_eq]
          exact next hc
        | false =>
          rw [Bool.not_false, cnd_t, f185_c4_24a_eq]
          exact stop hc
      · rw [i_eql, ob_some, d31, cnd_f, f185_c4_7b_eq, i_eql, ob_some, d32, cnd_f, f185_c4_15c_eq, f185_c4_16c_eq, i_eql, ob_some, d33, cnd_t, c182, not_B, ob_some, f185_c4_24b_eq]
        cases hc : digB c with
        | true => rw [Bool.not_true]; exact next hc
        | false => rw [Bool.not_false]; exact stop hc
  rw [f185_eq]
  have := loop r [] rfl
  simpa using this
/-! ### Signs -/
def sgnW : List UInt8 := [40, 41, 44, 46, 43, 45, 42, 47, 37, 61, 60, 62, 33, 124, 123, 125, 91, 93]
def signD (r : List UInt8) : List UInt8 := (signW.find? (pre? r)).getD []
theorem signD_two (c d : UInt8) (r : List UInt8) : signD (c :: d :: r) = if [c, d] = [60, 61] ∨ [c, d] = [62, 61] ∨ [c, d] = [60, 62] ∨ [c, d] = [45, 62] then [c, d] else signD [c] := by
  have h2 : ∀ w : List UInt8, w.length = 2 → pre? (c :: d :: r) w = decide ([c, d] = w) := fun w hw => by
    simp [pre?, hw]
  have h1 : ∀ w : List UInt8, w.length = 1 → pre? (c :: d :: r) w = pre? [c] w := fun w hw => by
    simp [pre?, hw]
  have h3 : ∀ w : List UInt8, w.length = 2 → pre? [c] w = false := fun w hw => by simp [pre?, hw]
  simp only [signD, signW, List.find?_cons, h2 [60, 61] rfl, h2 [62, 61] rfl, h2 [60, 62] rfl, h2 [45, 62] rfl, h3 [60, 61] rfl, h3 [62, 61] rfl, h3 [60, 62] rfl, h3 [45, 62] rfl]
  by_cases g1 : [c, d] = [60, 61]
  · simp [g1]
  by_cases g2 : [c, d] = [62, 61]
  · simp [g2]
  by_cases g3 : [c, d] = [60, 62]
  · simp [g3]
  by_cases g4 : [c, d] = [45, 62]
  · simp [g4]
  have : ∀ w : List UInt8, w ∈ ([[40], [41], [44], [46], [43], [45], [42], [47], [37], [61], [60], [62], [33], [124], [123], [125], [91], [93]] : List (List UInt8)) → pre? (c :: d :: r) w = pre? [c] w := fun w hw => h1 w (by
    have : ∀ w ∈ ([[40], [41], [44], [46], [43], [45], [42], [47], [37], [61], [60], [62], [33], [124], [123], [125], [91], [93]] : List (List UInt8)), w.length = 1 := by decide
    exact this w hw)
  simp only [g1, g2, g3, g4, decide_false, or_self, if_false]
  rw [this [40] (by decide), this [41] (by decide), this [44] (by decide), this [46] (by decide), this [43] (by decide), this [45] (by decide), this [42] (by decide), this [47] (by decide), this [37] (by decide), this [61] (by decide), this [60] (by decide), this [62] (by decide), this [33] (by decide), this [124] (by decide), this [123] (by decide), this [125] (by decide), this [91] (by decide), this [93] (by decide)]
  rfl
theorem signD_one (c : UInt8) : signD [c] = if c ∈ sgnW then [c] else [] := by
  have h3 : ∀ w : List UInt8, w.length = 2 → pre? [c] w = false := fun w hw => by simp [pre?, hw]
  have h1 : ∀ d : UInt8, pre? [c] [d] = decide (c = d) := fun d => by simp [pre?]
  simp only [signD, signW, List.find?_cons, h3 [60, 61] rfl, h3 [62, 61] rfl, h3 [60, 62] rfl, h3 [45, 62] rfl, h1]
  by_cases hm : c ∈ sgnW
  · rw [if_pos hm]
    simp only [sgnW, List.mem_cons, List.not_mem_nil, or_false] at hm
    rcases hm with rfl | rfl | rfl | rfl | rfl | rfl | rfl | rfl | rfl | rfl | rfl | rfl | rfl | rfl | rfl | rfl | rfl | rfl <;> rfl
  · rw [if_neg hm]
    simp only [sgnW, List.mem_cons, List.not_mem_nil, or_false, not_or] at hm
    obtain ⟨a1, a2, a3, a4, a5, a6, a7, a8, a9, a10, a11, a12, a13, a14, a15, a16, a17, a18⟩ := hm
    simp only [a1, a2, a3, a4, a5, a6, a7, a8, a9, a10, a11, a12, a13, a14, a15, a16, a17, a18, decide_false, List.find?_nil]
    rfl
theorem cnd_case {b : Bool} {x y z : Prop} (h1 : b = true → x = z) (h2 : b = false → y = z) : cndA (B b) x y = z := by
  cases b
  · exact h2 rfl
  · exact h1 rfl
theorem c184 {s : ByteArray} {pre r : List UInt8} {c : UInt8} (e : tx s = pre ++ c :: r) (hsz : s.size ≤ 1099511627776) (H : Heap) (Q : Post) : E 184 [S s, I pre.length] H Q = Q (S (bs (signD (c :: r)))) H := by
  have hb := size_bound e
  simp only [List.length_cons] at hb
  have hix : ixA (S s) (I pre.length) = some (U8 c.toNat) := ixS s pre r c e
  have h1 : W64 ((pre.length : Int) + 1) = ((pre.length + 1 : Nat) : Int) := w64_add (n := 1) (by omega)
  have one : (c ∈ sgnW → Q (S (bs [c])) H = Q (S (bs (signD [c]))) H) ∧ (¬ c ∈ sgnW → Q (S ⟨#[]⟩) H = Q (S (bs (signD [c]))) H) := by
    rw [signD_one]
    exact ⟨fun h => by rw [if_pos h], fun h => by rw [if_neg h]⟩
  have loop : ∀ (w2 w1 : List UInt8), sgnW = w1 ++ w2 → ¬ c ∈ w1 → f184_l20 (S s) (I pre.length) (I w1.length) H Q = Q (S (bs (signD [c]))) H := by
    intro w2
    induction w2 with
    | nil =>
      intro w1 ew hn
      have hl : w1.length = 18 := by have := congrArg List.length ew; simpa [sgnW] using this.symm
      have hlt : decide ((w1.length : Int) < 18) = false := decide_eq_false (by omega)
      rw [f184_l20_eq, i_lss, ob_some, hlt, cnd_f]
      rw [List.append_nil] at ew
      exact one.2 (by rw [ew]; exact hn)
    | cons d w2 ih =>
      intro w1 ew hn
      have hl : w1.length + (w2.length + 1) = 18 := by have := congrArg List.length ew; simpa [sgnW] using this.symm
      have hlt : decide ((w1.length : Int) < 18) = true := decide_eq_true (by omega)
      have hd : ixA (S (bs sgnW)) (I w1.length) = some (U8 d.toNat) := ixS (bs sgnW) w1 w2 d (by show tx (bs sgnW) = _; rw [tx_bs]; exact ew)
      have hd : ixA (S ⟨#[40, 41, 44, 46, 43, 45, 42, 47, 37, 61, 60, 62, 33, 124, 123, 125, 91, 93]⟩) (I w1.length) = some (U8 d.toNat) := hd
      rw [f184_l20_eq, i_lss, ob_some, hlt, cnd_t, hd, ob_some, hix, ob_some, k_eql, ob_some]
      refine cnd_case (fun hc => ?_) (fun hc => ?_)
      · have hc : d = c := by
          have : (d.toNat : Int) = c.toNat := by simpa using hc
          exact UInt8.toNat_inj.1 (by omega)
        subst hc
        have hs : sliceSA (S s) (some (I pre.length)) (some (I ((pre.length + 1 : Nat) : Int))) = some (S (bs [d])) := by
          have := slS_mid e (n := 1) (by simp)
          simpa using this
        rw [i_add, ob_some, h1, hs, ob_some]
        exact one.1 (by rw [ew]; simp)
      · have hc : d ≠ c := fun h => by subst h; simp at hc
        rw [i_add, ob_some, w64_succ (n := 18) (by omega) (by omega)]
        have := ih (w1 ++ [d]) (by simp [ew]) (by simp only [List.mem_append, List.mem_singleton, not_or]; exact ⟨hn, fun h => hc h.symm⟩)
        rw [List.length_append, List.length_singleton] at this
        exact this
  have l0 := loop sgnW [] rfl (by simp)
  have h2 : W64 ((pre.length : Int) + 2) = ((pre.length + 2 : Nat) : Int) := w64_add (n := 2) (by omega)
  rw [f184_eq, i_add, ob_some, h2, len_S, ob_some, i_leq, ob_some]
  cases r with
  | nil =>
    have : decide (((pre.length + 2 : Nat) : Int) ≤ (s.size : Int)) = false := decide_eq_false (by simp at hb; omega)
    rw [this, cnd_f]
    exact l0
  | cons d r =>
    have : decide (((pre.length + 2 : Nat) : Int) ≤ (s.size : Int)) = true := decide_eq_true (by simp at hb; omega)
    have hs : sliceSA (S s) (some (I pre.length)) (some (I ((pre.length + 2 : Nat) : Int))) = some (S (bs [c, d])) := by
      have := slS_mid e (n := 2) (by simp)
      simpa using this
    have lit : ∀ w : List UInt8, decide (bs [c, d] = bs w) = decide ([c, d] = w) := fun w => by
      by_cases h : [c, d] = w
      · rw [h]; simp
      · rw [decide_eq_false h, decide_eq_false (fun h' => h (bs_inj.1 h'))]
    have e1 : ∀ t l, binA Pg .eql t l (S (bs [c, d])) (S ⟨#[60, 61]⟩) = some (B (decide ([c, d] = [60, 61]))) := fun t l => by rw [s_eql]; exact congrArg _ (congrArg _ (lit [60, 61]))
    have e2 : ∀ t l, binA Pg .eql t l (S (bs [c, d])) (S ⟨#[62, 61]⟩) = some (B (decide ([c, d] = [62, 61]))) := fun t l => by rw [s_eql]; exact congrArg _ (congrArg _ (lit [62, 61]))
    have e3 : ∀ t l, binA Pg .eql t l (S (bs [c, d])) (S ⟨#[60, 62]⟩) = some (B (decide ([c, d] = [60, 62]))) := fun t l => by rw [s_eql]; exact congrArg _ (congrArg _ (lit [60, 62]))
    have e4 : ∀ t l, binA Pg .eql t l (S (bs [c, d])) (S ⟨#[45, 62]⟩) = some (B (decide ([c, d] = [45, 62]))) := fun t l => by rw [s_eql]; exact congrArg _ (congrArg _ (lit [45, 62]))
    rw [this, cnd_t, ob_some, hs, ob_some, e1, ob_some, signD_two]
    by_cases g1 : [c, d] = [60, 61]
    · rw [decide_eq_true g1, cnd_t, f184_c3_6a_eq, f184_c3_10a_eq, f184_j10_eq, cnd_t, if_pos (.inl g1)]
    rw [decide_eq_false g1, cnd_f, e2, ob_some, f184_c3_6b_eq]
    by_cases g2 : [c, d] = [62, 61]
    · rw [decide_eq_true g2, cnd_t, f184_c3_10a_eq, f184_j10_eq, cnd_t, if_pos (.inr (.inl g2))]
    rw [decide_eq_false g2, cnd_f, e3, ob_some, f184_c3_10b_eq]
    by_cases g3 : [c, d] = [60, 62]
    · rw [decide_eq_true g3, cnd_t, f184_j10_eq, cnd_t, if_pos (.inr (.inr (.inl g3)))]
    rw [decide_eq_false g3, cnd_f, e4, ob_some, f184_j10_eq]
    by_cases g4 : [c, d] = [45, 62]
    · rw [decide_eq_true g4, cnd_t, if_pos (.inr (.inr (.inr g4)))]
    rw [decide_eq_false g4, cnd_f, if_neg (fun h => by rcases h with h | h | h | h; exact g1 h; exact g2 h; exact g3 h; exact g4 h)]
    exact l0
end Go.Hx
namespace Go.Hx
def hexJ (c : UInt8) : Int := match hexV c with
  | some d => (d : Int)
  | none => -1
theorem hexIx (c : UInt8) : ∀ j : Nat, j < 16 → (hexD j = c ↔ hexV c = some j) := by
  have : ∀ c : Fin 256, ∀ j : Fin 16, (hexD j.val = UInt8.ofNat c.val ↔ hexV (UInt8.ofNat c.val) = some j.val) := by decide +kernel
  intro j hj
  have h := this ⟨c.toNat, byte_lt c⟩ ⟨j, hj⟩
  simpa using h
theorem hexV_lt {c : UInt8} {d : Nat} (h : hexV c = some d) : d < 16 := hexN_lt h
theorem c249 (c : UInt8) (H : Heap) (Q : Post) : E 249 [U8 c.toNat] H Q = Q (I (hexJ c)) H := by
  have loop : ∀ (m j : Nat), j + m = 16 → (∀ i, i < j → hexV c ≠ some i) → f249_l6 (U8 c.toNat) (I j) H Q = Q (I (hexJ c)) H := by
    intro m
    induction m with
    | zero =>
      intro j e hn
      have hlt : decide ((j : Int) < 16) = false := decide_eq_false (by omega)
      rw [f249_l6_eq, i_lss, ob_some, hlt, cnd_f]
      have : hexJ c = -1 := by
        simp only [hexJ]
        cases hv : hexV c with
        | none => rfl
        | some d => exact (hn d (by have := hexV_lt hv; omega) hv).elim
      rw [this]
    | succ m ih =>
      intro j e hn
      have hlt : decide ((j : Int) < 16) = true := decide_eq_true (by omega)
      have hg : ixA (S hexS) (I j) = some (U8 (hexD j).toNat) := by
        have := ixS hexS (hexS.data.toList.take j) (hexS.data.toList.drop (j + 1)) (hexD j) (by
          match j, (by omega : j < 16) with
          | 0, _ | 1, _ | 2, _ | 3, _ | 4, _ | 5, _ | 6, _ | 7, _ | 8, _ | 9, _ | 10, _ | 11, _ | 12, _ | 13, _ | 14, _ | 15, _ => rfl
          | n + 16, h => exact absurd h (by omega))
        have hl : (hexS.data.toList.take j).length = j := by simp [hexS]; omega
        rw [hl] at this; exact this
      have hg : ixA (S ⟨#[48, 49, 50, 51, 52, 53, 54, 55, 56, 57, 97, 98, 99, 100, 101, 102]⟩) (I j) = some (U8 (hexD j).toNat) := hg
      rw [f249_l6_eq, i_lss, ob_some, hlt, cnd_t, hg, ob_some, k_eql, ob_some]
      refine cnd_case (fun hc => ?_) (fun hc => ?_)
      · have hc : hexD j = c := UInt8.toNat_inj.1 (by have : ((hexD j).toNat : Int) = c.toNat := by simpa using hc
                                                      omega)
        have : hexJ c = j := by simp only [hexJ, (hexIx c j (by omega)).1 hc]
        rw [this]
      · have hc : hexV c ≠ some j := fun h => by
          have := (hexIx c j (by omega)).2 h
          rw [this] at hc; simp at hc
        rw [i_add, ob_some, w64_succ (n := 16) (by omega) (by omega)]
        exact ih (j + 1) (by omega) (fun i hi => by
          rcases Nat.lt_or_ge i j with h | h
          · exact hn i h
          · have : i = j := by omega
            subst this; exact hc)
  rw [f249_eq]
  exact loop 16 0 rfl (fun i hi => by omega)
theorem ix_plus {s : ByteArray} {pre w r : List UInt8} {c : UInt8} (e : tx s = pre ++ (w ++ c :: r)) : ixA (S s) (I ((pre.length + w.length : Nat) : Int)) = some (U8 c.toNat) := by
  have := ixS s (pre ++ w) r c (by show tx s = _; rw [e, List.append_assoc])
  rw [List.length_append] at this; exact this
/-- what is quoted -/
theorem c183 (l : List UInt8) (hl : l.length ≤ 1099511627776) (H0 : Heap) (Q : Post) (hq : ∀ H', HExt H0 H' → Q (uqV (unq l)) H') : E 183 [S (bs l)] H0 Q := by
  have hsz : (bs l).size = l.length := bs_size l
  have hlen : ∀ n : Nat, n ≤ 1099511627780 → W64 (n : Int) = (n : Int) := fun n hn => w64_id (by omega) (by omega)
  have loop : ∀ (m : Nat) (r pre out : List UInt8) (sz : Nat) (nil : Bool) (tip : Tip) (H : Heap), r.length ≤ m → l = pre ++ r → HExt H0 H → (nil = true ∨ sz = 1) → OwnS H0 H 1 out.length tip → out.length ≤ pre.length →
      (∀ H', HExt H0 H' → Q (uqV (unqF pre.length out r)) H') → f183_l16 (S (bs l)) (.sl sz nil tip (out.map byteA)) (I pre.length) H Q := by
    intro m
    induction m with
    | zero =>
      intro r pre out sz nil tip H hm e he hn ho hol hq
      have hr : r = [] := List.eq_nil_of_length_eq_zero (by omega)
      subst hr
      have hp : pre.length = l.length := by rw [e]; simp
      have hlt : decide ((pre.length : Int) < ((bs l).size : Int)) = false := decide_eq_false (by omega)
      rw [f183_l16_eq, len_S, ob_some, i_lss, ob_some, hlt, cnd_f, ob_some]
      have := hq H he
      rw [unqF] at this
      rw [hsz, ← hp]; exact this
    | succ m ih =>
      intro r pre out sz nil tip H hm e he hn ho hol hq
      cases r with
      | nil => exact ih [] pre out sz nil tip H (by simp) e he hn ho hol hq
      | cons c r =>
        have ll : l.length = pre.length + (r.length + 1) := by rw [e]; simp
        simp only [List.length_cons] at hm
        have e' : tx (bs l) = pre ++ c :: r := by rw [tx_bs]; exact e
        have hlt : decide ((pre.length : Int) < ((bs l).size : Int)) = true := decide_eq_true (by omega)
        have hix : ixA (S (bs l)) (I pre.length) = some (U8 c.toNat) := ixS (bs l) pre r c e'
        have h1 : W64 ((pre.length : Int) + 1) = ((pre.length + 1 : Nat) : Int) := w64_add (n := 1) (by omega)
        have h2 : W64 ((pre.length : Int) + 2) = ((pre.length + 2 : Nat) : Int) := w64_add (n := 2) (by omega)
        have h3 : W64 ((pre.length : Int) + 3) = ((pre.length + 3 : Nat) : Int) := w64_add (n := 3) (by omega)
        have h4 : W64 ((pre.length : Int) + 4) = ((pre.length + 4 : Nat) : Int) := w64_add (n := 4) (by omega)
        have e39 : ∀ d : UInt8, binA Pg .eql 5 true (U8 d.toNat) (AV.raw (.int .u8 39)) = some (B (decide (d.toNat = 39))) := fun d => b_eq39 d 39 5 true
        have e92 : ∀ d : UInt8, binA Pg .eql 5 true (U8 d.toNat) (AV.raw (.int .u8 92)) = some (B (decide (d.toNat = 92))) := fun d => b_eq39 d 92 5 true
        have push : ∀ (w r2 : List UInt8) (d : UInt8) (H' : Heap) (k : Int), r = w ++ r2 → k = ((pre.length + (1 + w.length) : Nat) : Int) → HExt H0 H' → OwnS H0 H' 1 out.length tip → (∀ H2, HExt H0 H2 → Q (uqV (unqF (pre.length + (1 + w.length)) (out ++ [d]) r2)) H2) →
            ob (mkSlA 1 [U8 d.toNat]) fun r16 => appB 5 (.sl sz nil tip (out.map byteA)) r16 H' fun r17 H18 => f183_l16 (S (bs l)) r17 (I k) H18 Q := fun w r2 d H' k hw hk he' ho' hq' => by
          have hm1 : mkSlA 1 [U8 d.toNat] = some (.sl 1 false .full ([d].map byteA)) := lit_bytes [d]
          rw [hm1, ob_some]
          refine app_b he' ho' hn (ys := [d]) (by simp [tailA]) (by simp; omega) (fun s2 n2 t2 H2 hn2 ho2 he2 _ => ?_)
          have hl2 : (pre ++ c :: w).length = pre.length + (1 + w.length) := by simp; omega
          have hrl : r.length = w.length + r2.length := by rw [hw]; simp
          have := ih r2 (pre ++ c :: w) (out ++ [d]) s2 n2 t2 H2 (by omega) (by rw [e, hw]; simp) he2 hn2 (by simpa using ho2) (by simp; omega) (fun H3 h3 => by rw [hl2]; exact hq' H3 h3)
          rw [hl2] at this
          rw [hk]; exact this
        rw [f183_l16_eq, len_S, ob_some, i_lss, ob_some, hlt, cnd_t, hix, ob_some, e39, ob_some]
        refine cnd_intro (fun g => ?_) (fun g => ?_)
        · have g : c.toNat = 39 := by simpa using g
          rw [len_sl, ob_some, List.length_map, i_gtr, ob_some]
          have := hq H he
          rw [unqF.eq_def] at this
          simp only [g, if_true] at this
          refine cnd_intro (fun g2 => ?_) (fun g2 => ?_)
          · rw [if_pos (by simp at g2; omega)] at this; exact this
          · rw [if_neg (by simp at g2; omega)] at this
            refine ⟨hn, out, rfl, ?_⟩
            simp only [i_add, ob_some, h1]; exact this
        have g : ¬ c.toNat = 39 := by simpa using g
        rw [← byte_U8, c248, not_B, ob_some]
        refine cnd_intro (fun gp => ?_) (fun gp => ?_)
        · have gp : plainB c = false := by simpa using gp
          have g92 : ¬ c.toNat = 92 := fun h => by
            simp only [plainB, h] at gp; cases gp
          have := hq H he
          rw [unqF.eq_def] at this
          simp only [if_neg g, if_neg g92, gp, Bool.false_eq_true, if_false] at this
          exact this
        have gp : plainB c = true := by simpa using gp
        have n92 : binA Pg .neq 5 true (byteA c) (AV.raw (.int .u8 92)) = some (B (!decide (c.toNat = 92))) := by
          have := k_neq (P := Pg) (k := .u8) 5 true (c.toNat : Int) 92
          rw [byte_U8]
          refine this.trans ?_
          by_cases h : c.toNat = 92
          · have h' : (c.toNat : Int) = 92 := by omega
            simp [h, h']
          · have h' : ¬ (c.toNat : Int) = 92 := by omega
            simp [h, h']
        rw [n92, ob_some]
        refine cnd_intro (fun g2 => ?_) (fun g2 => ?_)
        · have g2 : ¬ c.toNat = 92 := by simpa using g2
          have := push [] r c H ((pre.length + 1 : Nat) : Int) rfl rfl he ho (fun H2 hh => by
            have := hq H2 hh
            rw [unqF.eq_def] at this
            simp only [if_neg g, if_neg g2, gp, if_true] at this
            exact this)
          rw [i_add]; simp only [ob_some, h1]; exact this
        have g2 : c.toNat = 92 := by simpa using g2
        have hq : ∀ H', HExt H0 H' → Q (uqV (match escR pre.length r with | .bad q => .bad q 4 | .ok d n => unqF (pre.length + n) (out ++ [d]) (r.drop (n - 1)))) H' := fun H' hh => by
          have := hq H' hh
          rw [unqF.eq_def] at this
          simp only [if_neg g, if_pos g2] at this
          exact this
        simp only [i_add, ob_some, h1, len_S, i_geq]
        cases r with
        | nil =>
          have : decide (((bs l).size : Int) ≤ ((pre.length + 1 : Nat) : Int)) = true := decide_eq_true (by simp at ll; omega)
          rw [this, cnd_t]
          have := hq H he
          simp only [escR] at this
          have hp : (bs l).size = pre.length + 1 := by simp at ll; omega
          rw [hp]; exact this
        | cons d r =>
          have hnlt : decide (((bs l).size : Int) ≤ ((pre.length + 1 : Nat) : Int)) = false := decide_eq_false (by simp at ll; omega)
          have hix1 : ixA (S (bs l)) (I ((pre.length + 1 : Nat) : Int)) = some (U8 d.toNat) := ix_plus (w := [c]) (r := r) (by rw [e']; rfl)
          rw [hnlt, cnd_f, hix1, ob_some, e39, ob_some]
          have j71 : ∀ b : Bool, b = decide (d.toNat = 39 ∨ d.toNat = 92) → f183_j71 (S (bs l)) (.sl sz nil tip (out.map byteA)) (I pre.length) (B b) H Q := fun b hbb => by
            subst hbb
            rw [f183_j71_eq]
            refine cnd_intro (fun g3 => ?_) (fun g3 => ?_)
            · have g3 : d.toNat = 39 ∨ d.toNat = 92 := by simpa using g3
              have := push [d] r d H ((pre.length + 2 : Nat) : Int) rfl rfl he ho (fun H2 hh => by
                have := hq H2 hh
                simp only [escR, if_pos g3] at this
                exact this)
              rw [i_add, ob_some, h1, hix1, ob_some]
              simp only [i_add, ob_some, h2]
              exact this
            have g3 : ¬ (d.toNat = 39 ∨ d.toNat = 92) := by simpa using g3
            have n120 : binA Pg .neq 5 true (U8 d.toNat) (AV.raw (.int .u8 120)) = some (B (!decide (d.toNat = 120))) := by
              refine (k_neq (P := Pg) (k := .u8) 5 true (d.toNat : Int) 120).trans ?_
              by_cases h : d.toNat = 120
              · have h' : (d.toNat : Int) = 120 := by omega
                simp [h, h']
              · have h' : ¬ (d.toNat : Int) = 120 := by omega
                simp [h, h']
            rw [i_add, ob_some, h1, hix1, ob_some, n120, ob_some]
            refine cnd_intro (fun g4 => ?_) (fun g4 => ?_)
            · have g4 : d.toNat ≠ 120 := by simpa using g4
              have := hq H he
              simp only [escR, if_neg g3, if_pos g4] at this
              rw [ob_some]; exact this
            have g4 : d.toNat = 120 := by simpa using g4
            have hq : ∀ H', HExt H0 H' → Q (uqV (match (match hexR (pre.length + 2) r with | .bad q => ER.bad q | .ok c _ => if plainB c = true then .bad pre.length else .ok c 4) with | .bad q => .bad q 4 | .ok c2 n => unqF (pre.length + n) (out ++ [c2]) ((d :: r).drop (n - 1)))) H' := fun H' hh => by
              have := hq H' hh
              simp only [escR, if_neg g3, if_neg (by omega : ¬ d.toNat ≠ 120)] at this
              exact this
            rw [i_add, ob_some, h2]
            simp only [List.length_cons] at ll
            have bad0 : ∀ (k : Nat), k = pre.length + 2 ∨ k = pre.length + 3 → (hexR (pre.length + 2) r = .bad k) → Q (.tup [S ⟨#[]⟩, I (k : Int), I 4]) H := fun k _ hk => by
              have := hq H he
              rw [hk] at this; exact this
            have lt2 : decide (((pre.length + 2 : Nat) : Int) < ((pre.length + 4 : Nat) : Int)) = true := decide_eq_true (by omega)
            have lt3 : decide (((pre.length + 3 : Nat) : Int) < ((pre.length + 4 : Nat) : Int)) = true := decide_eq_true (by omega)
            have lt4 : decide (((pre.length + 4 : Nat) : Int) < ((pre.length + 4 : Nat) : Int)) = false := decide_eq_false (by omega)
            rw [f183_l90_eq, i_add, ob_some, h4, i_lss, ob_some, lt2, cnd_t, len_S, ob_some, i_geq, ob_some]
            cases r with
            | nil =>
              have : decide (((bs l).size : Int) ≤ ((pre.length + 2 : Nat) : Int)) = true := decide_eq_true (by simp at ll; omega)
              rw [this, cnd_t, ob_some]
              have hp : (bs l).size = pre.length + 2 := by simp at ll; omega
              rw [hp]
              exact bad0 _ (.inl rfl) rfl
            | cons x r =>
              have hn2 : decide (((bs l).size : Int) ≤ ((pre.length + 2 : Nat) : Int)) = false := decide_eq_false (by simp at ll; omega)
              have hix2 : ixA (S (bs l)) (I ((pre.length + 2 : Nat) : Int)) = some (U8 x.toNat) := ix_plus (w := [c, d]) (r := r) (by rw [e']; rfl)
              rw [hn2, cnd_f, hix2, ob_some, c249, i_lss, ob_some]
              cases hx : hexV x with
              | none =>
                have : decide (hexJ x < 0) = true := by simp [hexJ, hx]
                rw [this, cnd_t]
                exact bad0 _ (.inl rfl) (by simp only [hexR, hx])
              | some a =>
                have hxa : hexJ x = (a : Int) := by simp [hexJ, hx]
                have ha := hexV_lt hx
                have : decide (hexJ x < 0) = false := decide_eq_false (by omega)
                have h23 : W64 (((pre.length + 2 : Nat) : Int) + 1) = ((pre.length + 3 : Nat) : Int) := w64_add (m := pre.length + 2) (n := 1) (by omega)
                rw [this, cnd_f, i_add, ob_some, h23, f183_l90_eq, i_add, ob_some, h4, i_lss, ob_some, lt3, cnd_t, len_S, ob_some, i_geq, ob_some]
                cases r with
                | nil =>
                  have : decide (((bs l).size : Int) ≤ ((pre.length + 3 : Nat) : Int)) = true := decide_eq_true (by simp at ll; omega)
                  rw [this, cnd_t, ob_some]
                  have hp : (bs l).size = pre.length + 3 := by simp at ll; omega
                  rw [hp]
                  exact bad0 _ (.inr rfl) (by simp only [hexR, hx])
                | cons y r =>
                  have hn3 : decide (((bs l).size : Int) ≤ ((pre.length + 3 : Nat) : Int)) = false := decide_eq_false (by simp at ll; omega)
                  have hix3 : ixA (S (bs l)) (I ((pre.length + 3 : Nat) : Int)) = some (U8 y.toNat) := ix_plus (w := [c, d, x]) (r := r) (by rw [e']; rfl)
                  rw [hn3, cnd_f, hix3, ob_some, c249, i_lss, ob_some]
                  cases hy : hexV y with
                  | none =>
                    have : decide (hexJ y < 0) = true := by simp [hexJ, hy]
                    rw [this, cnd_t]
                    exact bad0 _ (.inr rfl) (by simp only [hexR, hx, hy])
                  | some b =>
                    have hyb : hexJ y = (b : Int) := by simp [hexJ, hy]
                    have hb := hexV_lt hy
                    have : decide (hexJ y < 0) = false := decide_eq_false (by omega)
                    have h34 : W64 (((pre.length + 3 : Nat) : Int) + 1) = ((pre.length + 4 : Nat) : Int) := w64_add (m := pre.length + 3) (n := 1) (by omega)
                    have hmul : W64 (16 * (a : Int)) = ((16 * a : Nat) : Int) := by rw [w64_id (by omega) (by omega)]; omega
                    have hsum : W64 (((16 * a : Nat) : Int) + (b : Int)) = ((16 * a + b : Nat) : Int) := w64_add (by omega)
                    have hcv : cvtIA .u8 (I ((16 * a + b : Nat) : Int)) = some (byteA (UInt8.ofNat (16 * a + b))) := by
                      have hto : (UInt8.ofNat (16 * a + b)).toNat = 16 * a + b := by rw [UInt8.toNat_ofNat']; omega
                      rw [byteA, hto]
                      show some (AV.raw (.int .u8 (IntKind.u8.wrap ((16 * a + b : Nat) : Int)))) = _
                      rw [wrap_u8 (by omega) (by omega)]
                    have hr : hexR (pre.length + 2) (x :: y :: r) = .ok (UInt8.ofNat (16 * a + b)) 2 := by simp only [hexR, hx, hy]
                    rw [hr] at hq
                    rw [this, cnd_f, i_add, ob_some, h34, f183_l90_eq, i_add, ob_some, h4, i_lss, ob_some, lt4, cnd_f, i_add, ob_some, h2, hix2, ob_some, i_add, ob_some, h3, hix3, ob_some, c249, hxa, i_mul, ob_some, hmul, c249, hyb, i_add, ob_some, hsum, hcv, ob_some, c248]
                    refine cnd_intro (fun g5 => ?_) (fun g5 => ?_)
                    · have := hq H he
                      simp only [g5, if_true] at this
                      exact this
                    · have := push [d, x, y] r (UInt8.ofNat (16 * a + b)) H ((pre.length + 4 : Nat) : Int) rfl rfl he ho (fun H2 hh => by
                        have := hq H2 hh
                        simp only [g5, Bool.false_eq_true, if_false] at this
                        exact this)
                      simp only [i_add, ob_some, h4]
                      exact this
          by_cases g3 : d.toNat = 39
          · rw [decide_eq_true g3, cnd_t]
            exact j71 true (by simp [g3])
          · rw [decide_eq_false g3, cnd_f, ob_some, e92, ob_some]
            exact j71 _ (by simp [g3])
  rw [f183_eq]
  cases l with
  | nil =>
    have : binA Pg .eql 9 true (S (bs [])) (S ⟨#[]⟩) = some (B true) := by rw [s_eql]; rfl
    rw [this, ob_some, cnd_t, f183_j5_eq, cnd_t]
    exact hq H0 (HExt.refl H0)
  | cons c r =>
    rw [s_ne, ob_some, cnd_f, ix0, ob_some]
    have n39 : binA Pg .neq 5 true (U8 c.toNat) (AV.raw (.int .u8 39)) = some (B (!decide (c.toNat = 39))) := by
      refine (k_neq (P := Pg) (k := .u8) 5 true (c.toNat : Int) 39).trans ?_
      by_cases h : c.toNat = 39
      · have h' : (c.toNat : Int) = 39 := by omega
        simp [h, h']
      · have h' : ¬ (c.toNat : Int) = 39 := by omega
        simp [h, h']
    rw [n39, ob_some, f183_j5_eq]
    refine cnd_intro (fun g => ?_) (fun g => ?_)
    · have g : ¬ c.toNat = 39 := by simpa using g
      have := hq H0 (HExt.refl H0)
      simp only [unq, if_neg g] at this
      exact this
    · have g : c.toNat = 39 := by simpa using g
      have := loop r.length r [c] [] 0 true .full H0 (Nat.le_refl _) rfl (HExt.refl H0) (.inl rfl) trivial (by simp) (fun H' h' => by
        have := hq H' h'
        simp only [unq, g, if_true] at this
        exact this)
      exact this
end Go.Hx
namespace Go.Hx
theorem c107 {s : ByteArray} {pre r : List UInt8} {c : UInt8} (e : tx s = pre ++ c :: r) (hsz : s.size ≤ 1099511627776) (H0 : Heap) (Q : Post) (hq : ∀ H', HExt H0 H' → Q (nextV pre.length (lex1 (c :: r))) H') : E 107 [S s, I pre.length] H0 Q := by
  have hb := size_bound e
  simp only [List.length_cons] at hb
  have hix : ixA (S s) (I pre.length) = some (U8 c.toNat) := ixS s pre r c e
  have z : ([I 0, S ⟨#[]⟩, I 0] : List AV) = [I 0, S ⟨#[]⟩, I 0] := rfl
  -- words, names, numbers
  have bad : ∀ (x8 x13 : AV) (H : Heap), HExt H0 H → lex1 (c :: r) = .bad 0 4 → f107_j54 (S s) (I pre.length) [I 0, S ⟨#[]⟩, I 0] x8 x13 (B true) H Q := fun x8 x13 H he hL => by
    have := hq H he
    rw [hL] at this
    rw [f107_j54_eq, cnd_t]
    simp only [zK_b, ob_some, zK_sz, zK_sp, zK_pt]
    exact this
  have good : ∀ (k n : Nat) (w : List UInt8) (H : Heap), HExt H0 H → n ≤ (c :: r).length → w = (c :: r).take n → lex1 (c :: r) = .tok (k : Int) w n → f107_j54 (S s) (I pre.length) [I 0, S ⟨#[]⟩, I 0] (I k) (I n) (B false) H Q := fun k n w H he hn hw hL => by
    have := hq H he
    rw [hL] at this
    simp only [List.length_cons] at hn
    have hadd : W64 ((pre.length : Int) + (n : Int)) = ((pre.length + n : Nat) : Int) := w64_add (by omega)
    have hs := slS_mid e (n := n) (by simpa using hn)
    rw [← hw] at hs
    have hbd : bldA [(0, 1, I (k : Int)), (1, 1, S (bs w)), (2, 1, I pre.length)] [I 0, S ⟨#[]⟩, I 0] = some (encK ⟨k, bs w, pre.length⟩) := rfl
    rw [f107_j54_eq, cnd_f, i_add, ob_some, hadd, hs, ob_some, hbd, ob_some]
    simp only [ob_some, encK_sz, encK_sp, encK_pt]
    exact this
  have j49 : ∀ (k : Nat) (H : Heap), HExt H0 H → (k = 1 ∧ uppB c = true) ∨ (k = 2 ∧ uppB c = false ∧ lowB c = true) ∨ (k = 3 ∧ uppB c = false ∧ lowB c = false ∧ digB c = true) → c.toNat ≠ 39 → f107_j49 (S s) (I pre.length) [I 0, S ⟨#[]⟩, I 0] (U8 c.toNat) (I k) H Q := fun k H he hk h39 => by
    have hk' : k = 1 ∨ k = 2 ∨ k = 3 := by omega
    have htl := tw_le (kindP k) (c :: r)
    have htk : (c :: r).takeWhile (kindP k) = (c :: r).take ((c :: r).takeWhile (kindP k)).length := (tw_take _ _).symm
    rw [f107_j49_eq, c185 k hk' e hsz]
    generalize hw : (c :: r).takeWhile (kindP k) = w at htl htk
    rw [i_eql, ob_some]
    by_cases k3 : k = 3
    · subst k3
      obtain ⟨hu, hl, hd⟩ : uppB c = false ∧ lowB c = false ∧ digB c = true := by rcases hk with ⟨h, _⟩ | ⟨h, _⟩ | ⟨_, h⟩; omega; omega; exact h
      have hL : lex1 (c :: r) = if 19 < w.length ∨ (1 < w.length ∧ c.toNat = 48) then .bad 0 4 else .tok 3 w w.length := by
        simp only [lex1, if_neg h39, hu, hl, hd, Bool.false_eq_true, if_false, if_true, intT]
        have hw' : (c :: r).takeWhile digB = w := hw
        rw [hw']
        simp
      rw [show decide (((3 : Nat) : Int) = 3) = true from rfl, cnd_t, i_gtr, ob_some]
      by_cases g1 : 19 < w.length
      · rw [decide_eq_true (by omega : (19 : Int) < (w.length : Int)), cnd_t, f107_c19_12a_eq, f107_c19_13a_eq, f107_c19_14a_eq, f107_c19_21a_eq]
        exact bad _ _ H he (by rw [hL, if_pos (.inl g1)])
      rw [decide_eq_false (by omega : ¬ (19 : Int) < (w.length : Int)), cnd_f, i_gtr, ob_some]
      have n3 : (!decide (((3 : Nat) : Int) = 3)) = false := rfl
      by_cases g2 : 1 < w.length
      · have e48 : binA Pg .eql 5 true (U8 c.toNat) (AV.raw (.int .u8 48)) = some (B (decide (c.toNat = 48))) := b_eq39 c 48 5 true
        rw [decide_eq_true (by omega : (1 : Int) < (w.length : Int)), cnd_t, e48, ob_some, f107_c19_12b_eq, f107_c19_13b_eq, f107_c19_14b_eq]
        by_cases g3 : c.toNat = 48
        · rw [decide_eq_true g3, cnd_t, f107_c19_21a_eq]
          exact bad _ _ H he (by rw [hL, if_pos (.inr ⟨g2, g3⟩)])
        · rw [decide_eq_false g3, cnd_f, i_neq, ob_some, n3, cnd_f, f107_c19_21c_eq]
          exact good 3 _ w H he htl htk (by rw [hL, if_neg (by omega)]; rfl)
      · rw [decide_eq_false (by omega : ¬ (1 : Int) < (w.length : Int)), cnd_f, f107_c19_12c_eq, f107_c19_13c_eq, f107_c19_14c_eq, i_neq, ob_some, n3, cnd_f, f107_c19_21c_eq]
        exact good 3 _ w H he htl htk (by rw [hL, if_neg (by omega)]; rfl)
    · have hL : lex1 (c :: r) = if 32 < w.length then .bad 0 4 else .tok (k : Int) w w.length := by
        rcases hk with ⟨rfl, hu⟩ | ⟨rfl, hu, hl⟩ | ⟨h, _⟩
        · have hw' : (c :: r).takeWhile uppB = w := hw
          simp only [lex1, if_neg h39, hu, if_true, wordT, hw']
          rfl
        · have hw' : (c :: r).takeWhile signB = w := hw
          simp only [lex1, if_neg h39, hu, hl, Bool.false_eq_true, if_false, if_true, wordT, hw']
          rfl
        · exact (k3 h).elim
      have n3 : (!decide ((k : Int) = 3)) = true := by rw [decide_eq_false (by omega)]; rfl
      rw [decide_eq_false (by omega : ¬ (k : Int) = 3), cnd_f, f107_c19_12d_eq, f107_c19_13d_eq, f107_c19_14c_eq, i_neq, ob_some, n3, cnd_t, i_gtr, ob_some, f107_c19_21b_eq]
      by_cases g1 : 32 < w.length
      · rw [decide_eq_true (by omega : (32 : Int) < (w.length : Int))]
        exact bad _ _ H he (by rw [hL, if_pos g1])
      · rw [decide_eq_false (by omega : ¬ (32 : Int) < (w.length : Int))]
        exact good k _ w H he htl htk (by rw [hL, if_neg g1])
  have h39 : ∀ {p : Prop}, (p → c.toNat ≠ 39) → p → c.toNat ≠ 39 := fun h hp => h hp
  rw [f107_eq, hix, ob_some, c180]
  cases hu : uppB c with
  | true =>
    rw [cnd_t]
    exact j49 1 H0 (HExt.refl H0) (.inl ⟨rfl, hu⟩) (by
      have : uppI (c.toNat : Nat) = true := hu
      simp only [uppI, Bool.and_eq_true, decide_eq_true_eq] at this; omega)
  | false =>
    rw [cnd_f, c181]
    cases hl : lowB c with
    | true =>
      rw [cnd_t]
      exact j49 2 H0 (HExt.refl H0) (.inr (.inl ⟨rfl, hu, hl⟩)) (by
        have : lowI (c.toNat : Nat) = true := hl
        simp only [lowI, Bool.and_eq_true, decide_eq_true_eq] at this; omega)
    | false =>
      rw [cnd_f, c182]
      cases hd : digB c with
      | true =>
        rw [cnd_t]
        exact j49 3 H0 (HExt.refl H0) (.inr (.inr ⟨rfl, hu, hl, hd⟩)) (by
          have := digB_iff.1 hd; omega)
      | false =>
        have e39 : binA Pg .eql 5 true (U8 c.toNat) (AV.raw (.int .u8 39)) = some (B (decide (c.toNat = 39))) := b_eq39 c 39 5 true
        rw [cnd_f, e39, ob_some]
        by_cases g : c.toNat = 39
        · have hL : lex1 (c :: r) = match unq (c :: r) with | .ok s n => .tok 4 s n | .bad n e => .bad n e := by simp only [lex1, if_pos g] <;> cases unq (c :: r) <;> rfl
          rw [decide_eq_true g, cnd_t, slS_from e, ob_some]
          refine c183 (c :: r) (by simp only [List.length_cons]; omega) H0 _ (fun H1 h1 => ?_)
          have hq := hq H1 h1
          rw [hL] at hq
          cases hx : unq (c :: r) with
          | ok w n =>
            rw [hx] at hq
            have hn := unq_len hx
            simp only [List.length_cons] at hn
            have hadd : W64 ((pre.length : Int) + (n : Int)) = ((pre.length + n : Nat) : Int) := w64_add (by omega)
            have hbd : bldA [(0, 1, I 4), (1, 1, S (bs w)), (2, 1, I pre.length)] [I 0, S ⟨#[]⟩, I 0] = some (encK ⟨4, bs w, pre.length⟩) := rfl
            have h0 : (!decide ((0 : Int) = 0)) = false := rfl
            simp only [uqV, x3_0, x3_1, x3_2, ob_some, i_neq, decide_true, Bool.not_true, cnd_f, hbd, i_add, hadd, encK_sz, encK_sp, encK_pt]
            exact hq
          | bad n er =>
            rw [hx] at hq
            have hn := unq_bad' hx
            simp only [List.length_cons] at hn
            have hadd : W64 ((pre.length : Int) + (n : Int)) = ((pre.length + n : Nat) : Int) := w64_add (by omega)
            simp only [uqV, x3_0, x3_1, x3_2, ob_some, i_neq, decide_eq_false hn.2, Bool.not_false, cnd_t, zK_b, i_add, hadd, zK_sz, zK_sp, zK_pt]
            exact hq
        · have hL : lex1 (c :: r) = signF (c :: r) := by simp only [lex1, if_neg g, hu, hl, hd, Bool.false_eq_true, if_false]
          have hq := hq H0 (HExt.refl H0)
          rw [hL] at hq
          have hD : signF (c :: r) = if signD (c :: r) = [] then .bad 0 4 else .tok 5 (signD (c :: r)) (signD (c :: r)).length := by
            cases hf : signW.find? (pre? (c :: r)) with
            | none =>
              have h1 : signD (c :: r) = [] := by simp only [signD, hf]; rfl
              rw [h1, if_pos rfl]; simp only [signF, hf]
            | some w =>
              have hm := List.mem_of_find?_eq_some hf
              have : ∀ w ∈ signW, w ≠ [] := by decide
              have h1 : signD (c :: r) = w := by simp only [signD, hf]; rfl
              rw [h1, if_neg (this w hm)]; simp only [signF, hf]
          have hlen : (signD (c :: r)).length ≤ 2 := by
            simp only [signD]
            cases hf : signW.find? (pre? (c :: r)) with
            | none => simp
            | some w =>
              have hm := List.mem_of_find?_eq_some hf
              have : ∀ w ∈ signW, w.length ≤ 2 := by decide
              exact this w hm
          rw [hD] at hq
          have hnil : ∀ w : List UInt8, binA Pg .eql 9 true (S (bs w)) (S ⟨#[]⟩) = some (B (decide (w = []))) := fun w => by
            rw [s_eql]
            refine congrArg _ (congrArg _ ?_)
            by_cases h : w = []
            · rw [h]; rfl
            · rw [decide_eq_false h]
              exact decide_eq_false (fun h' => h (bs_inj.1 (show bs w = bs [] from h')))
          rw [decide_eq_false g, cnd_f, c184 e hsz, hnil, ob_some]
          generalize signD (c :: r) = w at hq hlen
          by_cases gw : w = []
          · rw [if_pos gw] at hq
            rw [decide_eq_true gw, cnd_t]
            simp only [zK_b, ob_some, zK_sz, zK_sp, zK_pt]
            exact hq
          · rw [if_neg gw] at hq
            have hadd : W64 ((pre.length : Int) + (w.length : Int)) = ((pre.length + w.length : Nat) : Int) := w64_add (by omega)
            have hbd : bldA [(0, 1, I 5), (1, 1, S (bs w)), (2, 1, I pre.length)] [I 0, S ⟨#[]⟩, I 0] = some (encK ⟨5, bs w, pre.length⟩) := rfl
            rw [decide_eq_false gw, cnd_f, hbd, ob_some, len_S, ob_some, bs_size, i_add, ob_some, hadd]
            simp only [ob_some, encK_sz, encK_sp, encK_pt]
            exact hq
theorem c48 (s : ByteArray) (hsz : s.size ≤ 1099511627776) (H0 : Heap) (Q : Post) (hq : ∀ v H', allV s.size v (lexA s) → HExt H0 H' → Q v H') : E 48 [S s] H0 Q := by
  rw [f48_eq, len_S, ob_some, i_gtr, ob_some]
  refine cnd_intro (fun h1 => ?_) (fun h1 => ?_)
  · refine hq _ H0 ?_ (HExt.refl H0)
    rw [lexA, if_pos (by simp at h1; omega)]; rfl
  have hsz2 : s.size ≤ 8192 := by simp at h1; omega
  have hq : ∀ v H', allV s.size v (lexW 0 (tx s)) → HExt H0 H' → Q v H' := by rw [lexA, if_neg (by omega)] at hq; exact hq
  have loop : ∀ (m : Nat) (r pre : List UInt8) (out : List Tk) (s' : Nat) (n' : Bool) (t' : Tip) (H : Heap), r.length ≤ m → HExt H0 H → tx s = pre ++ r → (n' = true ∨ s' = 3) → OwnS H0 H 3 out.length t' → out.length ≤ pre.length →
      (∀ v H', allV s.size v (match lexW pre.length r with | .error x => .error x | .ok l => .ok (out ++ l)) → HExt H0 H' → Q v H') → f48_l16 (S s) (.sl s' n' t' (out.map encK)) (I pre.length) H Q := by
    intro m
    induction m with
    | zero =>
      intro r pre out s' n' t' H hm he e hn ho hol hq
      have hr : r = [] := List.eq_nil_of_length_eq_zero (by omega)
      subst hr
      have hb := size_bound e
      have hp : pre.length = s.size := by simpa using hb
      have hlt : decide ((pre.length : Int) < (s.size : Int)) = false := decide_eq_false (by omega)
      have hbd : bldA [(0, 1, I 6), (2, 1, I s.size)] [I 0, S ⟨#[]⟩, I 0] = some (encK ⟨6, e0, s.size⟩) := rfl
      have hmk : mkSlA 3 [encK ⟨6, e0, s.size⟩] = some (.sl 3 false .full [encK ⟨6, e0, s.size⟩]) := rfl
      rw [f48_l16_eq]
      simp only [len_S, ob_some, i_lss, hlt, cnd_f, hbd, hmk]
      refine app_obj (bytes := 32) (xs := out.map encK) (ys := [encK ⟨6, e0, s.size⟩]) he (by rw [List.length_map]; exact ho) hn (by omega) (by simp only [List.length_map, List.length_singleton]; omega) (fun s2 n2 t2 H2 hn2 e2 _ ho2 => ?_)
      refine hq _ H2 ?_ e2
      rw [lexW, hp]
      exact ⟨s2, n2, t2, by simp, hn2⟩
    | succ m ih =>
      intro r pre out s' n' t' H hm he e hn ho hol hq
      cases r with
      | nil => exact ih [] pre out s' n' t' H (by simp) he e hn ho hol hq
      | cons c r =>
        have hb := size_bound e
        simp only [List.length_cons] at hb hm
        have hlt : decide ((pre.length : Int) < (s.size : Int)) = true := decide_eq_true (by omega)
        have hix : ixA (S s) (I pre.length) = some (U8 c.toNat) := ixS s pre r c e
        rw [f48_l16_eq, len_S, ob_some, i_lss, ob_some, hlt, cnd_t, hix, ob_some, c106]
        cases hbl : blankB c with
        | true =>
          rw [cnd_t, i_add, ob_some, w64_succ (n := 1099511627776) (by omega) (by omega)]
          have := ih r (pre ++ [c]) out s' n' t' H (by omega) he (by rw [e]; simp) hn ho (by simp; omega) (fun v H' hv h' => by
            refine hq v H' ?_ h'
            rw [lexW, if_pos hbl]
            rw [List.length_append, List.length_singleton] at hv; exact hv)
          rw [List.length_append, List.length_singleton] at this
          exact this
        | false =>
          rw [cnd_f]
          refine c107 e hsz H _ (fun H2 h2 => ?_)
          have he2 := he.trans h2
          cases hL : lex1 (c :: r) with
          | bad n er =>
            have hn := lex1_bad hL
            simp only [nextV, x3_0, x3_1, x3_2, ob_some, zK_sz, zK_sp, i_neq, decide_eq_false hn.2, Bool.not_false, cnd_t]
            refine hq _ H2 ?_ he2
            rw [lexW, if_neg (by rw [hbl]; decide)]
            simp only [hL]
            rfl
          | tok k w n =>
            have hn1 := lex1_len hL
            have es := encK_sz ⟨k, bs w, pre.length⟩
            have ep := encK_sp ⟨k, bs w, pre.length⟩
            have et := encK_pt ⟨k, bs w, pre.length⟩
            have hmk : mkSlA 3 [encK ⟨k, bs w, pre.length⟩] = some (.sl 3 false .full [encK ⟨k, bs w, pre.length⟩]) := rfl
            simp only [nextV, x3_0, x3_1, x3_2, ob_some, es, ep, i_neq, decide_true, Bool.not_true, cnd_f, et, hmk]
            refine app_obj (bytes := 32) (xs := out.map encK) (ys := [encK ⟨k, bs w, pre.length⟩]) he2 (by rw [List.length_map]; exact ho.ext h2) hn (by omega) (by simp only [List.length_map, List.length_singleton]; omega) (fun s3 n3 t3 H3 hn3 e3 hobj ho3 => ?_)
            have hxs : out.map encK ++ [encK ⟨k, bs w, pre.length⟩] = (out ++ [(⟨k, bs w, pre.length⟩ : Tk)]).map encK := by simp
            rw [hxs] at ho3 ⊢
            rw [List.length_map] at ho3
            have hdr : (c :: r).drop n = r.drop (n - 1) := by
              obtain ⟨j, rfl⟩ : ∃ j, n = j + 1 := ⟨n - 1, by omega⟩
              simp
            have hsp : c :: r = (c :: r).take n ++ r.drop (n - 1) := by rw [← hdr, List.take_append_drop]
            have hpl : (pre ++ (c :: r).take n).length = pre.length + n := by rw [List.length_append, List.length_take]; omega
            have := ih (r.drop (n - 1)) (pre ++ (c :: r).take n) (out ++ [(⟨k, bs w, pre.length⟩ : Tk)]) s3 n3 t3 H3 (by simp only [List.length_drop]; omega) e3 (by rw [List.append_assoc, ← hsp]; exact e) hn3 ho3 (by rw [hpl, List.length_append, List.length_singleton]; omega) (fun v H5 hv h5 => by
              refine hq v H5 ?_ h5
              rw [lexW, if_neg (by rw [hbl]; decide)]
              simp only [hL]
              rw [hpl] at hv
              cases hx : lexW (pre.length + n) (r.drop (n - 1)) with
              | error x => rw [hx] at hv; exact hv
              | ok l => rw [hx] at hv; simpa using hv)
            rw [hpl] at this
            exact this
  have := loop (tx s).length (tx s) [] [] 0 true .full H0 (Nat.le_refl _) (HExt.refl H0) rfl (.inl rfl) trivial (by simp) (fun v H3 hv h3 => by
    refine hq v H3 ?_ h3
    cases hx : lexW 0 (tx s) with
    | error x => rw [show lexW ([] : List UInt8).length (tx s) = lexW 0 (tx s) from rfl, hx] at hv; exact hv
    | ok l => rw [show lexW ([] : List UInt8).length (tx s) = lexW 0 (tx s) from rfl, hx] at hv; simpa using hv)
  exact this
theorem c17 (s : ByteArray) (hsz : s.size ≤ 1099511627776) (H0 : Heap) (Q : Post) (hq : ∀ v H', newV v H' s.size (lexA s) → HExt H0 H' → (∀ b w, v = .tup [Pt b, w, I 0] → H0.fresh b) → Q v H') : E 17 [S s] H0 Q := by
  rw [f17_eq]
  refine c48 s hsz H0 _ (fun v H1 hv h1 => ?_)
  cases hl : lexA s with
  | error x =>
    obtain ⟨p, e⟩ := x
    rw [hl] at hv hq
    have hv : v = .tup [.sl 0 true .full [], I p, I e] := hv
    subst hv
    have hne : decide (e = 0) = false := decide_eq_false (lexA_bad hl).2
    simp only [x3_0, x3_1, x3_2, ob_some, i_neq, hne, Bool.not_false, cnd_t]
    exact hq _ H1 rfl h1 (fun b w h => by cases h)
  | ok l =>
    rw [hl] at hv hq
    obtain ⟨s', n', t', rfl, hn⟩ := hv
    have hbd : bldA [(0, 1, .sl s' n' t' (l.map encK))] [.sl 0 true .full [], I 0] = some (.agg [.sl s' n' t' (l.map encK), I 0]) := rfl
    have hsd : sizedA 2 (.agg [.sl s' n' t' (l.map encK), I 0]) = some [.sl s' n' t' (l.map encK), I 0] := rfl
    simp only [x3_0, x3_1, x3_2, ob_some, i_neq, decide_true, Bool.not_true, cnd_f, hbd, hsd]
    intro b hb
    have := lexA_len hl
    refine hq _ _ ⟨b, rfl, l, 0, s', n', t', setObj_same _ _ _, rfl, by omega⟩ (h1.setObj (h1.fresh hb) _) (fun b' w h => ?_)
    have : b = b' := by
      have : Pt b = Pt b' := by injection h with h; injection h
      simpa [Pt] using this
    exact this ▸ h1.fresh hb
/-! ### The reader -/
theorem c45 {b : Nat} {r : List Tk} {t : Tk} {H : Heap} (h : RS b (t :: r) H) (Q : Post) : E 45 [Pt b] H Q = Q (encK t) H := by
  obtain ⟨L, i, h1, e⟩ := RS_RI.1 h
  have hg := h1.get e
  obtain ⟨⟨s', n', t', ho⟩, hL⟩ := h1
  have hx : (L.map encK)[i]? = some (encK t) := by rw [List.getElem?_map, hg.1]; rfl
  have hw : W64 ((L.length : Int) - 1) = ((L.length - 1 : Nat) : Int) := by rw [w64_id (by omega) (by omega)]; omega
  have hm : min (i : Int) ((L.length - 1 : Nat) : Int) = (i : Int) := by omega
  rw [f45_eq]
  simp only [nil_Pt, ob_some, add_Pt, ld_off ho, part_f, List.getElem?_cons_zero, List.getElem?_cons_succ, len_sl, List.length_map, i_sub, hw, min_I, hm, ix_mk 3 n' t' (L.map encK) i hx (encK_sz t), encK_pt, encK_sz, encK_sp]
theorem c22 {b : Nat} {r : List Tk} {H : Heap} (h : RS b r H) (he : r ≠ []) (Q : Post) : E 22 [Pt b] H Q = Q (I (posn r)) H := by
  cases r with
  | nil => exact (he rfl).elim
  | cons t r => rw [f22_eq, c45 h, fK2]; rfl
theorem c219 {b : Nat} {r : List Tk} {t : Tk} {H : Heap} (h : RS b (t :: r) H) (hk : t.k ≠ 6) (Q : Post) (hq : ∀ o, RS b r (H.setObj b o) → Q (encK t) (H.setObj b o)) : E 219 [Pt b] H Q := by
  obtain ⟨L, i, h1, e⟩ := RS_RI.1 h
  have hg := h1.get e
  obtain ⟨o, ho, h'⟩ := h1.set (i + 1)
  obtain ⟨⟨s', n', t', h1⟩, h2⟩ := h1
  rw [f219_eq, c45 h]
  have hb : binA Pg .neq 3 true (I t.k) (I 6) = some (B true) := by rw [i_neq, decide_eq_false hk]; rfl
  simp only [encK_sz, encK_sp, ob_some, part_f, List.getElem?_cons_zero, hb, cnd_t, nil_Pt, add_Pt, ld_off h1, List.getElem?_cons_succ, i_add]
  rw [w64_succ hg.2.1 (by omega), ho, ob_some, f219_j10_eq]
  simp only [encK_pt, encK_sz, encK_sp, ob_some]
  exact hq o (RS_RI.2 ⟨L, i + 1, h', hg.2.2⟩)
theorem c142 {b : Nat} {r : List Tk} {H : Heap} (k : Int) (s : ByteArray) (hk : k ≠ 6) (h : RS b r H) (he : r ≠ []) (Q : Post) (h0 : nextIs k s r = false → Q (B false) H)
    (h1 : ∀ t r1 o, r = t :: r1 → nextIs k s r = true → RS b r1 (H.setObj b o) → Q (B true) (H.setObj b o)) : E 142 [Pt b, I k, S s] H Q := by
  cases r with
  | nil => exact (he rfl).elim
  | cons t r =>
    rw [f142_eq, c45 h]
    simp only [encK_sz, encK_sp, ob_some, part_f, List.getElem?_cons_zero, List.getElem?_cons_succ, i_neq, s_neq]
    by_cases hk1 : t.k = k
    · rw [decide_eq_true hk1, Bool.not_true, cnd_f, f142_j7_eq]
      by_cases hs1 : t.s = s
      · rw [decide_eq_true hs1, Bool.not_true, cnd_f]
        exact c219 h (hk1 ▸ hk) _ (fun o h2 => h1 t r o rfl (by simp [nextIs, hk1, hs1]) h2)
      · rw [decide_eq_false hs1, Bool.not_false, cnd_t]
        exact h0 (by simp [nextIs, hs1])
    · rw [decide_eq_false hk1, Bool.not_false, cnd_t, f142_j7_eq, cnd_t]
      exact h0 (by simp [nextIs, hk1])
theorem c68 {b : Nat} {r : List Tk} {H : Heap} (s : ByteArray) (h : RS b r H) (he : r ≠ []) (Q : Post) (h0 : nextIs 1 s r = false → Q (B false) H)
    (h1 : ∀ t r1 o, r = t :: r1 → nextIs 1 s r = true → RS b r1 (H.setObj b o) → Q (B true) (H.setObj b o)) : E 68 [Pt b, S s] H Q := by
  rw [f68_eq]; exact c142 1 s (by decide) h he _ h0 h1
theorem c139 {b : Nat} {r : List Tk} {H : Heap} (s : ByteArray) (h : RS b r H) (he : r ≠ []) (Q : Post) (h0 : nextIs 5 s r = false → Q (B false) H)
    (h1 : ∀ t r1 o, r = t :: r1 → nextIs 5 s r = true → RS b r1 (H.setObj b o) → Q (B true) (H.setObj b o)) : E 139 [Pt b, S s] H Q := by
  rw [f139_eq]; exact c142 5 s (by decide) h he _ h0 h1
theorem c153 {b : Nat} {r : List Tk} {H : Heap} (h : RS b r H) (he : r ≠ []) (Q : Post) (h0 : kindN r ≠ 2 → Q (.tup [S e0, B false]) H)
    (h1 : ∀ t r1 o, r = t :: r1 → t.k = 2 → RS b r1 (H.setObj b o) → Q (.tup [S t.s, B true]) (H.setObj b o)) : E 153 [Pt b] H Q := by
  cases r with
  | nil => exact (he rfl).elim
  | cons t r =>
    rw [f153_eq, c45 h]
    simp only [encK_sz, encK_sp, ob_some, part_f, List.getElem?_cons_zero, List.getElem?_cons_succ, i_neq]
    by_cases hk : t.k = 2
    · rw [decide_eq_true hk, Bool.not_true, cnd_f]
      exact c219 h (by omega) _ (fun o h2 => h1 t r o rfl hk h2)
    · rw [decide_eq_false hk, Bool.not_false, cnd_t]
      exact h0 hk
end Go.Hx
namespace Go.Hx
theorem encX_mk (k : Int) (v : Vl) (var fld : ByteArray) (s : Nat) (n : Bool) (t : Tip) (l : List Ex) : encX (.mk k v var fld s n t l) = .agg [I k, I v.k, I v.n, S v.s, S var, S fld, .sl s n t (l.map encX)] := by
  rw [encX, encC_eq]; rfl
def shX (x : Ex) : Prop := x.nil = true ∨ x.sz = 7
theorem allX_mk {p : Ex → Prop} (k : Int) (v : Vl) (a b : ByteArray) (s : Nat) (n : Bool) (t : Tip) (l : List Ex) : allX p (.mk k v a b s n t l) ↔ p (.mk k v a b s n t l) ∧ allXs p l := by simp [allX]
theorem sh_leaf (k : Int) (v : Vl) (a b : ByteArray) (s : Nat) (t : Tip) : allX shX (.mk k v a b s true t []) := (allX_mk _ _ _ _ _ _ _ _).2 ⟨.inl rfl, trivial⟩
theorem parts_cons (k : Int) (x : Ex) (l : List Ex) : partsJ k (x :: l) = (if x.k = k then x.l else [x]) ++ partsJ k l := by simp [partsJ]
theorem parts_len (k : Int) (l : List Ex) : (partsJ k l).length ≤ sizeXs l := Nat.le_trans (len_sizeXs _) (sizeXs_parts k l)
theorem parts_norm (k : Int) (l : List Ex) : partsJ k (l.map norm) = (partsJ k l).map norm := by
  induction l with
  | nil => rfl
  | cons x l ih =>
    rw [List.map_cons, parts_cons, parts_cons, ih, List.map_append, norm_k, norm_l]
    split <;> rfl
theorem parts_sh {k : Int} {l : List Ex} (h : ∀ x ∈ l, allX shX x) : ∀ x ∈ partsJ k l, allX shX x := fun x hx => by
  simp only [partsJ, List.mem_flatMap] at hx
  obtain ⟨y, hy, hx⟩ := hx
  split at hx
  · exact allXs_mem ((allX_eq _ _).1 (h y hy)).2 hx
  · simp at hx; subst hx; exact h _ hy
theorem mk1X (x : Ex) : mkSlA 7 [encX x] = some (.sl 7 false .full ([x].map encX)) := by
  simp [mkSlA, szX]
theorem mk2X (x y : Ex) : mkSlA 7 [encX x, encX y] = some (.sl 7 false .full ([x, y].map encX)) := by
  simp [mkSlA, szX]
theorem q6X (x : Ex) : partA false 6 1 (encC x) = some (encXs x.sz x.nil x.tip x.l) := by rw [encC_eq]; rfl
theorem q0X (x : Ex) : partA false 0 1 (encC x) = some (I x.k) := by rw [encC_eq]; rfl
theorem constb (v : Vl) : bldA [(0, 1, I 1), (1, 3, encV v)] [I 0, I 0, I 0, S ⟨#[]⟩, S ⟨#[]⟩, S ⟨#[]⟩, AV.sl 0 true .full []] = some (encX (.mk 1 v e0 e0 0 true .full [])) := by rw [encX_mk]; rfl
theorem rowb (k : Int) (s : Nat) (n : Bool) (t : Tip) (l : List Ex) : bldA [(0, 1, I k), (6, 1, .sl s n t (l.map encX))] [I 0, I 0, I 0, S ⟨#[]⟩, S ⟨#[]⟩, S ⟨#[]⟩, AV.sl 0 true .full []] = some (encX (.mk k nullV e0 e0 s n t l)) := by rw [encX_mk]; rfl
theorem norm_mkl (k : Int) (v : Vl) (a b : ByteArray) (s : Nat) (n : Bool) (t : Tip) (l : List Ex) : norm (.mk k v a b s n t l) = nd k v a b (l.map norm) := norm_mk _ _ _ _ _ _ _ _
/-- what is made of all parts -/
theorem join_end {H0 H : Heap} {k : Int} (hk : k = 16 ∨ k = 17) {Q : Post} (l : List Ex) {s : Nat} {n : Bool} {t : Tip} (hn : n = true ∨ s = 7) (hsh : ∀ x ∈ partsJ k l, allX shX x)
    (hq : ∀ y H', HExt H0 H' → norm y = joinE k (l.map norm) → allX shX y → Q (encX y) H') (he : HExt H0 H) (out : List Ex) (ho : out = partsJ k l) :
    (out = [] → Q (encX (.mk 1 (boolV (decide (k = 16))) e0 e0 0 true .full [])) H) ∧ (∀ x, out = [x] → Q (encX x) H) ∧ (2 ≤ out.length → Q (encX (.mk k nullV e0 e0 s n t out)) H) := by
  subst ho
  have hj : joinE k (l.map norm) = match (partsJ k l).map norm with | [] => nd 1 (boolV (decide (k = 16))) e0 e0 [] | [x] => x | out => nd k nullV e0 e0 out := by
    rw [joinE, parts_norm]
    generalize (partsJ k l).map norm = z
    rcases z with _ | ⟨a, _ | ⟨b, r⟩⟩ <;> rfl
  refine ⟨fun h => ?_, fun x h => ?_, fun h => ?_⟩
  · refine hq _ H he ?_ (sh_leaf _ _ _ _ _ _)
    rw [hj, h, norm_mkl]; rfl
  · refine hq x H he ?_ (hsh x (by rw [h]; simp))
    rw [hj, h]; rfl
  · refine hq _ H he ?_ ((allX_mk _ _ _ _ _ _ _ _).2 ⟨hn, allXs_of hsh⟩)
    rw [hj, norm_mkl]
    cases hp : partsJ k l with
    | nil => rw [hp] at h; simp at h
    | cons a r =>
      cases r with
      | nil => rw [hp] at h; simp at h
      | cons b r => rfl
theorem c186 (k : Int) (hk : k = 16 ∨ k = 17) (l : List Ex) (s : Nat) (n : Bool) (t : Tip) (hsh : ∀ x ∈ l, allX shX x) (hl : sizeXs l ≤ 1099511627776) (H0 : Heap) (Q : Post)
    (hq : ∀ y H', HExt H0 H' → norm y = joinE k (l.map norm) → allX shX y → Q (encX y) H') : E 186 [I k, .sl s n t (l.map encX)] H0 Q := by
  have hr : isRowP k = true := by rcases hk with rfl | rfl <;> rfl
  have hll := len_sizeXs l
  have loop : ∀ (r pre : List Ex) (H : Heap) (s' : Nat) (n' : Bool) (t' : Tip), l = pre ++ r → HExt H0 H → (n' = true ∨ s' = 7) → OwnS H0 H 7 (partsJ k pre).length t' →
      f186_l16 (I k) [I 0, I 0, I 0, S ⟨#[]⟩, S ⟨#[]⟩, S ⟨#[]⟩, AV.sl 0 true .full []] (.sl s' n' t' ((partsJ k pre).map encX)) (.sl s n t (l.map encX)) (I l.length) (I pre.length) H Q := by
    intro r
    induction r with
    | nil =>
      intro pre H s' n' t' e he hn ho
      rw [List.append_nil] at e
      subst e
      obtain ⟨h0, h1, h2⟩ := join_end hk l hn (parts_sh hsh) hq he (partsJ k l) rfl (s := s') (n := n') (t := t')
      have hlt : decide ((l.length : Int) < (l.length : Int)) = false := decide_eq_false (by omega)
      rw [f186_l16_eq, i_lss, ob_some, hlt, cnd_f, len_sl, ob_some, List.length_map, i_eql, ob_some]
      cases hp : partsJ k l with
      | nil =>
        rw [List.length_nil, show decide (((0 : Nat) : Int) = 0) = true from rfl, cnd_t, i_eql, ob_some, c251, constb, ob_some, szX, ob_some, splX, ob_some, partX, ob_some]
        exact h0 hp
      | cons a r =>
        have z0 : decide (((a :: r).length : Int) = 0) = false := decide_eq_false (by simp; omega)
        rw [z0, cnd_f, i_eql, ob_some]
        cases r with
        | nil =>
          have i0 : ixaA 7 (.sl s' n' t' (([a] : List Ex).map encX)) (I 0) = some (encC a) := ixX [a] s' n' t' [] [] a rfl
          rw [show decide ((([a] : List Ex).length : Int) = 1) = true from rfl, cnd_t, i0, ob_some, partX, ob_some, szX, ob_some, splX, ob_some, partX, ob_some]
          exact h1 a hp
        | cons b r =>
          have z1 : decide (((a :: b :: r).length : Int) = 1) = false := decide_eq_false (by simp; omega)
          rw [z1, cnd_f, rowb, ob_some, szX, ob_some, splX, ob_some, partX, ob_some, ← hp]
          exact h2 (by rw [hp]; simp)
    | cons x r ih =>
      intro pre H s' n' t' e he hn ho
      have hlt : pre.length < l.length := by rw [e]; simp
      have hlt' : decide ((pre.length : Int) < (l.length : Int)) = true := decide_eq_true (by omega)
      have hsz : (partsJ k (pre ++ [x])).length ≤ 1099511627776 := by
        have h1 : partsJ k l = partsJ k (pre ++ [x]) ++ partsJ k r := by rw [e]; simp [partsJ]
        have h2 := parts_len k l
        rw [h1, List.length_append] at h2; omega
      have hpx : partsJ k (pre ++ [x]) = partsJ k pre ++ (if x.k = k then x.l else [x]) := by simp [partsJ]
      have hx : allX shX x := hsh x (by rw [e]; simp)
      have next : ∀ (s2 : Nat) (n2 : Bool) (t2 : Tip) (H2 : Heap), (n2 = true ∨ s2 = 7) → HExt H0 H2 → OwnS H0 H2 7 (partsJ k (pre ++ [x])).length t2 →
          f186_j32 (I k) [I 0, I 0, I 0, S ⟨#[]⟩, S ⟨#[]⟩, S ⟨#[]⟩, AV.sl 0 true .full []] (.sl s2 n2 t2 ((partsJ k (pre ++ [x])).map encX)) (.sl s n t (l.map encX)) (I l.length) (I pre.length) H2 Q := fun s2 n2 t2 H2 hn2 he2 ho2 => by
        rw [f186_j32_eq, i_add, ob_some, w64_succ hlt (by omega)]
        have := ih (pre ++ [x]) H2 s2 n2 t2 (by rw [e]; simp) he2 hn2 ho2
        rw [List.length_append, List.length_singleton] at this
        exact this
      rw [f186_l16_eq, i_lss, ob_some, hlt', cnd_t]
      have hix : ixaA 7 (.sl s n t (l.map encX)) (I pre.length) = some (encC x) := ixX l s n t pre r x e
      rw [hix, ob_some, partX, ob_some, szX, ob_some, splX, ob_some, q0X, ob_some, i_eql, ob_some]
      rw [hpx, List.length_append] at hsz
      refine cnd_intro (fun h1 => ?_) (fun h1 => ?_)
      · have h1 : x.k = k := by simpa using h1
        rw [if_pos h1] at hpx hsz
        rw [q6X, ob_some]
        refine app_many he (by rw [List.length_map]; exact ho) hn ((allX_eq _ _).1 hx).1 (by omega) (by simp only [List.length_map]; omega) (fun s2 n2 t2 H2 hn2 he2 ho2 => ?_)
        rw [← List.map_append, ← hpx] at ho2 ⊢
        rw [List.length_map] at ho2
        exact next s2 n2 t2 H2 hn2 he2 ho2
      · have h1 : x.k ≠ k := by simpa using h1
        rw [if_neg h1] at hpx hsz
        have hm := mk1X x
        rw [partX, ob_some, hm, ob_some]
        refine app_many he (by rw [List.length_map]; exact ho) hn (.inr rfl) (by omega) (by simp only [List.length_map]; omega) (fun s2 n2 t2 H2 hn2 he2 ho2 => ?_)
        rw [← List.map_append, ← hpx] at ho2 ⊢
        rw [List.length_map] at ho2
        exact next s2 n2 t2 H2 hn2 he2 ho2
  rw [f186_eq, c125, hr, not_B, ob_some, Bool.not_true, cnd_f, len_sl, ob_some, List.length_map]
  exact loop l [] H0 0 true .full rfl (HExt.refl H0) (.inl rfl) trivial
theorem c257 (b : Bool) (H : Heap) (Q : Post) : E 257 [B b] H Q = Q (encV (boolV b)) H := by
  cases b <;> simp [f257_eq, ob_some, cnd_t, cnd_f, bldA, sizedA, spliceA, partA, cellsA, I, encV, boolV]
theorem c189 (k : Int) (hk : k = 16 ∨ k = 17) (l : List Ex) (s : Nat) (n : Bool) (t : Tip) (hsh : ∀ x ∈ l, allX shX x) (hl : sizeXs l ≤ 1099511627776) (H0 : Heap) (Q : Post)
    (hq : ∀ y H', HExt H0 H' → norm y = joinE k (l.map norm) → allX shX y → Q (encX y) H') : E 189 [I k, .sl s n t (l.map encX)] H0 Q := by
  have hll := len_sizeXs l
  have loop : ∀ (r pre : List Ex) (H : Heap) (s' : Nat) (n' : Bool) (t' : Tip), l = pre ++ r → HExt H0 H → (n' = true ∨ s' = 7) → OwnS H0 H 7 (partsJ k pre).length t' →
      f189_l16 (I k) (.sl s n t (l.map encX)) [I 0, I 0, I 0, S ⟨#[]⟩, S ⟨#[]⟩, S ⟨#[]⟩, AV.sl 0 true .full []] (.sl s' n' t' ((partsJ k pre).map encX)) (I pre.length) H Q := by
    intro r
    induction r with
    | nil =>
      intro pre H s' n' t' e he hn ho
      rw [List.append_nil] at e
      subst e
      obtain ⟨h0, h1, h2⟩ := join_end hk l hn (parts_sh hsh) hq he (partsJ k l) rfl (s := s') (n := n') (t := t')
      have hlt : decide ((l.length : Int) < (l.length : Int)) = false := decide_eq_false (by omega)
      rw [f189_l16_eq, len_sl, ob_some, List.length_map, i_lss, ob_some, hlt, cnd_f, len_sl, ob_some, List.length_map, i_eql, ob_some]
      cases hp : partsJ k l with
      | nil =>
        rw [List.length_nil, show decide (((0 : Nat) : Int) = 1) = false from rfl, cnd_f, ob_some, i_eql, ob_some, show decide (((0 : Nat) : Int) = 0) = true from rfl, cnd_t, i_eql, ob_some, c257, constb, ob_some, szX, ob_some, splX, ob_some, partX, ob_some]
        exact h0 hp
      | cons a r =>
        cases r with
        | nil =>
          have i0 : ixaA 7 (.sl s' n' t' (([a] : List Ex).map encX)) (I 0) = some (encC a) := ixX [a] s' n' t' [] [] a rfl
          rw [show decide ((([a] : List Ex).length : Int) = 1) = true from rfl, cnd_t, i0, ob_some, partX, ob_some, szX, ob_some, splX, ob_some, partX, ob_some]
          exact h1 a hp
        | cons b r =>
          have z0 : decide (((a :: b :: r).length : Int) = 0) = false := decide_eq_false (by simp; omega)
          have z1 : decide (((a :: b :: r).length : Int) = 1) = false := decide_eq_false (by simp; omega)
          rw [z1, cnd_f, ob_some, i_eql, ob_some, z0, cnd_f, rowb, ob_some, szX, ob_some, splX, ob_some, partX, ob_some, ← hp]
          exact h2 (by rw [hp]; simp)
    | cons x r ih =>
      intro pre H s' n' t' e he hn ho
      have hlt : pre.length < l.length := by rw [e]; simp
      have hlt' : decide ((pre.length : Int) < (l.length : Int)) = true := decide_eq_true (by omega)
      have hsz : (partsJ k (pre ++ [x])).length ≤ 1099511627776 := by
        have h1 : partsJ k l = partsJ k (pre ++ [x]) ++ partsJ k r := by rw [e]; simp [partsJ]
        have h2 := parts_len k l
        rw [h1, List.length_append] at h2; omega
      have hpx : partsJ k (pre ++ [x]) = partsJ k pre ++ (if x.k = k then x.l else [x]) := by simp [partsJ]
      have hx : allX shX x := hsh x (by rw [e]; simp)
      have next : ∀ (s2 : Nat) (n2 : Bool) (t2 : Tip) (H2 : Heap), (n2 = true ∨ s2 = 7) → HExt H0 H2 → OwnS H0 H2 7 (partsJ k (pre ++ [x])).length t2 →
          f189_j30 (I k) (.sl s n t (l.map encX)) [I 0, I 0, I 0, S ⟨#[]⟩, S ⟨#[]⟩, S ⟨#[]⟩, AV.sl 0 true .full []] (.sl s2 n2 t2 ((partsJ k (pre ++ [x])).map encX)) (I pre.length) H2 Q := fun s2 n2 t2 H2 hn2 he2 ho2 => by
        rw [f189_j30_eq, i_add, ob_some, w64_succ hlt (by omega)]
        have := ih (pre ++ [x]) H2 s2 n2 t2 (by rw [e]; simp) he2 hn2 ho2
        rw [List.length_append, List.length_singleton] at this
        exact this
      have d6 : partA false 0 1 ((encC x).drop 6) = some (encXs x.sz x.nil x.tip x.l) := by rw [encC_eq]; rfl
      have hix : ixaA 7 (.sl s n t (l.map encX)) (I pre.length) = some (encC x) := ixX l s n t pre r x e
      rw [f189_l16_eq, len_sl, ob_some, List.length_map, i_lss, ob_some, hlt', cnd_t, hix, ob_some, List.drop_zero, q0X, ob_some, i_eql, ob_some]
      rw [hpx, List.length_append] at hsz
      refine cnd_intro (fun h1 => ?_) (fun h1 => ?_)
      · have h1 : x.k = k := by simpa using h1
        rw [if_pos h1] at hpx hsz
        rw [ob_some, d6, ob_some]
        refine app_many he (by rw [List.length_map]; exact ho) hn ((allX_eq _ _).1 hx).1 (by omega) (by simp only [List.length_map]; omega) (fun s2 n2 t2 H2 hn2 he2 ho2 => ?_)
        rw [← List.map_append, ← hpx] at ho2 ⊢
        rw [List.length_map] at ho2
        exact next s2 n2 t2 H2 hn2 he2 ho2
      · have h1 : x.k ≠ k := by simpa using h1
        rw [if_neg h1] at hpx hsz
        have hm := mk1X x
        rw [ob_some, partX, ob_some, hm, ob_some]
        refine app_many he (by rw [List.length_map]; exact ho) hn (.inr rfl) (by omega) (by simp only [List.length_map]; omega) (fun s2 n2 t2 H2 hn2 he2 ho2 => ?_)
        rw [← List.map_append, ← hpx] at ho2 ⊢
        rw [List.length_map] at ho2
        exact next s2 n2 t2 H2 hn2 he2 ho2
  have go : f189_j5 (I k) (.sl s n t (l.map encX)) [I 0, I 0, I 0, S ⟨#[]⟩, S ⟨#[]⟩, S ⟨#[]⟩, AV.sl 0 true .full []] (B false) H0 Q := by
    rw [f189_j5_eq, cnd_f]
    exact loop l [] H0 0 true .full rfl (HExt.refl H0) (.inl rfl) trivial
  rw [f189_eq, i_neq, ob_some]
  rcases hk with rfl | rfl
  · exact go
  · exact go
end Go.Hx
namespace Go.Hx
abbrev top47 : Nat := 140737488355328
def Prints (x : Ex) : Prop := ∀ (b : Nat) (H0 H : Heap) (t : List UInt8) (Q : Post), Bld H0 b t H → t.length + (bareT x).length ≤ 140737488355328 → (∀ H', Bld H0 b (t ++ bareT x) H' → Q (.tup []) H') → E 113 [Pt b, encX x] H Q
theorem c52 {x : Ex} (hx : Prints x) (need : Int) (b : Nat) (H0 H : Heap) (t : List UInt8) (Q : Post) (h : Bld H0 b t H) (hl : t.length + (exprT x need).length ≤ 140737488355328)
    (hq : ∀ H', Bld H0 b (t ++ exprT x need) H' → Q (.tup []) H') : E 52 [Pt b, encX x, I need] H Q := by
  rw [f52_eq, szX, ob_some, partX, ob_some, c112, i_geq, ob_some]
  simp only [exprT, parT] at hl hq
  refine cnd_intro (fun g => ?_) (fun g => ?_)
  · rw [if_pos (by simpa using g)] at hl hq
    rw [ob_some]
    exact hx b H0 H t _ h hl hq
  · rw [if_neg (by simpa using g)] at hl hq
    simp only [List.length_cons, List.length_append, List.length_nil] at hl
    simp only [nil_Pt, add0_Pt, ob_some]
    refine c114 b 40 H0 H t _ h (by omega) (fun _ H1 h1 => ?_)
    refine hx b H0 H1 (t ++ [40]) _ h1 (by simp only [List.length_append, List.length_singleton]; omega) (fun H2 h2 => ?_)
    refine c114 b 41 H0 H2 _ _ h2 (by simp only [List.length_append, List.length_singleton]; omega) (fun _ H3 h3 => ?_)
    exact hq H3 (by simpa using h3)
theorem c55 (sep : ByteArray) (need : Int) (sz : Nat) (nil : Bool) (tip : Tip) (l : List Ex) (hn : l.length ≤ 1099511627776) (hp : ∀ x ∈ l, Prints x) (b : Nat) (H0 H : Heap) (t : List UInt8) (Q : Post) (h : Bld H0 b t H)
    (hl : t.length + (joinT (tx sep) need (bareTs l)).length ≤ 140737488355328) (hq : ∀ H', Bld H0 b (t ++ joinT (tx sep) need (bareTs l)) H' → Q (.tup []) H') : E 55 [Pt b, encXs sz nil tip l, S sep, I need] H Q := by
  have loop : ∀ (r pre : List Ex) (t : List UInt8) (H : Heap), l = pre ++ r → pre ≠ [] → Bld H0 b t H → t.length + (joinR (tx sep) need (bareTs r)).length ≤ 140737488355328 → (∀ H', Bld H0 b (t ++ joinR (tx sep) need (bareTs r)) H' → Q (.tup []) H') →
      f55_l3 (Pt b) (S sep) (I need) (encXs sz nil tip l) (I l.length) (I pre.length) H Q := by
    intro r
    induction r with
    | nil =>
      intro pre t H e _ h hl hq
      have h1 : (pre.length : Int) = l.length := by rw [e]; simp
      rw [f55_l3_eq, i_lss, ob_some, cnd_B, h1]
      simp only [Int.lt_irrefl, decide_false, Bool.false_eq_true, if_false]
      exact hq H (by simpa [joinR, bareTs] using h)
    | cons x r ih =>
      intro pre t H e hne h hl hq
      have hlt : pre.length < l.length := by rw [e]; simp
      have hlt' : (pre.length : Int) < l.length := by omega
      have hp0 : 0 < pre.length := List.length_pos_iff.2 hne
      have hgt : decide ((0 : Int) < (pre.length : Int)) = true := by simp; omega
      simp only [bareTs, joinR, List.length_append] at hl hq
      rw [f55_l3_eq, i_lss, ob_some, cnd_B, if_pos (by simpa using hlt'), ixX l sz nil tip pre r x e, ob_some, partX, ob_some, szX, ob_some, splX, ob_some, i_gtr, ob_some, hgt, cnd_t, nil_Pt, ob_some, add0_Pt, ob_some]
      refine c118 b sep H0 H t _ h (by omega) (fun _ H1 h1 => ?_)
      rw [f55_j20_eq, partX, ob_some]
      refine c52 (hp x (by rw [e]; simp)) need b H0 H1 _ _ h1 (by simp only [List.length_append, exprT]; omega) (fun H2 h2 => ?_)
      rw [i_add, ob_some, w64_succ hlt (by omega)]
      have := ih (pre ++ [x]) _ H2 (by simp [e]) (by simp) h2 (by simp only [List.length_append, exprT]; omega) (fun H' h' => hq H' (by simpa [exprT] using h'))
      rw [List.length_append, List.length_singleton] at this
      exact this
  rw [f55_eq, lenX, ob_some]
  cases hc : l with
  | nil =>
    rw [hc] at hq
    rw [f55_l3_eq, i_lss, ob_some, cnd_B]
    simp only [List.length_nil, Int.natCast_zero, Int.lt_irrefl, decide_false, Bool.false_eq_true, if_false]
    exact hq H (by simpa [joinT, bareTs] using h)
  | cons x r =>
    rw [← hc]
    have hlt : 0 < l.length := by rw [hc]; simp
    have hlt' : (0 : Int) < l.length := by omega
    rw [hc] at hl hq
    simp only [bareTs, joinT, List.length_append] at hl hq
    have i1 : ixaA 7 (encXs sz nil tip l) (I 0) = some (encC x) := ixX l sz nil tip [] r x hc
    have h00 : decide ((0 : Int) < 0) = false := rfl
    rw [f55_l3_eq, i_lss, ob_some, cnd_B, if_pos (by simpa using hlt'), i1, ob_some, partX, ob_some, szX, ob_some, splX, ob_some, i_gtr, ob_some, h00, cnd_f, f55_j20_eq, partX, ob_some]
    refine c52 (hp x (by rw [hc]; simp)) need b H0 H t _ h (by simp only [exprT]; omega) (fun H2 h2 => ?_)
    rw [i_add, ob_some]
    have h1 : W64 ((0 : Int) + 1) = (([x].length : Nat) : Int) := rfl
    rw [h1]
    exact loop r [x] _ H2 (by simp [hc]) (by simp) h2 (by simp only [List.length_append, exprT]; omega) (fun H' h' => hq H' (by simpa [exprT] using h'))
theorem c194 {y : Ex} (hy : Prints y) (b : Nat) (H0 H : Heap) (t : List UInt8) (Q : Post) (h : Bld H0 b t H)
    (hl : t.length + (45 :: (if numP y = true then 40 :: (exprT y 1 ++ [41]) else exprT y 7) : List UInt8).length ≤ 140737488355328)
    (hq : ∀ H', Bld H0 b (t ++ 45 :: (if numP y = true then 40 :: (exprT y 1 ++ [41]) else exprT y 7)) H' → Q (.tup []) H') : E 194 [Pt b, encX y] H Q := by
  rw [f194_eq, szX, ob_some, nil_Pt, ob_some, add0_Pt, ob_some]
  simp only [List.length_cons] at hl
  refine c114 b 45 H0 H t _ h (by omega) (fun _ H1 h1 => ?_)
  rw [partX, ob_some, c192, x20, ob_some, x21, ob_some]
  have j9 : ∀ c : Bool, c = numP y → f194_j9 (Pt b) (encC y) (B c) H1 Q := fun c hc => by
    rw [f194_j9_eq]
    refine cnd_intro (fun g => ?_) (fun g => ?_)
    · have hn : numP y = true := by rw [← hc, g]
      rw [if_pos hn] at hl hq
      simp only [List.length_cons, List.length_append, List.length_nil] at hl
      rw [nil_Pt, ob_some, add0_Pt, ob_some]
      refine c114 b 40 H0 H1 _ _ h1 (by simp only [List.length_append, List.length_singleton]; omega) (fun _ H2 h2 => ?_)
      rw [partX, ob_some]
      refine c52 hy 1 b H0 H2 _ _ h2 (by simp only [List.length_append, List.length_singleton]; omega) (fun H3 h3 => ?_)
      refine c114 b 41 H0 H3 _ _ h3 (by simp only [List.length_append, List.length_singleton]; omega) (fun _ H4 h4 => ?_)
      exact hq H4 (by simpa using h4)
    · have hn : ¬ numP y = true := by rw [← hc, g]; simp
      rw [if_neg hn] at hl hq
      rw [partX, ob_some]
      exact c52 hy 7 b H0 H1 _ _ h1 (by simp only [List.length_append, List.length_singleton]; omega) (fun H3 h3 => hq H3 (by simpa using h3))
  refine cnd_intro (fun g => ?_) (fun g => ?_)
  · rw [i_geq, ob_some]
    exact j9 _ (by simp [numP, g])
  · exact j9 false (by simp [numP, g])
def signC : List AV := [S ⟨#[43]⟩, I 4, S ⟨#[45]⟩, I 5, S ⟨#[42]⟩, I 6, S ⟨#[47]⟩, I 7, S ⟨#[37]⟩, I 8, S ⟨#[61]⟩, I 9, S ⟨#[60, 62]⟩, I 10, S ⟨#[60]⟩, I 11, S ⟨#[60, 61]⟩, I 12, S ⟨#[62]⟩, I 13, S ⟨#[62, 61]⟩, I 14]
theorem c261 (H : Heap) (Q : Post) (hq : ∀ H', HExt H H' → Q (.agg signC) H') : E 261 [] H Q := by
  rw [f261_eq]
  intro b hb
  have b2 : ∀ (s : ByteArray) (n : Int), bldA [(0, 1, S s), (1, 1, I n)] [S e0, I 0] = some (.agg [S s, I n]) := fun _ _ => rfl
  simp only [b2, ob_some]
  have hb' : bldA [(0, 2, .agg [S ⟨#[43]⟩, I 4]), (2, 2, .agg [S ⟨#[45]⟩, I 5]), (4, 2, .agg [S ⟨#[42]⟩, I 6]), (6, 2, .agg [S ⟨#[47]⟩, I 7]), (8, 2, .agg [S ⟨#[37]⟩, I 8]), (10, 2, .agg [S ⟨#[61]⟩, I 9]), (12, 2, .agg [S ⟨#[60, 62]⟩, I 10]), (14, 2, .agg [S ⟨#[60]⟩, I 11]), (16, 2, .agg [S ⟨#[60, 61]⟩, I 12]), (18, 2, .agg [S ⟨#[62]⟩, I 13]), (20, 2, .agg [S ⟨#[62, 61]⟩, I 14])]
    [S e0, I 0, S e0, I 0, S e0, I 0, S e0, I 0, S e0, I 0, S e0, I 0, S e0, I 0, S e0, I 0, S e0, I 0, S e0, I 0, S e0, I 0] = some (.agg signC) := rfl
  rw [hb', ob_some]
  have o1 := setObj_same H b (.cells [S e0, I 0, S e0, I 0, S e0, I 0, S e0, I 0, S e0, I 0, S e0, I 0, S e0, I 0, S e0, I 0, S e0, I 0, S e0, I 0, S e0, I 0])
  have e1 : HExt H (H.setObj b (.cells [S e0, I 0, S e0, I 0, S e0, I 0, S e0, I 0, S e0, I 0, S e0, I 0, S e0, I 0, S e0, I 0, S e0, I 0, S e0, I 0, S e0, I 0])) := (HExt.refl H).setObj hb _
  simp only [Pt_def]
  generalize H.setObj b (.cells [S e0, I 0, S e0, I 0, S e0, I 0, S e0, I 0, S e0, I 0, S e0, I 0, S e0, I 0, S e0, I 0, S e0, I 0, S e0, I 0, S e0, I 0]) = H1 at o1 e1 ⊢
  have hs := st_agg o1 (xs := signC) rfl 22 rfl
  rw [hs, ob_some, ld_agg (setObj_same _ _ _) 22 rfl, ob_some]
  exact hq _ (e1.setObj hb _)
theorem sign_ix {j : Nat} (h : j < 11) (K : AV → Prop) (hk : K (S (opS j))) : ob (ixAgg 11 true 2 (.agg signC) (I j)) fun r13 => fldK false 0 1 r13 K := by
  match j, h with
  | 0, _ | 1, _ | 2, _ | 3, _ | 4, _ | 5, _ | 6, _ | 7, _ | 8, _ | 9, _ | 10, _ => exact hk
  | n + 11, h => exact absurd h (by omega)
theorem c195 {x y z : Ex} (hx : x.l = [y, z]) (h4 : 4 ≤ x.k) (h14 : x.k ≤ 14) (hy : Prints y) (hz : Prints z) (n1 n2 : Int) (b : Nat) (H0 H : Heap) (t : List UInt8) (Q : Post) (h : Bld H0 b t H)
    (hl : t.length + (exprT y n1 ++ ((32 :: (tx (opS (x.k - 4).toNat) ++ [32])) ++ exprT z n2)).length ≤ 140737488355328)
    (hq : ∀ H', Bld H0 b (t ++ (exprT y n1 ++ ((32 :: (tx (opS (x.k - 4).toNat) ++ [32])) ++ exprT z n2))) H' → Q (.tup []) H') : E 195 [Pt b, encX x, I n1, I n2] H Q := by
  simp only [List.length_append, List.length_cons, List.length_nil] at hl
  have i0 : ixaA 7 (encXs x.sz x.nil x.tip x.l) (I 0) = some (encC y) := ixX x.l x.sz x.nil x.tip [] [z] y hx
  have i1 : ixaA 7 (encXs x.sz x.nil x.tip x.l) (I 1) = some (encC z) := ixX x.l x.sz x.nil x.tip [y] [] z hx
  rw [f195_eq, szX, ob_some, part_f, p6X, ob_some, i0, ob_some, partX, ob_some]
  refine c52 hy n1 b H0 H t _ h (by omega) (fun H1 h1 => ?_)
  simp only [nil_Pt, add0_Pt, ob_some, part_f, p0X, i_sub]
  refine c261 H1 _ (fun H2 e2 => ?_)
  have hj : W64 (x.k - 4) = (((x.k - 4).toNat : Nat) : Int) := by rw [w64_id (by omega) (by omega)]; omega
  rw [hj]
  have hsl := sign_len (x.k - 4).toNat
  refine sign_ix (by omega) _ ?_
  have e32 : S ⟨#[32]⟩ = strT [32] := rfl
  rw [e32, strT_tx (opS (x.k - 4).toNat), s_add _ _ _ _ (by simp only [List.length_singleton]; omega), ob_some, s_add _ _ _ _ (by simp only [List.length_singleton, List.length_append]; omega), ob_some]
  refine c118 b ⟨([32] ++ tx (opS (x.k - 4).toNat) ++ [32]).toArray⟩ H0 H2 _ _ (h1.mono e2) (by rw [tx_str]; simp only [List.length_append, List.length_singleton]; omega) (fun _ H3 h3 => ?_)
  rw [i1, ob_some, partX, ob_some]
  refine c52 hz n2 b H0 H3 _ _ h3 (by rw [tx_str]; simp only [List.length_append, List.length_singleton]; omega) (fun H4 h4 => ?_)
  exact hq H4 (by rw [tx_str] at h4; simpa using h4)
theorem one_of {l : List Ex} (h : l.length = 1) : ∃ y, l = [y] := by
  match l, h with
  | [y], _ => exact ⟨y, rfl⟩
theorem two_of {l : List Ex} (h : l.length = 2) : ∃ y z, l = [y, z] := by
  match l, h with
  | [y, z], _ => exact ⟨y, z, rfl⟩
theorem c113 (x : Ex) (hok : allX okX x) (hv : allX vX x) (hr : allR x = true) : Prints x := by
  induction x using Ex.ind with
  | h x ih =>
    rw [allX_eq] at hok hv
    rw [allR_eq, Bool.and_eq_true] at hr
    have hch : ∀ y ∈ x.l, Prints y := fun y hy => ih y hy (allXs_mem hok.2 hy) (allXs_mem hv.2 hy) (allRs_mem hr.2 hy)
    obtain ⟨hk1, hk17⟩ := right_k hr.1
    intro b H0 H t Q h hl hq
    rw [bareT_eq, bareTs_map] at hl hq
    unfold bodyT at hl hq
    have hbt := bareTs_map x.l
    rw [f113_eq, szX, ob_some, partX, ob_some, c112]
    rw [part_f, p0X, ob_some, i_eql, ob_some]
    refine cnd_intro (fun g => ?_) (fun g => ?_)
    · have g : x.k = 1 := by simpa using g
      have hrv : rightV x.v = true := by
        have := hr.1
        simp only [rightP, g, if_true, Bool.and_eq_true] at this
        exact this.2.1
      rw [if_pos g] at hl hq
      rw [partXV, ob_some]
      refine c193 x.v hv.1 hrv H _ (fun H1 e1 => ?_)
      simp only [x20, x21, ob_some, nil_Pt, add0_Pt]
      exact c118 b ⟨(valT x.v).toArray⟩ H0 H1 t _ (h.mono e1) (by rw [tx_str]; exact hl) (fun _ H2 h2 => hq H2 (by rw [tx_str] at h2; exact h2))
    have g1 : ¬ x.k = 1 := by simpa using g
    rw [ob_some, i_eql, ob_some]
    refine cnd_intro (fun g => ?_) (fun g => ?_)
    · have g : x.k = 2 := by simpa using g
      rw [if_neg g1, if_pos g] at hl hq
      have hlx : (tx x.var).length + 1 ≤ 140737488355328 := by simp only [List.length_append, List.length_cons] at hl; omega
      rw [nil_Pt, ob_some, add0_Pt, ob_some, part_f, p4X, ob_some]
      have e46 : S ⟨#[46]⟩ = strT [46] := rfl
      simp only [List.length_append, List.length_cons] at hl
      rw [strT_tx x.var, e46, s_add _ _ _ _ (by simp only [List.length_singleton]; omega), ob_some, part_f, p5X, ob_some, strT_tx x.fld, s_add _ _ _ _ (by simp only [List.length_singleton, List.length_append]; omega), ob_some]
      exact c118 b ⟨(tx x.var ++ [46] ++ tx x.fld).toArray⟩ H0 H t _ h (by rw [tx_str]; simp only [List.length_append, List.length_singleton]; omega) (fun _ H2 h2 => hq H2 (by rw [tx_str] at h2; simpa using h2))
    have g2 : ¬ x.k = 2 := by simpa using g
    have hlen := rightP_len hr.1 g1 g2
    rw [ob_some, i_eql, ob_some]
    rw [if_neg g1, if_neg g2] at hl hq
    refine cnd_intro (fun g => ?_) (fun g => ?_)
    · have g : x.k = 3 := by simpa using g
      obtain ⟨y, hy⟩ := one_of (l := x.l) (by omega)
      rw [if_pos g, hy] at hl hq
      have i0 : ixaA 7 (encXs x.sz x.nil x.tip x.l) (I 0) = some (encC y) := ixX x.l x.sz x.nil x.tip [] [] y hy
      rw [part_f, p6X, ob_some, i0, ob_some, partX, ob_some]
      exact c194 (hch y (by rw [hy]; simp)) b H0 H t _ h hl hq
    have g3 : ¬ x.k = 3 := by simpa using g
    rw [if_neg g3] at hl hq
    rw [i_eql, ob_some]
    refine cnd_intro (fun g => ?_) (fun g => ?_)
    · have g : x.k = 17 := by
        simp only [levelX] at g
        by_cases k : x.k = 17
        · exact k
        · simp only [k, if_false, decide_eq_true_eq] at g
          repeat' split at g
          all_goals omega
      rw [if_pos g, ← hbt] at hl hq
      rw [part_f, p6X, ob_some]
      exact c55 ⟨#[32, 79, 82, 32]⟩ 2 x.sz x.nil x.tip x.l hok.1.1 hch b H0 H t _ h hl hq
    have g17 : ¬ x.k = 17 := fun k => by simp [levelX, k] at g
    rw [if_neg g17] at hl hq
    rw [i_eql, ob_some]
    refine cnd_intro (fun g => ?_) (fun g => ?_)
    · have g : x.k = 16 := by
        simp only [levelX, g17, if_false] at g
        by_cases k : x.k = 16
        · exact k
        · simp only [k, if_false, decide_eq_true_eq] at g
          repeat' split at g
          all_goals omega
      rw [if_pos g, ← hbt] at hl hq
      rw [part_f, p6X, ob_some]
      exact c55 ⟨#[32, 65, 78, 68, 32]⟩ 3 x.sz x.nil x.tip x.l hok.1.1 hch b H0 H t _ h hl hq
    have g16 : ¬ x.k = 16 := fun k => by simp [levelX, k] at g
    rw [if_neg g16] at hl hq
    rw [i_eql, ob_some]
    refine cnd_intro (fun g => ?_) (fun g => ?_)
    · have g : x.k = 15 := by
        simp only [levelX, g17, g16, if_false] at g
        by_cases k : x.k = 15
        · exact k
        · simp only [k, if_false, decide_eq_true_eq] at g
          repeat' split at g
          all_goals omega
      obtain ⟨y, hy⟩ := one_of (l := x.l) (by omega)
      rw [if_pos g, hy] at hl hq
      simp only [List.map_cons, List.map_nil, List.length_append] at hl hq
      have i0 : ixaA 7 (encXs x.sz x.nil x.tip x.l) (I 0) = some (encC y) := ixX x.l x.sz x.nil x.tip [] [] y hy
      rw [nil_Pt, ob_some, add0_Pt, ob_some]
      have hN : tx ⟨#[78, 79, 84, 32]⟩ = sNOT := rfl
      have hNl : sNOT.length = 4 := rfl
      rw [hNl] at hl
      have hle : (exprT y 3).length = (parT y (bareT y) 3).length := rfl
      refine c118 b ⟨#[78, 79, 84, 32]⟩ H0 H t _ h (by rw [hN, hNl]; omega) (fun _ H1 h1 => ?_)
      rw [hN] at h1
      rw [part_f, p6X, ob_some, i0, ob_some, partX, ob_some]
      refine c52 (hch y (by rw [hy]; simp)) 3 b H0 H1 _ _ h1 (by rw [List.length_append, hNl, hle]; omega) (fun H2 h2 => hq H2 ?_)
      rw [List.append_assoc] at h2
      exact h2
    have g15 : ¬ x.k = 15 := fun k => by simp [levelX, k] at g
    rw [if_neg g15] at hl hq
    rw [i_eql, ob_some]
    have h4 : 4 ≤ x.k := by omega
    have h14 : x.k ≤ 14 := by omega
    obtain ⟨y, z, hyz⟩ := two_of (l := x.l) (by omega)
    have hy := hch y (by rw [hyz]; simp)
    have hz := hch z (by rw [hyz]; simp)
    rw [hyz] at hl hq
    simp only [List.map_cons, List.map_nil] at hl hq
    refine cnd_intro (fun g => ?_) (fun g => ?_)
    · have h9 : 9 ≤ x.k := by
        simp only [levelX, g17, g16, g15, if_false, decide_eq_true_eq] at g
        by_cases k : 9 ≤ x.k
        · exact k
        · simp only [k, if_false] at g
          repeat' split at g
          all_goals omega
      simp only [need1, need2, if_pos h9] at hl hq
      rw [ob_some]
      exact c195 hyz h4 h14 hy hz 5 5 b H0 H t _ h hl hq
    · have h9 : ¬ 9 ≤ x.k := fun k => by simp [levelX, g17, g16, g15, k] at g
      by_cases h6 : 6 ≤ x.k
      · have hlv : levelX x = 6 := by simp only [levelX, g17, g16, g15, h9, h6, if_false, if_true]
        simp only [need1, need2, if_neg h9, if_pos h6] at hl hq
        rw [ob_some, hlv, i_add, ob_some]
        exact c195 hyz h4 h14 hy hz 6 7 b H0 H t _ h hl hq
      · have hlv : levelX x = 5 := by simp only [levelX, g17, g16, g15, h9, h6, h4, if_false, if_true]
        simp only [need1, need2, if_neg h9, if_neg h6] at hl hq
        rw [ob_some, hlv, i_add, ob_some]
        exact c195 hyz h4 h14 hy hz 5 6 b H0 H t _ h hl hq
end Go.Hx
namespace Go.Hx
/-- what is answered -/
def Res (H0 : Heap) (T : Nat → Nat → Prop) (pb rb : Nat) (o : Nat) (Bd : Nat) (Q : Post) : PR → Prop
  | .ok x r1 => ∀ y H', norm y = x → allX shX y → PS H0 T pb rb r1 o 0 0 H' → Q (encX y) H'
  | .bad e p => ∀ y H' r1 o', allX shX y → sizeX y ≤ Bd → r1 ≠ [] → PS H0 T pb rb r1 o' e p H' → Q (encX y) H'
theorem zX_sh : allX shX zX := sh_leaf _ _ _ _ _ _
theorem zX_size : sizeX zX = 1 := rfl
theorem constX_sh (v : Vl) : allX shX (.mk 1 v e0 e0 0 true .full []) := sh_leaf _ _ _ _ _ _
theorem fieldb (v f : ByteArray) : bldA [(0, 1, I 2), (4, 1, S v), (5, 1, S f)] [I 0, I 0, I 0, S ⟨#[]⟩, S ⟨#[]⟩, S ⟨#[]⟩, AV.sl 0 true .full []] = some (encX (.mk 2 nullV v f 0 true .full [])) := by rw [encX_mk]; rfl
section
variable {H0 H : Heap} {T : Nat → Nat → Prop} {pb rb : Nat} {r : List Tk} {o : Nat} {Q : Post} {Bd : Nat}
theorem c252 {a e : Int} (h : PS H0 T pb rb r o e a H) (hr : r ≠ []) (k : Int) (s : ByteArray) : E 252 [Pt pb, I k, S s] H Q = Q (B (nextIs k s r)) H := by
  cases r with
  | nil => exact (hr rfl).elim
  | cons t r =>
    rw [f252_eq, nil_Pt, ob_some, add_Pt, ob_some, h.ld0, ob_some, c44' h.rd]
    simp only [encK_sz, encK_sp, ob_some, part_f, List.getElem?_cons_zero, List.getElem?_cons_succ, i_eql, s_eql, f252_j6_eq, cnd_B, decide_eq_true_eq, nextIs]
    split <;> simp_all
theorem c315 (s : ByteArray) (hs : s.size ≤ 256) (H : Heap) (Q : Post) : E 315 [S s] H Q = Q (encV (textV s)) H := by
  have h0 : decide ((256 : Int) < (s.size : Int)) = false := decide_eq_false (by omega)
  have hb : bldA [(0, 1, I 3), (2, 1, S s)] [I 0, I 0, S ⟨#[]⟩] = some (encV (textV s)) := rfl
  have h1 : spliceA 0 [I (textV s).k, I (textV s).n, S (textV s).s] [I 0, I 0, S ⟨#[]⟩] = some [I (textV s).k, I (textV s).n, S (textV s).s] := rfl
  have h2 : partA true 0 3 [I (textV s).k, I (textV s).n, S (textV s).s] = some (encV (textV s)) := rfl
  rw [f315_eq, len_S, ob_some, i_gtr, ob_some, h0, cnd_f, hb, ob_some, sz3, ob_some, h1, ob_some, h2, ob_some]
theorem c317 (s : ByteArray) (H : Heap) (Q : Post) : E 317 [S s] H Q = Q (match wordV s with | some v => .tup [encV v, B true] | none => .tup [encV nullV, B false]) H := by
  have h1 : ∀ v : Vl, spliceA 0 [I v.k, I v.n, S v.s] [I 0, I 0, S ⟨#[]⟩] = some [I v.k, I v.n, S v.s] := fun v => rfl
  have h2 : ∀ v : Vl, partA true 0 3 [I v.k, I v.n, S v.s] = some (encV v) := fun v => rfl
  rw [f317_eq, s_eql, ob_some]
  by_cases g1 : s = sTRUE
  · have hw : wordV s = some (boolV true) := by rw [wordV, if_pos g1]
    rw [hw, decide_eq_true (show s = ⟨#[84, 82, 85, 69]⟩ from g1), cnd_t, c251, sz3, ob_some, h1, ob_some, h2, ob_some]
  · rw [decide_eq_false (show ¬ s = ⟨#[84, 82, 85, 69]⟩ from g1), cnd_f, s_eql, ob_some]
    by_cases g2 : s = sFALSE
    · have hw : wordV s = some (boolV false) := by rw [wordV, if_neg g1, if_pos g2]
      rw [hw, decide_eq_true (show s = ⟨#[70, 65, 76, 83, 69]⟩ from g2), cnd_t, c251, sz3, ob_some, h1, ob_some, h2, ob_some]
    · rw [decide_eq_false (show ¬ s = ⟨#[70, 65, 76, 83, 69]⟩ from g2), cnd_f, s_eql, ob_some]
      by_cases g3 : s = sNULL
      · have hw : wordV s = some nullV := by rw [wordV, if_neg g1, if_neg g2, if_pos g3]
        rw [hw, decide_eq_true (show s = ⟨#[78, 85, 76, 76]⟩ from g3), cnd_t, c259, sz3, ob_some, h1, ob_some, h2, ob_some]
      · have hw : wordV s = none := by rw [wordV, if_neg g1, if_neg g2, if_neg g3]
        rw [hw, decide_eq_false (show ¬ s = ⟨#[78, 85, 76, 76]⟩ from g3), cnd_f, c259, sz3, ob_some, h1, ob_some, h2, ob_some]
/-- a number -/
theorem c311 (m : Bool) {t : Tk} {r : List Tk} (h : PS H0 T pb rb (t :: r) o 0 0 H) (hk : t.k = 3) (hok : okTk t) (hB : 1 ≤ Bd) (hq : Res H0 T pb rb o Bd Q (numR m (t :: r))) : E 311 [Pt pb, strT (if m = true then [45] else [])] H Q := by
  obtain ⟨hsz, hdig, _⟩ := hok
  have hdig := hdig hk
  have hts : t.s = bs (tx t.s) := (bs_tx t.s).symm
  have hlen : (tx t.s).length = t.s.size := size_list t.s
  have j10 : ∀ d : AV, d = S (bs (numB (m && !decide (t.s = ⟨#[48]⟩)) (tx t.s))) → f311_j10 (Pt pb) [I 0, I 0, I 0, S ⟨#[]⟩, S ⟨#[]⟩, S ⟨#[]⟩, AV.sl 0 true .full []] d H Q := fun d hd => by
    subst hd
    have hD : DigL (m && !decide (t.s = ⟨#[48]⟩)) (tx t.s) := by
      obtain ⟨h1, h2, h3⟩ := hdig
      refine ⟨h1, h2, ?_⟩
      rcases h3 with h3 | ⟨_, h3⟩
      · exact .inl h3
      · by_cases h48 : t.s = ⟨#[48]⟩
        · right; rw [decide_eq_true h48]; exact ⟨by simp, h3⟩
        · left
          intro hh
          apply h48
          cases hl : tx t.s with
          | nil => rw [hl] at h3; cases h3
          | cons c l =>
            rw [hl] at h3 hh
            have : l = [] := by simpa using h3
            subst this
            have hc : c.toNat = 48 := by simpa using hh
            have hc : c = 48 := UInt8.toNat_inj.1 hc
            rw [hts, hl, hc]
    have hv : numV (m && !decide (t.s = ⟨#[48]⟩)) (bs (tx t.s)) = numV m t.s := by
      rw [bs_tx]
      by_cases h48 : t.s = ⟨#[48]⟩
      · rw [h48]; cases m <;> rfl
      · rw [decide_eq_false h48]; simp
    rw [f311_j10_eq, c269 _ _ (by omega) hD, hv, extN0, ob_some, extN1, ob_some]
    cases hn : numOf m t.s with
    | none =>
      have hN : numV m t.s = (0, 10) := by simp only [numV, hn]
      rw [hN, enc_err 10 (by decide), ob_some, cnd_t]
      refine c285 h (by simp) 4 (fun H' h' => ?_)
      simp only [szX, splX, partX, ob_some]
      simp only [numR, hn] at hq
      exact hq zX H' _ _ zX_sh (by rw [zX_size]; exact hB) (by simp) h'
    | some n =>
      have hN : numV m t.s = (n, 0) := by simp only [numV, hn]
      rw [hN, enc_ok, ob_some, cnd_f]
      simp only [nil_Pt, ob_some, add_Pt, h.ld0]
      refine c268' h.rd (by omega) _ (fun ob1 hr => ?_)
      rw [c319, constb, ob_some, szX, ob_some, splX, ob_some, partX, ob_some]
      simp only [numR, hn] at hq
      exact hq _ _ (by rw [norm_mkl]; rfl) (constX_sh _) (h.setr hr)
  rw [f311_eq, nil_Pt, ob_some, add_Pt, ob_some, h.ld0, ob_some, c44' h.rd, fK1, s_neq, ob_some]
  refine cnd_intro (fun h1 => ?_) (fun h1 => ?_)
  · have h1 : t.s ≠ ⟨#[48]⟩ := by simpa using h1
    have hS : S t.s = strT (tx t.s) := by show S t.s = S (bs (tx t.s)); rw [bs_tx]
    rw [hS, s_add _ _ _ _ (by have : (if m = true then [45] else ([] : List UInt8)).length ≤ 1 := by cases m <;> simp
                              omega), ob_some]
    refine j10 _ ?_
    rw [decide_eq_false h1]; simp only [Bool.not_false, Bool.and_true]; rfl
  · have h1 : t.s = ⟨#[48]⟩ := by simpa using h1
    refine j10 _ ?_
    rw [decide_eq_true h1]; simp only [Bool.not_true, Bool.and_false, numB, Bool.false_eq_true, if_false, List.nil_append, bs_tx]
/-- a field, behind its Var -/
theorem c316 (v : ByteArray) {a : Int} (h : PS H0 T pb rb r o 0 0 H) (he : endsT r) (hB : 1 ≤ Bd) (hq : Res H0 T pb rb o Bd Q (fieldR v r)) : E 316 [Pt pb, S v] H Q := by
  have hr := endsT_ne he
  rw [f316_eq]
  simp only [nil_Pt, ob_some, add_Pt, h.ld0]
  refine c228 _ h.rd hr _ (fun hn => ?_) (fun t r1 ob1 e hn h1 => ?_)
  · rw [not_B, ob_some, Bool.not_false, cnd_t]
    refine c285 h hr 4 (fun H' h' => ?_)
    simp only [szX, splX, partX, ob_some]
    simp only [fieldR, hn] at hq
    exact hq zX H' _ _ zX_sh (by rw [zX_size]; exact hB) hr h'
  · subst e
    have h2 := h.setr h1
    have he1 := endsT_tail he (by rw [(nextIs_cons hn).1]; decide)
    have hr1 := endsT_ne he1
    rw [not_B, ob_some, Bool.not_true, cnd_f]
    rw [h2.ld0, ob_some]
    simp only [fieldR, hn, if_true, List.tail_cons] at hq
    refine c229 h2.rd hr1 _ (fun hk => ?_) (fun u r2 ob2 e hk h3 => ?_)
    · rw [x20, ob_some, x21, ob_some, not_B, ob_some, Bool.not_false, cnd_t]
      refine c285 h2 hr1 4 (fun H' h' => ?_)
      simp only [szX, splX, partX, ob_some]
      cases r1 with
      | nil => exact (hr1 rfl).elim
      | cons u r2 =>
        simp only [kindN] at hk
        simp only [if_neg hk] at hq
        exact hq zX H' _ _ zX_sh (by rw [zX_size]; exact hB) (by simp) h'
    · subst e
      simp only [if_pos hk] at hq
      rw [x20, ob_some, x21, ob_some, not_B, ob_some, Bool.not_true, cnd_f, fieldb, ob_some, szX, ob_some, splX, ob_some, partX, ob_some]
      exact hq _ _ (by rw [norm_mkl]; rfl) (sh_leaf _ _ _ _ _ _) (h2.setr h3)
/-- something within, behind a token -/
theorem c254 {fv : AV} {t : Tk} (h : PS H0 T pb rb (t :: r) o 0 0 H) (hk : t.k ≠ 6) (h0 : 200 ≤ o → ∀ H', PS H0 T pb rb (t :: r) o 2 t.p H' → Q (encX zX) H')
    (h1 : o < 200 → ∀ H', PS H0 T pb rb r ((o + 1 : Nat) : Int) 0 0 H' → ∀ K : Post, (∀ y H2 r1 o1 e a, PS H0 T pb rb r1 o1 e a H2 → (∀ H3, PS H0 T pb rb r1 (W64 (o1 - 1)) e a H3 → Q (encX y) H3) → K (encX y) H2) → callA (Ev Pg Hs) fv [] H' K) : E 254 [Pt pb, fv] H Q := by
  rw [f254_eq, nil_Pt, ob_some, add_Pt, ob_some, h.ld1, ob_some, i_geq, ob_some]
  refine cnd_intro (fun hc => ?_) (fun hc => ?_)
  · refine c285 h (by simp) 2 (fun H' h' => ?_)
    simp only [szX, splX, partX, ob_some]
    exact h0 (by simp at hc; omega) H' h'
  · have hc : o < 200 := by simp at hc; omega
    simp only [nil_Pt, ob_some, add_Pt, h.ld0]
    refine c268' h.rd hk _ (fun ob1 hr => ?_)
    have h2 := h.setr hr
    have hw : W64 ((o : Int) + 1) = ((o + 1 : Nat) : Int) := w64_succ (n := 1000) (by omega) (by omega)
    have h3 := h2.setp ((o + 1 : Nat) : Int) 0 0
    rw [h2.ld1, ob_some, i_add, ob_some, hw, h2.st1, ob_some]
    refine h1 hc _ h3 _ (fun y H2 r1 o1 e a h4 hQ => ?_)
    have h5 := h4.setp (W64 (o1 - 1)) e a
    rw [szX, ob_some, splX, ob_some, h4.ld1, ob_some, i_sub, ob_some, h4.st1, ob_some, partX, ob_some, szX, ob_some, splX, ob_some, partX, ob_some]
    exact hQ _ h5
/-- the next sign of two parts -/
theorem c284 {lo hi : Int} (h : PS H0 T pb rb r o 0 0 H) (hr : r ≠ []) (h0 : opOf lo hi r = none → ∀ H', PS H0 T pb rb r o 0 0 H' → Q (.tup [I 0, B false]) H')
    (h1 : ∀ t r1 k H', r = t :: r1 → opOf lo hi r = some k → PS H0 T pb rb r1 o 0 0 H' → Q (.tup [I k, B true]) H') : E 284 [Pt pb, I lo, I hi] H Q := by
  cases r with
  | nil => exact (hr rfl).elim
  | cons t r =>
    have loop : ∀ (m j : Nat) (H : Heap), j + m = 11 → PS H0 T pb rb (t :: r) o 0 0 H → ((if t.k = 5 then opI lo hi t.s m j else none) = none → ∀ H', PS H0 T pb rb (t :: r) o 0 0 H' → Q (.tup [I 0, B false]) H') →
        (∀ k H', (if t.k = 5 then opI lo hi t.s m j else none) = some k → PS H0 T pb rb r o 0 0 H' → Q (.tup [I k, B true]) H') → f284_l6 (Pt pb) (I lo) (I hi) (.agg signC) (I j) H Q := by
      intro m
      induction m with
      | zero =>
        intro j H e h h0 h1
        have : decide ((j : Int) < 11) = false := decide_eq_false (by omega)
        rw [f284_l6_eq, i_lss, ob_some, this, cnd_f]
        exact h0 (by simp only [opI]; split <;> rfl) H h
      | succ m ih =>
        intro j H e h h0 h1
        have hlt : decide ((j : Int) < 11) = true := decide_eq_true (by omega)
        have hj : j < 11 := by omega
        have hix : ixAgg 11 true 2 (.agg signC) (I j) = some (.agg [S (opS j), I ((j : Int) + 4)]) := by
          clear ih e h h0 h1 hlt
          match j, hj with
          | 0, _ | 1, _ | 2, _ | 3, _ | 4, _ | 5, _ | 6, _ | 7, _ | 8, _ | 9, _ | 10, _ => rfl
          | n + 11, h => exact absurd h (by omega)
        have hsz : sizedA 2 (.agg [S (opS j), I ((j : Int) + 4)]) = some [S (opS j), I ((j : Int) + 4)] := rfl
        have hsp : spliceA 0 [S (opS j), I ((j : Int) + 4)] [S ⟨#[]⟩, I 0] = some [S (opS j), I ((j : Int) + 4)] := rfl
        have next : (∀ (X : Prop), (if t.k = 5 then opI lo hi t.s (m + 1) j else none) = (if t.k = 5 then opI lo hi t.s m (j + 1) else none)) → ∀ H', PS H0 T pb rb (t :: r) o 0 0 H' →
            f284_j19 (Pt pb) (I lo) (I hi) [S (opS j), I ((j : Int) + 4)] (.agg signC) (I j) (B false) H' Q := fun hx H' h' => by
          have hx := hx True
          rw [f284_j19_eq, cnd_f, i_add, ob_some, w64_succ (n := 11) hj (by omega)]
          exact ih (j + 1) H' (by omega) h' (fun h => h0 (hx.trans h)) (fun k H2 h => h1 k H2 (hx.trans h))
        rw [f284_l6_eq, i_lss, ob_some, hlt, cnd_t, hix, ob_some, hsz, ob_some, hsp, ob_some, part_f]
        simp only [List.getElem?_cons_succ, List.getElem?_cons_zero, ob_some, i_geq, i_leq, part_f]
        refine cnd_intro (fun g1 => ?_) (fun g1 => ?_)
        · have g1 : lo ≤ (j : Int) + 4 := by simpa using g1
          refine cnd_intro (fun g2 => ?_) (fun g2 => ?_)
          · have g2 : (j : Int) + 4 ≤ hi := by simpa using g2
            simp only [nil_Pt, ob_some, add_Pt, h.ld0]
            refine c228 _ h.rd (by simp) _ (fun hn => ?_) (fun t' r' ob1 e' hn hr' => ?_)
            · refine next (fun _ => ?_) H h
              by_cases h5 : t.k = 5
              · have hs : t.s ≠ opS j := fun hs => by simp [nextIs, h5, hs] at hn
                rw [if_pos h5, if_pos h5, opI, if_neg (fun hh => hs hh.2.2)]
              · rw [if_neg h5, if_neg h5]
            · cases e'
              have hc := nextIs_cons hn
              have h2 := h.setr hr'
              rw [f284_j19_eq, cnd_t, part_f]
              simp only [List.getElem?_cons_succ, List.getElem?_cons_zero, ob_some]
              exact h1 _ _ (by rw [if_pos hc.1, opI, if_pos ⟨g1, g2, hc.2⟩]) h2
          · have g2 : ¬ (j : Int) + 4 ≤ hi := by simpa using g2
            refine next (fun _ => ?_) H h
            split
            · rw [opI, if_neg (fun hh => g2 hh.2.1)]
            · rfl
        · have g1 : ¬ lo ≤ (j : Int) + 4 := by simpa using g1
          refine next (fun _ => ?_) H h
          split
          · rw [opI, if_neg (fun hh => g1 hh.1)]
          · rfl
    rw [f284_eq]
    refine c261 H _ (fun H1 e1 => ?_)
    exact loop 11 0 H1 rfl (h.mono e1) (fun hh => h0 hh) (fun k H' hh h' => h1 t r k H' rfl hh h')
end
end Go.Hx
namespace Go.Hx
theorem splX2 (x y : Ex) : spliceA 0 (encC x) (encC y) = some (encC x) := by rw [encC_eq, encC_eq y]; rfl
def copyQ (Q : Post) : Post := fun r1 H => ob (sizedA 7 r1) fun b3 => ob (spliceA 0 b3 [I 0, I 0, I 0, S ⟨#[]⟩, S ⟨#[]⟩, S ⟨#[]⟩, AV.sl 0 true .full []]) fun b4 => ob (partA true 0 7 b4) fun r5 => Q r5 H
theorem copyX (Q : Post) (y : Ex) (H : Heap) : copyQ Q (encX y) H = Q (encX y) H := by simp only [copyQ, szX, splX, partX, ob_some]
def OwnT (T : Nat → Nat → Prop) : Tip → Prop
  | .tip c => ∀ n, ¬ T c n
  | _ => True
def T2 (T : Nat → Nat → Prop) (n : Nat) (t : Tip) : Nat → Nat → Prop := fun c m => T c m ∨ (t = .tip c ∧ m = n)
section
variable {H0 H : Heap} {T : Nat → Nat → Prop} {pb rb : Nat} {r : List Tk} {o e a : Int} {Q : Post}
theorem PS.up {sz n : Nat} {t : Tip} (h : PS H0 T pb rb r o e a H) (ho : OwnS H0 H sz n t) : PS H0 (T2 T (n * sz) t) pb rb r o e a H :=
  ⟨h.ext, h.fp, h.fr, h.ne, h.op, h.rd, fun c m hc => by
    rcases hc with hc | ⟨hc, rfl⟩
    · exact h.tp c m hc
    · subst hc; exact ho.1⟩
theorem PS.down {n : Nat} {t : Tip} (h : PS H0 (T2 T n t) pb rb r o e a H) : PS H0 T pb rb r o e a H := ⟨h.ext, h.fp, h.fr, h.ne, h.op, h.rd, fun c m hc => h.tp c m (.inl hc)⟩
theorem PS.own {H1 : Heap} {sz n : Nat} {t : Tip} (h : PS H0 (T2 T (n * sz) t) pb rb r o e a H) (ho : OwnS H0 H1 sz n t) : OwnS H0 H sz n t := by
  cases t with
  | any => exact ho
  | full => exact ho
  | tip d => exact ⟨h.tp d _ (.inr ⟨rfl, rfl⟩), ho.2⟩
theorem app_ps {ys : List Ex} {y : Ex} {s' : Nat} {n' : Bool} {t' : Tip} {K : Post} (h : PS H0 T pb rb r o e a H) (ho : OwnS H0 H 7 ys.length t') (ht : OwnT T t') (hn : n' = true ∨ s' = 7) (hl : ys.length ≤ 1099511627775)
    (hk : ∀ s2 n2 t2 H2, (n2 = true ∨ s2 = 7) → PS H0 T pb rb r o e a H2 → OwnS H0 H2 7 (ys ++ [y]).length t2 → OwnT T t2 → K (.sl s2 n2 t2 ((ys ++ [y]).map encX)) H2) :
    appA 7 96 (.sl s' n' t' (ys.map encX)) (.sl 7 false .full ([y].map encX)) H K := by
  have hta : tailA 7 (.sl 7 false .full ([y].map encX)) = some [encX y] := by simp [tailA]
  have ps : ∀ b m, H0.fresh b → (∀ n, ¬ T b n) → PS H0 T pb rb r o e a (H.setTip b m) := fun b m hb hT =>
    ⟨h.ext.setTip hb m, h.fp, h.fr, h.ne, h.op, h.rd, fun c n hc => by
      have hne : c ≠ b := fun e => hT n (e ▸ hc)
      simp only [Heap.setTip, if_neg hne]
      exact h.tp c n hc⟩
  unfold appA
  simp only [hta, List.length_map, List.length_singleton]
  refine ⟨hn, by omega, by omega, ?_⟩
  have hnew : ∀ b, H.fresh b → (∀ n, ¬ T b n) := fun b hb n hc => by have := h.tp b n hc; rw [hb.2] at this; cases this
  have fin : ∀ b, H0.fresh b → (∀ n, ¬ T b n) → K (.sl 7 false (.tip b) (ys.map encX ++ [encX y])) (H.setTip b ((ys.length + 1) * 7)) := fun b hb hT => by
    have := hk 7 false (.tip b) _ (.inr rfl) (ps b ((ys.length + 1) * 7) hb hT) ⟨by simp [Heap.setTip], hb⟩ hT
    simpa using this
  cases t' with
  | any => exact ho.elim
  | full => intro b hf; exact fin b (h.ext.fresh hf) (hnew b hf)
  | tip b0 =>
    refine ⟨by simpa using ho.1, fun b hf => ?_⟩
    rcases hf with rfl | hf
    · exact fin b ho.2 ht
    · exact fin b (h.ext.fresh hf) (hnew b hf)
end
def rowF (b : Bool) : Nat := if b = true then 109 else 187
def leftF (b : Bool) : Nat := if b = true then 301 else 306
def bnd : Gl → List Tk → Nat
  | .more _ l, r => 2 * r.length + sizeXs l
  | .lmore _ x, r => 2 * r.length + sizeX x
  | _, r => 2 * r.length + 1
def preG : Gl → List Tk → Prop
  | .more _ l, r => l ≠ [] ∧ sizeXs l + r.length ≤ 2097152
  | _, _ => True
/-- a goal, run -/
def Run (H0 : Heap) (T : Nat → Nat → Prop) (pb : Nat) : Gl → Heap → Post → Prop
  | .row b, H, Q => E (if b = true then 49 else 109) [Pt pb] H Q
  | .more b l, H, Q => ∀ (ys : List Ex) (s' : Nat) (n' : Bool) (t' : Tip), ys.map norm = l → (∀ y ∈ ys, allX shX y) → (n' = true ∨ s' = 7) → OwnS H0 H 7 ys.length t' → OwnT T t' →
      f108_l6 (Pt pb) (I (rowK b)) (S (rowW b)) (.fn (.func (rowF b)) [Pt pb] []) [I 0, I 0, I 0, S ⟨#[]⟩, S ⟨#[]⟩, S ⟨#[]⟩, AV.sl 0 true .full []] (.sl s' n' t' (ys.map encX)) H Q
  | .not, H, Q => E 187 [Pt pb] H Q
  | .cmp, H, Q => E 253 [Pt pb] H Q
  | .left b, H, Q => E (if b = true then 283 else 301) [Pt pb] H Q
  | .lmore b x, H, Q => ∀ y : Ex, norm y = x → allX shX y → f300_l6 (Pt pb) (I (leftLo b)) (I (leftHi b)) (.fn (.func (leftF b)) [Pt pb] []) [I 0, I 0, I 0, S ⟨#[]⟩, S ⟨#[]⟩, S ⟨#[]⟩, AV.sl 0 true .full []] (encC y) H Q
  | .neg, H, Q => E 306 [Pt pb] H Q
  | .last, H, Q => E 309 [Pt pb] H Q
theorem callR {H0 : Heap} {T : Nat → Nat → Prop} {pb : Nat} (b : Bool) {H : Heap} {Q : Post} (h : Run H0 T pb (rowP b) H Q) : callA (Ev Pg Hs) (.fn (.func (rowF b)) [Pt pb] []) [] H Q := by cases b <;> exact h
theorem callL {H0 : Heap} {T : Nat → Nat → Prop} {pb : Nat} (b : Bool) {H : Heap} {Q : Post} (h : Run H0 T pb (leftP b) H Q) : callA (Ev Pg Hs) (.fn (.func (leftF b)) [Pt pb] []) [] H Q := by cases b <;> exact h
theorem rowE {H0 : Heap} {T : Nat → Nat → Prop} {pb : Nat} (b : Bool) {H : Heap} {Q : Post} (h : Run H0 T pb (rowP b) H fun r1 H2 => ob (mkSlA 7 [r1]) fun r3 => f108_l6 (Pt pb) (I (rowK b)) (S (rowW b)) (.fn (.func (rowF b)) [Pt pb] []) [I 0, I 0, I 0, S ⟨#[]⟩, S ⟨#[]⟩, S ⟨#[]⟩, AV.sl 0 true .full []] r3 H2 (copyQ Q)) : Run H0 T pb (.row b) H Q := by
  cases b
  · show E 109 [Pt pb] H Q
    rw [f109_eq, f108_eq]
    exact h
  · show E 49 [Pt pb] H Q
    rw [f49_eq, f108_eq]
    exact h
theorem leftE {H0 : Heap} {T : Nat → Nat → Prop} {pb : Nat} (b : Bool) {H : Heap} {Q : Post} (h : Run H0 T pb (leftP b) H fun r1 H2 => ob (sizedA 7 r1) fun b3 => ob (spliceA 0 b3 [I 0, I 0, I 0, S ⟨#[]⟩, S ⟨#[]⟩, S ⟨#[]⟩, AV.sl 0 true .full []]) fun b4 => f300_l6 (Pt pb) (I (leftLo b)) (I (leftHi b)) (.fn (.func (leftF b)) [Pt pb] []) [I 0, I 0, I 0, S ⟨#[]⟩, S ⟨#[]⟩, S ⟨#[]⟩, AV.sl 0 true .full []] b4 H2 (copyQ Q)) : Run H0 T pb (.left b) H Q := by
  cases b
  · show E 301 [Pt pb] H Q
    rw [f301_eq, f300_eq]
    exact h
  · show E 283 [Pt pb] H Q
    rw [f283_eq, f300_eq]
    exact h
theorem bnd_row (b : Bool) (r : List Tk) : bnd (rowP b) r = 2 * r.length + 1 := by cases b <;> rfl
theorem bnd_left (b : Bool) (r : List Tk) : bnd (leftP b) r = 2 * r.length + 1 := by cases b <;> rfl
theorem pre_row (b : Bool) (r : List Tk) : preG (rowP b) r := by cases b <;> trivial
theorem pre_left (b : Bool) (r : List Tk) : preG (leftP b) r := by cases b <;> trivial
theorem size_row {b : Bool} {o : Nat} {r r1 : List Tk} {x : Ex} (h : P (rowP b) o r (.ok x r1)) : sizeX x + r1.length ≤ r.length := by have := P_size h; cases b <;> exact this
theorem size_left {b : Bool} {o : Nat} {r r1 : List Tk} {x : Ex} (h : P (leftP b) o r (.ok x r1)) : sizeX x + r1.length ≤ r.length := by have := P_size h; cases b <;> exact this
theorem sizeXs_norm (l : List Ex) : sizeXs (l.map norm) = sizeXs l := by
  induction l with
  | nil => rfl
  | cons x l ih => simp only [List.map_cons, sizeXs, norm_size, ih]
section
variable {H0 : Heap} {pb rb : Nat}
theorem PS.rlen {H : Heap} {T : Nat → Nat → Prop} {r : List Tk} {o e a : Int} (h : PS H0 T pb rb r o e a H) : r.length ≤ 1048576 := by
  obtain ⟨L, i, s', n', t', h1, h2, h3⟩ := h.rd
  rw [← h2, List.length_drop]; omega
/-- the parts are joined -/
theorem j10_end {H : Heap} {T : Nat → Nat → Prop} {r : List Tk} {o e a : Int} {Q : Post} (h : PS H0 T pb rb r o e a H) (b : Bool) (fv : AV) (ys : List Ex) (s' : Nat) (n' : Bool) (t' : Tip) (hsh : ∀ y ∈ ys, allX shX y) (hl : sizeXs ys ≤ 1099511627776)
    (hq : ∀ z H', norm z = joinE (rowK b) (ys.map norm) → allX shX z → PS H0 T pb rb r o e a H' → Q (encX z) H') :
    f108_j10 (Pt pb) (I (rowK b)) (S (rowW b)) fv [I 0, I 0, I 0, S ⟨#[]⟩, S ⟨#[]⟩, S ⟨#[]⟩, AV.sl 0 true .full []] (.sl s' n' t' (ys.map encX)) (B false) H Q := by
  rw [f108_j10_eq, cnd_f]
  refine c186 (rowK b) (by cases b; exact .inl rfl; exact .inr rfl) ys s' n' t' hsh hl H _ (fun z H' he hz hzs => ?_)
  simp only [szX, splX, partX, ob_some]
  exact hq z H' hz hzs (h.mono he)
/-- behind a fault: the parts are joined -/
theorem l6_bad {H : Heap} {T : Nat → Nat → Prop} {r : List Tk} {o e a : Int} {Q : Post} (h : PS H0 T pb rb r o e a H) (he : e ≠ 0) (b : Bool) (fv : AV) (ys : List Ex) (s' : Nat) (n' : Bool) (t' : Tip) (hsh : ∀ y ∈ ys, allX shX y) (hl : sizeXs ys ≤ 1099511627776)
    (hq : ∀ z H', norm z = joinE (rowK b) (ys.map norm) → allX shX z → PS H0 T pb rb r o e a H' → Q (encX z) H') :
    f108_l6 (Pt pb) (I (rowK b)) (S (rowW b)) fv [I 0, I 0, I 0, S ⟨#[]⟩, S ⟨#[]⟩, S ⟨#[]⟩, AV.sl 0 true .full []] (.sl s' n' t' (ys.map encX)) H Q := by
  rw [f108_l6_eq, nil_Pt, ob_some, add_Pt, ob_some, h.ld2, ob_some, i_eql, ob_some, decide_eq_false he, cnd_f]
  exact j10_end h b fv ys s' n' t' hsh hl hq
theorem join_size_le {k : Int} {z : Ex} {ys : List Ex} (h : norm z = joinE k (ys.map norm)) (hy : ys ≠ []) : sizeX z ≤ sizeXs ys + if ys.length ≤ 1 then 0 else 1 := by
  have := size_join k (ys.map norm) (by simpa using hy)
  rw [← h, norm_size, sizeXs_norm, List.length_map] at this; exact this
def negQ (Q : Post) : Post := fun r36 H37 => ob (sizedA 7 r36) fun b38 => ob (spliceA 0 b38 [I 0, I 0, I 0, S ⟨#[]⟩, S ⟨#[]⟩, S ⟨#[]⟩, AV.sl 0 true .full []]) fun b39 => ob (partA true 0 7 b39) fun r40 => ob (mkSlA 7 [r40]) fun r41 => ob (bldA [(0, 1, I 3), (6, 1, r41)] [I 0, I 0, I 0, S ⟨#[]⟩, S ⟨#[]⟩, S ⟨#[]⟩, AV.sl 0 true .full []]) fun r42 => ob (sizedA 7 r42) fun b43 => ob (spliceA 0 b43 [I 0, I 0, I 0, S ⟨#[]⟩, S ⟨#[]⟩, S ⟨#[]⟩, AV.sl 0 true .full []]) fun b44 => ob (partA true 0 7 b44) fun r45 => Q r45 H37
theorem negX (Q : Post) (y : Ex) (H : Heap) : negQ Q (encX y) H = Q (encX (.mk 3 nullV e0 e0 7 false .full [y])) H := by
  rw [negQ, szX, ob_some, splX, ob_some, partX, ob_some, mk1X, ob_some, rowb, ob_some, szX, ob_some, splX, ob_some, partX, ob_some]
theorem neg_pre {H : Heap} {T : Nat → Nat → Prop} {t : Tk} {r : List Tk} {o : Nat} {Q : Post} (hps : PS H0 T pb rb (t :: r) o 0 0 H) (hn : nextIs 5 wMinus (t :: r) = true) (hr : r ≠ [])
    (h3 : kindN r = 3 → ∀ H', PS H0 T pb rb r o 0 0 H' → E 311 [Pt pb, strT (if true = true then [45] else [])] H' (copyQ Q)) (h4 : kindN r ≠ 3 → ∀ H', PS H0 T pb rb (t :: r) o 0 0 H' → E 254 [Pt pb, .fn (.func 306) [Pt pb] []] H' (negQ Q)) : E 306 [Pt pb] H Q := by
  have hk := (nextIs_cons hn).1
  have hn : nextIs 5 ⟨#[45]⟩ (t :: r) = true := hn
  rw [f306_eq, c252 hps (by simp), hn, not_B, ob_some, Bool.not_true, cnd_f]
  simp only [nil_Pt, ob_some, add_Pt, hps.ld0]
  obtain ⟨L, i, hri, e⟩ := RS_RI.1 hps.rd
  rw [c310 hri (ne_of_drop e), hps.ld0, ob_some]
  refine c268 hri e (by omega) _ (fun o1 h2 => ?_)
  have e2 := (hri.get e).2.2
  have ps2 := hps.setr (RS_RI.2 ⟨L, i + 1, h2, e2⟩)
  cases r with
  | nil => exact (hr rfl).elim
  | cons u r2 =>
    rw [ps2.ld0, ob_some, c44 h2 e2, fK0, i_eql, ob_some]
    refine cnd_intro (fun h5 => ?_) (fun h5 => ?_)
    · exact h3 (by simpa [kindN] using h5) _ ps2
    · rw [ps2.ld0, ob_some]
      refine c312 h2 (ne_of_drop e) (by omega) _ (fun o2 h6 => ?_)
      exact h4 (by simpa [kindN] using h5) _ (ps2.setr (RS_RI.2 ⟨L, i, h6, e⟩))
theorem last_pre {H : Heap} {T : Nat → Nat → Prop} {r : List Tk} {o : Nat} {Q : Post} (hps : PS H0 T pb rb r o 0 0 H) (hn : nextIs 5 wOpen r = true) (h : E 254 [Pt pb, .fn (.func 318) [Pt pb] []] H (copyQ Q)) : E 309 [Pt pb] H Q := by
  obtain ⟨t, r1, rfl, hk, hs⟩ := nextIs_ne hn
  have hs : t.s = ⟨#[40]⟩ := hs
  have d3 : decide ((5 : Int) = 3) = false := rfl
  have d4 : decide ((5 : Int) = 4) = false := rfl
  have d2 : decide ((5 : Int) = 2) = false := rfl
  have d1 : decide ((5 : Int) = 1) = false := rfl
  have d5 : decide ((5 : Int) = 5) = true := rfl
  rw [f309_eq, nil_Pt, ob_some, add_Pt, ob_some, hps.ld0, ob_some, c44' hps.rd]
  simp only [encK_sz, encK_sp, ob_some, part_f, List.getElem?_cons_zero, List.getElem?_cons_succ]
  simp only [i_eql, hk, d3, d4, d2, d1, d5, cnd_f, cnd_t, s_eql, hs, ob_some]
  simp only [decide_true, cnd_t]
  exact h
/-- a part in parentheses -/
theorem c318 {H : Heap} {T : Nat → Nat → Prop} {r : List Tk} {o : Nat} {Q : Post} (h : E 49 [Pt pb] H fun r1 H2 => ob (sizedA 7 r1) fun b3 => ob (spliceA 0 b3 [I 0, I 0, I 0, S ⟨#[]⟩, S ⟨#[]⟩, S ⟨#[]⟩, AV.sl 0 true .full []]) fun b4 => ob (ldH H2 false 1 (Poff pb 2)) fun r7 => ob (binA Pg .eql 27 true r7 (I 0)) fun r8 => cndA r8 (ob (ldH H2 false 1 (Poff pb 0)) fun r11 => E 228 [r11, S wShut] H2 fun r12 H13 => ob (unA .not r12) fun r14 => f318_j7 (Pt pb) [I 0, I 0, I 0, S ⟨#[]⟩, S ⟨#[]⟩, S ⟨#[]⟩, AV.sl 0 true .full []] b4 r14 H13 Q) (f318_j7 (Pt pb) [I 0, I 0, I 0, S ⟨#[]⟩, S ⟨#[]⟩, S ⟨#[]⟩, AV.sl 0 true .full []] b4 (B false) H2 Q)) : E 318 [Pt pb] H Q := by
  rw [f318_eq]
  simp only [nil_Pt, ob_some, add_Pt]
  exact h
theorem atom_run {H : Heap} {T : Nat → Nat → Prop} {r : List Tk} {o : Nat} {Q : Post} {Bd : Nat} (hps : PS H0 T pb rb r o 0 0 H) (he : endsT r) (hok : ∀ t ∈ r, okTk t) (hn : nextIs 5 wOpen r = false) (hB : 1 ≤ Bd) (hq : Res H0 T pb rb o Bd Q (atomR r)) : E 309 [Pt pb] H Q := by
  cases r with
  | nil => exact he.elim
  | cons t r =>
    have ht := hok t (by simp)
    have hqc : ∀ R, Res H0 T pb rb o Bd Q R → Res H0 T pb rb o Bd (copyQ Q) R := fun R hR => by
      cases R with
      | ok z r2 => intro w H2 hw hws h2; rw [copyX]; exact hR w H2 hw hws h2
      | bad e p => intro w H2 r2 o' hws hsz hr2 h2; rw [copyX]; exact hR w H2 r2 o' hws hsz hr2 h2
    have fail : Res H0 T pb rb o Bd Q (.bad 4 t.p) → f309_j55 (Pt pb) [I 0, I 0, I 0, S ⟨#[]⟩, S ⟨#[]⟩, S ⟨#[]⟩, AV.sl 0 true .full []] H Q := fun hf => by
      rw [f309_j55_eq]
      refine c285 hps (by simp) 4 (fun H' h' => ?_)
      simp only [szX, splX, partX, ob_some]
      exact hf zX H' _ _ zX_sh (by rw [zX_size]; exact hB) (by simp) h'
    simp only [atomR] at hq
    rw [f309_eq, nil_Pt, ob_some, add_Pt, ob_some, hps.ld0, ob_some, c44' hps.rd]
    simp only [encK_sz, encK_sp, ob_some, part_f, List.getElem?_cons_zero, List.getElem?_cons_succ, i_eql]
    refine cnd_intro (fun h3 => ?_) (fun h3 => ?_)
    · have h3 : t.k = 3 := by simpa using h3
      rw [if_pos h3] at hq
      exact c311 false hps h3 ht hB (hqc _ hq)
    have h3 : t.k ≠ 3 := by simpa using h3
    rw [if_neg h3] at hq
    refine cnd_intro (fun h4 => ?_) (fun h4 => ?_)
    · have h4 : t.k = 4 := by simpa using h4
      rw [if_pos h4] at hq
      simp only [nil_Pt, ob_some, add_Pt, hps.ld0]
      refine c268' hps.rd (by omega) _ (fun o1 h1 => ?_)
      rw [c315 _ (ht.2.2 h4), constb, ob_some, szX, ob_some, splX, ob_some, partX, ob_some]
      exact hq _ _ (by rw [norm_mkl]; rfl) (constX_sh _) (hps.setr h1)
    have h4 : t.k ≠ 4 := by simpa using h4
    rw [if_neg h4] at hq
    refine cnd_intro (fun h2 => ?_) (fun h2 => ?_)
    · have h2 : t.k = 2 := by simpa using h2
      rw [if_pos h2] at hq
      simp only [nil_Pt, ob_some, add_Pt, hps.ld0]
      refine c268' hps.rd (by omega) _ (fun o1 h1 => ?_)
      exact c316 t.s (a := 0) (hps.setr h1) (endsT_tail he (by omega)) hB (hqc _ hq)
    have h2 : t.k ≠ 2 := by simpa using h2
    rw [if_neg h2] at hq
    refine cnd_intro (fun h1 => ?_) (fun h1 => ?_)
    · have h1 : t.k = 1 := by simpa using h1
      rw [if_pos h1] at hq
      have v1 : ∀ v : Vl, spliceA 0 [I v.k, I v.n, S v.s] [I 0, I 0, S ⟨#[]⟩] = some [I v.k, I v.n, S v.s] := fun v => rfl
      have v2 : ∀ v : Vl, partA true 0 3 [I v.k, I v.n, S v.s] = some (encV v) := fun v => rfl
      rw [c317]
      cases hw : wordV t.s with
      | none =>
        simp only [hw] at hq
        simp only [x20, x21, ob_some, sz3, v1, cnd_f]
        exact fail hq
      | some v =>
        simp only [hw] at hq
        simp only [x20, x21, ob_some, sz3, v1, cnd_t, nil_Pt, add_Pt, hps.ld0]
        refine c268' hps.rd (by omega) _ (fun o1 h1 => ?_)
        rw [v2, ob_some, constb, ob_some, szX, ob_some, splX, ob_some, partX, ob_some]
        exact hq _ _ (by rw [norm_mkl]; rfl) (constX_sh _) (hps.setr h1)
    have h1 : t.k ≠ 1 := by simpa using h1
    rw [if_neg h1] at hq
    refine cnd_intro (fun h5 => ?_) (fun h5 => ?_)
    · have h5 : t.k = 5 := by simpa using h5
      have hs : t.s ≠ ⟨#[40]⟩ := fun hs => by
        have : nextIs 5 wOpen (t :: r) = true := by simp [nextIs, h5, wOpen, hs]
        rw [hn] at this; cases this
      rw [s_eql, ob_some, decide_eq_false hs, cnd_f]
      exact fail hq
    · exact fail hq
theorem run_all {g : Gl} {o : Nat} {r : List Tk} {R : PR} (h : P g o r R) : ∀ (T : Nat → Nat → Prop) (H : Heap) (Q : Post), endsT r → (∀ t ∈ r, okTk t) → preG g r → PS H0 T pb rb r o 0 0 H → Res H0 T pb rb o (bnd g r) Q R → Run H0 T pb g H Q := by
  have tl : ∀ {k : Int} {s : ByteArray} {t : Tk} {r : List Tk}, k ≠ 6 → nextIs k s (t :: r) = true → endsT (t :: r) → endsT r := fun hk h he => endsT_tail he (by rw [(nextIs_cons h).1]; exact hk)
  have tl5 : ∀ {lo hi k : Int} {t : Tk} {r : List Tk}, opOf lo hi (t :: r) = some k → endsT (t :: r) → endsT r := fun h he => endsT_tail he (by rw [opOf_cons h]; decide)
  have tm : ∀ {t : Tk} {r : List Tk}, (∀ u ∈ t :: r, okTk u) → ∀ u ∈ r, okTk u := fun h u hu => h u (by simp [hu])
  have one : ∀ y : Ex, allX shX y → ∀ z ∈ [y], allX shX z := fun y hy z hz => by simp at hz; subst hz; exact hy
  have one7 : ∀ {k : Int} {y : Ex}, allX shX y → allX shX (.mk k nullV e0 e0 7 false .full [y]) := fun h => (allX_mk _ _ _ _ _ _ _ _).2 ⟨.inr rfl, h, trivial⟩
  have two7 : ∀ {k : Int} {x y : Ex}, allX shX x → allX shX y → allX shX (.mk k nullV e0 e0 7 false .full [x, y]) := fun h1 h2 => (allX_mk _ _ _ _ _ _ _ _).2 ⟨.inr rfl, h1, h2, trivial⟩
  have size1 : ∀ {k : Int} {y : Ex}, sizeX (.mk k nullV e0 e0 7 false .full [y]) = 1 + sizeX y := fun {k y} => by simp [sizeX, sizeXs]
  have size2 : ∀ {k : Int} {x y : Ex}, sizeX (.mk k nullV e0 e0 7 false .full [x, y]) = 1 + (sizeX x + sizeX y) := fun {k x y} => by simp [sizeX, sizeXs]
  induction h with
  | row_bad hp ih =>
    rename_i b o r e p
    intro T H Q he ht _ hps hq
    refine rowE b (ih T H _ he ht (pre_row b r) hps (fun y H' r1 o' hy hsz hr1 h' => ?_))
    have hr := hps.rlen
    rw [bnd_row] at hsz
    rw [mk1X, ob_some]
    refine l6_bad h' (P_ne hp _ _ rfl) b _ [y] 7 false .full (one y hy) (by simp only [sizeXs]; omega) (fun z H2 hz hzs h2 => ?_)
    rw [copyX]
    refine hq z H2 r1 o' hzs ?_ hr1 h2
    have := join_size_le hz (by simp)
    simp only [sizeXs, List.length_singleton, Nat.le_refl, if_true] at this
    show _ ≤ 2 * r.length + 1
    omega
  | row_ok hp hm ih1 ih2 =>
    rename_i b o r x r1 R
    intro T H Q he ht _ hps hq
    have hs : Suf _ _ := P_suf hp he
    have hsx := size_row hp
    have hr := hps.rlen
    refine rowE b (ih1 T H _ he ht (pre_row b r) hps (fun y H' hy hys h' => ?_))
    rw [mk1X, ob_some]
    refine ih2 T H' _ hs.1 (hs.mem ht) ⟨by simp, by simp only [sizeXs]; omega⟩ h' ?_ [y] 7 false .full (by simp [hy]) (one y hys) (.inr rfl) trivial trivial
    cases R with
    | ok z r2 => intro w H2 hw hws h2; rw [copyX]; exact hq w H2 hw hws h2
    | bad e p =>
      intro w H2 r2 o' hws hsz hr2 h2
      rw [copyX]
      refine hq w H2 r2 o' hws ?_ hr2 h2
      simp only [bnd, sizeXs] at hsz ⊢
      omega
  | more_no hn =>
    rename_i b l o r
    intro T H Q he ht hpre hps hq ys s' n' t' hyl hsh hns ho hT
    rw [f108_l6_eq, nil_Pt, ob_some, add_Pt, ob_some, hps.ld2, ob_some, i_eql, ob_some, show decide ((0 : Int) = 0) = true from rfl, cnd_t, ob_some, add_Pt, ob_some, hps.ld0, ob_some]
    refine c130 _ hps.rd (endsT_ne he) _ (fun _ => ?_) (fun t r1 ob1 e hn' h1 => by rw [hn] at hn'; cases hn')
    have hsl : sizeXs ys ≤ 2097152 := by rw [← sizeXs_norm, hyl]; have := hpre.2; omega
    refine j10_end hps b _ ys s' n' t' hsh (by omega) (fun z H' hz hzs h' => ?_)
    exact hq z H' (by rw [hz, hyl]) hzs h'
  | more_bad hn hp ih =>
    rename_i b l o t r e p
    intro T H Q he ht hpre hps hq ys s' n' t' hyl hsh hns ho hT
    rw [f108_l6_eq, nil_Pt, ob_some, add_Pt, ob_some, hps.ld2, ob_some, i_eql, ob_some, show decide ((0 : Int) = 0) = true from rfl, cnd_t, ob_some, add_Pt, ob_some, hps.ld0, ob_some]
    refine c130 _ hps.rd (endsT_ne he) _ (fun hn' => by rw [hn] at hn'; cases hn') (fun t0 r0 ob1 e' _ h1 => ?_)
    cases e'
    have h2 := hps.setr h1
    have hr := hps.rlen
    simp only [List.length_cons] at hr
    have hsl : sizeXs ys + (t :: r).length ≤ 2097152 := by rw [← sizeXs_norm, hyl]; exact hpre.2
    simp only [List.length_cons] at hsl
    have hll := len_sizeXs ys
    have ho2 : OwnS H0 (H.setObj rb ob1) 7 ys.length t' := by cases t' with
      | any => exact ho
      | full => exact ho
      | tip c => exact ho
    rw [f108_j10_eq, cnd_t]
    refine callR (H0 := H0) (T := T2 T (ys.length * 7) t') b (ih (T2 T (ys.length * 7) t') _ _ (tl (by decide) hn he) (tm ht) (pre_row b r) (h2.up ho2) (fun y H' r1 o' hy hsz hr1 h' => ?_))
    rw [bnd_row] at hsz
    rw [mk1X, ob_some]
    refine app_ps h'.down (h'.own ho2) hT hns (by omega) (fun s2 n2 t2 H3 hn2 h3 ho3 hT3 => ?_)
    refine l6_bad h3 (P_ne hp _ _ rfl) b _ (ys ++ [y]) s2 n2 t2 (fun z hz => by simp only [List.mem_append, List.mem_singleton] at hz; rcases hz with hz | hz; exact hsh z hz; subst hz; exact hy) (by rw [sizeXs_append]; simp only [sizeXs]; omega) (fun z H4 hz hzs h4 => ?_)
    refine hq z H4 r1 o' hzs ?_ hr1 h4
    have := join_size_le hz (by simp)
    rw [sizeXs_append] at this
    simp only [sizeXs] at this
    have hif : (if (ys ++ [y]).length ≤ 1 then 0 else 1) ≤ 1 := by split <;> omega
    have : sizeXs l = sizeXs ys := by rw [← hyl, sizeXs_norm]
    simp only [bnd, List.length_cons]
    omega
  | more_ok hn hp hm ih1 ih2 =>
    rename_i b l o t r x r1 R
    intro T H Q he ht hpre hps hq ys s' n' t' hyl hsh hns ho hT
    rw [f108_l6_eq, nil_Pt, ob_some, add_Pt, ob_some, hps.ld2, ob_some, i_eql, ob_some, show decide ((0 : Int) = 0) = true from rfl, cnd_t, ob_some, add_Pt, ob_some, hps.ld0, ob_some]
    refine c130 _ hps.rd (endsT_ne he) _ (fun hn' => by rw [hn] at hn'; cases hn') (fun t0 r0 ob1 e' _ h1 => ?_)
    cases e'
    have h2 := hps.setr h1
    have he' := tl (by decide) hn he
    have hs : Suf _ _ := P_suf hp he'
    have hsx := size_row hp
    have hr := hps.rlen
    simp only [List.length_cons] at hr
    have hsl : sizeXs ys + (t :: r).length ≤ 2097152 := by rw [← sizeXs_norm, hyl]; exact hpre.2
    simp only [List.length_cons] at hsl
    have hll := len_sizeXs ys
    have ho2 : OwnS H0 (H.setObj rb ob1) 7 ys.length t' := by cases t' with
      | any => exact ho
      | full => exact ho
      | tip c => exact ho
    have hsle : sizeXs l = sizeXs ys := by rw [← hyl, sizeXs_norm]
    rw [f108_j10_eq, cnd_t]
    refine callR (H0 := H0) (T := T2 T (ys.length * 7) t') b (ih1 (T2 T (ys.length * 7) t') _ _ he' (tm ht) (pre_row b r) (h2.up ho2) (fun y H' hy hys h' => ?_))
    rw [mk1X, ob_some]
    refine app_ps h'.down (h'.own ho2) hT hns (by omega) (fun s2 n2 t2 H3 hn2 h3 ho3 hT3 => ?_)
    refine ih2 T H3 _ hs.1 (hs.mem (tm ht)) ⟨by simp, by rw [sizeXs_append, hsle]; simp only [sizeXs]; omega⟩ h3 ?_ (ys ++ [y]) s2 n2 t2 (by rw [List.map_append, hyl]; simp [hy]) (fun z hz => by simp only [List.mem_append, List.mem_singleton] at hz; rcases hz with hz | hz; exact hsh z hz; subst hz; exact hys) hn2 ho3 hT3
    cases R with
    | ok z r2 => exact hq
    | bad e p =>
      intro w H2 r2 o' hws hsz hr2 h2
      refine hq w H2 r2 o' hws ?_ hr2 h2
      simp only [bnd] at hsz ⊢
      rw [sizeXs_append] at hsz
      simp only [sizeXs, List.length_cons] at hsz ⊢
      omega
  | not_no hn hp ih =>
    rename_i o r R
    intro T H Q he ht _ hps hq
    show E 187 [Pt pb] H Q
    have hn : nextIs 1 ⟨#[78, 79, 84]⟩ r = false := hn
    rw [f187_eq, c252 hps (endsT_ne he), hn, not_B, ob_some, Bool.not_false, cnd_t]
    refine ih T H (copyQ Q) he ht trivial hps ?_
    cases R with
    | ok z r2 => intro w H2 hw hws h2; rw [copyX]; exact hq w H2 hw hws h2
    | bad e p => intro w H2 r2 o' hws hsz hr2 h2; rw [copyX]; exact hq w H2 r2 o' hws hsz hr2 h2
  | not_long hn ho =>
    rename_i o r
    intro T H Q he ht _ hps hq
    show E 187 [Pt pb] H Q
    obtain ⟨t, r1, rfl, hk, _⟩ := nextIs_ne hn
    have hn : nextIs 1 ⟨#[78, 79, 84]⟩ (t :: r1) = true := hn
    rw [f187_eq, c252 hps (by simp), hn, not_B, ob_some, Bool.not_true, cnd_f]
    refine c254 hps (by omega) (fun _ H' h' => ?_) (fun ho' => by omega)
    rw [mk1X, ob_some, rowb, ob_some, szX, ob_some, splX, ob_some, partX, ob_some]
    exact hq _ H' _ _ (one7 zX_sh) (by rw [size1, zX_size]; simp only [bnd, List.length_cons]; omega) (by simp) h'
  | not_bad hn ho hp ih =>
    rename_i o t r e p
    intro T H Q he ht _ hps hq
    show E 187 [Pt pb] H Q
    have hk := (nextIs_cons hn).1
    have he' := tl (by decide) hn he
    have hn : nextIs 1 ⟨#[78, 79, 84]⟩ (t :: r) = true := hn
    rw [f187_eq, c252 hps (by simp), hn, not_B, ob_some, Bool.not_true, cnd_f]
    refine c254 hps (by omega) (fun h' => by omega) (fun _ H' h' K hK => ?_)
    refine ih T H' K he' (tm ht) trivial h' (fun y H2 r1 o' hy hsz hr1 h2 => ?_)
    refine hK y H2 r1 o' e p h2 (fun H3 h3 => ?_)
    rw [mk1X, ob_some, rowb, ob_some, szX, ob_some, splX, ob_some, partX, ob_some]
    exact hq _ H3 _ _ (one7 hy) (by rw [size1]; simp only [bnd, List.length_cons] at hsz ⊢; omega) hr1 h3
  | not_ok hn ho hp ih =>
    rename_i o t r x r1
    intro T H Q he ht _ hps hq
    show E 187 [Pt pb] H Q
    have hk := (nextIs_cons hn).1
    have he' := tl (by decide) hn he
    have hn : nextIs 1 ⟨#[78, 79, 84]⟩ (t :: r) = true := hn
    rw [f187_eq, c252 hps (by simp), hn, not_B, ob_some, Bool.not_true, cnd_f]
    refine c254 hps (by omega) (fun h' => by omega) (fun _ H' h' K hK => ?_)
    refine ih T H' K he' (tm ht) trivial h' (fun y H2 hy hys h2 => ?_)
    refine hK y H2 r1 _ 0 0 h2 (fun H3 h3 => ?_)
    have hw : W64 (((o + 1 : Nat) : Int) - 1) = (o : Int) := by rw [w64_id (by omega) (by omega)]; omega
    rw [hw] at h3
    rw [mk1X, ob_some, rowb, ob_some, szX, ob_some, splX, ob_some, partX, ob_some]
    exact hq _ H3 (by rw [norm_mkl]; simp [hy]) (one7 hys) h3
  | cmp_bad hp ih =>
    rename_i o r e p
    intro T H Q he ht _ hps hq
    show E 253 [Pt pb] H Q
    rw [f253_eq]
    refine ih T H _ he ht trivial hps (fun y H2 r1 o' hy hsz hr1 h2 => ?_)
    rw [szX, ob_some, splX, ob_some, nil_Pt, ob_some, add_Pt, ob_some, h2.ld2, ob_some, enc_err e (P_ne hp _ _ rfl), ob_some, cnd_t, partX, ob_some, szX, ob_some, splX, ob_some, partX, ob_some]
    exact hq y H2 r1 o' hy hsz hr1 h2
  | cmp_no hp hop ih =>
    rename_i o r x r1
    intro T H Q he ht _ hps hq
    show E 253 [Pt pb] H Q
    have hs : Suf _ _ := P_suf hp he
    rw [f253_eq]
    refine ih T H _ he ht trivial hps (fun y H2 hy hys h2 => ?_)
    rw [szX, ob_some, splX, ob_some, nil_Pt, ob_some, add_Pt, ob_some, h2.ld2, ob_some, enc_ok, ob_some, cnd_f]
    refine c284 h2 (endsT_ne hs.1) (fun _ H3 h3 => ?_) (fun t r2 k H3 e hk => by rw [hop] at hk; cases hk)
    rw [x20, ob_some, x21, ob_some, cnd_f, partX, ob_some, szX, ob_some, splX, ob_some, partX, ob_some]
    exact hq y H3 hy hys h3
  | cmp_bad2 hp hop hp2 ih1 ih2 =>
    rename_i o r x t r1 k e p
    intro T H Q he ht _ hps hq
    show E 253 [Pt pb] H Q
    have hs : Suf _ _ := P_suf hp he
    have hsx : _ ≤ _ := P_size hp
    rw [f253_eq]
    refine ih1 T H _ he ht trivial hps (fun y H2 hy hys h2 => ?_)
    rw [szX, ob_some, splX, ob_some, nil_Pt, ob_some, add_Pt, ob_some, h2.ld2, ob_some, enc_ok, ob_some, cnd_f]
    refine c284 h2 (endsT_ne hs.1) (fun hk => by rw [hop] at hk; cases hk) (fun t' r2 k' H3 e' hk h3 => ?_)
    cases e'
    rw [hop] at hk; cases hk
    rw [x20, ob_some, x21, ob_some, cnd_t, partX, ob_some]
    refine ih2 T H3 _ (tl5 hop hs.1) (tm (hs.mem ht)) trivial h3 (fun z H4 r3 o' hz hsz hr3 h4 => ?_)
    rw [mk2X, ob_some, rowb, ob_some, szX, ob_some, splX, ob_some, partX, ob_some]
    refine hq _ H4 r3 o' (two7 hys hz) ?_ hr3 h4
    rw [size2]
    have : sizeX y = sizeX x := by rw [← hy, norm_size]
    simp only [bnd, List.length_cons] at hsz hsx ⊢
    omega
  | cmp_ok hp hop hp2 ih1 ih2 =>
    rename_i o r x t r1 k z r2
    intro T H Q he ht _ hps hq
    show E 253 [Pt pb] H Q
    have hs : Suf _ _ := P_suf hp he
    rw [f253_eq]
    refine ih1 T H _ he ht trivial hps (fun y H2 hy hys h2 => ?_)
    rw [szX, ob_some, splX, ob_some, nil_Pt, ob_some, add_Pt, ob_some, h2.ld2, ob_some, enc_ok, ob_some, cnd_f]
    refine c284 h2 (endsT_ne hs.1) (fun hk => by rw [hop] at hk; cases hk) (fun t' r2 k' H3 e' hk h3 => ?_)
    cases e'
    rw [hop] at hk; cases hk
    rw [x20, ob_some, x21, ob_some, cnd_t, partX, ob_some]
    refine ih2 T H3 _ (tl5 hop hs.1) (tm (hs.mem ht)) trivial h3 (fun w H4 hw hws h4 => ?_)
    rw [mk2X, ob_some, rowb, ob_some, szX, ob_some, splX, ob_some, partX, ob_some]
    exact hq _ H4 (by rw [norm_mkl]; simp [hy, hw]) (two7 hys hws) h4
  | left_bad hp ih =>
    rename_i b o r e p
    intro T H Q he ht _ hps hq
    refine leftE b (ih T H _ he ht (pre_left b r) hps (fun y H' r1 o' hy hsz hr1 h' => ?_))
    rw [bnd_left] at hsz
    rw [szX, ob_some, splX, ob_some, f300_l6_eq, nil_Pt, ob_some, add_Pt, ob_some, h'.ld2, ob_some, i_eql, ob_some, decide_eq_false (P_ne hp _ _ rfl), cnd_f, partX, ob_some, szX, ob_some, splX, ob_some, partX, ob_some, copyX]
    exact hq y H' r1 o' hy hsz hr1 h'
  | left_ok hp hm ih1 ih2 =>
    rename_i b o r x r1 R
    intro T H Q he ht _ hps hq
    have hs : Suf _ _ := P_suf hp he
    have hsx := size_left hp
    refine leftE b (ih1 T H _ he ht (pre_left b r) hps (fun y H' hy hys h' => ?_))
    rw [szX, ob_some, splX, ob_some]
    refine ih2 T H' _ hs.1 (hs.mem ht) trivial h' ?_ y hy hys
    cases R with
    | ok z r2 => intro w H2 hw hws h2; rw [copyX]; exact hq w H2 hw hws h2
    | bad e p =>
      intro w H2 r2 o' hws hsz hr2 h2
      rw [copyX]
      refine hq w H2 r2 o' hws ?_ hr2 h2
      simp only [bnd] at hsz ⊢
      omega
  | lmore_no hop =>
    rename_i b x o r
    intro T H Q he ht _ hps hq y hy hys
    rw [f300_l6_eq, nil_Pt, ob_some, add_Pt, ob_some, hps.ld2, ob_some, i_eql, ob_some, show decide ((0 : Int) = 0) = true from rfl, cnd_t]
    refine c284 hps (endsT_ne he) (fun _ H3 h3 => ?_) (fun t r2 k H3 e hk => by rw [hop] at hk; cases hk)
    rw [x20, ob_some, x21, ob_some, not_B, ob_some, Bool.not_false, cnd_t, partX, ob_some, szX, ob_some, splX, ob_some, partX, ob_some]
    exact hq y H3 hy hys h3
  | lmore_bad hop hp ih =>
    rename_i b x o t r k e p
    intro T H Q he ht _ hps hq y hy hys
    rw [f300_l6_eq, nil_Pt, ob_some, add_Pt, ob_some, hps.ld2, ob_some, i_eql, ob_some, show decide ((0 : Int) = 0) = true from rfl, cnd_t]
    refine c284 hps (by simp) (fun hk => by rw [hop] at hk; cases hk) (fun t' r2 k' H3 e' hk h3 => ?_)
    cases e'
    rw [hop] at hk; cases hk
    rw [x20, ob_some, x21, ob_some, not_B, ob_some, Bool.not_true, cnd_f, partX, ob_some]
    refine callL (H0 := H0) (T := T) b (ih T H3 _ (tl5 hop he) (tm ht) (pre_left b r) h3 (fun z H4 r3 o' hz hsz hr3 h4 => ?_))
    rw [bnd_left] at hsz
    rw [mk2X, ob_some, rowb, ob_some, szX, ob_some, splX2, ob_some, f300_l6_eq, nil_Pt, ob_some, add_Pt, ob_some, h4.ld2, ob_some, i_eql, ob_some, decide_eq_false (P_ne hp _ _ rfl), cnd_f, partX, ob_some, szX, ob_some, splX, ob_some, partX, ob_some]
    refine hq _ H4 r3 o' (two7 hys hz) ?_ hr3 h4
    rw [size2]
    have : sizeX y = sizeX x := by rw [← hy, norm_size]
    simp only [bnd, List.length_cons]
    omega
  | lmore_ok hop hp hm ih1 ih2 =>
    rename_i b x o t r k z r1 R
    intro T H Q he ht _ hps hq y hy hys
    have he' := tl5 hop he
    have hs : Suf _ _ := P_suf hp he'
    have hsx := size_left hp
    rw [f300_l6_eq, nil_Pt, ob_some, add_Pt, ob_some, hps.ld2, ob_some, i_eql, ob_some, show decide ((0 : Int) = 0) = true from rfl, cnd_t]
    refine c284 hps (by simp) (fun hk => by rw [hop] at hk; cases hk) (fun t' r2 k' H3 e' hk h3 => ?_)
    cases e'
    rw [hop] at hk; cases hk
    rw [x20, ob_some, x21, ob_some, not_B, ob_some, Bool.not_true, cnd_f, partX, ob_some]
    refine callL (H0 := H0) (T := T) b (ih1 T H3 _ he' (tm ht) (pre_left b r) h3 (fun w H4 hw hws h4 => ?_))
    rw [mk2X, ob_some, rowb, ob_some, szX, ob_some, splX2, ob_some]
    refine ih2 T H4 _ hs.1 (hs.mem (tm ht)) trivial h4 ?_ _ (by rw [norm_mkl]; simp [hy, hw]) (two7 hys hws)
    cases R with
    | ok z r2 => exact hq
    | bad e p =>
      intro v H5 r2 o' hvs hsz hr2 h5
      refine hq v H5 r2 o' hvs ?_ hr2 h5
      simp only [bnd] at hsz ⊢
      rw [sizeX_nd] at hsz
      simp only [sizeXs, List.length_cons] at hsz ⊢
      omega
  | neg_no hn hp ih =>
    rename_i o r R
    intro T H Q he ht _ hps hq
    show E 306 [Pt pb] H Q
    have hn : nextIs 5 ⟨#[45]⟩ r = false := hn
    rw [f306_eq, c252 hps (endsT_ne he), hn, not_B, ob_some, Bool.not_false, cnd_t]
    refine ih T H (copyQ Q) he ht trivial hps ?_
    cases R with
    | ok z r2 => intro w H2 hw hws h2; rw [copyX]; exact hq w H2 hw hws h2
    | bad e p => intro w H2 r2 o' hws hsz hr2 h2; rw [copyX]; exact hq w H2 r2 o' hws hsz hr2 h2
  | neg_num hn hk3 =>
    rename_i o t r
    intro T H Q he ht _ hps hq
    show E 306 [Pt pb] H Q
    have he' := tl (by decide) hn he
    refine neg_pre hps hn (endsT_ne he') (fun _ H' h' => ?_) (fun hk' => (hk' hk3).elim)
    cases r with
    | nil => exact he'.elim
    | cons u r2 =>
      refine c311 true (Bd := bnd .neg (t :: u :: r2)) h' hk3 (ht u (by simp)) (by simp only [bnd]; omega) ?_
      revert hq
      cases numR true (u :: r2) with
      | ok z r2 => intro hq w H2 hw hws h2; rw [copyX]; exact hq w H2 hw hws h2
      | bad e p => intro hq w H2 r2 o' hws hsz hr2 h2; rw [copyX]; exact hq w H2 r2 o' hws hsz hr2 h2
  | neg_long hn hk3 ho =>
    rename_i o t r
    intro T H Q he ht _ hps hq
    show E 306 [Pt pb] H Q
    have he' := tl (by decide) hn he
    have hk := (nextIs_cons hn).1
    refine neg_pre hps hn (endsT_ne he') (fun hk' => (hk3 hk').elim) (fun _ H' h' => ?_)
    refine c254 h' (by omega) (fun _ H2 h2 => ?_) (fun ho' => by omega)
    rw [negX]
    exact hq _ H2 _ _ (one7 zX_sh) (by rw [size1, zX_size]; simp only [bnd, List.length_cons]; omega) (by simp) h2
  | neg_bad hn hk3 ho hp ih =>
    rename_i o t r e p
    intro T H Q he ht _ hps hq
    show E 306 [Pt pb] H Q
    have he' := tl (by decide) hn he
    have hk := (nextIs_cons hn).1
    refine neg_pre hps hn (endsT_ne he') (fun hk' => (hk3 hk').elim) (fun _ H' h' => ?_)
    refine c254 h' (by omega) (fun h' => by omega) (fun _ H2 h2 K hK => ?_)
    refine ih T H2 K he' (tm ht) trivial h2 (fun y H3 r1 o' hy hsz hr1 h3 => ?_)
    refine hK y H3 r1 o' e p h3 (fun H4 h4 => ?_)
    rw [negX]
    exact hq _ H4 _ _ (one7 hy) (by rw [size1]; simp only [bnd, List.length_cons] at hsz ⊢; omega) hr1 h4
  | neg_ok hn hk3 ho hp ih =>
    rename_i o t r x r1
    intro T H Q he ht _ hps hq
    show E 306 [Pt pb] H Q
    have he' := tl (by decide) hn he
    have hk := (nextIs_cons hn).1
    refine neg_pre hps hn (endsT_ne he') (fun hk' => (hk3 hk').elim) (fun _ H' h' => ?_)
    refine c254 h' (by omega) (fun h' => by omega) (fun _ H2 h2 K hK => ?_)
    refine ih T H2 K he' (tm ht) trivial h2 (fun y H3 hy hys h3 => ?_)
    refine hK y H3 r1 _ 0 0 h3 (fun H4 h4 => ?_)
    have hw : W64 (((o + 1 : Nat) : Int) - 1) = (o : Int) := by rw [w64_id (by omega) (by omega)]; omega
    rw [hw] at h4
    rw [negX]
    exact hq _ H4 (by rw [norm_mkl]; simp [hy]) (one7 hys) h4
  | last_atom hn =>
    rename_i o r
    intro T H Q he ht _ hps hq
    exact atom_run hps he ht hn (by simp only [bnd]; omega) hq
  | last_long hn ho =>
    rename_i o r
    intro T H Q he ht _ hps hq
    show E 309 [Pt pb] H Q
    refine last_pre hps hn ?_
    obtain ⟨t, r1, rfl, hk, _⟩ := nextIs_ne hn
    refine c254 hps (by omega) (fun _ H2 h2 => ?_) (fun ho' => by omega)
    rw [copyX]
    exact hq zX H2 _ _ zX_sh (by rw [zX_size]; simp only [bnd]; omega) (by simp) h2
  | last_bad hn ho hp ih =>
    rename_i o t r e p
    intro T H Q he ht _ hps hq
    show E 309 [Pt pb] H Q
    have he' := tl (by decide) hn he
    have hk := (nextIs_cons hn).1
    refine last_pre hps hn ?_
    refine c254 hps (by omega) (fun h' => by omega) (fun _ H2 h2 K hK => ?_)
    show E 318 [Pt pb] H2 K
    refine c318 (T := T) (r := r) (o := o) (ih T H2 _ he' (tm ht) trivial h2 (fun y H3 r1 o' hy hsz hr1 h3 => ?_))
    rw [szX, ob_some, splX, ob_some, h3.ld2, ob_some, i_eql, ob_some, decide_eq_false (P_ne hp _ _ rfl), cnd_f, f318_j7_eq, cnd_f, partX, ob_some, szX, ob_some, splX, ob_some, partX, ob_some]
    refine hK y H3 r1 o' e p h3 (fun H4 h4 => ?_)
    rw [copyX]
    exact hq _ H4 _ _ hy (by simp only [bnd, List.length_cons] at hsz ⊢; omega) hr1 h4
  | last_open hn ho hp hs ih =>
    rename_i o t r x r1
    intro T H Q he ht _ hps hq
    show E 309 [Pt pb] H Q
    have he' := tl (by decide) hn he
    have hk := (nextIs_cons hn).1
    have hsf : Suf _ _ := P_suf hp he'
    refine last_pre hps hn ?_
    refine c254 hps (by omega) (fun h' => by omega) (fun _ H2 h2 K hK => ?_)
    show E 318 [Pt pb] H2 K
    refine c318 (T := T) (r := r) (o := o) (ih T H2 _ he' (tm ht) trivial h2 (fun y H3 hy hys h3 => ?_))
    rw [szX, ob_some, splX, ob_some, h3.ld2, ob_some, i_eql, ob_some, show decide ((0 : Int) = 0) = true from rfl, cnd_t, h3.ld0, ob_some]
    refine c228 _ h3.rd (endsT_ne hsf.1) _ (fun _ => ?_) (fun u r2 o1 e' hs' _ => by rw [hs] at hs'; cases hs')
    rw [not_B, ob_some, Bool.not_false, f318_j7_eq, cnd_t]
    refine c285 h3 (endsT_ne hsf.1) 4 (fun H4 h4 => ?_)
    rw [szX, ob_some, splX, ob_some, partX, ob_some]
    refine hK zX H4 r1 _ 4 _ h4 (fun H5 h5 => ?_)
    rw [copyX]
    exact hq zX H5 _ _ zX_sh (by rw [zX_size]; simp only [bnd]; omega) (endsT_ne hsf.1) h5
  | last_ok hn ho hp hs ih =>
    rename_i o t r x u r1
    intro T H Q he ht _ hps hq
    show E 309 [Pt pb] H Q
    have he' := tl (by decide) hn he
    have hk := (nextIs_cons hn).1
    refine last_pre hps hn ?_
    refine c254 hps (by omega) (fun h' => by omega) (fun _ H2 h2 K hK => ?_)
    show E 318 [Pt pb] H2 K
    refine c318 (T := T) (r := r) (o := o) (ih T H2 _ he' (tm ht) trivial h2 (fun y H3 hy hys h3 => ?_))
    rw [szX, ob_some, splX, ob_some, h3.ld2, ob_some, i_eql, ob_some, show decide ((0 : Int) = 0) = true from rfl, cnd_t, h3.ld0, ob_some]
    refine c228 _ h3.rd (by simp) _ (fun hs' => by rw [hs] at hs'; cases hs') (fun u' r2 o1 e' _ hr2 => ?_)
    cases e'
    rw [not_B, ob_some, Bool.not_true, f318_j7_eq, cnd_f, partX, ob_some, szX, ob_some, splX, ob_some, partX, ob_some]
    have h4 := h3.setr hr2
    refine hK y _ r1 _ 0 0 h4 (fun H5 h5 => ?_)
    have hw : W64 (((o + 1 : Nat) : Int) - 1) = (o : Int) := by rw [w64_id (by omega) (by omega)]; omega
    rw [hw] at h5
    rw [copyX]
    exact hq y H5 hy hys h5
end
end Go.Hx
namespace Go.Hx
/-- a reader's state -/
structure RD (H0 : Heap) (T : Nat → Nat → Prop) (rb : Nat) (r : List Tk) (H : Heap) : Prop where
  ext : HExt H0 H
  fr : H0.fresh rb
  rd : RS rb r H
  tp : ∀ c n, T c n → H.tips c = some n
theorem PS.toRD {H0 : Heap} {T : Nat → Nat → Prop} {pb rb : Nat} {r : List Tk} {o e a : Int} {H : Heap} (h : PS H0 T pb rb r o e a H) : RD H0 T rb r H := ⟨h.ext, h.fr, h.rd, h.tp⟩
theorem RD.mono {H0 : Heap} {T : Nat → Nat → Prop} {rb : Nat} {r : List Tk} {H H' : Heap} (h : RD H0 T rb r H) (he : HExt H H') : RD H0 T rb r H' :=
  ⟨h.ext.trans he, h.fr, h.rd.mono he, fun c n hc => by have := h.tp c n hc; rw [(he c (fun hf => by rw [hf.2] at this; cases this)).2.1]; exact this⟩
/-- what Parse answers -/
def Res19 (H0 : Heap) (T : Nat → Nat → Prop) (rb : Nat) (r : List Tk) (Q : Post) : PR → Prop
  | .ok x r1 => (checkP x = 0 → ∀ y H', norm y = x → allX shX y → allX gX y → RD H0 T rb r1 H' → Q (.tup [encX y, I (posn r1), I 0]) H') ∧
      (checkP x ≠ 0 → ∀ H', RD H0 T rb r1 H' → Q (.tup [encX zX, I (posn r), I 2]) H')
  | .bad e p => ∀ H' r1, r1 ≠ [] → RD H0 T rb r1 H' → Q (.tup [encX zX, I p, I e]) H'
theorem norm_check {y : Ex} (h : sizeX y ≤ 1152921504606846975) : checkP (norm y) = checkP y := by
  rw [checkP_eq _ (by rw [norm_size]; exact h), checkP_eq _ h, norm_size, norm_allR]
theorem c19 {H0 H : Heap} {T : Nat → Nat → Prop} {rb : Nat} {r : List Tk} {Q : Post} {R : PR} (h : RD H0 T rb r H) (he : endsT r) (hok : ∀ t ∈ r, okTk t) (hP : P (.row true) 0 r R) (hq : Res19 H0 T rb r Q R) : E 19 [Pt rb] H Q := by
  have hb : bldA [(0, 1, Pt rb)] [AV.raw (.pointer none), I 0, I 0, I 0] = some (.agg [Pt rb, I 0, I 0, I 0]) := rfl
  have hs : sizedA 4 (.agg [Pt rb, I 0, I 0, I 0]) = some [Pt rb, I 0, I 0, I 0] := rfl
  rw [f19_eq, c21 h.rd (endsT_ne he), hb, ob_some, hs, ob_some]
  intro pb hf
  simp only [Pt_def]
  have hne : pb ≠ rb := fun e => by
    subst e
    obtain ⟨L, i, s', n', t', h1, _⟩ := h.rd
    rw [hf.1] at h1; cases h1
  have hfp := h.ext.fresh hf
  have ps : PS H0 T pb rb r ((0 : Nat) : Int) 0 0 (H.setObj pb (.cells [Pt rb, I 0, I 0, I 0])) :=
    ⟨h.ext.setObj hfp _, hfp, h.fr, hne, setObj_same _ _ _, by
      obtain ⟨L, i, s', n', t', h1, h2⟩ := h.rd
      exact ⟨L, i, s', n', t', by rw [setObj_ne _ _ (Ne.symm hne)]; exact h1, h2⟩, h.tp⟩
  have hlen := ps.rlen
  show Run H0 T pb (.row true) _ _
  refine run_all hP T _ _ he hok trivial ps ?_
  cases R with
  | bad e p =>
    intro y H' r1 o' _ _ hr1 h'
    have hne0 : decide (e = 0) = false := decide_eq_false (P_ne hP _ _ rfl)
    simp only [szX, splX, ob_some, nil_Pt, add_Pt, h'.ld2, h'.ld3, i_neq, hne0, Bool.not_false, cnd_t, zX_b, apL, partX]
    exact hq H' r1 hr1 h'.toRD
  | ok x r1 =>
    intro y H' hy hys h'
    have h0 : decide ((0 : Int) = 0) = true := rfl
    have hsz : sizeX x + r1.length ≤ r.length := P_size hP
    have hsuf : Suf r r1 := P_suf hP he
    have hgx : allX gX x := P_good hP hok he (fun _ _ h => by cases h) (fun _ _ h => by cases h)
    have hgy : allX gX y := (norm_gX y).1 (hy.symm ▸ hgx)
    have hys' : sizeX y = sizeX x := by rw [← hy, norm_size]
    have hoy := gX_ok hgy (by omega)
    simp only [szX, splX, ob_some, nil_Pt, add_Pt, h'.ld2, i_neq, h0, Bool.not_true, cnd_f, partX]
    refine c28 y hoy.1 H' _ (fun H2 e2 => ?_)
    have h2 := h'.mono e2
    have hcx : checkP x = checkP y := by rw [← hy]; exact norm_check (by omega)
    rw [i_neq, ob_some]
    refine cnd_intro (fun hc => ?_) (fun hc => ?_)
    · simp only [zX_b, ob_some, szX, splX, partX]
      exact hq.2 (by rw [hcx]; simpa using hc) H2 h2.toRD
    · rw [c21 h2.rd (endsT_ne hsuf.1)]
      exact hq.1 (by rw [hcx]; simpa using hc) y H2 hy hys hgy h2.toRD
/-- what a text says -/
inductive TR where
  | ok (x : Ex)
  | bad (p : Nat) (e : Int)
inductive TextR (s : ByteArray) : TR → Prop
  | lex {p : Nat} {e : Int} : lexA s = .error (p, e) → TextR s (.bad p e)
  | bad {L e p} : lexA s = .ok L → P (.row true) 0 L (.bad e p) → TextR s (.bad p e)
  | long {L x r1} : lexA s = .ok L → P (.row true) 0 L (.ok x r1) → checkP x ≠ 0 → TextR s (.bad (posn L) 2)
  | more {L x r1} : lexA s = .ok L → P (.row true) 0 L (.ok x r1) → checkP x = 0 → kindN r1 ≠ 6 → TextR s (.bad (posn r1) 4)
  | ok {L x r1} : lexA s = .ok L → P (.row true) 0 L (.ok x r1) → checkP x = 0 → kindN r1 = 6 → TextR s (.ok x)
theorem TextR_ne {s : ByteArray} {p : Nat} {e : Int} (h : TextR s (.bad p e)) : e ≠ 0 := by
  cases h with
  | lex h => exact (lexA_bad h).2
  | bad _ h => exact P_ne h _ _ rfl
  | long => decide
  | more => decide
theorem TextR_total (s : ByteArray) : ∃ R, TextR s R := by
  cases hl : lexA s with
  | error x => exact ⟨_, .lex hl⟩
  | ok L =>
    obtain ⟨R, hR, _⟩ := P_total _ (.row true) 0 L (Nat.le_refl _) (lexA_len hl).2
    cases R with
    | bad e p => exact ⟨_, .bad hl hR⟩
    | ok x r1 =>
      by_cases hc : checkP x = 0
      · by_cases hk : kindN r1 = 6
        · exact ⟨_, .ok hl hR hc hk⟩
        · exact ⟨_, .more hl hR hc hk⟩
      · exact ⟨_, .long hl hR hc⟩
end Go.Hx
namespace Go.Hx
theorem takeW_all (p : UInt8 → Bool) (l : List UInt8) : (l.takeWhile p).all p = true := by
  induction l with
  | nil => rfl
  | cons c l ih =>
    rw [List.takeWhile_cons]
    split
    · rename_i h; rw [List.all_cons, h, ih]; rfl
    · rfl
theorem takeW_head {p : UInt8 → Bool} {c : UInt8} (h : p c = true) (l : List UInt8) : (c :: l).takeWhile p = c :: l.takeWhile p := by rw [List.takeWhile_cons, if_pos h]
theorem lex1_ok {c : UInt8} {r w : List UInt8} {k : Int} {n : Nat} (hl : (c :: r).length ≤ 1099511627775) (h : lex1 (c :: r) = .tok k w n) (p : Nat) : okTk ⟨k, bs w, p⟩ := by
  have hsz : ∀ l : List UInt8, (bs l).size = l.length := fun l => by rw [← size_list]
  simp only [lex1] at h
  split at h
  · split at h
    · rename_i hu
      cases h
      have := unq_len hu
      exact ⟨by show (bs w).size ≤ _; rw [hsz]; omega, fun hk => (by cases hk), fun _ => by show (bs w).size ≤ _; rw [hsz]; omega⟩
    · cases h
  · have tw : ∀ (p : UInt8 → Bool), (bs ((c :: r).takeWhile p)).size ≤ 1099511627775 := fun p => by have := tw_le p (c :: r); rw [hsz]; omega
    split at h
    · simp only [wordT] at h
      split at h
      · cases h
      · cases h; exact ⟨tw _, fun hk => (by cases hk), fun hk => (by cases hk)⟩
    · split at h
      · simp only [wordT] at h
        split at h
        · cases h
        · cases h; exact ⟨tw _, fun hk => (by cases hk), fun hk => (by cases hk)⟩
      · split at h
        · rename_i hd
          simp only [intT] at h
          split at h
          · cases h
          · rename_i hn
            cases h
            refine ⟨tw _, fun _ => ?_, fun hk => (by cases hk)⟩
            show DigL false (tx (bs _))
            rw [tx_bs]
            refine ⟨by rw [takeW_head hd]; simp, takeW_all _ _, ?_⟩
            rw [takeW_head hd] at hn ⊢
            have hn : ¬ (19 < (c :: r.takeWhile digB).length ∨ (1 < (c :: r.takeWhile digB).length ∧ some c.toNat = some 48)) := hn
            by_cases h48 : c.toNat = 48
            · right
              refine ⟨rfl, ?_⟩
              have h1 : ¬ 1 < (c :: r.takeWhile digB).length := fun h1 => hn (.inr ⟨h1, by rw [h48]⟩)
              simp only [List.length_cons] at h1 ⊢
              omega
            · left; simp [h48]
        · simp only [signF] at h
          split at h
          · cases h
          · rename_i w' hw
            cases h
            have hm := List.mem_of_find?_eq_some hw
            have : ∀ w ∈ signW, w.length ≤ 2 := by decide
            have := this _ hm
            exact ⟨by show (bs w).size ≤ _; rw [hsz]; omega, fun hk => (by cases hk), fun hk => (by cases hk)⟩
theorem lexW_ok : ∀ (m p : Nat) (r : List UInt8), r.length ≤ m → m ≤ 1099511627775 → ∀ l, lexW p r = .ok l → ∀ t ∈ l, okTk t := by
  have hend : ∀ p, okTk ⟨6, e0, p⟩ := fun p => ⟨by show 0 ≤ _; omega, fun hk => (by cases hk), fun hk => (by cases hk)⟩
  intro m
  induction m with
  | zero =>
    intro p r hr _ l h
    have : r = [] := List.eq_nil_of_length_eq_zero (by omega)
    subst this
    rw [lexW] at h; cases h
    intro t ht; simp at ht; subst ht; exact hend p
  | succ m ih =>
    intro p r hr hm l h
    cases r with
    | nil =>
      rw [lexW] at h; cases h
      intro t ht; simp at ht; subst ht; exact hend p
    | cons c r =>
      rw [lexW] at h
      simp only [List.length_cons] at hr
      split at h
      · exact ih _ r (by omega) (by omega) _ h
      · split at h
        · cases h
        · rename_i k w n hL
          have hn := lex1_len hL
          split at h
          · cases h
          · rename_i l' hl'
            cases h
            have := ih _ (r.drop (n - 1)) (by simp; omega) (by omega) _ hl'
            intro t ht
            rcases List.mem_cons.1 ht with rfl | ht
            · exact lex1_ok (by simp only [List.length_cons]; omega) hL p
            · exact this t ht
theorem lexA_ok {s : ByteArray} {l : List Tk} (h : lexA s = .ok l) : ∀ t ∈ l, okTk t := by
  simp only [lexA] at h
  split at h
  · cases h
  · have hs : (tx s).length = s.size := size_list s
    exact lexW_ok 8192 0 (tx s) (by omega) (by omega) _ h
theorem x3_0' (a b c : AV) : extractA (.tup [a, b, c]) 0 = some a := rfl
/-- what Text answers -/
def Res13 (H : Heap) (s : ByteArray) (Q : Post) : TR → Prop
  | .ok x => ∀ y H', HExt H H' → norm y = x → allX shX y → allX gX y → checkP x = 0 → sizeX y ≤ 100 → Q (.tup [encX y, I s.size, I 0]) H'
  | .bad p e => ∀ H', HExt H H' → Q (.tup [encX zX, I p, I e]) H'
theorem check_size {x : Ex} (h : checkP x = 0) (hs : sizeX x ≤ 1152921504606846975) : sizeX x ≤ 100 := by
  rw [checkP_eq x hs] at h
  split at h
  · cases h
  · omega
theorem c13 (s : ByteArray) (hsz : s.size ≤ 1099511627776) (H : Heap) (Q : Post) {R : TR} (hR : TextR s R) (hq : Res13 H s Q R) : E 13 [S s] H Q := by
  have nz : ∀ {e : Int}, e ≠ 0 → decide (e = 0) = false := fun h => decide_eq_false h
  rw [f13_eq]
  refine c16 s hsz H _ (fun v H1 hv h1 hfr => ?_)
  cases hl : lexA s with
  | error x =>
    obtain ⟨p, e⟩ := x
    rw [hl] at hv
    have hv : v = .tup [.raw (.pointer none), I p, I e] := hv
    subst hv
    have hne := nz (lexA_bad hl).2
    simp only [x3_0, x3_1, x3_2, ob_some, i_neq, hne, Bool.not_false, cnd_t, zX_b, szX, splX, partX]
    cases hR with
    | lex h => rw [hl] at h; cases h; exact hq H1 h1
    | bad h => rw [hl] at h; cases h
    | long h => rw [hl] at h; cases h
    | more h => rw [hl] at h; cases h
    | ok h => rw [hl] at h; cases h
  | ok L =>
    rw [hl] at hv
    obtain ⟨b, rfl, hb⟩ := hv
    have h0 : decide ((0 : Int) = 0) = true := rfl
    simp only [x3_0, x3_1, x3_2, ob_some, i_neq, h0, Bool.not_true, cnd_f]
    have hbf := hfr b _ rfl
    have rd : RD H (fun _ _ => False) b L H1 := ⟨h1, hbf, hb, fun _ _ h => h.elim⟩
    have hls := lexA_len hl
    have ho := lexA_ok hl
    cases hR with
    | lex h => rw [hl] at h; cases h
    | bad h hP =>
      rw [hl] at h; cases h
      refine c19 rd hls.2 ho hP (fun H' r1 _ h' => ?_)
      simp only [x3_0, x3_1, x3_2, ob_some, i_neq, nz (P_ne hP _ _ rfl), Bool.not_false, cnd_t, zX_b, szX, splX, partX]
      exact hq H' h'.ext
    | long h hP hc =>
      rw [hl] at h; cases h
      refine c19 rd hls.2 ho hP ⟨fun h0 => (hc h0).elim, fun _ H' h' => ?_⟩
      have h2 : decide ((2 : Int) = 0) = false := rfl
      simp only [x3_0, x3_1, x3_2, ob_some, i_neq, h2, Bool.not_false, cnd_t, zX_b, szX, splX, partX]
      exact hq H' h'.ext
    | @more L' x r1 h hP hc hk =>
      rw [hl] at h; cases h
      have hsuf : Suf _ _ := P_suf hP hls.2
      refine c19 rd hls.2 ho hP ⟨fun _ y H' hy hys hgy h' => ?_, fun h0 => (h0 hc).elim⟩
      cases r1 with
      | nil => exact hsuf.1.elim
      | cons t r2 =>
        have hk : decide (t.k = 6) = false := decide_eq_false hk
        simp only [x3_0, x3_1, x3_2, ob_some, h0, Bool.not_true, cnd_f, i_neq, Bool.not_false, cnd_t, zX_b, szX, splX, partX]
        rw [c44' h'.rd]
        simp only [fK0, ob_some, i_neq, hk, Bool.not_false, cnd_t]
        rw [c21 h'.rd (by simp)]
        exact hq H' h'.ext
    | @ok L' x r1 h hP hc hk =>
      rw [hl] at h; cases h
      have hsuf : Suf _ _ := P_suf hP hls.2
      have hsz : _ ≤ _ := P_size hP
      refine c19 rd hls.2 ho hP ⟨fun _ y H' hy hys hgy h' => ?_, fun h0 => (h0 hc).elim⟩
      cases r1 with
      | nil => exact hsuf.1.elim
      | cons t r2 =>
        have hk : decide (t.k = 6) = true := decide_eq_true hk
        simp only [x3_0, x3_1, x3_2, ob_some, h0, Bool.not_true, cnd_f, i_neq, szX, splX, partX, len_S]
        rw [c44' h'.rd]
        simp only [fK0, ob_some, i_neq, hk, Bool.not_true, cnd_f]
        exact hq y H' h'.ext hy hys hgy hc (by have := check_size hc (by omega); rw [← hy, norm_size] at this; exact this)
end Go.Hx
namespace Go.Hx
def awS : ByteArray := ⟨#[97, 46, 120, 32, 60, 32, 49]⟩
def awL : List Tk := [⟨2, bs [97], 0⟩, ⟨5, bs [46], 1⟩, ⟨2, bs [120], 2⟩, ⟨5, bs [60], 4⟩, ⟨3, bs [49], 6⟩, ⟨6, e0, 7⟩]
theorem lexW_tok {p : Nat} {c : UInt8} {r w r' : List UInt8} {k : Int} {n : Nat} {l : List Tk} (hb : blankB c = false) (h : lex1 (c :: r) = .tok k w n) (hr : r.drop (n - 1) = r') (hl : lexW (p + n) r' = .ok l) : lexW p (c :: r) = .ok (⟨k, bs w, p⟩ :: l) := by
  rw [lexW, if_neg (by rw [hb]; decide)]
  simp only [h, hr, hl]
theorem lexW_skip {p : Nat} {c : UInt8} {r : List UInt8} {R : Except (Nat × Int) (List Tk)} (hb : blankB c = true) (hl : lexW (p + 1) r = R) : lexW p (c :: r) = R := by
  rw [lexW, if_pos hb, hl]
theorem aw_lex : lexA awS = .ok awL := by
  have h0 : lexA awS = lexW 0 [97, 46, 120, 32, 60, 32, 49] := by rw [lexA, if_neg (by decide)]; rfl
  rw [h0]
  refine lexW_tok rfl (k := 2) (w := [97]) (n := 1) (by kernel_rfl) (r' := [46, 120, 32, 60, 32, 49]) rfl ?_
  refine lexW_tok rfl (k := 5) (w := [46]) (n := 1) (by kernel_rfl) (r' := [120, 32, 60, 32, 49]) rfl ?_
  refine lexW_tok rfl (k := 2) (w := [120]) (n := 1) (by kernel_rfl) (r' := [32, 60, 32, 49]) rfl ?_
  refine lexW_skip rfl ?_
  refine lexW_tok rfl (k := 5) (w := [60]) (n := 1) (by kernel_rfl) (r' := [32, 49]) rfl ?_
  refine lexW_skip rfl ?_
  refine lexW_tok rfl (k := 3) (w := [49]) (n := 1) (by kernel_rfl) (r' := []) rfl ?_
  rw [lexW]

def awX : Ex := nd 11 nullV e0 e0 [nd 2 nullV (bs [97]) (bs [120]) [], nd 1 (intV 1) e0 e0 []]
theorem aw_P : P (.row true) 0 awL (.ok awX [⟨6, e0, 7⟩]) := by
  have atom : ∀ {r : List Tk} {x : Ex} {r1 : List Tk}, atomR r = .ok x r1 → nextIs 5 wOpen r = false → nextIs 5 wMinus r = false → opOf 6 8 r1 = none → opOf 4 5 r1 = none → P (.left true) 0 r (.ok x r1) := fun {r x r1} h h1 h2 h3 h4 => by
    have l : P .neg 0 r (.ok x r1) := .neg_no h2 (h ▸ .last_atom h1)
    exact .left_ok (b := true) (.left_ok (b := false) l (.lmore_no h3)) (.lmore_no h4)
  have h1 : P (.left true) 0 awL (.ok (nd 2 nullV (bs [97]) (bs [120]) []) [⟨5, bs [60], 4⟩, ⟨3, bs [49], 6⟩, ⟨6, e0, 7⟩]) := atom rfl rfl rfl rfl rfl
  have h2 : P (.left true) 0 [⟨3, bs [49], 6⟩, ⟨6, e0, 7⟩] (.ok (nd 1 (intV 1) e0 e0 []) [⟨6, e0, 7⟩]) := atom rfl rfl rfl rfl rfl
  have hc : P .cmp 0 awL (.ok awX [⟨6, e0, 7⟩]) := .cmp_ok h1 (show opOf 9 14 _ = some 11 from rfl) h2
  have j1 : joinE (rowK false) [awX] = awX := rfl
  have j2 : joinE (rowK true) [awX] = awX := rfl
  have hm1 : P (.more false [awX]) 0 [⟨6, e0, 7⟩] (.ok awX [⟨6, e0, 7⟩]) := by
    have := P.more_no (b := false) (l := [awX]) (o := 0) (r := [⟨6, e0, 7⟩]) rfl
    rw [j1] at this; exact this
  have hm2 : P (.more true [awX]) 0 [⟨6, e0, 7⟩] (.ok awX [⟨6, e0, 7⟩]) := by
    have := P.more_no (b := true) (l := [awX]) (o := 0) (r := [⟨6, e0, 7⟩]) rfl
    rw [j2] at this; exact this
  exact .row_ok (b := true) (.row_ok (b := false) (.not_no rfl hc) hm1) hm2
theorem aw_T : TextR awS (.ok awX) := .ok aw_lex aw_P (by decide +kernel) rfl
theorem c18 (H : Heap) (Q : Post) (hq : ∀ H', HExt H H' → Q (B true) H') : E 18 [] H Q := by
  rw [f18_eq]
  refine c13 awS (by decide) H _ aw_T (fun y H' he hy _ _ _ _ => ?_)
  have hk : y.k = 11 := by rw [← norm_k, hy]; rfl
  have e11 : partA false 0 1 (encC y) = some (I 11) := by rw [q0X, hk]
  have h0 : decide ((0 : Int) = 0) = true := rfl
  have h7 : decide (((awS.size : Nat) : Int) = 7) = true := rfl
  have h11 : decide ((11 : Int) = 11) = true := rfl
  simp only [x3_0, x3_1, x3_2, ob_some, szX, splX, i_eql, h0, h7, h11, cnd_t, e11]
  rw [f18_j6_eq]
  exact hq H' he
end Go.Hx
