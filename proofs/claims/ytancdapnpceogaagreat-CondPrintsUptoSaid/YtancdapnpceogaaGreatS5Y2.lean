/- What digits are worth: num.Parse and the document's. Own work. -/
import Derived.Test.YtancdapnpceogaaGreatS5Y
set_option maxRecDepth 20000
namespace Go.Hx
def valF (acc : Nat) (l : List UInt8) : Nat := l.foldl (fun n c => 10 * n + (c.toNat - 48)) acc
theorem valD_eq (l : List UInt8) : valD l = valF 0 l := rfl
theorem valF_ge : ∀ (l : List UInt8) (a : Nat), a ≤ valF a l := by
  intro l
  induction l with
  | nil => intro a; exact Nat.le_refl a
  | cons c l ih => intro a; have := ih (10 * a + (c.toNat - 48)); simp only [valF, List.foldl_cons] at this ⊢; omega
def numV (m : Bool) (d : ByteArray) : Int × Int := match numOf m d with
  | some n => (n, 0)
  | none => (0, 10)
/-- digits as a number's text has them -/
def DigL (m : Bool) (d : List UInt8) : Prop := d ≠ [] ∧ d.all digB = true ∧ (d.head?.map (·.toNat) ≠ some 48 ∨ (m = false ∧ d.length = 1))
def numB (m : Bool) (d : List UInt8) : List UInt8 := (if m = true then [45] else []) ++ d
theorem digB_iff {c : UInt8} : digB c = true ↔ 48 ≤ c.toNat ∧ c.toNat ≤ 57 := by
  show digI (c.toNat : Nat) = true ↔ _
  simp only [digI, Bool.and_eq_true, decide_eq_true_eq]; omega
theorem sub48 {c : UInt8} (h : digB c = true) : binA Pg .sub 5 true (byteA c) (AV.raw (.int .u8 48)) = some (U8 ((c.toNat - 48 : Nat) : Int)) := by
  have h := digB_iff.1 h
  have : ∀ n : Fin 10, IntKind.u8.wrap (((48 + n.1 : Nat) : Int) - 48) = (n.1 : Int) := by decide +kernel
  have := this ⟨c.toNat - 48, by omega⟩
  show some (AV.raw (.int .u8 (IntKind.u8.wrap ((c.toNat : Int) - 48)))) = _
  have e : ((c.toNat : Nat) : Int) = ((48 + (c.toNat - 48) : Nat) : Int) := by omega
  rw [e, this]
theorem cv64 (n : Nat) (h : n < 10) : cvtIA .i64 (U8 (n : Int)) = some (I (n : Int)) := by
  show some (AV.raw (.int .i64 (W64 (n : Int)))) = _
  rw [w64_nat (by omega)]; rfl
theorem mul10 {a : Nat} (h : a ≤ 9223372036854775808) : mulN (-(a : Int)) 10 = inOr (-((10 * a : Nat) : Int)) := by
  rw [mulN_eq ⟨by omega, by omega⟩ ⟨by omega, by omega⟩]; congr 1; omega
theorem mul10R {a : Nat} (h : a ≤ 9223372036854775808) : mulR (-(a : Int)) 10 = inOr (-((10 * a : Nat) : Int)) := by
  rw [mulR_eq ⟨by omega, by omega⟩ ⟨by omega, by omega⟩]; congr 1; omega
theorem inOr_ok {a : Nat} (h : a ≤ 9223372036854775808) : inOr (-(a : Int)) = (-(a : Int), 0) := by simp only [inOr]; rw [if_pos (by omega)]
theorem inOr_no {a : Nat} (h : 9223372036854775808 < a) : inOr (-(a : Int)) = (0, 10) := by simp only [inOr]; rw [if_neg (by omega)]
theorem sub_dig {a d : Nat} (h : a ≤ 9223372036854775808) (hd : d < 10) : subN (-(a : Int)) (d : Int) = inOr (-((a + d : Nat) : Int)) := by
  rw [subN_eq ⟨by omega, by omega⟩ ⟨by omega, by omega⟩]; congr 1; omega
theorem sub_digR {a d : Nat} (h : a ≤ 9223372036854775808) (hd : d < 10) : subR (-(a : Int)) (d : Int) = inOr (-((a + d : Nat) : Int)) := by
  rw [subR_eq ⟨by omega, by omega⟩ ⟨by omega, by omega⟩]; congr 1; omega
theorem numV_over {m : Bool} {d : List UInt8} (h : 9223372036854775808 < valD d) : numV m (bs d) = (0, 10) := by
  simp only [numV, numOf, tx_bs]
  rw [if_neg (by omega : ¬ valD d ≤ 9223372036854775808), if_neg (by omega : ¬ valD d ≤ 9223372036854775807)]
  cases m <;> rfl
theorem enc_err (e : Int) (he : e ≠ 0) (t : TypeId) : binA Pg .neq t true (I e) (I 0) = some (B true) := by rw [i_neq, decide_eq_false he]; rfl
theorem enc_ok (t : TypeId) : binA Pg .neq t true (I 0) (I 0) = some (B false) := rfl
theorem neg_num (m : Bool) (d : List UInt8) (h : valD d ≤ 9223372036854775808) : (if m = true then ((-(valD d : Int), 0) : Int × Int) else negN (-(valD d : Int))) = numV m (bs d) := by
  simp only [numV, numOf, tx_bs]
  cases m with
  | true => simp only [if_true, if_pos h]
  | false =>
    simp only [Bool.false_eq_true, if_false, negN]
    by_cases h1 : valD d ≤ 9223372036854775807
    · rw [if_pos h1, if_neg (by omega), w64_id (by omega) (by omega)]
      congr 1; omega
    · rw [if_neg h1, if_pos (by omega)]
theorem ixb (nil : Bool) (tip : Tip) (l pre r : List UInt8) (c : UInt8) (e : l = pre ++ c :: r) : ixaA 1 (.sl 1 nil tip (l.map byteA)) (I pre.length) = some [byteA c] :=
  ix_mk 1 nil tip _ pre.length (x := byteA c) (by rw [e]; exact get_mid byteA pre r c) rfl
theorem c269_l (m : Bool) (d : List UInt8) (hl : d.length ≤ 1099511627776) (hd : d.all digB = true) (H : Heap) (Q : Post) : ∀ (r pre : List UInt8) (a : Nat), d = pre ++ r → a ≤ 9223372036854775808 → valF a r = valD d →
    f269_l18 (B m) (I (-(a : Int))) (.sl 1 false .any (d.map byteA)) (I d.length) (I pre.length) H Q = Q (encN (numV m (bs d))) H := by
  intro r
  induction r with
  | nil =>
    intro pre a e ha hv
    have h1 : (pre.length : Int) = d.length := by rw [e]; simp
    have hv : a = valD d := hv
    rw [f269_l18_eq, i_lss, ob_some, cnd_B, h1]
    simp only [Int.lt_irrefl, decide_false, Bool.false_eq_true, if_false]
    rw [← neg_num m d (by omega), ← hv]
    cases m with
    | true => rw [cnd_t]; rfl
    | false => rw [cnd_f, c295, extN0, ob_some, extN1, ob_some]; rfl
  | cons c r ih =>
    intro pre a e ha hv
    have hlt : pre.length < d.length := by rw [e]; simp
    have hlt' : (pre.length : Int) < d.length := by omega
    have hc : digB c = true := List.all_eq_true.1 hd c (by rw [e]; simp)
    have hcd := digB_iff.1 hc
    have hv' : valF (10 * a + (c.toNat - 48)) r = valD d := hv
    have hge := valF_ge r (10 * a + (c.toNat - 48))
    rw [f269_l18_eq, i_lss, ob_some, cnd_B, if_pos (by simpa using hlt'), ixb false .any d pre r c e, ob_some, part_f, List.getElem?_cons_zero, ob_some, c293, mul10 ha, extN0, ob_some, extN1, ob_some]
    by_cases h1 : 10 * a ≤ 9223372036854775808
    · rw [inOr_ok h1]
      simp only [enc_ok, ob_some, cnd_f, sub48 hc, cv64 (c.toNat - 48) (by omega)]
      rw [c294, sub_dig h1 (by omega), extN0, ob_some, extN1, ob_some]
      by_cases h2 : 10 * a + (c.toNat - 48) ≤ 9223372036854775808
      · rw [inOr_ok h2]
        simp only [enc_ok, ob_some, cnd_f]
        rw [i_add, ob_some, w64_succ hlt (by omega)]
        have := ih (pre ++ [c]) (10 * a + (c.toNat - 48)) (by simp [e]) h2 hv'
        rw [List.length_append, List.length_singleton] at this
        exact this
      · rw [inOr_no (by omega)]
        simp only [enc_err 10 (by decide), ob_some, cnd_t]
        rw [numV_over (by omega)]; rfl
    · rw [inOr_no (by omega)]
      simp only [enc_err 10 (by decide), ob_some, cnd_t]
      rw [numV_over (by omega)]; rfl
theorem c292_l (m : Bool) (d : List UInt8) (hl : d.length ≤ 1099511627776) (hd : d.all digB = true) (H : Heap) (Q : Post) : ∀ (r pre : List UInt8), d = pre ++ r →
    f292_l22 (S (bs d)) (B m) (.sl 1 false .any (d.map byteA)) (I d.length) (I pre.length) H Q = Q (.tup [S (bs d), B m, B true]) H := by
  intro r
  induction r with
  | nil =>
    intro pre e
    have h1 : (pre.length : Int) = d.length := by rw [e]; simp
    rw [f292_l22_eq, i_lss, ob_some, cnd_B, h1]
    simp only [Int.lt_irrefl, decide_false, Bool.false_eq_true, if_false]
  | cons c r ih =>
    intro pre e
    have hlt : pre.length < d.length := by rw [e]; simp
    have hlt' : (pre.length : Int) < d.length := by omega
    have hc : digB c = true := List.all_eq_true.1 hd c (by rw [e]; simp)
    have hcd := digB_iff.1 hc
    have l1 : binA Pg .lss 5 true (byteA c) (AV.raw (.int .u8 48)) = some (B false) := by rw [byteA, k_lss, decide_eq_false (by omega)]
    have l2 : binA Pg .gtr 5 true (byteA c) (AV.raw (.int .u8 57)) = some (B false) := by rw [byteA, k_gtr, decide_eq_false (by omega)]
    rw [f292_l22_eq, i_lss, ob_some, cnd_B, if_pos (by simpa using hlt'), ixb false .any d pre r c e, ob_some, part_f, List.getElem?_cons_zero, ob_some, l1, ob_some, cnd_f, l2, ob_some, f292_j35_eq, cnd_f, i_add, ob_some, w64_succ hlt (by omega)]
    have := ih (pre ++ [c]) (by simp [e])
    rw [List.length_append, List.length_singleton] at this
    exact this
theorem e45 (c : UInt8) : binA Pg .eql 5 true (U8 c.toNat) (AV.raw (.int .u8 45)) = some (B (decide (c.toNat = 45))) := b_eq39 c 45 5 true
theorem e48 (c : UInt8) : binA Pg .eql 5 true (U8 c.toNat) (AV.raw (.int .u8 48)) = some (B (decide (c.toNat = 48))) := b_eq39 c 48 5 true
theorem ix0 (c : UInt8) (r : List UInt8) : ixA (S (bs (c :: r))) (I 0) = some (U8 c.toNat) := ixS (bs (c :: r)) [] r c (by rw [← tx_bs (c :: r)]; simp)
theorem s_ne {c : UInt8} {r : List UInt8} (t : TypeId) (l : Bool) : binA Pg .eql t l (S (bs (c :: r))) (S ⟨#[]⟩) = some (B false) := by
  rw [s_eql, decide_eq_false]
  intro h
  have : bs (c :: r) = bs [] := h
  have := bs_inj.1 this
  cases this
theorem c292 (m : Bool) (d : List UInt8) (hl : d.length ≤ 1099511627775) (hd : DigL m d) (H : Heap) (Q : Post) : E 292 [S (bs (numB m d))] H Q = Q (.tup [S (bs d), B m, B true]) H := by
  obtain ⟨hne, hall, hz⟩ := hd
  cases d with
  | nil => exact (hne rfl).elim
  | cons c r =>
    have hc : digB c = true := List.all_eq_true.1 hall c (by simp)
    have hcd := digB_iff.1 hc
    have fin : ∀ K : Prop, f292_j13 (S (bs (c :: r))) (B m) (B false) H Q = Q (.tup [S (bs (c :: r)), B m, B true]) H := fun _ => by
      rw [f292_j13_eq, cnd_f]
      show ob (lenA (.sl 1 false .any ((tx (bs (c :: r))).map byteA))) (fun r17 => f292_l22 (S (bs (c :: r))) (B m) (.sl 1 false .any ((tx (bs (c :: r))).map byteA)) r17 (I 0) H Q) = _
      rw [tx_bs, len_sl, ob_some, List.length_map]
      exact c292_l m (c :: r) (by omega) hall H Q (c :: r) [] rfl
    have hs0 : binA Pg .gtr 3 true (I ((numB m (c :: r)).length : Nat)) (I 0) = some (B true) := by
      rw [i_gtr, decide_eq_true]; simp [numB]; omega
    rw [f292_eq, len_S, ob_some, bs_size, hs0, ob_some, cnd_t]
    cases m with
    | true =>
      have hz : c.toNat ≠ 48 := by rcases hz with hz | hz <;> simp at hz; exact hz
      have e0 : numB true (c :: r) = 45 :: c :: r := rfl
      rw [e0, ix0, ob_some, e45, ob_some]
      have : decide ((45 : UInt8).toNat = 45) = true := rfl
      have sl : sliceSA (S (bs (45 :: c :: r))) (some (I 1)) none = some (S (bs (c :: r))) := slS_from (pre := [45]) (by rw [tx_bs]; rfl)
      rw [this, f292_j7_eq, cnd_t, sl, ob_some, s_ne, ob_some, cnd_f, ix0, ob_some, e48, ob_some, decide_eq_false hz, cnd_f]
      exact fin True
    | false =>
      have e0 : numB false (c :: r) = c :: r := rfl
      rw [e0, ix0, ob_some, e45, ob_some, decide_eq_false (by omega), f292_j7_eq, cnd_f, s_ne, ob_some, cnd_f, ix0, ob_some, e48, ob_some]
      by_cases h48 : c.toNat = 48
      · have h1 : r = [] := by
          rcases hz with hz | hz
          · simp [h48] at hz
          · simpa using hz.2
        subst h1
        rw [decide_eq_true h48, cnd_t, len_S, ob_some]
        exact fin True
      · rw [decide_eq_false h48, cnd_f]; exact fin True
theorem c269 (m : Bool) (d : List UInt8) (hl : d.length ≤ 1099511627775) (hd : DigL m d) (H : Heap) (Q : Post) : E 269 [S (bs (numB m d))] H Q = Q (encN (numV m (bs d))) H := by
  rw [f269_eq, c292 m d hl hd]
  simp only [x3_0, x3_1, x3_2, ob_some, not_B, Bool.not_true, cnd_f]
  show ob (lenA (.sl 1 false .any ((tx (bs d)).map byteA))) (fun r8 => f269_l18 (B m) (I 0) (.sl 1 false .any ((tx (bs d)).map byteA)) r8 (I 0) H Q) = _
  rw [tx_bs, len_sl, ob_some, List.length_map]
  exact c269_l m d (by omega) hd.2.1 H Q d [] 0 rfl (by omega) rfl
/-! ### The document's -/
theorem c220_l (m : Bool) (d : List UInt8) (hl : d.length ≤ 1099511627775) (hd : d.all digB = true) (H : Heap) (Q : Post) : ∀ (r pre : List UInt8) (a : Nat) (ov : Bool), d = pre ++ r → a ≤ 9223372036854775808 → (ov = false → valF a r = valD d) → (ov = true → 9223372036854775808 < valD d) →
    f220_l26 (S (bs (numB m d))) (S (bs d)) (I (-(a : Int))) (B ov) (I pre.length) H Q = Q (encN (numV m (bs d))) H := by
  intro r
  induction r with
  | nil =>
    intro pre a ov e ha hv ho
    have h1 : (pre.length : Int) = d.length := by rw [e]; simp
    have hlt : decide ((pre.length : Int) < (d.length : Int)) = false := by rw [h1]; simp
    have heq : binA Pg .eql 9 false (S (bs d)) (S (bs (numB m d))) = some (B (!m)) := by
      rw [s_eql]
      cases m with
      | true =>
        have : bs d ≠ bs (numB true d) := fun h => by
          have := congrArg List.length (bs_inj.1 h)
          simp [numB] at this
        rw [decide_eq_false this]; rfl
      | false => rw [decide_eq_true (show bs d = bs (numB false d) from rfl)]; rfl
    rw [f220_l26_eq, len_S, bs_size, ob_some, i_lss, ob_some, hlt, cnd_f, heq, ob_some]
    cases ov with
    | true =>
      rw [numV_over (ho rfl)]
      cases m with
      | true => rw [Bool.not_true, cnd_f, cnd_t]; rfl
      | false => rw [Bool.not_false, cnd_t, c272, extN0, ob_some, extN1, ob_some, cnd_t, f220_j59_eq, cnd_t]; rfl
    | false =>
      have hv : a = valD d := hv rfl
      have hn := neg_num m d (by omega)
      rw [← hv] at hn
      rw [← hn]
      cases m with
      | true => rw [Bool.not_true, cnd_f, cnd_f]; rfl
      | false =>
        rw [Bool.not_false, cnd_t, c272, extN0, ob_some, extN1, ob_some, cnd_f, i_neq, ob_some, f220_j59_eq]
        simp only [Bool.false_eq_true, if_false, negN]
        split
        · rfl
        · rfl
  | cons c r ih =>
    intro pre a ov e ha hv ho
    have hlt : pre.length < d.length := by rw [e]; simp
    have hlt' : decide ((pre.length : Int) < (d.length : Int)) = true := by simp; omega
    have hc : digB c = true := List.all_eq_true.1 hd c (by rw [e]; simp)
    have hcd := digB_iff.1 hc
    have hge := valF_ge r (10 * a + (c.toNat - 48))
    have ix : ixA (S (bs d)) (I pre.length) = some (byteA c) := ixS (bs d) pre r c ((tx_bs d).trans e)
    have l1 : binA Pg .lss 5 true (byteA c) (AV.raw (.int .u8 48)) = some (B false) := by rw [byteA, k_lss, decide_eq_false (by omega)]
    have l2 : binA Pg .gtr 5 true (byteA c) (AV.raw (.int .u8 57)) = some (B false) := by rw [byteA, k_gtr, decide_eq_false (by omega)]
    rw [f220_l26_eq, len_S, bs_size, ob_some, i_lss, ob_some, hlt', cnd_t, ix, ob_some, l1, ob_some, cnd_f, ob_some, l2, ob_some, f220_j38_eq, cnd_f, c270, mul10R ha, extN0, ob_some, extN1, ob_some, ix, ob_some, sub48 hc, ob_some, cv64 (c.toNat - 48) (by omega), ob_some]
    have next : ∀ (a' : Nat) (ov' : Bool), a' ≤ 9223372036854775808 → (ov' = false → valF a' r = valD d) → (ov' = true → 9223372036854775808 < valD d) →
        f220_j49 (S (bs (numB m d))) (S (bs d)) (B ov') (I pre.length) (I (-(a' : Int))) H Q = Q (encN (numV m (bs d))) H := fun a' ov' h1 h2 h3 => by
      rw [f220_j49_eq, i_add, ob_some, w64_succ hlt (by omega)]
      have := ih (pre ++ [c]) a' ov' (by simp [e]) h1 h2 h3
      rw [List.length_append, List.length_singleton] at this
      exact this
    by_cases h1 : 10 * a ≤ 9223372036854775808
    · rw [inOr_ok h1]
      simp only
      rw [c271, sub_digR h1 (by omega), extN0, ob_some, extN1, ob_some, enc_ok, ob_some, cnd_f]
      by_cases h2 : 10 * a + (c.toNat - 48) ≤ 9223372036854775808
      · rw [inOr_ok h2]
        simp only [enc_ok, ob_some]
        cases ov with
        | true => rw [cnd_t]; exact next _ true h2 (fun h => by cases h) ho
        | false => rw [cnd_f]; exact next _ false h2 (fun _ => hv rfl) (fun h => by cases h)
      · rw [inOr_no (by omega)]
        simp only [enc_err 10 (by decide), ob_some]
        have ho' : 9223372036854775808 < valD d := by
          cases ov with
          | true => exact ho rfl
          | false =>
            have hv' : valF (10 * a + (c.toNat - 48)) r = valD d := hv rfl
            omega
        have n0 := next 0 true (by omega) (fun h => by cases h) (fun _ => ho')
        cases ov with
        | true => rw [cnd_t]; exact n0
        | false => rw [cnd_f]; exact n0
    · rw [inOr_no (by omega)]
      simp only
      have z : subR 0 ((c.toNat - 48 : Nat) : Int) = inOr (-((c.toNat - 48 : Nat) : Int)) := by have := sub_digR (a := 0) (d := c.toNat - 48) (by omega) (by omega); simpa using this
      rw [c271, z, inOr_ok (by omega), extN0, ob_some, extN1, ob_some, enc_err 10 (by decide), ob_some, cnd_t]
      have ho' : 9223372036854775808 < valD d := by
        cases ov with
        | true => exact ho rfl
        | false =>
          have hv' : valF (10 * a + (c.toNat - 48)) r = valD d := hv rfl
          omega
      have n0 := next (c.toNat - 48) true (by omega) (fun h => by cases h) (fun _ => ho')
      cases ov with
      | true => rw [cnd_t]; exact n0
      | false => rw [cnd_f]; exact n0
theorem c220 (m : Bool) (d : List UInt8) (hl : d.length ≤ 1099511627775) (hd : DigL m d) (H : Heap) (Q : Post) : E 220 [S (bs (numB m d))] H Q = Q (encN (numV m (bs d))) H := by
  obtain ⟨hne, hall, hz⟩ := hd
  cases d with
  | nil => exact (hne rfl).elim
  | cons c r =>
    have hc : digB c = true := List.all_eq_true.1 hall c (by simp)
    have hcd := digB_iff.1 hc
    have fin : f220_j13 (S (bs (numB m (c :: r)))) (S (bs (c :: r))) (B false) H Q = Q (encN (numV m (bs (c :: r)))) H := by
      rw [f220_j13_eq, cnd_f]
      exact c220_l m (c :: r) hl hall H Q (c :: r) [] 0 false rfl (by omega) (fun _ => rfl) (fun h => by cases h)
    have nn : ∀ (x : UInt8) (l : List UInt8), binA Pg .neq 9 true (S (bs (x :: l))) (S ⟨#[]⟩) = some (B true) := fun x l => by
      rw [s_neq, decide_eq_false]
      · rfl
      · intro h
        have : bs (x :: l) = bs [] := h
        have := bs_inj.1 this
        cases this
    rw [f220_eq]
    cases m with
    | true =>
      have hz : c.toNat ≠ 48 := by rcases hz with hz | hz <;> simp at hz; exact hz
      have e0 : numB true (c :: r) = 45 :: c :: r := rfl
      rw [e0] at fin ⊢
      have : decide ((45 : UInt8).toNat = 45) = true := rfl
      have sl : sliceSA (S (bs (45 :: c :: r))) (some (I 1)) none = some (S (bs (c :: r))) := slS_from (pre := [45]) (by rw [tx_bs]; rfl)
      rw [nn, ob_some, cnd_t, ix0, ob_some, e45, ob_some, this, f220_j7_eq, cnd_t, sl, ob_some, s_ne, ob_some, cnd_f, ix0, ob_some, e48, ob_some, decide_eq_false hz, cnd_f]
      exact fin
    | false =>
      have e0 : numB false (c :: r) = c :: r := rfl
      rw [e0] at fin ⊢
      rw [nn, ob_some, cnd_t, ix0, ob_some, e45, ob_some, decide_eq_false (by omega), f220_j7_eq, cnd_f, s_ne, ob_some, cnd_f, ix0, ob_some, e48, ob_some]
      by_cases h48 : c.toNat = 48
      · have h1 : r = [] := by
          rcases hz with hz | hz
          · simp [h48] at hz
          · simpa using hz.2
        subst h1
        rw [decide_eq_true h48, cnd_t, len_S, ob_some]
        exact fin
      · rw [decide_eq_false h48, cnd_f]; exact fin
/-- - ahead of 0 -/
theorem c220_m0 (H : Heap) (Q : Post) : E 220 [S ⟨#[45, 48]⟩] H Q = Q (encN (0, 4)) H := by
  have nn : binA Pg .neq 9 true (S ⟨#[45, 48]⟩) (S ⟨#[]⟩) = some (B true) := by rw [s_neq]; rfl
  have i0 : ixA (S ⟨#[45, 48]⟩) (I 0) = some (U8 45) := rfl
  have e0 : binA Pg .eql 5 true (U8 45) (AV.raw (.int .u8 45)) = some (B true) := rfl
  have sl : sliceSA (S ⟨#[45, 48]⟩) (some (I 1)) none = some (S ⟨#[48]⟩) := rfl
  have s0 : binA Pg .eql 9 true (S ⟨#[48]⟩) (S ⟨#[]⟩) = some (B false) := by rw [s_eql]; rfl
  have i1 : ixA (S ⟨#[48]⟩) (I 0) = some (U8 48) := rfl
  have e1 : binA Pg .eql 5 true (U8 48) (AV.raw (.int .u8 48)) = some (B true) := rfl
  have g : binA Pg .gtr 3 true (I (ByteArray.size ⟨#[45, 48]⟩ : Nat)) (I 1) = some (B true) := rfl
  rw [f220_eq, nn, ob_some, cnd_t, i0, ob_some, e0, ob_some, f220_j7_eq, cnd_t, sl, ob_some, s0, ob_some, cnd_f, i1, ob_some, e1, ob_some, cnd_t, len_S, ob_some, g, ob_some, f220_j13_eq, cnd_t]
  rfl
end Go.Hx
