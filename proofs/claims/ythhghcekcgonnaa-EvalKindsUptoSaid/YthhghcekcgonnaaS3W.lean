/- Contracts of the reference's layers, second part. Own work (session 2). -/
import Derived.Test.YthhghcekcgonnaaS3V
set_option maxRecDepth 20000
namespace Go.Hx
theorem bld0 : bldA [] [I 0, I 0, S e0] = some (encV nullV) := rfl
theorem cmp_node (k : Int) (v w : Vl) (H : Heap) (Q : Post) : E 69 [I k, encV v, encV w] H Q = Q (encR (comparedP k v w)) H := by
  simp only [f69_eq, sz3, part3, spl3, bld0, ob_some, c98, i_eql, i_neq, i_lss, i_gtr, i_leq, i_geq, c47, cnd_B, decide_eq_true_eq, part_f, List.getElem?_cons_zero, f69_j24_eq, f69_j32_eq, comparedP, if_true]
  by_cases h9 : k = 9
  · simp [h9, encR]
  by_cases h10 : k = 10
  · simp [h10, encR]
  by_cases hv : v.k = 0
  · simp [h9, h10, hv, encR]
  by_cases hw : w.k = 0
  · simp [h9, h10, hv, hw, encR]
  simp only [h9, h10, hv, hw, if_false, or_self]
  by_cases he : v.k = w.k
  · by_cases h2 : v.k = 2
    · have e1 : w.k = 2 := by omega
      by_cases h11 : k = 11 <;> by_cases h12 : k = 12 <;> by_cases h13 : k = 13 <;> first | (exfalso; omega) | simp [h2, e1, h11, h12, h13, encR]
    · by_cases h3 : v.k = 3
      · have e1 : w.k = 3 := by omega
        by_cases h11 : k = 11 <;> by_cases h12 : k = 12 <;> by_cases h13 : k = 13 <;> first | (exfalso; omega) | simp [h3, e1, h11, h12, h13, encR]
      · have e2 : ¬ w.k = 2 := by omega
        have e3 : ¬ w.k = 3 := by omega
        simp [he, e2, e3, encR]
  · simp [he, encR]
theorem right_isT {v : Vl} (hr : rightV v = true) (hb : badB v = false) : decide (v.n = 1) = isT v := by
  simp only [isT]
  rw [Bool.eq_iff_iff, decide_eq_true_eq, decide_eq_true_eq]
  cases v with | mk k n s =>
  simp only [badB, Bool.and_eq_false_iff, Bool.not_eq_false', decide_eq_true_eq] at hb
  simp only [boolV, if_true, Vl.mk.injEq]
  rcases hb with rfl | rfl
  · simp only [rightV, if_true, decide_eq_true_eq, nullV, Vl.mk.injEq] at hr
    constructor
    · intro h; omega
    · intro h; omega
  · simp only [rightV, Bool.and_eq_true, decide_eq_true_eq] at hr
    rw [if_neg (by decide), if_pos trivial] at hr
    simp only [Bool.and_eq_true, decide_eq_true_eq] at hr
    exact ⟨fun h => ⟨rfl, h, hr.1⟩, fun h => h.2.1⟩
theorem lenV (nil : Bool) (tip : Tip) (vs : List Vl) : lenA (encVs nil tip vs) = some (I vs.length) := by simp [encVs, len_sl]
theorem c70_l (k : Int) (vs : List Vl) (n' : Bool) (t' : Tip) (hn : vs.length ≤ 1099511627776) (hr : ∀ v ∈ vs, rightV v = true) (H : Heap) (Q : Post) : ∀ (r pre : List Vl) (sm al : Bool), vs = pre ++ r →
    f70_l10 (I k) (encVs n' t' vs) [I 0, I 0, S e0] (B al) (B sm) (I pre.length) H Q = Q (encR (if r.any badB = true then (nullV, 5) else logicR k (sm || r.any isT) (al && r.all isT))) H := by
  intro r
  induction r with
  | nil =>
    intro pre sm al e
    have : (pre.length : Int) = vs.length := by rw [e]; simp
    rw [f70_l10_eq, lenV, ob_some, i_lss, ob_some, cnd_B, this]
    simp only [Int.lt_irrefl, decide_false, Bool.false_eq_true, if_false, i_eql, ob_some, cnd_B, decide_eq_true_eq, not_B, c47, sz3, spl3, part3, List.any_nil, List.all_nil, Bool.or_false, Bool.and_true, logicR]
    repeat' split
    all_goals rfl
  | cons v r ih =>
    intro pre sm al e
    have hlt : pre.length < vs.length := by rw [e]; simp
    have hlt' : (pre.length : Int) < vs.length := by omega
    have ih := ih (pre ++ [v])
    rw [List.length_append, List.length_singleton] at ih
    have hrv : rightV v = true := hr v (by rw [e]; simp)
    have hj : ∀ b : Bool, b = badB v → f70_j22 (I k) (encVs n' t' vs) [I 0, I 0, S e0] (B al) (B sm) (I pre.length) (B b) H Q =
        Q (encR (if ((v :: r).any badB) = true then (nullV, 5) else logicR k (sm || (v :: r).any isT) (al && (v :: r).all isT))) H := fun b hb => by
      rw [f70_j22_eq, ixV vs n' t' pre r v e]
      simp only [bld0, sz3, spl3, part3, ob_some, part_f, List.drop_succ_cons, List.drop_zero, List.getElem?_cons_zero, i_eql, i_add, w64_succ hlt (by omega : vs.length ≤ 1152921504606846976), cnd_B, f70_j31_eq]
      rw [List.any_cons, List.any_cons, List.all_cons, ← hb]
      cases b with
      | true => simp only [if_true, Bool.true_or]; rfl
      | false =>
        rw [right_isT hrv hb.symm]
        simp only [Bool.false_eq_true, if_false, Bool.false_or]
        cases sm <;> cases al <;> simp only [Bool.false_eq_true, if_false, if_true, Bool.true_or, Bool.false_or, Bool.false_and, Bool.true_and]
        · rw [ih _ _ (by simp [e])]; rfl
        · rw [ih _ _ (by simp [e])]
        · rw [ih _ _ (by simp [e])]; simp
        · rw [ih _ _ (by simp [e])]; simp
    rw [f70_l10_eq, lenV, ob_some, i_lss, ob_some, cnd_B, if_pos (by simpa using hlt'), ixV vs n' t' pre r v e]
    simp only [ob_some, part_f, List.drop_zero, List.getElem?_cons_zero, i_neq, cnd_B]
    split
    · rename_i h
      exact hj _ (by simp only [badB, h, Bool.true_and])
    · rename_i h
      exact hj _ (by simp only [badB, h, Bool.false_and])
theorem c70 (k : Int) (vs : List Vl) (n' : Bool) (t' : Tip) (hn : vs.length ≤ 1099511627776) (hr : ∀ v ∈ vs, rightV v = true) (H : Heap) (Q : Post) : E 70 [I k, encVs n' t' vs] H Q = Q (encR (logicP k vs)) H := by
  rw [f70_eq]
  have := c70_l k vs n' t' hn hr H Q vs [] false true rfl
  simp only [Bool.false_or, Bool.true_and] at this
  exact this
theorem c68_l2 (k : Int) (vs : List Vl) (n' : Bool) (t' : Tip) (hne : vs ≠ []) (hn : vs.length ≤ 1099511627776) (hv : ∀ v ∈ vs, vr v) (H : Heap) (Q : Post) : ∀ (r pre : List Vl), vs = pre ++ r →
    f68_l27 (I k) (encVs n' t' vs) [I 0, I 0, S e0] (I pre.length) H Q = Q (encR (if (r.any fun v => !decide (v.k = 2)) = true then (nullV, 5) else reckonL k vs)) H := by
  intro r
  induction r with
  | nil =>
    intro pre e
    have : (pre.length : Int) = vs.length := by rw [e]; simp
    rw [f68_l27_eq, lenV, ob_some, i_lss, ob_some, cnd_B, this]
    simp only [Int.lt_irrefl, decide_false, Bool.false_eq_true, if_false, i_sub, ob_some, List.any_nil]
    obtain ⟨a, l, rfl⟩ : ∃ a l, vs = a :: l := by
      cases vs with
      | nil => exact absurd rfl hne
      | cons a l => exact ⟨a, l, rfl⟩
    have i0 : ixaA 3 (encVs n' t' (a :: l)) (I 0) = some [I a.k, I a.n, S a.s] := ixV (a :: l) n' t' [] l a rfl
    have hw : W64 (((a :: l).length : Int) - 1) = (l.length : Int) := by
      rw [w64_id] <;> simp only [List.length_cons] at hn ⊢ <;> omega
    have hlast : (a :: l)[l.length]? = some ((a :: l).getLast (by simp)) := by rw [List.getLast_eq_getElem]; simp
    have i1 : ixaA 3 (encVs n' t' (a :: l)) (I (l.length : Int)) = some [I ((a :: l).getLast (by simp)).k, I ((a :: l).getLast (by simp)).n, S ((a :: l).getLast (by simp)).s] :=
      ix_mk 3 n' t' _ l.length (x := encV ((a :: l).getLast (by simp))) (by rw [List.getElem?_map, hlast]; rfl) rfl
    have hg : ((a :: l).map (·.n)).getLastD 0 = ((a :: l).getLast (by simp)).n := by
      rw [List.getLastD_eq_getLast?, List.getLast?_map, List.getLast?_eq_some_getLast (by simp)]; rfl
    have hh : ((a :: l).map (·.n)).headD 0 = a.n := rfl
    rw [i0, hw, i1]
    simp only [ob_some, part_f, List.drop_succ_cons, List.drop_zero, List.getElem?_cons_zero]
    rw [c96 k a.n _ (hv a (by simp)) (hv _ (List.getLast_mem _))]
    simp only [extN0, extN1, ob_some, i_neq, cnd_B, c97, bld0, sz3, spl3, part3, reckonL, hg, hh]
    split
    · rename_i h
      simp only [Bool.not_eq_true', decide_eq_false_iff_not] at h
      rw [if_neg h]; rfl
    · rename_i h
      simp only [Bool.not_eq_true', decide_eq_false_iff_not, Decidable.not_not] at h
      rw [if_pos h]; rfl
  | cons v r ih =>
    intro pre e
    have hlt : pre.length < vs.length := by rw [e]; simp
    have hlt' : (pre.length : Int) < vs.length := by omega
    have ih := ih (pre ++ [v]) (by simp [e])
    rw [List.length_append, List.length_singleton] at ih
    rw [f68_l27_eq, lenV, ob_some, i_lss, ob_some, cnd_B, if_pos (by simpa using hlt'), ixV vs n' t' pre r v e]
    simp only [ob_some, part_f, List.drop_zero, List.getElem?_cons_zero, i_neq, cnd_B, bld0, sz3, spl3, part3, i_add, w64_succ hlt (by omega : vs.length ≤ 1152921504606846976), ih, List.any_cons]
    split
    · rename_i h; simp only [h, Bool.true_or, if_true]; rfl
    · rename_i h; simp only [h, Bool.false_or]
theorem c68_l1 (k : Int) (vs : List Vl) (n' : Bool) (t' : Tip) (hne : vs ≠ []) (hn : vs.length ≤ 1099511627776) (hv : ∀ v ∈ vs, vr v) (H : Heap) (Q : Post) : ∀ (r pre : List Vl), vs = pre ++ r →
    f68_l6 (I k) (encVs n' t' vs) [I 0, I 0, S e0] (I pre.length) H Q = Q (encR (if (r.any fun v => decide (v.k = 0)) = true then (nullV, 0) else if (vs.any fun v => !decide (v.k = 2)) = true then (nullV, 5) else reckonL k vs)) H := by
  intro r
  induction r with
  | nil =>
    intro pre e
    have : (pre.length : Int) = vs.length := by rw [e]; simp
    rw [f68_l6_eq, lenV, ob_some, i_lss, ob_some, cnd_B, this]
    simp only [Int.lt_irrefl, decide_false, Bool.false_eq_true, if_false, List.any_nil]
    exact c68_l2 k vs n' t' hne hn hv H Q vs [] rfl
  | cons v r ih =>
    intro pre e
    have hlt : pre.length < vs.length := by rw [e]; simp
    have hlt' : (pre.length : Int) < vs.length := by omega
    have ih := ih (pre ++ [v]) (by simp [e])
    rw [List.length_append, List.length_singleton] at ih
    rw [f68_l6_eq, lenV, ob_some, i_lss, ob_some, cnd_B, if_pos (by simpa using hlt'), ixV vs n' t' pre r v e]
    simp only [ob_some, part_f, List.drop_zero, List.getElem?_cons_zero, i_eql, cnd_B, bld0, sz3, spl3, part3, i_add, w64_succ hlt (by omega : vs.length ≤ 1152921504606846976), ih, List.any_cons]
    split
    · rename_i h; simp only [h, Bool.true_or, if_true]; rfl
    · rename_i h; simp only [h, Bool.false_or]
theorem c68 (k : Int) (vs : List Vl) (n' : Bool) (t' : Tip) (hne : vs ≠ []) (hn : vs.length ≤ 1099511627776) (hv : ∀ v ∈ vs, vr v) (H : Heap) (Q : Post) : E 68 [I k, encVs n' t' vs] H Q = Q (encR (numberP k vs)) H := by
  rw [f68_eq]
  exact c68_l1 k vs n' t' hne hn hv H Q vs [] rfl
/-! ### Names -/
abbrev U8 (r : Int) : AV := .raw (.int .u8 r)
theorem c108 (r : Int) (H : Heap) (Q : Post) : E 108 [U8 r] H Q = Q (B (lowI r)) H := by
  simp only [f108_eq, f108_j4_eq, k_geq, k_leq, ob_some, cnd_B, decide_eq_true_eq, lowI]
  split <;> rename_i h <;> simp only [h, decide_true, decide_false, Bool.true_and, Bool.false_and]
theorem c127 (r : Int) (H : Heap) (Q : Post) : E 127 [U8 r] H Q = Q (B (digI r)) H := by
  simp only [f127_eq, f127_j4_eq, k_geq, k_leq, ob_some, cnd_B, decide_eq_true_eq, digI]
  split <;> rename_i h <;> simp only [h, decide_true, decide_false, Bool.true_and, Bool.false_and]
theorem c107 (r : Int) (H : Heap) (Q : Post) : E 107 [U8 r] H Q = Q (B (signI r)) H := by
  simp only [f107_eq, f107_j4_eq, c108, c127, k_eql, ob_some, cnd_B, signI]
  repeat' split
  all_goals simp_all
theorem ixS (s : ByteArray) (pre r : List UInt8) (c : UInt8) (e : s.data.toList = pre ++ c :: r) : ixA (S s) (I pre.length) = some (U8 c.toNat) := by
  have hlt : pre.length < s.size := by rw [← size_list s, e]; simp
  have hc : s[pre.length]'hlt = c := by
    have h1 : s.data.toList[pre.length]? = some c := by rw [e]; simp
    have h2 : s.data.toList[pre.length]? = some (s[pre.length]'hlt) := by
      rw [List.getElem?_eq_getElem (by rw [size_list]; exact hlt)]; rfl
    rw [h1] at h2; exact (Option.some.inj h2).symm
  simp [ixA, S, I, hlt, hc]
theorem c88_l (s : ByteArray) (hsz : s.size ≤ 1099511627776) (H : Heap) (Q : Post) : ∀ (r pre : List UInt8), s.data.toList = pre ++ r → pre.all signB = true → f88_l6 (S s) (I pre.length) H Q = Q (B (nameL s.data.toList)) H := by
  intro r
  induction r with
  | nil =>
    intro pre e hall
    have hlen : pre.length = s.size := by rw [← size_list s, e]; simp
    rw [f88_l6_eq, len_S, ob_some, i_lss, ob_some, cnd_B, hlen]
    simp only [Int.lt_irrefl, decide_false, Bool.false_eq_true, if_false, i_geq, i_leq, ob_some, f88_j25_eq, cnd_B, decide_eq_true_eq]
    rw [List.append_nil] at e
    cases pre with
    | nil =>
      have h0 : s.size = 0 := by rw [← hlen]; rfl
      rw [if_neg (by omega), e]; rfl
    | cons c p =>
      have h1 : s.size = p.length + 1 := by rw [← hlen]; rfl
      have i0 : ixA (S s) (I 0) = some (U8 c.toNat) := ixS s [] p c e
      have hn : nameL s.data.toList = (lowB c && decide ((s.size : Int) ≤ 32)) := by
        rw [e, nameL, hall, Bool.true_and]
        have : ((c :: p).length : Int) = (s.size : Int) := by rw [h1]; rfl
        rw [this]
      rw [if_pos (by omega), i0, ob_some, c108, hn]
      have hl : lowI ((c.toNat : Nat) : Int) = lowB c := rfl
      rw [hl]
      split
      · rename_i h; simp only [h, decide_true, Bool.and_true]
      · rename_i h; simp only [h, decide_false, Bool.and_false]
  | cons c r ih =>
    intro pre e hall
    have hlt : pre.length < s.size := by rw [← size_list s, e]; simp
    have hlt' : (pre.length : Int) < s.size := by omega
    rw [f88_l6_eq, len_S, ob_some, i_lss, ob_some, cnd_B, if_pos (by simpa using hlt'), ixS s pre r c e, ob_some, c107, not_B, ob_some, cnd_B, i_add, ob_some, w64_succ hlt (by omega)]
    have hl : signI ((c.toNat : Nat) : Int) = signB c := rfl
    rw [hl]
    split
    · rename_i h
      rw [e, nameL_bad pre r c (.inl (by simpa using h))]
    · rename_i h
      have := ih (pre ++ [c]) (by simp [e]) (by simp only [List.all_append, hall, Bool.true_and, List.all_cons, List.all_nil, Bool.and_true]; simpa using h)
      rw [List.length_append, List.length_singleton] at this
      exact this
theorem c88 (s : ByteArray) (hsz : s.size ≤ 1099511627776) (H : Heap) (Q : Post) : E 88 [S s] H Q = Q (B (nameL s.data.toList)) H := by
  rw [f88_eq]
  exact c88_l s hsz H Q s.data.toList [] rfl rfl
end Go.Hx
