/- The laws EvalOver, EvalNot over the abstract machine. Own work (session 2). -/
import Derived.Test.YthhghcekcgonnaaS3L
set_option maxRecDepth 20000
namespace Go.Hx
theorem HoldsP_err {t : Tl} {x : Ex} (h : (SayP t x).2 ≠ 0) : HoldsP t x = false := by simp [HoldsP, h]
theorem SayP_bad {t : Tl} {x : Ex} (h : checkP x ≠ 0) : SayP t x = (nullV, 1) := by simp [SayP, h]
theorem SayP_ok {t : Tl} {x : Ex} (h : checkP x = 0) : SayP t x = sayP t x := by simp [SayP, h]

theorem right_bool (b : Bool) : rightV (boolV b) = true := by cases b <;> decide
theorem right_int (n : Int) : rightV (intV n) = true := by simp [rightV, intV]
theorem right_null : rightV nullV = true := by decide
theorem node_right (t : Tl) (x : Ex) (vs : List Vl) (h : rightP x = true) : (nodeP t x vs).2 = 0 → rightV (nodeP t x vs).1 = true := by
  simp only [nodeP]
  split
  · rename_i h1
    intro _
    simp only [rightP, if_pos h1, Bool.and_eq_true] at h
    exact h.2.1
  · split
    · simp only [fieldP]
      split
      · intro h; cases h
      · split
        · intro h; cases h
        · rename_i h2; intro _; simpa using h2
    · split
      · simp only [logicP, logicR]
        repeat' split
        all_goals first | (intro h; cases h; done) | (intro _; exact right_bool _)
      · split
        · simp only [numberP, reckonL]
          repeat' split
          all_goals first | (intro h; cases h; done) | (intro _; exact right_int _) | (intro _; exact right_null)
        · simp only [comparedP]
          repeat' split
          all_goals first | (intro h; cases h; done) | (intro _; exact right_bool _)
theorem say_right (t : Tl) (x : Ex) (h : allR x = true) (he : (sayP t x).2 = 0) : rightV (sayP t x).1 = true := by
  rw [allR_eq, Bool.and_eq_true] at h
  rw [sayP_eq] at he ⊢
  split at he
  · exact right_null
  · exact node_right t x _ h.1 he
/-! ### EvalNot -/
def notX (x : Ex) : Ex := nodeX 15 7 false .full [x]
theorem sayP_not (t : Tl) (x : Ex) : sayP t (notX x) = if (sayP t x).2 = 0 then logicP 15 [(sayP t x).1] else (nullV, (sayP t x).2) := by
  simp only [notX, nodeX, sayP, saysP]
  by_cases h : (sayP t x).2 = 0
  · simp [h, nodeP, Ex.k]
  · simp [h]
theorem check_not {x : Ex} (hs : sizeX x ≤ 1048576) (h : checkP (notX x) = 0) : checkP x = 0 := by
  have h1 : sizeX (notX x) = 1 + sizeX x := by simp [notX, nodeX, sizeX, sizeXs]
  rw [checkP_eq _ (by omega), h1] at h
  rw [checkP_eq _ (by omega)]
  have h2 : allR (notX x) = (rightP (notX x) && allR x) := by rw [allR_eq]; simp [notX, nodeX, Ex.l, allRs]
  rw [h2] at h
  split at h
  · cases h
  · split at h
    · cases h
    · rename_i h3 h4
      simp only [Bool.not_eq_false, Bool.and_eq_true] at h4
      rw [if_neg (by omega), if_neg (by simp [h4.2])]
theorem logic_not (v : Vl) : logicP 15 [v] = if badB v = true then (nullV, 5) else (boolV (!isT v), 0) := by
  simp [logicP, logicR]
theorem not_law (t : Tl) (x : Ex) (hs : sizeX x ≤ 1048576) : ¬ (HoldsP t x = true ∧ HoldsP t (notX x) = true) ∧ ((SayP t (notX x)).2 ≠ 1 →
    ((HoldsP t x || HoldsP t (notX x)) = (decide ((SayP t x).2 = 0) && (decide ((SayP t x).1.k = 1) || decide ((SayP t x).1.k = 0)))) ∧ (HoldsP t x = true ∨ (SayP t x).1.n ≠ 1 ∨ (SayP t x).1.k ≠ 1 ∨ (SayP t x).2 ≠ 0)) := by
  have hb1 : ∀ (b : Bool) {inst : Decidable (boolV b = boolV true)}, @decide (boolV b = boolV true) inst = b := fun b inst => by cases b <;> simp [boolV]
  refine ⟨fun ⟨h1, h2⟩ => ?_, fun hf => ?_⟩
  · by_cases hc : checkP (notX x) = 0
    · have hc' := check_not hs hc
      simp only [HoldsP, SayP_ok hc, SayP_ok hc', sayP_not, Bool.and_eq_true, decide_eq_true_eq] at h1 h2
      rw [if_pos h1.1, logic_not, h1.2] at h2
      simp [badB, isT, boolV] at h2
    · simp [HoldsP, SayP_bad hc] at h2
  · have hc : checkP (notX x) = 0 := Classical.byContradiction fun hc => hf (by rw [SayP_bad hc])
    have hc' := check_not hs hc
    have hr := checkP_all hc'
    simp only [HoldsP, SayP_ok hc, SayP_ok hc', sayP_not]
    by_cases he : (sayP t x).2 = 0
    · have hright := say_right t x hr he
      rw [if_pos he, logic_not]
      generalize (sayP t x).1 = v at hright
      by_cases hbad : badB v = true
      · rw [if_pos hbad]
        simp only [badB, Bool.and_eq_true, Bool.not_eq_true', decide_eq_false_iff_not] at hbad
        have : ¬ v = boolV true := fun e => hbad.2 (by rw [e]; rfl)
        simp [he, hbad, this]
      · rw [if_neg hbad]
        have hk : v.k = 0 ∨ v.k = 1 := by
          simp only [badB, Bool.and_eq_true, Bool.not_eq_true', decide_eq_false_iff_not, not_and, Decidable.not_not] at hbad
          by_cases h0 : v.k = 0
          · exact .inl h0
          · exact .inr (hbad h0)
        have hk' : (decide (v.k = 1) || decide (v.k = 0)) = true := by
          rcases hk with h | h <;> simp [h]
        simp only [he, decide_true, Bool.true_and, hb1, hk', isT]
        refine ⟨by by_cases hv : v = boolV true <;> simp [hv], ?_⟩
        by_cases hv : v = boolV true
        · left; simp [hv]
        · right
          by_cases hn : v.n = 1
          · right; left
            intro h1
            apply hv
            rw [rightV, if_neg (by omega), if_pos h1] at hright
            simp only [Bool.and_eq_true, decide_eq_true_eq] at hright
            cases v
            simp only [Vl.mk.injEq, boolV, if_true] at *
            exact ⟨h1, hn, hright.1⟩
          · left; exact hn
    · simp [he]
theorem cEvalNot (x : Ex) (hok : allX okX x) (hs : sizeX x ≤ 1048576) (s1 s2 s3 : Nat) (n1 n2 n3 : Bool) (t1 t2 t3 : Tip) (vars fields : List ByteArray) (l : List Vl) (h1 : n1 = true → vars = []) (h2 : n2 = true → fields = []) (h3 : n3 = true → l = [])
    (k1 : n1 = true ∨ s1 = 1) (k2 : n2 = true ∨ s2 = 1) (k3 : n3 = true ∨ s3 = 3) (m1 : vars.length ≤ 1099511627776) (m2 : fields.length ≤ 1099511627776) (m3 : l.length ≤ 1099511627776) (H : Heap) (Q : Post) (hq : ∀ H', Q (B true) H') :
    E 6 [encX x, .sl s1 n1 t1 (vars.map S), .sl s2 n2 t2 (fields.map S), .sl s3 n3 t3 (l.map encV)] H Q := by
  have oky : allX okX (notX x) := by
    rw [allX_eq]
    refine ⟨?_, ?_⟩
    · simp [okX, notX, nodeX, Ex.l, Ex.var, Ex.fld, e0]; decide
    · simp [notX, nodeX, Ex.l, allXs, hok]
  have hm := mk1 7 (encX x) (szX x)
  have hn : bldA [(0, 1, I 15), (6, 1, AV.sl 7 false .full [encX x])] [I 0, I 0, I 0, S e0, S e0, S e0, .sl 0 true .full []] = some (encX (notX x)) := bld_node 15 7 false .full [x]
  rw [f6_eq, szX, ob_some]
  refine c19 s1 s2 s3 n1 n2 n3 t1 t2 t3 vars fields l h1 h2 h3 k1 k2 k3 m1 m2 m3 H _ (fun b1 b2 b3 H1 e1 ht => ?_)
  rw [fn_nil, ob_some, cnd_f]
  simp only [partX, ob_some, hm, hn, szX, splX]
  generalize (fun v f => tableL v f vars fields l) = t at ht
  refine c20 t 42 _ x hok H1 _ ht (fun H2 e2 => ?_)
  simp only [ext0, ext1, ob_some, sz3, spl3]
  refine c23 t 42 _ x hok H2 _ (ht.ext e2) (fun H3 e3 => ?_)
  refine c23 t 42 _ (notX x) oky H3 _ (ht.ext (e2.trans e3)) (fun H4 e4 => ?_)
  refine c20 t 42 _ (notX x) oky H4 _ (ht.ext ((e2.trans e3).trans e4)) (fun H5 e5 => ?_)
  obtain ⟨g1, g2⟩ := not_law t x hs
  generalize HoldsP t x = p at g1 g2
  generalize HoldsP t (notX x) = q at g1 g2
  generalize hf0 : SayP t (notX x) = fv at g2
  generalize hf1 : SayP t x = ev at g2
  obtain ⟨fv, f⟩ := fv
  obtain ⟨v, e⟩ := ev
  simp only [ext0, ext1, ob_some, sz3, spl3, i_eql, i_neq, part_f, List.getElem?_cons_zero, List.getElem?_cons_succ, not_B, b_eql 4 false u4, f6_j25_eq, f6_j28_eq, f6_c11_4a_eq, f6_c11_4b_eq, f6_c11_15a_eq, f6_c11_15b_eq, f6_c11_15c_eq, f6_c11_15d_eq, f6_c11_15e_eq, f6_c11_15f_eq, f6_c11_16a_eq, f6_c11_16b_eq, f6_c11_16c_eq, f6_c11_16d_eq, f6_c11_16e_eq, f6_c11_16f_eq, f6_c11_24a_eq, f6_c11_24b_eq, f6_c11_24c_eq, f6_c11_29a_eq, f6_c11_29b_eq, f6_c11_29c_eq, f6_c11_33a_eq, f6_c11_33b_eq, f6_c11_33c_eq, f6_c11_34a_eq, f6_c11_34b_eq, f6_c11_34c_eq, f6_c11_37a_eq, f6_c11_37b_eq, f6_j32_eq] at g2 ⊢
  have aw : ∀ (H : Heap) (K : Post), (∀ H', K (B true) H') → E 25 [] H K := fun H K hk => c25 H K (fun H' _ => hk H')
  by_cases hf : f = 1
  · have hf' : decide (f = 1) = true := by simp [hf]
    rw [hf']
    cases p <;> cases q
    all_goals simp only [cnd_t, cnd_f, Bool.not_true, Bool.not_false]
    all_goals first | exact aw _ _ (fun H' => hq H') | (exact absurd ⟨rfl, rfl⟩ g1)
  · have hf' : decide (f = 1) = false := by simp [hf]
    rw [hf']
    obtain ⟨g3, g4⟩ := g2 hf
    clear g2 hf0 hf1 ht e1 e2 e3 e4 e5 hn hm oky hf'
    have a0 : ¬ (v.k = 1 ∧ v.k = 0) := by omega
    cases p <;> cases q
    all_goals first | (exact absurd ⟨rfl, rfl⟩ g1) | skip
    all_goals by_cases a1 : e = 0 <;> by_cases a2 : v.k = 1 <;> by_cases a3 : v.k = 0 <;> by_cases a4 : v.n = 1
    all_goals first | (exfalso; exact a0 ⟨a2, a3⟩) | skip
    all_goals simp only [a1, a2, a3, a4, decide_true, decide_false, eq_self, Int.reduceEq, Bool.or_true, Bool.or_false, Bool.and_true, Bool.and_false, Bool.not_true, Bool.not_false, cnd_t, cnd_f, BEq.rfl, Bool.true_and, Bool.false_and, Bool.true_eq_false, Bool.false_eq_true, ne_eq, not_true, not_false_iff, or_false, or_true] at g3 g4 ⊢
    all_goals first | exact aw _ _ (fun H' => hq H') | exact hq _ | exact absurd g3 (by decide) | exact absurd g4 (by decide) | skip
end Go.Hx
