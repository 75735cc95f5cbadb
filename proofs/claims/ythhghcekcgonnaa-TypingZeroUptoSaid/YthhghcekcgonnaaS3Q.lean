/- The law EvalRows over the abstract machine. Own work (session 2). -/
import Derived.Test.YthhghcekcgonnaaS3O
set_option maxRecDepth 20000
namespace Go.Hx
def goodY (t : Tl) (y : Ex) : Prop := (SayP t y).2 = 0 ∧ ((SayP t y).1.k = 1 ∨ (SayP t y).1.k = 0) ∧ y.k ≠ 16 ∧ y.k ≠ 17
theorem SayP_zero {t : Tl} {x : Ex} (h : (SayP t x).2 = 0) : checkP x = 0 := Classical.byContradiction fun hc => by rw [SayP_bad hc] at h; cases h
theorem says_good (t : Tl) : ∀ (l : List Ex), (∀ y ∈ l, goodY t y) → saysP t l = .ok (l.map fun y => (SayP t y).1)
  | [], _ => rfl
  | y :: r, h => by
    have hy := (h y (by simp)).1
    have he := SayP_ok (t := t) (SayP_zero hy)
    rw [he] at hy
    simp only [saysP, if_pos hy, says_good t r (fun z hz => h z (by simp [hz])), List.map_cons, he]
theorem good_bad {t : Tl} : ∀ {l : List Ex}, (∀ y ∈ l, goodY t y) → (l.map fun y => (SayP t y).1).any badB = false
  | [], _ => rfl
  | y :: r, h => by
    rw [List.map_cons, List.any_cons, good_bad (fun z hz => h z (by simp [hz])), Bool.or_false]
    rcases (h y (by simp)).2.1 with h | h <;> simp [badB, h]
theorem holds_isT {t : Tl} {y : Ex} (h : goodY t y) : isT (SayP t y).1 = HoldsP t y := by
  simp [HoldsP, isT, h.1]
theorem all_isT {t : Tl} : ∀ {l : List Ex}, (∀ y ∈ l, goodY t y) → (l.map fun y => (SayP t y).1).all isT = l.all (HoldsP t) ∧ (l.map fun y => (SayP t y).1).any isT = l.any (HoldsP t)
  | [], _ => ⟨rfl, rfl⟩
  | y :: r, h => by
    obtain ⟨h1, h2⟩ := all_isT (fun z hz => h z (List.mem_cons_of_mem y hz))
    simp only [List.map_cons, List.all_cons, List.any_cons, h1, h2, holds_isT (h y (by simp))]
    exact ⟨trivial, trivial⟩
theorem good_allR {t : Tl} : ∀ {l : List Ex}, (∀ y ∈ l, goodY t y) → allRs l = true
  | [], _ => rfl
  | y :: r, h => by
    simp only [allRs, checkP_all (SayP_zero (h y (by simp)).1), good_allR (fun z hz => h z (List.mem_cons_of_mem y hz)), Bool.and_self]
theorem right_row {t : Tl} {k : Int} (hk : k = 16 ∨ k = 17) {sz : Nat} {nil : Bool} {tip : Tip} {l : List Ex} (h : ∀ y ∈ l, goodY t y) (hl : 2 ≤ l.length) : allR (nodeX k sz nil tip l) = true := by
  rw [allR_eq]
  have hb : bareP (nodeX k sz nil tip l) = true := by simp [bareP, nodeX, Ex.v, Ex.var, Ex.fld]
  have hk' : (nodeX k sz nil tip l).k = k := rfl
  have hl' : (nodeX k sz nil tip l).l = l := rfl
  have hno : (l.any fun y => decide (y.k = k)) = false := by
    rw [List.any_eq_false]
    intro y hy
    have := h y hy
    rcases hk with rfl | rfl <;> simp [this.2.2.1, this.2.2.2]
  have hr : rightP (nodeX k sz nil tip l) = true := by
    simp only [rightP, hk', hb, hl', hno]
    rcases hk with rfl | rfl <;> simp [isRowP, hl]
  rw [hr, hl', good_allR h]; rfl
theorem sayP_row (t : Tl) {k : Int} (hk : k = 16 ∨ k = 17) {sz : Nat} {nil : Bool} {tip : Tip} {l : List Ex} (h : ∀ y ∈ l, goodY t y) :
    sayP t (nodeX k sz nil tip l) = (boolV (if k = 16 then l.all (HoldsP t) else l.any (HoldsP t)), 0) := by
  rw [sayP_eq]
  have hl' : (nodeX k sz nil tip l).l = l := rfl
  have hk' : (nodeX k sz nil tip l).k = k := rfl
  rw [hl', says_good t l h]
  simp only [nodeP, hk', logicP, good_bad h, (all_isT h).1, (all_isT h).2, logicR]
  rcases hk with rfl | rfl <;> simp
theorem holds_boolV (b : Bool) : decide (boolV b = boolV true) = b := by cases b <;> decide
theorem rows_law (t : Tl) (sz : Nat) (nil : Bool) (tip : Tip) (l : List Ex) (h : ∀ y ∈ l, goodY t y) (hl : 2 ≤ l.length) (hs : sizeXs l ≤ 1048576) :
    ((SayP t (nodeX 16 sz nil tip l)).2 = 1) ∨ ((SayP t (nodeX 16 sz nil tip l)).2 = 0 ∧ HoldsP t (nodeX 16 sz nil tip l) = l.all (HoldsP t) ∧ HoldsP t (nodeX 17 sz nil tip l) = l.any (HoldsP t)) := by
  have s1 : ∀ k, sizeX (nodeX k sz nil tip l) = 1 + sizeXs l := fun k => by simp [nodeX, sizeX]
  by_cases hc : checkP (nodeX 16 sz nil tip l) = 0
  · right
    have hc2 : checkP (nodeX 17 sz nil tip l) = 0 := by
      rw [checkP_eq _ (by rw [s1]; omega), s1] at hc ⊢
      split at hc
      · cases hc
      · rename_i h3
        rw [if_neg h3, right_row (.inr rfl) h hl]; rfl
    simp only [HoldsP, SayP_ok hc, SayP_ok hc2, sayP_row t (.inl rfl) h, sayP_row t (.inr rfl) h]
    refine ⟨trivial, ?_, ?_⟩
    · simp only [if_true, decide_true, Bool.true_and]; exact holds_boolV _
    · simp only [decide_true, Bool.true_and]
      exact holds_boolV _
  · left; rw [SayP_bad hc]
theorem c7_l (t : Tl) (cap : List AV) (sz : Nat) (nil : Bool) (tip : Tip) (l : List Ex) (H : Heap) (Q : Post) (ht : Tells H (.fn (.func 42) [] cap) t) (hok : allXs okX l) (h2 : 2 ≤ l.length) (h20 : l.length ≤ 20) (hs : sizeXs l ≤ 1048576) (hq : ∀ H', Q (B true) H') :
    ∀ (r pre : List Ex) (H1 : Heap), l = pre ++ r → HExt H H1 → (∀ y ∈ pre, goodY t y) → f7_l20 (encXs sz nil tip l) (.fn (.func 42) [] cap) (B (pre.all (HoldsP t))) (B (pre.any (HoldsP t))) (I pre.length) H1 Q := by
  have aw : ∀ (H : Heap) (K : Post), (∀ H', K (B true) H') → E 25 [] H K := fun H K hk => c25 H K (fun H' _ => hk H')
  intro r
  induction r with
  | nil =>
    intro pre H1 e he hg
    have el : pre = l := by rw [e]; simp
    subst el
    have bn : ∀ k, bldA [(0, 1, I k), (6, 1, encXs sz nil tip pre)] [I 0, I 0, I 0, S e0, S e0, S e0, .sl 0 true .full []] = some (encX (nodeX k sz nil tip pre)) := fun k => bld_node k sz nil tip pre
    have on : ∀ k, allX okX (nodeX k sz nil tip pre) := fun k => ok_node k (by omega) hok
    rw [f7_l20_eq, lenX, ob_some, i_lss, ob_some, cnd_B]
    simp only [Int.lt_irrefl, decide_false, Bool.false_eq_true, if_false, bn, ob_some]
    have law := rows_law t sz nil tip pre hg h2 hs
    refine c20 t 42 _ _ (on 16) H1 _ (ht.ext he) (fun H2 e2 => ?_)
    simp only [ext0, ext1, ob_some, sz3, spl3, i_neq, i_eql, f7_j53_eq]
    rcases law with h1 | ⟨h1, h3, h4⟩
    · simp only [h1]
      exact aw _ _ (fun H' => hq H')
    · simp only [h1]
      refine c23 t 42 _ _ (on 16) H2 _ (ht.ext (he.trans e2)) (fun H3 e3 => ?_)
      rw [h3, b_eql 4 false u4, ob_some]
      simp only [BEq.rfl]
      rw [cnd_t]
      refine c23 t 42 _ _ (on 17) H3 _ (ht.ext ((he.trans e2).trans e3)) (fun H4 e4 => ?_)
      rw [h4, b_eql 4 false u4, ob_some]
      simp only [BEq.rfl, f7_j57_eq]
      exact aw _ _ (fun H' => hq H')
  | cons y r ih =>
    intro pre H1 e he hg
    have hlt : pre.length < l.length := by rw [e]; simp
    have hlt' : (pre.length : Int) < l.length := by omega
    have oy : allX okX y := allXs_mem hok (by rw [e]; simp)
    have p0 : (encC y)[0]? = some (I y.k) := by rw [encC_eq]; rfl
    have p0' : ((encC y).drop 0)[0]? = some (I y.k) := p0
    rw [f7_l20_eq, lenX, ob_some, i_lss, ob_some, cnd_B, if_pos (by simpa using hlt'), ixX l sz nil tip pre r y e, ob_some, partX, ob_some]
    refine c20 t 42 _ y oy H1 _ (ht.ext he) (fun H2 e2 => ?_)
    simp only [ext0, ext1, ob_some, sz3, spl3, i_neq, i_eql, part_f, List.getElem?_cons_zero, f7_c10_11a_eq, f7_c10_11b_eq, f7_c10_11c_eq, f7_c10_12a_eq, f7_c10_12b_eq, f7_c10_12c_eq, f7_c10_20a_eq, f7_c10_20b_eq, ixX l sz nil tip pre r y e, p0']
    have j34 : ∀ b : Bool, (b = false → goodY t y) → f7_j34 (encXs sz nil tip l) (.fn (.func 42) [] cap) (B (pre.all (HoldsP t))) (B (pre.any (HoldsP t))) (I pre.length) (B b) H2 Q := fun b hb => by
      rw [f7_j34_eq]
      refine cnd_intro (fun h => aw _ _ (fun H' => hq H')) (fun h => ?_)
      rw [ixX l sz nil tip pre r y e, ob_some, partX, ob_some]
      refine c23 t 42 _ y oy H2 _ (ht.ext (he.trans e2)) (fun H3 e3 => ?_)
      have := ih (pre ++ [y]) H3 (by simp [e]) ((he.trans e2).trans e3) (fun z hz => by
        rcases List.mem_append.1 hz with hz | hz
        · exact hg z hz
        · rw [List.mem_singleton.1 hz]; exact hb h)
      rw [List.length_append, List.length_singleton, List.all_append, List.any_append] at this
      simp only [List.all_cons, List.all_nil, List.any_cons, List.any_nil, Bool.and_true, Bool.or_false] at this
      simp only [f7_j43_eq, i_add, ob_some, w64_succ hlt (by omega)]
      cases hall : pre.all (HoldsP t) <;> cases hany : pre.any (HoldsP t) <;> simp only [hall, hany, cnd_t, cnd_f, Bool.true_and, Bool.false_and, Bool.true_or, Bool.false_or] at this ⊢ <;> exact this
    refine cnd_intro (fun a1 => j34 true (by simp)) (fun a1 => cnd_intro (fun a2 => cnd_intro (fun a3 => j34 true (by simp)) (fun a3 => cnd_intro (fun a4 => j34 true (by simp)) (fun a4 => j34 _ (fun a5 => ?_)))) (fun a2 => cnd_intro (fun a4 => j34 true (by simp)) (fun a4 => j34 _ (fun a5 => ?_))))
    · simp at a1 a2 a3 a4 a5
      exact ⟨a1, .inr a3, a4, a5⟩
    · simp at a1 a2 a4 a5
      exact ⟨a1, .inl a2, a4, a5⟩
theorem cEvalRows (sz : Nat) (nil : Bool) (tip : Tip) (xs : List Ex) (hok : allXs okX xs) (hs : sizeXs xs ≤ 1048576) (s1 s2 s3 : Nat) (n1 n2 n3 : Bool) (t1 t2 t3 : Tip) (vars fields : List ByteArray) (l : List Vl) (h1 : n1 = true → vars = []) (h2 : n2 = true → fields = []) (h3 : n3 = true → l = [])
    (k1 : n1 = true ∨ s1 = 1) (k2 : n2 = true ∨ s2 = 1) (k3 : n3 = true ∨ s3 = 3) (m1 : vars.length ≤ 1099511627776) (m2 : fields.length ≤ 1099511627776) (m3 : l.length ≤ 1099511627776) (H : Heap) (Q : Post) (hq : ∀ H', Q (B true) H') :
    E 7 [encXs sz nil tip xs, .sl s1 n1 t1 (vars.map S), .sl s2 n2 t2 (fields.map S), .sl s3 n3 t3 (l.map encV)] H Q := by
  have aw : ∀ (H : Heap) (K : Post), (∀ H', K (B true) H') → E 25 [] H K := fun H K hk => c25 H K (fun H' _ => hk H')
  rw [f7_eq]
  refine c19 s1 s2 s3 n1 n2 n3 t1 t2 t3 vars fields l h1 h2 h3 k1 k2 k3 m1 m2 m3 H _ (fun b1 b2 b3 H1 e1 ht => ?_)
  rw [fn_nil, ob_some, cnd_f, lenX, ob_some, i_lss, ob_some]
  have j7 : ∀ b : Bool, (b = false → 2 ≤ xs.length ∧ xs.length ≤ 20) → f7_j7 (encXs sz nil tip xs) (.fn (.func 42) [] [Pt b1, Pt b2, Pt b3]) (B b) H1 Q := fun b hb => by
    rw [f7_j7_eq]
    refine cnd_intro (fun h => ?_) (fun h => ?_)
    · rw [fn_nil', ob_some, cnd_t]
      exact aw _ _ (fun H' => by rw [f7_j10_eq]; exact hq H')
    · exact c7_l _ _ sz nil tip xs H1 Q ht hok (hb h).1 (hb h).2 hs hq xs [] H1 rfl (HExt.refl _) (fun y hy => by cases hy)
  refine cnd_intro (fun h => j7 true (by simp)) (fun h => ?_)
  rw [ob_some, i_gtr, ob_some]
  exact j7 _ (fun h' => by simp at h h'; omega)
end Go.Hx
