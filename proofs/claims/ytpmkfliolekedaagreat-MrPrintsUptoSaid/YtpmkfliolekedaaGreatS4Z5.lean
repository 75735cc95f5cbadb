/- Contracts of layer 21: a query's text. Own work. -/
import Derived.Test.YtpmkfliolekedaaGreatS4Z4
import Derived.Test.YtpmkfliolekedaaGreatS4Z3
set_option maxRecDepth 20000
namespace Go.Hx
def sPERM : List UInt8 := [80, 69, 82, 77, 85, 84, 69, 40]
def sBAR : List UInt8 := [32, 124, 32]
mutual
def mrT : Pa → Bool → List UInt8
  | .mk k var _ lo hi _ _ _ l, tight => if k = 2 then catL [32] (mrTs true l) else if k = 3 then sPERM ++ (catL [44, 32] (mrTs false l) ++ [41]) else if k = 4 then (if tight = true then 40 :: (catL sBAR (mrTs false l) ++ [41]) else catL sBAR (mrTs false l)) else tx var ++ (if k = 5 then quantT true lo hi else [])
def mrTs : Bool → List Pa → List (List UInt8)
  | _, [] => []
  | tight, x :: r => mrT x tight :: mrTs tight r
end
theorem mrT_eq (x : Pa) (tight : Bool) : mrT x tight = if x.k = 2 then catL [32] (mrTs true x.l) else if x.k = 3 then sPERM ++ (catL [44, 32] (mrTs false x.l) ++ [41]) else if x.k = 4 then (if tight = true then 40 :: (catL sBAR (mrTs false x.l) ++ [41]) else catL sBAR (mrTs false x.l)) else tx x.var ++ (if x.k = 5 then quantT true x.lo x.hi else []) := by
  cases x; rw [mrT]; rfl
theorem mrT_len (x : Pa) (h : allRT x = true) : ∀ tight, (mrT x tight).length + 5 ≤ 100 * sizeT x := by
  induction x using Pa.ind with
  | h x ih =>
    intro tight
    have h' := h
    rw [allRT_eq, Bool.and_eq_true] at h'
    have hch : ∀ y ∈ x.l, ∀ t, (mrT y t).length + 5 ≤ 100 * sizeT y := fun y hy => ih y hy (allRTs_mem h'.2 hy)
    have hsum : ∀ (sep : List UInt8) (t : Bool) (r : List Pa), sep.length ≤ 3 → (∀ y ∈ r, y ∈ x.l) → (catR sep (mrTs t r)).length ≤ 100 * sizeTs r := by
      intro sep t r hs
      induction r with
      | nil => intro _; simp [mrTs, catR]
      | cons y r ihr =>
        intro hm
        have h1 := hch y (hm y (by simp)) t
        have h2 := ihr (fun z hz => hm z (by simp [hz]))
        simp only [mrTs, catR, sizeTs, List.length_append]; omega
    have hcat : ∀ (sep : List UInt8) (t : Bool), sep.length ≤ 3 → (catL sep (mrTs t x.l)).length ≤ 100 * sizeTs x.l := by
      intro sep t hs
      cases hl : x.l with
      | nil => simp [mrTs, catL]
      | cons y r =>
        have h1 := hch y (by rw [hl]; simp) t
        have h2 := hsum sep t r hs (fun z hz => by rw [hl]; simp [hz])
        simp only [mrTs, catL, sizeTs, List.length_append]; omega
    have a1 := hcat [32] true (by simp)
    have a2 := hcat [44, 32] false (by simp)
    have a3 := hcat sBAR false (by simp [sBAR])
    rw [mrT_eq, sizeT_eq]
    split
    · omega
    · split
      · simp only [sPERM, List.length_cons, List.length_append, List.length_nil]; omega
      · split
        · split
          · simp only [List.length_cons, List.length_append, List.length_nil]; omega
          · omega
        · rename_i k2 k3 k4
          have hn := name_len (fine_name h ⟨k2, k3, k4⟩).1
          rw [List.length_append]
          split
          · rename_i k5
            have := quantT_len true (many_rng h'.1 k5).1 (many_rng h'.1 k5).2
            omega
          · simp only [List.length_nil]; omega
def PutsM (x : Pa) : Prop := ∀ (tight : Bool) (b : Nat) (H0 H : Heap) (t : List UInt8) (Q : Post), Bld H0 b t H → t.length + (mrT x tight).length + 100 ≤ 140737488355328 → (∀ H', Bld H0 b (t ++ mrT x tight) H' → Q (.tup []) H') → E 49 [Pt b, encT x, B tight] H Q
theorem c77 (sep : List UInt8) (tight : Bool) (sz : Nat) (nil : Bool) (tip : Tip) (l : List Pa) (hn : l.length ≤ 1099511627776) (hp : ∀ x ∈ l, PutsM x) (b : Nat) (H0 H : Heap) (t : List UInt8) (Q : Post) (h : Bld H0 b t H) (hl : t.length + (catL sep (mrTs tight l)).length + 100 ≤ 140737488355328)
    (hq : ∀ H', Bld H0 b (t ++ catL sep (mrTs tight l)) H' → Q (.tup []) H') : E 77 [Pt b, encTs sz nil tip l, strT sep, B tight] H Q := by
  have loop : ∀ (r pre : List Pa) (t : List UInt8) (H : Heap), l = pre ++ r → pre ≠ [] → Bld H0 b t H → t.length + (catR sep (mrTs tight r)).length + 100 ≤ 140737488355328 → (∀ H', Bld H0 b (t ++ catR sep (mrTs tight r)) H' → Q (.tup []) H') →
      f77_l3 (Pt b) (strT sep) (B tight) (encTs sz nil tip l) (I l.length) (I pre.length) H Q := by
    intro r
    induction r with
    | nil =>
      intro pre t H e _ h hl hq
      have h1 : (pre.length : Int) = l.length := by rw [e]; simp
      rw [f77_l3_eq, i_lss, ob_some, cnd_B, h1]
      simp only [Int.lt_irrefl, decide_false, Bool.false_eq_true, if_false]
      exact hq H (by simpa [mrTs, catR] using h)
    | cons x r ih =>
      intro pre t H e hne h hl hq
      have hlt : pre.length < l.length := by rw [e]; simp
      have hlt' : (pre.length : Int) < l.length := by omega
      have hp0 : 0 < pre.length := List.length_pos_iff.2 hne
      have hgt : decide ((0 : Int) < (pre.length : Int)) = true := by simp; omega
      simp only [mrTs, catR, List.length_append] at hl hq
      rw [f77_l3_eq, i_lss, ob_some, cnd_B, if_pos (by simpa using hlt'), ixT l sz nil tip pre r x e, ob_some, partT, ob_some, szT, ob_some, splT, ob_some, i_gtr, ob_some, hgt, cnd_t, nil_Pt, ob_some, add0_Pt, ob_some]
      refine put1 sep b H0 H t _ h (by omega) (fun H1 h1 => ?_)
      rw [f77_j20_eq, partT, ob_some]
      refine hp x (by rw [e]; simp) tight b H0 H1 _ _ h1 (by rw [List.length_append]; omega) (fun H2 h2 => ?_)
      rw [i_add, ob_some, w64_succ hlt (by omega)]
      have := ih (pre ++ [x]) _ H2 (by simp [e]) (by simp) h2 (by simp only [List.length_append]; omega) (fun H' h' => hq H' (by simpa using h'))
      rw [List.length_append, List.length_singleton] at this
      exact this
  rw [f77_eq, lenT, ob_some]
  cases hc : l with
  | nil =>
    rw [hc] at hq
    rw [f77_l3_eq, i_lss, ob_some, cnd_B]
    simp only [List.length_nil, Int.natCast_zero, Int.lt_irrefl, decide_false, Bool.false_eq_true, if_false]
    exact hq H (by simpa [mrTs, catL] using h)
  | cons x r =>
    rw [← hc]
    have hlt : 0 < l.length := by rw [hc]; simp
    have hlt' : (0 : Int) < l.length := by omega
    rw [hc] at hl hq
    simp only [mrTs, catL, List.length_append] at hl hq
    have i1 : ixaA 6 (encTs sz nil tip l) (I 0) = some (encTC x) := ixT l sz nil tip [] r x hc
    have h00 : decide ((0 : Int) < 0) = false := rfl
    rw [f77_l3_eq, i_lss, ob_some, cnd_B, if_pos (by simpa using hlt'), i1, ob_some, partT, ob_some, szT, ob_some, splT, ob_some, i_gtr, ob_some, h00, cnd_f, f77_j20_eq, partT, ob_some]
    refine hp x (by rw [hc]; simp) tight b H0 H t _ h (by omega) (fun H2 h2 => ?_)
    rw [i_add, ob_some]
    have h1 : W64 ((0 : Int) + 1) = (([x].length : Nat) : Int) := rfl
    rw [h1]
    exact loop r [x] _ H2 (by simp [hc]) (by simp) h2 (by simp only [List.length_append]; omega) (fun H' h' => hq H' (by simpa using h'))
theorem c49 (x : Pa) (hok : allT okT x) (hr : allRT x = true) : PutsM x := by
  induction x using Pa.ind with
  | h x ih =>
    rw [allT_eq] at hok
    have hr' := hr
    rw [allRT_eq, Bool.and_eq_true] at hr'
    have hch : ∀ y ∈ x.l, PutsM y := fun y hy => ih y hy (allTs_mem hok.2 hy) (allRTs_mem hr'.2 hy)
    have hn := hok.1.1
    intro tight b H0 H t Q h hl hq
    rw [mrT_eq] at hl hq
    have h8 : sPERM.length = 8 := rfl
    rw [f49_eq, szT, ob_some, part_f, p0T, ob_some, i_eql, ob_some]
    refine cnd_intro (fun g => ?_) (fun g => ?_)
    · have g : x.k = 2 := by simpa using g
      rw [if_pos g] at hl hq
      rw [part_f, p5T, ob_some]
      exact c77 [32] true x.sz x.nil x.tip x.l hn hch b H0 H t _ h hl hq
    have k2 : ¬ x.k = 2 := by simpa using g
    rw [if_neg k2] at hl hq
    rw [i_eql, ob_some]
    refine cnd_intro (fun g => ?_) (fun g => ?_)
    · have g : x.k = 3 := by simpa using g
      rw [if_pos g] at hl hq
      simp only [List.length_append, List.length_singleton, h8] at hl
      rw [nil_Pt, ob_some, add0_Pt, ob_some]
      refine put1 sPERM b H0 H t _ h (by rw [h8]; omega) (fun H1 h1 => ?_)
      rw [part_f, p5T, ob_some]
      refine c77 [44, 32] false x.sz x.nil x.tip x.l hn hch b H0 H1 _ _ h1 (by simp only [List.length_append, h8]; omega) (fun H2 h2 => ?_)
      rw [ob_some, add0_Pt, ob_some]
      exact put1 [41] b H0 H2 _ _ h2 (by simp only [List.length_append, List.length_singleton, h8]; omega) (fun H3 h3 => hq H3 (by simpa using h3))
    have k3 : ¬ x.k = 3 := by simpa using g
    rw [if_neg k3] at hl hq
    rw [i_eql, ob_some]
    refine cnd_intro (fun g => ?_) (fun g => ?_)
    · have g : x.k = 4 := by simpa using g
      rw [if_pos g] at hl hq
      cases tight with
      | true =>
        rw [if_pos rfl] at hl hq
        simp only [List.length_cons, List.length_append, List.length_nil] at hl
        rw [cnd_t, nil_Pt, ob_some, add0_Pt, ob_some]
        refine put1 [40] b H0 H t _ h (by simp only [List.length_singleton]; omega) (fun H1 h1 => ?_)
        rw [f49_j26_eq, part_f, p5T, ob_some]
        refine c77 sBAR false x.sz x.nil x.tip x.l hn hch b H0 H1 _ _ h1 (by simp only [List.length_append, List.length_singleton]; omega) (fun H2 h2 => ?_)
        rw [cnd_t, nil_Pt, ob_some, add0_Pt, ob_some]
        exact put1 [41] b H0 H2 _ _ h2 (by simp only [List.length_append, List.length_singleton]; omega) (fun H3 h3 => hq H3 (by simpa using h3))
      | false =>
        rw [if_neg (by simp)] at hl hq
        rw [cnd_f, f49_j26_eq, part_f, p5T, ob_some]
        refine c77 sBAR false x.sz x.nil x.tip x.l hn hch b H0 H _ _ h hl (fun H2 h2 => ?_)
        rw [cnd_f]
        exact hq H2 h2
    have k4 : ¬ x.k = 4 := by simpa using g
    rw [if_neg k4] at hl hq
    rw [List.length_append] at hl
    rw [nil_Pt, ob_some, add0_Pt, ob_some, part_f, p1T, ob_some, strT_tx x.var]
    refine put1 (tx x.var) b H0 H t _ h (by omega) (fun H1 h1 => ?_)
    rw [ob_some, add0_Pt, ob_some, partT, ob_some]
    by_cases k5 : x.k = 5
    · rw [if_pos k5] at hl hq
      exact c73 x true k5 (many_rng hr'.1 k5).1 (many_rng hr'.1 k5).2 b H0 H1 _ _ h1 (by rw [List.length_append]; omega) (fun H2 h2 => hq H2 (by simpa using h2))
    · rw [if_neg k5, List.append_nil] at hq
      exact c73n x true k5 b H1 _ (hq H1 h1)
/-! ### What the dialect lacks -/
mutual
def hasK (kk : Int) : Pa → Bool
  | .mk k _ _ _ _ _ _ _ l => decide (k = kk) || hasKs kk l
def hasKs (kk : Int) : List Pa → Bool
  | [] => false
  | x :: r => hasK kk x || hasKs kk r
end
theorem hasK_eq (kk : Int) (x : Pa) : hasK kk x = (decide (x.k = kk) || hasKs kk x.l) := by cases x; rw [hasK]; rfl
theorem c47k (kk : Int) (x : Pa) : allT okT x → ∀ (H : Heap) (Q : Post), E 47 [encT x, I kk] H Q = Q (B (hasK kk x)) H := by
  induction x using Pa.ind with
  | h x ih =>
    intro hok H Q
    have hok' := (allT_eq _ _).1 hok
    have hn := hok'.1.1
    have loop : ∀ (r pre : List Pa), x.l = pre ++ r → f47_l14 (I kk) (encTC x) (I pre.length) H Q = Q (B (hasKs kk r)) H := by
      intro r
      induction r with
      | nil =>
        intro pre e
        have h1 : (pre.length : Int) = x.l.length := by rw [e]; simp
        rw [f47_l14_eq, part_f, p5T, ob_some, lenT, ob_some, i_lss, ob_some, cnd_B, h1]
        simp [hasKs]
      | cons y r ihr =>
        intro pre e
        have hlt : pre.length < x.l.length := by rw [e]; simp
        have hlt' : (pre.length : Int) < x.l.length := by omega
        have ih2 := ihr (pre ++ [y]) (by simp [e])
        rw [List.length_append, List.length_singleton] at ih2
        rw [f47_l14_eq, part_f, p5T, ob_some, lenT, ob_some, i_lss, ob_some, cnd_B, if_pos (by simpa using hlt'), ob_some, ixT x.l x.sz x.nil x.tip pre r y e, ob_some, partT, ob_some, ih y (by rw [e]; simp) (allTs_mem hok'.2 (by rw [e]; simp)), cnd_B, i_add, ob_some, w64_succ hlt (by omega), ih2]
        cases h : hasK kk y <;> simp [hasKs, h]
    have l0 : f47_l14 (I kk) (encTC x) (I 0) H Q = _ := loop x.l [] rfl
    rw [f47_eq, szT, ob_some, part_f, p0T, ob_some, i_eql, ob_some, cnd_B, l0, hasK_eq]
    by_cases h : x.k = kk <;> simp [h]
mutual
def atomsT : Pa → Bool
  | .mk k _ _ _ _ _ _ _ l => atomsTs k l
def atomsTs : Int → List Pa → Bool
  | _, [] => true
  | k, y :: r => (!(decide (k = 3) && !decide (y.k = 1)) && atomsT y) && atomsTs k r
end
theorem atomsT_eq (x : Pa) : atomsT x = atomsTs x.k x.l := by cases x; rw [atomsT]; rfl
theorem c53 (x : Pa) : allT okT x → ∀ (H : Heap) (Q : Post), E 53 [encT x] H Q = Q (B (atomsT x)) H := by
  induction x using Pa.ind with
  | h x ih =>
    intro hok H Q
    have hok' := (allT_eq _ _).1 hok
    have hn := hok'.1.1
    have loop : ∀ (r pre : List Pa), x.l = pre ++ r → f53_l6 (encTC x) (I pre.length) H Q = Q (B (atomsTs x.k r)) H := by
      intro r
      induction r with
      | nil =>
        intro pre e
        have h1 : (pre.length : Int) = x.l.length := by rw [e]; simp
        rw [f53_l6_eq, part_f, p5T, ob_some, lenT, ob_some, i_lss, ob_some, cnd_B, h1]
        simp [atomsTs]
      | cons y r ihr =>
        intro pre e
        have hlt : pre.length < x.l.length := by rw [e]; simp
        have hlt' : (pre.length : Int) < x.l.length := by omega
        have ih2 := ihr (pre ++ [y]) (by simp [e])
        rw [List.length_append, List.length_singleton] at ih2
        have hy := ih y (by rw [e]; simp) (allTs_mem hok'.2 (by rw [e]; simp))
        have p0' : ((encTC y).drop 0)[0]? = some (I y.k) := p0T y
        have i1 := ixT x.l x.sz x.nil x.tip pre r y e
        have hj : ∀ b : Bool, f53_j17 (encTC x) (I pre.length) (B b) H Q = Q (B (!b && atomsTs x.k r)) H := fun b => by
          rw [f53_j17_eq, cnd_B, i_add, ob_some, w64_succ hlt (by omega), ih2]
          cases b <;> rfl
        rw [f53_l6_eq, part_f, p5T, ob_some, lenT, ob_some, i_lss, ob_some, cnd_B, if_pos (by simpa using hlt')]
        simp only [part_f, p0T, p5T, ob_some, i_eql, i_neq, i1, p0', partT, hy, not_B, hj, cnd_B, atomsTs]
        by_cases h3 : x.k = 3
        · by_cases h1 : y.k = 1
          · cases atomsT y <;> simp [h3, h1]
          · simp [h3, h1]
        · cases atomsT y <;> simp [h3]
    rw [f53_eq, szT, ob_some, atomsT_eq]
    exact loop x.l [] rfl
mutual
def lackT : Pa → Bool
  | .mk k _ _ _ _ _ _ _ l => decide (k = 6) || lackTs k l
def lackTs : Int → List Pa → Bool
  | _, [] => false
  | k, y :: r => ((decide (k = 3) && !decide (y.k = 1)) || lackT y) || lackTs k r
end
theorem lackT_eq (x : Pa) : lackT x = (decide (x.k = 6) || lackTs x.k x.l) := by cases x; rw [lackT]; rfl
theorem lack_is (x : Pa) : lackT x = (hasK 6 x || !atomsT x) := by
  induction x using Pa.ind with
  | h x ih =>
    rw [lackT_eq, hasK_eq, atomsT_eq]
    have : ∀ (r : List Pa), (∀ y ∈ r, y ∈ x.l) → lackTs x.k r = (hasKs 6 r || !atomsTs x.k r) := by
      intro r
      induction r with
      | nil => intro _; simp [lackTs, hasKs, atomsTs]
      | cons y r ihr =>
        intro hm
        simp only [lackTs, hasKs, atomsTs, ihr (fun z hz => hm z (by simp [hz])), ih y (hm y (by simp))]
        cases hasK 6 y <;> cases atomsT y <;> cases hasKs 6 r <;> cases atomsTs x.k r <;> cases decide (x.k = 3) <;> cases decide (y.k = 1) <;> rfl
    rw [this x.l (fun _ h => h), Bool.or_assoc]
def Lacks (x : Pa) : Prop := ∀ (H : Heap) (Q : Post), (∀ H', HExt H H' → Q (B (lackT x)) H') → E 76 [encT x] H Q
theorem c108 (x y : Pa) (hy : Lacks y) (b : Nat) (H : Heap) (Q : Post) (hb : H.objs b = some (.cells (encTC x))) (hq : ∀ H', HExt H H' → Q (B ((decide (x.k = 3) && !decide (y.k = 1)) || lackT y)) H') : E 108 [encT y, Pt b] H Q := by
  have h0 : addPA (Pt b) 0 = some (Pt b) := rfl
  rw [f108_eq, szT, ob_some, h0, ob_some, ld_Pt hb, part_f, p0T, ob_some, i_eql, ob_some]
  refine cnd_intro (fun g => ?_) (fun g => ?_)
  · simp only [g, Bool.true_and] at hq
    rw [part_f, p0T, ob_some, i_neq, ob_some]
    refine cnd_intro (fun g1 => ?_) (fun g1 => ?_)
    · rw [f108_j4_eq]
      have := hq H (HExt.refl H)
      simp only [g1, Bool.true_or] at this
      exact this
    · rw [partT, ob_some]
      refine hy H _ (fun H1 e1 => ?_)
      rw [f108_j4_eq]
      have := hq H1 e1
      simp only [g1, Bool.false_or] at this
      exact this
  · simp only [g, Bool.false_and, Bool.false_or] at hq
    rw [partT, ob_some]
    refine hy H _ (fun H1 e1 => ?_)
    rw [f108_j4_eq]
    exact hq H1 e1
theorem c76 (x : Pa) : allT okT x → Lacks x := by
  induction x using Pa.ind with
  | h x ih =>
    intro hok H Q hq
    have hok' := (allT_eq _ _).1 hok
    have hn := hok'.1.1
    rw [lackT_eq] at hq
    rw [f76_eq, szT, ob_some]
    intro b fb
    have e1 : HExt H (H.setObj b (.cells (encTC x))) := (HExt.refl H).setObj fb _
    have o1 := setObj_same H b (.cells (encTC x))
    simp only [Pt_def]
    generalize H.setObj b (.cells (encTC x)) = H1 at e1 o1 ⊢
    rw [add0_Pt, ob_some, ld_Pt o1, part_f, p0T, ob_some, i_eql, ob_some]
    refine cnd_intro (fun g => ?_) (fun g => ?_)
    · rw [f76_j6_eq]
      have := hq H1 e1
      simp only [g, Bool.true_or] at this
      exact this
    · simp only [g, Bool.false_or] at hq
      rw [add_Pt, ob_some, ld_off o1, part_f, p5T, ob_some, f71_eq, f107_eq, lenT, ob_some]
      have loop : ∀ (r pre : List Pa) (H2 : Heap) (K : Post), x.l = pre ++ r → HExt H1 H2 → (∀ (i : Int) H', HExt H1 H' → decide (0 ≤ i) = lackTs x.k r → K (I i) H') → f107_l6 (encTs x.sz x.nil x.tip x.l) (.fn (.func 108) [] [Pt b]) (I x.l.length) (I pre.length) H2 K := by
        intro r
        induction r with
        | nil =>
          intro pre H2 K e he hk
          have h1 : (pre.length : Int) = x.l.length := by rw [e]; simp
          rw [f107_l6_eq, i_lss, ob_some, cnd_B, h1]
          simp only [Int.lt_irrefl, decide_false, Bool.false_eq_true, if_false]
          exact hk (-1) H2 he rfl
        | cons y r ihr =>
          intro pre H2 K e he hk
          have hlt : pre.length < x.l.length := by rw [e]; simp
          have hlt' : (pre.length : Int) < x.l.length := by omega
          simp only [lackTs] at hk
          rw [f107_l6_eq, i_lss, ob_some, cnd_B, if_pos (by simpa using hlt'), ixT x.l x.sz x.nil x.tip pre r y e, ob_some, partT, ob_some]
          show E 108 [encT y, Pt b] H2 _
          refine c108 x y (ih y (by rw [e]; simp) (allTs_mem hok'.2 (by rw [e]; simp))) b H2 _ (he.obj o1) (fun H3 e3 => ?_)
          refine cnd_intro (fun g => ?_) (fun g => ?_)
          · exact hk _ H3 (he.trans e3) (by rw [g, Bool.true_or]; simp)
          · rw [i_add, ob_some, w64_succ hlt (by omega)]
            have := ihr (pre ++ [y]) H3 K (by simp [e]) (he.trans e3) (fun i H' h' hi => hk i H' h' (by rw [g, Bool.false_or]; exact hi))
            rw [List.length_append, List.length_singleton] at this
            exact this
      refine loop x.l [] H1 _ rfl (HExt.refl _) (fun i H' h' hi => ?_)
      rw [i_geq, ob_some, f76_j6_eq, hi]
      exact hq H' (e1.trans h')
/-! ### The document's text -/
def RefM (x : Pa) : Prop := ∀ (tight : Bool) (H : Heap) (Q : Post), (mrT x tight).length ≤ 140737488355328 → Q (strT (mrT x tight)) H → E 51 [encT x, B tight] H Q
def sepM (k : Int) : List UInt8 := if k = 2 then [32] else if k = 4 then sBAR else if k = 3 then [44, 32] else []
theorem c51 (x : Pa) (hok : allT okT x) (hr : allRT x = true) : RefM x := by
  induction x using Pa.ind with
  | h x ih =>
    rw [allT_eq] at hok
    have hr' := hr
    rw [allRT_eq, Bool.and_eq_true] at hr'
    have hch : ∀ y ∈ x.l, RefM y := fun y hy => ih y hy (allTs_mem hok.2 hy) (allRTs_mem hr'.2 hy)
    have hn := hok.1.1
    intro tight H Q hl hq
    rw [mrT_eq] at hl hq
    have e41 : S ⟨#[41]⟩ = strT [41] := rfl
    have e40 : S ⟨#[40]⟩ = strT [40] := rfl
    have ePERM : S ⟨#[80, 69, 82, 77, 85, 84, 69, 40]⟩ = strT sPERM := rfl
    have h8 : sPERM.length = 8 := rfl
    have e1 : S ⟨#[32]⟩ = strT [32] := rfl
    have e2 : S ⟨#[44, 32]⟩ = strT [44, 32] := rfl
    have e3 : S ⟨#[32, 124, 32]⟩ = strT sBAR := rfl
    have e0s : S ⟨#[]⟩ = strT [] := rfl
    rw [f51_eq, szT, ob_some, e0s]
    by_cases hk : x.k = 2 ∨ x.k = 3 ∨ x.k = 4
    · have hlc : (catL (sepM x.k) (mrTs (decide (x.k = 2)) x.l)).length ≤ 140737488355328 := by
        rcases hk with hk | hk | hk
        · rw [if_pos hk] at hl; simp only [sepM, hk]; exact hl
        · rw [if_neg (by omega), if_pos hk] at hl
          simp only [List.length_append, List.length_singleton, h8] at hl
          have : catL (sepM x.k) (mrTs (decide (x.k = 2)) x.l) = catL [44, 32] (mrTs false x.l) := by rw [hk]; rfl
          rw [this]; omega
        · rw [if_neg (by omega), if_neg (by omega), if_pos hk] at hl
          have : catL (sepM x.k) (mrTs (decide (x.k = 2)) x.l) = catL sBAR (mrTs false x.l) := by rw [hk]; rfl
          rw [this]
          split at hl
          · simp only [List.length_cons, List.length_append, List.length_nil] at hl; omega
          · exact hl
      -- the end
      have fin : ∀ (acc : List UInt8), acc = catL (sepM x.k) (mrTs (decide (x.k = 2)) x.l) → ob (some (I x.k)) fun r8 => ob (binA Pg .eql 3 true r8 (I 3)) fun r9 => cndA r9 (ob (binA Pg .add 9 true (S ⟨#[80, 69, 82, 77, 85, 84, 69, 40]⟩) (strT acc)) fun r10 => ob (binA Pg .add 9 true r10 (S ⟨#[41]⟩)) fun r11 => Q r11 H)
          (ob (some (I x.k)) fun r12 => ob (binA Pg .eql 3 true r12 (I 4)) fun r13 => cndA r13 (f51_j47 (encTC x) (strT acc) (B tight) H Q) (f51_j47 (encTC x) (strT acc) (B false) H Q)) := fun acc ha => by
        rw [ob_some, i_eql, ob_some]
        have hlen : acc.length ≤ 140737488355328 := by rw [ha]; exact hlc
        refine cnd_intro (fun g => ?_) (fun g => ?_)
        · have g : x.k = 3 := by simpa using g
          have hc : catL (sepM x.k) (mrTs (decide (x.k = 2)) x.l) = catL [44, 32] (mrTs false x.l) := by rw [g]; rfl
          rw [if_neg (by omega), if_pos g] at hl hq
          rw [ePERM, e41, s_add _ _ _ _ (by rw [h8]; omega), ob_some, s_add _ _ _ _ (by simp only [List.length_append, List.length_singleton, h8]; omega), ob_some, ha, hc, List.append_assoc]
          exact hq
        · have g3 : ¬ x.k = 3 := by simpa using g
          rw [ob_some, i_eql, ob_some]
          have j47f : (x.k = 2 ∨ x.k = 4) → Q (strT acc) H → f51_j47 (encTC x) (strT acc) (B false) H Q := fun hk hq => by
            rw [f51_j47_eq, cnd_f, part_f, p0T, ob_some, i_eql, ob_some]
            refine cnd_intro (fun g => ?_) (fun g => ?_)
            · rw [f51_j53_eq, cnd_t]; exact hq
            · have h4' : ¬ x.k = 4 := by simpa using g
              have : decide (x.k = 2) = true := decide_eq_true (by omega)
              rw [ob_some, i_eql, ob_some, this, f51_j53_eq, cnd_t]; exact hq
          refine cnd_intro (fun g => ?_) (fun g => ?_)
          · have g : x.k = 4 := by simpa using g
            have hc : catL (sepM x.k) (mrTs (decide (x.k = 2)) x.l) = catL sBAR (mrTs false x.l) := by rw [g]; rfl
            rw [if_neg (by omega), if_neg (by omega), if_pos g] at hl hq
            cases tight with
            | true =>
              rw [if_pos rfl] at hl hq
              simp only [List.length_cons, List.length_append, List.length_nil] at hl
              have hal : acc.length = (catL sBAR (mrTs false x.l)).length := by rw [ha, hc]
              rw [f51_j47_eq, cnd_t, e40, e41, s_add _ _ _ _ (by simp only [List.length_singleton]; omega), ob_some, s_add _ _ _ _ (by simp only [List.length_append, List.length_singleton]; omega), ob_some, ha, hc]
              simpa using hq
            | false =>
              rw [if_neg (by simp)] at hq
              exact j47f (.inr g) (by rw [ha, hc]; exact hq)
          · have g4 : ¬ x.k = 4 := by simpa using g
            have g2 : x.k = 2 := by omega
            have hc : catL (sepM x.k) (mrTs (decide (x.k = 2)) x.l) = catL [32] (mrTs true x.l) := by rw [g2]; rfl
            rw [if_pos g2] at hq
            exact j47f (.inl g2) (by rw [ha, hc]; exact hq)
      -- one part
      have step : ∀ (y : Pa) (pre r : List Pa) (acc : List UInt8), x.l = pre ++ y :: r → acc.length + (mrT y (decide (x.k = 2))).length ≤ 140737488355333 → (mrT y (decide (x.k = 2))).length ≤ 140737488355328 → f51_l8 (B tight) (encTC x) (strT (acc ++ mrT y (decide (x.k = 2)))) (I ((pre.length + 1 : Nat) : Int)) H Q →
          ob (some (encTs x.sz x.nil x.tip x.l)) fun r49 => ob (ixaA 6 r49 (I pre.length)) fun c50 => ob (partA true 0 6 c50) fun r51 => ob (some (I x.k)) fun r52 => ob (binA Pg .eql 3 true r52 (I 2)) fun r53 => E 51 [r51, r53] H fun r54 H55 => ob (binA Pg .add 9 false (strT acc) r54) fun r56 => ob (binA Pg .add 3 true (I pre.length) (I 1)) fun r57 => f51_l8 (B tight) (encTC x) r56 r57 H55 Q := fun y pre r acc e hla hly hk => by
        have hlt : pre.length < x.l.length := by rw [e]; simp
        rw [ob_some, ixT x.l x.sz x.nil x.tip pre r y e, ob_some, partT, ob_some, ob_some, i_eql, ob_some]
        refine hch y (by rw [e]; simp) _ H _ hly ?_
        rw [s_add _ _ _ _ (by omega), ob_some, i_add, ob_some, w64_succ hlt (by omega)]
        exact hk
      have loop : ∀ (r pre : List Pa) (acc : List UInt8), x.l = pre ++ r → pre ≠ [] → acc ++ catR (sepM x.k) (mrTs (decide (x.k = 2)) r) = catL (sepM x.k) (mrTs (decide (x.k = 2)) x.l) → f51_l8 (B tight) (encTC x) (strT acc) (I pre.length) H Q := by
        intro r
        induction r with
        | nil =>
          intro pre acc e _ ha
          have h1 : (pre.length : Int) = x.l.length := by rw [e]; simp
          rw [f51_l8_eq, part_f, p5T, ob_some, lenT, ob_some, i_lss, ob_some, cnd_B, h1]
          simp only [Int.lt_irrefl, decide_false, Bool.false_eq_true, if_false]
          rw [part_f, p0T]
          exact fin acc (by simpa [mrTs, catR] using ha)
        | cons y r ihr =>
          intro pre acc e hne ha
          have hlt : pre.length < x.l.length := by rw [e]; simp
          have hlt' : (pre.length : Int) < x.l.length := by omega
          have hp0 : 0 < pre.length := List.length_pos_iff.2 hne
          have hgt : decide ((0 : Int) < (pre.length : Int)) = true := by simp; omega
          have hal := congrArg List.length ha
          simp only [mrTs, catR, List.length_append] at ha hal
          have hnx := ihr (pre ++ [y]) (acc ++ sepM x.k ++ mrT y (decide (x.k = 2))) (by simp [e]) (by simp) (by simpa using ha)
          rw [List.length_append, List.length_singleton] at hnx
          have hlc' := hlc
          rw [f51_l8_eq, part_f, p5T, ob_some, lenT, ob_some, i_lss, ob_some, cnd_B, if_pos (by simpa using hlt'), i_gtr, ob_some, hgt, cnd_t, part_f, p0T, ob_some, i_eql, ob_some, f51_j20_eq]
          rcases hk with hk | hk | hk
          · have hs : sepM x.k = [32] := by rw [hk]; rfl
            rw [hs] at hal hnx hlc'
            simp only [List.length_cons, List.length_nil] at hal
            have st := step y pre r (acc ++ [32]) e (by simp only [List.length_append, List.length_cons, List.length_nil]; omega) (by omega) hnx
            rw [show decide (x.k = 2) = true from decide_eq_true hk]
            rw [cnd_t, e1, s_add _ _ _ _ (by simp only [List.length_cons, List.length_nil]; omega), ob_some, i_gtr, ob_some, hgt, cnd_t, part_f, p0T, ob_some, i_eql, ob_some, show decide (x.k = 4) = false from decide_eq_false (by omega), f51_j26_eq, cnd_f, i_gtr, ob_some, hgt, cnd_t, part_f, p0T, ob_some, i_eql, ob_some, show decide (x.k = 3) = false from decide_eq_false (by omega), f51_j32_eq, cnd_f, part_f, p5T, part_f, p0T]
            exact st
          · have hs : sepM x.k = [44, 32] := by rw [hk]; rfl
            rw [hs] at hal hnx hlc'
            simp only [List.length_cons, List.length_nil] at hal
            have st := step y pre r (acc ++ [44, 32]) e (by simp only [List.length_append, List.length_cons, List.length_nil]; omega) (by omega) hnx
            rw [show decide (x.k = 2) = false from decide_eq_false (by omega)]
            rw [cnd_f, i_gtr, ob_some, hgt, cnd_t, part_f, p0T, ob_some, i_eql, ob_some, show decide (x.k = 4) = false from decide_eq_false (by omega), f51_j26_eq, cnd_f, i_gtr, ob_some, hgt, cnd_t, part_f, p0T, ob_some, i_eql, ob_some, show decide (x.k = 3) = true from decide_eq_true hk, f51_j32_eq, cnd_t, e2, s_add _ _ _ _ (by simp only [List.length_cons, List.length_nil]; omega), ob_some, part_f, p5T, part_f, p0T]
            exact st
          · have hs : sepM x.k = sBAR := by rw [hk]; rfl
            have hb3 : sBAR.length = 3 := rfl
            rw [hs] at hal hnx hlc'
            rw [hb3] at hal
            have st := step y pre r (acc ++ sBAR) e (by rw [List.length_append, hb3]; omega) (by omega) hnx
            rw [show decide (x.k = 2) = false from decide_eq_false (by omega)]
            rw [cnd_f, i_gtr, ob_some, hgt, cnd_t, part_f, p0T, ob_some, i_eql, ob_some, show decide (x.k = 4) = true from decide_eq_true hk, f51_j26_eq, cnd_t, e3, s_add _ _ _ _ (by rw [hb3]; omega), ob_some, i_gtr, ob_some, hgt, cnd_t, part_f, p0T, ob_some, i_eql, ob_some, show decide (x.k = 3) = false from decide_eq_false (by omega), f51_j32_eq, cnd_f, part_f, p5T, part_f, p0T]
            exact st
      cases hc : x.l with
      | nil =>
        rw [f51_l8_eq, part_f, p5T, ob_some, lenT, ob_some, i_lss, ob_some, cnd_B, hc]
        simp only [List.length_nil, Int.natCast_zero, Int.lt_irrefl, decide_false, Bool.false_eq_true, if_false]
        rw [part_f, p0T]
        exact fin [] (by rw [hc]; rfl)
      | cons y r =>
        have hlt : 0 < x.l.length := by rw [hc]; simp
        have hlt' : (0 : Int) < x.l.length := by omega
        have h00 : decide ((0 : Int) < 0) = false := rfl
        have hal : catL (sepM x.k) (mrTs (decide (x.k = 2)) x.l) = mrT y (decide (x.k = 2)) ++ catR (sepM x.k) (mrTs (decide (x.k = 2)) r) := by rw [hc]; rfl
        have hal2 := hlc
        rw [hal, List.length_append] at hal2
        have hnx := loop r [y] (mrT y (decide (x.k = 2))) (by simp [hc]) (by simp) hal.symm
        rw [f51_l8_eq, part_f, p5T, ob_some, lenT, ob_some, i_lss, ob_some, cnd_B, if_pos (by simpa using hlt'), i_gtr, ob_some, h00, cnd_f, f51_j20_eq, cnd_f, i_gtr, ob_some, h00, cnd_f, f51_j26_eq, cnd_f, i_gtr, ob_some, h00, cnd_f, f51_j32_eq, cnd_f, part_f, p5T, part_f, p0T]
        exact step y [] r [] hc (by simp only [List.length_nil]; omega) (by omega) hnx
    · have k2 : ¬ x.k = 2 := fun h => hk (.inl h)
      have k3 : ¬ x.k = 3 := fun h => hk (.inr (.inl h))
      have k4 : ¬ x.k = 4 := fun h => hk (.inr (.inr h))
      rw [if_neg k2, if_neg k3, if_neg k4] at hl hq
      rw [List.length_append] at hl
      have hnil : x.l = [] := by
        have h := hr'.1
        simp only [rightT] at h
        split at h
        · simp [leafT] at h; exact List.eq_nil_of_length_eq_zero (by simp [h])
        · split at h
          · simp [leafT] at h; exact List.eq_nil_of_length_eq_zero (by simp [h])
          · first | (cases h; done) | (rw [if_neg hk] at h; cases h)
      have hln : (x.l.length : Int) = 0 := by rw [hnil]; rfl
      have d2 : decide (x.k = 2) = false := decide_eq_false k2
      have d3 : decide (x.k = 3) = false := decide_eq_false k3
      have d4 : decide (x.k = 4) = false := decide_eq_false k4
      rw [f51_l8_eq, part_f, p5T, ob_some, lenT, ob_some, i_lss, ob_some, cnd_B, hln]
      simp only [Int.lt_irrefl, decide_false, Bool.false_eq_true, if_false]
      rw [part_f, p0T, ob_some, i_eql, ob_some, d3, cnd_f, ob_some, i_eql, ob_some, d4, cnd_f, f51_j47_eq, cnd_f, part_f, p0T, ob_some, i_eql, ob_some, d4, cnd_f, ob_some, i_eql, ob_some, d2, f51_j53_eq, cnd_f, part_f, p1T, ob_some, partT, ob_some]
      by_cases k5 : x.k = 5
      · rw [if_pos k5] at hl hq
        refine c75 x true k5 (many_lo hr'.1 k5) (many_rng hr'.1 k5).2 H _ ?_
        rw [strT_tx x.var, s_add _ _ _ _ (by omega), ob_some]
        exact hq
      · rw [if_neg k5] at hq
        refine c75n x true k5 H _ ?_
        rw [strT_tx x.var, s_add _ _ _ _ (by simp only [List.length_nil]; omega), ob_some]
        exact hq
end Go.Hx
