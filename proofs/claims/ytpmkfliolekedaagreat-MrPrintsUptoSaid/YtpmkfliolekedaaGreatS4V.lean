/- Contracts of layer 20: the document's texts; can it be said; the statement's walk. Own work. -/
import Derived.Test.YtpmkfliolekedaaGreatS4U
set_option maxRecDepth 20000
namespace Go.Hx
def RefE (x : Pa) : Prop := ∀ (need : Int) (H : Heap) (Q : Post), (putE x need).length ≤ 140737488355328 → Q (strT (putE x need)) H → E 38 [encT x, I need] H Q
theorem c38 (x : Pa) (hok : allT okT x) (hr : allRT x = true) : RefE x := by
  induction x using Pa.ind with
  | h x ih =>
    rw [allT_eq] at hok
    have hr' := hr
    rw [allRT_eq, Bool.and_eq_true] at hr'
    have hch : ∀ y ∈ x.l, RefE y := fun y hy => ih y hy (allTs_mem hok.2 hy) (allRTs_mem hr'.2 hy)
    have hn := hok.1.1
    intro need H Q hl hq
    rw [putE_eq] at hl hq
    have hlv := lvE_rng x.k
    have hw : W64 (lvE x.k + 1) = lvE x.k + 1 := w64_id (by omega) (by omega)
    have e40 : S ⟨#[40]⟩ = strT [40] := rfl
    have e41 : S ⟨#[41]⟩ = strT [41] := rfl
    have e61 : S ⟨#[61]⟩ = strT [61] := rfl
    have j43 : lvE x.k ≠ 4 → f38_j43 (I need) (encTC x) (I (lvE x.k)) (strT (sepE x.k)) H Q := fun g => by
      rw [if_neg g] at hl hq
      have fin : ∀ (acc : List UInt8), acc = catL (sepE x.k) (putEs (lvE x.k + 1) x.l) → ob (binA Pg .lss 3 false (I (lvE x.k)) (I need)) fun r32 => cndA r32 (ob (binA Pg .add 9 true (S ⟨#[40]⟩) (strT acc)) fun r33 => ob (binA Pg .add 9 true r33 (S ⟨#[41]⟩)) fun r34 => Q r34 H) (Q (strT acc) H) := fun acc ha => by
        rw [i_lss, ob_some]
        refine cnd_intro (fun g2 => ?_) (fun g2 => ?_)
        · rw [if_pos (by simpa using g2)] at hl hq
          simp only [List.length_cons, List.length_append, List.length_nil] at hl
          rw [e40, e41, s_add _ _ _ _ (by rw [ha, List.length_singleton]; omega), ob_some, s_add _ _ _ _ (by simp only [List.length_append, List.length_singleton]; rw [ha]; omega), ob_some, ha]
          simpa using hq
        · rw [if_neg (by simpa using g2)] at hl hq
          rw [ha]; exact hq
      have hlc : (catL (sepE x.k) (putEs (lvE x.k + 1) x.l)).length ≤ 140737488355328 := by
        split at hl
        · simp only [List.length_cons, List.length_append, List.length_nil] at hl; omega
        · exact hl
      have loop : ∀ (r pre : List Pa) (acc : List UInt8), x.l = pre ++ r → pre ≠ [] → acc ++ catR (sepE x.k) (putEs (lvE x.k + 1) r) = catL (sepE x.k) (putEs (lvE x.k + 1) x.l) →
          f38_l49 (I need) (encTC x) (I (lvE x.k)) (strT (sepE x.k)) (strT acc) (I pre.length) H Q := by
        intro r
        induction r with
        | nil =>
          intro pre acc e _ ha
          have h1 : (pre.length : Int) = x.l.length := by rw [e]; simp
          rw [f38_l49_eq, part_f, p5T, ob_some, lenT, ob_some, i_lss, ob_some, cnd_B, h1]
          simp only [Int.lt_irrefl, decide_false, Bool.false_eq_true, if_false]
          exact fin acc (by simpa [putEs, catR] using ha)
        | cons y r ihr =>
          intro pre acc e hne ha
          have hlt : pre.length < x.l.length := by rw [e]; simp
          have hlt' : (pre.length : Int) < x.l.length := by omega
          have hp0 : 0 < pre.length := List.length_pos_iff.2 hne
          have hgt : decide ((0 : Int) < (pre.length : Int)) = true := by simp; omega
          have hal := congrArg List.length ha
          simp only [putEs, catR, List.length_append] at ha hal
          rw [f38_l49_eq, part_f, p5T, ob_some, lenT, ob_some, i_lss, ob_some, cnd_B, if_pos (by simpa using hlt'), i_gtr, ob_some, hgt, cnd_t, s_add _ _ _ _ (by omega), ob_some, f38_j64_eq, part_f, p5T, ob_some, ixT x.l x.sz x.nil x.tip pre r y e, ob_some, partT, ob_some, i_add, ob_some, hw]
          refine hch y (by rw [e]; simp) (lvE x.k + 1) H _ (by omega) ?_
          rw [s_add _ _ _ _ (by simp only [List.length_append]; omega), ob_some, i_add, ob_some, w64_succ hlt (by omega)]
          have := ihr (pre ++ [y]) (acc ++ sepE x.k ++ putE y (lvE x.k + 1)) (by simp [e]) (by simp) (by simpa using ha)
          rw [List.length_append, List.length_singleton] at this
          exact this
      rw [f38_j43_eq]
      have e0s : S ⟨#[]⟩ = strT [] := rfl
      cases hc : x.l with
      | nil =>
        rw [f38_l49_eq, part_f, p5T, ob_some, lenT, ob_some, i_lss, ob_some, cnd_B, hc]
        simp only [List.length_nil, Int.natCast_zero, Int.lt_irrefl, decide_false, Bool.false_eq_true, if_false]
        exact fin [] (by rw [hc]; rfl)
      | cons y r =>
        have hlt : 0 < x.l.length := by rw [hc]; simp
        have hlt' : (0 : Int) < x.l.length := by omega
        have i1 : ixaA 6 (encTs x.sz x.nil x.tip x.l) (I 0) = some (encTC y) := ixT x.l x.sz x.nil x.tip [] r y hc
        have h00 : decide ((0 : Int) < 0) = false := rfl
        have hal : catL (sepE x.k) (putEs (lvE x.k + 1) x.l) = putE y (lvE x.k + 1) ++ catR (sepE x.k) (putEs (lvE x.k + 1) r) := by rw [hc]; rfl
        have hal2 := hlc
        rw [hal, List.length_append] at hal2
        rw [f38_l49_eq, part_f, p5T, ob_some, lenT, ob_some, i_lss, ob_some, cnd_B, if_pos (by simpa using hlt'), i_gtr, ob_some, h00, cnd_f, f38_j64_eq, part_f, p5T, ob_some, i1, ob_some, partT, ob_some, i_add, ob_some, hw]
        refine hch y (by rw [hc]; simp) (lvE x.k + 1) H _ (by omega) ?_
        rw [e0s, s_add _ _ _ _ (by simp only [List.length_nil]; omega), ob_some, i_add, ob_some]
        have h1 : W64 ((0 : Int) + 1) = (([y].length : Nat) : Int) := rfl
        rw [h1]
        exact loop r [y] _ (by simp [hc]) (by simp) (by rw [hal, List.nil_append])
    rw [f38_eq, szT, ob_some, part_f, p0T, ob_some, i_eql, ob_some]
    have hJ := j43
    by_cases k2 : x.k = 2
    · have : lvE x.k ≠ 4 := by rw [k2]; decide
      have := j43 this
      rw [k2] at this ⊢
      exact this
    simp only [k2, decide_false, cnd_f]
    rw [i_eql, ob_some]
    by_cases k4 : x.k = 4
    · have : lvE x.k ≠ 4 := by rw [k4]; decide
      have := j43 this
      rw [k4] at this ⊢
      exact this
    simp only [k4, decide_false, cnd_f]
    rw [i_eql, ob_some]
    by_cases k3 : x.k = 3
    · have : lvE x.k ≠ 4 := by rw [k3]; decide
      have := j43 this
      rw [k3] at this ⊢
      exact this
    have hlf : lvE x.k = 4 := lvE_leaf.2 ⟨k2, k3, k4⟩
    rw [if_pos hlf] at hl hq
    simp only [leafE, varT] at hl hq
    simp only [k3, decide_false, cnd_f]
    rw [i_eql, ob_some]
    refine cnd_intro (fun g => ?_) (fun g => ?_)
    · rw [if_pos (by simpa using g)] at hl hq
      have e1 : S ⟨#[78, 79, 84, 32]⟩ = strT sNOT := rfl
      simp only [List.length_append, List.length_cons] at hl
      rw [part_f, p1T, ob_some, e1, e61, strT_tx x.var, s_add _ _ _ _ (by omega), ob_some, s_add _ _ _ _ (by simp only [List.length_append, List.length_singleton]; omega), ob_some, part_f, p2T, ob_some, strT_tx x.typ, s_add _ _ _ _ (by simp only [List.length_append, List.length_singleton]; omega), ob_some]
      simpa using hq
    rw [if_neg (by simpa using g)] at hl hq
    rw [i_eql, ob_some]
    refine cnd_intro (fun g => ?_) (fun g => ?_)
    · have g : x.k = 5 := by simpa using g
      rw [if_pos g] at hl hq
      have hlo := numT_small (many_lo hr'.1 g)
      have e1 : S ⟨#[91]⟩ = strT [91] := rfl
      have e2 : S ⟨#[93, 32]⟩ = strT [93, 32] := rfl
      simp only [List.length_append, List.length_cons, List.length_nil] at hl
      rw [part_f, p3T, ob_some, part_f, p1T, ob_some, part_f, p2T, ob_some]
      refine c70 x.lo hlo H _ ?_
      rw [e1, e2, e61, s_add _ _ _ _ (by simp only [List.length_singleton]; omega), ob_some, s_add _ _ _ _ (by simp only [List.length_append, List.length_cons, List.length_nil]; omega), ob_some, strT_tx x.var,
        s_add _ _ _ _ (by simp only [List.length_append, List.length_cons, List.length_nil]; omega), ob_some, s_add _ _ _ _ (by simp only [List.length_append, List.length_cons, List.length_nil]; omega), ob_some, strT_tx x.typ, s_add _ _ _ _ (by simp only [List.length_append, List.length_cons, List.length_nil]; omega), ob_some]
      simpa using hq
    · rw [if_neg (by simpa using g)] at hl hq
      simp only [List.length_append, List.length_cons] at hl
      rw [part_f, p1T, ob_some, e61, strT_tx x.var, s_add _ _ _ _ (by simp only [List.length_singleton]; omega), ob_some, part_f, p2T, ob_some, strT_tx x.typ, s_add _ _ _ _ (by simp only [List.length_append, List.length_singleton]; omega), ob_some]
      simpa using hq
/-! ### Can it be said -/
mutual
def exactT : Pa → Bool
  | .mk k _ _ lo hi _ _ _ l => !(decide (k = 5) && !decide (lo = hi)) && exactTs l
def exactTs : List Pa → Bool
  | [] => true
  | x :: r => exactT x && exactTs r
end
theorem exactT_eq (x : Pa) : exactT x = (!(decide (x.k = 5) && !decide (x.lo = x.hi)) && exactTs x.l) := by cases x; rw [exactT]; rfl
theorem c41 (x : Pa) : allT okT x → ∀ (H : Heap) (Q : Post), E 41 [encT x] H Q = Q (B (exactT x)) H := by
  induction x using Pa.ind with
  | h x ih =>
    intro hok H Q
    have hok' := (allT_eq _ _).1 hok
    have hn := hok'.1.1
    have loop : ∀ (r pre : List Pa), x.l = pre ++ r → f41_l14 (encTC x) (I pre.length) H Q = Q (B (exactTs r)) H := by
      intro r
      induction r with
      | nil =>
        intro pre e
        have h1 : (pre.length : Int) = x.l.length := by rw [e]; simp
        rw [f41_l14_eq, part_f, p5T, ob_some, lenT, ob_some, i_lss, ob_some, cnd_B, h1]
        simp [exactTs]
      | cons y r ihr =>
        intro pre e
        have hlt : pre.length < x.l.length := by rw [e]; simp
        have hlt' : (pre.length : Int) < x.l.length := by omega
        have ih2 := ihr (pre ++ [y]) (by simp [e])
        rw [List.length_append, List.length_singleton] at ih2
        rw [f41_l14_eq, part_f, p5T, ob_some, lenT, ob_some, i_lss, ob_some, cnd_B, if_pos (by simpa using hlt'), ob_some, ixT x.l x.sz x.nil x.tip pre r y e, ob_some, partT, ob_some, ih y (by rw [e]; simp) (allTs_mem hok'.2 (by rw [e]; simp)), not_B, ob_some, cnd_B, i_add, ob_some, w64_succ hlt (by omega), ih2]
        cases h : exactT y <;> simp [exactTs, h]
    have l0 : f41_l14 (encTC x) (I 0) H Q = _ := loop x.l [] rfl
    have hj : ∀ b : Bool, f41_j5 (encTC x) (B b) H Q = Q (B (!b && exactTs x.l)) H := fun b => by
      rw [f41_j5_eq, cnd_B, l0]
      cases b <;> rfl
    rw [f41_eq, szT, ob_some, part_f, p0T, ob_some, i_eql, ob_some, cnd_B, part_f, p3T, ob_some, part_f, p4T, ob_some, i_neq, ob_some, hj, hj, exactT_eq]
    by_cases h : x.k = 5 <;> simp [h]
def anyRT (l : List Pa) : Bool := !exactTs l
theorem c63 (x : Pa) : allT okT x → ∀ (H : Heap) (Q : Post), E 63 [encT x] H Q = Q (B (!exactT x)) H := by
  induction x using Pa.ind with
  | h x ih =>
    intro hok H Q
    have hok' := (allT_eq _ _).1 hok
    have hn := hok'.1.1
    have loop : ∀ (r pre : List Pa) (K : Post), x.l = pre ++ r → ∃ i : Int, decide (0 ≤ i) = (!exactTs r) ∧ f107_l6 (encTs x.sz x.nil x.tip x.l) (.fn (.func 63) [] []) (I x.l.length) (I pre.length) H K = K (I i) H := by
      intro r
      induction r with
      | nil =>
        intro pre K e
        have h1 : (pre.length : Int) = x.l.length := by rw [e]; simp
        refine ⟨-1, by simp [exactTs], ?_⟩
        rw [f107_l6_eq, i_lss, ob_some, cnd_B, h1]
        simp
      | cons y r ihr =>
        intro pre K e
        have hlt : pre.length < x.l.length := by rw [e]; simp
        have hlt' : (pre.length : Int) < x.l.length := by omega
        obtain ⟨i, h1, h2⟩ := ihr (pre ++ [y]) K (by simp [e])
        rw [List.length_append, List.length_singleton] at h2
        have hy : ∀ K : Post, callA (Ev Pg Hs) (.fn (.func 63) [] []) [encT y] H K = K (B (!exactT y)) H := fun K => ih y (by rw [e]; simp) (allTs_mem hok'.2 (by rw [e]; simp)) H K
        cases hx : exactT y with
        | true =>
          refine ⟨i, by rw [h1]; simp [exactTs, hx], ?_⟩
          rw [f107_l6_eq, i_lss, ob_some, cnd_B, if_pos (by simpa using hlt'), ixT x.l x.sz x.nil x.tip pre r y e, ob_some, partT, ob_some, hy, hx, Bool.not_true, cnd_f, i_add, ob_some, w64_succ hlt (by omega), h2]
        | false =>
          refine ⟨pre.length, by simp [exactTs, hx], ?_⟩
          rw [f107_l6_eq, i_lss, ob_some, cnd_B, if_pos (by simpa using hlt'), ixT x.l x.sz x.nil x.tip pre r y e, ob_some, partT, ob_some, hy, hx, Bool.not_false, cnd_t]
    have h71 : ∀ K : Post, E 71 [encTs x.sz x.nil x.tip x.l, .fn (.func 63) [] []] H K = K (B (!exactTs x.l)) H := fun K => by
      obtain ⟨i, h1, h2⟩ := loop x.l [] (fun r1 H2 => ob (binA Pg .geq 3 true r1 (I 0)) fun r3 => K r3 H2) rfl
      rw [f71_eq, f107_eq, lenT, ob_some]
      refine h2.trans ?_
      rw [i_geq, ob_some, h1]
    rw [f63_eq, szT, ob_some, part_f, p0T, ob_some, i_eql, ob_some, cnd_B, part_f, p3T, ob_some, part_f, p4T, ob_some, i_neq, ob_some, cnd_B, part_f, p5T, ob_some, h71, f63_j4_eq, f63_j4_eq, exactT_eq]
    by_cases h : x.k = 5
    · by_cases h2 : x.lo = x.hi <;> simp [h, h2]
    · simp [h]
def plainE (q : Qu) : Bool := exactT q.p && (decide (q.key = e0) && (decide (q.its.length = 0) && decide (q.mode = 0)))
theorem c31 (q : Qu) (hok : OkQ q) (H : Heap) (Q : Post) : E 31 [encQ q] H Q = Q (B (plainE q)) H := by
  rw [f31_eq, szQ, ob_some, partQT, ob_some, c63 q.p hok.p, not_B, ob_some, cnd_B]
  simp only [part_f, q7, q8, q10, ob_some, s_eql, lenIt, i_eql, len0, f31_c1_9a_eq, f31_c1_9b_eq, f31_c1_15a_eq, f31_c1_15b_eq, f31_c1_20a_eq, f31_c1_20b_eq, f31_j4_eq, cnd_B, plainE]
  cases exactT q.p
  · simp
  · by_cases h1 : q.key = e0
    · by_cases h2 : q.its.length = 0 <;> simp [h1, h2]
    · simp [h1]
theorem c11 (q : Qu) (hok : OkQ q) (H : Heap) (Q : Post) (hq : ∀ H', HExt H H' → Q (B (decide (fineP q = 0) && plainE q)) H') : E 11 [encQ q] H Q := by
  rw [f11_eq, szQ, ob_some, partQ, ob_some]
  refine c30 q hok H _ (fun H1 e1 => ?_)
  have := hq H1 e1
  rw [i_eql, ob_some, ob_some, c31 q hok, f11_j4_eq, f11_j4_eq]
  refine cnd_intro (fun h => ?_) (fun h => ?_)
  · rw [h, Bool.true_and] at this; exact this
  · rw [h, Bool.false_and] at this; exact this
theorem c12 (q : Qu) (hok : OkQ q) (H : Heap) (Q : Post) (hq : ∀ H', HExt H H' → Q (B (decide (fineP q = 0) && plainE q)) H') : E 12 [encQ q] H Q := by
  rw [f12_eq, szQ, ob_some, partQ, ob_some]
  refine c37 q hok H _ (fun H1 e1 => ?_)
  have := hq H1 e1
  rw [i_eql, ob_some, partQT, ob_some, c41 q.p hok.p]
  simp only [part_f, q7, q8, q10, ob_some, s_eql, lenIt, i_eql, len0, f12_c1_8a_eq, f12_c1_8b_eq, f12_c1_13a_eq, f12_c1_13b_eq, f12_c1_19a_eq, f12_c1_19b_eq, f12_c1_24a_eq, f12_c1_24b_eq, f12_j4_eq, cnd_B]
  simp only [plainE] at this
  cases hf : decide (fineP q = 0)
  · rw [hf, Bool.false_and] at this; simpa using this
  · rw [hf, Bool.true_and] at this
    cases he : exactT q.p
    · rw [he, Bool.false_and] at this; simpa using this
    · rw [he, Bool.true_and] at this
      by_cases h1 : q.key = e0
      · by_cases h2 : q.its.length = 0
        · simpa [h1, h2] using this
        · simpa [h1, h2] using this
      · simpa [h1] using this
/-! ### Print -/
def sEVERY : List UInt8 := [69, 86, 69, 82, 89, 32]
def textE (q : Qu) : List UInt8 := sEVERY ++ putE q.p 1 ++ whereT q.ws ++ withinT q.within
def printE (q : Qu) : AV := if fineP q ≠ 0 then .tup [S e0, I (fineP q)] else if plainE q = false then .tup [S e0, I 12] else .tup [strT (textE q), I 0]
theorem fine_within {q : Qu} (hf : FineQ q) : rng q.within := by
  have h := hf.rest
  simp only [restP] at h
  split at h
  · rename_i h1
    have := h1.2.1
    simp only [rangeP, Bool.and_eq_true, decide_eq_true_eq] at this
    exact ⟨by omega, by omega⟩
  · cases h
theorem c9 (q : Qu) (hok : OkQ q) (H : Heap) (Q : Post) (hq : ∀ H', HExt H H' → Q (printE q) H') : E 9 [encQ q] H Q := by
  simp only [printE] at hq
  rw [f9_eq, szQ, ob_some, partQ, ob_some]
  refine c30 q hok H _ (fun H1 e1 => ?_)
  rw [i_neq, ob_some]
  refine cnd_intro (fun h => ?_) (fun h => ?_)
  · have := hq H1 e1
    rw [if_pos (by simpa using h)] at this; exact this
  have h : fineP q = 0 := by simpa using h
  simp only [h, ne_eq, not_true, if_false] at hq
  have hf := fine_of h
  rw [ob_some, c31 q hok, not_B, ob_some]
  refine cnd_intro (fun h2 => ?_) (fun h2 => ?_)
  · have := hq H1 e1
    rw [if_pos (by simpa using h2)] at this; exact this
  have h2 : ¬ plainE q = false := by simpa using h2
  rw [if_neg h2] at hq
  have hb : bldA [] [AV.raw (.pointer none), .sl 0 true .full []] = some (.agg [.raw (.pointer none), .sl 0 true .full []]) := rfl
  have hs : sizedA 2 (.agg [AV.raw (.pointer none), .sl 0 true .full []]) = some [.raw (.pointer none), .sl 0 true .full []] := rfl
  have hpl := putE_len q.p hf.all 1
  have hsz := hf.size
  have hwl := okl_len (okl_of hok hf) hf.row
  have hsum := hf.sum
  have hwi := fine_within hf
  have hwil := withinT_len hwi
  have h6 : sEVERY.length = 6 := rfl
  rw [hb, ob_some, hs, ob_some]
  refine bld_new 56 lies56 e1 (fun b H2 hb2 => ?_)
  rw [nil_Pt, ob_some, add0_Pt, ob_some]
  refine put1 sEVERY b H H2 [] _ hb2 (by rw [h6, List.length_nil]; omega) (fun H3 h3 => ?_)
  rw [partQT, ob_some]
  refine c33 q.p hok.p hf.all 1 b H H3 _ _ h3 (by rw [List.nil_append, h6]; omega) (fun H4 h4 => ?_)
  rw [ob_some, add0_Pt, ob_some, part_f, q6, ob_some]
  refine c34 q.wsz q.wnil q.wtip q.ws (okl_of hok hf) hf.row b H H4 _ _ h4 (by simp only [List.nil_append, List.length_append, h6]; omega) (fun H5 h5 => ?_)
  rw [ob_some, add0_Pt, ob_some, part_f, q9, ob_some]
  refine c35 q.within hwi b H H5 _ _ h5 (by simp only [List.nil_append, List.length_append, h6]; omega) (fun H6 h6' => ?_)
  rw [ob_some, add0_Pt, ob_some, add0_Pt, ob_some]
  refine c36 b H H6 _ _ h6' (by simp only [List.nil_append, List.length_append, h6]; omega) (fun H7 e7 => ?_)
  exact hq H7 e7
theorem c10 (q : Qu) (hok : OkQ q) (H : Heap) (Q : Post) (hq : ∀ H', HExt H H' → Q (printE q) H') : E 10 [encQ q] H Q := by
  simp only [printE] at hq
  rw [f10_eq, szQ, ob_some, partQ, ob_some]
  refine c37 q hok H _ (fun H1 e1 => ?_)
  rw [i_neq, ob_some]
  refine cnd_intro (fun h => ?_) (fun h => ?_)
  · have := hq H1 e1
    rw [if_pos (by simpa using h)] at this; exact this
  have h : fineP q = 0 := by simpa using h
  have hf := fine_of h
  rw [ob_some]
  refine c12 q hok H1 _ (fun H2 e2 => ?_)
  have e12 := e1.trans e2
  simp only [h, ne_eq, not_true, if_false, decide_true, Bool.true_and] at hq ⊢
  rw [not_B, ob_some]
  refine cnd_intro (fun h2 => ?_) (fun h2 => ?_)
  · have := hq H2 e12
    rw [if_pos (by simpa using h2)] at this; exact this
  have h2 : ¬ plainE q = false := by simpa using h2
  rw [if_neg h2] at hq
  have hpl := putE_len q.p hf.all 1
  have hsz := hf.size
  have hwl := okl_len (okl_of hok hf) hf.row
  have hsum := hf.sum
  have hwi := fine_within hf
  have hwil := withinT_len hwi
  have h6 : sEVERY.length = 6 := rfl
  have e6 : S ⟨#[69, 86, 69, 82, 89, 32]⟩ = strT sEVERY := rfl
  rw [partQT, ob_some, part_f, q6, ob_some, part_f, q9, ob_some]
  refine c38 q.p hok.p hf.all 1 H2 _ (by omega) ?_
  rw [e6, s_add _ _ _ _ (by rw [h6]; omega), ob_some]
  refine c39 q.wsz q.wnil q.wtip q.ws (okl_of hok hf) hf.row H2 _ (by omega) ?_
  rw [s_add _ _ _ _ (by rw [List.length_append, h6]; omega), ob_some]
  refine c40 q.within hwi H2 _ ?_
  rw [s_add _ _ _ _ (by simp only [List.length_append, h6]; omega), ob_some]
  exact hq H2 e12
theorem dS (x : ByteArray) : decide (x = x) = true := decide_eq_true rfl
theorem dI (x : Int) : decide (x = x) = true := decide_eq_true rfl
/-! ### The program computes at all -/
def awakeP : Pa := .mk 1 ⟨#[97]⟩ ⟨#[116]⟩ 0 0 0 true .full []
def awakeQ : Qu := ⟨awakeP, 0, true, .full, [], e0, 0, 0, 0, true, .full, []⟩
theorem awake_fine : fineP awakeQ = 0 := by kernel_rfl
theorem awake_ok : OkQ awakeQ := by
  refine ⟨?_, by decide, by decide, fun x hx => (by cases hx), by decide, by decide, by decide, fun x hx => (by cases hx)⟩
  rw [allT_eq]
  exact ⟨⟨by decide, by decide, by decide⟩, trivial⟩
theorem awake_text : textE awakeQ = [69, 86, 69, 82, 89, 32, 97, 61, 116] := by kernel_rfl
theorem awake_plain : plainE awakeQ = true := by kernel_rfl
theorem c8 (H : Heap) (Q : Post) (hq : ∀ H', HExt H H' → Q (B true) H') : E 8 [] H Q := by
  have h1 : bldA [(0, 1, I 1), (1, 1, S ⟨#[97]⟩), (2, 1, S ⟨#[116]⟩)] [I 0, S e0, S e0, I 0, I 0, .sl 0 true .full []] = some (encT awakeP) := rfl
  have h2 : bldA [(0, 6, encT awakeP)] [I 0, S e0, S e0, I 0, I 0, .sl 0 true .full [], .sl 0 true .full [], S e0, I 0, I 0, .sl 0 true .full []] = some (encQ awakeQ) := rfl
  rw [f8_eq, h1, ob_some, h2, ob_some]
  refine c9 awakeQ awake_ok H _ (fun H1 e1 => ?_)
  simp only [printE, awake_fine, awake_plain, ne_eq, not_true, if_false, Bool.true_eq_false]
  have hs : strT (textE awakeQ) = S ⟨#[69, 86, 69, 82, 89, 32, 97, 61, 116]⟩ := by rw [awake_text]; rfl
  rw [hs, x20, ob_some, x21, ob_some, i_eql, ob_some]
  have d0 : decide ((0 : Int) = 0) = true := rfl
  rw [d0, cnd_t, s_eql, ob_some, f8_j6_eq, dS]
  exact hq H1 e1
def lightN (q : Qu) : Bool := decide (sizeT q.p + sizeXs q.ws ≤ 600) && decide (q.its.length ≤ 60)
theorem c7 (q : Qu) (hok : OkQ q) (H : Heap) (Q : Post) : E 7 [encQ q] H Q = Q (B (lightN q)) H := by
  have hps := hok.ps
  have hws := hok.wsum
  have hwl := hok.wl
  have loop : ∀ (r pre : List Ex) (n : Nat), q.ws = pre ++ r → n + sizeXs r = sizeT q.p + sizeXs q.ws → f7_l8 (qC q) (I n) (I pre.length) H Q = Q (B (lightN q)) H := by
    intro r
    induction r with
    | nil =>
      intro pre n e hn
      have h1 : (pre.length : Int) = q.ws.length := by rw [e]; simp
      simp only [sizeXs, Nat.add_zero] at hn
      rw [f7_l8_eq, part_f, q6, ob_some, lenX, ob_some, i_lss, ob_some, cnd_B, h1]
      simp only [Int.lt_irrefl, decide_false, Bool.false_eq_true, if_false]
      rw [i_leq, ob_some, cnd_B, part_f, q10, ob_some, lenIt, ob_some, i_leq, ob_some, f7_j21_eq, f7_j21_eq, lightN, ← hn]
      by_cases h : n ≤ 600
      · have h' : (n : Int) ≤ 600 := by omega
        by_cases h2 : q.its.length ≤ 60
        · have h2' : (q.its.length : Int) ≤ 60 := by omega
          simp [h, h', h2, h2']
        · have h2' : ¬ (q.its.length : Int) ≤ 60 := by omega
          simp [h, h', h2, h2']
      · have h' : ¬ (n : Int) ≤ 600 := by omega
        simp [h, h']
    | cons x r ih =>
      intro pre n e hn
      have hlt : pre.length < q.ws.length := by rw [e]; simp
      have hlt' : (pre.length : Int) < q.ws.length := by omega
      simp only [sizeXs] at hn
      have ih2 := ih (pre ++ [x]) (n + sizeX x) (by simp [e]) (by omega)
      rw [List.length_append, List.length_singleton] at ih2
      have hw : W64 ((n : Int) + (sizeX x : Int)) = ((n + sizeX x : Nat) : Int) := by rw [w64_id (by omega) (by omega)]; rfl
      rw [f7_l8_eq, part_f, q6, ob_some, lenX, ob_some, i_lss, ob_some, cnd_B, if_pos (by simpa using hlt'), ob_some, ixX q.ws q.wsz q.wnil q.wtip pre r x e, ob_some, partX, ob_some, c23 x (by omega), i_add, ob_some, hw, i_add, ob_some, w64_succ hlt (by omega), ih2]
  rw [f7_eq, szQ, ob_some, partQT, ob_some, c29 q.p (by omega)]
  exact loop q.ws [] (sizeT q.p) rfl rfl
theorem c3 (q : Qu) (hok : OkQ q) (H : Heap) (Q : Post) (hq : ∀ H', HExt H H' → Q (B true) H') : E 3 [encQ q] H Q := by
  rw [f3_eq, szQ, ob_some, partQ, ob_some, c7 q hok, not_B, ob_some]
  refine cnd_intro (fun h => c8 H _ hq) (fun h => ?_)
  rw [ob_some]
  refine c9 q hok H _ (fun H1 e1 => ?_)
  have hp : ∃ (s : ByteArray) (n : Int), printE q = .tup [S s, I n] := by
    simp only [printE]
    split
    · exact ⟨_, _, rfl⟩
    · split
      · exact ⟨_, _, rfl⟩
      · exact ⟨_, _, rfl⟩
  obtain ⟨s, n, hp⟩ := hp
  rw [hp, x20, ob_some, x21, ob_some, ob_some]
  refine c10 q hok H1 _ (fun H2 e2 => ?_)
  rw [hp, x20, ob_some, x21, ob_some, s_eql, ob_some, dS, cnd_t, i_eql, ob_some, dI, f3_c5_8a_eq, cnd_t, partQ, ob_some, ob_some]
  refine c11 q hok H2 _ (fun H3 e3 => ?_)
  refine c12 q hok H3 _ (fun H4 e4 => ?_)
  rw [b_eql 4 false u4, ob_some, f3_c5_15a_eq]
  have hbb : ∀ b : Bool, (b == b) = true := fun b => by cases b <;> rfl
  rw [hbb, cnd_t]
  refine c8 H4 _ (fun H5 e5 => ?_)
  rw [f3_c5_18a_eq, f3_j16_eq]
  exact hq H5 ((((e1.trans e2).trans e3).trans e4).trans e5)
end Go.Hx
