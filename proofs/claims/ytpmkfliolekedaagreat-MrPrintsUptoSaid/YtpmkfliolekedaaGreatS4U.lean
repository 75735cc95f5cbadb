/- Contracts of layer 20: a query's text. Own work. -/
import Derived.Test.YtpmkfliolekedaaGreatS4T
set_option maxRecDepth 20000
namespace Go.Hx
def lvE (k : Int) : Int := if k = 2 then 1 else if k = 4 then 2 else if k = 3 then 3 else 4
def sepE (k : Int) : List UInt8 := if k = 2 then [32, 45, 62, 32] else if k = 4 then sOR else if k = 3 then sAND else []
def catR (sep : List UInt8) : List (List UInt8) → List UInt8
  | [] => []
  | p :: r => sep ++ (p ++ catR sep r)
def catL (sep : List UInt8) : List (List UInt8) → List UInt8
  | [] => []
  | p :: r => p ++ catR sep r
def varT (var typ : ByteArray) : List UInt8 := tx var ++ (61 :: tx typ)
def leafE (k : Int) (var typ : ByteArray) (lo : Int) : List UInt8 :=
  if k = 6 then sNOT ++ varT var typ else if k = 5 then (91 :: (numT lo ++ [93, 32])) ++ varT var typ else varT var typ
mutual
def putE : Pa → Int → List UInt8
  | .mk k var typ lo _ _ _ _ l, need => if lvE k = 4 then leafE k var typ lo else if lvE k < need then 40 :: (catL (sepE k) (putEs (lvE k + 1) l) ++ [41]) else catL (sepE k) (putEs (lvE k + 1) l)
def putEs : Int → List Pa → List (List UInt8)
  | _, [] => []
  | need, x :: r => putE x need :: putEs need r
end
theorem putE_eq (x : Pa) (need : Int) : putE x need = if lvE x.k = 4 then leafE x.k x.var x.typ x.lo else if lvE x.k < need then 40 :: (catL (sepE x.k) (putEs (lvE x.k + 1) x.l) ++ [41]) else catL (sepE x.k) (putEs (lvE x.k + 1) x.l) := by
  cases x; rw [putE]; rfl
theorem lvE_leaf {k : Int} : lvE k = 4 ↔ k ≠ 2 ∧ k ≠ 3 ∧ k ≠ 4 := by
  simp only [lvE]
  repeat' split
  all_goals simp_all
theorem lvE_rng (k : Int) : 1 ≤ lvE k ∧ lvE k ≤ 4 := by
  simp only [lvE]
  repeat' split
  all_goals omega
theorem sepE_len (k : Int) : (sepE k).length ≤ 5 := by
  simp only [sepE, sOR, sAND]
  repeat' split
  all_goals simp
/-- a PMany's least number -/
theorem many_lo {x : Pa} (h : rightT x = true) (h5 : x.k = 5) : 1 ≤ x.lo ∧ x.lo ≤ 1000 := by
  have h1 : ¬ (x.k = 1 ∨ x.k = 6) := by omega
  simp only [rightT, if_neg h1, if_pos h5, Bool.and_eq_true] at h
  have h := h.2
  simp only [countT] at h
  split at h
  · cases h
  · omega
theorem numT_small {n : Int} (h : 1 ≤ n ∧ n ≤ 1000) : rng n := ⟨by omega, by omega⟩
theorem leafE_len {x : Pa} (h : allRT x = true) (hl : lvE x.k = 4) : (leafE x.k x.var x.typ x.lo).length ≤ 90 := by
  have hn := fine_name h (lvE_leaf.1 hl)
  have a1 := name_len hn.1
  have a2 := name_len hn.2
  simp only [leafE, varT]
  split
  · simp only [sNOT, List.length_append, List.length_cons, List.length_nil]; omega
  · split
    · rename_i h5
      rw [allRT_eq, Bool.and_eq_true] at h
      have := numT_len (numT_small (many_lo h.1 h5))
      simp only [List.length_append, List.length_cons, List.length_nil]; omega
    · simp only [List.length_append, List.length_cons]; omega
theorem putE_len (x : Pa) (h : allRT x = true) : ∀ need, (putE x need).length + 5 ≤ 110 * sizeT x := by
  induction x using Pa.ind with
  | h x ih =>
    intro need
    have h' := h
    rw [allRT_eq, Bool.and_eq_true] at h'
    have hch : ∀ y ∈ x.l, ∀ need, (putE y need).length + 5 ≤ 110 * sizeT y := fun y hy => ih y hy (allRTs_mem h'.2 hy)
    have hsum : ∀ (sep : List UInt8) (n : Int) (r : List Pa), sep.length ≤ 5 → (∀ y ∈ r, y ∈ x.l) → (catR sep (putEs n r)).length ≤ 110 * sizeTs r := by
      intro sep n r hs
      induction r with
      | nil => intro _; simp [putEs, catR]
      | cons y r ihr =>
        intro hm
        have h1 := hch y (hm y (by simp)) n
        have h2 := ihr (fun z hz => hm z (by simp [hz]))
        simp only [putEs, catR, sizeTs, List.length_append]; omega
    have hcat : ∀ (sep : List UInt8) (n : Int), sep.length ≤ 5 → (catL sep (putEs n x.l)).length ≤ 110 * sizeTs x.l := by
      intro sep n hs
      cases hl : x.l with
      | nil => simp [putEs, catL]
      | cons y r =>
        have h1 := hch y (by rw [hl]; simp) n
        have h2 := hsum sep n r hs (fun z hz => by rw [hl]; simp [hz])
        simp only [putEs, catL, sizeTs, List.length_append]; omega
    have hc := hcat (sepE x.k) (lvE x.k + 1) (sepE_len _)
    rw [putE_eq, sizeT_eq]
    split
    · rename_i hl; have := leafE_len h hl; omega
    · split
      · simp only [List.length_cons, List.length_append, List.length_nil]; omega
      · omega
/-! ### A pattern is printed -/
theorem lit_strs (ss : List ByteArray) : mkSlA 1 (ss.map S) = some (.sl 1 false .full (ss.map S)) := by
  have : ((ss.map S).all fun x => (sizedA 1 x).isSome) = true := by
    rw [List.all_eq_true]
    intro x hx
    obtain ⟨c, _, rfl⟩ := List.mem_map.1 hx
    rfl
  simp only [mkSlA, this]
/-- one text is put -/
theorem put1 (w : List UInt8) (b : Nat) (H0 H : Heap) (t : List UInt8) (K : Post) (h : Bld H0 b t H) (hl : t.length + w.length ≤ 140737488355328) (hq : ∀ H', Bld H0 b (t ++ w) H' → K (.tup []) H') :
    ob (mkSlA 1 [strT w]) fun r => E 32 [Pt b, r] H K := by
  have hm : mkSlA 1 [strT w] = some (.sl 1 false .full ([(⟨w.toArray⟩ : ByteArray)].map S)) := lit_strs [⟨w.toArray⟩]
  have hc : cat [(⟨w.toArray⟩ : ByteArray)] = w := by simp [cat, tx]
  rw [hm, ob_some]
  exact c32 b _ 1 false .full (by simp) H0 H t _ h (by rw [hc]; exact hl) (fun H1 h1 => hq H1 (by rw [hc] at h1; exact h1))
theorem put3 (u v w : ByteArray) (b : Nat) (H0 H : Heap) (t : List UInt8) (K : Post) (h : Bld H0 b t H) (hl : t.length + (tx u ++ (tx v ++ tx w)).length ≤ 140737488355328) (hq : ∀ H', Bld H0 b (t ++ (tx u ++ (tx v ++ tx w))) H' → K (.tup []) H') :
    ob (mkSlA 1 [S u, S v, S w]) fun r => E 32 [Pt b, r] H K := by
  have hm : mkSlA 1 [S u, S v, S w] = some (.sl 1 false .full ([u, v, w].map S)) := lit_strs [u, v, w]
  have hc : cat [u, v, w] = tx u ++ (tx v ++ tx w) := by simp [cat]
  rw [hm, ob_some]
  exact c32 b _ 1 false .full (by simp) H0 H t _ h (by rw [hc]; exact hl) (fun H1 h1 => hq H1 (by rw [hc] at h1; exact h1))
theorem c65 (k : Int) (H : Heap) (Q : Post) (hq : Q (.tup [I (lvE k), strT (sepE k)]) H) : E 65 [I k] H Q := by
  rw [f65_eq, i_eql, ob_some]
  by_cases k2 : k = 2
  · subst k2; exact hq
  by_cases k4 : k = 4
  · subst k4; exact hq
  by_cases k3 : k = 3
  · subst k3; exact hq
  simp only [lvE, sepE, k2, k3, k4, if_false] at hq
  simp only [k2, decide_false, cnd_f]
  rw [i_eql, ob_some]
  simp only [k4, decide_false, cnd_f]
  rw [i_eql, ob_some]
  simp only [k3, decide_false, cnd_f]
  exact hq
theorem c66 (x : Pa) (hlo : x.k = 5 → rng x.lo) (b : Nat) (H0 H : Heap) (t : List UInt8) (Q : Post) (h : Bld H0 b t H) (hl : t.length + (leafE x.k x.var x.typ x.lo).length + 20 ≤ 140737488355328)
    (hq : ∀ H', Bld H0 b (t ++ leafE x.k x.var x.typ x.lo) H' → Q (.tup []) H') : E 66 [Pt b, encT x] H Q := by
  have j19 : ∀ (t : List UInt8) (H : Heap), Bld H0 b t H → t.length + (varT x.var x.typ).length ≤ 140737488355328 → (∀ H', Bld H0 b (t ++ varT x.var x.typ) H' → Q (.tup []) H') → f66_j19 (Pt b) (encTC x) H Q := fun t H h hl hq => by
    rw [f66_j19_eq, nil_Pt, ob_some, add0_Pt, ob_some, part_f, p1T, ob_some, part_f, p2T, ob_some]
    exact put3 x.var ⟨#[61]⟩ x.typ b H0 H t _ h hl (fun H' h' => hq H' h')
  rw [f66_eq, szT, ob_some, part_f, p0T, ob_some, i_eql, ob_some]
  simp only [leafE] at hl hq
  refine cnd_intro (fun g => ?_) (fun g => ?_)
  · rw [if_pos (by simpa using g)] at hl hq
    simp only [List.length_append] at hl
    rw [nil_Pt, ob_some, add0_Pt, ob_some]
    refine put1 sNOT b H0 H t _ h (by omega) (fun H1 h1 => ?_)
    exact j19 _ H1 h1 (by rw [List.length_append]; omega) (fun H' h' => hq H' (by simpa using h'))
  rw [if_neg (by simpa using g)] at hl hq
  rw [i_eql, ob_some]
  refine cnd_intro (fun g => ?_) (fun g => ?_)
  · have g : x.k = 5 := by simpa using g
    rw [if_pos g] at hl hq
    have hn := numT_len (hlo g)
    simp only [List.length_append, List.length_cons, List.length_nil] at hl
    rw [nil_Pt, ob_some, add0_Pt, ob_some]
    refine put1 [91] b H0 H t _ h (by simp only [List.length_singleton]; omega) (fun H1 h1 => ?_)
    rw [ob_some, add0_Pt, ob_some, part_f, p3T, ob_some]
    refine c67 b x.lo (hlo g) H0 H1 _ _ h1 (by simp only [List.length_append, List.length_singleton]; omega) (fun H2 h2 => ?_)
    rw [ob_some, add0_Pt, ob_some]
    refine put1 [93, 32] b H0 H2 _ _ h2 (by simp only [List.length_append, List.length_cons, List.length_nil]; omega) (fun H3 h3 => ?_)
    exact j19 _ H3 h3 (by simp only [List.length_append, List.length_cons, List.length_nil]; omega) (fun H' h' => hq H' (by simpa using h'))
  · rw [if_neg (by simpa using g)] at hl hq
    exact j19 t H h (by omega) hq
def PutsE (x : Pa) : Prop := ∀ (need : Int) (b : Nat) (H0 H : Heap) (t : List UInt8) (Q : Post), Bld H0 b t H → t.length + (putE x need).length + 20 ≤ 140737488355328 → (∀ H', Bld H0 b (t ++ putE x need) H' → Q (.tup []) H') → E 33 [Pt b, encT x, I need] H Q
theorem c33 (x : Pa) (hok : allT okT x) (hr : allRT x = true) : PutsE x := by
  induction x using Pa.ind with
  | h x ih =>
    rw [allT_eq] at hok
    have hr' := hr
    rw [allRT_eq, Bool.and_eq_true] at hr'
    have hch : ∀ y ∈ x.l, PutsE y := fun y hy => ih y hy (allTs_mem hok.2 hy) (allRTs_mem hr'.2 hy)
    have hn := hok.1.1
    intro need b H0 H t Q h hl hq
    rw [putE_eq] at hl hq
    have hlv := lvE_rng x.k
    rw [f33_eq, szT, ob_some, part_f, p0T, ob_some]
    refine c65 x.k H _ ?_
    rw [x20, ob_some, x21, ob_some, i_eql, ob_some]
    refine cnd_intro (fun g => ?_) (fun g => ?_)
    · have g : lvE x.k = 4 := by simpa using g
      rw [if_pos g] at hl hq
      rw [partT, ob_some]
      exact c66 x (fun h5 => numT_small (many_lo hr'.1 h5)) b H0 H t _ h hl hq
    have g : ¬ lvE x.k = 4 := by simpa using g
    rw [if_neg g] at hl hq
    have hw : W64 (lvE x.k + 1) = lvE x.k + 1 := w64_id (by omega) (by omega)
    have loop : ∀ (r pre : List Pa) (t : List UInt8) (H : Heap), x.l = pre ++ r → pre ≠ [] → Bld H0 b t H → t.length + (catR (sepE x.k) (putEs (lvE x.k + 1) r)).length + 20 ≤ 140737488355328 →
        (∀ H', Bld H0 b (t ++ (catR (sepE x.k) (putEs (lvE x.k + 1) r) ++ (if lvE x.k < need then [41] else []))) H' → Q (.tup []) H') → f33_l22 (Pt b) (I need) (I (lvE x.k)) (strT (sepE x.k)) (encTs x.sz x.nil x.tip x.l) (I x.l.length) (I pre.length) H Q := by
      intro r
      induction r with
      | nil =>
        intro pre t H e _ h hl hq
        have h1 : (pre.length : Int) = x.l.length := by rw [e]; simp
        rw [f33_l22_eq, i_lss, ob_some, cnd_B, h1]
        simp only [Int.lt_irrefl, decide_false, Bool.false_eq_true, if_false]
        rw [i_lss, ob_some]
        simp only [putEs, catR, List.nil_append, List.length_nil] at hl hq
        refine cnd_intro (fun g2 => ?_) (fun g2 => ?_)
        · rw [if_pos (by simpa using g2)] at hq
          rw [nil_Pt, ob_some, add0_Pt, ob_some]
          exact put1 [41] b H0 H t _ h (by simp only [List.length_singleton]; omega) (fun H1 h1 => hq H1 h1)
        · rw [if_neg (by simpa using g2), List.append_nil] at hq
          exact hq H h
      | cons y r ihr =>
        intro pre t H e hne h hl hq
        have hlt : pre.length < x.l.length := by rw [e]; simp
        have hlt' : (pre.length : Int) < x.l.length := by omega
        have hp0 : 0 < pre.length := List.length_pos_iff.2 hne
        have hgt : decide ((0 : Int) < (pre.length : Int)) = true := by simp; omega
        simp only [putEs, catR, List.length_append] at hl hq
        rw [f33_l22_eq, i_lss, ob_some, cnd_B, if_pos (by simpa using hlt'), ixT x.l x.sz x.nil x.tip pre r y e, ob_some, partT, ob_some, szT, ob_some, splT, ob_some, i_gtr, ob_some, hgt, cnd_t, nil_Pt, ob_some, add0_Pt, ob_some]
        refine put1 (sepE x.k) b H0 H t _ h (by omega) (fun H1 h1 => ?_)
        rw [f33_j39_eq, partT, ob_some, i_add, ob_some, hw]
        refine hch y (by rw [e]; simp) (lvE x.k + 1) b H0 H1 _ _ h1 (by rw [List.length_append]; omega) (fun H2 h2 => ?_)
        rw [i_add, ob_some, w64_succ hlt (by omega)]
        have := ihr (pre ++ [y]) _ H2 (by simp [e]) (by simp) h2 (by simp only [List.length_append]; omega) (fun H' h' => hq H' (by simpa using h'))
        rw [List.length_append, List.length_singleton] at this
        exact this
    have j18 : ∀ (t : List UInt8) (H : Heap), Bld H0 b t H → t.length + (catL (sepE x.k) (putEs (lvE x.k + 1) x.l)).length + 20 ≤ 140737488355328 →
        (∀ H', Bld H0 b (t ++ (catL (sepE x.k) (putEs (lvE x.k + 1) x.l) ++ (if lvE x.k < need then [41] else []))) H' → Q (.tup []) H') → f33_j18 (Pt b) (I need) (encTC x) (I (lvE x.k)) (strT (sepE x.k)) H Q := fun t H h hl hq => by
      rw [f33_j18_eq, part_f, p5T, ob_some, lenT, ob_some]
      cases hc : x.l with
      | nil =>
        rw [hc] at hl hq
        simp only [putEs, catL, List.nil_append, List.length_nil] at hl hq
        rw [f33_l22_eq, i_lss, ob_some, cnd_B]
        simp only [List.length_nil, Int.natCast_zero, Int.lt_irrefl, decide_false, Bool.false_eq_true, if_false]
        rw [i_lss, ob_some]
        refine cnd_intro (fun g2 => ?_) (fun g2 => ?_)
        · rw [if_pos (by simpa using g2)] at hq
          rw [nil_Pt, ob_some, add0_Pt, ob_some]
          exact put1 [41] b H0 H t _ h (by simp only [List.length_singleton]; omega) (fun H1 h1 => hq H1 h1)
        · rw [if_neg (by simpa using g2), List.append_nil] at hq
          exact hq H h
      | cons y r =>
        rw [← hc]
        have hlt : 0 < x.l.length := by rw [hc]; simp
        have hlt' : (0 : Int) < x.l.length := by omega
        rw [hc] at hl hq
        simp only [putEs, catL, List.length_append] at hl hq
        have i1 : ixaA 6 (encTs x.sz x.nil x.tip x.l) (I 0) = some (encTC y) := ixT x.l x.sz x.nil x.tip [] r y hc
        have h00 : decide ((0 : Int) < 0) = false := rfl
        rw [f33_l22_eq, i_lss, ob_some, cnd_B, if_pos (by simpa using hlt'), i1, ob_some, partT, ob_some, szT, ob_some, splT, ob_some, i_gtr, ob_some, h00, cnd_f, f33_j39_eq, partT, ob_some, i_add, ob_some, hw]
        refine hch y (by rw [hc]; simp) (lvE x.k + 1) b H0 H t _ h (by omega) (fun H2 h2 => ?_)
        rw [i_add, ob_some]
        have h1 : W64 ((0 : Int) + 1) = (([y].length : Nat) : Int) := rfl
        rw [h1]
        exact loop r [y] _ H2 (by simp [hc]) (by simp) h2 (by simp only [List.length_append]; omega) (fun H' h' => hq H' (by simpa using h'))
    rw [i_lss, ob_some]
    refine cnd_intro (fun g2 => ?_) (fun g2 => ?_)
    · have g2 : lvE x.k < need := by simpa using g2
      rw [if_pos g2] at hl hq
      simp only [List.length_cons, List.length_append, List.length_nil] at hl
      rw [nil_Pt, ob_some, add0_Pt, ob_some]
      refine put1 [40] b H0 H t _ h (by simp only [List.length_singleton]; omega) (fun H1 h1 => ?_)
      exact j18 _ H1 h1 (by simp only [List.length_append, List.length_singleton]; omega) (fun H' h' => hq H' (by rw [if_pos g2] at h'; simpa using h'))
    · have g2 : ¬ lvE x.k < need := by simpa using g2
      rw [if_neg g2] at hl hq
      exact j18 t H h hl (fun H' h' => hq H' (by rw [if_neg g2, List.append_nil] at h'; exact h'))
end Go.Hx
