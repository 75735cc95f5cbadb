/- Contracts: rows of conditions, and clauses as texts. Own work. -/
import Derived.Test.YtancdapnpceogaaGreatS5S
set_option maxRecDepth 20000
namespace Go.Hx
def rowErr : List Ex → Int
  | [] => 0
  | x :: r => if checkP x = 0 then rowErr r else checkP x
def rowA (l : List Ex) : AV :=
  if l.length = 0 then .tup [S e0, I 1] else if rowErr l = 0 then .tup [strT (joinT sAND 3 (bareTs l)), I 0] else .tup [S e0, I (rowErr l)]
theorem rowErr_all : ∀ {l : List Ex}, rowErr l = 0 → ∀ x ∈ l, checkP x = 0 := by
  intro l
  induction l with
  | nil => intro _ x hx; cases hx
  | cons y r ih =>
    intro h x hx
    simp only [rowErr] at h
    split at h
    · rename_i hy
      cases hx with
      | head => exact hy
      | tail _ hx => exact ih h x hx
    · rename_i hy; exact absurd h hy
theorem join_len (sep : List UInt8) (need : Int) (hs : sep.length ≤ 5) (l : List Ex) (hl : ∀ x ∈ l, allX vX x ∧ allR x = true) : (joinT sep need (bareTs l)).length ≤ 1100 * sizeXs l := by
  have hR : ∀ r : List Ex, (∀ x ∈ r, allX vX x ∧ allR x = true) → (joinR sep need (bareTs r)).length ≤ 1100 * sizeXs r := by
    intro r
    induction r with
    | nil => intro _; simp [bareTs, joinR]
    | cons y r ih =>
      intro h
      have h1 := bare_len y (h y (by simp)).1 (h y (by simp)).2
      have h2 := ih (fun x hx => h x (by simp [hx]))
      have h3 := parT_len y (bareT y) need
      simp only [bareTs, joinR, sizeXs, List.length_append]; omega
  cases l with
  | nil => simp [bareTs, joinT]
  | cons y r =>
    have h1 := bare_len y (hl y (by simp)).1 (hl y (by simp)).2
    have h2 := hR r (fun x hx => hl x (by simp [hx]))
    have h3 := parT_len y (bareT y) need
    simp only [bareTs, joinT, sizeXs, List.length_append]; omega
/-- conditions that are small enough -/
structure OkL (l : List Ex) : Prop where
  len : l.length ≤ 1099511627776
  ok : ∀ x ∈ l, allX okX x
  vx : ∀ x ∈ l, allX vX x
  sum : sizeXs l ≤ 100000000000
theorem mem_size {l : List Ex} {x : Ex} (h : x ∈ l) : sizeX x ≤ sizeXs l := by
  obtain ⟨p, r, e⟩ := List.append_of_mem h
  rw [e, sizeXs_append]; simp only [sizeXs]; omega
theorem c26 (sz : Nat) (nil : Bool) (tip : Tip) (l : List Ex) (hok : OkL l) (H : Heap) (Q : Post) (hq : ∀ H', HExt H H' → Q (rowA l) H') : E 26 [encXs sz nil tip l] H Q := by
  rw [f26_eq, lenX, ob_some, i_eql, ob_some, len0]
  simp only [rowA] at hq
  refine cnd_intro (fun g => ?_) (fun g => ?_)
  · have := hq H (HExt.refl H)
    rw [if_pos (by simpa using g)] at this; exact this
  have g : ¬ l.length = 0 := by simpa using g
  simp only [if_neg g] at hq
  rw [ob_some]
  have hlen := hok.len
  have loop : ∀ (r pre : List Ex) (H1 : Heap), l = pre ++ r → HExt H H1 → (rowErr r ≠ 0 → ∀ H', HExt H H' → Q (.tup [S e0, I (rowErr r)]) H') → (∀ x ∈ pre, checkP x = 0) →
      (rowErr r = 0 → ∀ H', HExt H H' → Q (.tup [strT (joinT sAND 3 (bareTs l)), I 0]) H') → f26_l14 (encXs sz nil tip l) (encXs sz nil tip l) (I l.length) (I pre.length) H1 Q := by
    intro r
    induction r with
    | nil =>
      intro pre H1 e he _ hall hq
      have h1 : (pre.length : Int) = l.length := by rw [e]; simp
      have hp : l = pre := by rw [e]; simp
      have hall : ∀ x ∈ l, checkP x = 0 := by rw [hp]; exact hall
      have hR : ∀ x ∈ l, allX vX x ∧ allR x = true := fun x hx => ⟨hok.vx x hx, checkP_all (hall x hx)⟩
      have hjl := join_len sAND 3 (by simp [sAND]) l hR
      have hsum := hok.sum
      have hb : bldA [] [AV.raw (.pointer none), .sl 0 true .full []] = some (.agg [.raw (.pointer none), .sl 0 true .full []]) := rfl
      have hs : sizedA 2 (.agg [AV.raw (.pointer none), .sl 0 true .full []]) = some [.raw (.pointer none), .sl 0 true .full []] := rfl
      rw [f26_l14_eq, i_lss, ob_some, cnd_B, h1]
      simp only [Int.lt_irrefl, decide_false, Bool.false_eq_true, if_false]
      rw [hb, ob_some, hs, ob_some]
      refine bld_new 95 lies95 he (fun b H2 h2 => ?_)
      refine c55 ⟨#[32, 65, 78, 68, 32]⟩ 3 sz nil tip l hok.len (fun x hx => c113 x (hok.ok x hx) (hok.vx x hx) (hR x hx).2) b H H2 [] _ h2 (by
        have : tx ⟨#[32, 65, 78, 68, 32]⟩ = sAND := rfl
        rw [this, List.length_nil]; omega) (fun H3 h3 => ?_)
      have : tx ⟨#[32, 65, 78, 68, 32]⟩ = sAND := rfl
      rw [this, List.nil_append] at h3
      rw [nil_Pt, ob_some, add0_Pt, ob_some]
      exact c53 b H H3 _ _ h3 (by omega) (fun H4 e4 => hq rfl H4 e4)
    | cons x r ih =>
      intro pre H1 e he hq1 hall hq2
      have hlt : pre.length < l.length := by rw [e]; simp
      have hlt' : (pre.length : Int) < l.length := by omega
      have hxm : x ∈ l := by rw [e]; simp
      rw [f26_l14_eq, i_lss, ob_some, cnd_B, if_pos (by simpa using hlt'), ixX l sz nil tip pre r x e, ob_some, partX, ob_some, szX, ob_some, splX, ob_some, partX, ob_some]
      refine c28 x (hok.ok x hxm) H1 _ (fun H2 e2 => ?_)
      simp only [rowErr] at hq1 hq2
      rw [i_neq, ob_some]
      refine cnd_intro (fun h => ?_) (fun h => ?_)
      · have h : ¬ checkP x = 0 := by simpa using h
        rw [if_neg h] at hq1
        exact hq1 h H2 (he.trans e2)
      · have h : checkP x = 0 := by simpa using h
        rw [if_pos h] at hq1 hq2
        rw [i_add, ob_some, w64_succ hlt (by omega)]
        have := ih (pre ++ [x]) H2 (by simp [e]) (he.trans e2) hq1 (fun y hy => by
          rcases List.mem_append.1 hy with hy | hy
          · exact hall y hy
          · rw [List.mem_singleton.1 hy]; exact h) hq2
        rw [List.length_append, List.length_singleton] at this
        exact this
  refine loop l [] H rfl (HExt.refl H) (fun h H' h' => ?_) (fun x hx => by cases hx) (fun h H' h' => ?_)
  · have := hq H' h'
    rw [if_neg h] at this; exact this
  · have := hq H' h'
    rw [if_pos h] at this; exact this
theorem c27 (sz : Nat) (nil : Bool) (tip : Tip) (l : List Ex) (hok : OkL l) (H : Heap) (Q : Post) (hq : Q (rowA l) H) : E 27 [encXs sz nil tip l] H Q := by
  rw [f27_eq, lenX, ob_some, i_eql, ob_some, len0]
  simp only [rowA] at hq
  refine cnd_intro (fun g => ?_) (fun g => ?_)
  · rw [if_pos (by simpa using g)] at hq; exact hq
  have g : ¬ l.length = 0 := by simpa using g
  simp only [if_neg g] at hq
  have hlen := hok.len
  have loop : ∀ (r pre : List Ex), l = pre ++ r → (rowErr r ≠ 0 → Q (.tup [S e0, I (rowErr r)]) H) → (∀ x ∈ pre, checkP x = 0) →
      (rowErr r = 0 → Q (.tup [strT (joinT sAND 3 (bareTs l)), I 0]) H) → f27_l14 (encXs sz nil tip l) (I pre.length) H Q := by
    intro r
    induction r with
    | nil =>
      intro pre e _ hall hq
      have h1 : (pre.length : Int) = l.length := by rw [e]; simp
      have hp : l = pre := by rw [e]; simp
      have hall : ∀ x ∈ l, checkP x = 0 := by rw [hp]; exact hall
      have hR : ∀ x ∈ l, allX vX x ∧ allR x = true := fun x hx => ⟨hok.vx x hx, checkP_all (hall x hx)⟩
      have hjl := join_len sAND 3 (by simp [sAND]) l hR
      have hsum := hok.sum
      rw [f27_l14_eq, lenX, ob_some, i_lss, ob_some, cnd_B, h1]
      simp only [Int.lt_irrefl, decide_false, Bool.false_eq_true, if_false]
      refine c56 [65, 78, 68] 3 sz nil tip l hok.len (fun x hx => c54 x (hok.ok x hx) (hok.vx x hx) (hR x hx).2) H _ (by
        have : (32 :: ([65, 78, 68] ++ [32]) : List UInt8) = sAND := rfl
        rw [this]; omega) ?_
      exact hq rfl
    | cons x r ih =>
      intro pre e hq1 hall hq2
      have hlt : pre.length < l.length := by rw [e]; simp
      have hlt' : (pre.length : Int) < l.length := by omega
      have hxm : x ∈ l := by rw [e]; simp
      have hsx := mem_size hxm
      have hsum := hok.sum
      rw [f27_l14_eq, lenX, ob_some, i_lss, ob_some, cnd_B, if_pos (by simpa using hlt'), ixX l sz nil tip pre r x e, ob_some, partX, ob_some, c51 x (hok.ok x hxm) (hok.vx x hxm) (by omega), i_neq, ob_some]
      simp only [rowErr] at hq1 hq2
      refine cnd_intro (fun h => ?_) (fun h => ?_)
      · have h : ¬ checkP x = 0 := by simpa using h
        rw [if_neg h] at hq1
        exact hq1 h
      · have h : checkP x = 0 := by simpa using h
        rw [if_pos h] at hq1 hq2
        rw [i_add, ob_some, w64_succ hlt (by omega)]
        have := ih (pre ++ [x]) (by simp [e]) hq1 (fun y hy => by
          rcases List.mem_append.1 hy with hy | hy
          · exact hall y hy
          · rw [List.mem_singleton.1 hy]; exact h) hq2
        rw [List.length_append, List.length_singleton] at this
        exact this
  refine loop l [] rfl (fun h => ?_) (fun x hx => by cases hx) (fun h => ?_)
  · rw [if_neg h] at hq; exact hq
  · rw [if_pos h] at hq; exact hq
/-! ### Clauses -/
def printA (x : Ex) : AV := if checkP x = 0 then .tup [strT (exprT x 1), I 0] else .tup [S e0, I (checkP x)]
theorem exprT_01 (x : Ex) : exprT x 0 = exprT x 1 := by
  have : 1 ≤ levelX x := by
    simp only [levelX]
    repeat' split
    all_goals omega
  simp only [exprT, parT]
  rw [if_pos (by omega), if_pos this]
theorem c24 (x : Ex) (hok : allX okX x) (hv : allX vX x) (hs : sizeX x ≤ 100000000000) (H : Heap) (Q : Post) (hq : ∀ H', HExt H H' → Q (printA x) H') : E 24 [encX x] H Q := by
  have hb : bldA [] [AV.raw (.pointer none), .sl 0 true .full []] = some (.agg [.raw (.pointer none), .sl 0 true .full []]) := rfl
  have hsz : sizedA 2 (.agg [AV.raw (.pointer none), .sl 0 true .full []]) = some [.raw (.pointer none), .sl 0 true .full []] := rfl
  rw [f24_eq, szX, ob_some, partX, ob_some]
  refine c28 x hok H _ (fun H1 e1 => ?_)
  rw [i_neq, ob_some]
  simp only [printA] at hq
  refine cnd_intro (fun h => ?_) (fun h => ?_)
  · have h : checkP x ≠ 0 := by simpa using h
    have := hq H1 e1
    rw [if_neg h] at this; exact this
  · have h : checkP x = 0 := by simpa using h
    have hR := checkP_all h
    have hl := expr_len x hv hR 0
    rw [if_pos h] at hq
    rw [hb, ob_some, hsz, ob_some]
    refine bld_new 95 lies95 e1 (fun b H2 h2 => ?_)
    rw [ob_some]
    refine c52 (c113 x hok hv hR) 0 b H H2 [] _ h2 (by simp only [List.length_nil]; omega) (fun H3 h3 => ?_)
    rw [nil_Pt, ob_some, add0_Pt, ob_some]
    rw [List.nil_append, exprT_01] at h3
    exact c53 b H H3 _ _ h3 (by rw [exprT_01] at hl; omega) (fun H4 e4 => hq H4 e4)
theorem c25 (x : Ex) (hok : allX okX x) (hv : allX vX x) (hs : sizeX x ≤ 100000000000) (H : Heap) (Q : Post) (hq : Q (printA x) H) : E 25 [encX x] H Q := by
  rw [f25_eq, szX, ob_some, partX, ob_some, c51 x hok hv (by omega), i_neq, ob_some]
  simp only [printA] at hq
  refine cnd_intro (fun h => ?_) (fun h => ?_)
  · have h : checkP x ≠ 0 := by simpa using h
    rw [if_neg h] at hq; exact hq
  · have h : checkP x = 0 := by simpa using h
    have hR := checkP_all h
    have hl := expr_len x hv hR 1
    rw [if_pos h] at hq
    rw [ob_some]
    exact c54 x hok hv hR 1 H _ (by omega) hq
end Go.Hx
