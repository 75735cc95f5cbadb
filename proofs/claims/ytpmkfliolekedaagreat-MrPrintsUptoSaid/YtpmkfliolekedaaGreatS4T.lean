/- Contracts: rows of conditions, and clauses as texts. Own work. -/
import Derived.Test.YtpmkfliolekedaaGreatS4S
set_option maxRecDepth 20000
namespace Go.Hx
def rowErr : List Ex → Int
  | [] => 0
  | x :: r => if checkP x = 0 then rowErr r else checkP x
def rowA (l : List Ex) : AV :=
  if l.length = 0 then .tup [S e0, I 1] else if rowErr l = 0 then .tup [strT (joinT sAND 3 (bareTs l)), I 0] else .tup [S e0, I (rowErr l)]
theorem rowErr_all : ∀ {l : List Ex}, rowErr l = 0 → ∀ x ∈ l, checkP x = 0 := by
  intro l
  induction l with
  | nil => intro _ x hx; cases hx
  | cons y r ih =>
    intro h x hx
    simp only [rowErr] at h
    split at h
    · rename_i hy
      cases hx with
      | head => exact hy
      | tail _ hx => exact ih h x hx
    · rename_i hy; exact absurd h hy
theorem join_len (sep : List UInt8) (need : Int) (hs : sep.length ≤ 5) (l : List Ex) (hl : ∀ x ∈ l, allX vX x ∧ allR x = true) : (joinT sep need (bareTs l)).length ≤ 1100 * sizeXs l := by
  have hR : ∀ r : List Ex, (∀ x ∈ r, allX vX x ∧ allR x = true) → (joinR sep need (bareTs r)).length ≤ 1100 * sizeXs r := by
    intro r
    induction r with
    | nil => intro _; simp [bareTs, joinR]
    | cons y r ih =>
      intro h
      have h1 := bare_len y (h y (by simp)).1 (h y (by simp)).2
      have h2 := ih (fun x hx => h x (by simp [hx]))
      have h3 := parT_len y (bareT y) need
      simp only [bareTs, joinR, sizeXs, List.length_append]; omega
  cases l with
  | nil => simp [bareTs, joinT]
  | cons y r =>
    have h1 := bare_len y (hl y (by simp)).1 (hl y (by simp)).2
    have h2 := hR r (fun x hx => hl x (by simp [hx]))
    have h3 := parT_len y (bareT y) need
    simp only [bareTs, joinT, sizeXs, List.length_append]; omega
/-- conditions that are small enough -/
structure OkL (l : List Ex) : Prop where
  len : l.length ≤ 1099511627776
  ok : ∀ x ∈ l, allX okX x
  vx : ∀ x ∈ l, allX vX x
  sum : sizeXs l ≤ 100000000000
theorem mem_size {l : List Ex} {x : Ex} (h : x ∈ l) : sizeX x ≤ sizeXs l := by
  obtain ⟨p, r, e⟩ := List.append_of_mem h
  rw [e, sizeXs_append]; simp only [sizeXs]; omega
theorem c27 (sz : Nat) (nil : Bool) (tip : Tip) (l : List Ex) (hok : OkL l) (H : Heap) (Q : Post) (hq : ∀ H', HExt H H' → Q (rowA l) H') : E 27 [encXs sz nil tip l] H Q := by
  rw [f27_eq, lenX, ob_some, i_eql, ob_some, len0]
  simp only [rowA] at hq
  refine cnd_intro (fun g => ?_) (fun g => ?_)
  · have := hq H (HExt.refl H)
    rw [if_pos (by simpa using g)] at this; exact this
  have g : ¬ l.length = 0 := by simpa using g
  simp only [if_neg g] at hq
  rw [ob_some]
  have hlen := hok.len
  have loop : ∀ (r pre : List Ex) (H1 : Heap), l = pre ++ r → HExt H H1 → (rowErr r ≠ 0 → ∀ H', HExt H H' → Q (.tup [S e0, I (rowErr r)]) H') → (∀ x ∈ pre, checkP x = 0) →
      (rowErr r = 0 → ∀ H', HExt H H' → Q (.tup [strT (joinT sAND 3 (bareTs l)), I 0]) H') → f27_l14 (encXs sz nil tip l) (encXs sz nil tip l) (I l.length) (I pre.length) H1 Q := by
    intro r
    induction r with
    | nil =>
      intro pre H1 e he _ hall hq
      have h1 : (pre.length : Int) = l.length := by rw [e]; simp
      have hp : l = pre := by rw [e]; simp
      have hall : ∀ x ∈ l, checkP x = 0 := by rw [hp]; exact hall
      have hR : ∀ x ∈ l, allX vX x ∧ allR x = true := fun x hx => ⟨hok.vx x hx, checkP_all (hall x hx)⟩
      have hjl := join_len sAND 3 (by simp [sAND]) l hR
      have hsum := hok.sum
      have hb : bldA [] [AV.raw (.pointer none), .sl 0 true .full []] = some (.agg [.raw (.pointer none), .sl 0 true .full []]) := rfl
      have hs : sizedA 2 (.agg [AV.raw (.pointer none), .sl 0 true .full []]) = some [.raw (.pointer none), .sl 0 true .full []] := rfl
      rw [f27_l14_eq, i_lss, ob_some, cnd_B, h1]
      simp only [Int.lt_irrefl, decide_false, Bool.false_eq_true, if_false]
      rw [hb, ob_some, hs, ob_some]
      refine bld_new 86 lies86 he (fun b H2 h2 => ?_)
      refine c59 ⟨#[32, 65, 78, 68, 32]⟩ 3 sz nil tip l hok.len (fun x hx => c87 x (hok.ok x hx) (hok.vx x hx) (hR x hx).2) b H H2 [] _ h2 (by
        have : tx ⟨#[32, 65, 78, 68, 32]⟩ = sAND := rfl
        rw [this, List.length_nil]; omega) (fun H3 h3 => ?_)
      have : tx ⟨#[32, 65, 78, 68, 32]⟩ = sAND := rfl
      rw [this, List.nil_append] at h3
      rw [nil_Pt, ob_some, add0_Pt, ob_some]
      exact c36 b H H3 _ _ h3 (by omega) (fun H4 e4 => hq rfl H4 e4)
    | cons x r ih =>
      intro pre H1 e he hq1 hall hq2
      have hlt : pre.length < l.length := by rw [e]; simp
      have hlt' : (pre.length : Int) < l.length := by omega
      have hxm : x ∈ l := by rw [e]; simp
      rw [f27_l14_eq, i_lss, ob_some, cnd_B, if_pos (by simpa using hlt'), ixX l sz nil tip pre r x e, ob_some, partX, ob_some, szX, ob_some, splX, ob_some, partX, ob_some]
      refine c55 x (hok.ok x hxm) H1 _ (fun H2 e2 => ?_)
      simp only [rowErr] at hq1 hq2
      rw [i_neq, ob_some]
      refine cnd_intro (fun h => ?_) (fun h => ?_)
      · have h : ¬ checkP x = 0 := by simpa using h
        rw [if_neg h] at hq1
        exact hq1 h H2 (he.trans e2)
      · have h : checkP x = 0 := by simpa using h
        rw [if_pos h] at hq1 hq2
        rw [i_add, ob_some, w64_succ hlt (by omega)]
        have := ih (pre ++ [x]) H2 (by simp [e]) (he.trans e2) hq1 (fun y hy => by
          rcases List.mem_append.1 hy with hy | hy
          · exact hall y hy
          · rw [List.mem_singleton.1 hy]; exact h) hq2
        rw [List.length_append, List.length_singleton] at this
        exact this
  refine loop l [] H rfl (HExt.refl H) (fun h H' h' => ?_) (fun x hx => by cases hx) (fun h H' h' => ?_)
  · have := hq H' h'
    rw [if_neg h] at this; exact this
  · have := hq H' h'
    rw [if_pos h] at this; exact this
theorem c28 (sz : Nat) (nil : Bool) (tip : Tip) (l : List Ex) (hok : OkL l) (H : Heap) (Q : Post) (hq : Q (rowA l) H) : E 28 [encXs sz nil tip l] H Q := by
  rw [f28_eq, lenX, ob_some, i_eql, ob_some, len0]
  simp only [rowA] at hq
  refine cnd_intro (fun g => ?_) (fun g => ?_)
  · rw [if_pos (by simpa using g)] at hq; exact hq
  have g : ¬ l.length = 0 := by simpa using g
  simp only [if_neg g] at hq
  have hlen := hok.len
  have loop : ∀ (r pre : List Ex), l = pre ++ r → (rowErr r ≠ 0 → Q (.tup [S e0, I (rowErr r)]) H) → (∀ x ∈ pre, checkP x = 0) →
      (rowErr r = 0 → Q (.tup [strT (joinT sAND 3 (bareTs l)), I 0]) H) → f28_l14 (encXs sz nil tip l) (I pre.length) H Q := by
    intro r
    induction r with
    | nil =>
      intro pre e _ hall hq
      have h1 : (pre.length : Int) = l.length := by rw [e]; simp
      have hp : l = pre := by rw [e]; simp
      have hall : ∀ x ∈ l, checkP x = 0 := by rw [hp]; exact hall
      have hR : ∀ x ∈ l, allX vX x ∧ allR x = true := fun x hx => ⟨hok.vx x hx, checkP_all (hall x hx)⟩
      have hjl := join_len sAND 3 (by simp [sAND]) l hR
      have hsum := hok.sum
      rw [f28_l14_eq, lenX, ob_some, i_lss, ob_some, cnd_B, h1]
      simp only [Int.lt_irrefl, decide_false, Bool.false_eq_true, if_false]
      refine c60 [65, 78, 68] 3 sz nil tip l hok.len (fun x hx => c58 x (hok.ok x hx) (hok.vx x hx) (hR x hx).2) H _ (by
        have : (32 :: ([65, 78, 68] ++ [32]) : List UInt8) = sAND := rfl
        rw [this]; omega) ?_
      exact hq rfl
    | cons x r ih =>
      intro pre e hq1 hall hq2
      have hlt : pre.length < l.length := by rw [e]; simp
      have hlt' : (pre.length : Int) < l.length := by omega
      have hxm : x ∈ l := by rw [e]; simp
      have hsx := mem_size hxm
      have hsum := hok.sum
      rw [f28_l14_eq, lenX, ob_some, i_lss, ob_some, cnd_B, if_pos (by simpa using hlt'), ixX l sz nil tip pre r x e, ob_some, partX, ob_some, c57 x (hok.ok x hxm) (hok.vx x hxm) (by omega), i_neq, ob_some]
      simp only [rowErr] at hq1 hq2
      refine cnd_intro (fun h => ?_) (fun h => ?_)
      · have h : ¬ checkP x = 0 := by simpa using h
        rw [if_neg h] at hq1
        exact hq1 h
      · have h : checkP x = 0 := by simpa using h
        rw [if_pos h] at hq1 hq2
        rw [i_add, ob_some, w64_succ hlt (by omega)]
        have := ih (pre ++ [x]) (by simp [e]) hq1 (fun y hy => by
          rcases List.mem_append.1 hy with hy | hy
          · exact hall y hy
          · rw [List.mem_singleton.1 hy]; exact h) hq2
        rw [List.length_append, List.length_singleton] at this
        exact this
  refine loop l [] rfl (fun h => ?_) (fun x hx => by cases hx) (fun h => ?_)
  · rw [if_neg h] at hq; exact hq
  · rw [if_pos h] at hq; exact hq
/-! ### Clauses -/
def sWHERE : List UInt8 := [32, 87, 72, 69, 82, 69, 32]
def sWITHIN : List UInt8 := [32, 87, 73, 84, 72, 73, 78, 32]
def whereT (l : List Ex) : List UInt8 := if l.length = 0 then [] else sWHERE ++ joinT sAND 3 (bareTs l)
def withinT (n : Int) : List UInt8 := if n = 0 then [] else sWITHIN ++ numT n
theorem okl_len {l : List Ex} (hok : OkL l) (he : rowErr l = 0) : (whereT l).length ≤ 7 + 1100 * sizeXs l := by
  have hR : ∀ x ∈ l, allX vX x ∧ allR x = true := fun x hx => ⟨hok.vx x hx, checkP_all (rowErr_all he x hx)⟩
  have := join_len sAND 3 (by simp [sAND]) l hR
  simp only [whereT]
  split
  · simp
  · simp only [List.length_append, sWHERE, List.length_cons, List.length_nil]; omega
theorem c34 (sz : Nat) (nil : Bool) (tip : Tip) (l : List Ex) (hok : OkL l) (he : rowErr l = 0) (b : Nat) (H0 H : Heap) (t : List UInt8) (Q : Post) (h : Bld H0 b t H) (hl : t.length + (whereT l).length ≤ 140737488355328)
    (hq : ∀ H', Bld H0 b (t ++ whereT l) H' → Q (.tup []) H') : E 34 [Pt b, encXs sz nil tip l] H Q := by
  rw [f34_eq]
  refine c27 sz nil tip l hok H _ (fun H1 e1 => ?_)
  simp only [rowA, whereT] at hl hq ⊢
  split
  · rename_i g
    rw [if_pos g] at hq
    rw [x20, ob_some, x21, ob_some, i_eql, ob_some]
    have : decide ((1 : Int) = 0) = false := rfl
    rw [this, cnd_f]
    exact hq H1 (by rw [List.append_nil]; exact h.mono e1)
  · rename_i g
    rw [if_neg g] at hl hq
    rw [x20, ob_some, x21, ob_some, i_eql, ob_some]
    have : decide ((0 : Int) = 0) = true := rfl
    rw [this, cnd_t]
    have hm : mkSlA 1 [S ⟨#[32, 87, 72, 69, 82, 69, 32]⟩, strT (joinT sAND 3 (bareTs l))] = some (.sl 1 false .full ([(⟨#[32, 87, 72, 69, 82, 69, 32]⟩ : ByteArray), ⟨(joinT sAND 3 (bareTs l)).toArray⟩].map S)) := rfl
    have hc : cat [(⟨#[32, 87, 72, 69, 82, 69, 32]⟩ : ByteArray), ⟨(joinT sAND 3 (bareTs l)).toArray⟩] = sWHERE ++ joinT sAND 3 (bareTs l) := by simp [cat, tx, sWHERE]
    rw [hm, ob_some]
    exact c32 b _ 1 false .full (by simp) H0 H1 t _ (h.mono e1) (by rw [hc]; exact hl) (fun H2 h2 => hq H2 (by rw [hc] at h2; exact h2))
theorem c39 (sz : Nat) (nil : Bool) (tip : Tip) (l : List Ex) (hok : OkL l) (he : rowErr l = 0) (H : Heap) (Q : Post) (hl : (whereT l).length ≤ 140737488355328) (hq : Q (strT (whereT l)) H) : E 39 [encXs sz nil tip l] H Q := by
  rw [f39_eq, lenX, ob_some, i_eql, ob_some, len0]
  simp only [whereT] at hl hq
  refine cnd_intro (fun g => ?_) (fun g => ?_)
  · rw [if_pos (by simpa using g)] at hq; exact hq
  · have g : ¬ l.length = 0 := by simpa using g
    rw [if_neg g] at hl hq
    refine c28 sz nil tip l hok H _ ?_
    simp only [rowA, if_neg g, if_pos he, x20, x21, ob_some]
    have e1 : S ⟨#[32, 87, 72, 69, 82, 69, 32]⟩ = strT sWHERE := rfl
    simp only [List.length_append] at hl
    rw [e1, s_add _ _ _ _ (by omega), ob_some]
    exact hq
theorem c35 (n : Int) (hn : rng n) (b : Nat) (H0 H : Heap) (t : List UInt8) (Q : Post) (h : Bld H0 b t H) (hl : t.length + 28 ≤ 140737488355328) (hq : ∀ H', Bld H0 b (t ++ withinT n) H' → Q (.tup []) H') : E 35 [Pt b, I n] H Q := by
  rw [f35_eq, i_neq, ob_some]
  simp only [withinT] at hq
  refine cnd_intro (fun g => ?_) (fun g => ?_)
  · rw [if_neg (by simpa using g)] at hq
    have hm : mkSlA 1 [S ⟨#[32, 87, 73, 84, 72, 73, 78, 32]⟩] = some (.sl 1 false .full ([(⟨#[32, 87, 73, 84, 72, 73, 78, 32]⟩ : ByteArray)].map S)) := rfl
    have hc : cat [(⟨#[32, 87, 73, 84, 72, 73, 78, 32]⟩ : ByteArray)] = sWITHIN := by simp [cat, tx, sWITHIN]
    rw [hm, ob_some]
    have h8 : sWITHIN.length = 8 := rfl
    refine c32 b _ 1 false .full (by simp) H0 H t _ h (by rw [hc, h8]; omega) (fun H1 h1 => ?_)
    rw [hc] at h1
    exact c67 b n hn H0 H1 _ _ h1 (by rw [List.length_append, h8]; omega) (fun H2 h2 => hq H2 (by simpa using h2))
  · rw [if_pos (by simpa using g)] at hq
    exact hq H (by rw [List.append_nil]; exact h)
theorem c40 (n : Int) (hn : rng n) (H : Heap) (Q : Post) (hq : Q (strT (withinT n)) H) : E 40 [I n] H Q := by
  rw [f40_eq, i_eql, ob_some]
  simp only [withinT] at hq
  have hl := numT_len hn
  refine cnd_intro (fun g => ?_) (fun g => ?_)
  · rw [if_pos (by simpa using g)] at hq; exact hq
  · rw [if_neg (by simpa using g)] at hq
    refine c70 n hn H _ ?_
    have e1 : S ⟨#[32, 87, 73, 84, 72, 73, 78, 32]⟩ = strT sWITHIN := rfl
    have h8 : sWITHIN.length = 8 := rfl
    rw [e1, s_add _ _ _ _ (by rw [h8]; omega), ob_some]
    exact hq
theorem withinT_len {n : Int} (hn : rng n) : (withinT n).length ≤ 28 := by
  have := numT_len hn
  simp only [withinT]
  split
  · simp
  · simp only [List.length_append, sWITHIN, List.length_cons, List.length_nil]; omega
/-! ### Of what is fine -/
theorem where_facts : ∀ (l : List Ex) (n : Nat), whereP n l = 0 → n + sizeXs l < 100 ∧ rowErr l = 0 := by
  intro l
  induction l with
  | nil =>
    intro n h
    simp only [whereP] at h
    split at h
    · cases h
    · simp only [sizeXs, rowErr]; exact ⟨by omega, trivial⟩
  | cons x r ih =>
    intro n h
    simp only [whereP] at h
    split at h
    · rename_i hx
      have := ih _ h
      simp only [sizeXs, rowErr, hx, if_true]
      exact ⟨by omega, this.2⟩
    · rename_i hx; exact absurd h hx
structure FineQ (q : Qu) : Prop where
  size : sizeT q.p ≤ 64
  all : allRT q.p = true
  made : madeT q.p = true
  row : rowErr q.ws = 0
  sum : sizeXs q.ws < 100
  its : q.its.length ≤ 16
  rest : restP q = 0
theorem fine_of {q : Qu} (h : fineP q = 0) : FineQ q := by
  simp only [fineP] at h
  split at h
  · rename_i h1; exact absurd h h1
  · rename_i h1
    have h1 : queryP q = 0 := by simpa using h1
    simp only [queryP] at h1
    split at h1
    · rename_i h2; exact absurd h1 h2
    · rename_i h2
      have h2 : checkT q.p = 0 := by simpa using h2
      split at h1
      · cases h1
      · rename_i h3
        have h3 : countsP q = 0 := by simpa using h3
        split at h1
        · rename_i h4; exact absurd h1 h4
        · rename_i h4
          have h4 : whereP 0 q.ws = 0 := by simpa using h4
          have hw := where_facts q.ws 0 h4
          simp only [madeP, h2, ne_eq, not_true, if_false] at h
          have hm : madeT q.p = true := by
            split at h
            · assumption
            · cases h
          have hs : sizeT q.p ≤ 64 := by
            simp only [checkT] at h2
            split at h2
            · cases h2
            · rename_i h5; omega
          have hi : q.its.length ≤ 16 := by
            simp only [countsP] at h3
            split at h3
            · cases h3
            · rename_i h5; omega
          exact ⟨hs, checkT_all h2, hm, hw.2, by omega, hi, h1⟩
theorem okl_of {q : Qu} (hok : OkQ q) (hf : FineQ q) : OkL q.ws := ⟨hok.wl, fun x hx => (hok.wx x hx).1, fun x hx => (hok.wx x hx).2, by have := hf.sum; omega⟩
theorem fine_name {x : Pa} (h : allRT x = true) (hl : x.k ≠ 2 ∧ x.k ≠ 3 ∧ x.k ≠ 4) : nameL x.var.data.toList = true ∧ nameL x.typ.data.toList = true := by
  rw [allRT_eq, Bool.and_eq_true] at h
  have h := h.1
  simp only [rightT] at h
  split at h
  · simp only [leafT, Bool.and_eq_true] at h; exact h.1.2
  · split at h
    · simp only [leafT, Bool.and_eq_true] at h; exact h.1.2
    · split at h
      · omega
      · cases h
end Go.Hx
