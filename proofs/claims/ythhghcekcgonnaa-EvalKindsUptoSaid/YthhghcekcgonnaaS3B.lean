/- Contracts of layer 7 in this seat: finding; the document's answer. Own work (session 2). -/
import Derived.Test.YthhghcekcgonnaaS3S
import Derived.Test.YthhghcekcgonnaaS3X
set_option maxRecDepth 20000
namespace Go.Hx
def ixF {α : Type} (p : α → Bool) : List α → Nat → Int
  | [], _ => -1
  | x :: r, n => if p x = true then (n : Int) else ixF p r (n + 1)
theorem ixF_spec {α : Type} (p : α → Bool) : ∀ (l : List α) (n : Nat), (ixF p l n = -1 ∧ l.find? p = none) ∨ ∃ (i : Nat) (a : List α) (x : α) (b : List α), ixF p l n = (n + i : Nat) ∧ l = a ++ x :: b ∧ a.length = i ∧ l.find? p = some x
  | [], _ => .inl ⟨rfl, rfl⟩
  | x :: r, n => by
    by_cases h : p x = true
    · exact .inr ⟨0, [], x, r, by simp [ixF, h], rfl, rfl, by simp [h]⟩
    · rcases ixF_spec p r (n + 1) with ⟨h1, h2⟩ | ⟨i, a, y, b, h1, h2, h3, h4⟩
      · exact .inl ⟨by rw [ixF, if_neg h, h1], by rw [List.find?_cons_of_neg h, h2]⟩
      · exact .inr ⟨i + 1, x :: a, y, b, by rw [ixF, if_neg h, h1]; congr 1; omega, by rw [h2]; rfl, by simp [h3], by rw [List.find?_cons_of_neg h, h4]⟩
def foundI (ix : Int) : AV := .tup [I (max ix 0), B (decide (0 ≤ ix))]
theorem c56l (s : ByteArray) (b : Nat) (H : Heap) (hb : H.objs b = some (.cells [S s])) (sz : Nat) (nil : Bool) (tip : Tip) (cs : List Sc) (hn : cs.length ≤ 1099511627776) (Q : Post) :
    ∀ (r pre : List Sc), cs = pre ++ r → f56_l6 (encScs sz nil tip cs) (.fn (.func 57) [] [Pt b]) (I cs.length) (I pre.length) H Q = Q (I (ixF (isSc s) r pre.length)) H := by
  intro r
  induction r with
  | nil =>
    intro pre e
    have : (pre.length : Int) = cs.length := by rw [e]; simp
    rw [f56_l6_eq, i_lss, ob_some, this]
    simp only [Int.lt_irrefl, decide_false, cnd_f]
    rfl
  | cons c r ih =>
    intro pre e
    have hlt : pre.length < cs.length := by rw [e]; simp
    have hlt' : decide ((pre.length : Int) < cs.length) = true := by simp; omega
    rw [f56_l6_eq, i_lss, ob_some, hlt', cnd_t, ixSc cs sz nil tip pre r c e, ob_some, partSc, ob_some]
    show E 57 [encSc c, Pt b] H _ = _
    rw [c57 c s b H _ hb, cnd_B, ixF]
    by_cases a : isSc s c = true
    · rw [if_pos a, if_pos a]
    · have := ih (pre ++ [c]) (by simp [e])
      rw [List.length_append, List.length_singleton] at this
      rw [if_neg a, if_neg a, i_add, ob_some, w64_succ hlt (by omega), this]
theorem c33 (sz : Nat) (nil : Bool) (tip : Tip) (cs : List Sc) (hn : cs.length ≤ 1099511627776) (s : ByteArray) (H : Heap) (Q : Post) (hq : ∀ H', HExt H H' → Q (foundI (ixF (isSc s) cs 0)) H') : E 33 [encScs sz nil tip cs, S s] H Q := by
  rw [f33_eq, sz1_S, ob_some]
  intro b hb
  simp only [Pt_def]
  have he : HExt H (H.setObj b (.cells [S s])) := (HExt.refl H).setObj hb _
  have hb' := setObj_same H b (.cells [S s])
  generalize H.setObj b (.cells [S s]) = H1 at he hb' ⊢
  have := c56l s b H1 hb' sz nil tip cs hn
  rw [f56_eq, lenSc, ob_some]
  refine (this _ cs [] rfl).symm ▸ ?_
  rw [max_I, ob_some, i_geq, ob_some]
  exact hq H1 he
theorem c37 (sz : Nat) (nil : Bool) (tip : Tip) (cs : List Sc) (hn : cs.length ≤ 1099511627776) (s : ByteArray) (H : Heap) (Q : Post) : E 37 [encScs sz nil tip cs, S s] H Q = Q (foundI (ixF (isSc s) cs 0)) H := by
  have key : ∀ (r pre : List Sc), cs = pre ++ r → f37_l6 (encScs sz nil tip cs) (S s) (I pre.length) H Q = Q (foundI (ixF (isSc s) r pre.length)) H := by
    intro r
    induction r with
    | nil =>
      intro pre e
      have : (pre.length : Int) = cs.length := by rw [e]; simp
      rw [f37_l6_eq, lenSc, ob_some, i_lss, ob_some, this]
      simp only [Int.lt_irrefl, decide_false, cnd_f]
      rfl
    | cons c r ih =>
      intro pre e
      have hlt : pre.length < cs.length := by rw [e]; simp
      have hlt' : decide ((pre.length : Int) < cs.length) = true := by simp; omega
      rw [f37_l6_eq, lenSc, ob_some, i_lss, ob_some, hlt', cnd_t, ixSc cs sz nil tip pre r c e, ob_some]
      simp only [List.drop_zero, part_f, List.getElem?_cons_zero, ob_some, s_eql, cnd_B, ixF, isSc, decide_eq_true_eq]
      by_cases a : c.name = s
      · rw [if_pos a, if_pos a, foundI]
        have h1 : max (pre.length : Int) 0 = pre.length := by omega
        have h2 : decide (0 ≤ (pre.length : Int)) = true := by simp
        rw [h1, h2]
      · have := ih (pre ++ [c]) (by simp [e])
        rw [List.length_append, List.length_singleton] at this
        rw [if_neg a, if_neg a, i_add, ob_some, w64_succ hlt (by omega), this]
  rw [f37_eq]
  exact key cs [] rfl
/-! ### A field's kind -/
def isF (s : ByteArray) (f : Fd) : Bool := decide (f.name = s)
def kindF (s : ByteArray) (l : List Fd) : AV :=
  match l.find? (isF s) with
  | none => .tup [I 0, I 0, B false]
  | some f => .tup [I (ixF (isF s) l 0), I f.k, B true]
theorem c103 (c : Fd) (s : ByteArray) (b : Nat) (H : Heap) (Q : Post) (hb : H.objs b = some (.cells [S s])) : E 103 [encF c, Pt b] H Q = Q (B (isF s c)) H := by
  rw [f103_eq, szF, ob_some]
  simp only [part_f, List.getElem?_cons_zero, ob_some, ld_Pt hb, s_eql]
  rfl
theorem c102l (s : ByteArray) (b : Nat) (H : Heap) (hb : H.objs b = some (.cells [S s])) (sz : Nat) (nil : Bool) (tip : Tip) (cs : List Fd) (hn : cs.length ≤ 1099511627776) (Q : Post) :
    ∀ (r pre : List Fd), cs = pre ++ r → f102_l6 (encFs sz nil tip cs) (.fn (.func 103) [] [Pt b]) (I cs.length) (I pre.length) H Q = Q (I (ixF (isF s) r pre.length)) H := by
  intro r
  induction r with
  | nil =>
    intro pre e
    have : (pre.length : Int) = cs.length := by rw [e]; simp
    rw [f102_l6_eq, i_lss, ob_some, this]
    simp only [Int.lt_irrefl, decide_false, cnd_f]
    rfl
  | cons c r ih =>
    intro pre e
    have hlt : pre.length < cs.length := by rw [e]; simp
    have hlt' : decide ((pre.length : Int) < cs.length) = true := by simp; omega
    rw [f102_l6_eq, i_lss, ob_some, hlt', cnd_t, ixF' cs sz nil tip pre r c e, ob_some, partF, ob_some]
    show E 103 [encF c, Pt b] H _ = _
    rw [c103 c s b H _ hb, cnd_B, ixF]
    by_cases a : isF s c = true
    · rw [if_pos a, if_pos a]
    · have := ih (pre ++ [c]) (by simp [e])
      rw [List.length_append, List.length_singleton] at this
      rw [if_neg a, if_neg a, i_add, ob_some, w64_succ hlt (by omega), this]
theorem c80 (c : Sc) (hn : c.fs.length ≤ 1099511627776) (s : ByteArray) (H : Heap) (Q : Post) (hq : ∀ H', HExt H H' → Q (kindF s c.fs) H') : E 80 [encSc c, S s] H Q := by
  rw [f80_eq, szSc, ob_some, sz1_S, ob_some]
  simp only [part_f, List.getElem?_cons_zero, List.getElem?_cons_succ, ob_some]
  intro b hb
  simp only [Pt_def]
  have he : HExt H (H.setObj b (.cells [S s])) := (HExt.refl H).setObj hb _
  have hb' := setObj_same H b (.cells [S s])
  generalize H.setObj b (.cells [S s]) = H1 at he hb' ⊢
  have := c102l s b H1 hb' c.sz c.nil c.tip c.fs hn
  rw [f102_eq, lenF, ob_some]
  refine (this _ c.fs [] rfl).symm ▸ ?_
  have hq1 := hq H1 he
  rw [kindF] at hq1
  rcases ixF_spec (isF s) c.fs 0 with ⟨h1, h2⟩ | ⟨i, p, x, t, h1, h2, h3, h4⟩
  · rw [List.length_nil, h1, i_lss, ob_some]
    rw [h2] at hq1
    exact hq1
  · rw [h4] at hq1
    simp only [h1] at hq1
    rw [List.length_nil, h1, i_lss, ob_some]
    have hd : decide (((0 + i : Nat) : Int) < 0) = false := by simp
    have hx := ixF' c.fs c.sz c.nil c.tip p t x h2
    rw [h3, ← Nat.zero_add i] at hx
    rw [hd, cnd_f, hx]
    simp only [ob_some, List.drop_succ_cons, List.drop_zero, List.getElem?_cons_zero]
    exact hq1
theorem c89 (c : Sc) (hn : c.fs.length ≤ 1099511627776) (s : ByteArray) (H : Heap) (Q : Post) : E 89 [encSc c, S s] H Q = Q (kindF s c.fs) H := by
  have key : ∀ (r pre : List Fd), c.fs = pre ++ r → f89_l6 (S s) (scC c) (I pre.length) H Q = Q (match r.find? (isF s) with
      | none => .tup [I 0, I 0, B false]
      | some f => .tup [I (ixF (isF s) r pre.length), I f.k, B true]) H := by
    intro r
    induction r with
    | nil =>
      intro pre e
      have : (pre.length : Int) = c.fs.length := by rw [e]; simp
      rw [f89_l6_eq]
      simp only [part_f, List.getElem?_cons_zero, List.getElem?_cons_succ, ob_some, lenF]
      rw [i_lss, ob_some, this]
      simp only [Int.lt_irrefl, decide_false, cnd_f]
      rfl
    | cons f r ih =>
      intro pre e
      have hlt : pre.length < c.fs.length := by rw [e]; simp
      have hlt' : decide ((pre.length : Int) < c.fs.length) = true := by simp; omega
      rw [f89_l6_eq]
      simp only [part_f, List.getElem?_cons_zero, List.getElem?_cons_succ, ob_some, lenF, i_lss, hlt', cnd_t, ixF' c.fs c.sz c.nil c.tip pre r f e, List.drop_zero, s_eql, List.drop_succ_cons, cnd_B, decide_eq_true_eq]
      by_cases a : f.name = s
      · have a' : isF s f = true := by simp [isF, a]
        rw [if_pos a, List.find?_cons_of_pos a']
        simp only [ixF, if_pos a', if_true]
      · have a' : ¬ isF s f = true := by simp [isF, a]
        have := ih (pre ++ [f]) (by simp [e])
        rw [List.length_append, List.length_singleton] at this
        rw [if_neg a, i_add, ob_some, w64_succ hlt (by omega), this, List.find?_cons_of_neg a']
        simp only [ixF, if_neg a', if_true]
  rw [f89_eq, szSc, ob_some]
  exact key c.fs [] rfl
/-! ### The document's answer: may schemas be -/
def namesF (l : List Fd) : List ByteArray := l.map (·.name)
theorem hasB_append (s : ByteArray) (l m : List ByteArray) : hasB s (l ++ m) = (hasB s l || hasB s m) := by simp [hasB]
theorem c58in (c : Sc) (hn : c.fs.length ≤ 1099511627776) (f : Fd) (n : Nat) (H : Heap) (Q : Post) : ∀ (t p : List Fd) (b : Bool), p.length + t.length = n → (∃ r, c.fs = p ++ t ++ r) → n < c.fs.length →
    f58_l32 (scC c) (B b) (I n) [S f.name, I f.k] (I p.length) H Q = f58_l16 (scC c) (B (b && !hasB f.name (namesF t))) (I (n + 1 : Nat)) H Q := by
  intro t
  induction t with
  | nil =>
    intro p b h _ hlt
    have : p.length = n := by simpa using h
    rw [f58_l32_eq, i_lss, ob_some, this]
    simp only [Int.lt_irrefl, decide_false, cnd_f, i_add, ob_some, w64_succ hlt (by omega)]
    simp [namesF, hasB]
  | cons y t ih =>
    intro p b h ⟨r, e⟩ hlt
    have hlt2 : p.length < n := by simp at h; omega
    have hd : decide ((p.length : Int) < n) = true := by simp; omega
    have hx := ixF' c.fs c.sz c.nil c.tip p (t ++ r) y (by rw [e]; simp)
    have step := ih (p ++ [y])
    have go : ∀ b' : Bool, f58_l32 (scC c) (B b') (I n) [S f.name, I f.k] (I (p.length + 1 : Nat)) H Q = f58_l16 (scC c) (B (b' && !hasB f.name (namesF t))) (I (n + 1 : Nat)) H Q := fun b' => by
      have := step b' (by simp at h ⊢; omega) ⟨r, by rw [e]; simp⟩ hlt
      rw [List.length_append, List.length_singleton] at this
      exact this
    rw [f58_l32_eq, i_lss, ob_some, hd, cnd_t]
    simp only [part_f, List.getElem?_cons_zero, List.getElem?_cons_succ, ob_some, hx, List.drop_zero, s_neq, f58_j42_eq, i_add, w64_succ hlt2 (show n ≤ 1152921504606846976 by omega), go, cnd_B]
    cases b with
    | false => simp
    | true =>
      simp only [if_true, namesF, List.map_cons, hasB, List.any_cons, Bool.true_and, Bool.not_or]
      rw [show decide (y.name = f.name) = decide (f.name = y.name) from by rw [decide_eq_decide]; exact eq_comm]
theorem c58l (c : Sc) (hn : c.fs.length ≤ 1099511627776) (hf : ∀ f ∈ c.fs, f.name.size ≤ 1099511627776) (H : Heap) (Q : Post) : ∀ (r pre : List Fd) (b : Bool), c.fs = pre ++ r →
    f58_l16 (scC c) (B b) (I pre.length) H Q = Q (I (if (b && !wrongF (namesF pre) r) = true then 0 else 1)) H := by
  intro r
  induction r with
  | nil =>
    intro pre b e
    have : (pre.length : Int) = c.fs.length := by rw [e]; simp
    rw [f58_l16_eq]
    simp only [part_f, List.getElem?_cons_zero, List.getElem?_cons_succ, ob_some, lenF]
    rw [i_lss, ob_some, this]
    simp only [Int.lt_irrefl, decide_false, cnd_f, not_B, ob_some, cnd_B, wrongF]
    cases b <;> rfl
  | cons f r ih =>
    intro pre b e
    have hlt : pre.length < c.fs.length := by rw [e]; simp
    have hlt' : decide ((pre.length : Int) < c.fs.length) = true := by simp; omega
    have hspl : spliceA 0 [S f.name, I f.k] [S e0, I 0] = some [S f.name, I f.k] := rfl
    have inner : ∀ b' : Bool, f58_l32 (scC c) (B b') (I pre.length) [S f.name, I f.k] (I 0) H Q = f58_l16 (scC c) (B (b' && !hasB f.name (namesF pre))) (I (pre.length + 1 : Nat)) H Q := fun b' =>
      c58in c hn f pre.length H Q pre [] b' (by simp) ⟨f :: r, by simpa using e⟩ hlt
    have next := ih (pre ++ [f])
    rw [List.length_append, List.length_singleton] at next
    have key : ∀ b' : Bool, b' = (b && !bad0 f) → f58_l32 (scC c) (B b') (I pre.length) [S f.name, I f.k] (I 0) H Q = Q (I (if (b && !wrongF (namesF pre) (f :: r)) = true then 0 else 1)) H := fun b' hb => by
      have hbool : ∀ x y z w : Bool, ((x && !y) && !z && !w) = (x && !(y || (z || w))) := by decide
      have hw : ((b && !bad0 f) && !hasB f.name (namesF pre) && !wrongF (namesF (pre ++ [f])) r) = (b && !wrongF (namesF pre) (f :: r)) := by
        simp only [wrongF, namesF, List.map_append, List.map_cons, List.map_nil]
        exact hbool _ _ _ _
      rw [inner, next _ (by simp [e]), hb, hw]
    rw [f58_l16_eq]
    simp only [part_f, List.getElem?_cons_zero, List.getElem?_cons_succ, ob_some, lenF, i_lss, hlt', cnd_t, ixF' c.fs c.sz c.nil c.tip pre r f e, partF, szF]
    show ob (spliceA 0 [S f.name, I f.k] [S e0, I 0]) _ = _
    rw [hspl, ob_some]
    simp only [cnd_B, c88 f.name (hf f (by rw [e]; simp)), f58_c8_6a_eq, f58_c8_6b_eq, f58_c8_11a_eq, f58_c8_11b_eq, f58_c8_16a_eq, f58_c8_16b_eq, f58_j29_eq, part_f, List.getElem?_cons_zero, List.getElem?_cons_succ, ob_some, i_geq, i_leq]
    cases b with
    | false => exact key false rfl
    | true =>
      simp only [if_true]
      by_cases h1 : nameL f.name.data.toList = true
      · rw [if_pos h1]
        by_cases h2 : 1 ≤ f.k
        · rw [if_pos (by simpa using h2)]
          refine key _ ?_
          have h2' : ¬ f.k < 1 := by omega
          simp only [bad0, h1, h2', decide_false, Bool.not_true, Bool.false_or, Bool.true_and]
          rw [Bool.eq_iff_iff]; simp
        · rw [if_neg (by simpa using h2)]
          refine key false ?_
          have h2' : f.k < 1 := by omega
          simp [bad0, h1, h2']
      · rw [if_neg h1]
        refine key false ?_
        simp [bad0, h1]
theorem c58 (c : Sc) (hc : okSc c) (H : Heap) (Q : Post) : E 58 [encSc c] H Q = Q (I (checkSc c)) H := by
  rw [f58_eq, szSc, ob_some]
  simp only [part_f, List.getElem?_cons_zero, List.getElem?_cons_succ, ob_some, lenF, i_gtr, cnd_B, decide_eq_true_eq, checkSc]
  by_cases h : 16 < c.fs.length
  · rw [if_pos (by omega), if_pos h]
  · rw [if_neg (by omega), if_neg h, c88 c.name hc.1]
    have := c58l c hc.2.1 hc.2.2 H Q c.fs [] (nameL c.name.data.toList) rfl
    refine this.trans ?_
    have hbool : ∀ x y : Bool, (if (x && !y) = true then (0 : Int) else 1) = if (!x || y) = true then 1 else 0 := by decide
    rw [hbool]; rfl
def namesC (l : List Sc) : List ByteArray := l.map (·.name)
theorem c36in (sz : Nat) (nil : Bool) (tip : Tip) (cs : List Sc) (hn : cs.length ≤ 16) (c : Sc) (n : Nat) (hc : cs[n]? = some c) (H : Heap) (Q : Post) : ∀ (t p : List Sc), p.length + t.length = n → (∃ r, cs = p ++ t ++ r) →
    f36_l49 (encScs sz nil tip cs) (I n) (I p.length) H Q = if hasB c.name (namesC t) = true then Q (I 4) H else f36_l37 (encScs sz nil tip cs) (I (n + 1 : Nat)) H Q := by
  have hlt : n < cs.length := by
    rcases Nat.lt_or_ge n cs.length with h | h
    · exact h
    · rw [List.getElem?_eq_none h] at hc; cases hc
  intro t
  induction t with
  | nil =>
    intro p h _
    have : p.length = n := by simpa using h
    rw [f36_l49_eq, i_lss, ob_some, this]
    simp only [Int.lt_irrefl, decide_false, cnd_f, i_add, ob_some, w64_succ hlt (by omega)]
    simp [namesC, hasB]
  | cons y t ih =>
    intro p h ⟨r, e⟩
    have hlt2 : p.length < n := by simp at h; omega
    have hd : decide ((p.length : Int) < n) = true := by simp; omega
    have hx := ixSc cs sz nil tip p (t ++ r) y (by rw [e]; simp)
    obtain ⟨a, b, hab, hal⟩ : ∃ a b, cs = a ++ c :: b ∧ a.length = n := by
      have := List.getElem?_eq_some_iff.1 hc
      obtain ⟨h1, h2⟩ := this
      refine ⟨cs.take n, cs.drop (n + 1), ?_, by simp; omega⟩
      rw [← h2, List.getElem_cons_drop]; simp
    have hy := ixSc cs sz nil tip a b c hab
    rw [hal] at hy
    have step := ih (p ++ [y]) (by simp at h ⊢; omega) ⟨r, by rw [e]; simp⟩
    rw [List.length_append, List.length_singleton] at step
    rw [f36_l49_eq, i_lss, ob_some, hd, cnd_t]
    simp only [hx, hy, part_f, List.getElem?_cons_zero, ob_some, List.drop_zero, s_eql, cnd_B, i_add, w64_succ hlt2 (show n ≤ 1152921504606846976 by omega), step, decide_eq_true_eq, namesC, List.map_cons, hasB, List.any_cons, Bool.or_eq_true]
    by_cases a : y.name = c.name
    · rw [if_pos a, if_pos (.inl a.symm)]
    · rw [if_neg a]
      congr 1
      rw [eq_iff_iff]
      exact ⟨.inr, fun h => h.elim (fun h => absurd h.symm a) id⟩
theorem c36_2 (sz : Nat) (nil : Bool) (tip : Tip) (cs : List Sc) (hn : cs.length ≤ 16) (H : Heap) (Q : Post) : ∀ (r pre : List Sc), cs = pre ++ r →
    f36_l37 (encScs sz nil tip cs) (I pre.length) H Q = Q (I (if dupSc (namesC pre) r = true then 4 else 0)) H := by
  intro r
  induction r with
  | nil =>
    intro pre e
    have : (pre.length : Int) = cs.length := by rw [e]; simp
    rw [f36_l37_eq, lenSc, ob_some, i_lss, ob_some, this]
    simp only [Int.lt_irrefl, decide_false, cnd_f]
    rfl
  | cons c r ih =>
    intro pre e
    have hlt : pre.length < cs.length := by rw [e]; simp
    have hlt' : decide ((pre.length : Int) < cs.length) = true := by simp; omega
    have hin := c36in sz nil tip cs hn c pre.length (by rw [e]; simp) H Q pre [] (by simp) ⟨c :: r, by simpa using e⟩
    have next := ih (pre ++ [c]) (by simp [e])
    rw [List.length_append, List.length_singleton] at next
    rw [f36_l37_eq, lenSc, ob_some, i_lss, ob_some, hlt', cnd_t]
    refine hin.trans ?_
    have hd : dupSc (namesC pre) (c :: r) = (hasB c.name (namesC pre) || dupSc (namesC (pre ++ [c])) r) := by simp [dupSc, namesC]
    rw [next, hd]
    by_cases hh : hasB c.name (namesC pre) = true
    · rw [if_pos hh, if_pos (by rw [hh]; rfl)]
    · have hh' : hasB c.name (namesC pre) = false := by simpa using hh
      rw [if_neg hh, hh', Bool.false_or]
theorem c36_1 (sz : Nat) (nil : Bool) (tip : Tip) (cs : List Sc) (hn : cs.length ≤ 16) (hok : ∀ c ∈ cs, okSc c) (H : Heap) (Q : Post) : ∀ (r pre : List Sc), cs = pre ++ r →
    f36_l14 (encScs sz nil tip cs) (I pre.length) H Q = Q (I (if firstBad r ≠ 0 then firstBad r else if dupSc [] cs = true then 4 else 0)) H := by
  intro r
  induction r with
  | nil =>
    intro pre e
    have : (pre.length : Int) = cs.length := by rw [e]; simp
    rw [f36_l14_eq, lenSc, ob_some, i_lss, ob_some, this]
    simp only [Int.lt_irrefl, decide_false, cnd_f]
    refine (c36_2 sz nil tip cs hn H Q cs [] rfl).trans ?_
    have hz : ∀ y : Int, (if firstBad [] ≠ 0 then firstBad [] else y) = y := fun y => by simp [firstBad]
    rw [hz]; rfl
  | cons c r ih =>
    intro pre e
    have hlt : pre.length < cs.length := by rw [e]; simp
    have hlt' : decide ((pre.length : Int) < cs.length) = true := by simp; omega
    have next := ih (pre ++ [c]) (by simp [e])
    rw [List.length_append, List.length_singleton] at next
    rw [f36_l14_eq, lenSc, ob_some, i_lss, ob_some, hlt', cnd_t, ixSc cs sz nil tip pre r c e, ob_some, partSc, ob_some, c58 c (hok c (by rw [e]; simp)), i_neq, ob_some, cnd_B]
    by_cases ha : checkSc c = 0
    · rw [if_neg (by simpa using ha), i_add, ob_some, w64_succ hlt (by omega), next]
      simp only [firstBad, if_pos ha]
    · rw [if_pos (by simpa using ha)]
      simp only [firstBad, if_neg ha]
      rw [if_pos ha]
theorem c36 (sz : Nat) (nil : Bool) (tip : Tip) (cs : List Sc) (hok : ∀ c ∈ cs, okSc c) (H : Heap) (Q : Post) : E 36 [encScs sz nil tip cs] H Q = Q (I (bookP cs)) H := by
  rw [f36_eq, lenSc, ob_some, i_gtr, ob_some, cnd_B, bookP]
  by_cases h : 16 < cs.length
  · rw [if_pos (by simp; omega), if_pos h]
  · rw [if_neg (by simp; omega), if_neg h]
    exact c36_1 sz nil tip cs (by omega) hok H Q cs [] rfl
end Go.Hx
