/- TypingKinds over the abstract machine. Own work (session 2). -/
import Derived.Test.YthhghcekcgonnaaS3TK
import Derived.Test.YthhghcekcgonnaaS3Y2
set_option maxRecDepth 20000
namespace Go.Hx
/-! ### Kind, Cond -/
def err56 (e : Int) : Prop := e = 0 ∨ e = 5 ∨ e = 6
theorem fieldN_err (n : Nm) (v s : ByteArray) : err56 (fieldN n v s).2 := by
  unfold fieldN
  repeat' split
  all_goals simp [err56]
theorem kindX_err (n : Nm) (x : Ex) : err56 (kindX (fieldN n) x).2 := by
  induction x using Ex.ind with
  | h x ih =>
    have hs : ∀ (l : List Ex) (e : Int), (∀ y ∈ l, err56 (kindX (fieldN n) y).2) → kindsX (fieldN n) l = .error e → err56 e := by
      intro l
      induction l with
      | nil => intro e _ h; cases h
      | cons y r ihr =>
        intro e hy h
        rw [kindsX] at h
        split at h
        · cases hk : kindsX (fieldN n) r with
          | error e' =>
            rw [hk] at h; simp only [Except.error.injEq] at h; subst h
            exact ihr e' (fun z hz => hy z (by simp [hz])) hk
          | ok vs => rw [hk] at h; cases h
        · simp only [Except.error.injEq] at h; subst h
          exact hy y (by simp)
    rw [kindX_eq]
    cases hk : kindsX (fieldN n) x.l with
    | error e => exact hs x.l e ih hk
    | ok vs =>
      show err56 (nodeK (fieldN n) x vs).2
      unfold nodeK
      split
      · exact .inl rfl
      · split
        · exact fieldN_err n _ _
        · split
          · exact .inl rfl
          · exact .inr (.inl rfl)
def kindP (n : Nm) (x : Ex) : Int × Int := if checkP x = 0 then kindX (fieldN n) x else (0, 1)
def condP (n : Nm) (x : Ex) : Int := if (kindP n x).2 ≠ 0 then (kindP n x).2 else if (kindP n x).1 ≠ 1 then 5 else 0
structure XOk (x : Ex) : Prop where
  ok : allX okX x
  v : allX vX x
  sz : sizeX x ≤ 1152921504606846975
theorem c10 {H : Heap} {b : Nat} {n : Nm} (h : IsP H b n) (ok : n.Ok) (x : Ex) (hx : XOk x) (Q : Post) (hq : ∀ H', HExt H H' → Q (encN2 (kindP n x)) H') : E 10 [Pt b, encX x] H Q := by
  rw [f10_eq, szX, ob_some, c27 h, cnd_f, partX, ob_some]
  refine c28 x hx.ok H _ (fun H1 he => ?_)
  rw [i_neq, ob_some]
  refine cnd_intro (fun h0 => ?_) (fun h0 => ?_)
  · have h0 : ¬ checkP x = 0 := by simpa using h0
    have := hq H1 he
    rw [kindP, if_neg h0] at this; exact this
  · have h0 : checkP x = 0 := by simpa using h0
    rw [ob_some]
    refine c29 n ok b x hx.ok (checkP_all h0) H1 _ (he.obj h) (fun H2 he2 => ?_)
    simp only [encK, xt0, xt1, ob_some]
    refine c30 _ (kindX_err n x) H2 _ ?_
    have := hq H2 (he.trans he2)
    rw [kindP, if_pos h0] at this; exact this
theorem c16 {H : Heap} {b : Nat} {n : Nm} (h : IsR H b n) (ok : n.Ok) (x : Ex) (hx : XOk x) (Q : Post) (hq : ∀ H', HExt H H' → Q (encN2 (kindP n x)) H') : E 16 [Pt b, encX x] H Q := by
  rw [f16_eq, szX, ob_some, partX, ob_some, c39 x hx.ok hx.v hx.sz, i_neq, ob_some]
  refine cnd_intro (fun h0 => ?_) (fun h0 => ?_)
  · have h0 : ¬ checkP x = 0 := by simpa using h0
    have := hq H (HExt.refl H)
    rw [kindP, if_neg h0] at this; exact this
  · have h0 : checkP x = 0 := by simpa using h0
    rw [ob_some]
    refine c40 n ok b x hx.ok (checkP_all h0) H _ h (fun H2 he2 => ?_)
    simp only [encN2, xt0, xt1, ob_some]
    have := hq H2 he2
    rw [kindP, if_pos h0] at this; exact this
theorem c12 {H : Heap} {b : Nat} {n : Nm} (h : IsP H b n) (ok : n.Ok) (x : Ex) (hx : XOk x) (Q : Post) (hq : ∀ H', HExt H H' → Q (I (condP n x)) H') : E 12 [Pt b, encX x] H Q := by
  rw [f12_eq, szX, ob_some, partX, ob_some]
  refine c10 h ok x hx _ (fun H1 he => ?_)
  have := hq H1 he
  rw [condP] at this
  simp only [encN2, xt0, xt1, ob_some, i_neq]
  refine cnd_intro (fun h0 => ?_) (fun h0 => cnd_intro (fun h1 => ?_) (fun h1 => ?_))
  · rw [if_pos (by simpa using h0)] at this; exact this
  · rw [if_neg (by simpa using h0), if_pos (by simpa using h1)] at this; exact this
  · rw [if_neg (by simpa using h0), if_neg (by simpa using h1)] at this; exact this
theorem c18 {H : Heap} {b : Nat} {n : Nm} (h : IsR H b n) (ok : n.Ok) (x : Ex) (hx : XOk x) (Q : Post) (hq : ∀ H', HExt H H' → Q (I (condP n x)) H') : E 18 [Pt b, encX x] H Q := by
  rw [f18_eq, szX, ob_some, partX, ob_some]
  refine c16 h ok x hx _ (fun H1 he => ?_)
  have := hq H1 he
  rw [condP] at this
  simp only [encN2, xt0, xt1, ob_some, i_neq]
  refine cnd_intro (fun h0 => ?_) (fun h0 => cnd_intro (fun h1 => ?_) (fun h1 => ?_))
  · rw [if_pos (by simpa using h0)] at this; exact this
  · rw [if_neg (by simpa using h0), if_pos (by simpa using h1)] at this; exact this
  · rw [if_neg (by simpa using h0), if_neg (by simpa using h1)] at this; exact this
/-! ### New -/
def allFound (cs : List Sc) (ts : List ByteArray) : Bool := ts.all fun t => (cs.find? (isSc t)).isSome
def newE (cs : List Sc) (vars types : List ByteArray) : Int := if bookP cs ≠ 0 ∨ vars.length ≠ types.length then 1 else if allFound cs types = true then 0 else 6
theorem found_B (cs : List Sc) (t : ByteArray) : foundI (ixF (isSc t) cs 0) = .tup [I (max (ixF (isSc t) cs 0) 0), B (cs.find? (isSc t)).isSome] := by
  rcases ixF_spec (isSc t) cs 0 with ⟨h1, h2⟩ | ⟨i, a, x, b, h1, _, _, h4⟩
  · rw [foundI, h1, h2]; rfl
  · rw [foundI, h1, h4]
    have : decide (0 ≤ ((0 + i : Nat) : Int)) = true := by simp
    rw [this]; rfl
theorem nil_eql28 (s : Nat) (nil : Bool) (tip : Tip) (xs : List AV) : binA Pg .eql 28 true (.sl s nil tip xs) (.sl 0 true .full []) = some (B nil) := by
  cases nil <;> kernel_rfl
theorem c34 (s : Nat) (nil : Bool) (tip : Tip) (l : List Sc) (h0 : nil = true → l = []) (hs : nil = true ∨ s = 2) (hl : l.length ≤ 1099511627776) (H : Heap) (Q : Post) (hq : ∀ s' nil' tip' H', HExt H H' → Q (encScs s' nil' tip' l) H') :
    E 34 [encScs s nil tip l] H Q := by
  have hm : mkSlA 2 [] = some (.sl 2 false .full []) := rfl
  rw [f34_eq, encScs, nil_eql28, ob_some, hm, ob_some]
  refine cnd_intro (fun h => ?_) (fun h => ?_)
  · have := hq 0 true .full H (HExt.refl H)
    rw [h0 h] at this; exact this
  · exact app_clone hs (by omega) (by simp; omega) (fun tip' H' he => hq _ _ _ _ he)
/-- what comes in of names -/
structure NIn (n : Nm) : Prop where
  h1 : n.n1 = true → n.cs = []
  h2 : n.n2 = true → n.vars = []
  h3 : n.n3 = true → n.types = []
  s1 : n.n1 = true ∨ n.z1 = 2
  s2 : n.n2 = true ∨ n.z2 = 1
  s3 : n.n3 = true ∨ n.z3 = 1
  l1 : n.cs.length ≤ 1099511627776
  l2 : n.vars.length ≤ 1099511627776
  l3 : n.types.length ≤ 1099511627776
  ok : ∀ c ∈ n.cs, okSc c
def nm1 (n : Nm) : AV := encScs n.z1 n.n1 n.t1 n.cs
def nm2 (n : Nm) : AV := encSs n.z2 n.n2 n.t2 n.vars
def nm3 (n : Nm) : AV := encSs n.z3 n.n3 n.t3 n.types
def Nm.like (n m : Nm) : Prop := n.cs = m.cs ∧ n.vars = m.vars ∧ n.types = m.types
theorem c13 (n : Nm) (hin : NIn n) (H : Heap) (Q : Post) (h1 : newE n.cs n.vars n.types ≠ 0 → ∀ H', HExt H H' → Q (.tup [.raw (.pointer none), I (newE n.cs n.vars n.types)]) H')
    (h2 : newE n.cs n.vars n.types = 0 → ∀ H' b m, HExt H H' → IsP H' b m → m.like n → Q (.tup [Pt b, I 0]) H') : E 13 [nm1 n, nm2 n, nm3 n] H Q := by
  have loop : bookP n.cs = 0 → n.vars.length = n.types.length → ∀ (r pre : List ByteArray) (H1 : Heap), n.types = pre ++ r → HExt H H1 → allFound n.cs pre = true → f13_l14 (nm1 n) (nm2 n) (nm3 n) (nm3 n) (I n.types.length) (I pre.length) H1 Q := by
    intro hb hl r
    have hl3 := hin.l3
    have e1 : ¬ (bookP n.cs ≠ 0 ∨ n.vars.length ≠ n.types.length) := by omega
    induction r with
    | nil =>
      intro pre H1 e he hf
      have : (pre.length : Int) = n.types.length := by rw [e]; simp
      have hn : newE n.cs n.vars n.types = 0 := by rw [newE, if_neg e1, if_pos (by rw [e, List.append_nil]; exact hf)]
      rw [f13_l14_eq, i_lss, ob_some, this]
      simp only [Int.lt_irrefl, decide_false, cnd_f]
      refine c34 n.z1 n.n1 n.t1 n.cs hin.h1 hin.s1 hin.l1 H1 _ (fun a1 a2 a3 H2 he2 => ?_)
      refine c35 n.z2 n.n2 n.t2 n.vars hin.h2 hin.s2 hin.l2 H2 _ (fun b1 b2 b3 H3 he3 => ?_)
      refine c35 n.z3 n.n3 n.t3 n.types hin.h3 hin.s3 hin.l3 H3 _ (fun c1 c2 c3 H4 he4 => ?_)
      have hbl : bldA [(0, 1, encScs a1 a2 a3 n.cs), (1, 1, encSs b1 b2 b3 n.vars), (2, 1, encSs c1 c2 c3 n.types), (3, 1, (B true))] [(AV.sl 0 true .full []), (AV.sl 0 true .full []), (AV.sl 0 true .full []), (B false)] = some (.agg [encScs a1 a2 a3 n.cs, encSs b1 b2 b3 n.vars, encSs c1 c2 c3 n.types, B true]) := rfl
      have hsz : sizedA 4 (.agg [encScs a1 a2 a3 n.cs, encSs b1 b2 b3 n.vars, encSs c1 c2 c3 n.types, B true]) = some [encScs a1 a2 a3 n.cs, encSs b1 b2 b3 n.vars, encSs c1 c2 c3 n.types, B true] := rfl
      refine Eq.mpr (congrArg (fun z => ob z _) hbl) ?_
      rw [ob_some, hsz, ob_some]
      intro b hf
      exact h2 hn _ b ⟨a1, a2, a3, n.cs, b1, b2, b3, n.vars, c1, c2, c3, n.types⟩ ((he.trans (he2.trans (he3.trans he4))).setObj ((he.trans (he2.trans (he3.trans he4))).fresh hf) _) (setObj_same _ _ _) ⟨rfl, rfl, rfl⟩
    | cons t r ih =>
      intro pre H1 e he hf
      have hlt : pre.length < n.types.length := by rw [e]; simp
      have hlt' : decide ((pre.length : Int) < n.types.length) = true := by simp; omega
      have hx : ixaA 1 (nm3 n) (I pre.length) = some [S t] := ixSs n.types n.z3 n.n3 n.t3 pre r t e
      rw [f13_l14_eq, i_lss, ob_some, hlt', cnd_t, hx, ob_some, part_f, List.getElem?_cons_zero, ob_some]
      refine c33 n.z1 n.n1 n.t1 n.cs hin.l1 t H1 _ (fun H2 he2 => ?_)
      rw [found_B, xt0, ob_some, xt1, ob_some, not_B, ob_some]
      refine cnd_intro (fun a => ?_) (fun a => ?_)
      · have hn : newE n.cs n.vars n.types = 6 := by
          rw [newE, if_neg e1, if_neg]
          rw [e, allFound, List.all_append, List.all_cons]
          have a' : (n.cs.find? (isSc t)).isSome = false := by
            cases hh : (n.cs.find? (isSc t)).isSome with
            | false => rfl
            | true => rw [hh] at a; cases a
          rw [a', Bool.false_and, Bool.and_false]; decide
        have := h1 (by rw [hn]; decide) H2 (he.trans he2)
        rw [hn] at this; exact this
      · rw [i_add, ob_some, w64_succ hlt (by omega)]
        have := ih (pre ++ [t]) H2 (by simp [e]) (he.trans he2) (by
          rw [allFound, List.all_append]
          rw [allFound] at hf
          rw [hf]
          have a : (n.cs.find? (isSc t)).isSome = true := by simpa using a
          simp only [List.all_cons, List.all_nil, Bool.and_true, Bool.true_and]
          exact a)
        rw [List.length_append, List.length_singleton] at this
        exact this
  have bad : (bookP n.cs ≠ 0 ∨ n.vars.length ≠ n.types.length) → newE n.cs n.vars n.types = 1 := fun h => by rw [newE, if_pos h]
  rw [f13_eq]
  refine c32 n.z1 n.n1 n.t1 n.cs hin.ok H _ (fun H1 he => ?_)
  rw [i_neq, ob_some]
  have l2 : lenA (nm2 n) = some (I n.vars.length) := lenSs _ _ _ _
  have l3 : lenA (nm3 n) = some (I n.types.length) := lenSs _ _ _ _
  refine cnd_intro (fun a => ?_) (fun a => ?_)
  · have hb := bad (.inl (by simpa using a))
    have := h1 (by rw [hb]; decide) H1 he
    rw [hb] at this
    rw [f13_j5_eq, cnd_t]; exact this
  · rw [l2, ob_some, l3, ob_some, i_neq, ob_some, f13_j5_eq]
    refine cnd_intro (fun a2 => ?_) (fun a2 => ?_)
    · have hb := bad (.inr (by simp at a2; omega))
      have := h1 (by rw [hb]; decide) H1 he
      rw [hb] at this; exact this
    · rw [l3, ob_some]
      exact loop (by simpa using a) (by simp at a2; omega) n.types [] H1 rfl he rfl
theorem c14 (n : Nm) (hin : NIn n) (H : Heap) (Q : Post) (h1 : newE n.cs n.vars n.types ≠ 0 → ∀ H', HExt H H' → Q (.tup [.raw (.pointer none), I (newE n.cs n.vars n.types)]) H')
    (h2 : newE n.cs n.vars n.types = 0 → ∀ H' b m, HExt H H' → IsR H' b m → m.like n → Q (.tup [Pt b, I 0]) H') : E 14 [nm1 n, nm2 n, nm3 n] H Q := by
  have l2 : lenA (nm2 n) = some (I n.vars.length) := lenSs _ _ _ _
  have l3 : lenA (nm3 n) = some (I n.types.length) := lenSs _ _ _ _
  have loop : bookP n.cs = 0 → n.vars.length = n.types.length → ∀ (r pre : List ByteArray) (H1 : Heap), n.types = pre ++ r → HExt H H1 → allFound n.cs pre = true → f14_l14 (nm1 n) (nm2 n) (nm3 n) (I pre.length) H1 Q := by
    intro hb hl r
    have hl3 := hin.l3
    have e1 : ¬ (bookP n.cs ≠ 0 ∨ n.vars.length ≠ n.types.length) := by omega
    induction r with
    | nil =>
      intro pre H1 e he hf
      have : (pre.length : Int) = n.types.length := by rw [e]; simp
      have hn : newE n.cs n.vars n.types = 0 := by rw [newE, if_neg e1, if_pos (by rw [e, List.append_nil]; exact hf)]
      rw [f14_l14_eq, l3, ob_some, i_lss, ob_some, this]
      simp only [Int.lt_irrefl, decide_false, cnd_f]
      have hbl : bldA [(0, 1, nm1 n), (1, 1, nm2 n), (2, 1, nm3 n)] [(AV.sl 0 true .full []), (AV.sl 0 true .full []), (AV.sl 0 true .full [])] = some (.agg [nm1 n, nm2 n, nm3 n]) := rfl
      have hsz : sizedA 3 (.agg [nm1 n, nm2 n, nm3 n]) = some [nm1 n, nm2 n, nm3 n] := rfl
      rw [hbl, ob_some, hsz, ob_some]
      intro b hf
      exact h2 hn _ b n (he.setObj (he.fresh hf) _) (setObj_same _ _ _) ⟨rfl, rfl, rfl⟩
    | cons t r ih =>
      intro pre H1 e he hf
      have hlt : pre.length < n.types.length := by rw [e]; simp
      have hlt' : decide ((pre.length : Int) < n.types.length) = true := by simp; omega
      have hx : ixaA 1 (nm3 n) (I pre.length) = some [S t] := ixSs n.types n.z3 n.n3 n.t3 pre r t e
      rw [f14_l14_eq, l3, ob_some, i_lss, ob_some, hlt', cnd_t, hx, ob_some, part_f, List.getElem?_cons_zero, ob_some]
      show E 37 [encScs n.z1 n.n1 n.t1 n.cs, S t] H1 _
      rw [c37 n.z1 n.n1 n.t1 n.cs hin.l1]
      rw [found_B, xt0, ob_some, xt1, ob_some, not_B, ob_some]
      refine cnd_intro (fun a => ?_) (fun a => ?_)
      · have hn : newE n.cs n.vars n.types = 6 := by
          rw [newE, if_neg e1, if_neg]
          rw [e, allFound, List.all_append, List.all_cons]
          have a' : (n.cs.find? (isSc t)).isSome = false := by
            cases hh : (n.cs.find? (isSc t)).isSome with
            | false => rfl
            | true => rw [hh] at a; cases a
          rw [a', Bool.false_and, Bool.and_false]; decide
        have := h1 (by rw [hn]; decide) H1 he
        rw [hn] at this; exact this
      · rw [i_add, ob_some, w64_succ hlt (by omega)]
        have := ih (pre ++ [t]) H1 (by simp [e]) he (by
          rw [allFound, List.all_append]
          rw [allFound] at hf
          rw [hf]
          have a : (n.cs.find? (isSc t)).isSome = true := by simpa using a
          simp only [List.all_cons, List.all_nil, Bool.and_true, Bool.true_and]
          exact a)
        rw [List.length_append, List.length_singleton] at this
        exact this
  have bad : (bookP n.cs ≠ 0 ∨ n.vars.length ≠ n.types.length) → newE n.cs n.vars n.types = 1 := fun h => by rw [newE, if_pos h]
  rw [f14_eq]
  show E 36 [encScs n.z1 n.n1 n.t1 n.cs] H _
  rw [c36 n.z1 n.n1 n.t1 n.cs hin.ok, i_neq, ob_some]
  refine cnd_intro (fun a => ?_) (fun a => ?_)
  · have hb := bad (.inl (by simpa using a))
    have := h1 (by rw [hb]; decide) H (HExt.refl H)
    rw [hb] at this
    rw [f14_j5_eq, cnd_t]; exact this
  · rw [l2, ob_some, l3, ob_some, i_neq, ob_some, f14_j5_eq]
    refine cnd_intro (fun a2 => ?_) (fun a2 => ?_)
    · have hb := bad (.inr (by simp at a2; omega))
      have := h1 (by rw [hb]; decide) H (HExt.refl H)
      rw [hb] at this; exact this
    · exact loop (by simpa using a) (by simp at a2; omega) n.types [] H rfl (HExt.refl H) rfl
theorem newE_ok {n m : Nm} (hin : NIn n) (h : newE n.cs n.vars n.types = 0) (hl : m.like n) : m.Ok := by
  obtain ⟨e1, e2, e3⟩ := hl
  rw [newE] at h
  split at h
  · cases h
  · rename_i h1
    split at h
    · rename_i h2
      refine ⟨by rw [e1]; exact hin.l1, by rw [e2]; exact hin.l2, by rw [e2, e3]; omega, fun t ht => ?_, fun c hc => (hin.ok c (by rw [← e1]; exact hc)).2.1⟩
      rw [e3] at ht
      have := List.all_eq_true.1 h2 t ht
      rw [e1]
      exact Option.isSome_iff_exists.1 this
    · cases h
theorem fieldN_like {n m : Nm} (hl : m.like n) : fieldN m = fieldN n := by
  obtain ⟨e1, e2, e3⟩ := hl
  funext v s
  rw [fieldN, fieldN, e1, e2, e3]
theorem kindP_like {n m : Nm} (hl : m.like n) (x : Ex) : kindP m x = kindP n x := by rw [kindP, kindP, fieldN_like hl]
theorem condP_like {n m : Nm} (hl : m.like n) (x : Ex) : condP m x = condP n x := by rw [condP, condP, kindP_like hl]
/-! ### The awake names -/
abbrev sBuy : ByteArray := ⟨#[98, 117, 121]⟩
def fsBuy : List Fd := [⟨⟨#[120]⟩, 2⟩, ⟨⟨#[107]⟩, 3⟩, ⟨⟨#[98]⟩, 1⟩]
def scBuy : Sc := ⟨sBuy, 2, false, .full, fsBuy⟩
def nmAwake : Nm := ⟨2, false, .full, [scBuy], 1, false, .full, [⟨#[97]⟩], 1, false, .full, [sBuy]⟩
theorem c38 (H : Heap) (Q : Post) : E 38 [] H Q = Q (encScs 2 false .full [scBuy]) H := f38_eq () H Q
theorem okBuy : okSc scBuy := by
  refine ⟨by decide, by decide, ?_⟩
  intro f hf
  simp only [scBuy, fsBuy, List.mem_cons, List.not_mem_nil, or_false] at hf
  rcases hf with rfl | rfl | rfl <;> decide
theorem inAwake : NIn nmAwake := by
  refine ⟨fun h => (by cases h), fun h => (by cases h), fun h => (by cases h), .inr rfl, .inr rfl, .inr rfl, by decide, by decide, by decide, fun c hc => ?_⟩
  have : c = scBuy := by simpa [nmAwake] using hc
  rw [this]; exact okBuy
theorem newAwake : newE nmAwake.cs nmAwake.vars nmAwake.types = 0 := by kernel_rfl
def xAwake : Ex := .mk 2 nullV ⟨#[97]⟩ ⟨#[120]⟩ 0 true .full []
theorem xAwake_ok : XOk xAwake := by
  refine ⟨?_, ?_, by decide⟩
  · rw [allX_eq]; exact ⟨⟨by decide, by decide, by decide⟩, trivial⟩
  · rw [allX_eq]; exact ⟨by simp [vX, vr, rng, xAwake, Ex.v, nullV], trivial⟩
theorem checkAwake : checkP xAwake = 0 := by kernel_rfl
theorem kindAwake : kindX (fieldN nmAwake) xAwake = (2, 0) := by kernel_rfl
theorem c15 (H : Heap) (Q : Post) (hq : ∀ H', HExt H H' → Q (B true) H') : E 15 [] H Q := by
  have hm1 : mkSlA 1 [(S ⟨#[97]⟩)] = some (nm2 nmAwake) := rfl
  have hm2 : mkSlA 1 [(S ⟨#[98, 117, 121]⟩)] = some (nm3 nmAwake) := rfl
  rw [f15_eq, c38, hm1, ob_some, hm2, ob_some]
  refine c13 nmAwake inAwake H _ (fun h => absurd newAwake h) (fun _ H1 b m he hP hl => ?_)
  have hx : bldA [(0, 1, (I 2)), (4, 1, (S ⟨#[97]⟩)), (5, 1, (S ⟨#[120]⟩))] [(I 0), (I 0), (I 0), (S ⟨#[]⟩), (S ⟨#[]⟩), (S ⟨#[]⟩), (AV.sl 0 true .full [])] = some (encX xAwake) := rfl
  simp only [xt0, xt1, ob_some, p_nil, cnd_f, i_neq]
  rw [f15_j7_eq]
  show cndA (B false) _ _
  rw [cnd_f, hx, ob_some]
  refine c10 hP (newE_ok inAwake newAwake hl) xAwake xAwake_ok _ (fun H2 he2 => ?_)
  rw [kindP_like hl, kindP, if_pos checkAwake, kindAwake]
  simp only [encN2, xt0, xt1, ob_some, i_eql, f15_j16_eq]
  exact hq H2 (he.trans he2)
/-! ### The law -/
theorem nb4 (p : Bool) : binA Pg .neq 4 false (B p) (B p) = some (B false) := by cases p <;> kernel_rfl
theorem eb4 (p : Bool) : binA Pg .eql 4 false (B p) (B p) = some (B true) := by cases p <;> kernel_rfl
theorem p_nil41 (b : Nat) : binA Pg .eql 41 true (Pt b) (.raw (.pointer none)) = some (B false) := by kernel_rfl
theorem n_nil27 : binA Pg .eql 27 true (.raw (.pointer none)) (.raw (.pointer none)) = some (B true) := by kernel_rfl
theorem n_nil41 : binA Pg .eql 41 true (.raw (.pointer none)) (.raw (.pointer none)) = some (B true) := by kernel_rfl
theorem c4 (n : Nm) (hin : NIn n) (x : Ex) (hx : XOk x) (v : ByteArray) (H : Heap) (Q : Post) (hq : ∀ H', Q (B true) H') : E 4 [nm1 n, nm2 n, nm3 n, encX x, S v] H Q := by
  have haw : ∀ H' (K : Post), (∀ H', K (B true) H') → E 15 [] H' K := fun H' K hk => c15 H' K (fun H'' _ => hk H'')
  rw [f4_eq, szX, ob_some]
  refine c13 n hin H _ (fun hne H1 he => ?_) (fun h0 H1 b m he hP hl => ?_)
  · simp only [xt0, xt1, ob_some]
    refine c14 n hin H1 _ (fun _ H2 he2 => ?_) (fun h => absurd h hne)
    simp only [xt0, xt1, ob_some, i_neq, decide_true, Bool.not_true, cnd_f, n_nil27, n_nil41, nb4]
    rw [f4_j9_eq, cnd_f, n_nil41, ob_some, cnd_t]
    exact haw H2 _ hq
  · simp only [xt0, xt1, ob_some]
    refine c14 n hin H1 _ (fun h => absurd h0 h) (fun _ H2 b2 m2 he2 hR hl2 => ?_)
    have ok1 := newE_ok hin h0 hl
    have ok2 := newE_ok hin h0 hl2
    simp only [xt0, xt1, ob_some, i_neq, decide_true, Bool.not_true, cnd_f, p_nil, p_nil41, nb4]
    rw [f4_j9_eq, cnd_f, p_nil41, ob_some, cnd_f, partX, ob_some]
    refine c10 (he2.obj hP) ok1 x hx _ (fun H3 he3 => ?_)
    simp only [encN2, xt0, xt1, ob_some, partX]
    refine c16 (he3.obj hR) ok2 x hx _ (fun H4 he4 => ?_)
    simp only [encN2, xt0, xt1, ob_some]
    have he24 := he3.trans he4
    have hP4 : IsP H4 b m := he24.obj (he2.obj hP)
    have hR4 : IsR H4 b2 m2 := he24.obj hR
    rw [c11 hP4 ok1]
    have ht1 : typeP v m.vars m.types = typeP v n.vars n.types := by rw [hl.2.1, hl.2.2]
    have ht2 : typeP v m2.vars m2.types = typeP v n.vars n.types := by rw [hl2.2.1, hl2.2.2]
    obtain ⟨s, t, hst⟩ : ∃ s t, typA (typeP v n.vars n.types) = .tup [S s, B t] := by
      cases typeP v n.vars n.types with
      | none => exact ⟨_, _, rfl⟩
      | some s => exact ⟨_, _, rfl⟩
    simp only [ht1, hst, xt0, xt1, ob_some]
    rw [c17 hR4 ok2]
    simp only [ht2, hst, kindP_like hl, kindP_like hl2, xt0, xt1, ob_some, i_eql, decide_true, cnd_t]
    rw [f4_c11_8a_eq, cnd_t, partX, ob_some]
    refine c12 hP4 ok1 x hx _ (fun H5 he5 => ?_)
    refine c18 (he5.obj hR4) ok2 x hx _ (fun H6 he6 => ?_)
    simp only [condP_like hl, condP_like hl2, i_eql, ob_some, decide_true, f4_c11_17a_eq, cnd_t, s_eql, f4_c11_22a_eq, eb4, f4_c11_27a_eq]
    refine haw H6 _ (fun H7 => ?_)
    rw [f4_c11_30a_eq, f4_j32_eq]
    exact hq H7
end Go.Hx
