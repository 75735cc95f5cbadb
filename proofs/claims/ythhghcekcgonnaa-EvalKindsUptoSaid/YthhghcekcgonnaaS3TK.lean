/- Contracts of layer 10: the kind of a condition. Own work (session 2). -/
import Derived.Test.YthhghcekcgonnaaS3P
set_option maxRecDepth 20000
namespace Go.Hx
def alikeL (l : List Int) : Bool := decide (l.getD 0 0 = l.getD 1 0) || (decide (l.getD 0 0 = 0) || decide (l.getD 1 0 = 0))
def allI (k : Int) (l : List Int) : Bool := l.all fun x => decide (x = k)
def fitsK (k : Int) (l : List Int) : Bool := if k ≤ 8 then allI 2 l else if k ≤ 10 then alikeL l else if k ≤ 14 then (allI 2 l || allI 3 l) else allI 1 l
def outK (k : Int) : Int := if k ≤ 8 then 2 else 1
def nodeK (g : ByteArray → ByteArray → Int × Int) (x : Ex) (l : List Int) : Int × Int :=
  if x.k = 1 then (x.v.k, 0) else if x.k = 2 then g x.var x.fld else if fitsK x.k l = true then (outK x.k, 0) else (0, 5)
mutual
def kindX (g : ByteArray → ByteArray → Int × Int) : Ex → Int × Int
  | .mk k v var fld sz nil tip l => match kindsX g l with
    | .error e => (0, e)
    | .ok vs => nodeK g (.mk k v var fld sz nil tip l) vs
def kindsX (g : ByteArray → ByteArray → Int × Int) : List Ex → Except Int (List Int)
  | [] => .ok []
  | x :: r => if (kindX g x).2 = 0 then (match kindsX g r with | .ok vs => .ok ((kindX g x).1 :: vs) | .error e => .error e) else .error (kindX g x).2
end
theorem kindX_eq (g : ByteArray → ByteArray → Int × Int) (x : Ex) : kindX g x = match kindsX g x.l with
    | .error e => (0, e)
    | .ok vs => nodeK g x vs := by
  cases x; simp [kindX, Ex.l]
/-! ### Rows of numbers -/
def isNot (k x : Int) : Bool := !decide (x = k)
theorem c106 (k x : Int) (b : Nat) (H : Heap) (Q : Post) (hb : H.objs b = some (.cells [I k])) : E 106 [I x, Pt b] H Q = Q (B (isNot k x)) H := by
  rw [f106_eq, ld_Pt hb]
  simp only [part_f, List.getElem?_cons_zero, ob_some, i_neq]
  rfl
theorem ixF_all (k : Int) : ∀ (l : List Int) (n : Nat), decide (0 ≤ ixF (isNot k) l n) = !allI k l
  | [], n => rfl
  | x :: r, n => by
    have ih := ixF_all k r (n + 1)
    simp only [allI, List.all_cons] at ih ⊢
    by_cases h : x = k
    · simp only [ixF, isNot, h, decide_true, Bool.not_true, Bool.false_eq_true, if_false, Bool.true_and]; exact ih
    · simp [ixF, isNot, h]
theorem c104 (sz : Nat) (nil : Bool) (tip : Tip) (l : List Int) (hn : l.length ≤ 1099511627776) (k : Int) (b : Nat) (H : Heap) (Q : Post) (hb : H.objs b = some (.cells [I k])) : E 104 [encIs sz nil tip l, Pt b] H Q = Q (B (allI k l)) H := by
  have key : ∀ (K : Post) (r pre : List Int), l = pre ++ r → f126_l6 (encIs sz nil tip l) (.fn (.func 106) [] [Pt b]) (I l.length) (I pre.length) H K = K (I (ixF (isNot k) r pre.length)) H := by
    intro K r
    induction r with
    | nil =>
      intro pre e
      have : (pre.length : Int) = l.length := by rw [e]; simp
      rw [f126_l6_eq, i_lss, ob_some, this]
      simp only [Int.lt_irrefl, decide_false, cnd_f]
      rfl
    | cons c r ih =>
      intro pre e
      have hlt : pre.length < l.length := by rw [e]; simp
      have hlt' : decide ((pre.length : Int) < l.length) = true := by simp; omega
      have next := ih (pre ++ [c]) (by simp [e])
      rw [List.length_append, List.length_singleton] at next
      rw [f126_l6_eq, i_lss, ob_some, hlt', cnd_t, ixIs l sz nil tip pre r c e, ob_some, part_f, List.getElem?_cons_zero, ob_some]
      show E 106 [I c, Pt b] H _ = _
      rw [c106 k c b H _ hb, cnd_B, i_add, ob_some, w64_succ hlt (by omega), next, ixF]
      by_cases hc : isNot k c = true
      · rw [if_pos hc, if_pos hc]
      · rw [if_neg hc, if_neg hc]
  rw [f104_eq, f105_eq, f126_eq, lenIs, ob_some]
  refine (key _ l [] rfl).trans ?_
  rw [i_geq, ob_some, List.length_nil, ixF_all, not_B, ob_some, Bool.not_not]
theorem c62 (sz : Nat) (nil : Bool) (tip : Tip) (l : List Int) (hn : l.length ≤ 1099511627776) (k : Int) (H : Heap) (Q : Post) : E 62 [encIs sz nil tip l, I k] H Q = Q (B (allI k l)) H := by
  have key : ∀ (r pre : List Int), l = pre ++ r → f62_l6 (encIs sz nil tip l) (I k) (I pre.length) H Q = Q (B (allI k r)) H := by
    intro r
    induction r with
    | nil =>
      intro pre e
      have : (pre.length : Int) = l.length := by rw [e]; simp
      rw [f62_l6_eq, lenIs, ob_some, i_lss, ob_some, this]
      simp only [Int.lt_irrefl, decide_false, cnd_f]
      rfl
    | cons c r ih =>
      intro pre e
      have hlt : pre.length < l.length := by rw [e]; simp
      have hlt' : decide ((pre.length : Int) < l.length) = true := by simp; omega
      have next := ih (pre ++ [c]) (by simp [e])
      rw [List.length_append, List.length_singleton] at next
      rw [f62_l6_eq, lenIs, ob_some, i_lss, ob_some, hlt', cnd_t, ixIs l sz nil tip pre r c e, ob_some, part_f, List.getElem?_cons_zero, ob_some, i_neq, ob_some, cnd_B, i_add, ob_some, w64_succ hlt (by omega), next, allI, allI, List.all_cons]
      by_cases hc : c = k
      · simp [hc]
      · simp [hc]
  rw [f62_eq]
  exact key l [] rfl
/-! ### Rules -/
theorem c81 (k : Int) (H : Heap) (Q : Post) (hq : ∀ b, H.fresh b → Q (.fn (.func 104) [] [Pt b]) (H.setObj b (.cells [I k]))) : E 81 [I k] H Q := by
  rw [f81_eq, sz1_I, ob_some]
  intro b hb
  exact hq b hb
/-- the rule of a kind is asked, and answers -/
theorem ruled (k : Int) (sz : Nat) (nil : Bool) (tip : Tip) (l : List Int) (hn : l.length ≤ 1099511627776) (h2 : k = 9 ∨ k = 10 → l.length = 2) (H : Heap) (Q : Post) (hq : ∀ H', HExt H H' → Q (if fitsK k l = true then .tup [I (outK k), errA 0] else .tup [I 0, errA 5]) H') :
    E 51 [I k] H fun r30 H31 => ob (sizedA 2 r30) fun b32 => ob (spliceA 0 b32 [(AV.raw .nilFunc), (I 0)]) fun b33 => ob (partA false 0 1 b33) fun r34 => callA (Ev Pg Hs) r34 [encIs sz nil tip l] H31 fun r35 H36 =>
      ob (unA .not r35) fun r37 => cndA r37 (E 52 [] H36 fun r38 H39 => Q (AV.tup [(I 0), r38]) H39) (ob (partA false 1 1 b33) fun r40 => Q (AV.tup [r40, (AV.raw .nilIface)]) H36) := by
  have hb : ∀ (f : AV) (o : Int), (∃ a b c, f = .fn a b c) → bldA [(0, 1, f), (1, 1, I o)] [(AV.raw .nilFunc), (I 0)] = some (.agg [f, I o]) ∧ sizedA 2 (.agg [f, I o]) = some [f, I o] ∧ spliceA 0 [f, I o] [(AV.raw .nilFunc), (I 0)] = some [f, I o] ∧ partA true 0 2 [f, I o] = some (.agg [f, I o]) := by
    rintro f o ⟨a, b, c, rfl⟩
    exact ⟨rfl, rfl, rfl, rfl⟩
  have fin : ∀ (fit : Bool) (o : Int) (f : AV) (H' : Heap), HExt H H' → fit = fitsK k l → o = outK k → ob (unA .not (B fit)) fun r37 => cndA r37 (E 52 [] H' fun r38 H39 => Q (AV.tup [(I 0), r38]) H39) (ob (partA false 1 1 [f, I o]) fun r40 => Q (AV.tup [r40, (AV.raw .nilIface)]) H') := by
    intro fit o f H' he hf ho
    have := hq H' he
    rw [← hf, ← ho] at this
    cases fit with
    | true => exact this
    | false =>
      rw [not_B, ob_some]
      show cndA (B true) _ _
      rw [cnd_t, c52]; exact this
  rw [f51_eq, i_leq, ob_some]
  refine cnd_intro (fun h8 => ?_) (fun h8 => ?_)
  · have h8 : k ≤ 8 := by simpa using h8
    refine c81 2 H _ (fun b fb => ?_)
    have he : HExt H (H.setObj b (.cells [I 2])) := (HExt.refl H).setObj fb _
    have hbb := setObj_same H b (.cells [I 2])
    generalize H.setObj b (.cells [I 2]) = H1 at he hbb ⊢
    obtain ⟨e1, e2, e3, e4⟩ := hb (.fn (.func 104) [] [Pt b]) 2 ⟨_, _, _, rfl⟩
    simp only [e1, e2, e3, e4, ob_some, part_f, List.getElem?_cons_zero]
    show E 104 [encIs sz nil tip l, Pt b] H1 _
    rw [c104 sz nil tip l hn 2 b H1 _ hbb]
    exact fin _ _ _ H1 he (by simp [fitsK, h8]) (by simp [outK, h8])
  have h8 : ¬ k ≤ 8 := by simpa using h8
  rw [i_leq, ob_some]
  refine cnd_intro (fun h10 => ?_) (fun h10 => ?_)
  · have h10 : k ≤ 10 := by simpa using h10
    obtain ⟨e1, e2, e3, e4⟩ := hb (.fn (.func 82) [] []) 1 ⟨_, _, _, rfl⟩
    simp only [e1, e2, e3, e4, ob_some, part_f, List.getElem?_cons_zero]
    show E 82 [encIs sz nil tip l] H _
    have hl := h2 (by omega)
    match l, hl with
    | [a, b], _ =>
      have i0 : ixaA 1 (encIs sz nil tip [a, b]) (I 0) = some [I a] := rfl
      have i1 : ixaA 1 (encIs sz nil tip [a, b]) (I 1) = some [I b] := rfl
      simp only [f82_eq, i0, i1, ob_some, part_f, List.getElem?_cons_zero, i_eql, f82_j4_eq]
      have hf : fitsK k [a, b] = (decide (a = b) || (decide (a = 0) || decide (b = 0))) := by simp [fitsK, h8, h10, alikeL]
      refine cnd_intro (fun h => ?_) (fun h => cnd_intro (fun h' => ?_) (fun h' => ?_))
      · exact fin _ _ _ H (HExt.refl H) (by rw [hf, h]; rfl) (by simp [outK, h8])
      · exact fin _ _ _ H (HExt.refl H) (by rw [hf, h, h']; rfl) (by simp [outK, h8])
      · exact fin _ _ _ H (HExt.refl H) (by rw [hf, h, h']; rfl) (by simp [outK, h8])
  have h10 : ¬ k ≤ 10 := by simpa using h10
  rw [i_leq, ob_some]
  refine cnd_intro (fun h14 => ?_) (fun h14 => ?_)
  · have h14 : k ≤ 14 := by simpa using h14
    obtain ⟨e1, e2, e3, e4⟩ := hb (.fn (.func 83) [] []) 1 ⟨_, _, _, rfl⟩
    simp only [e1, e2, e3, e4, ob_some, part_f, List.getElem?_cons_zero]
    show E 83 [encIs sz nil tip l] H _
    rw [f83_eq]
    refine c81 2 H _ (fun b fb => ?_)
    have he : HExt H (H.setObj b (.cells [I 2])) := (HExt.refl H).setObj fb _
    have hbb := setObj_same H b (.cells [I 2])
    generalize H.setObj b (.cells [I 2]) = H1 at he hbb ⊢
    show E 104 [encIs sz nil tip l, Pt b] H1 _
    rw [c104 sz nil tip l hn 2 b H1 _ hbb]
    have hf : fitsK k l = (allI 2 l || allI 3 l) := by simp [fitsK, h8, h10, h14]
    refine cnd_intro (fun h => ?_) (fun h => ?_)
    · rw [f83_j4_eq]
      exact fin _ _ _ H1 he (by rw [hf, h]; rfl) (by simp [outK, h8])
    · refine c81 3 H1 _ (fun b2 fb2 => ?_)
      have he2 : HExt H (H1.setObj b2 (.cells [I 3])) := he.setObj (he.fresh fb2) _
      have hb2 := setObj_same H1 b2 (.cells [I 3])
      generalize H1.setObj b2 (.cells [I 3]) = H2 at he2 hb2 ⊢
      show E 104 [encIs sz nil tip l, Pt b2] H2 _
      rw [c104 sz nil tip l hn 3 b2 H2 _ hb2, f83_j4_eq]
      exact fin _ _ _ H2 he2 (by rw [hf, h]; rfl) (by simp [outK, h8])
  · have h14 : ¬ k ≤ 14 := by simpa using h14
    refine c81 1 H _ (fun b fb => ?_)
    have he : HExt H (H.setObj b (.cells [I 1])) := (HExt.refl H).setObj fb _
    have hbb := setObj_same H b (.cells [I 1])
    generalize H.setObj b (.cells [I 1]) = H1 at he hbb ⊢
    obtain ⟨e1, e2, e3, e4⟩ := hb (.fn (.func 104) [] [Pt b]) 1 ⟨_, _, _, rfl⟩
    simp only [e1, e2, e3, e4, ob_some, part_f, List.getElem?_cons_zero]
    show E 104 [encIs sz nil tip l, Pt b] H1 _
    rw [c104 sz nil tip l hn 1 b H1 _ hbb]
    exact fin _ _ _ H1 he (by simp [fitsK, h8, h10, h14]) (by simp [outK, h8])
/-! ### The program's answer -/
theorem rightP_l0 {x : Ex} (h : rightP x = true) (h1 : x.k = 1 ∨ x.k = 2) : x.l = [] := by
  rcases h1 with h1 | h1
  · simp only [rightP, if_pos h1, Bool.and_eq_true, decide_eq_true_eq] at h
    exact List.eq_nil_of_length_eq_zero h.1
  · have : ¬ x.k = 1 := by omega
    simp only [rightP, if_neg this, if_pos h1, Bool.and_eq_true, decide_eq_true_eq] at h
    exact List.eq_nil_of_length_eq_zero h.1
def encK (p : Int × Int) : AV := .tup [I p.1, errA p.2]
theorem errA_ne (e : Int) : binA Pg .neq 73 true (errA e) (.raw .nilIface) = some (B (!decide (e = 0))) := by
  by_cases h : e = 0
  · simp only [errA, if_pos h, h, n_nil']; rfl
  · simp only [errA, if_neg h, r_nil']; simp [h]
theorem c29_l (n : Nm) (b : Nat) (x : Ex) (H : Heap) (Q : Post) (hok : allX okX x) (hr : rightP x = true) (h1 : x.k ≠ 1) (h2 : x.k ≠ 2)
    (ih : ∀ y ∈ x.l, ∀ (H1 : Heap) (K : Post), HExt H H1 → (∀ H', HExt H1 H' → K (encK (kindX (fieldN n) y)) H') → E 29 [Pt b, encX y] H1 K) :
    ∀ (r pre : List Ex) (acc : List Int) (s : Nat) (nil : Bool) (tip : Tip) (H1 : Heap), x.l = pre ++ r → acc.length = pre.length → HExt H H1 → OwnS H H1 1 acc.length tip → (nil = true ∨ s = 1) →
    (∀ H', HExt H H' → Q (encK (match kindsX (fieldN n) r with | .error e => (0, e) | .ok vs => nodeK (fieldN n) x (acc ++ vs))) H') →
    f29_l25 (Pt b) (encC x) (encIs s nil tip acc) (encXs x.sz x.nil x.tip x.l) (I x.l.length) (I pre.length) H1 Q := by
  have hn : x.l.length ≤ 1099511627776 := ((allX_eq _ _).1 hok).1.1
  intro r
  induction r with
  | nil =>
    intro pre acc s nil tip H1 e hacc he ho hs hq
    have : (pre.length : Int) = x.l.length := by rw [e]; simp
    have hal : acc.length = x.l.length := by rw [e, hacc]; simp
    have p0 : (encC x)[0]? = some (I x.k) := by rw [encC_eq]; rfl
    have hlen := rightP_len hr h1 h2
    rw [f29_l25_eq, i_lss, ob_some, this]
    simp only [Int.lt_irrefl, decide_false, cnd_f]
    rw [part_f, p0, ob_some]
    refine ruled x.k s nil tip acc (by omega) (fun h => by omega) H1 Q (fun H' he' => ?_)
    have := hq H' (he.trans he')
    simp only [kindsX, List.append_nil, nodeK, if_neg h1, if_neg h2] at this
    by_cases hf : fitsK x.k acc = true
    · rw [if_pos hf] at this ⊢; exact this
    · rw [if_neg hf] at this ⊢; exact this
  | cons y r ihr =>
    intro pre acc s nil tip H1 e hacc he ho hs hq
    have hlt : pre.length < x.l.length := by rw [e]; simp
    have hlt' : (pre.length : Int) < x.l.length := by omega
    rw [f29_l25_eq, i_lss, ob_some, cnd_B, if_pos (by simpa using hlt'), ixX x.l x.sz x.nil x.tip pre r y e]
    simp only [ob_some, partX, szX, splX]
    refine ih y (by rw [e]; simp) H1 _ he (fun H2 he2 => ?_)
    simp only [encK, xt0, xt1, ob_some, errA_ne]
    refine cnd_intro (fun h => ?_) (fun h => ?_)
    · have := hq H2 (he.trans he2)
      have h0 : ¬ (kindX (fieldN n) y).2 = 0 := by simpa using h
      simp only [kindsX, if_neg h0] at this
      exact this
    · have h0 : (kindX (fieldN n) y).2 = 0 := by simpa using h
      rw [mk1 1 (I (kindX (fieldN n) y).1) (sz1_I _), ob_some]
      have ho2 : OwnS H H2 1 acc.length tip := by
        cases tip with
        | any => exact ho
        | full => trivial
        | tip b => exact ⟨((he2 b (fun hf => by have := ho.1; rw [hf.2] at this; cases this)).2).trans ho.1, ho.2⟩
      refine app_own (H0 := H) _ (he.trans he2) (by simpa using ho2) hs (by omega) (by simp; omega) (fun tip' H3 he3 ho3 => ?_)
      rw [i_add, ob_some, w64_succ hlt (by omega)]
      have := ihr (pre ++ [y]) (acc ++ [(kindX (fieldN n) y).1]) 1 false tip' H3 (by simp [e]) (by simp [hacc]) he3 (by simpa using ho3) (.inr rfl) (fun H' hx => by
        have := hq H' hx
        simp only [kindsX, if_pos h0] at this
        cases hsr : kindsX (fieldN n) r with
        | error e => rw [hsr] at this; exact this
        | ok vs => rw [hsr] at this; simp only [List.append_assoc, List.singleton_append]; exact this)
      rw [List.length_append, List.length_singleton, encIs, List.map_append] at this
      exact this
theorem c29 (n : Nm) (ok : n.Ok) (b : Nat) : ∀ (x : Ex), allX okX x → allR x = true → ∀ (H : Heap) (Q : Post), IsP H b n → (∀ H', HExt H H' → Q (encK (kindX (fieldN n) x)) H') → E 29 [Pt b, encX x] H Q := by
  intro x
  induction x using Ex.ind with
  | h x ih =>
    intro hok hr H Q ht hq
    rw [allR_eq, Bool.and_eq_true] at hr
    have p6 : (encC x)[6]? = some (encXs x.sz x.nil x.tip x.l) := by rw [encC_eq]; rfl
    have p0 : (encC x)[0]? = some (I x.k) := by rw [encC_eq]; rfl
    have p1 : (encC x)[1]? = some (I x.v.k) := by rw [encC_eq]; rfl
    have p4 : (encC x)[4]? = some (S x.var) := by rw [encC_eq]; rfl
    have p5 : (encC x)[5]? = some (S x.fld) := by rw [encC_eq]; rfl
    rw [f29_eq, szX, ob_some, part_f, p0, ob_some, i_eql, ob_some]
    refine cnd_intro (fun h1 => ?_) (fun h1 => ?_)
    · have h1 : x.k = 1 := by simpa using h1
      have := hq H (HExt.refl H)
      rw [kindX_eq, rightP_l0 hr.1 (.inl h1)] at this
      simp only [kindsX, nodeK, if_pos h1] at this
      rw [part_f, p1, ob_some]; exact this
    have h1 : ¬ x.k = 1 := by simpa using h1
    rw [i_eql, ob_some]
    refine cnd_intro (fun h2 => ?_) (fun h2 => ?_)
    · have h2 : x.k = 2 := by simpa using h2
      rw [part_f, p4, ob_some, part_f, p5, ob_some]
      refine c50 ht ok x.var x.fld _ (fun H' he => ?_)
      have := hq H' he
      rw [kindX_eq, rightP_l0 hr.1 (.inr h2)] at this
      simp only [kindsX, nodeK, if_neg h1, if_pos h2] at this
      simp only [xt0, xt1, ob_some]; exact this
    have h2 : ¬ x.k = 2 := by simpa using h2
    rw [part_f, p6, ob_some, lenX, ob_some]
    refine c29_l n b x H Q hok hr.1 h1 h2 (fun y hy H1 K he hk => ih y hy (allXs_mem ((allX_eq _ _).1 hok).2 hy) (allRs_mem hr.2 hy) H1 K (he.obj ht) hk) x.l [] [] 0 true .full H rfl rfl (HExt.refl H) trivial (.inl rfl) (fun H' he => ?_)
    have := hq H' he
    rw [kindX_eq] at this
    simpa using this
/-! ### The document's answer -/
def encN2 (p : Int × Int) : AV := .tup [I p.1, I p.2]
theorem rightP_k {x : Ex} (h : rightP x = true) : x.k = 1 ∨ x.k = 2 ∨ (3 ≤ x.k ∧ (x.k = 9 ∨ x.k = 10 → x.l.length = 2)) := by
  by_cases h1 : x.k = 1
  · exact .inl h1
  by_cases h2 : x.k = 2
  · exact .inr (.inl h2)
  have := rightP_len h h1 h2
  omega
theorem c40_t (n : Nm) (b : Nat) (x : Ex) (ok : n.Ok) (hr : rightP x = true) (s : Nat) (nil : Bool) (tip : Tip) (acc : List Int) (hacc : acc.length = x.l.length) (hn : x.l.length ≤ 1099511627776) (H : Heap) (Q : Post) (ht : IsR H b n)
    (hq : Q (encN2 (nodeK (fieldN n) x acc)) H) : f40_l8 (Pt b) (encC x) (encIs s nil tip acc) (I x.l.length) H Q := by
  have p6 : (encC x)[6]? = some (encXs x.sz x.nil x.tip x.l) := by rw [encC_eq]; rfl
  have p0 : (encC x)[0]? = some (I x.k) := by rw [encC_eq]; rfl
  have p1 : (encC x)[1]? = some (I x.v.k) := by rw [encC_eq]; rfl
  have p4 : (encC x)[4]? = some (S x.var) := by rw [encC_eq]; rfl
  have p5 : (encC x)[5]? = some (S x.fld) := by rw [encC_eq]; rfl
  have hk := rightP_k hr
  rw [nodeK] at hq
  rw [f40_l8_eq, part_f, p6, ob_some, lenX, ob_some, i_lss, ob_some]
  simp only [Int.lt_irrefl, decide_false, cnd_f]
  simp only [part_f, p0, p1, p4, p5, ob_some, i_eql, i_geq, i_leq]
  refine cnd_intro (fun h1 => ?_) (fun h1 => ?_)
  · have h1 : x.k = 1 := by simpa using h1
    rw [if_pos h1] at hq; exact hq
  have h1 : ¬ x.k = 1 := by simpa using h1
  rw [if_neg h1] at hq
  refine cnd_intro (fun h2 => ?_) (fun h2 => ?_)
  · have h2 : x.k = 2 := by simpa using h2
    rw [if_pos h2] at hq
    rw [c61 ht ok, xt0, ob_some, xt1, ob_some]; exact hq
  have h2 : ¬ x.k = 2 := by simpa using h2
  rw [if_neg h2] at hq
  have fin : ∀ (c : Bool) (o : Int), c = fitsK x.k acc → o = outK x.k → ob (unA .not (B c)) fun r => cndA r (Q (.tup [I 0, I 5]) H) (Q (.tup [I o, I 0]) H) := fun c o hc ho => by
    rw [← hc, ← ho] at hq
    cases c with
    | true => exact hq
    | false => exact hq
  have h3 : decide (3 ≤ x.k) = true := by simp; omega
  rw [h3, cnd_t]
  rw [f40_j49_eq]
  refine cnd_intro (fun h8 => ?_) (fun h8 => ?_)
  · have h8 : x.k ≤ 8 := by simpa using h8
    rw [c62 s nil tip acc (by omega)]
    exact fin _ _ (by simp [fitsK, h8]) (by simp [outK, h8])
  have h8 : ¬ x.k ≤ 8 := by simpa using h8
  have ho : (1 : Int) = outK x.k := by simp [outK, h8]
  have j55 : ∀ c : Bool, c = decide (x.k = 9 ∨ x.k = 10) → f40_j55 (encC x) (encIs s nil tip acc) (I 1) (B c) H Q := fun c hc => by
    rw [f40_j55_eq]
    refine cnd_intro (fun h => ?_) (fun h => ?_)
    · have h9 : x.k = 9 ∨ x.k = 10 := by rw [hc] at h; simpa using h
      have hl : acc.length = 2 := by rw [hacc]; omega
      have h10 : x.k ≤ 10 := by omega
      match acc, hl with
      | [a, b'], _ =>
        have i0 : ixaA 1 (encIs s nil tip [a, b']) (I 0) = some [I a] := rfl
        have i1 : ixaA 1 (encIs s nil tip [a, b']) (I 1) = some [I b'] := rfl
        simp only [i0, i1, ob_some, part_f, List.getElem?_cons_zero, i_eql]
        have hf : fitsK x.k [a, b'] = (decide (a = b') || (decide (a = 0) || decide (b' = 0))) := by simp [fitsK, h8, h10, alikeL]
        refine cnd_intro (fun h => ?_) (fun h => cnd_intro (fun h' => ?_) (fun h' => ?_))
        · exact fin true 1 (by rw [hf, h]; rfl) ho
        · exact fin true 1 (by rw [hf, h, h']; rfl) ho
        · exact fin _ 1 (by rw [hf, h, h']; rfl) ho
    · have h9 : ¬ (x.k = 9 ∨ x.k = 10) := by rw [hc] at h; simpa using h
      have h10 : ¬ x.k ≤ 10 := by omega
      have h11 : decide (11 ≤ x.k) = true := by simp; omega
      simp only [part_f, p0, ob_some, i_geq, i_leq, h11, cnd_t]
      rw [f40_j59_eq]
      refine cnd_intro (fun h => ?_) (fun h => ?_)
      · have h14 : x.k ≤ 14 := by simpa using h
        have hf : fitsK x.k acc = (allI 2 acc || allI 3 acc) := by simp [fitsK, h8, h10, h14]
        rw [c62 s nil tip acc (by omega)]
        refine cnd_intro (fun h => ?_) (fun h => ?_)
        · exact fin true 1 (by rw [hf, h]; rfl) ho
        · rw [c62 s nil tip acc (by omega)]
          exact fin _ 1 (by rw [hf, h]; rfl) ho
      · have h14 : ¬ x.k ≤ 14 := by simpa using h
        rw [c62 s nil tip acc (by omega)]
        exact fin _ 1 (by simp [fitsK, h8, h10, h14]) ho
  simp only [part_f, p0, ob_some, i_eql]
  refine cnd_intro (fun h => ?_) (fun h => ?_)
  · exact j55 true (by simp at h; simp [h])
  · exact j55 _ (by simp at h; simp [h])
theorem c40_l (n : Nm) (ok : n.Ok) (b : Nat) (x : Ex) (H : Heap) (Q : Post) (ht : IsR H b n) (hok : allX okX x) (hr : rightP x = true)
    (ih : ∀ y ∈ x.l, ∀ (H1 : Heap) (K : Post), HExt H H1 → (∀ H', HExt H1 H' → K (encN2 (kindX (fieldN n) y)) H') → E 40 [Pt b, encX y] H1 K) :
    ∀ (r pre : List Ex) (acc : List Int) (s : Nat) (nil : Bool) (tip : Tip) (H1 : Heap), x.l = pre ++ r → acc.length = pre.length → HExt H H1 → OwnS H H1 1 acc.length tip → (nil = true ∨ s = 1) →
    (∀ H', HExt H H' → Q (encN2 (match kindsX (fieldN n) r with | .error e => (0, e) | .ok vs => nodeK (fieldN n) x (acc ++ vs))) H') →
    f40_l8 (Pt b) (encC x) (encIs s nil tip acc) (I pre.length) H1 Q := by
  have hn : x.l.length ≤ 1099511627776 := ((allX_eq _ _).1 hok).1.1
  intro r
  induction r with
  | nil =>
    intro pre acc s nil tip H1 e hacc he ho hs hq
    have hpl : pre.length = x.l.length := by rw [e]; simp
    rw [hpl]
    refine c40_t n b x ok hr s nil tip acc (by omega) hn H1 Q (he.obj ht) ?_
    have := hq H1 he
    simpa only [kindsX, List.append_nil] using this
  | cons y r ihr =>
    intro pre acc s nil tip H1 e hacc he ho hs hq
    have hlt : pre.length < x.l.length := by rw [e]; simp
    have hlt' : (pre.length : Int) < x.l.length := by omega
    have p6 : (encC x)[6]? = some (encXs x.sz x.nil x.tip x.l) := by rw [encC_eq]; rfl
    rw [f40_l8_eq]
    simp only [part_f, p6, ob_some, lenX, i_lss]
    rw [cnd_B, if_pos (by simpa using hlt'), ixX x.l x.sz x.nil x.tip pre r y e]
    simp only [ob_some, partX]
    refine ih y (by rw [e]; simp) H1 _ he (fun H2 he2 => ?_)
    simp only [encN2, xt0, xt1, ob_some, i_neq]
    refine cnd_intro (fun h => ?_) (fun h => ?_)
    · have := hq H2 (he.trans he2)
      have h0 : ¬ (kindX (fieldN n) y).2 = 0 := by simpa using h
      simp only [kindsX, if_neg h0] at this
      exact this
    · have h0 : (kindX (fieldN n) y).2 = 0 := by simpa using h
      rw [mk1 1 (I (kindX (fieldN n) y).1) (sz1_I _), ob_some]
      have ho2 : OwnS H H2 1 acc.length tip := by
        cases tip with
        | any => exact ho
        | full => trivial
        | tip b => exact ⟨((he2 b (fun hf => by have := ho.1; rw [hf.2] at this; cases this)).2).trans ho.1, ho.2⟩
      refine app_own (H0 := H) _ (he.trans he2) (by simpa using ho2) hs (by omega) (by simp; omega) (fun tip' H3 he3 ho3 => ?_)
      rw [i_add, ob_some, w64_succ hlt (by omega)]
      have := ihr (pre ++ [y]) (acc ++ [(kindX (fieldN n) y).1]) 1 false tip' H3 (by simp [e]) (by simp [hacc]) he3 (by simpa using ho3) (.inr rfl) (fun H' hx => by
        have := hq H' hx
        simp only [kindsX, if_pos h0] at this
        cases hsr : kindsX (fieldN n) r with
        | error e => rw [hsr] at this; exact this
        | ok vs => rw [hsr] at this; simp only [List.append_assoc, List.singleton_append]; exact this)
      rw [List.length_append, List.length_singleton, encIs, List.map_append] at this
      exact this
theorem c40 (n : Nm) (ok : n.Ok) (b : Nat) : ∀ (x : Ex), allX okX x → allR x = true → ∀ (H : Heap) (Q : Post), IsR H b n → (∀ H', HExt H H' → Q (encN2 (kindX (fieldN n) x)) H') → E 40 [Pt b, encX x] H Q := by
  intro x
  induction x using Ex.ind with
  | h x ih =>
    intro hok hr H Q ht hq
    rw [allR_eq, Bool.and_eq_true] at hr
    rw [f40_eq, szX, ob_some]
    refine c40_l n ok b x H Q ht hok hr.1 (fun y hy H1 K he hk => ih y hy (allXs_mem ((allX_eq _ _).1 hok).2 hy) (allRs_mem hr.2 hy) H1 K (he.obj ht) hk) x.l [] [] 0 true .full H rfl rfl (HExt.refl H) trivial (.inl rfl) (fun H' he => ?_)
    have := hq H' he
    rw [kindX_eq] at this
    simpa using this
end Go.Hx
