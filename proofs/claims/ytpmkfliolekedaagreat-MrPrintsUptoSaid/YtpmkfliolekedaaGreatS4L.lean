/- Contracts of layer 12: is a pattern well made (the document's answer). Own work. -/
import Derived.Test.YtpmkfliolekedaaGreatS4K
set_option maxRecDepth 20000
namespace Go.Hx
/-! ### Where PNots stand -/
mutual
def notsT : Bool → Pa → Bool
  | w, .mk k _ _ _ _ _ _ _ l => notsTs k w none l
def notsTs : Int → Bool → Option Int → List Pa → Bool
  | _, _, _, [] => true
  | k, w, prev, y :: r => (if y.k = 6 then !(decide (k ≠ 2) || (decide (prev = none) || (decide (prev = some 6) || (r.isEmpty && !w)))) else notsT false y) && notsTs k w (some y.k) r
end
theorem notsT_eq (w : Bool) (x : Pa) : notsT w x = notsTs x.k w none x.l := by cases x; simp [notsT, Pa.l, Pa.k]
def lastK (l : List Pa) : Option Int := (l.getLast?).map Pa.k
theorem lastK_app (l : List Pa) (y : Pa) : lastK (l ++ [y]) = some y.k := by simp [lastK]
theorem lastK_ix (l : List Pa) (h : l ≠ []) : ∃ (pre : List Pa) (z : Pa), l = pre ++ [z] ∧ lastK l = some z.k := by
  refine ⟨l.dropLast, l.getLast h, (List.dropLast_concat_getLast h).symm, ?_⟩
  simp [lastK, List.getLast?_eq_some_getLast h]
theorem c104 (x : Pa) : allT okT x → ∀ (w : Bool) (H : Heap) (Q : Post), E 104 [encT x, B w] H Q = Q (B (notsT w x)) H := by
  induction x using Pa.ind with
  | h x ih =>
    intro hok w H Q
    have hok' := (allT_eq _ _).1 hok
    have hn := hok'.1.1
    have loop : ∀ (r pre : List Pa), x.l = pre ++ r → f104_l6 (B w) (encTC x) (I pre.length) H Q = Q (B (notsTs x.k w (lastK pre) r)) H := by
      intro r
      induction r with
      | nil =>
        intro pre e
        have h1 : (pre.length : Int) = x.l.length := by rw [e]; simp
        rw [f104_l6_eq, part_f, p5T, ob_some, lenT, ob_some, i_lss, ob_some, cnd_B, h1]
        simp [notsTs]
      | cons y r ihr =>
        intro pre e
        have hlt : pre.length < x.l.length := by rw [e]; simp
        have hlt' : (pre.length : Int) < x.l.length := by omega
        have hy := ih y (by rw [e]; simp) (allTs_mem hok'.2 (by rw [e]; simp)) false H
        have ih2 := ihr (pre ++ [y]) (by simp [e])
        rw [List.length_append, List.length_singleton, lastK_app] at ih2
        have i1 := ixT x.l x.sz x.nil x.tip pre r y e
        have hlast : decide ((pre.length : Int) = W64 ((x.l.length : Int) - 1)) = r.isEmpty := by
          rw [w64_id (by omega) (by omega)]
          have : x.l.length = pre.length + (r.length + 1) := by rw [e]; simp
          cases r with
          | nil => simp at this ⊢; omega
          | cons z r => simp at this ⊢; omega
        have hj : ∀ b : Bool, f104_j22 (B w) (encTC x) (I pre.length) (B b) H Q = Q (B (!b && notsTs x.k w (some y.k) r)) H := fun b => by
          rw [f104_j22_eq, cnd_B, i_add, ob_some, w64_succ hlt (by omega), ih2]
          cases b <;> rfl
        rw [f104_l6_eq, part_f, p5T, ob_some, lenT, ob_some, i_lss, ob_some, cnd_B, if_pos (by simpa using hlt')]
        simp only [part_f, p5T, ob_some, i1, partT, szT, splT, p0T, i_eql, i_neq, hy, not_B, i_add, w64_succ hlt (show x.l.length ≤ 1152921504606846976 by omega), ih2, f104_c6_7a_eq, f104_c6_7b_eq, f104_c6_17a_eq, f104_c6_17b_eq, f104_c6_28a_eq, f104_c6_28b_eq, f104_c6_28c_eq, hj, lenT, i_sub, cnd_B, hlast, notsTs]
        by_cases h6 : y.k = 6
        · simp only [h6, decide_true, if_true]
          by_cases h2 : x.k = 2
          · cases hp : pre with
            | nil =>
              simp [h2, lastK]
            | cons p0 pr =>
              obtain ⟨pre2, z, e2, hz⟩ := lastK_ix pre (by rw [hp]; simp)
              rw [← hp, hz]
              have hpl : pre.length = pre2.length + 1 := by rw [e2]; simp
              have hne : ¬ (pre.length : Int) = 0 := by omega
              have hs : W64 ((pre.length : Int) - 1) = (pre2.length : Int) := by rw [w64_id (by omega) (by omega)]; omega
              have i3 := ixT x.l x.sz x.nil x.tip pre2 (y :: r) z (by rw [e, e2]; simp)
              have p0' : ((encTC z).drop 0)[0]? = some (I z.k) := p0T z
              simp only [h2, decide_true, Bool.not_true, Bool.false_eq_true, if_false, hne, decide_false, hs, i3, ob_some, part_f, p0', i_eql, cnd_B, ne_eq, not_true, Bool.false_or, reduceCtorEq, Option.some.injEq]
              by_cases hz6 : z.k = 6
              · simp [hz6]
              · cases hr : r.isEmpty
                · simp [hz6]
                · simp [hz6]
          · simp [h2]
        · simp only [h6, decide_false, Bool.false_eq_true, if_false]
          cases notsT false y <;> simp
    rw [f104_eq, szT, ob_some, notsT_eq]
    exact loop x.l [] rfl
/-! ### Uses -/
structure Us where
  var : ByteArray
  typ : ByteArray
  k : Int
def encU (u : Us) : AV := .agg [S u.var, S u.typ, I u.k]
theorem szU (u : Us) : sizedA 3 (encU u) = some [S u.var, S u.typ, I u.k] := rfl
theorem partU (u : Us) : partA true 0 3 [S u.var, S u.typ, I u.k] = some (encU u) := rfl
mutual
def usesT : Pa → List Us
  | .mk k var typ _ _ _ _ _ l => (if isLeafT k = true then [⟨var, typ, k⟩] else []) ++ usesTs l
def usesTs : List Pa → List Us
  | [] => []
  | y :: r => usesT y ++ usesTs r
end
theorem usesT_eq (x : Pa) : usesT x = (if isLeafT x.k = true then [⟨x.var, x.typ, x.k⟩] else []) ++ usesTs x.l := by cases x; rw [usesT]; rfl
theorem usesTs_app (l r : List Pa) : usesTs (l ++ r) = usesTs l ++ usesTs r := by
  induction l with
  | nil => rfl
  | cons y l ih => simp only [List.cons_append, usesTs, ih, List.append_assoc]
theorem uses_len (x : Pa) : (usesT x).length ≤ sizeT x := by
  induction x using Pa.ind with
  | h x ih =>
    rw [usesT_eq, sizeT_eq, List.length_append]
    have : ∀ r : List Pa, (∀ y ∈ r, y ∈ x.l) → (usesTs r).length ≤ sizeTs r := by
      intro r
      induction r with
      | nil => intro _; simp [usesTs]
      | cons y r ihr =>
        intro hy
        have := ih y (hy y (by simp))
        have := ihr (fun z hz => hy z (by simp [hz]))
        simp only [usesTs, sizeTs, List.length_append]; omega
    have := this x.l (fun _ h => h)
    split <;> simp <;> omega
theorem OwnS.ext {H0 H H' : Heap} {sz n : Nat} {tip : Tip} (h : OwnS H0 H sz n tip) (he : HExt H H') : OwnS H0 H' sz n tip := by
  cases tip with
  | any => exact h
  | full => exact h
  | tip b =>
    refine ⟨?_, h.2⟩
    have h1 := h.1
    rw [(he b (fun hf => by rw [hf.2] at h1; cases h1)).2.1]; exact h1
theorem app_many {H0 H : Heap} {sz sz' bytes s2 : Nat} {nil nil2 : Bool} {tip tip2 : Tip} {xs ys : List AV} {K : Post} (he : HExt H0 H) (ho : OwnS H0 H sz xs.length tip) (hs : nil = true ∨ sz' = sz) (hs2 : nil2 = true ∨ s2 = sz) (h1 : 1 ≤ sz)
    (hb : (xs.length + ys.length) * bytes ≤ 140737488355328) (hk : ∀ s' n' tip' H', (n' = true ∨ s' = sz) → HExt H0 H' → OwnS H0 H' sz (xs ++ ys).length tip' → K (.sl s' n' tip' (xs ++ ys)) H') :
    appA sz bytes (.sl sz' nil tip xs) (.sl s2 nil2 tip2 ys) H K := by
  have ht : tailA sz (.sl s2 nil2 tip2 ys) = some ys := by simp [tailA, hs2]
  unfold appA
  simp only [ht]
  cases ys with
  | nil => have := hk sz' nil tip H hs he (by simpa using ho); simpa using this
  | cons y ys =>
    refine ⟨hs, h1, hb, ?_⟩
    cases tip with
    | any => exact ho.elim
    | full =>
      intro b hf
      exact hk sz false _ _ (.inr rfl) (he.setTip (he.fresh hf) _) ⟨by simp [Heap.setTip], he.fresh hf⟩
    | tip b0 =>
      refine ⟨ho.1, fun b hf => ?_⟩
      have hf0 : H0.fresh b := by
        rcases hf with rfl | hf
        · exact ho.2
        · exact he.fresh hf
      exact hk sz false _ _ (.inr rfl) (he.setTip hf0 _) ⟨by simp [Heap.setTip], hf0⟩
theorem c79 (x : Pa) : allT okT x → sizeT x ≤ 1099511627776 → ∀ (H : Heap) (Q : Post), (∀ s n t H', (n = true ∨ s = 3) → HExt H H' → Q (.sl s n t ((usesT x).map encU)) H') → E 79 [encT x] H Q := by
  induction x using Pa.ind with
  | h x ih =>
    intro hok hsz H Q hq
    have hok' := (allT_eq _ _).1 hok
    have hn := hok'.1.1
    have hsz' := hsz
    rw [sizeT_eq] at hsz'
    have hul := uses_len x
    rw [usesT_eq] at hq hul
    have loop : ∀ (r pre : List Pa) (us : List Us) (s : Nat) (n : Bool) (t : Tip) (H1 : Heap), x.l = pre ++ r → (us ++ usesTs r).length ≤ 1099511627776 → (n = true ∨ s = 3) → HExt H H1 → OwnS H H1 3 (us.map encU).length t →
        (∀ s n t H', (n = true ∨ s = 3) → HExt H H' → Q (.sl s n t ((us ++ usesTs r).map encU)) H') → f79_l14 (encTC x) (.sl s n t (us.map encU)) (I pre.length) H1 Q := by
      intro r
      induction r with
      | nil =>
        intro pre us s n t H1 e hl hs he ho hq
        have h1 : (pre.length : Int) = x.l.length := by rw [e]; simp
        rw [f79_l14_eq, part_f, p5T, ob_some, lenT, ob_some, i_lss, ob_some, cnd_B, h1]
        simp only [Int.lt_irrefl, decide_false, Bool.false_eq_true, if_false]
        simpa [usesTs] using hq s n t H1 hs he
      | cons y r ihr =>
        intro pre us s n t H1 e hl hs he ho hq
        have hlt : pre.length < x.l.length := by rw [e]; simp
        have hlt' : (pre.length : Int) < x.l.length := by omega
        have hsy : sizeT y ≤ sizeTs x.l := by rw [e, sizeTs_append]; simp only [sizeTs]; omega
        rw [f79_l14_eq, part_f, p5T, ob_some, lenT, ob_some, i_lss, ob_some, cnd_B, if_pos (by simpa using hlt'), ob_some, ixT x.l x.sz x.nil x.tip pre r y e, ob_some, partT, ob_some]
        refine ih y (by rw [e]; simp) (allTs_mem hok'.2 (by rw [e]; simp)) (by omega) H1 _ (fun s2 n2 t2 H2 hs2 e2 => ?_)
        simp only [usesTs, List.length_append] at hl
        refine app_many (H0 := H) (he.trans e2) (ho.ext e2) hs hs2 (by omega) (by simp only [List.length_map]; omega) (fun s3 n3 t3 H3 hs3 e3 ho3 => ?_)
        rw [i_add, ob_some, w64_succ hlt (by omega)]
        have := ihr (pre ++ [y]) (us ++ usesT y) s3 n3 t3 H3 (by simp [e]) (by simp only [List.length_append]; omega) hs3 e3 (by rw [List.map_append]; exact ho3) (fun s n t H' h1 h2 => by
          have := hq s n t H' h1 h2
          simpa only [usesTs, List.append_assoc] using this)
        rw [List.length_append, List.length_singleton, List.map_append] at this
        exact this
    have go : f79_j7 (encTC x) (AV.sl 0 true .full []) (B (isLeafT x.k)) H Q := by
      rw [f79_j7_eq]
      refine cnd_intro (fun h => ?_) (fun h => ?_)
      · rw [if_pos h] at hq hul
        have hb : bldA [(0, 1, S x.var), (1, 1, S x.typ), (2, 1, I x.k)] [S e0, S e0, I 0] = some (encU ⟨x.var, x.typ, x.k⟩) := rfl
        simp only [part_f, p0T, p1T, p2T, ob_some, hb, mk1 3 _ (szU _)]
        have := app_own (H0 := H) (H := H) (sz := 3) (sz' := 0) (bytes := 40) (nil := true) (tip := .full) (xs := []) (encU ⟨x.var, x.typ, x.k⟩) (K := fun r13 H14 => f79_l14 (encTC x) r13 (I 0) H14 Q)
          (HExt.refl H) trivial (.inl rfl) (by omega) (by simp) (fun t' H1 e1 ho1 => loop x.l [] [⟨x.var, x.typ, x.k⟩] 3 false t' H1 rfl (by omega) (.inr rfl) e1 ho1 hq)
        exact this
      · rw [if_neg (by rw [h]; simp)] at hq hul
        exact loop x.l [] [] 0 true .full H rfl (by omega) (.inl rfl) (HExt.refl H) trivial hq
    simp only [f79_eq, szT, ob_some, part_f, p0T, i_eql]
    simp only [isLeafT] at go
    by_cases h1 : x.k = 1
    · simp only [h1, decide_true, Bool.true_or, cnd_t] at go ⊢; exact go
    · by_cases h5 : x.k = 5
      · simp only [h5, decide_true, Bool.true_or, Bool.or_true, cnd_t] at go ⊢
        have : decide ((5 : Int) = 1) = false := rfl
        simp only [this, cnd_f]; exact go
      · simp only [h1, h5, decide_false, Bool.false_or, cnd_f] at go ⊢; exact go
/-! ### Each Var once -/
def agreeU (a b : Us) : Bool := decide (a.typ = b.typ) && (decide (a.k = 6) == decide (b.k = 6))
theorem c143 (a b : Us) (H : Heap) (Q : Post) : E 143 [encU a, encU b] H Q = Q (B (agreeU a b)) H := by
  simp only [f143_eq, f143_j4_eq, szU, ob_some, part_f, List.getElem?_cons_zero, List.getElem?_cons_succ, s_eql, i_eql, b_eql 4 false u4, cnd_B, decide_eq_true_eq, agreeU]
  by_cases h : a.typ = b.typ <;> simp [h]
def clash (k : Int) (a b : Us) : Bool := decide (a.var = b.var) && !(decide (k = 4) && agreeU a b)
def clashes (k : Int) (prev us : List Us) : Bool := us.any fun a => prev.any fun b => clash k a b
mutual
def onceT : Pa → Bool
  | .mk k _ _ _ _ _ _ _ l => onceTs k [] l
def onceTs : Int → List Us → List Pa → Bool
  | _, _, [] => true
  | k, prev, y :: r => onceT y && (!clashes k prev (usesT y) && onceTs k (prev ++ usesT y) r)
end
theorem onceT_eq (x : Pa) : onceT x = onceTs x.k [] x.l := by cases x; simp [onceT, Pa.l, Pa.k]
theorem clashes_app (k : Int) (p1 p2 us : List Us) : clashes k (p1 ++ p2) us = (clashes k p1 us || clashes k p2 us) := by
  induction us with
  | nil => rfl
  | cons a r ih =>
    simp only [clashes, List.any_cons, List.any_append] at ih ⊢
    rw [ih]
    cases (p1.any fun b => clash k a b) <;> cases (p2.any fun b => clash k a b) <;> cases (r.any fun a => p1.any fun b => clash k a b) <;> simp
theorem c105 (x : Pa) : allT okT x → sizeT x ≤ 1099511627776 → ∀ (H : Heap) (Q : Post), (∀ H', HExt H H' → Q (B (onceT x)) H') → E 105 [encT x] H Q := by
  induction x using Pa.ind with
  | h x ih =>
    intro hok hsz H Q hq
    have hok' := (allT_eq _ _).1 hok
    have hn := hok'.1.1
    have hsz' := hsz
    rw [sizeT_eq] at hsz'
    rw [onceT_eq] at hq
    have hx : ∀ y ∈ x.l, sizeT y ≤ 1099511627776 := fun y hy => by
      obtain ⟨p, r, e⟩ := List.append_of_mem hy
      have : sizeT y ≤ sizeTs x.l := by rw [e, sizeTs_append]; simp only [sizeTs]; omega
      omega
    have ixU : ∀ (s : Nat) (n : Bool) (t : Tip) (us pre r : List Us) (a : Us), us = pre ++ a :: r → ixaA 3 (.sl s n t (us.map encU)) (I pre.length) = some [S a.var, S a.typ, I a.k] := fun s n t us pre r a e =>
      ix_mk 3 n t _ pre.length (x := encU a) (by rw [e]; exact get_mid encU pre r a) (szU a)
    have d0 : ∀ a : Us, ([S a.var, S a.typ, I a.k].drop 0)[0]? = some (S a.var) := fun _ => rfl
    -- the innermost round
    have l54 : ∀ (H : Heap) (i k : Nat) (s1 s2 : Nat) (n1 n2 : Bool) (t1 t2 : Tip) (xa pa ra bs : List Us) (a : Us), xa = pa ++ a :: ra → xa.length ≤ 1099511627776 → bs.length ≤ 1099511627776 → ∀ (r pre : List Us), bs = pre ++ r →
        f105_l54 (encTC x) (I i) (.sl s1 n1 t1 (xa.map encU)) (I k) (.sl s2 n2 t2 (bs.map encU)) (I pa.length) (I pre.length) H Q =
        if (r.any fun b => clash x.k a b) = true then Q (B false) H else f105_l42 (encTC x) (I i) (.sl s1 n1 t1 (xa.map encU)) (I k) (.sl s2 n2 t2 (bs.map encU)) (I ((pa.length + 1 : Nat) : Int)) H Q := by
      intro H i k s1 s2 n1 n2 t1 t2 xa pa ra bs a ea hla hlb r
      have hpa : pa.length < xa.length := by rw [ea]; simp
      induction r with
      | nil =>
        intro pre e
        have h1 : (pre.length : Int) = bs.length := by rw [e]; simp
        rw [f105_l54_eq, len_sl, ob_some, i_lss, ob_some, cnd_B, List.length_map, h1]
        simp only [Int.lt_irrefl, decide_false, Bool.false_eq_true, if_false, i_add, ob_some, w64_succ hpa (show xa.length ≤ 1152921504606846976 by omega), List.any_nil]
      | cons b r ihr =>
        intro pre e
        have hlt : pre.length < bs.length := by rw [e]; simp
        have hlt' : (pre.length : Int) < bs.length := by omega
        have ih2 := ihr (pre ++ [b]) (by simp [e])
        rw [List.length_append, List.length_singleton] at ih2
        have hj : ∀ c : Bool, f105_j65 (encTC x) (I i) (.sl s1 n1 t1 (xa.map encU)) (I k) (.sl s2 n2 t2 (bs.map encU)) (I pa.length) (I pre.length) (B c) H Q =
            if c = true then Q (B false) H else if (r.any fun b => clash x.k a b) = true then Q (B false) H else f105_l42 (encTC x) (I i) (.sl s1 n1 t1 (xa.map encU)) (I k) (.sl s2 n2 t2 (bs.map encU)) (I ((pa.length + 1 : Nat) : Int)) H Q := fun c => by
          rw [f105_j65_eq, cnd_B, i_add, ob_some, w64_succ hlt (by omega), ih2]
        have hcl : clash x.k a b = (decide (a.var = b.var) && !(decide (x.k = 4) && agreeU a b)) := rfl
        rw [f105_l54_eq, len_sl, ob_some, i_lss, ob_some, cnd_B, List.length_map, if_pos (by simpa using hlt')]
        simp only [ixU s1 n1 t1 xa pa ra a ea, ixU s2 n2 t2 bs pre r b e, ob_some, part_f, d0, s_eql, p0T, i_neq, partU, c143, not_B, hj, cnd_B, List.any_cons, hcl]
        by_cases hv : a.var = b.var
        · by_cases h4 : x.k = 4
          · cases agreeU a b <;> simp [hv, h4]
          · simp [hv, h4]
        · simp [hv]
    have l42 : ∀ (H : Heap) (i k : Nat) (s1 s2 : Nat) (n1 n2 : Bool) (t1 t2 : Tip) (xa bs : List Us), xa.length ≤ 1099511627776 → bs.length ≤ 1099511627776 → k < 1099511627776 → ∀ (r pre : List Us), xa = pre ++ r →
        f105_l42 (encTC x) (I i) (.sl s1 n1 t1 (xa.map encU)) (I k) (.sl s2 n2 t2 (bs.map encU)) (I pre.length) H Q =
        if clashes x.k bs r = true then Q (B false) H else f105_l28 (encTC x) (I i) (.sl s1 n1 t1 (xa.map encU)) (I ((k + 1 : Nat) : Int)) H Q := by
      intro H i k s1 s2 n1 n2 t1 t2 xa bs hla hlb hk r
      induction r with
      | nil =>
        intro pre e
        have h1 : (pre.length : Int) = xa.length := by rw [e]; simp
        rw [f105_l42_eq, len_sl, ob_some, i_lss, ob_some, cnd_B, List.length_map, h1]
        simp only [Int.lt_irrefl, decide_false, Bool.false_eq_true, if_false, i_add, ob_some, w64_succ hk (show 1099511627776 ≤ 1152921504606846976 by omega), clashes, List.any_nil]
      | cons a r ihr =>
        intro pre e
        have hlt : pre.length < xa.length := by rw [e]; simp
        have hlt' : (pre.length : Int) < xa.length := by omega
        have ih2 := ihr (pre ++ [a]) (by simp [e])
        rw [List.length_append, List.length_singleton] at ih2
        have h0 : f105_l54 (encTC x) (I i) (.sl s1 n1 t1 (xa.map encU)) (I k) (.sl s2 n2 t2 (bs.map encU)) (I pre.length) (I 0) H Q = _ := l54 H i k s1 s2 n1 n2 t1 t2 xa pre r bs a e hla hlb bs [] rfl
        rw [f105_l42_eq, len_sl, ob_some, i_lss, ob_some, cnd_B, List.length_map, if_pos (by simpa using hlt'), h0, ih2]
        simp only [clashes, List.any_cons, Bool.or_eq_true]
        by_cases h : (bs.any fun b => clash x.k a b) = true
        · simp [h]
        · simp [h]
    have l28 : ∀ (pre r0 : List Pa) (y : Pa), x.l = pre ++ y :: r0 → ∀ (s1 : Nat) (n1 : Bool) (t1 : Tip) (r2 pre2 : List Pa) (H1 : Heap), pre = pre2 ++ r2 → HExt H H1 →
        (clashes x.k (usesTs r2) (usesT y) = true → ∀ H', HExt H H' → Q (B false) H') → (clashes x.k (usesTs r2) (usesT y) = false → ∀ H', HExt H H' → f105_l6 (encTC x) (I ((pre.length + 1 : Nat) : Int)) H' Q) →
        f105_l28 (encTC x) (I pre.length) (.sl s1 n1 t1 ((usesT y).map encU)) (I pre2.length) H1 Q := by
      intro pre r0 y e s1 n1 t1 r2
      have hy := hx y (by rw [e]; simp)
      have huy := uses_len y
      have hpl : pre.length < x.l.length := by rw [e]; simp
      induction r2 with
      | nil =>
        intro pre2 H1 e2 he _ h2
        have h1 : (pre2.length : Int) = pre.length := by rw [e2]; simp
        rw [f105_l28_eq, i_lss, ob_some, cnd_B, h1]
        simp only [Int.lt_irrefl, decide_false, Bool.false_eq_true, if_false, i_add, ob_some, w64_succ hpl (show x.l.length ≤ 1152921504606846976 by omega)]
        refine h2 ?_ H1 he
        simp [usesTs, clashes]
      | cons z r2 ihr =>
        intro pre2 H1 e2 he h1 h2
        have hlt : pre2.length < pre.length := by rw [e2]; simp
        have hlt' : (pre2.length : Int) < pre.length := by omega
        have e3 : x.l = pre2 ++ z :: (r2 ++ y :: r0) := by rw [e, e2]; simp
        rw [f105_l28_eq, i_lss, ob_some, cnd_B, if_pos (by simpa using hlt'), part_f, p5T, ob_some, ixT x.l x.sz x.nil x.tip pre2 _ z e3, ob_some, partT, ob_some]
        have hz := hx z (by rw [e3]; simp)
        have huz := uses_len z
        refine c79 z (allTs_mem hok'.2 (by rw [e3]; simp)) hz H1 _ (fun s n t H2 hs e4 => ?_)
        have h0 : f105_l42 (encTC x) (I pre.length) (.sl s1 n1 t1 ((usesT y).map encU)) (I pre2.length) (.sl s n t ((usesT z).map encU)) (I 0) H2 Q = _ :=
          l42 H2 pre.length pre2.length s1 s n1 n t1 t (usesT y) (usesT z) (by omega) (by omega) (by omega) (usesT y) [] rfl
        rw [h0]
        simp only [usesTs, clashes_app, Bool.or_eq_true, Bool.or_eq_false_iff] at h1 h2
        split
        · rename_i hc; exact h1 (.inl hc) H2 (he.trans e4)
        · rename_i hc
          have := ihr (pre2 ++ [z]) H2 (by simp [e2]) (he.trans e4) (fun h => h1 (.inr h)) (fun h => h2 ⟨by simpa using hc, h⟩)
          rw [List.length_append, List.length_singleton] at this
          exact this
    have loop : ∀ (r pre : List Pa) (H1 : Heap), x.l = pre ++ r → HExt H H1 → (∀ H', HExt H H' → Q (B (onceTs x.k (usesTs pre) r)) H') → f105_l6 (encTC x) (I pre.length) H1 Q := by
      intro r
      induction r with
      | nil =>
        intro pre H1 e he hq
        have h1 : (pre.length : Int) = x.l.length := by rw [e]; simp
        rw [f105_l6_eq, part_f, p5T, ob_some, lenT, ob_some, i_lss, ob_some, cnd_B, h1]
        simp only [Int.lt_irrefl, decide_false, Bool.false_eq_true, if_false]
        exact hq H1 he
      | cons y r ihr =>
        intro pre H1 e he hq
        have hlt : pre.length < x.l.length := by rw [e]; simp
        have hlt' : (pre.length : Int) < x.l.length := by omega
        have hym : y ∈ x.l := by rw [e]; simp
        simp only [onceTs] at hq
        rw [f105_l6_eq, part_f, p5T, ob_some, lenT, ob_some, i_lss, ob_some, cnd_B, if_pos (by simpa using hlt'), ob_some, ixT x.l x.sz x.nil x.tip pre r y e, ob_some, partT, ob_some]
        refine ih y hym (allTs_mem hok'.2 hym) (hx y hym) H1 _ (fun H2 e2 => ?_)
        rw [not_B, ob_some]
        refine cnd_intro (fun h => ?_) (fun h => ?_)
        · have := hq H2 (he.trans e2)
          rw [show onceT y = false by simpa using h, Bool.false_and] at this
          exact this
        · have h : onceT y = true := by simpa using h
          simp only [h, Bool.true_and] at hq
          simp only [ob_some, ixT x.l x.sz x.nil x.tip pre r y e, partT]
          refine c79 y (allTs_mem hok'.2 hym) (hx y hym) H2 _ (fun s n t H3 hs e3 => ?_)
          refine l28 pre r y e s n t pre [] H3 rfl ((he.trans e2).trans e3) (fun hc H' h' => ?_) (fun hc H' h' => ?_)
          · have := hq H' h'
            rw [hc] at this; exact this
          · have := ihr (pre ++ [y]) H' (by simp [e]) h' (fun H'' h'' => by
              have := hq H'' h''
              rw [hc] at this
              simpa [usesTs_app, usesTs] using this)
            rw [List.length_append, List.length_singleton] at this
            exact this
    rw [f105_eq, szT, ob_some]
    exact loop x.l [] H rfl (HExt.refl H) hq
def madeT (x : Pa) : Bool := decide (x.k ≠ 6) && (notsT true x && onceT x)
def madeP (x : Pa) : Int := if checkT x ≠ 0 then checkT x else if madeT x = true then 0 else 4
theorem c69 (x : Pa) (hok : allT okT x) (hs : sizeT x ≤ 1099511627776) (H : Heap) (Q : Post) (hq : ∀ H', HExt H H' → Q (I (madeP x)) H') : E 69 [encT x] H Q := by
  have j15 : ∀ (b : Bool) (H' : Heap), HExt H H' → checkT x = 0 → b = !madeT x → f69_j15 (B b) H' Q := fun b H' he hc hb => by
    have := hq H' he
    simp only [madeP, hc, ne_eq, not_true, if_false] at this
    rw [f69_j15_eq]
    refine cnd_intro (fun h => ?_) (fun h => ?_)
    · rw [if_neg (by rw [h] at hb; simpa using hb.symm)] at this; exact this
    · rw [if_pos (by rw [h] at hb; simpa using hb.symm)] at this; exact this
  rw [f69_eq, szT, ob_some, partT, ob_some, c101 x hok (by omega), i_neq, ob_some]
  refine cnd_intro (fun h => ?_) (fun h => ?_)
  · have := hq H (HExt.refl H)
    rw [madeP, if_pos (by simpa using h)] at this
    exact this
  have hc : checkT x = 0 := by simpa using h
  simp only [part_f, p0T, ob_some, i_eql, partT, c104 x hok, not_B]
  refine cnd_intro (fun h => j15 true H (HExt.refl H) hc (by simp at h; simp [madeT, h])) (fun h6 => cnd_intro (fun h => j15 true H (HExt.refl H) hc (by simp at h; simp [madeT, h])) (fun hnn => ?_))
  refine c105 x hok hs H _ (fun H1 e1 => ?_)
  rw [not_B, ob_some]
  exact j15 _ H1 e1 hc (by
    have h6' : ¬ x.k = 6 := by simpa using h6
    have hn' : notsT true x = true := by simpa using hnn
    simp [madeT, h6', hn'])
end Go.Hx
