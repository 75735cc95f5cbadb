/- Contracts of layer 12: is a pattern well made (the program's answer). Own work. -/
import Derived.Test.YtpmkfliolekedaaGreatS4L
set_option maxRecDepth 20000
namespace Go.Hx
theorem c136 (x : Pa) : allT okT x → ∀ (w : Bool) (H : Heap) (Q : Post), E 136 [encT x, B w] H Q = Q (B (notsT w x)) H := by
  induction x using Pa.ind with
  | h x ih =>
    intro hok w H Q
    have hok' := (allT_eq _ _).1 hok
    have hn := hok'.1.1
    have loop : ∀ (r pre : List Pa), x.l = pre ++ r → f136_l6 (B w) (encTC x) (encTs x.sz x.nil x.tip x.l) (I x.l.length) (I pre.length) H Q = Q (B (notsTs x.k w (lastK pre) r)) H := by
      intro r
      induction r with
      | nil =>
        intro pre e
        have h1 : (pre.length : Int) = x.l.length := by rw [e]; simp
        rw [f136_l6_eq, i_lss, ob_some, cnd_B, h1]
        simp [notsTs]
      | cons y r ihr =>
        intro pre e
        have hlt : pre.length < x.l.length := by rw [e]; simp
        have hlt' : (pre.length : Int) < x.l.length := by omega
        have hy := ih y (by rw [e]; simp) (allTs_mem hok'.2 (by rw [e]; simp)) false H
        have ih2 := ihr (pre ++ [y]) (by simp [e])
        rw [List.length_append, List.length_singleton, lastK_app] at ih2
        have i1 := ixT x.l x.sz x.nil x.tip pre r y e
        have hlast : decide ((pre.length : Int) = W64 ((x.l.length : Int) - 1)) = r.isEmpty := by
          rw [w64_id (by omega) (by omega)]
          have : x.l.length = pre.length + (r.length + 1) := by rw [e]; simp
          cases r with
          | nil => simp at this ⊢; omega
          | cons z r => simp at this ⊢; omega
        have hj : ∀ b : Bool, f136_j35 (B w) (encTC x) (encTs x.sz x.nil x.tip x.l) (I x.l.length) (I pre.length) (B b) H Q = Q (B (!b && notsTs x.k w (some y.k) r)) H := fun b => by
          rw [f136_j35_eq, cnd_B, i_add, ob_some, w64_succ hlt (by omega), ih2]
          cases b <;> rfl
        rw [f136_l6_eq, i_lss, ob_some, cnd_B, if_pos (by simpa using hlt')]
        simp only [part_f, p5T, ob_some, i1, partT, szT, splT, p0T, i_eql, i_neq, hy, not_B, i_add, w64_succ hlt (show x.l.length ≤ 1152921504606846976 by omega), ih2, f136_c8_7a_eq, f136_c8_7b_eq, f136_c8_17a_eq, f136_c8_17b_eq, f136_c8_23a_eq, f136_c8_23b_eq, f136_c8_23c_eq, hj, lenT, i_sub, cnd_B, hlast, notsTs]
        by_cases h6 : y.k = 6
        · simp only [h6, decide_true, Bool.not_true, Bool.false_eq_true, if_false, if_true]
          by_cases h2 : x.k = 2
          · cases hp : pre with
            | nil =>
              simp [h2, lastK]
            | cons p0 pr =>
              obtain ⟨pre2, z, e2, hz⟩ := lastK_ix pre (by rw [hp]; simp)
              rw [← hp, hz]
              have hpl : pre.length = pre2.length + 1 := by rw [e2]; simp
              have hne : ¬ (pre.length : Int) = 0 := by omega
              have hs : W64 ((pre.length : Int) - 1) = (pre2.length : Int) := by rw [w64_id (by omega) (by omega)]; omega
              have i3 := ixT x.l x.sz x.nil x.tip pre2 (y :: r) z (by rw [e, e2]; simp)
              have p0' : ((encTC z).drop 0)[0]? = some (I z.k) := p0T z
              simp only [h2, decide_true, Bool.not_true, Bool.false_eq_true, if_false, hne, decide_false, hs, i3, ob_some, part_f, p0', i_eql, cnd_B, ne_eq, not_true, Bool.false_or, reduceCtorEq, Option.some.injEq]
              by_cases hz6 : z.k = 6
              · simp [hz6]
              · cases hr : r.isEmpty
                · simp [hz6]
                · simp [hz6]
          · simp [h2]
        · simp only [h6, decide_false, Bool.not_false, if_true, if_false]
          cases notsT false y <;> simp
    rw [f136_eq, szT, ob_some, part_f, p5T, ob_some, lenT, ob_some, notsT_eq]
    exact loop x.l [] rfl
def useOf (x : Pa) : Us := ⟨x.var, x.typ, x.k⟩
theorem c179 (a b : Pa) (H : Heap) (Q : Post) : E 179 [encT a, encT b] H Q = Q (B (agreeU (useOf a) (useOf b))) H := by
  simp only [f179_eq, f179_j4_eq, szT, ob_some, part_f, p0T, p2T, s_eql, i_eql, b_eql 4 false u4, cnd_B, decide_eq_true_eq, agreeU, useOf]
  by_cases h : a.typ = b.typ
  · simp only [h, if_true, decide_true, Bool.true_and]
    rfl
  · simp [h]
/-! ### Maps of leaves -/
abbrev ML := List (ByteArray × Pa)
def encM (M : ML) : List (ByteArray × AV) := M.map fun p => (p.1, encT p.2)
def lookM (s : ByteArray) : ML → Option Pa
  | [] => none
  | (k, v) :: r => if s = k then some v else lookM s r
def putM (s : ByteArray) (x : Pa) : ML → ML
  | [] => [(s, x)]
  | (k, v) :: r => if s = k then (s, x) :: r else (k, v) :: putM s x r
theorem findM_enc (s : ByteArray) (M : ML) : findM s (encM M) = (lookM s M).map encT := by
  induction M with
  | nil => rfl
  | cons p r ih =>
    obtain ⟨k, v⟩ := p
    simp only [encM, List.map_cons, findM, lookM] at ih ⊢
    rw [ba_beq]
    by_cases h : s = k
    · simp [h]
    · simp only [h, decide_false, if_false]; exact ih
theorem updM_enc (s : ByteArray) (x : Pa) (M : ML) : updM s (encT x) (encM M) = encM (putM s x M) := by
  induction M with
  | nil => rfl
  | cons p r ih =>
    obtain ⟨k, v⟩ := p
    simp only [encM, List.map_cons, updM, putM] at ih ⊢
    rw [ba_beq]
    by_cases h : s = k
    · simp [h]
    · simp only [h, decide_false, if_false, List.map_cons, ih]
theorem lookM_mem {s : ByteArray} {M : ML} {x : Pa} (h : lookM s M = some x) : (s, x) ∈ M := by
  induction M with
  | nil => cases h
  | cons p r ih =>
    obtain ⟨k, v⟩ := p
    simp only [lookM] at h
    split at h
    · rename_i hk; cases h; rw [hk]; exact List.mem_cons_self
    · exact List.mem_cons_of_mem _ (ih h)
theorem lookM_none {s : ByteArray} {M : ML} (h : lookM s M = none) : ∀ x, (s, x) ∉ M := by
  induction M with
  | nil => intro x hx; cases hx
  | cons p r ih =>
    obtain ⟨k, v⟩ := p
    simp only [lookM] at h
    split at h
    · cases h
    · rename_i hk
      intro x hx
      cases hx with
      | head => exact hk rfl
      | tail _ hx => exact ih h x hx
theorem putM_mem {s t : ByteArray} {x y : Pa} {M : ML} (h : (t, y) ∈ putM s x M) : (t = s ∧ y = x) ∨ (t, y) ∈ M := by
  induction M with
  | nil => simp only [putM, List.mem_singleton, Prod.mk.injEq] at h; exact .inl h
  | cons p r ih =>
    obtain ⟨k, v⟩ := p
    simp only [putM] at h
    split at h
    · rcases List.mem_cons.1 h with h | h
      · simp only [Prod.mk.injEq] at h; exact .inl h
      · exact .inr (List.mem_cons_of_mem _ h)
    · rcases List.mem_cons.1 h with h | h
      · exact .inr (by rw [h]; exact List.mem_cons_self)
      · rcases ih h with h | h
        · exact .inl h
        · exact .inr (List.mem_cons_of_mem _ h)
theorem putM_key {s : ByteArray} {x : Pa} {M : ML} : (s, x) ∈ putM s x M := by
  induction M with
  | nil => exact List.mem_singleton.2 rfl
  | cons p r ih =>
    obtain ⟨k, v⟩ := p
    simp only [putM]
    split
    · exact List.mem_cons_self
    · exact List.mem_cons_of_mem _ ih
theorem putM_old {s t : ByteArray} {x y : Pa} {M : ML} (h : (t, y) ∈ M) : ∃ z, (t, z) ∈ putM s x M := by
  induction M with
  | nil => cases h
  | cons p r ih =>
    obtain ⟨k, v⟩ := p
    simp only [putM]
    split
    · rename_i hk
      rcases List.mem_cons.1 h with h | h
      · simp only [Prod.mk.injEq] at h
        exact ⟨x, by rw [h.1, hk]; exact List.mem_cons_self⟩
      · exact ⟨y, List.mem_cons_of_mem _ h⟩
    · rcases List.mem_cons.1 h with h | h
      · exact ⟨y, by rw [h]; exact List.mem_cons_self⟩
      · obtain ⟨z, hz⟩ := ih h
        exact ⟨z, List.mem_cons_of_mem _ hz⟩
/-- a map has the leaves of these uses -/
structure Reps (M : ML) (us : List Us) : Prop where
  sub : ∀ s x, (s, x) ∈ M → x.var = s ∧ useOf x ∈ us
  all : ∀ u ∈ us, ∃ x, (u.var, x) ∈ M
/-- uses of one Var agree -/
def agreeAll (us : List Us) : Prop := ∀ a ∈ us, ∀ b ∈ us, a.var = b.var → agreeU a b = true
theorem agreeU_iff (a b : Us) : agreeU a b = true ↔ a.typ = b.typ ∧ (a.k = 6 ↔ b.k = 6) := by
  simp only [agreeU, Bool.and_eq_true, decide_eq_true_eq, beq_iff_eq, decide_eq_decide]
theorem agreeU_trans {a b c : Us} (h1 : agreeU a b = true) (h2 : agreeU b c = true) : agreeU a c = true := by
  rw [agreeU_iff] at *
  exact ⟨h1.1.trans h2.1, h1.2.trans h2.2⟩
theorem agreeU_symm {a b : Us} (h1 : agreeU a b = true) : agreeU b a = true := by
  rw [agreeU_iff] at *
  exact ⟨h1.1.symm, h1.2.symm⟩
theorem clashes_false {k : Int} {p us : List Us} : clashes k p us = false ↔ ∀ a ∈ us, ∀ b ∈ p, a.var = b.var → k = 4 ∧ agreeU a b = true := by
  simp only [clashes, List.any_eq_false, clash]
  constructor
  · intro h a ha b hb hv
    have := h a ha
    simp only [Bool.not_eq_true, List.any_eq_false, Bool.and_eq_true, decide_eq_true_eq, hv, true_and, Bool.not_eq_true', Bool.not_eq_false] at this
    have := this b hb
    simpa using this
  · intro h a ha
    simp only [Bool.not_eq_true, List.any_eq_false]
    intro b hb
    by_cases hv : a.var = b.var
    · have := h a ha b hb hv
      simp [this.1, this.2]
    · simp [hv]
theorem agreeAll_app {k : Int} {p us : List Us} (h1 : agreeAll p) (h2 : agreeAll us) (hc : clashes k p us = false) : agreeAll (p ++ us) := by
  rw [clashes_false] at hc
  intro a ha b hb hv
  rcases List.mem_append.1 ha with ha | ha
  · rcases List.mem_append.1 hb with hb | hb
    · exact h1 a ha b hb hv
    · exact agreeU_symm (hc b hb a ha hv.symm).2
  · rcases List.mem_append.1 hb with hb | hb
    · exact (hc a ha b hb hv).2
    · exact h2 a ha b hb hv
/-- an entry stands where it may not -/
def badE (k : Int) (M : ML) (p : ByteArray × Pa) : Bool :=
  match lookM p.1 M with
  | some old => !(decide (k = 4) && agreeU (useOf old) (useOf p.2))
  | none => false
theorem bad_iff {k : Int} {M O : ML} {p us : List Us} (hM : Reps M p) (hO : Reps O us) (hp : agreeAll p) (hu : agreeAll us) : (O.any (badE k M)) = clashes k p us := by
  rw [Bool.eq_iff_iff]
  constructor
  · intro h
    obtain ⟨e, he, hb⟩ := List.any_eq_true.1 h
    obtain ⟨s, leaf⟩ := e
    simp only [badE] at hb
    cases hl : lookM s M with
    | none => rw [hl] at hb; cases hb
    | some old =>
      rw [hl] at hb
      have h1 := hM.sub s old (lookM_mem hl)
      have h2 := hO.sub s leaf he
      cases hc : clashes k p us with
      | true => rfl
      | false =>
        have := clashes_false.1 hc (useOf leaf) h2.2 (useOf old) h1.2 (h2.1.trans h1.1.symm)
        simp only [this.1, decide_true, Bool.true_and, agreeU_symm this.2, Bool.not_true] at hb
        cases hb
  · intro h
    cases hc : O.any (badE k M) with
    | true => rfl
    | false =>
      have hcl : clashes k p us = false := clashes_false.2 (fun a ha b hb hv => by
        obtain ⟨leaf, hl⟩ := hO.all a ha
        have h2 := hO.sub _ _ hl
        obtain ⟨o1, ho1⟩ := hM.all b hb
        rw [← hv] at ho1
        have hb0 : ¬ badE k M (a.var, leaf) = true := List.any_eq_false.1 hc _ hl
        simp only [badE] at hb0
        cases hlk : lookM a.var M with
        | none => exact absurd ho1 (lookM_none hlk o1)
        | some old =>
          rw [hlk] at hb0
          have h3 := hM.sub _ _ (lookM_mem hlk)
          simp only [Bool.not_eq_true, Bool.not_eq_false', Bool.and_eq_true, decide_eq_true_eq] at hb0
          refine ⟨hb0.1, ?_⟩
          have a1 : agreeU a (useOf leaf) = true := hu a ha (useOf leaf) h2.2 h2.1.symm
          have a2 : agreeU (useOf old) b = true := hp (useOf old) h3.2 b hb (h3.1.trans hv)
          exact agreeU_trans a1 (agreeU_trans (agreeU_symm hb0.2) a2))
      rw [hcl] at h; cases h
/-! ### Walks over maps -/
theorem next_intro {it mo n : Nat} {seen : List Nat} {O : ML} {H : Heap} {K : Post} (h1 : H.objs it = some (.miter mo n seen)) (h2 : H.objs mo = some (.smap (encM O))) (hn : O.length = n)
    (hk : ∀ (i : Nat) v x, O[i]? = some (v, x) → i ∉ seen → K (.tup [B true, S v, encT x]) (H.setObj it (.miter mo n (seen ++ [i])))) (he : (∀ i, i < n → i ∈ seen) → K (.tup [B false]) H) : nextM (Pt it) H K := by
  simp only [nextM, Pt, h1, h2]
  refine ⟨by simpa [encM] using hn, fun i s v hi hs => ?_, he⟩
  simp only [encM, List.getElem?_map, Option.map_eq_some_iff, Prod.mk.injEq] at hi
  obtain ⟨⟨s', x⟩, h3, h4, h5⟩ := hi
  have := hk i s' x h3 hs
  rw [← h4, ← h5]
  exact this
theorem ent_eq {it mo n i : Nat} {seen : List Nat} {O : ML} {v : ByteArray} {x : Pa} {H : Heap} (h1 : H.objs it = some (.miter mo n (seen ++ [i]))) (h2 : H.objs mo = some (.smap (encM O))) (hn : O.length = n) (hi : O[i]? = some (v, x)) :
    entM H (Pt it) = some (.tup [S v, encT x]) := by
  have hi' : (encM O)[i]? = some (v, encT x) := by simp [encM, hi]
  have hl : (encM O).length = n := by simpa [encM] using hn
  have hb : Nat.beq n n = true := by simp
  simp only [entM, Pt, h1, h2, hl, List.getLast?_append, List.getLast?_singleton, Option.some_or, hi', hb]
theorem rng_intro {mo : Nat} {O : ML} {H : Heap} {K : Post} (h2 : H.objs mo = some (.smap (encM O))) (hk : ∀ b, H.fresh b → K (Pt b) (H.setObj b (.miter mo O.length []))) : rngM (.raw (.map (some mo))) H K := by
  simp only [rngM, h2]
  intro b hb
  have := hk b hb
  simpa [encM, Pt] using this
/-- how many are left -/
theorem left_lt {n : Nat} {seen : List Nat} {i f : Nat} (hi : i < n) (hs : i ∉ seen) (hf : ((List.range n).filter fun j => decide (j ∉ seen)).length ≤ f + 1) : ((List.range n).filter fun j => decide (j ∉ seen ++ [i])).length ≤ f := by
  have h1 : ((List.range n).filter fun j => decide (j ∉ seen ++ [i])) = ((List.range n).filter fun j => decide (j ∉ seen)).filter fun j => decide (j ≠ i) := by
    rw [List.filter_filter]
    congr 1
    funext j
    simp only [List.mem_append, List.mem_singleton, not_or, ne_eq, Bool.decide_and]
    exact Bool.and_comm _ _
  have hm : i ∈ (List.range n).filter fun j => decide (j ∉ seen) := by simp [hi, hs]
  have h2 : (((List.range n).filter fun j => decide (j ∉ seen)).filter fun j => decide (j ≠ i)).length < ((List.range n).filter fun j => decide (j ∉ seen)).length :=
    List.length_filter_lt_length_iff_exists.2 ⟨i, hm, by simp⟩
  rw [h1]; omega
theorem left_none {n : Nat} {seen : List Nat} (hf : ((List.range n).filter fun j => decide (j ∉ seen)).length ≤ 0) {i : Nat} (hi : i < n) (hs : i ∉ seen) : False := by
  have hm : i ∈ (List.range n).filter fun j => decide (j ∉ seen) := by simp [hi, hs]
  have := List.length_pos_of_mem hm
  omega
abbrev zT : AV := .agg [I 0, S e0, S e0, I 0, I 0, .sl 0 true .full []]
theorem okA_some (z v : AV) : okA z true (some v) = .tup [v, B true] := rfl
theorem okA_none (z : AV) : okA z true none = .tup [z, B false] := rfl
theorem x3_0 (a b c : AV) : extractA (.tup [a, b, c]) 0 = some a := rfl
theorem x2_0 (a b : AV) : extractA (.tup [a, b]) 0 = some a := rfl
theorem x2_1 (a b : AV) : extractA (.tup [a, b]) 1 = some b := rfl
theorem x1_0 (a : AV) : extractA (.tup [a]) 0 = some a := rfl
theorem c162 (k : Int) (mu mo : Nat) (hne : mu ≠ mo) (M O : ML) (H : Heap) (Q : Post) (hM : H.objs mu = some (.smap (encM M))) (hO : H.objs mo = some (.smap (encM O)))
    (h1 : O.any (badE k M) = true → ∀ H', HExt H H' → Q (B false) H')
    (h2 : O.any (badE k M) = false → ∀ H' M', HExc (fun b => b = mu) H H' → H'.objs mu = some (.smap (encM M')) → (∀ s x, (s, x) ∈ M' → (s, x) ∈ M ∨ (s, x) ∈ O) → (∀ s x, (s, x) ∈ M ∨ (s, x) ∈ O → ∃ y, (s, y) ∈ M') → Q (B true) H') :
    E 162 [Mp mu, I k, Mp mo] H Q := by
  have second : ∀ (f : Nat) (seen : List Nat) (it : Nat) (H1 : Heap) (M1 : ML), H.fresh it → it ≠ mu → it ≠ mo → HExc (fun b => b = mu) H H1 → H1.objs mu = some (.smap (encM M1)) → H1.objs it = some (.miter mo O.length seen) →
      ((List.range O.length).filter fun j => decide (j ∉ seen)).length ≤ f →
      (∀ s x, (s, x) ∈ M1 → (s, x) ∈ M ∨ (s, x) ∈ O) → (∀ s x, (s, x) ∈ M → ∃ y, (s, y) ∈ M1) → (∀ i ∈ seen, ∀ s x, O[i]? = some (s, x) → ∃ y, (s, y) ∈ M1) →
      O.any (badE k M) = false → f162_l29 (Mp mu) (Pt it) H1 Q := by
    intro f
    induction f with
    | zero =>
      intro seen it H1 M1 hf n1 n2 he hm hi hl g1 g2 g3 hb
      have ho : H1.objs mo = some (.smap (encM O)) := he.obj hO (fun e => hne e.symm)
      rw [f162_l29_eq]
      refine next_intro hi ho rfl (fun i v x hx hs => ?_) (fun hall => ?_)
      · exact (left_none hl (List.getElem?_eq_some_iff.1 hx).1 hs).elim
      · simp only [x1_0, ob_some, cnd_f]
        refine h2 hb H1 M1 he hm g1 (fun s x hx => ?_)
        rcases hx with hx | hx
        · exact g2 s x hx
        · obtain ⟨i, hi', e⟩ := List.getElem_of_mem hx
          exact g3 i (hall i hi') s x (by rw [List.getElem?_eq_getElem hi', e])
    | succ f ih =>
      intro seen it H1 M1 hf n1 n2 he hm hi hl g1 g2 g3 hb
      have ho : H1.objs mo = some (.smap (encM O)) := he.obj hO (fun e => hne e.symm)
      rw [f162_l29_eq]
      refine next_intro hi ho rfl (fun i v x hx hs => ?_) (fun hall => ?_)
      · have oi := setObj_same H1 it (.miter mo O.length (seen ++ [i]))
        have om := (setObj_ne H1 (.miter mo O.length (seen ++ [i])) (Ne.symm n1)).trans hm
        have oo := (setObj_ne H1 (.miter mo O.length (seen ++ [i])) (Ne.symm n2)).trans ho
        have e1 : HExc (fun b => b = mu) H (H1.setObj it (.miter mo O.length (seen ++ [i]))) := he.setObj (.inr hf) _
        generalize H1.setObj it (.miter mo O.length (seen ++ [i])) = H2 at oi om oo e1 ⊢
        have hu : ∀ K : Heap → Prop, updA H2 (Mp mu) (S v) (encT x) K = K (H2.setObj mu (.smap (updM v (encT x) (encM M1)))) := fun K => by simp [updA, S, om]
        simp only [x3_0, ob_some, cnd_t, ent_eq oi oo rfl hx, x2_0, x2_1, szT, splT, partT, hu, updM_enc]
        have hxO : (v, x) ∈ O := List.mem_of_getElem? hx
        refine ih (seen ++ [i]) it _ (putM v x M1) hf n1 n2 (e1.setObj (.inl rfl) _) (setObj_same _ _ _) ((setObj_ne _ _ n1).trans oi) (left_lt (List.getElem?_eq_some_iff.1 hx).1 hs hl) (fun s y hy => ?_) (fun s y hy => ?_) (fun j hj s y hy => ?_) hb
        · rcases putM_mem hy with h | h
          · exact .inr (by rw [h.1, h.2]; exact hxO)
          · exact g1 s y h
        · obtain ⟨z, hz⟩ := g2 s y hy
          exact putM_old hz
        · rcases List.mem_append.1 hj with hj | hj
          · obtain ⟨z, hz⟩ := g3 j hj s y hy
            exact putM_old hz
          · simp only [List.mem_singleton] at hj
            rw [hj, hx] at hy
            cases hy
            exact ⟨x, putM_key⟩
      · simp only [x1_0, ob_some, cnd_f]
        refine h2 hb H1 M1 he hm g1 (fun s x hx => ?_)
        rcases hx with hx | hx
        · exact g2 s x hx
        · obtain ⟨i, hi', e⟩ := List.getElem_of_mem hx
          exact g3 i (hall i hi') s x (by rw [List.getElem?_eq_getElem hi', e])
  have fin : ∀ (H1 : Heap), HExt H H1 → O.any (badE k M) = false → rngM (Mp mo) H1 (fun r22 H23 => f162_l29 (Mp mu) r22 H23 Q) := fun H1 he hb => by
    refine rng_intro (he.obj hO) (fun b fb => ?_)
    have n1 := fresh_ne (he.obj hM) fb
    have n2 := fresh_ne (he.obj hO) fb
    exact second _ [] b _ M (he.fresh fb) (Ne.symm n1) (Ne.symm n2) (he.exc.setObj (.inr (he.fresh fb)) _) ((setObj_ne _ _ n1).trans (he.obj hM)) (setObj_same _ _ _) (Nat.le_refl _) (fun s x h => .inl h) (fun s x h => ⟨x, h⟩) (fun i hi => by cases hi) hb
  have first : ∀ (f : Nat) (seen : List Nat) (it : Nat) (H1 : Heap), H.fresh it → it ≠ mu → it ≠ mo → HExt H H1 → H1.objs it = some (.miter mo O.length seen) →
      ((List.range O.length).filter fun j => decide (j ∉ seen)).length ≤ f → (∀ i ∈ seen, ∀ p, O[i]? = some p → badE k M p = false) → f162_l6 (Mp mu) (I k) (Mp mo) (Pt it) H1 Q := by
    intro f
    induction f with
    | zero =>
      intro seen it H1 hf n1 n2 he hi hl hg
      rw [f162_l6_eq]
      refine next_intro hi (he.obj hO) rfl (fun i v x hx hs => ?_) (fun hall => ?_)
      · exact (left_none hl (List.getElem?_eq_some_iff.1 hx).1 hs).elim
      · simp only [x1_0, ob_some, cnd_f]
        refine fin H1 he (List.any_eq_false.2 (fun p hp => ?_))
        obtain ⟨i, hi', e⟩ := List.getElem_of_mem hp
        rw [hg i (hall i hi') p (by rw [List.getElem?_eq_getElem hi', e])]
        simp
    | succ f ih =>
      intro seen it H1 hf n1 n2 he hi hl hg
      rw [f162_l6_eq]
      refine next_intro hi (he.obj hO) rfl (fun i v x hx hs => ?_) (fun hall => ?_)
      · have oi := setObj_same H1 it (.miter mo O.length (seen ++ [i]))
        have e1 : HExt H (H1.setObj it (.miter mo O.length (seen ++ [i]))) := he.setObj hf _
        generalize H1.setObj it (.miter mo O.length (seen ++ [i])) = H2 at oi e1 ⊢
        have om := e1.obj hM
        have oo := e1.obj hO
        have hxO : (v, x) ∈ O := List.mem_of_getElem? hx
        have hlk : lookA H2 zT (Mp mu) (S v) true = some (okA zT true (findM v (encM M))) := by simp [lookA, S, entsA, om]
        have hj : ∀ b : Bool, b = badE k M (v, x) → f162_j20 (Mp mu) (I k) (Mp mo) (Pt it) (B b) H2 Q := fun b hb => by
          rw [f162_j20_eq]
          refine cnd_intro (fun h => ?_) (fun h => ?_)
          · exact h1 (List.any_eq_true.2 ⟨(v, x), hxO, by rw [← hb, h]⟩) H2 e1
          · refine ih (seen ++ [i]) it H2 hf n1 n2 e1 oi (left_lt (List.getElem?_eq_some_iff.1 hx).1 hs hl) (fun j hj p hp => ?_)
            rcases List.mem_append.1 hj with hj | hj
            · exact hg j hj p hp
            · simp only [List.mem_singleton] at hj
              rw [hj, hx] at hp
              cases hp
              rw [← hb, h]
        simp only [x3_0, ob_some, cnd_t, ent_eq oi oo rfl hx, x2_0, x2_1, szT, splT, hlk, findM_enc]
        simp only [badE] at hj
        cases hm : lookM v M with
        | none =>
          rw [hm] at hj
          have z1 : sizedA 6 zT = some [I 0, S e0, S e0, I 0, I 0, .sl 0 true .full []] := rfl
          have z2 : spliceA 0 [I 0, S e0, S e0, I 0, I 0, .sl 0 true .full []] [I 0, S e0, S e0, I 0, I 0, .sl 0 true .full []] = some [I 0, S e0, S e0, I 0, I 0, .sl 0 true .full []] := rfl
          simp only [Option.map_none, okA_none, x2_0, x2_1, ob_some, z1, z2, cnd_f]
          exact hj false rfl
        | some old =>
          rw [hm] at hj
          simp only [Option.map_some, okA_some, x2_0, x2_1, ob_some, szT, splT, cnd_t, i_neq, partT, c179, not_B]
          refine cnd_intro (fun h => ?_) (fun h => ?_)
          · exact hj true (by simp at h; simp [h])
          · exact hj _ (by simp at h; simp [h])
      · simp only [x1_0, ob_some, cnd_f]
        refine fin H1 he (List.any_eq_false.2 (fun p hp => ?_))
        obtain ⟨i, hi', e⟩ := List.getElem_of_mem hp
        rw [hg i (hall i hi') p (by rw [List.getElem?_eq_getElem hi', e])]
        simp
  rw [f162_eq]
  refine rng_intro hO (fun b fb => ?_)
  have n1 := fresh_ne hM fb
  have n2 := fresh_ne hO fb
  exact first _ [] b _ fb (Ne.symm n1) (Ne.symm n2) ((HExt.refl H).setObj fb _) (setObj_same _ _ _) (Nat.le_refl _) (fun i hi => by cases hi)
/-! ### Once -/
theorem once_agree (x : Pa) (h : allRT x = true) : onceT x = true → agreeAll (usesT x) := by
  induction x using Pa.ind with
  | h x ih =>
    intro ho
    rw [onceT_eq] at ho
    rw [allRT_eq, Bool.and_eq_true] at h
    have loop : ∀ (r : List Pa) (p : List Us), (∀ y ∈ r, y ∈ x.l) → agreeAll p → onceTs x.k p r = true → agreeAll (p ++ usesTs r) := by
      intro r
      induction r with
      | nil => intro p _ hp _; simpa [usesTs] using hp
      | cons y r ihr =>
        intro p hm hp ho
        simp only [onceTs, Bool.and_eq_true, Bool.not_eq_true'] at ho
        have h1 := ih y (hm y (by simp)) (allRTs_mem h.2 (hm y (by simp))) ho.1
        have := ihr (p ++ usesT y) (fun z hz => hm z (by simp [hz])) (agreeAll_app hp h1 ho.2.1) ho.2.2
        simpa [usesTs] using this
    have h2 := loop x.l [] (fun _ h => h) (fun a ha => by cases ha) ho
    rw [usesT_eq]
    by_cases hl : isLeafT x.k = true
    · rw [if_pos hl]
      have hnil : x.l = [] := by
        have hr := h.1
        simp only [isLeafT, Bool.or_eq_true, decide_eq_true_eq] at hl
        simp only [rightT] at hr
        split at hr
        · simp [leafT] at hr; exact List.eq_nil_of_length_eq_zero (by simp [hr])
        · split at hr
          · simp [leafT] at hr; exact List.eq_nil_of_length_eq_zero (by simp [hr])
          · omega
      rw [hnil]
      intro a ha b hb _
      simp only [usesTs, List.append_nil, List.mem_singleton] at ha hb
      rw [ha, hb]
      simp [agreeU]
    · rw [if_neg hl]; simpa using h2
theorem leaf_nil {x : Pa} (h : rightT x = true) (hl : isLeafT x.k = true) : x.l = [] := by
  simp only [isLeafT, Bool.or_eq_true, decide_eq_true_eq] at hl
  simp only [rightT] at h
  split at h
  · simp [leafT] at h; exact List.eq_nil_of_length_eq_zero (by simp [h])
  · split at h
    · simp [leafT] at h; exact List.eq_nil_of_length_eq_zero (by simp [h])
    · omega
theorem c135 (x : Pa) : allT okT x → allRT x = true → ∀ (H : Heap) (Q : Post), (onceT x = true → ∀ H' m M, HExt H H' → H.fresh m → H'.objs m = some (.smap (encM M)) → Reps M (usesT x) → Q (.tup [Mp m, B true]) H') →
    (onceT x = false → ∀ H' v, HExt H H' → Q (.tup [v, B false]) H') → E 135 [encT x] H Q := by
  induction x using Pa.ind with
  | h x ih =>
    intro hok hr H Q hq1 hq2
    have hok' := (allT_eq _ _).1 hok
    have hn := hok'.1.1
    have hr' := hr
    rw [allRT_eq, Bool.and_eq_true] at hr'
    rw [f135_eq, szT, ob_some, part_f, p0T, ob_some, c110]
    refine cnd_intro (fun hl => ?_) (fun hl => ?_)
    · have hnil := leaf_nil hr'.1 hl
      intro m fm
      have hu : ∀ K : Heap → Prop, updA (H.setObj m (.smap [])) (Mp m) (S x.var) (encT x) K = K ((H.setObj m (.smap [])).setObj m (.smap (encM [(x.var, x)]))) := fun K => by
        simp [updA, S, setObj_same, updM, encM]
      simp only [part_f, p1T, ob_some, partT, hu]
      refine hq1 (by rw [onceT_eq, hnil]; rfl) _ m [(x.var, x)] (((HExt.refl H).setObj fm _).setObj fm _) fm (setObj_same _ _ _) ⟨fun s y hy => ?_, fun u hu => ?_⟩
      · simp only [List.mem_singleton, Prod.mk.injEq] at hy
        rw [hy.1, hy.2, usesT_eq, if_pos hl]
        exact ⟨rfl, by simp [useOf]⟩
      · rw [usesT_eq, if_pos hl, hnil] at hu
        simp only [usesTs, List.append_nil, List.mem_singleton] at hu
        exact ⟨x, by rw [hu]; exact List.mem_singleton.2 rfl⟩
    · have huse : usesT x = usesTs x.l := by rw [usesT_eq, if_neg (by rw [hl]; simp)]; rfl
      rw [onceT_eq, huse] at hq1
      rw [onceT_eq] at hq2
      intro m fm
      have loop : ∀ (r pre : List Pa) (M : ML) (H1 : Heap), x.l = pre ++ r → HExt H H1 → H1.objs m = some (.smap (encM M)) → Reps M (usesTs pre) → agreeAll (usesTs pre) →
          (onceTs x.k (usesTs pre) r = true → ∀ H' M, HExt H H' → H'.objs m = some (.smap (encM M)) → Reps M (usesTs x.l) → Q (.tup [Mp m, B true]) H') →
          (onceTs x.k (usesTs pre) r = false → ∀ H' v, HExt H H' → Q (.tup [v, B false]) H') → f135_l16 (encTC x) (Mp m) (encTs x.sz x.nil x.tip x.l) (I x.l.length) (I pre.length) H1 Q := by
        intro r
        induction r with
        | nil =>
          intro pre M H1 e he hm hM ha g1 g2
          have h1 : (pre.length : Int) = x.l.length := by rw [e]; simp
          have h2 : pre = x.l := by rw [e]; simp
          rw [f135_l16_eq, i_lss, ob_some, cnd_B, h1]
          simp only [Int.lt_irrefl, decide_false, Bool.false_eq_true, if_false]
          exact g1 rfl H1 M he hm (by rw [← h2]; exact hM)
        | cons y r ihr =>
          intro pre M H1 e he hm hM ha g1 g2
          have hlt : pre.length < x.l.length := by rw [e]; simp
          have hlt' : (pre.length : Int) < x.l.length := by omega
          have hym : y ∈ x.l := by rw [e]; simp
          have hry := allRTs_mem hr'.2 hym
          simp only [onceTs] at g1 g2
          rw [f135_l16_eq, i_lss, ob_some, cnd_B, if_pos (by simpa using hlt'), ixT x.l x.sz x.nil x.tip pre r y e, ob_some, partT, ob_some, szT, ob_some, splT, ob_some, partT, ob_some]
          refine ih y hym (allTs_mem hok'.2 hym) hry H1 _ (fun ho H2 m2 O e2 f2 hm2 hO => ?_) (fun ho H2 v e2 => ?_)
          · simp only [ho, Bool.true_and] at g1 g2
            have hne : m ≠ m2 := fun ee => not_fresh hm (ee ▸ f2)
            have hay := once_agree y hry ho
            have hb := bad_iff (k := x.k) hM hO ha hay
            simp only [x2_0, x2_1, ob_some, not_B, Bool.not_true, cnd_f, part_f, p0T]
            refine c162 x.k m m2 hne M O H2 _ (e2.obj hm) hm2 (fun hc H3 e3 => ?_) (fun hc H3 M3 e3 hm3 s1 s2 => ?_)
            · rw [hb] at hc
              simp only [not_B, ob_some, f135_j31_eq, Bool.not_false, cnd_t]
              rw [hc] at g2
              exact g2 rfl H3 _ ((he.trans e2).trans e3)
            · rw [hb] at hc
              simp only [hc, Bool.not_false, Bool.true_and] at g1 g2
              simp only [not_B, ob_some, f135_j31_eq, Bool.not_true, cnd_f, i_add, w64_succ hlt (show x.l.length ≤ 1152921504606846976 by omega)]
              have e3' : HExt H H3 := HExc.ext (he.trans e2) e3 (fun b hb => by rw [hb]; exact fm)
              have hus : usesTs (pre ++ [y]) = usesTs pre ++ usesT y := by simp [usesTs_app, usesTs]
              have := ihr (pre ++ [y]) M3 H3 (by simp [e]) e3' hm3 (by
                rw [hus]
                refine ⟨fun s z hz => ?_, fun u hu => ?_⟩
                · rcases s1 s z hz with h | h
                  · have := hM.sub s z h; exact ⟨this.1, List.mem_append_left _ this.2⟩
                  · have := hO.sub s z h; exact ⟨this.1, List.mem_append_right _ this.2⟩
                · rcases List.mem_append.1 hu with hu | hu
                  · obtain ⟨z, hz⟩ := hM.all u hu; exact s2 _ z (.inl hz)
                  · obtain ⟨z, hz⟩ := hO.all u hu; exact s2 _ z (.inr hz)) (by rw [hus]; exact agreeAll_app ha hay hc) (by rw [hus]; exact g1) (by rw [hus]; exact g2)
              rw [List.length_append, List.length_singleton] at this
              exact this
          · simp only [ho, Bool.false_and] at g2
            simp only [x2_0, x2_1, ob_some, not_B, Bool.not_false, cnd_t, f135_j31_eq]
            exact g2 trivial H2 _ (he.trans e2)
      simp only [part_f, p5T, ob_some, lenT]
      have em : HExt H (H.setObj m (.smap [])) := (HExt.refl H).setObj fm _
      refine loop x.l [] [] _ rfl em (setObj_same _ _ _) (Reps.mk (fun s y hy => by cases hy) (fun u hu => by cases hu)) (fun a ha => by cases ha) (fun h H' M he hm hM => hq1 h H' m M he fm hm hM) hq2
theorem c98 (x : Pa) (hok : allT okT x) (hr : allRT x = true) (H : Heap) (Q : Post) (hq : ∀ H', HExt H H' → Q (B (madeT x)) H') : E 98 [encT x] H Q := by
  rw [f98_eq, szT, ob_some, partT, ob_some]
  have fin : ∀ (b : Bool) H', HExt H H' → b = madeT x → f98_j6 (B b) H' Q := fun b H' he hb => by rw [f98_j6_eq, hb]; exact hq H' he
  refine c135 x hok hr H _ (fun ho H1 m M e1 _ _ _ => ?_) (fun ho H1 v e1 => ?_)
  · simp only [x2_0, x2_1, ob_some, cnd_t, part_f, p0T, i_neq, partT, c136 x hok]
    refine cnd_intro (fun h => fin _ H1 e1 (by simp at h; simp [madeT, h, ho])) (fun h => fin _ H1 e1 (by simp at h; simp [madeT, h]))
  · simp only [x2_0, x2_1, ob_some, cnd_f]
    exact fin false H1 e1 (by simp [madeT, ho])
theorem checkT_all {x : Pa} (h : checkT x = 0) : allRT x = true := by
  simp only [checkT] at h
  split at h
  · cases h
  · split at h
    · cases h
    · rename_i h3; simpa using h3
theorem c62 (x : Pa) (hok : allT okT x) (hs : sizeT x ≤ 1099511627776) (H : Heap) (Q : Post) (hq : ∀ H', HExt H H' → Q (I (madeP x)) H') : E 62 [encT x] H Q := by
  rw [f62_eq, szT, ob_some, partT, ob_some]
  simp only [madeP] at hq
  refine c97 x hok (by omega) H _ (fun H1 e1 => ?_)
  rw [i_neq, ob_some]
  refine cnd_intro (fun h => ?_) (fun h => ?_)
  · have := hq H1 e1
    rw [if_pos (by simpa using h)] at this; exact this
  have h : checkT x = 0 := by simpa using h
  simp only [h, ne_eq, not_true, if_false] at hq
  rw [ob_some]
  refine c98 x hok (checkT_all h) H1 _ (fun H2 e2 => ?_)
  have := hq H2 (e1.trans e2)
  rw [not_B, ob_some]
  refine cnd_intro (fun h => ?_) (fun h => ?_)
  · rw [if_neg (by simpa using h)] at this; exact this
  · rw [if_pos (by simpa using h)] at this; exact this
/-! ### Fine -/
def fineP (q : Qu) : Int := if queryP q ≠ 0 then queryP q else madeP q.p
theorem c30 (q : Qu) (hok : OkQ q) (H : Heap) (Q : Post) (hq : ∀ H', HExt H H' → Q (I (fineP q)) H') : E 30 [encQ q] H Q := by
  rw [f30_eq, szQ, ob_some, partQ, ob_some]
  simp only [fineP] at hq
  refine c61 q hok H _ (fun H1 e1 => ?_)
  rw [i_neq, ob_some]
  refine cnd_intro (fun h => ?_) (fun h => ?_)
  · have := hq H1 e1
    rw [if_pos (by simpa using h)] at this; exact this
  rw [if_neg (by simpa using h)] at hq
  rw [partQT, ob_some]
  exact c62 q.p hok.p hok.ps H1 _ (fun H2 e2 => hq H2 (e1.trans e2))
theorem c37 (q : Qu) (hok : OkQ q) (H : Heap) (Q : Post) (hq : ∀ H', HExt H H' → Q (I (fineP q)) H') : E 37 [encQ q] H Q := by
  rw [f37_eq, szQ, ob_some, partQ, ob_some, c68 q hok, i_neq, ob_some]
  simp only [fineP] at hq
  refine cnd_intro (fun h => ?_) (fun h => ?_)
  · have := hq H (HExt.refl H)
    rw [if_pos (by simpa using h)] at this; exact this
  rw [if_neg (by simpa using h)] at hq
  rw [partQT, ob_some]
  exact c69 q.p hok.p hok.ps H _ hq
end Go.Hx
