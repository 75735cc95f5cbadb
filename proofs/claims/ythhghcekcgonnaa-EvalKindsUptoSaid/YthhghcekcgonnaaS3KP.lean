/- What a condition says is of its kind: plain law. Own work (session 2). -/
import Derived.Test.YthhghcekcgonnaaS3TN
set_option maxRecDepth 20000
namespace Go.Hx
def ofK (v : Vl) (k : Int) : Prop := v.k = k ∨ v.k = 0
theorem num_err (k a b : Int) : (reckonN k a b).2 = 0 ∨ (reckonN k a b).2 = 10 := by
  unfold reckonN negN addN subN mulN divN modN
  repeat' split
  all_goals first | exact .inl rfl | exact .inr rfl
def ofKs : List Vl → List Int → Prop
  | v :: vs, k :: ks => ofK v k ∧ ofKs vs ks
  | [], [] => True
  | _, _ => False
theorem ofKs_all {c : Int} : ∀ {vs : List Vl} {ks : List Int}, ofKs vs ks → allI c ks = true → ∀ v ∈ vs, ofK v c
  | [], _, _, _, _, h => by cases h
  | v :: vs, [], h, _, _, _ => h.elim
  | v :: vs, k :: ks, h, ha, u, hu => by
    simp only [allI, List.all_cons, Bool.and_eq_true, decide_eq_true_eq] at ha
    cases hu with
    | head => rw [← ha.1]; exact h.1
    | tail _ hu => exact ofKs_all h.2 ha.2 u hu
def fine9 (r : Vl × Int) (k : Int) : Prop := (r.2 = 0 ∧ ofK r.1 k) ∨ r.2 = 10 ∨ r.2 = 1
theorem bool_k (b : Bool) : (boolV b).k = 1 := rfl
theorem int_k (n : Int) : (intV n).k = 2 := rfl
theorem node_say (g : ByteArray → ByteArray → Int × Int) (t : Tl) (hg : ∀ a f, (g a f).2 = 0 → (t a f).2 = true ∧ ofK (t a f).1 (g a f).1) (x : Ex) (hr : rightP x = true) (vs : List Vl) (ks : List Int) (hl : vs.length = x.l.length) (h : ofKs vs ks) (hk : (nodeK g x ks).2 = 0) :
    fine9 (nodeP t x vs) (nodeK g x ks).1 := by
  by_cases h1 : x.k = 1
  · simp only [nodeP, nodeK, if_pos h1]
    exact .inl ⟨rfl, .inl rfl⟩
  by_cases h2 : x.k = 2
  · simp only [nodeP, nodeK, if_neg h1, if_pos h2] at hk ⊢
    obtain ⟨a, b⟩ := hg _ _ hk
    unfold fieldP
    rw [if_neg (by simp [a])]
    split
    · exact .inr (.inr rfl)
    · exact .inl ⟨rfl, b⟩
  have hlen := rightP_len hr h1 h2
  simp only [nodeP, nodeK, if_neg h1, if_neg h2] at hk ⊢
  by_cases hf : fitsK x.k ks = true
  · rw [if_pos hf]
    by_cases h15 : x.k = 15 ∨ x.k = 16 ∨ x.k = 17
    · rw [if_pos h15]
      have e8 : ¬ x.k ≤ 8 := by omega
      have e10 : ¬ x.k ≤ 10 := by omega
      have e14 : ¬ x.k ≤ 14 := by omega
      simp only [fitsK, if_neg e8, if_neg e10, if_neg e14] at hf
      have hb : vs.any badB = false := by
        rw [List.any_eq_false]
        intro v hv
        have := ofKs_all h hf v hv
        rcases this with e | e <;> simp [badB, e]
      have ho : outK x.k = 1 := by simp [outK, e8]
      rw [ho]
      unfold logicP
      rw [if_neg (by rw [hb]; simp)]
      unfold logicR
      repeat' split
      all_goals exact .inl ⟨rfl, .inl rfl⟩
    · rw [if_neg h15]
      by_cases e8 : x.k ≤ 8
      · rw [if_pos e8]
        simp only [fitsK, if_pos e8] at hf
        have ho : outK x.k = 2 := by simp [outK, e8]
        rw [ho]
        unfold numberP
        split
        · exact .inl ⟨rfl, .inr rfl⟩
        · rename_i hn
          have hn : (vs.any fun v => decide (v.k = 0)) = false := by simpa using hn
          have h5 : (vs.any fun v => !decide (v.k = 2)) = false := by
            rw [List.any_eq_false]
            intro v hv
            have a := ofKs_all h hf v hv
            have b := List.any_eq_false.1 hn v hv
            have b : ¬ v.k = 0 := by simpa using b
            rcases a with e | e
            · simp [e]
            · exact absurd e b
          rw [if_neg (by rw [h5]; simp)]
          unfold reckonL
          have := num_err x.k ((vs.map (·.n)).headD 0) ((vs.map (·.n)).getLastD 0)
          split
          rename_i y e he
          rw [he] at this
          split
          · exact .inl ⟨rfl, .inl rfl⟩
          · rename_i hne
            rcases this with h0 | h0
            · exact absurd h0 hne
            · exact .inr (.inl h0)
      · rw [if_neg e8]
        have hl2 : vs.length = 2 := by omega
        have ho : outK x.k = 1 := by simp [outK, e8]
        rw [ho]
        match vs, hl2 with
        | [a, b], _ =>
          match ks, h with
          | [p, q], h =>
            obtain ⟨ha, hb, _⟩ := h
            show fine9 (comparedP x.k a b) 1
            unfold comparedP
            split
            · exact .inl ⟨rfl, .inl rfl⟩
            split
            · exact .inl ⟨rfl, .inl rfl⟩
            rename_i e9 e10
            split
            · exact .inl ⟨rfl, .inl rfl⟩
            rename_i hnul
            have e10' : ¬ x.k ≤ 10 := by omega
            have e14 : x.k ≤ 14 := by omega
            simp only [fitsK, if_neg e8, if_neg e10', if_pos e14, Bool.or_eq_true] at hf
            have hok : (decide (a.k = b.k) && (decide (a.k = 2) || decide (a.k = 3))) = true := by
              rcases hf with hf | hf
              · simp only [allI, List.all_cons, List.all_nil, Bool.and_true, Bool.and_eq_true, decide_eq_true_eq] at hf
                have h1 : a.k = 2 := by rcases ha with e | e <;> omega
                have h2 : b.k = 2 := by rcases hb with e | e <;> omega
                simp [h1, h2]
              · simp only [allI, List.all_cons, List.all_nil, Bool.and_true, Bool.and_eq_true, decide_eq_true_eq] at hf
                have h1 : a.k = 3 := by rcases ha with e | e <;> omega
                have h2 : b.k = 3 := by rcases hb with e | e <;> omega
                simp [h1, h2]
            rw [if_neg (by rw [hok]; simp)]
            repeat' split
            all_goals exact .inl ⟨rfl, .inl rfl⟩
          | [], h => exact h.elim
          | [_], h => exact h.2.elim
          | _ :: _ :: _ :: _, h => exact h.2.2.elim
  · rw [if_neg hf] at hk; exact absurd hk (by show (5 : Int) ≠ 0; decide)
theorem kindsX_err (g : ByteArray → ByteArray → Int × Int) : ∀ (l : List Ex) (e : Int), kindsX g l = .error e → e ≠ 0
  | [], e, h => by cases h
  | x :: r, e, h => by
    rw [kindsX] at h
    split at h
    · cases hk : kindsX g r with
      | error e' => rw [hk] at h; simp only [Except.error.injEq] at h; subst h; exact kindsX_err g r e' hk
      | ok vs => rw [hk] at h; cases h
    · rename_i h0
      simp only [Except.error.injEq] at h; subst h; exact h0
theorem kind_say (g : ByteArray → ByteArray → Int × Int) (t : Tl) (hg : ∀ a f, (g a f).2 = 0 → (t a f).2 = true ∧ ofK (t a f).1 (g a f).1) : ∀ x, allR x = true → (kindX g x).2 = 0 → fine9 (sayP t x) (kindX g x).1 := by
  intro x
  induction x using Ex.ind with
  | h x ih =>
    intro hr hk
    rw [allR_eq, Bool.and_eq_true] at hr
    have key : ∀ (l : List Ex) (ks : List Int), (∀ y ∈ l, y ∈ x.l) → kindsX g l = .ok ks → (∃ vs, saysP t l = .ok vs ∧ ofKs vs ks) ∨ saysP t l = .error 10 ∨ saysP t l = .error 1 := by
      intro l
      induction l with
      | nil => intro ks _ h; simp only [kindsX, Except.ok.injEq] at h; subst h; exact .inl ⟨[], rfl, trivial⟩
      | cons y r ihr =>
        intro ks hy h
        rw [kindsX] at h
        split at h
        · rename_i h0
          cases hkr : kindsX g r with
          | error e => rw [hkr] at h; cases h
          | ok us =>
            rw [hkr] at h; simp only [Except.ok.injEq] at h; subst h
            have f := ih y (hy y (by simp)) (allRs_mem hr.2 (hy y (by simp))) h0
            rcases f with ⟨f1, f2⟩ | f | f
            · rcases ihr us (fun z hz => hy z (by simp [hz])) hkr with ⟨vs, h1, h2⟩ | h1 | h1
              · exact .inl ⟨(sayP t y).1 :: vs, by rw [saysP, if_pos f1, h1], ⟨f2, h2⟩⟩
              · exact .inr (.inl (by rw [saysP, if_pos f1, h1]))
              · exact .inr (.inr (by rw [saysP, if_pos f1, h1]))
            · exact .inr (.inl (by rw [saysP, if_neg (by rw [f]; decide), f]))
            · exact .inr (.inr (by rw [saysP, if_neg (by rw [f]; decide), f]))
        · cases h
    rw [kindX_eq] at hk ⊢
    rw [sayP_eq]
    cases hks : kindsX g x.l with
    | error e => rw [hks] at hk; exact absurd hk (kindsX_err g _ _ hks)
    | ok ks =>
      rw [hks] at hk
      rcases key x.l ks (fun _ h => h) hks with ⟨vs, h1, h2⟩ | h1 | h1
      · rw [h1]
        exact node_say g t hg x hr.1 vs ks (saysP_length t _ _ h1) h2 hk
      · rw [h1]; exact .inr (.inl rfl)
      · rw [h1]; exact .inr (.inr rfl)
/-! ### The table -/
abbrev Row := ByteArray × ByteArray × Vl
def pick (v : List Vl) (j : Nat) (kd : Int) : Vl :=
  match v[j]? with
  | some y => if y.k = kd then y else nullV
  | none => nullV
theorem pick_k (v : List Vl) (j : Nat) (kd : Int) : ofK (pick v j kd) kd := by
  unfold pick
  split
  · split
    · rename_i h; exact .inl h
    · exact .inr rfl
  · exact .inr rfl
def rowOf (v : List Vl) (i : Nat) (a : ByteArray) (k : Nat) : List Row :=
  match fsBuy[k]? with
  | some f => [(a, f.name, pick v (3 * i + k) f.k)]
  | none => []
def rowsOf (v : List Vl) (i : Nat) (a : ByteArray) : List Row := rowOf v i a 0 ++ (rowOf v i a 1 ++ rowOf v i a 2)
def rowsAll (v : List Vl) : Nat → List ByteArray → List Row
  | _, [] => []
  | i, a :: r => rowsOf v i a ++ rowsAll v (i + 1) r
theorem table_rows (v f : ByteArray) : ∀ l : List Row, tableL v f (l.map (·.1)) (l.map (·.2.1)) (l.map (·.2.2)) = match l.find? (fun r => decide (r.1 = v ∧ r.2.1 = f)) with
    | some r => (r.2.2, true)
    | none => (nullV, false)
  | [] => rfl
  | r :: l => by
    have ih := table_rows v f l
    simp only [List.map_cons, tableL, List.tail_cons, ih]
    by_cases h : r.1 = v ∧ r.2.1 = f
    · rw [if_pos h, List.find?_cons_of_pos (by simpa using h)]
    · rw [if_neg h, List.find?_cons_of_neg (by simpa using h)]
theorem rowsOf_eq (v : List Vl) (i : Nat) (a : ByteArray) : rowsOf v i a = [(a, ⟨#[120]⟩, pick v (3 * i + 0) 2), (a, ⟨#[107]⟩, pick v (3 * i + 1) 3), (a, ⟨#[98]⟩, pick v (3 * i + 2) 1)] := rfl
theorem rows_kind (v : List Vl) (a f : ByteArray) (k : Int) (hk : ∀ fd, fsBuy.find? (isF f) = some fd → fd.k = k) (hs : ∃ fd, fsBuy.find? (isF f) = some fd) : ∀ (l : List ByteArray) (i : Nat), a ∈ l →
    ∃ r, (rowsAll v i l).find? (fun r => decide (r.1 = a ∧ r.2.1 = f)) = some r ∧ ofK r.2.2 k := by
  intro l
  induction l with
  | nil => intro i h; cases h
  | cons b r ih =>
    intro i h
    rw [rowsAll, List.find?_append]
    by_cases e : b = a
    · subst e
      obtain ⟨fd, hfd⟩ := hs
      have hk := hk fd hfd
      rw [rowsOf_eq]
      have h3 : fsBuy.find? (isF f) = if (⟨#[120]⟩ : ByteArray) = f then some ⟨⟨#[120]⟩, 2⟩ else if (⟨#[107]⟩ : ByteArray) = f then some ⟨⟨#[107]⟩, 3⟩ else if (⟨#[98]⟩ : ByteArray) = f then some ⟨⟨#[98]⟩, 1⟩ else none := by
        simp only [fsBuy, List.find?, isF]
        by_cases h1 : (⟨#[120]⟩ : ByteArray) = f
        · simp [h1]
        · by_cases h2 : (⟨#[107]⟩ : ByteArray) = f
          · simp [h1, h2]
          · by_cases h3 : (⟨#[98]⟩ : ByteArray) = f <;> simp [h1, h2, h3]
      rw [h3] at hfd
      by_cases h1 : (⟨#[120]⟩ : ByteArray) = f
      · rw [if_pos h1] at hfd; cases hfd
        refine ⟨(b, ⟨#[120]⟩, pick v (3 * i + 0) 2), ?_, by rw [← hk]; exact pick_k _ _ _⟩
        rw [List.find?_cons_of_pos (by simp [h1])]; rfl
      rw [if_neg h1] at hfd
      by_cases h2 : (⟨#[107]⟩ : ByteArray) = f
      · rw [if_pos h2] at hfd; cases hfd
        refine ⟨(b, ⟨#[107]⟩, pick v (3 * i + 1) 3), ?_, by rw [← hk]; exact pick_k _ _ _⟩
        rw [List.find?_cons_of_neg (by simp [h1]), List.find?_cons_of_pos (by simp [h2])]; rfl
      rw [if_neg h2] at hfd
      by_cases h4 : (⟨#[98]⟩ : ByteArray) = f
      · rw [if_pos h4] at hfd; cases hfd
        refine ⟨(b, ⟨#[98]⟩, pick v (3 * i + 2) 1), ?_, by rw [← hk]; exact pick_k _ _ _⟩
        rw [List.find?_cons_of_neg (by simp [h1]), List.find?_cons_of_neg (by simp [h2]), List.find?_cons_of_pos (by simp [h4])]; rfl
      · rw [if_neg h4] at hfd; cases hfd
    · have hm : a ∈ r := by
        rcases List.mem_cons.1 h with h | h
        · exact absurd h.symm e
        · exact h
      obtain ⟨x, h1, h2⟩ := ih (i + 1) hm
      refine ⟨x, ?_, h2⟩
      rw [rowsOf_eq, List.find?_cons_of_neg (by simp [e]), List.find?_cons_of_neg (by simp [e]), List.find?_cons_of_neg (by simp [e])]
      exact h1
/-- what typing knows of a Var's field, the table has -/
theorem typeP_buy (v : ByteArray) : ∀ (l : List ByteArray) (t : ByteArray), typeP v l (List.replicate l.length sBuy) = some t → t = sBuy ∧ v ∈ l
  | [], t, h => by cases h
  | a :: l, t, h => by
    rw [List.length_cons, List.replicate_succ, typeP] at h
    split at h
    · rename_i e
      simp only [Option.some.injEq] at h
      exact ⟨h.symm, by rw [e]; simp⟩
    · obtain ⟨h1, h2⟩ := typeP_buy v l t h
      exact ⟨h1, List.mem_cons_of_mem _ h2⟩
theorem field_table (n : Nm) (hc : n.cs = [scBuy]) (ht : n.types = List.replicate n.vars.length sBuy) (v : List Vl) (a f : ByteArray) (h : (fieldN n a f).2 = 0) :
    (tableL a f ((rowsAll v 0 n.vars).map (·.1)) ((rowsAll v 0 n.vars).map (·.2.1)) ((rowsAll v 0 n.vars).map (·.2.2))).2 = true ∧
    ofK (tableL a f ((rowsAll v 0 n.vars).map (·.1)) ((rowsAll v 0 n.vars).map (·.2.1)) ((rowsAll v 0 n.vars).map (·.2.2))).1 (fieldN n a f).1 := by
  rw [table_rows]
  unfold fieldN at h ⊢
  rw [ht] at h ⊢
  cases htp : typeP a n.vars (List.replicate n.vars.length sBuy) with
  | none => rw [htp] at h; exact absurd h (by show (6 : Int) ≠ 0; decide)
  | some t =>
    obtain ⟨rfl, hm⟩ := typeP_buy a _ _ htp
    have hf : n.cs.find? (isSc sBuy) = some scBuy := by rw [hc]; rfl
    rw [htp] at h
    simp only [hf] at h ⊢
    cases hfd : scBuy.fs.find? (isF f) with
    | none => rw [hfd] at h; exact absurd h (by show (6 : Int) ≠ 0; decide)
    | some fd =>
      obtain ⟨r, h1, h2⟩ := rows_kind v a f fd.k (fun fd' h' => by
        have : some fd' = some fd := h'.symm.trans hfd
        cases this; rfl) ⟨fd, hfd⟩ n.vars 0 hm
      rw [h1]
      exact ⟨rfl, h2⟩
end Go.Hx
