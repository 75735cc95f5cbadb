/- Contracts of layer 11, third part: what conditions say. Own work (session 2). -/
import Derived.Test.YthhghcekcgonnaaS3G
set_option maxRecDepth 20000
namespace Go.Hx
/-- a function that tells values -/
def Tells (H : Heap) (tell : AV) (t : ByteArray → ByteArray → Vl × Bool) : Prop :=
  ∀ v f H' K, HExt H H' → K (.tup [encV (t v f).1, B (t v f).2]) H' → callA (Ev Pg Hs) tell [S v, S f] H' K
theorem Tells.ext {H H' : Heap} {tell : AV} {t : ByteArray → ByteArray → Vl × Bool} (h : Tells H tell t) (he : HExt H H') : Tells H' tell t :=
  fun v f H'' K he' hk => h v f H'' K (he.trans he') hk
abbrev Tl := ByteArray → ByteArray → Vl × Bool
def fieldP (t : Tl) (x : Ex) : Vl × Int :=
  if (t x.var x.fld).2 = false then (nullV, 6) else if rightV (t x.var x.fld).1 = false then (nullV, 1) else ((t x.var x.fld).1, 0)
theorem c63 (t : Tl) (tell : AV) (x : Ex) (H : Heap) (Q : Post) (ht : Tells H tell t) (hq : Q (encR (fieldP t x)) H) : E 63 [encX x, tell] H Q := by
  have p4 : (encC x)[4]? = some (S x.var) := by rw [encC_eq]; rfl
  have p5 : (encC x)[5]? = some (S x.fld) := by rw [encC_eq]; rfl
  rw [f63_eq, szX, ob_some, part_f, p4, ob_some, part_f, p5, ob_some]
  refine ht _ _ H _ (HExt.refl H) ?_
  have y0 : ∀ x y, extractA (.tup [x, y]) 0 = some x := fun _ _ => rfl
  have y1 : ∀ x y, extractA (.tup [x, y]) 1 = some y := fun _ _ => rfl
  simp only [y0, y1, ob_some, sz3, spl3, part3, not_B, c43, c73]
  simp only [fieldP] at hq
  refine cnd_intro (fun h => ?_) (fun h => cnd_intro (fun h' => ?_) (fun h' => ?_))
  · rw [if_pos (by simpa using h)] at hq; exact hq
  · rw [if_neg (by simpa using h), if_pos (by simpa using h')] at hq; exact hq
  · rw [if_neg (by simpa using h), if_neg (by simpa using h')] at hq; exact hq
def nodeP (t : Tl) (x : Ex) (vs : List Vl) : Vl × Int :=
  if x.k = 1 then (x.v, 0) else if x.k = 2 then fieldP t x
  else if x.k = 15 ∨ x.k = 16 ∨ x.k = 17 then logicP x.k vs
  else if x.k ≤ 8 then numberP x.k vs else comparedP x.k (vs.getD 0 nullV) (vs.getD 1 nullV)
mutual
def sayP (t : Tl) : Ex → Vl × Int
  | .mk k v var fld sz nil tip l => match saysP t l with
    | .error e => (nullV, e)
    | .ok vs => nodeP t (.mk k v var fld sz nil tip l) vs
def saysP (t : Tl) : List Ex → Except Int (List Vl)
  | [] => .ok []
  | x :: r => if (sayP t x).2 = 0 then (match saysP t r with | .ok vs => .ok ((sayP t x).1 :: vs) | .error e => .error e) else .error (sayP t x).2
end
theorem sayP_eq (t : Tl) (x : Ex) : sayP t x = match saysP t x.l with
    | .error e => (nullV, e)
    | .ok vs => nodeP t x vs := by
  cases x; simp [sayP, Ex.l]
theorem saysP_length (t : Tl) : ∀ (l : List Ex) (vs : List Vl), saysP t l = .ok vs → vs.length = l.length
  | [], vs, h => by simp [saysP] at h; simp [← h]
  | x :: r, vs, h => by
    simp only [saysP] at h
    split at h
    · split at h
      · rename_i us hu
        cases h
        simp [saysP_length t r us hu]
      · cases h
    · cases h
mutual
/-- may all nodes be -/
def allR : Ex → Bool
  | .mk k v var fld sz nil tip l => rightP (.mk k v var fld sz nil tip l) && allRs l
def allRs : List Ex → Bool
  | [] => true
  | x :: r => allR x && allRs r
end
theorem allR_eq (x : Ex) : allR x = (rightP x && allRs x.l) := by cases x; simp [allR, Ex.l]
theorem allRs_mem {l : List Ex} (h : allRs l = true) {x : Ex} (hx : x ∈ l) : allR x = true := by
  induction l with
  | nil => cases hx
  | cons y r ih =>
    simp only [allRs, Bool.and_eq_true] at h
    cases hx with
    | head => exact h.1
    | tail _ hx => exact ih h.2 hx
/-- of a node that may be and has parts -/
theorem rightP_len {x : Ex} (h : rightP x = true) (h1 : x.k ≠ 1) (h2 : x.k ≠ 2) : (x.k = 3 ∧ x.l.length = 1) ∨ (x.k = 15 ∧ x.l.length = 1) ∨ (4 ≤ x.k ∧ x.k ≤ 14 ∧ x.l.length = 2) ∨ ((x.k = 16 ∨ x.k = 17) ∧ 2 ≤ x.l.length) := by
  simp only [rightP, if_neg h1, if_neg h2] at h
  split at h
  · cases h
  · split at h
    · rename_i h3; simp at h; omega
    · split at h
      · rename_i h3; simp at h; omega
      · simp [isRowP] at h; omega
theorem c44_l (t : Tl) (tell : AV) (x : Ex) (H : Heap) (Q : Post) (ht : Tells H tell t) (hok : allX okX x) (hr : rightP x = true)
    (ih : ∀ y ∈ x.l, ∀ (H1 : Heap) (K : Post), HExt H H1 → (∀ H', HExt H1 H' → K (encR (sayP t y)) H') → E 44 [encX y, tell] H1 K) :
    ∀ (r pre : List Ex) (acc : List Vl) (s : Nat) (nil : Bool) (tip : Tip) (H1 : Heap), x.l = pre ++ r → acc.length = pre.length → HExt H H1 → OwnS H H1 3 acc.length tip → (nil = true ∨ s = 3) → (r = [] → s = 3 ∨ x.l = []) →
    (∀ H', HExt H H' → Q (encR (match saysP t r with | .error e => (nullV, e) | .ok vs => nodeP t x (acc ++ vs))) H') →
    f44_l8 tell (encC x) [I 0, I 0, S e0] (.sl s nil tip (acc.map encV)) (encXs x.sz x.nil x.tip x.l) (I x.l.length) (I pre.length) H1 Q := by
  have hn : x.l.length ≤ 1099511627776 := ((allX_eq _ _).1 hok).1.1
  intro r
  induction r with
  | nil =>
    intro pre acc s nil tip H1 e hacc he ho hs hs3 hq
    have : (pre.length : Int) = x.l.length := by rw [e]; simp
    have hal : acc.length = x.l.length := by rw [e, hacc]; simp
    have p0 : (encC x)[0]? = some (I x.k) := by rw [encC_eq]; rfl
    rw [f44_l8_eq, i_lss, ob_some, cnd_B, this]
    simp only [Int.lt_irrefl, decide_false, Bool.false_eq_true, if_false, part_f, p0, ob_some, i_eql, partXV, sz3, spl3, part3, partX]
    have hq0 := hq H1 he
    simp only [saysP, List.append_nil, nodeP] at hq0
    refine cnd_intro (fun h => ?_) (fun h => cnd_intro (fun h' => ?_) (fun h' => ?_))
    · rw [if_pos (by simpa using h)] at hq0; exact hq0
    · rw [if_neg (by simpa using h), if_pos (by simpa using h')] at hq0
      refine c63 t tell x H1 _ (ht.ext he) ?_
      simp only [ext0, ext1, ob_some, sz3, spl3, part3]
      exact hq0
    have h1 : ¬ x.k = 1 := by simpa using h
    have h2 : ¬ x.k = 2 := by simpa using h'
    rw [if_neg h1, if_neg h2] at hq0
    have hlen := rightP_len hr h1 h2
    have hs3 : s = 3 := by
      rcases hs3 rfl with h | h
      · exact h
      · rw [h] at hlen; simp at hlen
    subst hs3
    have hv : AV.sl 3 nil tip (acc.map encV) = encVs nil tip acc := rfl
    rw [hv]
    have j62 : ∀ b : Bool, b = decide (x.k = 15 ∨ x.k = 16) → f44_j62 (encC x) [I 0, I 0, S e0] (encVs nil tip acc) (I x.k) (B b) H1 Q := fun b hb => by
      simp only [f44_j62_eq, part_f, p0, ob_some, i_eql, i_leq, c64 x.k acc nil tip (by omega), ext0, ext1, sz3, spl3, part3]
      refine cnd_intro (fun h => ?_) (fun h => cnd_intro (fun h' => ?_) (fun h' => cnd_intro (fun h'' => ?_) (fun h'' => ?_)))
      · have h15 : x.k = 15 ∨ x.k = 16 := by rw [hb] at h; simpa using h
        rw [if_pos (by omega)] at hq0; exact hq0
      · have h17 : x.k = 17 := by simpa using h'
        rw [if_pos (by omega)] at hq0; exact hq0
      · have h15 : ¬ (x.k = 15 ∨ x.k = 16) := by rw [hb] at h; simpa using h
        have h17 : ¬ x.k = 17 := by simpa using h'
        have h3 : ¬ (x.k = 15 ∨ x.k = 16 ∨ x.k = 17) := by omega
        refine c65 x.k acc nil tip (fun e => by subst e; simp at hal; omega) (by omega) H1 _ (fun H2 he2 => ?_)
        simp only [ext0, ext1, ob_some, sz3, spl3, part3]
        have := hq H2 (he.trans he2)
        simp only [saysP, List.append_nil, nodeP, if_neg h1, if_neg h2, if_neg h3] at this
        rw [if_pos (by simpa using h'')] at this
        exact this
      · have h15 : ¬ (x.k = 15 ∨ x.k = 16) := by rw [hb] at h; simpa using h
        have h17 : ¬ x.k = 17 := by simpa using h'
        have h3 : ¬ (x.k = 15 ∨ x.k = 16 ∨ x.k = 17) := by omega
        have h4 : ¬ x.k ≤ 8 := by simpa using h''
        rw [if_neg h3, if_neg h4] at hq0
        have hl2 : acc.length = 2 := by omega
        match acc, hl2 with
        | [a, b], _ =>
          have i0 : ixaA 3 (encVs nil tip [a, b]) (I 0) = some [I a.k, I a.n, S a.s] := rfl
          have i1 : ixaA 3 (encVs nil tip [a, b]) (I 1) = some [I b.k, I b.n, S b.s] := rfl
          simp only [i0, i1, ob_some, part3, c66, ext0, ext1, sz3, spl3]
          exact hq0
    refine cnd_intro (fun h => ?_) (fun h => ?_)
    · rw [h]; exact j62 true (by simp at h; simp [h])
    · exact j62 _ (by simp at h; simp [h])
  | cons y r ihr =>
    intro pre acc s nil tip H1 e hacc he ho hs hs3 hq
    have hlt : pre.length < x.l.length := by rw [e]; simp
    have hlt' : (pre.length : Int) < x.l.length := by omega
    rw [f44_l8_eq, i_lss, ob_some, cnd_B, if_pos (by simpa using hlt'), ixX x.l x.sz x.nil x.tip pre r y e]
    simp only [ob_some, partX, szX, splX]
    refine ih y (by rw [e]; simp) H1 _ he (fun H2 he2 => ?_)
    simp only [ext0, ext1, ob_some, sz3, spl3, part3, i_neq, c43]
    refine cnd_intro (fun h => ?_) (fun h => ?_)
    · have := hq H2 (he.trans he2)
      have h0 : ¬ (sayP t y).2 = 0 := by simpa using h
      simp only [saysP, if_neg h0] at this
      exact this
    · have h0 : (sayP t y).2 = 0 := by simpa using h
      rw [mk1 3 (encV (sayP t y).1) (sz3 _), ob_some]
      have ho2 : OwnS H H2 3 acc.length tip := by
        cases tip with
        | any => exact ho
        | full => trivial
        | tip b => exact ⟨((he2 b (fun hf => by have := ho.1; rw [hf.2] at this; cases this)).2).trans ho.1, ho.2⟩
      refine app_own (H0 := H) _ (he.trans he2) (by simpa using ho2) hs (by omega) (by simp; omega) (fun tip' H3 he3 ho3 => ?_)
      rw [i_add, ob_some, w64_succ hlt (by omega)]
      have := ihr (pre ++ [y]) (acc ++ [(sayP t y).1]) 3 false tip' H3 (by simp [e]) (by simp [hacc]) he3 (by simpa using ho3) (.inr rfl) (fun _ => .inl rfl) (fun H' hx => by
        have := hq H' hx
        simp only [saysP, if_pos h0] at this
        cases hsr : saysP t r with
        | error e => rw [hsr] at this; exact this
        | ok vs => rw [hsr] at this; simp only [List.append_assoc, List.singleton_append]; exact this)
      rw [List.length_append, List.length_singleton, List.map_append] at this
      exact this
theorem c44 (t : Tl) (tell : AV) : ∀ (x : Ex), allX okX x → allR x = true → ∀ (H : Heap) (Q : Post), Tells H tell t → (∀ H', HExt H H' → Q (encR (sayP t x)) H') → E 44 [encX x, tell] H Q := by
  intro x
  induction x using Ex.ind with
  | h x ih =>
    intro hok hr H Q ht hq
    rw [allR_eq, Bool.and_eq_true] at hr
    have p6 : (encC x)[6]? = some (encXs x.sz x.nil x.tip x.l) := by rw [encC_eq]; rfl
    rw [f44_eq, szX, ob_some, part_f, p6, ob_some, lenX, ob_some]
    refine c44_l t tell x H Q ht hok hr.1 (fun y hy H1 K he hk => ih y hy (allXs_mem ((allX_eq _ _).1 hok).2 hy) (allRs_mem hr.2 hy) H1 K (ht.ext he) hk) x.l [] [] 0 true .full H rfl rfl (HExt.refl H) trivial (.inl rfl) (fun h => .inr h) (fun H' he => ?_)
    have := hq H' he
    rw [sayP_eq] at this
    simpa using this
end Go.Hx
