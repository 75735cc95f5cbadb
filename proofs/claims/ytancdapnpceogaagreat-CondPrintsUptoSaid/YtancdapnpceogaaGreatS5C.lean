/- Contracts of layer 9: conditions may be. Own work (turned from S3E). -/
import Derived.Test.YtancdapnpceogaaGreatS5B
set_option maxRecDepth 20000
namespace Go.Hx
inductive Ex where
  | mk (k : Int) (v : Vl) (var fld : ByteArray) (sz : Nat) (nil : Bool) (tip : Tip) (l : List Ex)
namespace Ex
def k : Ex → Int | mk k _ _ _ _ _ _ _ => k
def v : Ex → Vl | mk _ v _ _ _ _ _ _ => v
def var : Ex → ByteArray | mk _ _ v _ _ _ _ _ => v
def fld : Ex → ByteArray | mk _ _ _ f _ _ _ _ => f
def sz : Ex → Nat | mk _ _ _ _ s _ _ _ => s
def nil : Ex → Bool | mk _ _ _ _ _ n _ _ => n
def tip : Ex → Tip | mk _ _ _ _ _ _ t _ => t
def l : Ex → List Ex | mk _ _ _ _ _ _ _ l => l
end Ex
theorem Ex.ind {p : Ex → Prop} (h : ∀ x, (∀ y ∈ x.l, p y) → p x) (x : Ex) : p x :=
  Ex.rec (motive_1 := p) (motive_2 := fun l => ∀ y ∈ l, p y) (fun _ _ _ _ _ _ _ _ ih => h _ ih) (fun _ hy => by cases hy)
    (fun _ _ hz hr y hy => by
      cases hy with
      | head => exact hz
      | tail _ hy => exact hr y hy) x
mutual
def encC : Ex → List AV
  | .mk k v var fld sz nil tip l => [I k, I v.k, I v.n, S v.s, S var, S fld, .sl sz nil tip (encCs l)]
def encCs : List Ex → List AV
  | [] => []
  | x :: r => .agg (encC x) :: encCs r
end
def encX (x : Ex) : AV := .agg (encC x)
theorem encCs_map (l : List Ex) : encCs l = l.map encX := by
  induction l with
  | nil => simp [encCs]
  | cons x r ih => simp [encCs, ih, encX]
def encXs (sz : Nat) (nil : Bool) (tip : Tip) (l : List Ex) : AV := .sl sz nil tip (l.map encX)
theorem encC_eq (x : Ex) : encC x = [I x.k, I x.v.k, I x.v.n, S x.v.s, S x.var, S x.fld, encXs x.sz x.nil x.tip x.l] := by
  cases x; simp [encC, encXs, encCs_map, Ex.k, Ex.v, Ex.var, Ex.fld, Ex.sz, Ex.nil, Ex.tip, Ex.l]
mutual
def sizeX : Ex → Nat
  | .mk _ _ _ _ _ _ _ l => 1 + sizeXs l
def sizeXs : List Ex → Nat
  | [] => 0
  | x :: r => sizeX x + sizeXs r
end
/-- cells of a node -/
theorem szX (x : Ex) : sizedA 7 (encX x) = some (encC x) := by
  have : (encC x).length = 7 := by rw [encC_eq]; rfl
  simp [encX, sizedA, cellsA, this]
theorem partX (x : Ex) : partA true 0 7 (encC x) = some (encX x) := by
  have : encC x = (encC x) := rfl
  rw [encC_eq]
  show some (AV.agg [I x.k, I x.v.k, I x.v.n, S x.v.s, S x.var, S x.fld, encXs x.sz x.nil x.tip x.l]) = _
  rw [encX, encC_eq]
theorem splX (x : Ex) : spliceA 0 (encC x) [I 0, I 0, I 0, S e0, S e0, S e0, AV.sl 0 true .full []] = some (encC x) := by
  rw [encC_eq]; rfl
theorem partXV (x : Ex) : partA true 1 3 (encC x) = some (encV x.v) := by rw [encC_eq]; rfl
theorem ixX (l : List Ex) (sz : Nat) (nil : Bool) (tip : Tip) (pre r : List Ex) (x : Ex) (e : l = pre ++ x :: r) : ixaA 7 (encXs sz nil tip l) (I pre.length) = some (encC x) :=
  ix_mk 7 nil tip _ pre.length (x := encX x) (by rw [e]; exact get_mid encX pre r x) (szX x)
theorem lenX (sz : Nat) (nil : Bool) (tip : Tip) (l : List Ex) : lenA (encXs sz nil tip l) = some (I l.length) := by simp [encXs, len_sl]

def isRowP (k : Int) : Bool := decide (k = 16) || decide (k = 17)
theorem c125 (k : Int) (H : Heap) (Q : Post) : E 125 [I k] H Q = Q (B (isRowP k)) H := by
  simp only [f125_eq, f125_j4_eq, i_eql, ob_some, cnd_B, decide_eq_true_eq, isRowP]
  split <;> rename_i h <;> simp only [h, decide_true, decide_false, Bool.true_or, Bool.false_or]
def bareP (x : Ex) : Bool := decide (x.v = nullV) && (decide (x.var = e0) && decide (x.fld = e0))
theorem c123 (x : Ex) (H : Heap) (Q : Post) : E 123 [encX x] H Q = Q (B (bareP x)) H := by
  have hb : bldA [] [I 0, I 0, S e0] = some (encV nullV) := rfl
  simp only [f123_eq, f123_j4_eq, szX, partXV, hb, v_eql, ob_some, part_f]
  simp only [encC_eq, List.getElem?_cons_zero, List.getElem?_cons_succ, ob_some, s_eql, cnd_B, decide_eq_true_eq, bareP]
  repeat' split
  all_goals simp_all
theorem c124 (x y : Ex) (b : Nat) (H : Heap) (Q : Post) (hb : H.objs b = some (.cells (encC x))) : E 124 [encX y, Pt b] H Q = Q (B (decide (y.k = x.k))) H := by
  have h0 : addPA (Pt b) 0 = some (Pt b) := rfl
  rw [f124_eq]
  simp only [szX, ob_some, part_f, h0, ld_Pt hb]
  simp only [encC_eq, List.getElem?_cons_zero, ob_some, i_eql]
def ownIx (k : Int) : Nat → List Ex → Int
  | _, [] => -1
  | i, y :: r => if y.k = k then i else ownIx k (i + 1) r
theorem c201_l (x : Ex) (b : Nat) (H : Heap) (hb : H.objs b = some (.cells (encC x))) (sz : Nat) (nil : Bool) (tip : Tip) (l : List Ex) (hn : l.length ≤ 1099511627776) (Q : Post) : ∀ (r pre : List Ex), l = pre ++ r →
    f201_l6 (encXs sz nil tip l) (.fn (.func 124) [] [Pt b]) (I l.length) (I pre.length) H Q = Q (I (ownIx x.k pre.length r)) H := by
  intro r
  induction r with
  | nil =>
    intro pre e
    have : (pre.length : Int) = l.length := by rw [e]; simp
    rw [f201_l6_eq, i_lss, ob_some, cnd_B, this]
    simp [ownIx]
  | cons y r ih =>
    intro pre e
    have hlt : pre.length < l.length := by rw [e]; simp
    have hlt' : (pre.length : Int) < l.length := by omega
    have ih := ih (pre ++ [y]) (by simp [e])
    rw [f201_l6_eq, i_lss, ob_some, cnd_B, if_pos (by simpa using hlt'), ixX l sz nil tip pre r y e, ob_some, partX, ob_some]
    show E 124 [encX y, Pt b] H _ = _
    rw [c124 x y b H _ hb, cnd_B, i_add, ob_some, w64_succ hlt (by omega)]
    rw [List.length_append, List.length_singleton] at ih
    rw [ih]
    simp only [ownIx, decide_eq_true_eq]
    split <;> rfl
theorem ownIx_ge (k : Int) (i : Nat) (l : List Ex) : decide (0 ≤ ownIx k i l) = l.any fun y => decide (y.k = k) := by
  induction l generalizing i with
  | nil => simp [ownIx]
  | cons v r ih =>
    simp only [ownIx, List.any_cons]
    split
    · rename_i h; simp [h]
    · rename_i h; simp only [h, decide_false, Bool.false_or]; exact ih (i + 1)
theorem c126 (x : Ex) (b : Nat) (H : Heap) (hb : H.objs b = some (.cells (encC x))) (sz : Nat) (nil : Bool) (tip : Tip) (l : List Ex) (hn : l.length ≤ 1099511627776) (Q : Post) :
    E 126 [encXs sz nil tip l, .fn (.func 124) [] [Pt b]] H Q = Q (B (l.any fun y => decide (y.k = x.k))) H := by
  have := fun K => c201_l x b H hb sz nil tip l hn K l [] rfl
  rw [f126_eq, f201_eq, lenX, ob_some]
  refine (this _).trans ?_
  rw [i_geq, ob_some, ownIx_ge]

/-- may a node be -/
def rightP (x : Ex) : Bool :=
  if x.k = 1 then decide (x.l.length = 0) && (rightV x.v && (decide (x.var = e0) && decide (x.fld = e0)))
  else if x.k = 2 then decide (x.l.length = 0) && (decide (x.v = nullV) && (nameL x.var.data.toList && nameL x.fld.data.toList))
  else if bareP x = false then false
  else if x.k = 3 ∨ x.k = 15 then decide (x.l.length = 1)
  else if 4 ≤ x.k ∧ x.k ≤ 14 then decide (x.l.length = 2)
  else isRowP x.k && (decide (2 ≤ x.l.length) && !(x.l.any fun y => decide (y.k = x.k)))
theorem len0 (n : Nat) : decide ((n : Int) = 0) = decide (n = 0) := by rw [Bool.eq_iff_iff]; simp
theorem len1 (n : Nat) : decide ((n : Int) = 1) = decide (n = 1) := by rw [Bool.eq_iff_iff]; simp; omega
theorem len2 (n : Nat) : decide ((n : Int) = 2) = decide (n = 2) := by rw [Bool.eq_iff_iff]; simp; omega
theorem len2' (n : Nat) : decide (2 ≤ (n : Int)) = decide (2 ≤ n) := by rw [Bool.eq_iff_iff]; simp; omega
theorem c58 (x : Ex) (hl : x.l.length ≤ 1099511627776) (hv : x.var.size ≤ 1099511627776) (hf : x.fld.size ≤ 1099511627776) (H : Heap) (Q : Post) (hq : ∀ H', HExt H H' → Q (B (rightP x)) H') : E 58 [encX x] H Q := by
  have p6 : (encC x)[6]? = some (encXs x.sz x.nil x.tip x.l) := by rw [encC_eq]; rfl
  have p0 : (encC x)[0]? = some (I x.k) := by rw [encC_eq]; rfl
  have p4 : (encC x)[4]? = some (S x.var) := by rw [encC_eq]; rfl
  have p5 : (encC x)[5]? = some (S x.fld) := by rw [encC_eq]; rfl
  have hb : bldA [] [I 0, I 0, S e0] = some (encV nullV) := rfl
  have q0 := fun H' hx => hq H' hx
  simp only [rightP] at q0
  have t12 : ∀ {b : Bool} {H'}, Q (B b) H' → f58_c3_12a (encC x) (B b) H' Q → True := fun _ _ => trivial
  simp only [f58_eq, szX, ob_some, part_f, p6, p0, lenX, i_eql, len0]
  refine cnd_intro (fun h1 => ?_) (fun h1 => ?_)
  · have h1 : x.k = 1 := by simpa using h1
    simp only [h1, if_true] at q0
    have hF : ∀ H', HExt H H' → (decide (x.l.length = 0) && (rightV x.v && (decide (x.var = e0) && decide (x.fld = e0)))) = false → f58_j11 (B false) H' Q := fun H' hx hr => by
      rw [f58_j11_eq]; have := q0 H' hx; rw [hr] at this; exact this
    simp only [f58_c3_7a_eq, f58_c3_7b_eq, f58_c3_12a_eq, f58_c3_12b_eq, f58_c3_17a_eq, f58_c3_17b_eq, partXV, ob_some, c121, p4, p5, part_f, s_eql]
    refine cnd_intro (fun h2 => cnd_intro (fun h3 => cnd_intro (fun h4 => ?_) (fun h4 => ?_)) (fun h3 => ?_)) (fun h2 => ?_)
    · rw [f58_j11_eq]
      have := q0 H (HExt.refl H)
      simp only [h2, h3, h4, Bool.true_and] at this
      exact this
    · exact hF H (HExt.refl H) (by simp only [h4, Bool.false_and, Bool.and_false])
    · exact hF H (HExt.refl H) (by simp only [h3, Bool.false_and, Bool.and_false])
    · exact hF H (HExt.refl H) (by simp only [h2, Bool.false_and])
  have h1 : ¬ x.k = 1 := by simpa using h1
  simp only [h1, if_false] at q0
  refine cnd_intro (fun h2 => ?_) (fun h2 => ?_)
  · have h2 : x.k = 2 := by simpa using h2
    simp only [h2, if_true] at q0
    have hF : ∀ H', HExt H H' → (decide (x.l.length = 0) && (decide (x.v = nullV) && (nameL x.var.data.toList && nameL x.fld.data.toList))) = false → f58_j17 (B false) H' Q := fun H' hx hr => by
      rw [f58_j17_eq]; have := q0 H' hx; rw [hr] at this; exact this
    simp only [f58_c5_8a_eq, f58_c5_8b_eq, f58_c5_13a_eq, f58_c5_13b_eq, f58_c5_18a_eq, f58_c5_18b_eq, partXV, hb, ob_some, v_eql, p4, p5, part_f, s_eql]
    refine cnd_intro (fun h3 => cnd_intro (fun h4 => ?_) (fun h4 => ?_)) (fun h3 => ?_)
    · refine c122 _ hv _ _ (fun H1 e1 => cnd_intro (fun h5 => ?_) (fun h5 => ?_))
      · refine c122 _ hf _ _ (fun H2 e2 => ?_)
        rw [f58_j17_eq]
        have := q0 H2 (e1.trans e2)
        simp only [h3, h4, h5, Bool.true_and] at this
        exact this
      · exact hF H1 e1 (by simp only [h5, Bool.false_and, Bool.and_false])
    · exact hF H (HExt.refl H) (by simp only [h4, Bool.false_and, Bool.and_false])
    · exact hF H (HExt.refl H) (by simp only [h3, Bool.false_and])
  have h2 : ¬ x.k = 2 := by simpa using h2
  simp only [h2, if_false] at q0
  simp only [partX, ob_some, c123, not_B]
  refine cnd_intro (fun h3 => ?_) (fun h3 => ?_)
  · have h3 : bareP x = false := by simpa using h3
    have := q0 H (HExt.refl H)
    simp only [h3, if_true] at this
    exact this
  have h3 : bareP x = true := by simpa using h3
  simp only [h3, Bool.true_eq_false, if_false] at q0
  have j30 : ∀ b : Bool, b = decide (x.k = 3 ∨ x.k = 15) → f58_j30 (encC x) (I x.l.length) (B b) H Q := fun b hbb => by
    simp only [f58_j30_eq, f58_j36_eq, i_eql, i_geq, i_leq, part_f, p0, ob_some, len1, len2, len2']
    refine cnd_intro (fun h4 => ?_) (fun h4 => ?_)
    · have := q0 H (HExt.refl H)
      rw [if_pos (by simpa [hbb] using h4)] at this
      exact this
    have h4 : ¬ (x.k = 3 ∨ x.k = 15) := by simpa [hbb] using h4
    simp only [if_neg h4] at q0
    have fin : ¬ (4 ≤ x.k ∧ x.k ≤ 14) → newH H (encC x) (fun r40 H41 => ob (addPA r40 0) fun r42 => ob (ldH H41 false 1 r42) fun r43 => E 125 [r43] H41 fun r44 H45 => cndA r44
        (cndA (B (decide (2 ≤ x.l.length))) (ob (addPA r40 6) fun r47 => ob (ldH H45 false 1 r47) fun r48 => E 126 [r48, AV.fn (.func 124) [] [r40]] H45 fun r49 H50 => ob (unA .not r49) fun r51 => f58_j45 r51 H50 Q) (f58_j45 (B false) H45 Q))
        (f58_j45 (B false) H45 Q)) := fun h5 b hf => by
      have hob := setObj_same H b (.cells (encC x))
      have he : HExt H (H.setObj b (.cells (encC x))) := (HExt.refl H).setObj hf _
      simp only [Pt_def]
      generalize H.setObj b (.cells (encC x)) = H1 at hob he ⊢
      have a0 : addPA (Pt b) 0 = some (Pt b) := rfl
      have a6 : addPA (Pt b) 6 = some (.raw (.pointer (some ⟨b, 6, none⟩))) := by simp [addPA, Pt]
      simp only [a0, a6, ob_some, ld_Pt hob, ld_off hob, part_f, p0, p6, c125, c126 x b H1 hob x.sz x.nil x.tip x.l hl, not_B, f58_j45_eq]
      have := q0 H1 he
      simp only [if_neg h5] at this
      refine cnd_intro (fun h6 => cnd_intro (fun h7 => ?_) (fun h7 => ?_)) (fun h6 => ?_)
      · simp only [h6, h7, Bool.true_and] at this; exact this
      · simp only [h7, Bool.false_and, Bool.and_false] at this; exact this
      · simp only [h6, Bool.false_and] at this; exact this
    refine cnd_intro (fun h5 => cnd_intro (fun h6 => ?_) (fun h6 => ?_)) (fun h5 => ?_)
    · have := q0 H (HExt.refl H)
      rw [if_pos (by simp at h5 h6; omega)] at this
      exact this
    · exact fin (by simp at h5 h6; omega)
    · exact fin (by simp at h5; omega)
  refine cnd_intro (fun h4 => ?_) (fun h4 => ?_)
  · rw [h4]; exact j30 true (by simp at h4; simp [h4])
  · have h4 : ¬ x.k = 3 := by simpa using h4
    exact j30 _ (by simp [h4])

/-! ### Over all nodes -/
/-- a function that is called for each node: what it keeps, how it steps -/
structure Step (σ : Type) (y : AV) (St : σ → Heap → Prop) (f : σ → Int → Ex → σ) (ok : Ex → Prop) : Prop where
  call : ∀ (s : σ) (H : Heap) (d : Int) (x : Ex) (K : Post), ok x → St s H → (∀ H', St (f s d x) H' → K (B true) H') → callA (Ev Pg Hs) y [I d, encX x] H K
mutual
def foldX {σ : Type} (f : σ → Int → Ex → σ) : σ → Int → Ex → σ
  | s, d, .mk k v var fld sz nil tip l => foldXs f (f s d (.mk k v var fld sz nil tip l)) (W64 (d + 1)) l
def foldXs {σ : Type} (f : σ → Int → Ex → σ) : σ → Int → List Ex → σ
  | s, _, [] => s
  | s, d, x :: r => foldXs f (foldX f s d x) d r
end
mutual
/-- of all nodes -/
def allX (p : Ex → Prop) : Ex → Prop
  | .mk k v var fld sz nil tip l => p (.mk k v var fld sz nil tip l) ∧ allXs p l
def allXs (p : Ex → Prop) : List Ex → Prop
  | [] => True
  | x :: r => allX p x ∧ allXs p r
end
theorem foldX_eq {σ : Type} (f : σ → Int → Ex → σ) (s : σ) (d : Int) (x : Ex) : foldX f s d x = foldXs f (f s d x) (W64 (d + 1)) x.l := by
  cases x; simp [foldX, Ex.l]
theorem allX_eq (p : Ex → Prop) (x : Ex) : allX p x ↔ p x ∧ allXs p x.l := by
  cases x; simp [allX, Ex.l]
theorem allXs_mem {p : Ex → Prop} {l : List Ex} (h : allXs p l) {x : Ex} (hx : x ∈ l) : allX p x := by
  induction l with
  | nil => cases hx
  | cons y r ih =>
    simp only [allXs] at h
    cases hx with
    | head => exact h.1
    | tail _ hx => exact ih h.2 hx
/-- small enough to be gone over -/
def okX (x : Ex) : Prop := x.l.length ≤ 1099511627776 ∧ x.var.size ≤ 1099511627776 ∧ x.fld.size ≤ 1099511627776
section walk
variable {σ : Type} {y : AV} {St : σ → Heap → Prop} {f : σ → Int → Ex → σ} {b2 b4 : Nat}
theorem c120_l (hy : Step σ y St f okX) (h2 : ∀ s H, St s H → H.objs b2 = some (.cells [y]) ∧ H.objs b4 = some (.cells [.fn (.func 120) [] [Pt b2, Pt b4]])) (d : Int) (Q : Post) (sz : Nat) (nil : Bool) (tip : Tip) (l : List Ex) (hn : l.length ≤ 1099511627776)
    (ih : ∀ x ∈ l, ∀ (s : σ) (H : Heap) (d : Int) (K : Post), St s H → (∀ H', St (foldX f s d x) H' → K (B true) H') → E 120 [I d, encX x, Pt b2, Pt b4] H K) : ∀ (r pre : List Ex) (s : σ) (H : Heap), l = pre ++ r → St s H →
    (∀ H', St (foldXs f s (W64 (d + 1)) r) H' → Q (B true) H') → f120_l14 (I d) (Pt b4) (encXs sz nil tip l) (I l.length) (I pre.length) H Q := by
  intro r
  induction r with
  | nil =>
    intro pre s H e hs hq
    have : (pre.length : Int) = l.length := by rw [e]; simp
    rw [f120_l14_eq, i_lss, ob_some, cnd_B, this]
    simp only [Int.lt_irrefl, decide_false, Bool.false_eq_true, if_false]
    exact hq H (by simpa [foldXs] using hs)
  | cons x r ihr =>
    intro pre s H e hs hq
    have hlt : pre.length < l.length := by rw [e]; simp
    have hlt' : (pre.length : Int) < l.length := by omega
    obtain ⟨g1, g2⟩ := h2 s H hs
    rw [f120_l14_eq, i_lss, ob_some, cnd_B, if_pos (by simpa using hlt'), ixX l sz nil tip pre r x e, ob_some, partX, ob_some, szX, ob_some, splX, ob_some, ld_Pt g2]
    simp only [part_f, List.getElem?_cons_zero, ob_some, i_add, partX]
    show E 120 [I (W64 (d + 1)), encX x, Pt b2, Pt b4] H _
    refine ih x (by rw [e]; simp) s H _ _ hs (fun H' hs' => ?_)
    rw [not_B, ob_some, cnd_B]
    simp only [Bool.not_true, Bool.false_eq_true, if_false, ob_some]
    rw [w64_succ hlt (by omega)]
    have := ihr (pre ++ [x]) _ H' (by simp [e]) hs' (fun H'' hs'' => hq H'' (by simpa [foldXs] using hs''))
    rw [List.length_append, List.length_singleton] at this
    exact this
theorem c120 (hy : Step σ y St f okX) (h2 : ∀ s H, St s H → H.objs b2 = some (.cells [y]) ∧ H.objs b4 = some (.cells [.fn (.func 120) [] [Pt b2, Pt b4]])) : ∀ (x : Ex), allX okX x → ∀ (s : σ) (H : Heap) (d : Int) (Q : Post), St s H → (∀ H', St (foldX f s d x) H' → Q (B true) H') → E 120 [I d, encX x, Pt b2, Pt b4] H Q := by
  intro x
  induction x using Ex.ind with
  | h x ih =>
    intro hok s H d Q hs hq
    rw [allX_eq] at hok
    obtain ⟨g1, g2⟩ := h2 s H hs
    rw [f120_eq, szX, ob_some, ld_Pt g1]
    simp only [part_f, List.getElem?_cons_zero, ob_some, partX]
    refine hy.call s H d _ _ hok.1 hs (fun H' hs' => ?_)
    rw [not_B, ob_some, cnd_B]
    simp only [Bool.not_true, Bool.false_eq_true, if_false]
    have p6 : (encC x)[6]? = some (encXs x.sz x.nil x.tip x.l) := by rw [encC_eq]; rfl
    rw [p6, ob_some, lenX, ob_some]
    exact c120_l hy h2 d Q x.sz x.nil x.tip x.l hok.1.1 (fun y hy' s H d K => ih y hy' (allXs_mem hok.2 hy') s H d K) x.l [] _ H' rfl hs' (fun H'' hs'' => hq H'' (by rw [foldX_eq]; exact hs''))
end walk
end Go.Hx
