/- Contracts of layer 12: may a pattern be. Own work. -/
import Derived.Test.YtpmkfliolekedaaGreatS4E
set_option maxRecDepth 20000
namespace Go.Hx
inductive Pa where
  | mk (k : Int) (var typ : ByteArray) (lo hi : Int) (sz : Nat) (nil : Bool) (tip : Tip) (l : List Pa)
namespace Pa
def k : Pa → Int | mk k _ _ _ _ _ _ _ _ => k
def var : Pa → ByteArray | mk _ v _ _ _ _ _ _ _ => v
def typ : Pa → ByteArray | mk _ _ v _ _ _ _ _ _ => v
def lo : Pa → Int | mk _ _ _ n _ _ _ _ _ => n
def hi : Pa → Int | mk _ _ _ _ n _ _ _ _ => n
def sz : Pa → Nat | mk _ _ _ _ _ s _ _ _ => s
def nil : Pa → Bool | mk _ _ _ _ _ _ n _ _ => n
def tip : Pa → Tip | mk _ _ _ _ _ _ _ t _ => t
def l : Pa → List Pa | mk _ _ _ _ _ _ _ _ l => l
end Pa
theorem Pa.ind {p : Pa → Prop} (h : ∀ x, (∀ y ∈ x.l, p y) → p x) (x : Pa) : p x :=
  Pa.rec (motive_1 := p) (motive_2 := fun l => ∀ y ∈ l, p y) (fun _ _ _ _ _ _ _ _ _ ih => h _ ih) (fun _ hy => by cases hy)
    (fun _ _ hz hr y hy => by
      cases hy with
      | head => exact hz
      | tail _ hy => exact hr y hy) x
mutual
def encTC : Pa → List AV
  | .mk k var typ lo hi sz nil tip l => [I k, S var, S typ, I lo, I hi, .sl sz nil tip (encTCs l)]
def encTCs : List Pa → List AV
  | [] => []
  | x :: r => .agg (encTC x) :: encTCs r
end
def encT (x : Pa) : AV := .agg (encTC x)
theorem encTCs_map (l : List Pa) : encTCs l = l.map encT := by
  induction l with
  | nil => simp [encTCs]
  | cons x r ih => simp [encTCs, ih, encT]
def encTs (sz : Nat) (nil : Bool) (tip : Tip) (l : List Pa) : AV := .sl sz nil tip (l.map encT)
theorem encTC_eq (x : Pa) : encTC x = [I x.k, S x.var, S x.typ, I x.lo, I x.hi, encTs x.sz x.nil x.tip x.l] := by
  cases x; simp [encTC, encTs, encTCs_map, Pa.k, Pa.var, Pa.typ, Pa.lo, Pa.hi, Pa.sz, Pa.nil, Pa.tip, Pa.l]
mutual
def sizeT : Pa → Nat
  | .mk _ _ _ _ _ _ _ _ l => 1 + sizeTs l
def sizeTs : List Pa → Nat
  | [] => 0
  | x :: r => sizeT x + sizeTs r
end
theorem sizeT_eq (x : Pa) : sizeT x = 1 + sizeTs x.l := by cases x; simp [sizeT, Pa.l]
theorem szT (x : Pa) : sizedA 6 (encT x) = some (encTC x) := by
  have : (encTC x).length = 6 := by rw [encTC_eq]; rfl
  simp [encT, sizedA, cellsA, this]
theorem partT (x : Pa) : partA true 0 6 (encTC x) = some (encT x) := by
  rw [encTC_eq]
  show some (AV.agg [I x.k, S x.var, S x.typ, I x.lo, I x.hi, encTs x.sz x.nil x.tip x.l]) = _
  rw [encT, encTC_eq]
theorem splT (x : Pa) : spliceA 0 (encTC x) [I 0, S e0, S e0, I 0, I 0, AV.sl 0 true .full []] = some (encTC x) := by
  rw [encTC_eq]; rfl
theorem ixT (l : List Pa) (sz : Nat) (nil : Bool) (tip : Tip) (pre r : List Pa) (x : Pa) (e : l = pre ++ x :: r) : ixaA 6 (encTs sz nil tip l) (I pre.length) = some (encTC x) :=
  ix_mk 6 nil tip _ pre.length (x := encT x) (by rw [e]; exact get_mid encT pre r x) (szT x)
theorem lenT (sz : Nat) (nil : Bool) (tip : Tip) (l : List Pa) : lenA (encTs sz nil tip l) = some (I l.length) := by simp [encTs, len_sl]
theorem p0T (x : Pa) : (encTC x)[0]? = some (I x.k) := by rw [encTC_eq]; rfl
theorem p1T (x : Pa) : (encTC x)[1]? = some (S x.var) := by rw [encTC_eq]; rfl
theorem p2T (x : Pa) : (encTC x)[2]? = some (S x.typ) := by rw [encTC_eq]; rfl
theorem p3T (x : Pa) : (encTC x)[3]? = some (I x.lo) := by rw [encTC_eq]; rfl
theorem p4T (x : Pa) : (encTC x)[4]? = some (I x.hi) := by rw [encTC_eq]; rfl
theorem p5T (x : Pa) : (encTC x)[5]? = some (encTs x.sz x.nil x.tip x.l) := by rw [encTC_eq]; rfl
/-! ### A node with how deep it is -/
def encNd (x : Pa) (d : Int) : AV := .agg (encTC x ++ [I d])
theorem szN (x : Pa) (d : Int) : sizedA 7 (encNd x d) = some (encTC x ++ [I d]) := by
  have : (encTC x ++ [I d]).length = 7 := by rw [encTC_eq]; rfl
  simp only [encNd, sizedA, cellsA, this, if_true]
theorem partN (x : Pa) (d : Int) : partA true 0 7 (encTC x ++ [I d]) = some (encNd x d) := by
  rw [encNd, encTC_eq]; rfl
theorem partNT (x : Pa) (d : Int) : partA true 0 6 (encTC x ++ [I d]) = some (encT x) := by
  rw [encT, encTC_eq]; rfl
theorem nodeB (x : Pa) (d : Int) : bldA [(0, 6, encT x), (6, 1, I d)] [I 0, S e0, S e0, I 0, I 0, AV.sl 0 true .full [], I 0] = some (encNd x d) := by
  rw [encT, encNd, encTC_eq]; rfl
theorem splN (x : Pa) (d : Int) : spliceA 0 (encTC x ++ [I d]) [I 0, S e0, S e0, I 0, I 0, AV.sl 0 true .full [], I 0] = some (encTC x ++ [I d]) := by
  rw [encTC_eq]; rfl
theorem n5 (x : Pa) (d : Int) : (encTC x ++ [I d])[5]? = some (encTs x.sz x.nil x.tip x.l) := by rw [encTC_eq]; rfl
theorem n6 (x : Pa) (d : Int) : (encTC x ++ [I d])[6]? = some (I d) := by rw [encTC_eq]; rfl
/-! ### One node -/
def isLeafT (k : Int) : Bool := decide (k = 1) || (decide (k = 5) || decide (k = 6))
theorem c110 (k : Int) (H : Heap) (Q : Post) : E 110 [I k] H Q = Q (B (isLeafT k)) H := by
  simp only [f110_eq, f110_j4_eq, i_eql, ob_some, cnd_B, decide_eq_true_eq, isLeafT]
  repeat' split
  all_goals simp_all
def countT (lo hi : Int) : Bool :=
  if lo < 1 ∨ 1000 < lo ∨ 1000 < hi then false else if hi = 0 then true else decide (lo ≤ hi) && decide (1 < hi)
theorem c160 (lo hi : Int) (H : Heap) (Q : Post) : E 160 [I lo, I hi] H Q = Q (B (countT lo hi)) H := by
  simp only [f160_eq, f160_j14_eq, f160_j27_eq, i_eql, i_lss, i_gtr, i_geq, ob_some, cnd_B, decide_eq_true_eq, countT]
  by_cases h1 : lo < 1
  · simp [h1]
  · by_cases h2 : 1000 < lo
    · simp [h1, h2]
    · by_cases h3 : 1000 < hi
      · simp [h1, h2, h3]
      · by_cases h4 : hi = 0
        · simp [h1, h2, h4]
        · by_cases h5 : lo ≤ hi <;> simp [h1, h2, h3, h4, h5]
theorem c161 (x y : Pa) (b : Nat) (H : Heap) (Q : Post) (hb : H.objs b = some (.cells (encTC x))) : E 161 [encT y, Pt b] H Q = Q (B (decide (y.k = x.k))) H := by
  have h0 : addPA (Pt b) 0 = some (Pt b) := rfl
  rw [f161_eq]
  simp only [szT, ob_some, part_f, h0, ld_Pt hb, p0T, i_eql]
def ownIT (k : Int) : Nat → List Pa → Int
  | _, [] => -1
  | i, y :: r => if y.k = k then i else ownIT k (i + 1) r
theorem c107_l (x : Pa) (b : Nat) (H : Heap) (hb : H.objs b = some (.cells (encTC x))) (sz : Nat) (nil : Bool) (tip : Tip) (l : List Pa) (hn : l.length ≤ 1099511627776) (Q : Post) : ∀ (r pre : List Pa), l = pre ++ r →
    f107_l6 (encTs sz nil tip l) (.fn (.func 161) [] [Pt b]) (I l.length) (I pre.length) H Q = Q (I (ownIT x.k pre.length r)) H := by
  intro r
  induction r with
  | nil =>
    intro pre e
    have : (pre.length : Int) = l.length := by rw [e]; simp
    rw [f107_l6_eq, i_lss, ob_some, cnd_B, this]
    simp [ownIT]
  | cons y r ih =>
    intro pre e
    have hlt : pre.length < l.length := by rw [e]; simp
    have hlt' : (pre.length : Int) < l.length := by omega
    have ih := ih (pre ++ [y]) (by simp [e])
    rw [f107_l6_eq, i_lss, ob_some, cnd_B, if_pos (by simpa using hlt'), ixT l sz nil tip pre r y e, ob_some, partT, ob_some]
    show E 161 [encT y, Pt b] H _ = _
    rw [c161 x y b H _ hb, cnd_B, i_add, ob_some, w64_succ hlt (by omega)]
    rw [List.length_append, List.length_singleton] at ih
    rw [ih]
    simp only [ownIT, decide_eq_true_eq]
    split <;> rfl
theorem ownIT_ge (k : Int) (i : Nat) (l : List Pa) : decide (0 ≤ ownIT k i l) = l.any fun y => decide (y.k = k) := by
  induction l generalizing i with
  | nil => simp [ownIT]
  | cons v r ih =>
    simp only [ownIT, List.any_cons]
    split
    · rename_i h; simp [h]
    · rename_i h; simp only [h, decide_false, Bool.false_or]; exact ih (i + 1)
theorem c71 (x : Pa) (b : Nat) (H : Heap) (hb : H.objs b = some (.cells (encTC x))) (sz : Nat) (nil : Bool) (tip : Tip) (l : List Pa) (hn : l.length ≤ 1099511627776) (Q : Post) :
    E 71 [encTs sz nil tip l, .fn (.func 161) [] [Pt b]] H Q = Q (B (l.any fun y => decide (y.k = x.k))) H := by
  have := fun K => c107_l x b H hb sz nil tip l hn K l [] rfl
  rw [f71_eq, f107_eq, lenT, ob_some]
  refine (this _).trans ?_
  rw [i_geq, ob_some, ownIT_ge]
def leafT (x : Pa) : Bool := decide (x.l.length = 0) && (nameL x.var.data.toList && nameL x.typ.data.toList)
/-- may a node be -/
def rightT (x : Pa) : Bool :=
  if x.k = 1 ∨ x.k = 6 then leafT x && (decide (x.lo = 0) && decide (x.hi = 0))
  else if x.k = 5 then leafT x && countT x.lo x.hi
  else if x.k = 2 ∨ x.k = 3 ∨ x.k = 4 then decide (2 ≤ x.l.length) && (decide (x.var = e0) && (decide (x.typ = e0) && (decide (x.lo = 0) && (decide (x.hi = 0) && !(x.l.any fun y => decide (y.k = x.k))))))
  else false
theorem c134 (x : Pa) (hl : x.l.length ≤ 1099511627776) (hv : x.var.size ≤ 1099511627776) (hf : x.typ.size ≤ 1099511627776) (H : Heap) (Q : Post) (hq : ∀ H', HExt H H' → Q (B (rightT x)) H') : E 134 [encT x] H Q := by
  have j34 : ∀ H1, HExt H H1 → (¬ (x.k = 1 ∨ x.k = 6)) → ¬ x.k = 5 → f134_j34 (encTC x) (B (decide (x.k = 2 ∨ x.k = 3 ∨ x.k = 4))) H1 Q := fun H1 e1 h1 h5 => by
    have q0 := hq
    simp only [rightT, if_neg h1, if_neg h5] at q0
    rw [f134_j34_eq]
    refine cnd_intro (fun h2 => ?_) (fun h2 => ?_)
    · have h2 : x.k = 2 ∨ x.k = 3 ∨ x.k = 4 := by simpa using h2
      simp only [if_pos h2] at q0
      intro b hb
      have e2 : HExt H (H1.setObj b (.cells (encTC x))) := e1.setObj (e1.fresh hb) _
      have ob2 := setObj_same H1 b (.cells (encTC x))
      simp only [Pt_def]
      generalize H1.setObj b (.cells (encTC x)) = H2 at e2 ob2 ⊢
      have q1 := q0 H2 e2
      have hF : (decide (2 ≤ x.l.length) && (decide (x.var = e0) && (decide (x.typ = e0) && (decide (x.lo = 0) && (decide (x.hi = 0) && !(x.l.any fun y => decide (y.k = x.k))))))) = false → f134_j39 (B false) H2 Q := fun h => by
        rw [f134_j39_eq]; rw [h] at q1; exact q1
      have a (n : Nat) (hn : n ≤ 5) : addPA (Pt b) n = some (.raw (.pointer (some ⟨b, n, none⟩))) := by simp [addPA, Pt]
      simp only [a 5 (by omega), a 4 (by omega), a 3 (by omega), a 2 (by omega), a 1 (by omega), ob_some, ld_off ob2, part_f, p1T, p2T, p3T, p4T, p5T, lenT, i_geq, len2', s_eql, i_eql, f134_c12_9a_eq, f134_c12_9b_eq, f134_c12_14a_eq, f134_c12_14b_eq, f134_c12_19a_eq, f134_c12_19b_eq, f134_c12_24a_eq, f134_c12_24b_eq, f134_c12_31a_eq, f134_c12_31b_eq, c71 x b H2 ob2 x.sz x.nil x.tip x.l hl, not_B]
      refine cnd_intro (fun g1 => cnd_intro (fun g2 => cnd_intro (fun g3 => cnd_intro (fun g4 => cnd_intro (fun g5 => ?_) (fun g5 => ?_)) (fun g4 => ?_)) (fun g3 => ?_)) (fun g2 => ?_)) (fun g1 => ?_)
      · rw [f134_j39_eq]; simp only [g1, g2, g3, g4, g5, Bool.true_and] at q1; exact q1
      · exact hF (by simp only [g5, Bool.false_and, Bool.and_false])
      · exact hF (by simp only [g4, Bool.false_and, Bool.and_false])
      · exact hF (by simp only [g3, Bool.false_and, Bool.and_false])
      · exact hF (by simp only [g2, Bool.false_and, Bool.and_false])
      · exact hF (by simp only [g1, Bool.false_and])
    · have h2 : ¬ (x.k = 2 ∨ x.k = 3 ∨ x.k = 4) := by simpa using h2
      simp only [if_neg h2] at q0
      exact q0 H1 e1
  have j4 : ∀ H1, HExt H H1 → f134_j4 (encTC x) (B (leafT x)) H1 Q := fun H1 e1 => by
    have q0 := hq H1 e1
    simp only [f134_j4_eq, f134_j14_eq, part_f, p0T, p3T, p4T, ob_some, i_eql, c160, f134_j17_eq, f134_j23_eq]
    simp only [rightT] at q0
    by_cases h1 : x.k = 1
    · simp only [h1, true_or, if_true] at q0 ⊢
      simp only [decide_true, cnd_t]
      refine cnd_intro (fun h => cnd_intro (fun h' => ?_) (fun h' => ?_)) (fun h => ?_)
      · simp only [h, h', Bool.true_and] at q0; exact q0
      · simp only [h', Bool.false_and, Bool.and_false] at q0; exact q0
      · simp only [h, Bool.false_and] at q0; exact q0
    · by_cases h6 : x.k = 6
      · simp only [h6, or_true, if_true] at q0 ⊢
        have : decide ((6 : Int) = 1) = false := rfl
        simp only [this, decide_true, cnd_t, cnd_f]
        refine cnd_intro (fun h => cnd_intro (fun h' => ?_) (fun h' => ?_)) (fun h => ?_)
        · simp only [h, h', Bool.true_and] at q0; exact q0
        · simp only [h', Bool.false_and, Bool.and_false] at q0; exact q0
        · simp only [h, Bool.false_and] at q0; exact q0
      · simp only [h1, h6, decide_false, cnd_f]
        have h16 : ¬ (x.k = 1 ∨ x.k = 6) := by simp [h1, h6]
        simp only [if_neg h16] at q0
        refine cnd_intro (fun h5 => ?_) (fun h5 => ?_)
        · have h5 : x.k = 5 := by simpa using h5
          simp only [if_pos h5] at q0
          refine cnd_intro (fun h => ?_) (fun h => ?_)
          · simp only [h, Bool.true_and] at q0; exact q0
          · simp only [h, Bool.false_and] at q0; exact q0
        · have h5 : ¬ x.k = 5 := by simpa using h5
          have := j34 H1 e1 h16 h5
          by_cases h2 : x.k = 2
          · simp only [h2, true_or, decide_true] at this
            simp only [h2, decide_true, cnd_t]; exact this
          · by_cases h3 : x.k = 3
            · simp only [h3, true_or, or_true, decide_true] at this
              simp only [h3, decide_true, cnd_t]
              have : decide ((3 : Int) = 2) = false := rfl
              simp only [this, cnd_f]; assumption
            · simp only [h2, h3, false_or] at this
              simp only [h2, h3, decide_false, cnd_f]; exact this
  simp only [f134_eq, szT, ob_some, part_f, p5T, lenT, i_eql, len0, p1T, p2T]
  have hF : ∀ H1, HExt H H1 → leafT x = false → f134_j4 (encTC x) (B false) H1 Q := fun H1 e1 h => by have := j4 H1 e1; rw [h] at this; exact this
  refine cnd_intro (fun g1 => ?_) (fun g1 => ?_)
  · refine c118 _ hv _ _ (fun H1 e1 => cnd_intro (fun g2 => ?_) (fun g2 => ?_))
    · refine c118 _ hf _ _ (fun H2 e2 => ?_)
      have := j4 H2 (e1.trans e2)
      simp only [leafT, g1, g2, Bool.true_and] at this
      exact this
    · exact hF H1 e1 (by simp only [leafT, g2, Bool.false_and, Bool.and_false])
  · exact hF H (HExt.refl H) (by simp only [leafT, g1, Bool.false_and])

/-! ### Over all nodes -/
mutual
def foldT {σ : Type} (f : σ → Int → Pa → σ) : σ → Int → Pa → σ
  | s, d, .mk k var typ lo hi sz nil tip l => foldTs f (f s d (.mk k var typ lo hi sz nil tip l)) (W64 (d + 1)) l
def foldTs {σ : Type} (f : σ → Int → Pa → σ) : σ → Int → List Pa → σ
  | s, _, [] => s
  | s, d, x :: r => foldTs f (foldT f s d x) d r
end
mutual
/-- of all nodes -/
def allT (p : Pa → Prop) : Pa → Prop
  | .mk k var typ lo hi sz nil tip l => p (.mk k var typ lo hi sz nil tip l) ∧ allTs p l
def allTs (p : Pa → Prop) : List Pa → Prop
  | [] => True
  | x :: r => allT p x ∧ allTs p r
end
theorem foldT_eq {σ : Type} (f : σ → Int → Pa → σ) (s : σ) (d : Int) (x : Pa) : foldT f s d x = foldTs f (f s d x) (W64 (d + 1)) x.l := by
  cases x; simp [foldT, Pa.l]
theorem allT_eq (p : Pa → Prop) (x : Pa) : allT p x ↔ p x ∧ allTs p x.l := by
  cases x; simp [allT, Pa.l]
theorem allTs_mem {p : Pa → Prop} {l : List Pa} (h : allTs p l) {x : Pa} (hx : x ∈ l) : allT p x := by
  induction l with
  | nil => cases hx
  | cons y r ih =>
    simp only [allTs] at h
    cases hx with
    | head => exact h.1
    | tail _ hx => exact ih h.2 hx
/-- small enough to be gone over -/
def okT (x : Pa) : Prop := x.l.length ≤ 1099511627776 ∧ x.var.size ≤ 1099511627776 ∧ x.typ.size ≤ 1099511627776
structure StepT (σ : Type) (y : AV) (St : σ → Heap → Prop) (f : σ → Int → Pa → σ) (ok : Pa → Prop) : Prop where
  call : ∀ (s : σ) (H : Heap) (d : Int) (x : Pa) (K : Post), ok x → St s H → (∀ H', St (f s d x) H' → K (B true) H') → callA (Ev Pg Hs) y [encNd x d] H K
section walk
variable {σ : Type} {y : AV} {St : σ → Heap → Prop} {f : σ → Int → Pa → σ} {b2 b4 : Nat}
theorem c145_l (h2 : ∀ s H, St s H → H.objs b2 = some (.cells [y]) ∧ H.objs b4 = some (.cells [.fn (.func 145) [] [Pt b2, Pt b4]])) (d : Int) (z : Pa) (Q : Post) (sz : Nat) (nil : Bool) (tip : Tip) (l : List Pa) (hn : l.length ≤ 1099511627776)
    (ih : ∀ x ∈ l, ∀ (s : σ) (H : Heap) (d : Int) (K : Post), St s H → (∀ H', St (foldT f s d x) H' → K (B true) H') → E 145 [encNd x d, Pt b2, Pt b4] H K) : ∀ (r pre : List Pa) (s : σ) (H : Heap), l = pre ++ r → St s H →
    (∀ H', St (foldTs f s (W64 (d + 1)) r) H' → Q (B true) H') → f145_l14 (Pt b4) (encTC z ++ [I d]) (encTs sz nil tip l) (I l.length) (I pre.length) H Q := by
  intro r
  induction r with
  | nil =>
    intro pre s H e hs hq
    have : (pre.length : Int) = l.length := by rw [e]; simp
    rw [f145_l14_eq, i_lss, ob_some, cnd_B, this]
    simp only [Int.lt_irrefl, decide_false, Bool.false_eq_true, if_false]
    exact hq H (by simpa [foldTs] using hs)
  | cons x r ihr =>
    intro pre s H e hs hq
    have hlt : pre.length < l.length := by rw [e]; simp
    have hlt' : (pre.length : Int) < l.length := by omega
    obtain ⟨g1, g2⟩ := h2 s H hs
    rw [f145_l14_eq, i_lss, ob_some, cnd_B, if_pos (by simpa using hlt'), ixT l sz nil tip pre r x e, ob_some, partT, ob_some, szT, ob_some, splT, ob_some, ld_Pt g2]
    simp only [part_f, List.getElem?_cons_zero, ob_some, i_add, partT, n6, nodeB]
    show E 145 [encNd x (W64 (d + 1)), Pt b2, Pt b4] H _
    refine ih x (by rw [e]; simp) s H _ _ hs (fun H' hs' => ?_)
    rw [not_B, ob_some, cnd_B]
    simp only [Bool.not_true, Bool.false_eq_true, if_false, ob_some]
    rw [w64_succ hlt (by omega)]
    have := ihr (pre ++ [x]) _ H' (by simp [e]) hs' (fun H'' hs'' => hq H'' (by simpa [foldTs] using hs''))
    rw [List.length_append, List.length_singleton] at this
    exact this
theorem c145 (hy : StepT σ y St f okT) (h2 : ∀ s H, St s H → H.objs b2 = some (.cells [y]) ∧ H.objs b4 = some (.cells [.fn (.func 145) [] [Pt b2, Pt b4]])) : ∀ (x : Pa), allT okT x → ∀ (s : σ) (H : Heap) (d : Int) (Q : Post), St s H →
    (∀ H', St (foldT f s d x) H' → Q (B true) H') → E 145 [encNd x d, Pt b2, Pt b4] H Q := by
  intro x
  induction x using Pa.ind with
  | h x ih =>
    intro hok s H d Q hs hq
    rw [allT_eq] at hok
    obtain ⟨g1, g2⟩ := h2 s H hs
    rw [f145_eq, szN, ob_some, ld_Pt g1]
    simp only [part_f, List.getElem?_cons_zero, ob_some, partN]
    refine hy.call s H d x _ hok.1 hs (fun H' hs' => ?_)
    rw [not_B, ob_some, cnd_B]
    simp only [Bool.not_true, Bool.false_eq_true, if_false]
    rw [n5, ob_some, lenT, ob_some]
    exact c145_l h2 d x Q x.sz x.nil x.tip x.l hok.1.1 (fun y hy' s H d K => ih y hy' (allTs_mem hok.2 hy') s H d K) x.l [] _ H' rfl hs' (fun H'' hs'' => hq H'' (by rw [foldT_eq]; exact hs''))
end walk
structure VisitT (σ : Type) (y : AV) (own : Nat → Prop) (St : σ → Heap → Prop) (f : σ → Int → Pa → σ) : Prop where
  one : sizedA 1 y = some [y]
  stab : ∀ s H H', St s H → HExt H H' → St s H'
  old : ∀ s H b, St s H → own b → ¬ H.fresh b
  call : ∀ (s : σ) (H : Heap) (d : Int) (x : Pa) (K : Post), okT x → St s H → (∀ H', St (f s d x) H' → HExc own H H' → K (B true) H') → callA (Ev Pg Hs) y [encNd x d] H K
theorem c144 {σ : Type} {y : AV} {own : Nat → Prop} {St : σ → Heap → Prop} {f : σ → Int → Pa → σ} (hv : VisitT σ y own St f) (x : Pa) (hok : allT okT x) (b1 : Nat) (s : σ) (H : Heap) (Q : Post) (h1 : H.objs b1 = some (.cells (encTC x))) (hs : St s H)
    (hq : ∀ H', St (foldT f s 1 x) H' → HExc own H H' → Q (.tup []) H') : E 144 [y, Pt b1] H Q := by
  rw [f144_eq, hv.one, ob_some]
  intro b2 f2
  simp only [Pt_def]
  have e1 : HExt H (H.setObj b2 (.cells [y])) := (HExt.refl H).setObj f2 _
  have o2 := setObj_same H b2 (.cells [y])
  generalize H.setObj b2 (.cells [y]) = H1 at e1 o2 ⊢
  intro b4 f4
  simp only [Pt_def]
  have hne : b2 ≠ b4 := fresh_ne o2 f4
  have hne1 : b1 ≠ b4 := fresh_ne (e1.obj h1) f4
  have o4 := setObj_same H1 b4 (.cells [.raw .nilFunc])
  have e2 : HExt H1 (H1.setObj b4 (.cells [.raw .nilFunc])) := (HExt.refl H1).setObj f4 _
  have o4' : ∀ o, ((H1.setObj b4 (.cells [.raw .nilFunc])).setObj b4 o).objs b4 = some o := fun o => setObj_same _ _ _
  rw [st_Pt o4 (sz1_fn _ _ _), ob_some]
  have e3 : HExt H1 ((H1.setObj b4 (.cells [.raw .nilFunc])).setObj b4 (.cells [.fn (.func 145) [] [Pt b2, Pt b4]])) := e2.setObj f4 _
  have o4 := o4' (.cells [.fn (.func 145) [] [Pt b2, Pt b4]])
  generalize (H1.setObj b4 (.cells [.raw .nilFunc])).setObj b4 (.cells [.fn (.func 145) [] [Pt b2, Pt b4]]) = H2 at e3 o4 ⊢
  have o2 := e3.obj o2
  have h1 := e3.obj (e1.obj h1)
  have hs2 := hv.stab _ _ _ hs (e1.trans e3)
  rw [ld_Pt o4, ld_Pt h1, partT]
  simp only [part_f, List.getElem?_cons_zero, ob_some, nodeB]
  show E 145 [encNd x 1, Pt b2, Pt b4] H2 _
  have n2 : ¬ own b2 := fun h => hv.old _ _ _ hs h f2
  have n4 : ¬ own b4 := fun h => hv.old _ _ _ (hv.stab _ _ _ hs e1) h f4
  refine c145 (St := fun s H' => St s H' ∧ H'.objs b2 = some (.cells [y]) ∧ H'.objs b4 = some (.cells [.fn (.func 145) [] [Pt b2, Pt b4]]) ∧ HExc own H2 H') (f := f)
    ⟨fun s H' d x K hx hs' hk => hv.call s H' d x K hx hs'.1 (fun H'' hs'' he => hk H'' ⟨hs'', he.obj hs'.2.1 n2, he.obj hs'.2.2.1 n4, hs'.2.2.2.trans he⟩)⟩
    (fun s H' hs' => ⟨hs'.2.1, hs'.2.2.1⟩) x hok s H2 1 _ ⟨hs2, o2, o4, HExc.refl _ _⟩ (fun H' hs' => ?_)
  exact hq H' hs'.1 ((e1.trans e3).exc.trans hs'.2.2.2)
end Go.Hx
