/- Contracts of layer 31's adding, and what it calls. Own work (session 2). -/
import Derived.Test.YtopogilbllajcaaS2F
import Derived.Test.YtopogilbllajcaaHxSimp
set_option maxRecDepth 20000
namespace Go.Hx
abbrev e0 : ByteArray := ⟨#[]⟩
theorem u4 : Pg.underlying 4 = some .bool := by kernel_rfl
/-- a pattern -/
inductive Pa where
  | mk (k : Int) (var ty : ByteArray) (lo hi : Int) (sz : Nat) (nil : Bool) (tip : Tip) (l : List Pa)
namespace Pa
def k : Pa → Int | mk k _ _ _ _ _ _ _ _ => k
def var : Pa → ByteArray | mk _ v _ _ _ _ _ _ _ => v
def ty : Pa → ByteArray | mk _ _ t _ _ _ _ _ _ => t
def lo : Pa → Int | mk _ _ _ a _ _ _ _ _ => a
def hi : Pa → Int | mk _ _ _ _ a _ _ _ _ => a
def sz : Pa → Nat | mk _ _ _ _ _ s _ _ _ => s
def nil : Pa → Bool | mk _ _ _ _ _ _ n _ _ => n
def tip : Pa → Tip | mk _ _ _ _ _ _ _ t _ => t
def l : Pa → List Pa | mk _ _ _ _ _ _ _ _ l => l
end Pa
theorem Pa.ind {p : Pa → Prop} (h : ∀ x, (∀ y ∈ x.l, p y) → p x) (x : Pa) : p x :=
  Pa.rec (motive_1 := p) (motive_2 := fun l => ∀ y ∈ l, p y) (fun _ _ _ _ _ _ _ _ _ ih => h _ ih) (fun _ hy => by cases hy)
    (fun _ _ hz hr y hy => by
      cases hy with
      | head => exact hz
      | tail _ hy => exact hr y hy) x
mutual
def encPC : Pa → List AV
  | .mk k var ty lo hi sz nil tip l => [I k, S var, S ty, I lo, I hi, .sl sz nil tip (encPCs l)]
def encPCs : List Pa → List AV
  | [] => []
  | x :: r => .agg (encPC x) :: encPCs r
end
def encP (x : Pa) : AV := .agg (encPC x)
theorem encPCs_map (l : List Pa) : encPCs l = l.map encP := by
  induction l with
  | nil => simp [encPCs]
  | cons x r ih => simp [encPCs, ih, encP]
def encPs (sz : Nat) (nil : Bool) (tip : Tip) (l : List Pa) : AV := .sl sz nil tip (l.map encP)
theorem encPC_eq (x : Pa) : encPC x = [I x.k, S x.var, S x.ty, I x.lo, I x.hi, encPs x.sz x.nil x.tip x.l] := by
  cases x; simp [encPC, encPs, encPCs_map, Pa.k, Pa.var, Pa.ty, Pa.lo, Pa.hi, Pa.sz, Pa.nil, Pa.tip, Pa.l]
mutual
def sizeP : Pa → Nat
  | .mk _ _ _ _ _ _ _ _ l => 1 + sizePs l
def sizePs : List Pa → Nat
  | [] => 0
  | x :: r => sizeP x + sizePs r
end
theorem sizeP_eq (x : Pa) : sizeP x = 1 + sizePs x.l := by cases x; simp [sizeP, Pa.l]
theorem szP (x : Pa) : sizedA 6 (encP x) = some (encPC x) := by
  have : (encPC x).length = 6 := by rw [encPC_eq]; rfl
  simp [encP, sizedA, cellsA, this]
theorem partP (x : Pa) : partA true 0 6 (encPC x) = some (encP x) := by
  rw [encP, encPC_eq]; rfl
theorem splP (x : Pa) : spliceA 0 (encPC x) [I 0, S e0, S e0, I 0, I 0, AV.sl 0 true .full []] = some (encPC x) := by
  rw [encPC_eq]; rfl
theorem ixP (l : List Pa) (sz : Nat) (nil : Bool) (tip : Tip) (pre r : List Pa) (x : Pa) (e : l = pre ++ x :: r) : ixaA 6 (encPs sz nil tip l) (I pre.length) = some (encPC x) :=
  ix_mk 6 nil tip _ pre.length (x := encP x) (by rw [e]; exact get_mid encP pre r x) (szP x)
theorem lenP (sz : Nat) (nil : Bool) (tip : Tip) (l : List Pa) : lenA (encPs sz nil tip l) = some (I l.length) := by simp [encPs, len_sl]
theorem q0 (x : Pa) : (encPC x)[0]? = some (I x.k) := by rw [encPC_eq]; rfl
theorem q1 (x : Pa) : (encPC x)[1]? = some (S x.var) := by rw [encPC_eq]; rfl
theorem q2 (x : Pa) : (encPC x)[2]? = some (S x.ty) := by rw [encPC_eq]; rfl
theorem q3 (x : Pa) : (encPC x)[3]? = some (I x.lo) := by rw [encPC_eq]; rfl
theorem q4 (x : Pa) : (encPC x)[4]? = some (I x.hi) := by rw [encPC_eq]; rfl
theorem q5 (x : Pa) : (encPC x)[5]? = some (encPs x.sz x.nil x.tip x.l) := by rw [encPC_eq]; rfl
/-! ### Size -/
theorem sizePs_append (l r : List Pa) : sizePs (l ++ r) = sizePs l + sizePs r := by
  induction l with
  | nil => simp [sizePs]
  | cons x l ih => simp only [List.cons_append, sizePs, ih]; omega
theorem len_sizePs (l : List Pa) : l.length ≤ sizePs l := by
  induction l with
  | nil => simp [sizePs]
  | cons x l ih => have := sizeP_eq x; simp only [List.length_cons, sizePs]; omega
theorem c5 (x : Pa) : sizeP x ≤ 1152921504606846975 → ∀ (H : Heap) (Q : Post), E 5 [encP x] H Q = Q (I (sizeP x)) H := by
  induction x using Pa.ind with
  | h x ih =>
    intro hs H Q
    have hs' := hs
    rw [sizeP_eq] at hs'
    have loop : ∀ (r pre : List Pa), x.l = pre ++ r → f5_l8 (encPC x) (I ((1 + sizePs pre : Nat) : Int)) (I pre.length) H Q = Q (I (sizeP x)) H := by
      intro r
      induction r with
      | nil =>
        intro pre e
        have h1 : (pre.length : Int) = x.l.length := by rw [e]; simp
        have h2 : pre = x.l := by rw [e]; simp
        rw [f5_l8_eq, part_f, q5, ob_some, lenP, ob_some, i_lss, ob_some, cnd_B, h1, sizeP_eq, h2]
        simp
      | cons y r ihr =>
        intro pre e
        have hlt : pre.length < x.l.length := by rw [e]; simp
        have hlt' : (pre.length : Int) < x.l.length := by omega
        have hl := len_sizePs x.l
        have hsum : sizePs pre + (sizeP y + sizePs r) = sizePs x.l := by rw [e, sizePs_append]; rfl
        have := ihr (pre ++ [y]) (by simp [e])
        rw [List.length_append, List.length_singleton, sizePs_append] at this
        rw [f5_l8_eq, part_f, q5, ob_some, lenP, ob_some, i_lss, ob_some, cnd_B, if_pos (by simpa using hlt'), ob_some, ixP x.l x.sz x.nil x.tip pre r y e, ob_some, partP, ob_some, ih y (by rw [e]; simp) (by omega), i_add, ob_some, i_add, ob_some, w64_succ hlt (by omega),
          w64_id (by omega) (by omega)]
        rw [← this]
        congr 2
        simp only [sizePs]
        omega
    rw [f5_eq, szP, ob_some]
    exact loop x.l [] rfl
/-! ### Same -/
mutual
def sameP : Pa → Pa → Bool
  | .mk k var ty lo hi _ _ _ l, y => decide (k = y.k) && (decide (var = y.var) && (decide (ty = y.ty) && (decide (lo = y.lo) && (decide (hi = y.hi) && samePs l y.l))))
def samePs : List Pa → List Pa → Bool
  | [], [] => true
  | x :: r, y :: s => sameP x y && samePs r s
  | _, _ => false
end
theorem sameP_eq (x y : Pa) : sameP x y = (decide (x.k = y.k) && (decide (x.var = y.var) && (decide (x.ty = y.ty) && (decide (x.lo = y.lo) && (decide (x.hi = y.hi) && samePs x.l y.l))))) := by
  cases x; rfl
theorem samePs_len : ∀ (l m : List Pa), samePs l m = true → l.length = m.length
  | [], [], _ => rfl
  | [], _ :: _, h => by simp [samePs] at h
  | _ :: _, [], h => by simp [samePs] at h
  | x :: r, y :: s, h => by
    simp only [samePs, Bool.and_eq_true] at h
    simp [samePs_len r s h.2]
theorem sameP_symm (x : Pa) : ∀ y, sameP x y = sameP y x := by
  induction x using Pa.ind with
  | h x ih =>
    intro y
    have : ∀ (l m : List Pa), (∀ z ∈ l, z ∈ x.l) → samePs l m = samePs m l := by
      intro l
      induction l with
      | nil => intro m _; cases m <;> simp [samePs]
      | cons z r ihr =>
        intro m hz
        cases m with
        | nil => simp [samePs]
        | cons w s => simp only [samePs, ih z (hz z (by simp)), ihr s (fun u hu => hz u (by simp [hu]))]
    rw [sameP_eq, sameP_eq, this x.l y.l (fun _ h => h)]
    have e1 : decide (x.k = y.k) = decide (y.k = x.k) := by simp [eq_comm]
    have e2 : decide (x.var = y.var) = decide (y.var = x.var) := by simp [eq_comm]
    have e3 : decide (x.ty = y.ty) = decide (y.ty = x.ty) := by simp [eq_comm]
    have e4 : decide (x.lo = y.lo) = decide (y.lo = x.lo) := by simp [eq_comm]
    have e5 : decide (x.hi = y.hi) = decide (y.hi = x.hi) := by simp [eq_comm]
    rw [e1, e2, e3, e4, e5]
theorem sameP_refl (x : Pa) : sameP x x = true := by
  induction x using Pa.ind with
  | h x ih =>
    have : ∀ (l : List Pa), (∀ z ∈ l, z ∈ x.l) → samePs l l = true := by
      intro l
      induction l with
      | nil => intro _; rfl
      | cons z r ihr => intro hz; simp only [samePs, ih z (hz z (by simp)), ihr (fun u hu => hz u (by simp [hu])), Bool.and_self]
    rw [sameP_eq, this x.l (fun _ h => h)]
    simp
mutual
def allP (p : Pa → Prop) : Pa → Prop
  | .mk k var ty lo hi sz nil tip l => p (.mk k var ty lo hi sz nil tip l) ∧ allPs p l
def allPs (p : Pa → Prop) : List Pa → Prop
  | [] => True
  | x :: r => allP p x ∧ allPs p r
end
theorem allP_eq (p : Pa → Prop) (x : Pa) : allP p x ↔ p x ∧ allPs p x.l := by
  cases x; simp [allP, Pa.l]
theorem allPs_mem {p : Pa → Prop} {l : List Pa} (h : allPs p l) {x : Pa} (hx : x ∈ l) : allP p x := by
  induction l with
  | nil => cases hx
  | cons y r ih =>
    simp only [allPs] at h
    cases hx with
    | head => exact h.1
    | tail _ hx => exact ih h.2 hx
def okP (x : Pa) : Prop := x.l.length ≤ 1099511627776
theorem c14 (x : Pa) : allP okP x → ∀ (y : Pa) (H : Heap) (Q : Post), E 14 [encP x, encP y] H Q = Q (B (sameP x y)) H := by
  induction x using Pa.ind with
  | h x ih =>
    intro hok y H Q
    have hok' := (allP_eq _ _).1 hok
    have hn : x.l.length ≤ 1099511627776 := hok'.1
    have loop : x.l.length = y.l.length → ∀ (r pre s pre' : List Pa), x.l = pre ++ r → y.l = pre' ++ s → pre.length = pre'.length →
        f21_l14 (encPs y.sz y.nil y.tip y.l) (.fn (.func 14) [] []) (encPs x.sz x.nil x.tip x.l) (I x.l.length) (I pre.length) H Q = Q (B (samePs r s)) H := by
      intro hlen r
      induction r with
      | nil =>
        intro pre s pre' e e' hp
        have h1 : (pre.length : Int) = x.l.length := by rw [e]; simp
        have h2 : s = [] := by
          have : y.l.length = pre'.length + s.length := by rw [e']; simp
          exact List.eq_nil_of_length_eq_zero (by omega)
        rw [f21_l14_eq, i_lss, ob_some, cnd_B, h1, h2]
        simp [samePs]
      | cons z r ihr =>
        intro pre s pre' e e' hp
        have hlt : pre.length < x.l.length := by rw [e]; simp
        have hlt' : (pre.length : Int) < x.l.length := by omega
        cases s with
        | nil =>
          have h3 : y.l.length = pre'.length := by rw [e']; simp
          omega
        | cons w s =>
          have iy : ixaA 6 (encPs y.sz y.nil y.tip y.l) (I pre.length) = some (encPC w) := by rw [hp]; exact ixP y.l y.sz y.nil y.tip pre' s w e'
          have ih2 := ihr (pre ++ [z]) s (pre' ++ [w]) (by simp [e]) (by simp [e']) (by simp [hp])
          rw [List.length_append, List.length_singleton] at ih2
          rw [f21_l14_eq, i_lss, ob_some, cnd_B, if_pos (by simpa using hlt'), ixP x.l x.sz x.nil x.tip pre r z e, iy]
          simp only [ob_some, partP, szP, splP]
          show E 14 [encP z, encP w] H _ = _
          rw [ih z (by rw [e]; simp) (allPs_mem hok'.2 (by rw [e]; simp))]
          rw [not_B, ob_some, cnd_B, i_add, ob_some, w64_succ hlt (by omega), ih2]
          simp only [samePs]
          cases sameP z w <;> simp
    have j5 : ∀ b : Bool, f14_j5 (encPC x) (encPC y) (B b) H Q = Q (B (!b && samePs x.l y.l)) H := fun b => by
      rw [f14_j5_eq, cnd_B, part_f, q5, ob_some, part_f, q5, ob_some, f21_eq, lenP, ob_some, lenP, ob_some, i_neq, ob_some, cnd_B, ob_some]
      cases b with
      | true => rfl
      | false =>
        simp only [Bool.false_eq_true, if_false, Bool.not_false, Bool.true_and]
        by_cases hl : x.l.length = y.l.length
        · have : ¬ ((!decide ((x.l.length : Int) = (y.l.length : Int))) = true) := by simp; omega
          rw [if_neg this]
          exact loop hl x.l [] y.l [] rfl rfl rfl
        · have : ((!decide ((x.l.length : Int) = (y.l.length : Int))) = true) := by simp; omega
          rw [if_pos this]
          have : samePs x.l y.l = false := by
            cases h : samePs x.l y.l with
            | false => rfl
            | true => exact absurd (samePs_len _ _ h) hl
          rw [this]
    rw [sameP_eq, f14_eq, szP, ob_some, szP, ob_some]
    simp only [part_f, q0, q1, q2, q3, q4, ob_some, i_neq, s_neq, f14_c1_12a_eq, f14_c1_12b_eq, f14_c1_19a_eq, f14_c1_19b_eq, f14_c1_26a_eq, f14_c1_26b_eq, j5, cnd_B]
    by_cases h1 : x.k = y.k <;> by_cases h2 : x.var = y.var <;> by_cases h3 : x.ty = y.ty <;> by_cases h4 : x.lo = y.lo <;> by_cases h5 : x.hi = y.hi <;> simp [h1, h2, h3, h4, h5]
/-! ### Bindings -/
structure Bd where
  at_ : Int
  var : ByteArray
  deriving DecidableEq
def encB (b : Bd) : AV := .agg [I b.at_, S b.var]
def encBs (sz : Nat) (nil : Bool) (tip : Tip) (l : List Bd) : AV := .sl sz nil tip (l.map encB)
theorem szBd (b : Bd) : sizedA 2 (encB b) = some [I b.at_, S b.var] := rfl
theorem partBd (b : Bd) : partA true 0 2 [I b.at_, S b.var] = some (encB b) := rfl
theorem bd_ok (t : Bool) (v w : Bd) : eqOK Pg t 30 (encB v) (encB w) = true := by kernel_rfl
theorem bd_eqlT (v w : Bd) : eqT Pg 4 30 (encB v) (encB w) =
    (match v.at_ == w.at_ with
     | true => match v.var == w.var with
       | true => some true
       | false => some false
     | false => some false) := by kernel_rfl
theorem bd_neq (t : Bool) (v w : Bd) : binA Pg .neq 30 t (encB v) (encB w) = some (B (!decide (v = w))) := by
  have h0 : binA Pg .neq 30 t (encB v) (encB w) = (eqT Pg 4 30 (encB v) (encB w)).map fun r => .raw (.bool (!r)) := by
    have := bd_ok t v w
    simp only [encB] at this ⊢
    simp only [binA, this]
  rw [h0, bd_eqlT]
  cases v; cases w
  simp only [Bd.mk.injEq]
  split
  · split
    · simp_all [ba_beq, B]
    · simp_all [ba_beq, B]
  · simp_all [B]
theorem lenBd (sz : Nat) (nil : Bool) (tip : Tip) (l : List Bd) : lenA (encBs sz nil tip l) = some (I l.length) := by simp [encBs, len_sl]
theorem ixBd (l : List Bd) (sz : Nat) (nil : Bool) (tip : Tip) (pre r : List Bd) (x : Bd) (e : l = pre ++ x :: r) : ixaA 2 (encBs sz nil tip l) (I pre.length) = some [I x.at_, S x.var] :=
  ix_mk 2 nil tip _ pre.length (x := encB x) (by rw [e]; exact get_mid encB pre r x) rfl
theorem c13 (s1 s2 : Nat) (n1 n2 : Bool) (t1 t2 : Tip) (l m : List Bd) (hn : l.length ≤ 1099511627776) (H : Heap) (Q : Post) : E 13 [encBs s1 n1 t1 l, encBs s2 n2 t2 m] H Q = Q (B (decide (l = m))) H := by
  have loop : l.length = m.length → ∀ (r pre s pre' : List Bd), l = pre ++ r → m = pre' ++ s → pre.length = pre'.length →
      f13_l14 (encBs s1 n1 t1 l) (encBs s2 n2 t2 m) (I l.length) (I pre.length) H Q = Q (B (decide (r = s))) H := by
    intro hlen r
    induction r with
    | nil =>
      intro pre s pre' e e' hp
      have h1 : (pre.length : Int) = l.length := by rw [e]; simp
      have h2 : s = [] := by
        have : m.length = pre'.length + s.length := by rw [e']; simp
        exact List.eq_nil_of_length_eq_zero (by have : l.length = pre.length := by rw [e]; simp
                                                omega)
      rw [f13_l14_eq, i_lss, ob_some, cnd_B, h1, h2]
      simp
    | cons z r ihr =>
      intro pre s pre' e e' hp
      have hlt : pre.length < l.length := by rw [e]; simp
      have hlt' : (pre.length : Int) < l.length := by omega
      cases s with
      | nil =>
        have h3 : m.length = pre'.length := by rw [e']; simp
        omega
      | cons w s =>
        have iy : ixaA 2 (encBs s2 n2 t2 m) (I pre.length) = some [I w.at_, S w.var] := by rw [hp]; exact ixBd m s2 n2 t2 pre' s w e'
        have ih2 := ihr (pre ++ [z]) s (pre' ++ [w]) (by simp [e]) (by simp [e']) (by simp [hp])
        rw [List.length_append, List.length_singleton] at ih2
        rw [f13_l14_eq, i_lss, ob_some, cnd_B, if_pos (by simpa using hlt'), ixBd l s1 n1 t1 pre r z e, iy]
        simp only [ob_some, partBd, bd_neq, cnd_B, i_add, w64_succ hlt (by omega : l.length ≤ 1152921504606846976), ih2]
        by_cases h : z = w <;> simp [h]
  rw [f13_eq, lenBd, ob_some, lenBd, ob_some, i_neq, ob_some, cnd_B, ob_some]
  by_cases hl : l.length = m.length
  · rw [if_neg (by simp; omega)]
    exact loop hl l [] m [] rfl rfl rfl
  · rw [if_pos (by simp; omega)]
    have : ¬ l = m := fun e => hl (by rw [e])
    simp [this]
/-! ### Runs -/
structure Rn where
  rest : Pa
  sz : Nat
  nil : Bool
  tip : Tip
  bs : List Bd
def encRC (r : Rn) : List AV := encPC r.rest ++ [encBs r.sz r.nil r.tip r.bs]
def encR (r : Rn) : AV := .agg (encRC r)
theorem encRC_eq (r : Rn) : encRC r = [I r.rest.k, S r.rest.var, S r.rest.ty, I r.rest.lo, I r.rest.hi, encPs r.rest.sz r.rest.nil r.rest.tip r.rest.l, encBs r.sz r.nil r.tip r.bs] := by
  rw [encRC, encPC_eq]; rfl
def sameR (a b : Rn) : Bool := decide (a.bs = b.bs) && sameP a.rest b.rest
theorem sameR_symm (a b : Rn) : sameR a b = sameR b a := by
  simp only [sameR, sameP_symm a.rest b.rest]
  congr 1
  simp [eq_comm]
theorem sameR_refl (a : Rn) : sameR a a = true := by simp [sameR, sameP_refl]
theorem szR (r : Rn) : sizedA 7 (encR r) = some (encRC r) := by
  have : (encRC r).length = 7 := by rw [encRC_eq]; rfl
  simp [encR, sizedA, cellsA, this]
theorem partR (r : Rn) : partA true 0 7 (encRC r) = some (encR r) := by
  rw [encR, encRC_eq]; rfl
theorem partRP (r : Rn) : partA true 0 6 (encRC r) = some (encP r.rest) := by
  rw [encP, encPC_eq, encRC_eq]; rfl
theorem r6 (r : Rn) : (encRC r)[6]? = some (encBs r.sz r.nil r.tip r.bs) := by rw [encRC_eq]; rfl
theorem r0 (r : Rn) : (encRC r)[0]? = some (I r.rest.k) := by rw [encRC_eq]; rfl
theorem splR (r : Rn) : spliceA 0 (encRC r) [I 0, S e0, S e0, I 0, I 0, .sl 0 true .full [], .sl 0 true .full []] = some (encRC r) := by
  rw [encRC_eq]; rfl
def okR (r : Rn) : Prop := allP okP r.rest ∧ r.bs.length ≤ 1099511627776
theorem c7 (a b : Rn) (ha : okR a) (H : Heap) (Q : Post) : E 7 [encR a, encR b] H Q = Q (B (sameR a b)) H := by
  simp only [f7_eq, szR, ob_some, part_f, r6, c13 a.sz b.sz a.nil b.nil a.tip b.tip a.bs b.bs ha.2, partRP, c14 a.rest ha.1, f7_j4_eq, cnd_B, sameR]
  by_cases h : a.bs = b.bs <;> simp [h]
def encRs (sz : Nat) (nil : Bool) (tip : Tip) (l : List Rn) : AV := .sl sz nil tip (l.map encR)
theorem lenR (sz : Nat) (nil : Bool) (tip : Tip) (l : List Rn) : lenA (encRs sz nil tip l) = some (I l.length) := by simp [encRs, len_sl]
theorem ixR (l : List Rn) (sz : Nat) (nil : Bool) (tip : Tip) (pre r : List Rn) (x : Rn) (e : l = pre ++ x :: r) : ixaA 7 (encRs sz nil tip l) (I pre.length) = some (encRC x) :=
  ix_mk 7 nil tip _ pre.length (x := encR x) (by rw [e]; exact get_mid encR pre r x) (szR x)
theorem c23 (x y : Rn) (hx : okR x) (b3 b5 : Nat) (H : Heap) (Q : Post) (h3 : H.objs b3 = some (.cells [.fn (.func 7) [] []])) (h5 : H.objs b5 = some (.cells (encRC x))) : E 23 [encR y, Pt b3, Pt b5] H Q = Q (B (sameR x y)) H := by
  rw [f23_eq, szR, ob_some, ld_Pt h3, ld_Pt h5, partR, partR]
  simp only [part_f, List.getElem?_cons_zero, ob_some]
  show E 7 [encR x, encR y] H _ = _
  rw [c7 x y hx]
def sameIx (x : Rn) : Nat → List Rn → Int
  | _, [] => -1
  | i, y :: r => if sameR x y = true then i else sameIx x (i + 1) r
theorem c32_l (x : Rn) (hx : okR x) (b3 b5 : Nat) (H : Heap) (h3 : H.objs b3 = some (.cells [.fn (.func 7) [] []])) (h5 : H.objs b5 = some (.cells (encRC x))) (sz : Nat) (nil : Bool) (tip : Tip) (l : List Rn) (hn : l.length ≤ 1099511627776) (Q : Post) : ∀ (r pre : List Rn), l = pre ++ r →
    f32_l6 (encRs sz nil tip l) (.fn (.func 23) [] [Pt b3, Pt b5]) (I l.length) (I pre.length) H Q = Q (I (sameIx x pre.length r)) H := by
  intro r
  induction r with
  | nil =>
    intro pre e
    have : (pre.length : Int) = l.length := by rw [e]; simp
    rw [f32_l6_eq, i_lss, ob_some, cnd_B, this]
    simp [sameIx]
  | cons y r ih =>
    intro pre e
    have hlt : pre.length < l.length := by rw [e]; simp
    have hlt' : (pre.length : Int) < l.length := by omega
    have ih := ih (pre ++ [y]) (by simp [e])
    rw [f32_l6_eq, i_lss, ob_some, cnd_B, if_pos (by simpa using hlt'), ixR l sz nil tip pre r y e, ob_some, partR, ob_some]
    show E 23 [encR y, Pt b3, Pt b5] H _ = _
    rw [c23 x y hx b3 b5 H _ h3 h5, cnd_B, i_add, ob_some, w64_succ hlt (by omega)]
    rw [List.length_append, List.length_singleton] at ih
    rw [ih]
    simp only [sameIx]
    split <;> rfl
theorem sameIx_ge (x : Rn) (i : Nat) (l : List Rn) : decide (0 ≤ sameIx x i l) = l.any (sameR x) := by
  induction l generalizing i with
  | nil => simp [sameIx]
  | cons v r ih =>
    simp only [sameIx, List.any_cons]
    split
    · rename_i h; simp [h]
    · rename_i h
      simp only [Bool.not_eq_true] at h
      simp only [h, Bool.false_or]; exact ih (i + 1)
theorem c22 (x : Rn) (hx : okR x) (b3 b5 : Nat) (H : Heap) (h3 : H.objs b3 = some (.cells [.fn (.func 7) [] []])) (h5 : H.objs b5 = some (.cells (encRC x))) (sz : Nat) (nil : Bool) (tip : Tip) (l : List Rn) (hn : l.length ≤ 1099511627776) (Q : Post) :
    E 22 [encRs sz nil tip l, .fn (.func 23) [] [Pt b3, Pt b5]] H Q = Q (B (l.any (sameR x))) H := by
  have := fun K => c32_l x hx b3 b5 H h3 h5 sz nil tip l hn K l [] rfl
  rw [f22_eq, f32_eq, lenR, ob_some]
  refine (this _).trans ?_
  rw [i_geq, ob_some, sameIx_ge]
/-- a run is added -/
theorem c8 (x : Rn) (hx : okR x) (sz : Nat) (nil : Bool) (tip : Tip) (l : List Rn) (hs : nil = true ∨ sz = 7) (hn : l.length ≤ 1099511627) (H : Heap) (Q : Post)
    (h1 : l.any (sameR x) = true → ∀ H', Q (encRs sz nil tip l) H') (h2 : l.any (sameR x) = false → ∀ tip' H', Q (encRs 7 false tip' (l ++ [x])) H') : E 8 [encRs sz nil tip l, encR x] H Q := by
  rw [f8_eq, szR, ob_some, partR, ob_some, f15_eq, szR, ob_some, sz1_fn, ob_some]
  intro b3 f3
  simp only [Pt_def]
  have o3 := setObj_same H b3 (.cells [.fn (.func 7) [] []])
  generalize H.setObj b3 (.cells [.fn (.func 7) [] []]) = H1 at o3 ⊢
  intro b5 f5
  simp only [Pt_def]
  have o5 := setObj_same H1 b5 (.cells (encRC x))
  have o3 := (((HExt.refl H1).setObj f5 (.cells (encRC x))).obj o3)
  generalize H1.setObj b5 (.cells (encRC x)) = H2 at o3 o5 ⊢
  rw [c22 x hx b3 b5 H2 o3 o5 sz nil tip l (by omega)]
  refine cnd_intro (fun h => h1 h H2) (fun h => ?_)
  have hsl : sliceA 7 (encRs sz nil tip l) none (some (I l.length)) (some (I l.length)) = some (.sl sz nil .full (l.map encR)) := by
    have hc : 0 ≤ (0 : Int) ∧ (0 : Int) ≤ (l.length : Int) ∧ (l.length : Int) ≤ ((l.map encR).length : Int) := by rw [List.length_map]; omega
    have ht : (l.map encR).take l.length = l.map encR := by rw [List.take_of_length_le (by simp)]
    simp only [encRs, sliceA, hs, if_true, intOfA, I, hc, Int.toNat_natCast, Int.toNat_zero, List.drop_zero, ht]
    simp
  rw [lenR, ob_some, ob_some, hsl, ob_some, ld_Pt o5, partR, ob_some, mk1 7 (encR x) (szR x), ob_some]
  refine app_own (H0 := H2) (encR x) (HExt.refl H2) trivial hs (by omega) (by simp; omega) (fun tip' H3 _ _ => ?_)
  have := h2 h tip' H3
  simpa [encRs] using this
end Go.Hx
