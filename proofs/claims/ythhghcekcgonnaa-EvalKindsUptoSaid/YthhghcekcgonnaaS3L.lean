/- The laws of layer 11 over the abstract machine. Own work (session 2). -/
import Derived.Test.YthhghcekcgonnaaS3K
set_option maxRecDepth 20000
namespace Go.Hx
/-! ### What came in -/
theorem map_of {α : Type} {f : α → AV} : ∀ (xs : List AV), (∀ x ∈ xs, ∃ y, x = f y) → ∃ l : List α, xs = l.map f
  | [], _ => ⟨[], rfl⟩
  | x :: xs, h => by
    obtain ⟨y, rfl⟩ := h x (by simp)
    obtain ⟨l, rfl⟩ := map_of xs (fun z hz => h z (by simp [hz]))
    exact ⟨y :: l, rfl⟩
def conjF : List Field → (Field → Prop) → Prop
  | [], _ => True
  | f :: r, p => p f ∧ conjF r p
theorem conjF_of : ∀ (l : List Field) (p : Field → Prop), (∀ f ∈ l, p f) → conjF l p
  | [], _, _ => trivial
  | f :: r, p, h => ⟨h f (by simp), conjF_of r p (fun g hg => h g (by simp [hg]))⟩
def StrT (P : Program) (n : Nat) (t : TypeId) (cs : List AV) : Prop :=
  match P.underlying t with
  | some (.struct fs) => cs.length = P.cellsOf t ∧ conjF fs.toList fun f => HasT P n f.type ((cs.drop f.offset).take (P.cellsOf f.type))
  | _ => True
theorem HasT.str {P : Program} {n : Nat} {t : TypeId} {cs : List AV} (h : HasT P (n + 1) t cs) : StrT P n t cs := by
  unfold StrT
  split
  · rename_i fs hu
    simp only [HasT, hu] at h
    exact ⟨h.1, conjF_of _ _ h.2⟩
  · trivial
theorem has_int {n : Nat} {cs : List AV} (t : TypeId) (ht : t = 3 ∨ t = 2) (h : HasT Pg n t cs) : ∃ i, cs = [I i] ∧ (Lit.int .i64 i).wf = true := by
  cases n with
  | zero => exact h.elim
  | succ n =>
    have e : HasT Pg (n + 1) t cs = ∃ i, cs = [.raw (.int .i64 i)] ∧ (Lit.int .i64 i).wf = true := by rcases ht with rfl | rfl <;> kernel_rfl
    rw [e] at h; exact h
theorem has_u8 {n : Nat} {cs : List AV} (h : HasT Pg n 5 cs) : ∃ i, cs = [.raw (.int .u8 i)] ∧ (Lit.int .u8 i).wf = true := by
  cases n with
  | zero => exact h.elim
  | succ n =>
    have e : HasT Pg (n + 1) 5 cs = ∃ i, cs = [.raw (.int .u8 i)] ∧ (Lit.int .u8 i).wf = true := by kernel_rfl
    rw [e] at h; exact h
theorem has_S {n : Nat} {cs : List AV} (h : HasT Pg n 9 cs) : ∃ s, cs = [S s] := by
  cases n with
  | zero => exact h.elim
  | succ n =>
    have e : HasT Pg (n + 1) 9 cs = ∃ s : ByteArray, cs = [S s] ∧ s.size ≤ maxLen := by kernel_rfl
    rw [e] at h; obtain ⟨s, h, _⟩ := h; exact ⟨s, h⟩
theorem has_Ss {n : Nat} {cs : List AV} (h : HasT Pg n 29 cs) : ∃ nil tip l, cs = [.sl 1 nil tip (l.map S)] ∧ (nil = true → l = []) := by
  cases n with
  | zero => exact h.elim
  | succ n =>
    have e : HasT Pg (n + 1) 29 cs = (cs = [.sl 1 true .full []] ∨ ∃ xs : List AV, cs = [.sl 1 false .any xs] ∧ ∀ x ∈ xs, ∃ c, x = packA Pg 9 c ∧ HasT Pg n 9 c) := by kernel_rfl
    rw [e] at h
    rcases h with rfl | ⟨xs, rfl, h⟩
    · exact ⟨true, .full, [], rfl, fun _ => rfl⟩
    · obtain ⟨l, rfl⟩ := map_of (f := S) xs (fun x hx => by
        obtain ⟨c, rfl, hc⟩ := h x hx
        obtain ⟨s, rfl⟩ := has_S hc
        exact ⟨s, by kernel_rfl⟩)
      exact ⟨false, .any, l, rfl, fun h => by cases h⟩
theorem has_V {n : Nat} {cs : List AV} (h : HasT Pg n 23 cs) : ∃ v : Vl, cs = [I v.k, I v.n, S v.s] ∧ (Lit.int .i64 v.k).wf = true ∧ (Lit.int .i64 v.n).wf = true := by
  cases n with
  | zero => exact h.elim
  | succ n =>
    have h := h.str
    have e : StrT Pg n 23 cs = (cs.length = 3 ∧ (HasT Pg n 3 ((cs.drop 0).take 1) ∧ (HasT Pg n 2 ((cs.drop 1).take 1) ∧ (HasT Pg n 9 ((cs.drop 2).take 1) ∧ True)))) := by kernel_rfl
    rw [e] at h
    obtain ⟨hl, h1, h2, h3, _⟩ := h
    match cs, hl with
    | [a, b, c], _ =>
      obtain ⟨i, hi, wi⟩ := has_int 3 (.inl rfl) h1
      obtain ⟨j, hj, wj⟩ := has_int 2 (.inr rfl) h2
      obtain ⟨s, hs⟩ := has_S h3
      simp at hi hj hs
      exact ⟨⟨i, j, s⟩, by simp [hi, hj, hs], wi, wj⟩
theorem has_Vs {n : Nat} {cs : List AV} (h : HasT Pg n 49 cs) : ∃ nil tip l, cs = [.sl 3 nil tip (l.map encV)] ∧ (nil = true → l = []) := by
  cases n with
  | zero => exact h.elim
  | succ n =>
    have e : HasT Pg (n + 1) 49 cs = (cs = [.sl 3 true .full []] ∨ ∃ xs : List AV, cs = [.sl 3 false .any xs] ∧ ∀ x ∈ xs, ∃ c, x = packA Pg 23 c ∧ HasT Pg n 23 c) := by kernel_rfl
    rw [e] at h
    rcases h with rfl | ⟨xs, rfl, h⟩
    · exact ⟨true, .full, [], rfl, fun _ => rfl⟩
    · obtain ⟨l, rfl⟩ := map_of (f := encV) xs (fun x hx => by
        obtain ⟨c, rfl, hc⟩ := h x hx
        obtain ⟨v, rfl, _⟩ := has_V hc
        exact ⟨v, by kernel_rfl⟩)
      exact ⟨false, .any, l, rfl, fun h => by cases h⟩
theorem has_X : ∀ (n : Nat) {cs : List AV}, HasT Pg n 26 cs → ∃ x : Ex, cs = encC x := by
  intro n
  induction n using Nat.strongRecOn with
  | _ n ih =>
    intro cs h
    cases n with
    | zero => exact h.elim
    | succ n =>
      have h := h.str
      have e : StrT Pg n 26 cs = (cs.length = 7 ∧ (HasT Pg n 3 ((cs.drop 0).take 1) ∧ (HasT Pg n 23 ((cs.drop 1).take 3) ∧ (HasT Pg n 9 ((cs.drop 4).take 1) ∧ (HasT Pg n 9 ((cs.drop 5).take 1) ∧ (HasT Pg n 24 ((cs.drop 6).take 1) ∧ True)))))) := by kernel_rfl
      rw [e] at h
      obtain ⟨hl, h1, h2, h3, h4, h5, _⟩ := h
      match cs, hl with
      | [a, b, c, d, e, f, g], _ =>
        obtain ⟨i, hi, wi⟩ := has_int 3 (.inl rfl) h1
        obtain ⟨v, hv, _⟩ := has_V h2
        obtain ⟨s, hs⟩ := has_S h3
        obtain ⟨s', hs'⟩ := has_S h4
        simp at hi hv hs hs' h5
        obtain ⟨rfl, rfl, rfl⟩ := hv
        subst hi hs hs'
        cases n with
        | zero => exact h5.elim
        | succ m =>
          have e : HasT Pg (m + 1) 24 [g] = ([g] = [AV.sl 7 true .full []] ∨ ∃ xs : List AV, [g] = [AV.sl 7 false .any xs] ∧ ∀ x ∈ xs, ∃ c, x = packA Pg 26 c ∧ HasT Pg m 26 c) := by kernel_rfl
          rw [e] at h5
          rcases h5 with hg | ⟨xs, hg, hall⟩
          · simp at hg; subst hg
            exact ⟨.mk i v s s' 7 true .full [], by simp [encC, encCs]⟩
          · simp at hg; subst hg
            obtain ⟨l, rfl⟩ := map_of (f := encX) xs (fun x hx => by
              obtain ⟨c, rfl, hc⟩ := hall x hx
              obtain ⟨y, rfl⟩ := ih m (by omega) hc
              exact ⟨y, by kernel_rfl⟩)
            exact ⟨.mk i v s s' 7 false .any l, by simp [encC, encCs_map]⟩
theorem has_Xs {n : Nat} {cs : List AV} (h : HasT Pg n 24 cs) : ∃ nil tip l, cs = [encXs 7 nil tip l] ∧ (nil = true → l = []) := by
  cases n with
  | zero => exact h.elim
  | succ n =>
    have e : HasT Pg (n + 1) 24 cs = (cs = [.sl 7 true .full []] ∨ ∃ xs : List AV, cs = [.sl 7 false .any xs] ∧ ∀ x ∈ xs, ∃ c, x = packA Pg 26 c ∧ HasT Pg n 26 c) := by kernel_rfl
    rw [e] at h
    rcases h with rfl | ⟨xs, rfl, h⟩
    · exact ⟨true, .full, [], rfl, fun _ => rfl⟩
    · obtain ⟨l, rfl⟩ := map_of (f := encX) xs (fun x hx => by
        obtain ⟨c, rfl, hc⟩ := h x hx
        obtain ⟨y, rfl⟩ := has_X n hc
        exact ⟨y, by kernel_rfl⟩)
      exact ⟨false, .any, l, rfl, fun h => by cases h⟩
/-- small enough by its size -/
theorem sz_X (x : Ex) : sizeX x ≤ szL (encC x) ∧ (szL (encC x) ≤ 1048576 → allX okX x) := by
  induction x using Ex.ind with
  | h x ih =>
    have hs : ∀ (l : List Ex), (∀ y ∈ l, y ∈ x.l) → sizeXs l ≤ szL (l.map encX) ∧ (szL (l.map encX) ≤ 1048576 → allXs okX l) := by
      intro l
      induction l with
      | nil => intro _; simp [sizeXs, szL, allXs]
      | cons y r ihr =>
        intro hy
        obtain ⟨a1, a2⟩ := ihr (fun z hz => hy z (by simp [hz]))
        obtain ⟨b1, b2⟩ := ih y (hy y (by simp))
        simp only [sizeXs, List.map_cons, szL, encX, szA, allXs]
        exact ⟨by omega, fun h => ⟨b2 (by omega), a2 (by omega)⟩⟩
    obtain ⟨h1, h2⟩ := hs x.l (fun _ h => h)
    rw [sizeX_eq, allX_eq, encC_eq]
    have hl := length_le_szL (x.l.map encX)
    rw [List.length_map] at hl
    simp only [szL, szA, I, S, encXs]
    refine ⟨by omega, fun h => ⟨⟨by omega, by omega, by omega⟩, h2 (by omega)⟩⟩
theorem sz_Xs (l : List Ex) : sizeXs l ≤ szL (l.map encX) ∧ (szL (l.map encX) ≤ 1048576 → allXs okX l) := by
  induction l with
  | nil => simp [sizeXs, szL, allXs]
  | cons y r ih =>
    obtain ⟨b1, b2⟩ := sz_X y
    simp only [sizeXs, List.map_cons, szL, encX, szA, allXs]
    exact ⟨by omega, fun h => ⟨b2 (by omega), ih.2 (by omega)⟩⟩
theorem len_szS (l : List ByteArray) : l.length ≤ szL (l.map S) := by have := length_le_szL (l.map S); rwa [List.length_map] at this
theorem len_szV (l : List Vl) : l.length ≤ szL (l.map encV) := by have := length_le_szL (l.map encV); rwa [List.length_map] at this

/-! ### Awake -/
theorem encX_const (v : Vl) : encX (constX v) = .agg [I 1, I v.k, I v.n, S v.s, S e0, S e0, .sl 0 true .full []] := by simp [encX, constX, encC, encCs]
theorem bld_v (k n : Int) : bldA [(0, 1, I k), (1, 1, I n)] [I 0, I 0, S e0] = some (encV ⟨k, n, e0⟩) := rfl
theorem bld_const (v : Vl) : bldA [(0, 1, I 1), (1, 3, encV v)] [I 0, I 0, I 0, S e0, S e0, S e0, .sl 0 true .full []] = some (encX (constX v)) := by rw [encX_const]; rfl
def nodeX (k : Int) (sz : Nat) (nil : Bool) (tip : Tip) (l : List Ex) : Ex := .mk k nullV e0 e0 sz nil tip l
theorem encX_node (k : Int) (sz : Nat) (nil : Bool) (tip : Tip) (l : List Ex) : encX (nodeX k sz nil tip l) = .agg [I k, I 0, I 0, S e0, S e0, S e0, encXs sz nil tip l] := by
  simp [encX, nodeX, encC, encCs_map, nullV, encXs]
theorem bld_node (k : Int) (sz : Nat) (nil : Bool) (tip : Tip) (l : List Ex) : bldA [(0, 1, I k), (6, 1, encXs sz nil tip l)] [I 0, I 0, I 0, S e0, S e0, S e0, .sl 0 true .full []] = some (encX (nodeX k sz nil tip l)) := by rw [encX_node]; rfl
theorem enc_nils : AV.sl 0 true .full [] = .sl 0 true .full (([] : List ByteArray).map S) := rfl
theorem enc_nilv : AV.sl 0 true .full [] = .sl 0 true .full (([] : List Vl).map encV) := rfl
theorem ok_const (v : Vl) : allX okX (constX v) := by
  simp [constX, allX, allXs, okX, Ex.l, Ex.var, Ex.fld, e0]; decide
theorem size_const (v : Vl) : sizeX (constX v) = 1 := by simp [constX, sizeX, sizeXs]
theorem allR_const (v : Vl) (h : rightV v = true) : allR (constX v) = true := by
  simp [constX, allR, allRs, rightP, Ex.k, Ex.l, Ex.v, Ex.var, Ex.fld, h]
theorem sayP_const (t : Tl) (v : Vl) : sayP t (constX v) = (v, 0) := by
  simp [constX, sayP, saysP, nodeP, Ex.k, Ex.v]
theorem SayP_const (t : Tl) (v : Vl) (h : rightV v = true) : SayP t (constX v) = (v, 0) := by
  have : checkP (constX v) = 0 := by
    rw [checkP_eq _ (by rw [size_const]; omega), size_const, allR_const v h]; simp
  simp [SayP, this, sayP_const]
theorem c19nil (H : Heap) (Q : Post) (hq : ∀ b1 b2 b3 t H', HExt H H' → Tells H' (.fn (.func 42) [] [Pt b1, Pt b2, Pt b3]) t → Q (.fn (.func 42) [] [Pt b1, Pt b2, Pt b3]) H') :
    E 19 [.sl 0 true .full [], .sl 0 true .full [], .sl 0 true .full []] H Q :=
  c19 0 0 0 true true true .full .full .full [] [] [] (fun _ => rfl) (fun _ => rfl) (fun _ => rfl) (.inl rfl) (.inl rfl) (.inl rfl) (by simp) (by simp) (by simp) H Q (fun b1 b2 b3 H' he ht => hq b1 b2 b3 _ H' he ht)
theorem c25 (H : Heap) (Q : Post) (hq : ∀ H', HExt H H' → Q (B true) H') : E 25 [] H Q := by
  rw [f25_eq (), bld_v, ob_some]
  have := bld_const ⟨1, 1, e0⟩
  rw [this, ob_some]
  refine c19nil H _ (fun b1 b2 b3 t H1 e1 ht => ?_)
  refine c23 t 42 _ _ (ok_const _) H1 _ ht (fun H2 e2 => ?_)
  have : HoldsP t (constX ⟨1, 1, e0⟩) = true := by
    rw [HoldsP, SayP_const t _ (by decide)]; decide
  rw [this]
  exact hq H2 (e1.trans e2)
end Go.Hx
