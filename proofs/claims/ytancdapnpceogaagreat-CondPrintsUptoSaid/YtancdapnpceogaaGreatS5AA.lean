/- Contracts of the program's reader. Own work. -/
import Derived.Test.YtancdapnpceogaaGreatS5Z
set_option maxRecDepth 20000
namespace Go.Hx
theorem rp_some (b : Nat) : binA Pg .eql 33 true (Pt b) (.raw (.pointer none)) = some (B false) := by kernel_rfl
theorem fK0 (t : Tk) (K : AV → Prop) : fldK false 0 1 (encK t) K = K (I t.k) := rfl
theorem fK1 (t : Tk) (K : AV → Prop) : fldK false 1 1 (encK t) K = K (S t.s) := rfl
theorem fK2 (t : Tk) (K : AV → Prop) : fldK false 2 1 (encK t) K = K (I t.p) := rfl
/-- a reader: its tokens, how many were taken -/
structure RI (b : Nat) (L : List Tk) (i : Nat) (H : Heap) : Prop where
  obj : ∃ s' n' t', H.objs b = some (.cells [.sl s' n' t' (L.map encK), I i])
  len : L.length ≤ 1048576
theorem RS_RI {b : Nat} {r : List Tk} {H : Heap} : RS b r H ↔ ∃ L i, RI b L i H ∧ L.drop i = r :=
  ⟨fun ⟨L, i, s', n', t', h1, h2, h3⟩ => ⟨L, i, ⟨⟨s', n', t', h1⟩, h3⟩, h2⟩, fun ⟨L, i, ⟨⟨s', n', t', h1⟩, h3⟩, h2⟩ => ⟨L, i, s', n', t', h1, h2, h3⟩⟩
theorem RI.get {b i : Nat} {L : List Tk} {H : Heap} {t : Tk} {r : List Tk} (_h : RI b L i H) (e : L.drop i = t :: r) : L[i]? = some t ∧ i < L.length ∧ L.drop (i + 1) = r := by
  have h1 : L[i]? = some t := by
    have := congrArg (fun l => l[0]?) e
    simpa using this
  have h2 : i < L.length := by
    rcases Nat.lt_or_ge i L.length with h | h
    · exact h
    · rw [List.drop_eq_nil_of_le h] at e; cases e
  refine ⟨h1, h2, ?_⟩
  rw [← List.drop_drop, e]; rfl
theorem RI.set {b i : Nat} {L : List Tk} {H : Heap} (h : RI b L i H) (j : Nat) : ∃ o, stH H 1 (Poff b 1) (I j) = some (H.setObj b o) ∧ RI b L j (H.setObj b o) := by
  obtain ⟨⟨s', n', t', h1⟩, h2⟩ := h
  exact ⟨.cells [.sl s' n' t' (L.map encK), I j], by simp [stH, h1, sizedA, cellsA, spliceA, I], ⟨s', n', t', setObj_same _ _ _⟩, h2⟩
theorem c100 {b i : Nat} {L : List Tk} {H : Heap} (h : RI b L i H) (hl : L ≠ []) (Q : Post) : E 100 [Pt b] H Q = Q (B false) H := by
  obtain ⟨⟨s', n', t', h1⟩, h2⟩ := h
  have hz : decide ((L.length : Int) = 0) = false := decide_eq_false (by have := List.length_pos_iff.2 hl; omega)
  rw [f100_eq, rp_some, ob_some, cnd_f]
  simp only [nil_Pt, ob_some, add_Pt, ld_off h1, part_f, List.getElem?_cons_zero, len_sl, List.length_map, i_eql, hz]
  rw [f100_j4_eq]
theorem ne_of_drop {L r : List Tk} {t : Tk} {i : Nat} (e : L.drop i = t :: r) : L ≠ [] := fun h => by subst h; simp at e
theorem c44 {b i : Nat} {L r : List Tk} {t : Tk} {H : Heap} (h : RI b L i H) (e : L.drop i = t :: r) (Q : Post) : E 44 [Pt b] H Q = Q (encK t) H := by
  rw [f44_eq, c100 h (ne_of_drop e), cnd_f]
  have hg := (h.get e).1
  obtain ⟨⟨s', n', t', h1⟩, h2⟩ := h
  have hx : (L.map encK)[i]? = some (encK t) := by rw [List.getElem?_map, hg]; rfl
  simp only [nil_Pt, ob_some, add_Pt, ld_off h1, part_f, List.getElem?_cons_zero, List.getElem?_cons_succ, ix_mk 3 n' t' (L.map encK) i hx (encK_sz t), encK_pt, encK_sz, encK_sp]
theorem c44' {b : Nat} {r : List Tk} {t : Tk} {H : Heap} (h : RS b (t :: r) H) (Q : Post) : E 44 [Pt b] H Q = Q (encK t) H := by
  obtain ⟨L, i, h1, e⟩ := RS_RI.1 h
  exact c44 h1 e Q
theorem c21 {b : Nat} {r : List Tk} {H : Heap} (h : RS b r H) (he : r ≠ []) (Q : Post) : E 21 [Pt b] H Q = Q (I (posn r)) H := by
  cases r with
  | nil => exact (he rfl).elim
  | cons t r => rw [f21_eq, c44' h, fK2]; rfl
theorem c268 {b i : Nat} {L r : List Tk} {t : Tk} {H : Heap} (h : RI b L i H) (e : L.drop i = t :: r) (hk : t.k ≠ 6) (Q : Post) (hq : ∀ o, RI b L (i + 1) (H.setObj b o) → Q (encK t) (H.setObj b o)) : E 268 [Pt b] H Q := by
  have hg := h.get e
  obtain ⟨o, ho, h'⟩ := h.set (i + 1)
  have h0 := h
  obtain ⟨⟨s', n', t', h1⟩, h2⟩ := h
  rw [f268_eq, c44 h0 e]
  have hb : binA Pg .neq 3 true (I t.k) (I 6) = some (B true) := by rw [i_neq, decide_eq_false hk]; rfl
  simp only [encK_sz, encK_sp, ob_some, part_f, List.getElem?_cons_zero, hb, cnd_t, nil_Pt, add_Pt, ld_off h1, List.getElem?_cons_succ, i_add]
  rw [w64_succ hg.2.1 (by omega), ho, ob_some, f268_j10_eq]
  simp only [encK_pt, encK_sz, encK_sp, ob_some]
  exact hq o h'
theorem c268' {b : Nat} {r : List Tk} {t : Tk} {H : Heap} (h : RS b (t :: r) H) (hk : t.k ≠ 6) (Q : Post) (hq : ∀ o, RS b r (H.setObj b o) → Q (encK t) (H.setObj b o)) : E 268 [Pt b] H Q := by
  obtain ⟨L, i, h1, e⟩ := RS_RI.1 h
  exact c268 h1 e hk Q (fun o h2 => hq o (RS_RI.2 ⟨L, i + 1, h2, (h1.get e).2.2⟩))
/-- takes it, if it is that -/
theorem c206 {b : Nat} {r : List Tk} {H : Heap} (k : Int) (s : ByteArray) (hk : k ≠ 6) (h : RS b r H) (he : r ≠ []) (Q : Post) (h0 : nextIs k s r = false → Q (B false) H)
    (h1 : ∀ t r1 o, r = t :: r1 → nextIs k s r = true → RS b r1 (H.setObj b o) → Q (B true) (H.setObj b o)) : E 206 [Pt b, I k, S s] H Q := by
  cases r with
  | nil => exact (he rfl).elim
  | cons t r =>
    rw [f206_eq, c44' h]
    simp only [encK_sz, encK_sp, ob_some, part_f, List.getElem?_cons_zero, List.getElem?_cons_succ, i_neq, s_neq]
    by_cases hk1 : t.k = k
    · rw [decide_eq_true hk1, Bool.not_true, cnd_f, f206_j7_eq]
      by_cases hs1 : t.s = s
      · rw [decide_eq_true hs1, Bool.not_true, cnd_f]
        exact c268' h (hk1 ▸ hk) _ (fun o h2 => h1 t r o rfl (by simp [nextIs, hk1, hs1]) h2)
      · rw [decide_eq_false hs1, Bool.not_false, cnd_t]
        exact h0 (by simp [nextIs, hs1])
    · rw [decide_eq_false hk1, Bool.not_false, cnd_t, f206_j7_eq, cnd_t]
      exact h0 (by simp [nextIs, hk1])
theorem c130 {b : Nat} {r : List Tk} {H : Heap} (s : ByteArray) (h : RS b r H) (he : r ≠ []) (Q : Post) (h0 : nextIs 1 s r = false → Q (B false) H)
    (h1 : ∀ t r1 o, r = t :: r1 → nextIs 1 s r = true → RS b r1 (H.setObj b o) → Q (B true) (H.setObj b o)) : E 130 [Pt b, S s] H Q := by
  rw [f130_eq]; exact c206 1 s (by decide) h he _ h0 h1
theorem c228 {b : Nat} {r : List Tk} {H : Heap} (s : ByteArray) (h : RS b r H) (he : r ≠ []) (Q : Post) (h0 : nextIs 5 s r = false → Q (B false) H)
    (h1 : ∀ t r1 o, r = t :: r1 → nextIs 5 s r = true → RS b r1 (H.setObj b o) → Q (B true) (H.setObj b o)) : E 228 [Pt b, S s] H Q := by
  rw [f228_eq]; exact c206 5 s (by decide) h he _ h0 h1
theorem c229 {b : Nat} {r : List Tk} {H : Heap} (h : RS b r H) (he : r ≠ []) (Q : Post) (h0 : kindN r ≠ 2 → Q (.tup [S e0, B false]) H)
    (h1 : ∀ t r1 o, r = t :: r1 → t.k = 2 → RS b r1 (H.setObj b o) → Q (.tup [S t.s, B true]) (H.setObj b o)) : E 229 [Pt b] H Q := by
  cases r with
  | nil => exact (he rfl).elim
  | cons t r =>
    rw [f229_eq, c44' h]
    simp only [encK_sz, encK_sp, ob_some, part_f, List.getElem?_cons_zero, List.getElem?_cons_succ, i_neq]
    by_cases hk : t.k = 2
    · rw [decide_eq_true hk, Bool.not_true, cnd_f]
      exact c268' h (by omega) _ (fun o h2 => h1 t r o rfl hk h2)
    · rw [decide_eq_false hk, Bool.not_false, cnd_t]
      exact h0 hk
theorem c310 {b i : Nat} {L : List Tk} {H : Heap} (h : RI b L i H) (hl : L ≠ []) (Q : Post) : E 310 [Pt b] H Q = Q (I i) H := by
  rw [f310_eq, c100 h hl, cnd_f]
  obtain ⟨⟨s', n', t', h1⟩, h2⟩ := h
  simp only [nil_Pt, ob_some, add_Pt, ld_off h1, part_f, List.getElem?_cons_zero, List.getElem?_cons_succ]
theorem c312 {b i j : Nat} {L : List Tk} {H : Heap} (h : RI b L i H) (hl : L ≠ []) (hj : j ≤ i) (Q : Post) (hq : ∀ o, RI b L j (H.setObj b o) → Q (.tup []) (H.setObj b o)) : E 312 [Pt b, I j] H Q := by
  rw [f312_eq, c100 h hl, not_B, ob_some, Bool.not_false, cnd_t]
  obtain ⟨o, ho, h'⟩ := h.set j
  obtain ⟨⟨s', n', t', h1⟩, h2⟩ := h
  have g0 : decide ((0 : Int) ≤ (j : Int)) = true := decide_eq_true (by omega)
  have g1 : decide ((j : Int) ≤ (i : Int)) = true := decide_eq_true (by omega)
  rw [i_geq, g0, ob_some, cnd_t, nil_Pt, ob_some, add_Pt, ob_some, ld_off h1, part_f]
  simp only [List.getElem?_cons_succ, List.getElem?_cons_zero, ob_some, i_leq, g1]
  rw [f312_j2_eq, cnd_t, nil_Pt, ob_some, add_Pt, ob_some, ho, ob_some]
  exact hq o h'
/-! ### The parser -/
structure PS (H0 : Heap) (T : Nat → Nat → Prop) (pb rb : Nat) (r : List Tk) (o e a : Int) (H : Heap) : Prop where
  ext : HExt H0 H
  fp : H0.fresh pb
  fr : H0.fresh rb
  ne : pb ≠ rb
  op : H.objs pb = some (.cells [Pt rb, I o, I e, I a])
  rd : RS rb r H
  tp : ∀ c n, T c n → H.tips c = some n
section
variable {H0 H : Heap} {T : Nat → Nat → Prop} {pb rb : Nat} {r : List Tk} {o e a : Int} {Q : Post}
theorem PS.mono {H' : Heap} (h : PS H0 T pb rb r o e a H) (he : HExt H H') : PS H0 T pb rb r o e a H' :=
  ⟨h.ext.trans he, h.fp, h.fr, h.ne, he.obj h.op, h.rd.mono he, fun c n hc => by have := h.tp c n hc; rw [(he c (fun hf => by rw [hf.2] at this; cases this)).2.1]; exact this⟩
theorem PS.setr {ob : AObj} {r1 : List Tk} (h : PS H0 T pb rb r o e a H) (hr : RS rb r1 (H.setObj rb ob)) : PS H0 T pb rb r1 o e a (H.setObj rb ob) :=
  ⟨h.ext.setObj h.fr _, h.fp, h.fr, h.ne, by rw [setObj_ne _ _ h.ne]; exact h.op, hr, h.tp⟩
theorem PS.setp (h : PS H0 T pb rb r o e a H) (o' e' a' : Int) : PS H0 T pb rb r o' e' a' (H.setObj pb (.cells [Pt rb, I o', I e', I a'])) :=
  ⟨h.ext.setObj h.fp _, h.fp, h.fr, h.ne, setObj_same _ _ _, by
    obtain ⟨L, i, s', n', t', h1, h2⟩ := h.rd
    exact ⟨L, i, s', n', t', by rw [setObj_ne _ _ (Ne.symm h.ne)]; exact h1, h2⟩, h.tp⟩
theorem PS.ld0 (h : PS H0 T pb rb r o e a H) : ldH H false 1 (Poff pb 0) = some (Pt rb) := by rw [ld_off h.op]; rfl
theorem PS.ld1 (h : PS H0 T pb rb r o e a H) : ldH H false 1 (Poff pb 1) = some (I o) := by rw [ld_off h.op]; rfl
theorem PS.ld2 (h : PS H0 T pb rb r o e a H) : ldH H false 1 (Poff pb 2) = some (I e) := by rw [ld_off h.op]; rfl
theorem PS.ld3 (h : PS H0 T pb rb r o e a H) : ldH H false 1 (Poff pb 3) = some (I a) := by rw [ld_off h.op]; rfl
theorem PS.st1 (h : PS H0 T pb rb r o e a H) (n : Int) : stH H 1 (Poff pb 1) (I n) = some (H.setObj pb (.cells [Pt rb, I n, I e, I a])) := by simp [stH, h.op, sizedA, cellsA, spliceA, I, Pt]
theorem PS.st2 (h : PS H0 T pb rb r o e a H) (n : Int) : stH H 1 (Poff pb 2) (I n) = some (H.setObj pb (.cells [Pt rb, I o, I n, I a])) := by simp [stH, h.op, sizedA, cellsA, spliceA, I, Pt]
theorem PS.st3 (h : PS H0 T pb rb r o e a H) (n : Int) : stH H 1 (Poff pb 3) (I n) = some (H.setObj pb (.cells [Pt rb, I o, I e, I n])) := by simp [stH, h.op, sizedA, cellsA, spliceA, I, Pt]
/-- no node -/
def zX : Ex := .mk 0 nullV e0 e0 0 true .full []
theorem zX_b : bldA [] [I 0, I 0, I 0, S ⟨#[]⟩, S ⟨#[]⟩, S ⟨#[]⟩, AV.sl 0 true .full []] = some (encX zX) := rfl
/-- the first fault is noted -/
theorem c285 (h : PS H0 T pb rb r o 0 a H) (hr : r ≠ []) (e' : Int) (hq : ∀ H', PS H0 T pb rb r o e' (posn r) H' → Q (encX zX) H') : E 285 [Pt pb, I e'] H Q := by
  have e0' : decide ((0 : Int) = 0) = true := rfl
  rw [f285_eq]
  simp only [nil_Pt, ob_some, add_Pt, h.ld2, i_eql, e0', cnd_t, h.ld0]
  rw [c21 h.rd hr]
  have h1 := h.setp o e' a
  have h2 := h1.setp o e' (posn r)
  rw [h.st2, ob_some, h1.st3, ob_some, f285_j8_eq]
  simp only [zX_b, ob_some, szX, splX, partX]
  exact hq _ h2
end
end Go.Hx
