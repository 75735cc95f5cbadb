/- Contracts of the program's reader. Own work. And what builds on it. -/
import Derived.Test.YtancdapnpceogaaS5M1
import Derived.Test.YtancdapnpceogaaRows
import Derived.WalkKit
import Derived.ProofKit
import Derived.OpenShut
import Derived.JoinedCond
set_option maxRecDepth 20000
namespace Go.Hx
theorem rp_some (b : Nat) : binA Pg .eql 33 true (Pt b) (.raw (.pointer none)) = some (B false) := by kernel_rfl
theorem fK0 (t : Tk) (K : AV → Prop) : fldK false 0 1 (encK t) K = K (I t.k) := rfl
theorem fK1 (t : Tk) (K : AV → Prop) : fldK false 1 1 (encK t) K = K (S t.s) := rfl
theorem fK2 (t : Tk) (K : AV → Prop) : fldK false 2 1 (encK t) K = K (I t.p) := rfl
/-- a reader: its tokens, how many were taken -/
structure RI (b : Nat) (L : List Tk) (i : Nat) (H : Heap) : Prop where
  obj : ∃ s' n' t', H.objs b = some (.cells [.sl s' n' t' (L.map encK), I i])
  len : L.length ≤ 1048576
theorem RS_RI {b : Nat} {r : List Tk} {H : Heap} : RS b r H ↔ ∃ L i, RI b L i H ∧ L.drop i = r :=
  ⟨fun ⟨L, i, s', n', t', h1, h2, h3⟩ => ⟨L, i, ⟨⟨s', n', t', h1⟩, h3⟩, h2⟩, fun ⟨L, i, ⟨⟨s', n', t', h1⟩, h3⟩, h2⟩ => ⟨L, i, s', n', t', h1, h2, h3⟩⟩
theorem RI.get {b i : Nat} {L : List Tk} {H : Heap} {t : Tk} {r : List Tk} (_h : RI b L i H) (e : L.drop i = t :: r) : L[i]? = some t ∧ i < L.length ∧ L.drop (i + 1) = r := by
  have h1 : L[i]? = some t := by
    have := congrArg (fun l => l[0]?) e
    simpa using this
  have h2 : i < L.length := by
    rcases Nat.lt_or_ge i L.length with h | h
    · exact h
    · rw [List.drop_eq_nil_of_le h] at e; cases e
  refine ⟨h1, h2, ?_⟩
  rw [← List.drop_drop, e]; rfl
theorem RI.set {b i : Nat} {L : List Tk} {H : Heap} (h : RI b L i H) (j : Nat) : ∃ o, stH H 1 (Poff b 1) (I j) = some (H.setObj b o) ∧ RI b L j (H.setObj b o) := by
  obtain ⟨⟨s', n', t', h1⟩, h2⟩ := h
  exact ⟨.cells [.sl s' n' t' (L.map encK), I j], by simp [stH, h1, sizedA, cellsA, spliceA, I], ⟨s', n', t', setObj_same _ _ _⟩, h2⟩
theorem c15 {b i : Nat} {L : List Tk} {H : Heap} (h : RI b L i H) (hl : L ≠ []) (Q : Post) : E 15 [Pt b] H Q = Q (B false) H := by
  obtain ⟨⟨s', n', t', h1⟩, h2⟩ := h
  have hz : decide ((L.length : Int) = 0) = false := decide_eq_false (by have := List.length_pos_iff.2 hl; omega)
  rw [f15_eq, rp_some, ob_some, cnd_f]
  simp only [nil_Pt, ob_some, add_Pt, ld_off h1, part_f, List.getElem?_cons_zero, len_sl, List.length_map, i_eql, hz]
  rw [f15_j4_eq]
theorem ne_of_drop {L r : List Tk} {t : Tk} {i : Nat} (e : L.drop i = t :: r) : L ≠ [] := fun h => by subst h; simp at e
theorem c9 {b i : Nat} {L r : List Tk} {t : Tk} {H : Heap} (h : RI b L i H) (e : L.drop i = t :: r) (Q : Post) : E 9 [Pt b] H Q = Q (encK t) H := by
  rw [f9_eq, c15 h (ne_of_drop e), cnd_f]
  have hg := (h.get e).1
  obtain ⟨⟨s', n', t', h1⟩, h2⟩ := h
  have hx : (L.map encK)[i]? = some (encK t) := by rw [List.getElem?_map, hg]; rfl
  simp only [nil_Pt, ob_some, add_Pt, ld_off h1, part_f, List.getElem?_cons_zero, List.getElem?_cons_succ, ix_mk 3 n' t' (L.map encK) i hx (encK_sz t), encK_pt, encK_sz, encK_sp]
theorem c9' {b : Nat} {r : List Tk} {t : Tk} {H : Heap} (h : RS b (t :: r) H) (Q : Post) : E 9 [Pt b] H Q = Q (encK t) H := by
  obtain ⟨L, i, h1, e⟩ := RS_RI.1 h
  exact c9 h1 e Q
theorem c10 {b : Nat} {r : List Tk} {H : Heap} (h : RS b r H) (he : r ≠ []) (Q : Post) : E 10 [Pt b] H Q = Q (I (posn r)) H := by
  cases r with
  | nil => exact (he rfl).elim
  | cons t r => rw [f10_eq, c9' h, fK2]; rfl
theorem c65 {b i : Nat} {L r : List Tk} {t : Tk} {H : Heap} (h : RI b L i H) (e : L.drop i = t :: r) (hk : t.k ≠ 6) (Q : Post) (hq : ∀ o, RI b L (i + 1) (H.setObj b o) → Q (encK t) (H.setObj b o)) : E 65 [Pt b] H Q := by
  have hg := h.get e
  obtain ⟨o, ho, h'⟩ := h.set (i + 1)
  have h0 := h
  obtain ⟨⟨s', n', t', h1⟩, h2⟩ := h
  rw [f65_eq, c9 h0 e]
  have hb : binA Pg .neq 3 true (I t.k) (I 6) = some (B true) := by rw [i_neq, decide_eq_false hk]; rfl
  simp only [encK_sz, encK_sp, ob_some, part_f, List.getElem?_cons_zero, hb, cnd_t, nil_Pt, add_Pt, ld_off h1, List.getElem?_cons_succ, i_add]
  rw [w64_succ hg.2.1 (by omega), ho, ob_some, f65_j10_eq]
  simp only [encK_pt, encK_sz, encK_sp, ob_some]
  exact hq o h'
theorem c65' {b : Nat} {r : List Tk} {t : Tk} {H : Heap} (h : RS b (t :: r) H) (hk : t.k ≠ 6) (Q : Post) (hq : ∀ o, RS b r (H.setObj b o) → Q (encK t) (H.setObj b o)) : E 65 [Pt b] H Q := by
  obtain ⟨L, i, h1, e⟩ := RS_RI.1 h
  exact c65 h1 e hk Q (fun o h2 => hq o (RS_RI.2 ⟨L, i + 1, h2, (h1.get e).2.2⟩))
/-- takes it, if it is that -/
theorem c55 {b : Nat} {r : List Tk} {H : Heap} (k : Int) (s : ByteArray) (hk : k ≠ 6) (h : RS b r H) (he : r ≠ []) (Q : Post) (h0 : nextIs k s r = false → Q (B false) H)
    (h1 : ∀ t r1 o, r = t :: r1 → nextIs k s r = true → RS b r1 (H.setObj b o) → Q (B true) (H.setObj b o)) : E 55 [Pt b, I k, S s] H Q := by
  cases r with
  | nil => exact (he rfl).elim
  | cons t r =>
    rw [f55_eq, c9' h]
    simp only [encK_sz, encK_sp, ob_some, part_f, List.getElem?_cons_zero, List.getElem?_cons_succ, i_neq, s_neq]
    by_cases hk1 : t.k = k
    · rw [decide_eq_true hk1, Bool.not_true, cnd_f, f55_j7_eq]
      by_cases hs1 : t.s = s
      · rw [decide_eq_true hs1, Bool.not_true, cnd_f]
        exact c65' h (hk1 ▸ hk) _ (fun o h2 => h1 t r o rfl (by simp [nextIs, hk1, hs1]) h2)
      · rw [decide_eq_false hs1, Bool.not_false, cnd_t]
        exact h0 (by simp [nextIs, hs1])
    · rw [decide_eq_false hk1, Bool.not_false, cnd_t, f55_j7_eq, cnd_t]
      exact h0 (by simp [nextIs, hk1])
theorem c34 {b : Nat} {r : List Tk} {H : Heap} (s : ByteArray) (h : RS b r H) (he : r ≠ []) (Q : Post) (h0 : nextIs 1 s r = false → Q (B false) H)
    (h1 : ∀ t r1 o, r = t :: r1 → nextIs 1 s r = true → RS b r1 (H.setObj b o) → Q (B true) (H.setObj b o)) : E 34 [Pt b, S s] H Q := by
  rw [f34_eq]; exact c55 1 s (by decide) h he _ h0 h1
theorem c76 {b : Nat} {r : List Tk} {H : Heap} (s : ByteArray) (h : RS b r H) (he : r ≠ []) (Q : Post) (h0 : nextIs 5 s r = false → Q (B false) H)
    (h1 : ∀ t r1 o, r = t :: r1 → nextIs 5 s r = true → RS b r1 (H.setObj b o) → Q (B true) (H.setObj b o)) : E 76 [Pt b, S s] H Q := by
  rw [f76_eq]; exact c55 5 s (by decide) h he _ h0 h1
theorem c92 {b : Nat} {r : List Tk} {H : Heap} (h : RS b r H) (he : r ≠ []) (Q : Post) (h0 : kindN r ≠ 2 → Q (.tup [S e0, B false]) H)
    (h1 : ∀ t r1 o, r = t :: r1 → t.k = 2 → RS b r1 (H.setObj b o) → Q (.tup [S t.s, B true]) (H.setObj b o)) : E 92 [Pt b] H Q := by
  cases r with
  | nil => exact (he rfl).elim
  | cons t r =>
    rw [f92_eq, c9' h]
    simp only [encK_sz, encK_sp, ob_some, part_f, List.getElem?_cons_zero, List.getElem?_cons_succ, i_neq]
    by_cases hk : t.k = 2
    · rw [decide_eq_true hk, Bool.not_true, cnd_f]
      exact c65' h (by omega) _ (fun o h2 => h1 t r o rfl hk h2)
    · rw [decide_eq_false hk, Bool.not_false, cnd_t]
      exact h0 hk
theorem c81 {b i : Nat} {L : List Tk} {H : Heap} (h : RI b L i H) (hl : L ≠ []) (Q : Post) : E 81 [Pt b] H Q = Q (I i) H := by
  rw [f81_eq, c15 h hl, cnd_f]
  obtain ⟨⟨s', n', t', h1⟩, h2⟩ := h
  simp only [nil_Pt, ob_some, add_Pt, ld_off h1, part_f, List.getElem?_cons_zero, List.getElem?_cons_succ]
theorem c83 {b i j : Nat} {L : List Tk} {H : Heap} (h : RI b L i H) (hl : L ≠ []) (hj : j ≤ i) (Q : Post) (hq : ∀ o, RI b L j (H.setObj b o) → Q (.tup []) (H.setObj b o)) : E 83 [Pt b, I j] H Q := by
  rw [f83_eq, c15 h hl, not_B, ob_some, Bool.not_false, cnd_t]
  obtain ⟨o, ho, h'⟩ := h.set j
  obtain ⟨⟨s', n', t', h1⟩, h2⟩ := h
  have g0 : decide ((0 : Int) ≤ (j : Int)) = true := decide_eq_true (by omega)
  have g1 : decide ((j : Int) ≤ (i : Int)) = true := decide_eq_true (by omega)
  rw [i_geq, g0, ob_some, cnd_t, nil_Pt, ob_some, add_Pt, ob_some, ld_off h1, part_f]
  simp only [List.getElem?_cons_succ, List.getElem?_cons_zero, ob_some, i_leq, g1]
  rw [f83_j2_eq, cnd_t, nil_Pt, ob_some, add_Pt, ob_some, ho, ob_some]
  exact hq o h'
/-! ### The parser -/
structure PS (H0 : Heap) (T : Nat → Nat → Prop) (pb rb : Nat) (r : List Tk) (o e a : Int) (H : Heap) : Prop where
  ext : HExt H0 H
  fp : H0.fresh pb
  fr : H0.fresh rb
  ne : pb ≠ rb
  op : H.objs pb = some (.cells [Pt rb, I o, I e, I a])
  rd : RS rb r H
  tp : ∀ c n, T c n → H.tips c = some n
section
variable {H0 H : Heap} {T : Nat → Nat → Prop} {pb rb : Nat} {r : List Tk} {o e a : Int} {Q : Post}
theorem PS.mono {H' : Heap} (h : PS H0 T pb rb r o e a H) (he : HExt H H') : PS H0 T pb rb r o e a H' :=
  ⟨h.ext.trans he, h.fp, h.fr, h.ne, he.obj h.op, h.rd.mono he, fun c n hc => by have := h.tp c n hc; rw [(he c (fun hf => by rw [hf.2] at this; cases this)).2.1]; exact this⟩
theorem PS.setr {ob : AObj} {r1 : List Tk} (h : PS H0 T pb rb r o e a H) (hr : RS rb r1 (H.setObj rb ob)) : PS H0 T pb rb r1 o e a (H.setObj rb ob) :=
  ⟨h.ext.setObj h.fr _, h.fp, h.fr, h.ne, by rw [setObj_ne _ _ h.ne]; exact h.op, hr, h.tp⟩
theorem PS.setp (h : PS H0 T pb rb r o e a H) (o' e' a' : Int) : PS H0 T pb rb r o' e' a' (H.setObj pb (.cells [Pt rb, I o', I e', I a'])) :=
  ⟨h.ext.setObj h.fp _, h.fp, h.fr, h.ne, setObj_same _ _ _, by
    obtain ⟨L, i, s', n', t', h1, h2⟩ := h.rd
    exact ⟨L, i, s', n', t', by rw [setObj_ne _ _ (Ne.symm h.ne)]; exact h1, h2⟩, h.tp⟩
theorem PS.ld0 (h : PS H0 T pb rb r o e a H) : ldH H false 1 (Poff pb 0) = some (Pt rb) := by rw [ld_off h.op]; rfl
theorem PS.ld1 (h : PS H0 T pb rb r o e a H) : ldH H false 1 (Poff pb 1) = some (I o) := by rw [ld_off h.op]; rfl
theorem PS.ld2 (h : PS H0 T pb rb r o e a H) : ldH H false 1 (Poff pb 2) = some (I e) := by rw [ld_off h.op]; rfl
theorem PS.ld3 (h : PS H0 T pb rb r o e a H) : ldH H false 1 (Poff pb 3) = some (I a) := by rw [ld_off h.op]; rfl
theorem PS.st1 (h : PS H0 T pb rb r o e a H) (n : Int) : stH H 1 (Poff pb 1) (I n) = some (H.setObj pb (.cells [Pt rb, I n, I e, I a])) := by simp [stH, h.op, sizedA, cellsA, spliceA, I, Pt]
theorem PS.st2 (h : PS H0 T pb rb r o e a H) (n : Int) : stH H 1 (Poff pb 2) (I n) = some (H.setObj pb (.cells [Pt rb, I o, I n, I a])) := by simp [stH, h.op, sizedA, cellsA, spliceA, I, Pt]
theorem PS.st3 (h : PS H0 T pb rb r o e a H) (n : Int) : stH H 1 (Poff pb 3) (I n) = some (H.setObj pb (.cells [Pt rb, I o, I e, I n])) := by simp [stH, h.op, sizedA, cellsA, spliceA, I, Pt]
/-- no node -/
def zX : Ex := .mk 0 nullV e0 e0 0 true .full []
theorem zX_b : bldA [] [I 0, I 0, I 0, S ⟨#[]⟩, S ⟨#[]⟩, S ⟨#[]⟩, AV.sl 0 true .full []] = some (encX zX) := rfl
/-- the first fault is noted -/
theorem c68 (h : PS H0 T pb rb r o 0 a H) (hr : r ≠ []) (e' : Int) (hq : ∀ H', PS H0 T pb rb r o e' (posn r) H' → Q (encX zX) H') : E 68 [Pt pb, I e'] H Q := by
  have e0' : decide ((0 : Int) = 0) = true := rfl
  rw [f68_eq]
  simp only [nil_Pt, ob_some, add_Pt, h.ld2, i_eql, e0', cnd_t, h.ld0]
  rw [c10 h.rd hr]
  have h1 := h.setp o e' a
  have h2 := h1.setp o e' (posn r)
  rw [h.st2, ob_some, h1.st3, ob_some, f68_j8_eq]
  simp only [zX_b, ob_some, szX, splX, partX]
  exact hq _ h2
end
end Go.Hx
namespace Go.Hx
theorem encX_mk (k : Int) (v : Vl) (var fld : ByteArray) (s : Nat) (n : Bool) (t : Tip) (l : List Ex) : encX (.mk k v var fld s n t l) = .agg [I k, I v.k, I v.n, S v.s, S var, S fld, .sl s n t (l.map encX)] := by
  rw [encX, encC_eq]; rfl
def shX (x : Ex) : Prop := x.nil = true ∨ x.sz = 7
theorem allX_mk {p : Ex → Prop} (k : Int) (v : Vl) (a b : ByteArray) (s : Nat) (n : Bool) (t : Tip) (l : List Ex) : allX p (.mk k v a b s n t l) ↔ p (.mk k v a b s n t l) ∧ allXs p l := by simp [allX]
theorem sh_leaf (k : Int) (v : Vl) (a b : ByteArray) (s : Nat) (t : Tip) : allX shX (.mk k v a b s true t []) := (allX_mk _ _ _ _ _ _ _ _).2 ⟨.inl rfl, trivial⟩
theorem parts_cons (k : Int) (x : Ex) (l : List Ex) : partsJ k (x :: l) = (if x.k = k then x.l else [x]) ++ partsJ k l := by simp [partsJ]
theorem parts_len (k : Int) (l : List Ex) : (partsJ k l).length ≤ sizeXs l := Nat.le_trans (len_sizeXs _) (sizeXs_parts k l)
theorem parts_norm (k : Int) (l : List Ex) : partsJ k (l.map norm) = (partsJ k l).map norm := by
  induction l with
  | nil => rfl
  | cons x l ih =>
    rw [List.map_cons, parts_cons, parts_cons, ih, List.map_append, norm_k, norm_l]
    split <;> rfl
theorem parts_sh {k : Int} {l : List Ex} (h : ∀ x ∈ l, allX shX x) : ∀ x ∈ partsJ k l, allX shX x := fun x hx => by
  simp only [partsJ, List.mem_flatMap] at hx
  obtain ⟨y, hy, hx⟩ := hx
  split at hx
  · exact allXs_mem ((allX_eq _ _).1 (h y hy)).2 hx
  · simp at hx; subst hx; exact h _ hy
theorem mk1X (x : Ex) : mkSlA 7 [encX x] = some (.sl 7 false .full ([x].map encX)) := by
  simp [mkSlA, szX]
theorem mk2X (x y : Ex) : mkSlA 7 [encX x, encX y] = some (.sl 7 false .full ([x, y].map encX)) := by
  simp [mkSlA, szX]
theorem q6X (x : Ex) : partA false 6 1 (encC x) = some (encXs x.sz x.nil x.tip x.l) := by rw [encC_eq]; rfl
theorem q0X (x : Ex) : partA false 0 1 (encC x) = some (I x.k) := by rw [encC_eq]; rfl
theorem constb (v : Vl) : bldA [(0, 1, I 1), (1, 3, encV v)] [I 0, I 0, I 0, S ⟨#[]⟩, S ⟨#[]⟩, S ⟨#[]⟩, AV.sl 0 true .full []] = some (encX (.mk 1 v e0 e0 0 true .full [])) := by rw [encX_mk]; rfl
theorem rowb (k : Int) (s : Nat) (n : Bool) (t : Tip) (l : List Ex) : bldA [(0, 1, I k), (6, 1, .sl s n t (l.map encX))] [I 0, I 0, I 0, S ⟨#[]⟩, S ⟨#[]⟩, S ⟨#[]⟩, AV.sl 0 true .full []] = some (encX (.mk k nullV e0 e0 s n t l)) := by rw [encX_mk]; rfl
theorem norm_mkl (k : Int) (v : Vl) (a b : ByteArray) (s : Nat) (n : Bool) (t : Tip) (l : List Ex) : norm (.mk k v a b s n t l) = nd k v a b (l.map norm) := norm_mk _ _ _ _ _ _ _ _
/-- what is made of all parts -/
theorem join_end {H0 H : Heap} {k : Int} (hk : k = 16 ∨ k = 17) {Q : Post} (l : List Ex) {s : Nat} {n : Bool} {t : Tip} (hn : n = true ∨ s = 7) (hsh : ∀ x ∈ partsJ k l, allX shX x)
    (hq : ∀ y H', HExt H0 H' → norm y = joinE k (l.map norm) → allX shX y → Q (encX y) H') (he : HExt H0 H) (out : List Ex) (ho : out = partsJ k l) :
    (out = [] → Q (encX (.mk 1 (boolV (decide (k = 16))) e0 e0 0 true .full [])) H) ∧ (∀ x, out = [x] → Q (encX x) H) ∧ (2 ≤ out.length → Q (encX (.mk k nullV e0 e0 s n t out)) H) := by
  subst ho
  have hj : joinE k (l.map norm) = match (partsJ k l).map norm with | [] => nd 1 (boolV (decide (k = 16))) e0 e0 [] | [x] => x | out => nd k nullV e0 e0 out := by
    rw [joinE, parts_norm]
    generalize (partsJ k l).map norm = z
    rcases z with _ | ⟨a, _ | ⟨b, r⟩⟩ <;> rfl
  refine ⟨fun h => ?_, fun x h => ?_, fun h => ?_⟩
  · refine hq _ H he ?_ (sh_leaf _ _ _ _ _ _)
    rw [hj, h, norm_mkl]; rfl
  · refine hq x H he ?_ (hsh x (by rw [h]; simp))
    rw [hj, h]; rfl
  · refine hq _ H he ?_ ((allX_mk _ _ _ _ _ _ _ _).2 ⟨hn, allXs_of hsh⟩)
    rw [hj, norm_mkl]
    cases hp : partsJ k l with
    | nil => rw [hp] at h; simp at h
    | cons a r =>
      cases r with
      | nil => rw [hp] at h; simp at h
      | cons b r => rfl
theorem c35 (k : Int) (hk : k = 16 ∨ k = 17) (l : List Ex) (s : Nat) (n : Bool) (t : Tip) (hsh : ∀ x ∈ l, allX shX x) (hl : sizeXs l ≤ 1099511627776) (H0 : Heap) (Q : Post)
    (hq : ∀ y H', HExt H0 H' → norm y = joinE k (l.map norm) → allX shX y → Q (encX y) H') : E 35 [I k, .sl s n t (l.map encX)] H0 Q := by
  have hr : isRowP k = true := by rcases hk with rfl | rfl <;> rfl
  have hll := len_sizeXs l
  have loop : ∀ (r pre : List Ex) (H : Heap) (s' : Nat) (n' : Bool) (t' : Tip), l = pre ++ r → HExt H0 H → (n' = true ∨ s' = 7) → OwnS H0 H 7 (partsJ k pre).length t' →
      f35_l16 (I k) [I 0, I 0, I 0, S ⟨#[]⟩, S ⟨#[]⟩, S ⟨#[]⟩, AV.sl 0 true .full []] (.sl s' n' t' ((partsJ k pre).map encX)) (.sl s n t (l.map encX)) (I l.length) (I pre.length) H Q := by
    intro r
    induction r with
    | nil =>
      intro pre H s' n' t' e he hn ho
      rw [List.append_nil] at e
      subst e
      obtain ⟨h0, h1, h2⟩ := join_end hk l hn (parts_sh hsh) hq he (partsJ k l) rfl (s := s') (n := n') (t := t')
      have hlt : decide ((l.length : Int) < (l.length : Int)) = false := decide_eq_false (by omega)
      rw [f35_l16_eq, i_lss, ob_some, hlt, cnd_f, len_sl, ob_some, List.length_map, i_eql, ob_some]
      cases hp : partsJ k l with
      | nil =>
        rw [List.length_nil, show decide (((0 : Nat) : Int) = 0) = true from rfl, cnd_t, i_eql, ob_some, c56, constb, ob_some, szX, ob_some, splX, ob_some, partX, ob_some]
        exact h0 hp
      | cons a r =>
        have z0 : decide (((a :: r).length : Int) = 0) = false := decide_eq_false (by simp; omega)
        rw [z0, cnd_f, i_eql, ob_some]
        cases r with
        | nil =>
          have i0 : ixaA 7 (.sl s' n' t' (([a] : List Ex).map encX)) (I 0) = some (encC a) := ixX [a] s' n' t' [] [] a rfl
          rw [show decide ((([a] : List Ex).length : Int) = 1) = true from rfl, cnd_t, i0, ob_some, partX, ob_some, szX, ob_some, splX, ob_some, partX, ob_some]
          exact h1 a hp
        | cons b r =>
          have z1 : decide (((a :: b :: r).length : Int) = 1) = false := decide_eq_false (by simp; omega)
          rw [z1, cnd_f, rowb, ob_some, szX, ob_some, splX, ob_some, partX, ob_some, ← hp]
          exact h2 (by rw [hp]; simp)
    | cons x r ih =>
      intro pre H s' n' t' e he hn ho
      have hlt : pre.length < l.length := by rw [e]; simp
      have hlt' : decide ((pre.length : Int) < (l.length : Int)) = true := decide_eq_true (by omega)
      have hsz : (partsJ k (pre ++ [x])).length ≤ 1099511627776 := by
        have h1 : partsJ k l = partsJ k (pre ++ [x]) ++ partsJ k r := by rw [e]; simp [partsJ]
        have h2 := parts_len k l
        rw [h1, List.length_append] at h2; omega
      have hpx : partsJ k (pre ++ [x]) = partsJ k pre ++ (if x.k = k then x.l else [x]) := by simp [partsJ]
      have hx : allX shX x := hsh x (by rw [e]; simp)
      have next : ∀ (s2 : Nat) (n2 : Bool) (t2 : Tip) (H2 : Heap), (n2 = true ∨ s2 = 7) → HExt H0 H2 → OwnS H0 H2 7 (partsJ k (pre ++ [x])).length t2 →
          f35_j32 (I k) [I 0, I 0, I 0, S ⟨#[]⟩, S ⟨#[]⟩, S ⟨#[]⟩, AV.sl 0 true .full []] (.sl s2 n2 t2 ((partsJ k (pre ++ [x])).map encX)) (.sl s n t (l.map encX)) (I l.length) (I pre.length) H2 Q := fun s2 n2 t2 H2 hn2 he2 ho2 => by
        rw [f35_j32_eq, i_add, ob_some, w64_succ hlt (by omega)]
        have := ih (pre ++ [x]) H2 s2 n2 t2 (by rw [e]; simp) he2 hn2 ho2
        rw [List.length_append, List.length_singleton] at this
        exact this
      rw [f35_l16_eq, i_lss, ob_some, hlt', cnd_t]
      have hix : ixaA 7 (.sl s n t (l.map encX)) (I pre.length) = some (encC x) := ixX l s n t pre r x e
      rw [hix, ob_some, partX, ob_some, szX, ob_some, splX, ob_some, q0X, ob_some, i_eql, ob_some]
      rw [hpx, List.length_append] at hsz
      refine cnd_intro (fun h1 => ?_) (fun h1 => ?_)
      · have h1 : x.k = k := by simpa using h1
        rw [if_pos h1] at hpx hsz
        rw [q6X, ob_some]
        refine app_many he (by rw [List.length_map]; exact ho) hn ((allX_eq _ _).1 hx).1 (by omega) (by simp only [List.length_map]; omega) (fun s2 n2 t2 H2 hn2 he2 ho2 => ?_)
        rw [← List.map_append, ← hpx] at ho2 ⊢
        rw [List.length_map] at ho2
        exact next s2 n2 t2 H2 hn2 he2 ho2
      · have h1 : x.k ≠ k := by simpa using h1
        rw [if_neg h1] at hpx hsz
        have hm := mk1X x
        rw [partX, ob_some, hm, ob_some]
        refine app_many he (by rw [List.length_map]; exact ho) hn (.inr rfl) (by omega) (by simp only [List.length_map]; omega) (fun s2 n2 t2 H2 hn2 he2 ho2 => ?_)
        rw [← List.map_append, ← hpx] at ho2 ⊢
        rw [List.length_map] at ho2
        exact next s2 n2 t2 H2 hn2 he2 ho2
  rw [f35_eq, c43, hr, not_B, ob_some, Bool.not_true, cnd_f, len_sl, ob_some, List.length_map]
  exact loop l [] H0 0 true .full rfl (HExt.refl H0) (.inl rfl) trivial
end Go.Hx
namespace Go.Hx
abbrev top47 : Nat := 140737488355328
def signC : List AV := [S ⟨#[43]⟩, I 4, S ⟨#[45]⟩, I 5, S ⟨#[42]⟩, I 6, S ⟨#[47]⟩, I 7, S ⟨#[37]⟩, I 8, S ⟨#[61]⟩, I 9, S ⟨#[60, 62]⟩, I 10, S ⟨#[60]⟩, I 11, S ⟨#[60, 61]⟩, I 12, S ⟨#[62]⟩, I 13, S ⟨#[62, 61]⟩, I 14]
theorem c75 (H : Heap) (Q : Post) (hq : ∀ H', HExt H H' → Q (.agg signC) H') : E 75 [] H Q := by
  rw [f75_eq]
  intro b hb
  have b2 : ∀ (s : ByteArray) (n : Int), bldA [(0, 1, S s), (1, 1, I n)] [S e0, I 0] = some (.agg [S s, I n]) := fun _ _ => rfl
  simp only [b2, ob_some]
  have hb' : bldA [(0, 2, .agg [S ⟨#[43]⟩, I 4]), (2, 2, .agg [S ⟨#[45]⟩, I 5]), (4, 2, .agg [S ⟨#[42]⟩, I 6]), (6, 2, .agg [S ⟨#[47]⟩, I 7]), (8, 2, .agg [S ⟨#[37]⟩, I 8]), (10, 2, .agg [S ⟨#[61]⟩, I 9]), (12, 2, .agg [S ⟨#[60, 62]⟩, I 10]), (14, 2, .agg [S ⟨#[60]⟩, I 11]), (16, 2, .agg [S ⟨#[60, 61]⟩, I 12]), (18, 2, .agg [S ⟨#[62]⟩, I 13]), (20, 2, .agg [S ⟨#[62, 61]⟩, I 14])]
    [S e0, I 0, S e0, I 0, S e0, I 0, S e0, I 0, S e0, I 0, S e0, I 0, S e0, I 0, S e0, I 0, S e0, I 0, S e0, I 0, S e0, I 0] = some (.agg signC) := rfl
  rw [hb', ob_some]
  have o1 := setObj_same H b (.cells [S e0, I 0, S e0, I 0, S e0, I 0, S e0, I 0, S e0, I 0, S e0, I 0, S e0, I 0, S e0, I 0, S e0, I 0, S e0, I 0, S e0, I 0])
  have e1 : HExt H (H.setObj b (.cells [S e0, I 0, S e0, I 0, S e0, I 0, S e0, I 0, S e0, I 0, S e0, I 0, S e0, I 0, S e0, I 0, S e0, I 0, S e0, I 0, S e0, I 0])) := (HExt.refl H).setObj hb _
  simp only [Pt_def]
  generalize H.setObj b (.cells [S e0, I 0, S e0, I 0, S e0, I 0, S e0, I 0, S e0, I 0, S e0, I 0, S e0, I 0, S e0, I 0, S e0, I 0, S e0, I 0, S e0, I 0]) = H1 at o1 e1 ⊢
  have hs := st_agg o1 (xs := signC) rfl 22 rfl
  rw [hs, ob_some, ld_agg (setObj_same _ _ _) 22 rfl, ob_some]
  exact hq _ (e1.setObj hb _)
theorem sign_ix {j : Nat} (h : j < 11) (K : AV → Prop) (hk : K (S (opS j))) : ob (ixAgg 11 true 2 (.agg signC) (I j)) fun r13 => fldK false 0 1 r13 K := by
  match j, h with
  | 0, _ | 1, _ | 2, _ | 3, _ | 4, _ | 5, _ | 6, _ | 7, _ | 8, _ | 9, _ | 10, _ => exact hk
  | n + 11, h => exact absurd h (by omega)
theorem one_of {l : List Ex} (h : l.length = 1) : ∃ y, l = [y] := by
  match l, h with
  | [y], _ => exact ⟨y, rfl⟩
theorem two_of {l : List Ex} (h : l.length = 2) : ∃ y z, l = [y, z] := by
  match l, h with
  | [y, z], _ => exact ⟨y, z, rfl⟩
end Go.Hx
namespace Go.Hx
/-- what is answered -/
def Res (H0 : Heap) (T : Nat → Nat → Prop) (pb rb : Nat) (o : Nat) (Bd : Nat) (Q : Post) : PR → Prop
  | .ok x r1 => ∀ y H', norm y = x → allX shX y → PS H0 T pb rb r1 o 0 0 H' → Q (encX y) H'
  | .bad e p => ∀ y H' r1 o', allX shX y → sizeX y ≤ Bd → r1 ≠ [] → PS H0 T pb rb r1 o' e p H' → Q (encX y) H'
theorem zX_sh : allX shX zX := sh_leaf _ _ _ _ _ _
theorem zX_size : sizeX zX = 1 := rfl
theorem constX_sh (v : Vl) : allX shX (.mk 1 v e0 e0 0 true .full []) := sh_leaf _ _ _ _ _ _
theorem fieldb (v f : ByteArray) : bldA [(0, 1, I 2), (4, 1, S v), (5, 1, S f)] [I 0, I 0, I 0, S ⟨#[]⟩, S ⟨#[]⟩, S ⟨#[]⟩, AV.sl 0 true .full []] = some (encX (.mk 2 nullV v f 0 true .full [])) := by rw [encX_mk]; rfl
section
variable {H0 H : Heap} {T : Nat → Nat → Prop} {pb rb : Nat} {r : List Tk} {o : Nat} {Q : Post} {Bd : Nat}
theorem c57 {a e : Int} (h : PS H0 T pb rb r o e a H) (hr : r ≠ []) (k : Int) (s : ByteArray) : E 57 [Pt pb, I k, S s] H Q = Q (B (nextIs k s r)) H := by
  cases r with
  | nil => exact (hr rfl).elim
  | cons t r =>
    rw [f57_eq, nil_Pt, ob_some, add_Pt, ob_some, h.ld0, ob_some, c9' h.rd]
    simp only [encK_sz, encK_sp, ob_some, part_f, List.getElem?_cons_zero, List.getElem?_cons_succ, i_eql, s_eql, f57_j6_eq, cnd_B, decide_eq_true_eq, nextIs]
    split <;> simp_all
theorem c85 (s : ByteArray) (hs : s.size ≤ 256) (H : Heap) (Q : Post) : E 85 [S s] H Q = Q (encV (textV s)) H := by
  have h0 : decide ((256 : Int) < (s.size : Int)) = false := decide_eq_false (by omega)
  have hb : bldA [(0, 1, I 3), (2, 1, S s)] [I 0, I 0, S ⟨#[]⟩] = some (encV (textV s)) := rfl
  have h1 : spliceA 0 [I (textV s).k, I (textV s).n, S (textV s).s] [I 0, I 0, S ⟨#[]⟩] = some [I (textV s).k, I (textV s).n, S (textV s).s] := rfl
  have h2 : partA true 0 3 [I (textV s).k, I (textV s).n, S (textV s).s] = some (encV (textV s)) := rfl
  rw [f85_eq, len_S, ob_some, i_gtr, ob_some, h0, cnd_f, hb, ob_some, sz3, ob_some, h1, ob_some, h2, ob_some]
theorem c87 (s : ByteArray) (H : Heap) (Q : Post) : E 87 [S s] H Q = Q (match wordV s with | some v => .tup [encV v, B true] | none => .tup [encV nullV, B false]) H := by
  have h1 : ∀ v : Vl, spliceA 0 [I v.k, I v.n, S v.s] [I 0, I 0, S ⟨#[]⟩] = some [I v.k, I v.n, S v.s] := fun v => rfl
  have h2 : ∀ v : Vl, partA true 0 3 [I v.k, I v.n, S v.s] = some (encV v) := fun v => rfl
  rw [f87_eq, s_eql, ob_some]
  by_cases g1 : s = sTRUE
  · have hw : wordV s = some (boolV true) := by rw [wordV, if_pos g1]
    rw [hw, decide_eq_true (show s = ⟨#[84, 82, 85, 69]⟩ from g1), cnd_t, c56, sz3, ob_some, h1, ob_some, h2, ob_some]
  · rw [decide_eq_false (show ¬ s = ⟨#[84, 82, 85, 69]⟩ from g1), cnd_f, s_eql, ob_some]
    by_cases g2 : s = sFALSE
    · have hw : wordV s = some (boolV false) := by rw [wordV, if_neg g1, if_pos g2]
      rw [hw, decide_eq_true (show s = ⟨#[70, 65, 76, 83, 69]⟩ from g2), cnd_t, c56, sz3, ob_some, h1, ob_some, h2, ob_some]
    · rw [decide_eq_false (show ¬ s = ⟨#[70, 65, 76, 83, 69]⟩ from g2), cnd_f, s_eql, ob_some]
      by_cases g3 : s = sNULL
      · have hw : wordV s = some nullV := by rw [wordV, if_neg g1, if_neg g2, if_pos g3]
        rw [hw, decide_eq_true (show s = ⟨#[78, 85, 76, 76]⟩ from g3), cnd_t, c91, sz3, ob_some, h1, ob_some, h2, ob_some]
      · have hw : wordV s = none := by rw [wordV, if_neg g1, if_neg g2, if_neg g3]
        rw [hw, decide_eq_false (show ¬ s = ⟨#[78, 85, 76, 76]⟩ from g3), cnd_f, c91, sz3, ob_some, h1, ob_some, h2, ob_some]
/-- a number -/
theorem c82 (m : Bool) {t : Tk} {r : List Tk} (h : PS H0 T pb rb (t :: r) o 0 0 H) (hk : t.k = 3) (hok : okTk t) (hB : 1 ≤ Bd) (hq : Res H0 T pb rb o Bd Q (numR m (t :: r))) : E 82 [Pt pb, strT (if m = true then [45] else [])] H Q := by
  obtain ⟨hsz, hdig, _⟩ := hok
  have hdig := hdig hk
  have hts : t.s = bs (tx t.s) := (bs_tx t.s).symm
  have hlen : (tx t.s).length = t.s.size := size_list t.s
  have j10 : ∀ d : AV, d = S (bs (numB (m && !decide (t.s = ⟨#[48]⟩)) (tx t.s))) → f82_j10 (Pt pb) [I 0, I 0, I 0, S ⟨#[]⟩, S ⟨#[]⟩, S ⟨#[]⟩, AV.sl 0 true .full []] d H Q := fun d hd => by
    subst hd
    have hD : DigL (m && !decide (t.s = ⟨#[48]⟩)) (tx t.s) := by
      obtain ⟨h1, h2, h3⟩ := hdig
      refine ⟨h1, h2, ?_⟩
      rcases h3 with h3 | ⟨_, h3⟩
      · exact .inl h3
      · by_cases h48 : t.s = ⟨#[48]⟩
        · right; rw [decide_eq_true h48]; exact ⟨by simp, h3⟩
        · left
          intro hh
          apply h48
          cases hl : tx t.s with
          | nil => rw [hl] at h3; cases h3
          | cons c l =>
            rw [hl] at h3 hh
            have : l = [] := by simpa using h3
            subst this
            have hc : c.toNat = 48 := by simpa using hh
            have hc : c = 48 := UInt8.toNat_inj.1 hc
            rw [hts, hl, hc]
    have hv : numV (m && !decide (t.s = ⟨#[48]⟩)) (bs (tx t.s)) = numV m t.s := by
      rw [bs_tx]
      by_cases h48 : t.s = ⟨#[48]⟩
      · rw [h48]; cases m <;> rfl
      · rw [decide_eq_false h48]; simp
    rw [f82_j10_eq, c89 _ _ (by omega) hD, hv, extN0, ob_some, extN1, ob_some]
    cases hn : numOf m t.s with
    | none =>
      have hN : numV m t.s = (0, 10) := by simp only [numV, hn]
      rw [hN, enc_err 10 (by decide), ob_some, cnd_t]
      refine c68 h (by simp) 4 (fun H' h' => ?_)
      simp only [szX, splX, partX, ob_some]
      simp only [numR, hn] at hq
      exact hq zX H' _ _ zX_sh (by rw [zX_size]; exact hB) (by simp) h'
    | some n =>
      have hN : numV m t.s = (n, 0) := by simp only [numV, hn]
      rw [hN, enc_ok, ob_some, cnd_f]
      simp only [nil_Pt, ob_some, add_Pt, h.ld0]
      refine c65' h.rd (by omega) _ (fun ob1 hr => ?_)
      rw [c90, constb, ob_some, szX, ob_some, splX, ob_some, partX, ob_some]
      simp only [numR, hn] at hq
      exact hq _ _ (by rw [norm_mkl]; rfl) (constX_sh _) (h.setr hr)
  rw [f82_eq, nil_Pt, ob_some, add_Pt, ob_some, h.ld0, ob_some, c9' h.rd, fK1, s_neq, ob_some]
  refine cnd_intro (fun h1 => ?_) (fun h1 => ?_)
  · have h1 : t.s ≠ ⟨#[48]⟩ := by simpa using h1
    have hS : S t.s = strT (tx t.s) := by show S t.s = S (bs (tx t.s)); rw [bs_tx]
    rw [hS, s_add _ _ _ _ (by have : (if m = true then [45] else ([] : List UInt8)).length ≤ 1 := by cases m <;> simp
                              omega), ob_some]
    refine j10 _ ?_
    rw [decide_eq_false h1]; simp only [Bool.not_false, Bool.and_true]; rfl
  · have h1 : t.s = ⟨#[48]⟩ := by simpa using h1
    refine j10 _ ?_
    rw [decide_eq_true h1]; simp only [Bool.not_true, Bool.and_false, numB, Bool.false_eq_true, if_false, List.nil_append, bs_tx]
/-- a field, behind its Var -/
theorem c86 (v : ByteArray) {a : Int} (h : PS H0 T pb rb r o 0 0 H) (he : endsT r) (hB : 1 ≤ Bd) (hq : Res H0 T pb rb o Bd Q (fieldR v r)) : E 86 [Pt pb, S v] H Q := by
  have hr := endsT_ne he
  rw [f86_eq]
  simp only [nil_Pt, ob_some, add_Pt, h.ld0]
  refine c76 _ h.rd hr _ (fun hn => ?_) (fun t r1 ob1 e hn h1 => ?_)
  · rw [not_B, ob_some, Bool.not_false, cnd_t]
    refine c68 h hr 4 (fun H' h' => ?_)
    simp only [szX, splX, partX, ob_some]
    simp only [fieldR, hn] at hq
    exact hq zX H' _ _ zX_sh (by rw [zX_size]; exact hB) hr h'
  · subst e
    have h2 := h.setr h1
    have he1 := endsT_tail he (by rw [(nextIs_cons hn).1]; decide)
    have hr1 := endsT_ne he1
    rw [not_B, ob_some, Bool.not_true, cnd_f]
    rw [h2.ld0, ob_some]
    simp only [fieldR, hn, if_true, List.tail_cons] at hq
    refine c92 h2.rd hr1 _ (fun hk => ?_) (fun u r2 ob2 e hk h3 => ?_)
    · rw [x20, ob_some, x21, ob_some, not_B, ob_some, Bool.not_false, cnd_t]
      refine c68 h2 hr1 4 (fun H' h' => ?_)
      simp only [szX, splX, partX, ob_some]
      cases r1 with
      | nil => exact (hr1 rfl).elim
      | cons u r2 =>
        simp only [kindN] at hk
        simp only [if_neg hk] at hq
        exact hq zX H' _ _ zX_sh (by rw [zX_size]; exact hB) (by simp) h'
    · subst e
      simp only [if_pos hk] at hq
      rw [x20, ob_some, x21, ob_some, not_B, ob_some, Bool.not_true, cnd_f, fieldb, ob_some, szX, ob_some, splX, ob_some, partX, ob_some]
      exact hq _ _ (by rw [norm_mkl]; rfl) (sh_leaf _ _ _ _ _ _) (h2.setr h3)
/-- something within, behind a token -/
theorem c59 {fv : AV} {t : Tk} (h : PS H0 T pb rb (t :: r) o 0 0 H) (hk : t.k ≠ 6) (h0 : 200 ≤ o → ∀ H', PS H0 T pb rb (t :: r) o 2 t.p H' → Q (encX zX) H')
    (h1 : o < 200 → ∀ H', PS H0 T pb rb r ((o + 1 : Nat) : Int) 0 0 H' → ∀ K : Post, (∀ y H2 r1 o1 e a, PS H0 T pb rb r1 o1 e a H2 → (∀ H3, PS H0 T pb rb r1 (W64 (o1 - 1)) e a H3 → Q (encX y) H3) → K (encX y) H2) → callA (Ev Pg Hs) fv [] H' K) : E 59 [Pt pb, fv] H Q := by
  rw [f59_eq, nil_Pt, ob_some, add_Pt, ob_some, h.ld1, ob_some, i_geq, ob_some]
  refine cnd_intro (fun hc => ?_) (fun hc => ?_)
  · refine c68 h (by simp) 2 (fun H' h' => ?_)
    simp only [szX, splX, partX, ob_some]
    exact h0 (by simp at hc; omega) H' h'
  · have hc : o < 200 := by simp at hc; omega
    simp only [nil_Pt, ob_some, add_Pt, h.ld0]
    refine c65' h.rd hk _ (fun ob1 hr => ?_)
    have h2 := h.setr hr
    have hw : W64 ((o : Int) + 1) = ((o + 1 : Nat) : Int) := w64_succ (n := 1000) (by omega) (by omega)
    have h3 := h2.setp ((o + 1 : Nat) : Int) 0 0
    rw [h2.ld1, ob_some, i_add, ob_some, hw, h2.st1, ob_some]
    refine h1 hc _ h3 _ (fun y H2 r1 o1 e a h4 hQ => ?_)
    have h5 := h4.setp (W64 (o1 - 1)) e a
    rw [szX, ob_some, splX, ob_some, h4.ld1, ob_some, i_sub, ob_some, h4.st1, ob_some, partX, ob_some, szX, ob_some, splX, ob_some, partX, ob_some]
    exact hQ _ h5
/-- the next sign of two parts -/
theorem c67 {lo hi : Int} (h : PS H0 T pb rb r o 0 0 H) (hr : r ≠ []) (h0 : opOf lo hi r = none → ∀ H', PS H0 T pb rb r o 0 0 H' → Q (.tup [I 0, B false]) H')
    (h1 : ∀ t r1 k H', r = t :: r1 → opOf lo hi r = some k → PS H0 T pb rb r1 o 0 0 H' → Q (.tup [I k, B true]) H') : E 67 [Pt pb, I lo, I hi] H Q := by
  cases r with
  | nil => exact (hr rfl).elim
  | cons t r =>
    have loop : ∀ (m j : Nat) (H : Heap), j + m = 11 → PS H0 T pb rb (t :: r) o 0 0 H → ((if t.k = 5 then opI lo hi t.s m j else none) = none → ∀ H', PS H0 T pb rb (t :: r) o 0 0 H' → Q (.tup [I 0, B false]) H') →
        (∀ k H', (if t.k = 5 then opI lo hi t.s m j else none) = some k → PS H0 T pb rb r o 0 0 H' → Q (.tup [I k, B true]) H') → f67_l6 (Pt pb) (I lo) (I hi) (.agg signC) (I j) H Q := by
      intro m
      induction m with
      | zero =>
        intro j H e h h0 h1
        have : decide ((j : Int) < 11) = false := decide_eq_false (by omega)
        rw [f67_l6_eq, i_lss, ob_some, this, cnd_f]
        exact h0 (by simp only [opI]; split <;> rfl) H h
      | succ m ih =>
        intro j H e h h0 h1
        have hlt : decide ((j : Int) < 11) = true := decide_eq_true (by omega)
        have hj : j < 11 := by omega
        have hix : ixAgg 11 true 2 (.agg signC) (I j) = some (.agg [S (opS j), I ((j : Int) + 4)]) := by
          clear ih e h h0 h1 hlt
          match j, hj with
          | 0, _ | 1, _ | 2, _ | 3, _ | 4, _ | 5, _ | 6, _ | 7, _ | 8, _ | 9, _ | 10, _ => rfl
          | n + 11, h => exact absurd h (by omega)
        have hsz : sizedA 2 (.agg [S (opS j), I ((j : Int) + 4)]) = some [S (opS j), I ((j : Int) + 4)] := rfl
        have hsp : spliceA 0 [S (opS j), I ((j : Int) + 4)] [S ⟨#[]⟩, I 0] = some [S (opS j), I ((j : Int) + 4)] := rfl
        have next : (∀ (X : Prop), (if t.k = 5 then opI lo hi t.s (m + 1) j else none) = (if t.k = 5 then opI lo hi t.s m (j + 1) else none)) → ∀ H', PS H0 T pb rb (t :: r) o 0 0 H' →
            f67_j19 (Pt pb) (I lo) (I hi) [S (opS j), I ((j : Int) + 4)] (.agg signC) (I j) (B false) H' Q := fun hx H' h' => by
          have hx := hx True
          rw [f67_j19_eq, cnd_f, i_add, ob_some, w64_succ (n := 11) hj (by omega)]
          exact ih (j + 1) H' (by omega) h' (fun h => h0 (hx.trans h)) (fun k H2 h => h1 k H2 (hx.trans h))
        rw [f67_l6_eq, i_lss, ob_some, hlt, cnd_t, hix, ob_some, hsz, ob_some, hsp, ob_some, part_f]
        simp only [List.getElem?_cons_succ, List.getElem?_cons_zero, ob_some, i_geq, i_leq, part_f]
        refine cnd_intro (fun g1 => ?_) (fun g1 => ?_)
        · have g1 : lo ≤ (j : Int) + 4 := by simpa using g1
          refine cnd_intro (fun g2 => ?_) (fun g2 => ?_)
          · have g2 : (j : Int) + 4 ≤ hi := by simpa using g2
            simp only [nil_Pt, ob_some, add_Pt, h.ld0]
            refine c76 _ h.rd (by simp) _ (fun hn => ?_) (fun t' r' ob1 e' hn hr' => ?_)
            · refine next (fun _ => ?_) H h
              by_cases h5 : t.k = 5
              · have hs : t.s ≠ opS j := fun hs => by simp [nextIs, h5, hs] at hn
                rw [if_pos h5, if_pos h5, opI, if_neg (fun hh => hs hh.2.2)]
              · rw [if_neg h5, if_neg h5]
            · cases e'
              have hc := nextIs_cons hn
              have h2 := h.setr hr'
              rw [f67_j19_eq, cnd_t, part_f]
              simp only [List.getElem?_cons_succ, List.getElem?_cons_zero, ob_some]
              exact h1 _ _ (by rw [if_pos hc.1, opI, if_pos ⟨g1, g2, hc.2⟩]) h2
          · have g2 : ¬ (j : Int) + 4 ≤ hi := by simpa using g2
            refine next (fun _ => ?_) H h
            split
            · rw [opI, if_neg (fun hh => g2 hh.2.1)]
            · rfl
        · have g1 : ¬ lo ≤ (j : Int) + 4 := by simpa using g1
          refine next (fun _ => ?_) H h
          split
          · rw [opI, if_neg (fun hh => g1 hh.1)]
          · rfl
    rw [f67_eq]
    refine c75 H _ (fun H1 e1 => ?_)
    exact loop 11 0 H1 rfl (h.mono e1) (fun hh => h0 hh) (fun k H' hh h' => h1 t r k H' rfl hh h')
end
end Go.Hx
namespace Go.Hx
theorem splX2 (x y : Ex) : spliceA 0 (encC x) (encC y) = some (encC x) := by rw [encC_eq, encC_eq y]; rfl
def copyQ (Q : Post) : Post := fun r1 H => ob (sizedA 7 r1) fun b3 => ob (spliceA 0 b3 [I 0, I 0, I 0, S ⟨#[]⟩, S ⟨#[]⟩, S ⟨#[]⟩, AV.sl 0 true .full []]) fun b4 => ob (partA true 0 7 b4) fun r5 => Q r5 H
theorem copyX (Q : Post) (y : Ex) (H : Heap) : copyQ Q (encX y) H = Q (encX y) H := by simp only [copyQ, szX, splX, partX, ob_some]
def OwnT (T : Nat → Nat → Prop) : Tip → Prop
  | .tip c => ∀ n, ¬ T c n
  | _ => True
def T2 (T : Nat → Nat → Prop) (n : Nat) (t : Tip) : Nat → Nat → Prop := fun c m => T c m ∨ (t = .tip c ∧ m = n)
section
variable {H0 H : Heap} {T : Nat → Nat → Prop} {pb rb : Nat} {r : List Tk} {o e a : Int} {Q : Post}
theorem PS.up {sz n : Nat} {t : Tip} (h : PS H0 T pb rb r o e a H) (ho : OwnS H0 H sz n t) : PS H0 (T2 T (n * sz) t) pb rb r o e a H :=
  ⟨h.ext, h.fp, h.fr, h.ne, h.op, h.rd, fun c m hc => by
    rcases hc with hc | ⟨hc, rfl⟩
    · exact h.tp c m hc
    · subst hc; exact ho.1⟩
theorem PS.down {n : Nat} {t : Tip} (h : PS H0 (T2 T n t) pb rb r o e a H) : PS H0 T pb rb r o e a H := ⟨h.ext, h.fp, h.fr, h.ne, h.op, h.rd, fun c m hc => h.tp c m (.inl hc)⟩
theorem PS.own {H1 : Heap} {sz n : Nat} {t : Tip} (h : PS H0 (T2 T (n * sz) t) pb rb r o e a H) (ho : OwnS H0 H1 sz n t) : OwnS H0 H sz n t := by
  cases t with
  | any => exact ho
  | full => exact ho
  | tip d => exact ⟨h.tp d _ (.inr ⟨rfl, rfl⟩), ho.2⟩
theorem app_ps {ys : List Ex} {y : Ex} {s' : Nat} {n' : Bool} {t' : Tip} {K : Post} (h : PS H0 T pb rb r o e a H) (ho : OwnS H0 H 7 ys.length t') (ht : OwnT T t') (hn : n' = true ∨ s' = 7) (hl : ys.length ≤ 1099511627775)
    (hk : ∀ s2 n2 t2 H2, (n2 = true ∨ s2 = 7) → PS H0 T pb rb r o e a H2 → OwnS H0 H2 7 (ys ++ [y]).length t2 → OwnT T t2 → K (.sl s2 n2 t2 ((ys ++ [y]).map encX)) H2) :
    appA 7 96 (.sl s' n' t' (ys.map encX)) (.sl 7 false .full ([y].map encX)) H K := by
  have hta : tailA 7 (.sl 7 false .full ([y].map encX)) = some [encX y] := by simp [tailA]
  have ps : ∀ b m, H0.fresh b → (∀ n, ¬ T b n) → PS H0 T pb rb r o e a (H.setTip b m) := fun b m hb hT =>
    ⟨h.ext.setTip hb m, h.fp, h.fr, h.ne, h.op, h.rd, fun c n hc => by
      have hne : c ≠ b := fun e => hT n (e ▸ hc)
      simp only [Heap.setTip, if_neg hne]
      exact h.tp c n hc⟩
  unfold appA
  simp only [hta, List.length_map, List.length_singleton]
  refine ⟨hn, by omega, by omega, ?_⟩
  have hnew : ∀ b, H.fresh b → (∀ n, ¬ T b n) := fun b hb n hc => by have := h.tp b n hc; rw [hb.2] at this; cases this
  have fin : ∀ b, H0.fresh b → (∀ n, ¬ T b n) → K (.sl 7 false (.tip b) (ys.map encX ++ [encX y])) (H.setTip b ((ys.length + 1) * 7)) := fun b hb hT => by
    have := hk 7 false (.tip b) _ (.inr rfl) (ps b ((ys.length + 1) * 7) hb hT) ⟨by simp [Heap.setTip], hb⟩ hT
    simpa using this
  cases t' with
  | any => exact ho.elim
  | full => intro b hf; exact fin b (h.ext.fresh hf) (hnew b hf)
  | tip b0 =>
    refine ⟨by simpa using ho.1, fun b hf => ?_⟩
    rcases hf with rfl | hf
    · exact fin b ho.2 ht
    · exact fin b (h.ext.fresh hf) (hnew b hf)
end
def rowF (b : Bool) : Nat := if b = true then 20 else 36
def leftF (b : Bool) : Nat := if b = true then 74 else 78
def bnd : Gl → List Tk → Nat
  | .more _ l, r => 2 * r.length + sizeXs l
  | .lmore _ x, r => 2 * r.length + sizeX x
  | _, r => 2 * r.length + 1
def preG : Gl → List Tk → Prop
  | .more _ l, r => l ≠ [] ∧ sizeXs l + r.length ≤ 2097152
  | _, _ => True
/-- a goal, run -/
def Run (H0 : Heap) (T : Nat → Nat → Prop) (pb : Nat) : Gl → Heap → Post → Prop
  | .row b, H, Q => E (if b = true then 13 else 20) [Pt pb] H Q
  | .more b l, H, Q => ∀ (ys : List Ex) (s' : Nat) (n' : Bool) (t' : Tip), ys.map norm = l → (∀ y ∈ ys, allX shX y) → (n' = true ∨ s' = 7) → OwnS H0 H 7 ys.length t' → OwnT T t' →
      f19_l6 (Pt pb) (I (rowK b)) (S (rowW b)) (.fn (.func (rowF b)) [Pt pb] []) [I 0, I 0, I 0, S ⟨#[]⟩, S ⟨#[]⟩, S ⟨#[]⟩, AV.sl 0 true .full []] (.sl s' n' t' (ys.map encX)) H Q
  | .not, H, Q => E 36 [Pt pb] H Q
  | .cmp, H, Q => E 58 [Pt pb] H Q
  | .left b, H, Q => E (if b = true then 66 else 74) [Pt pb] H Q
  | .lmore b x, H, Q => ∀ y : Ex, norm y = x → allX shX y → f73_l6 (Pt pb) (I (leftLo b)) (I (leftHi b)) (.fn (.func (leftF b)) [Pt pb] []) [I 0, I 0, I 0, S ⟨#[]⟩, S ⟨#[]⟩, S ⟨#[]⟩, AV.sl 0 true .full []] (encC y) H Q
  | .neg, H, Q => E 78 [Pt pb] H Q
  | .last, H, Q => E 80 [Pt pb] H Q
theorem callR {H0 : Heap} {T : Nat → Nat → Prop} {pb : Nat} (b : Bool) {H : Heap} {Q : Post} (h : Run H0 T pb (rowP b) H Q) : callA (Ev Pg Hs) (.fn (.func (rowF b)) [Pt pb] []) [] H Q := by cases b <;> exact h
theorem callL {H0 : Heap} {T : Nat → Nat → Prop} {pb : Nat} (b : Bool) {H : Heap} {Q : Post} (h : Run H0 T pb (leftP b) H Q) : callA (Ev Pg Hs) (.fn (.func (leftF b)) [Pt pb] []) [] H Q := by cases b <;> exact h
theorem rowE {H0 : Heap} {T : Nat → Nat → Prop} {pb : Nat} (b : Bool) {H : Heap} {Q : Post} (h : Run H0 T pb (rowP b) H fun r1 H2 => ob (mkSlA 7 [r1]) fun r3 => f19_l6 (Pt pb) (I (rowK b)) (S (rowW b)) (.fn (.func (rowF b)) [Pt pb] []) [I 0, I 0, I 0, S ⟨#[]⟩, S ⟨#[]⟩, S ⟨#[]⟩, AV.sl 0 true .full []] r3 H2 (copyQ Q)) : Run H0 T pb (.row b) H Q := by
  cases b
  · show E 20 [Pt pb] H Q
    rw [f20_eq, f19_eq]
    exact h
  · show E 13 [Pt pb] H Q
    rw [f13_eq, f19_eq]
    exact h
theorem leftE {H0 : Heap} {T : Nat → Nat → Prop} {pb : Nat} (b : Bool) {H : Heap} {Q : Post} (h : Run H0 T pb (leftP b) H fun r1 H2 => ob (sizedA 7 r1) fun b3 => ob (spliceA 0 b3 [I 0, I 0, I 0, S ⟨#[]⟩, S ⟨#[]⟩, S ⟨#[]⟩, AV.sl 0 true .full []]) fun b4 => f73_l6 (Pt pb) (I (leftLo b)) (I (leftHi b)) (.fn (.func (leftF b)) [Pt pb] []) [I 0, I 0, I 0, S ⟨#[]⟩, S ⟨#[]⟩, S ⟨#[]⟩, AV.sl 0 true .full []] b4 H2 (copyQ Q)) : Run H0 T pb (.left b) H Q := by
  cases b
  · show E 74 [Pt pb] H Q
    rw [f74_eq, f73_eq]
    exact h
  · show E 66 [Pt pb] H Q
    rw [f66_eq, f73_eq]
    exact h
theorem bnd_row (b : Bool) (r : List Tk) : bnd (rowP b) r = 2 * r.length + 1 := by cases b <;> rfl
theorem bnd_left (b : Bool) (r : List Tk) : bnd (leftP b) r = 2 * r.length + 1 := by cases b <;> rfl
theorem pre_row (b : Bool) (r : List Tk) : preG (rowP b) r := by cases b <;> trivial
theorem pre_left (b : Bool) (r : List Tk) : preG (leftP b) r := by cases b <;> trivial
theorem size_row {b : Bool} {o : Nat} {r r1 : List Tk} {x : Ex} (h : P (rowP b) o r (.ok x r1)) : sizeX x + r1.length ≤ r.length := by have := P_size h; cases b <;> exact this
theorem size_left {b : Bool} {o : Nat} {r r1 : List Tk} {x : Ex} (h : P (leftP b) o r (.ok x r1)) : sizeX x + r1.length ≤ r.length := by have := P_size h; cases b <;> exact this
theorem sizeXs_norm (l : List Ex) : sizeXs (l.map norm) = sizeXs l := by
  induction l with
  | nil => rfl
  | cons x l ih => simp only [List.map_cons, sizeXs, norm_size, ih]
section
variable {H0 : Heap} {pb rb : Nat}
theorem PS.rlen {H : Heap} {T : Nat → Nat → Prop} {r : List Tk} {o e a : Int} (h : PS H0 T pb rb r o e a H) : r.length ≤ 1048576 := by
  obtain ⟨L, i, s', n', t', h1, h2, h3⟩ := h.rd
  rw [← h2, List.length_drop]; omega
/-- the parts are joined -/
theorem j10_end {H : Heap} {T : Nat → Nat → Prop} {r : List Tk} {o e a : Int} {Q : Post} (h : PS H0 T pb rb r o e a H) (b : Bool) (fv : AV) (ys : List Ex) (s' : Nat) (n' : Bool) (t' : Tip) (hsh : ∀ y ∈ ys, allX shX y) (hl : sizeXs ys ≤ 1099511627776)
    (hq : ∀ z H', norm z = joinE (rowK b) (ys.map norm) → allX shX z → PS H0 T pb rb r o e a H' → Q (encX z) H') :
    f19_j10 (Pt pb) (I (rowK b)) (S (rowW b)) fv [I 0, I 0, I 0, S ⟨#[]⟩, S ⟨#[]⟩, S ⟨#[]⟩, AV.sl 0 true .full []] (.sl s' n' t' (ys.map encX)) (B false) H Q := by
  rw [f19_j10_eq, cnd_f]
  refine c35 (rowK b) (by cases b; exact .inl rfl; exact .inr rfl) ys s' n' t' hsh hl H _ (fun z H' he hz hzs => ?_)
  simp only [szX, splX, partX, ob_some]
  exact hq z H' hz hzs (h.mono he)
/-- behind a fault: the parts are joined -/
theorem l6_bad {H : Heap} {T : Nat → Nat → Prop} {r : List Tk} {o e a : Int} {Q : Post} (h : PS H0 T pb rb r o e a H) (he : e ≠ 0) (b : Bool) (fv : AV) (ys : List Ex) (s' : Nat) (n' : Bool) (t' : Tip) (hsh : ∀ y ∈ ys, allX shX y) (hl : sizeXs ys ≤ 1099511627776)
    (hq : ∀ z H', norm z = joinE (rowK b) (ys.map norm) → allX shX z → PS H0 T pb rb r o e a H' → Q (encX z) H') :
    f19_l6 (Pt pb) (I (rowK b)) (S (rowW b)) fv [I 0, I 0, I 0, S ⟨#[]⟩, S ⟨#[]⟩, S ⟨#[]⟩, AV.sl 0 true .full []] (.sl s' n' t' (ys.map encX)) H Q := by
  rw [f19_l6_eq, nil_Pt, ob_some, add_Pt, ob_some, h.ld2, ob_some, i_eql, ob_some, decide_eq_false he, cnd_f]
  exact j10_end h b fv ys s' n' t' hsh hl hq
theorem join_size_le {k : Int} {z : Ex} {ys : List Ex} (h : norm z = joinE k (ys.map norm)) (hy : ys ≠ []) : sizeX z ≤ sizeXs ys + if ys.length ≤ 1 then 0 else 1 := by
  have := size_join k (ys.map norm) (by simpa using hy)
  rw [← h, norm_size, sizeXs_norm, List.length_map] at this; exact this
def negQ (Q : Post) : Post := fun r36 H37 => ob (sizedA 7 r36) fun b38 => ob (spliceA 0 b38 [I 0, I 0, I 0, S ⟨#[]⟩, S ⟨#[]⟩, S ⟨#[]⟩, AV.sl 0 true .full []]) fun b39 => ob (partA true 0 7 b39) fun r40 => ob (mkSlA 7 [r40]) fun r41 => ob (bldA [(0, 1, I 3), (6, 1, r41)] [I 0, I 0, I 0, S ⟨#[]⟩, S ⟨#[]⟩, S ⟨#[]⟩, AV.sl 0 true .full []]) fun r42 => ob (sizedA 7 r42) fun b43 => ob (spliceA 0 b43 [I 0, I 0, I 0, S ⟨#[]⟩, S ⟨#[]⟩, S ⟨#[]⟩, AV.sl 0 true .full []]) fun b44 => ob (partA true 0 7 b44) fun r45 => Q r45 H37
theorem negX (Q : Post) (y : Ex) (H : Heap) : negQ Q (encX y) H = Q (encX (.mk 3 nullV e0 e0 7 false .full [y])) H := by
  rw [negQ, szX, ob_some, splX, ob_some, partX, ob_some, mk1X, ob_some, rowb, ob_some, szX, ob_some, splX, ob_some, partX, ob_some]
theorem neg_pre {H : Heap} {T : Nat → Nat → Prop} {t : Tk} {r : List Tk} {o : Nat} {Q : Post} (hps : PS H0 T pb rb (t :: r) o 0 0 H) (hn : nextIs 5 wMinus (t :: r) = true) (hr : r ≠ [])
    (h3 : kindN r = 3 → ∀ H', PS H0 T pb rb r o 0 0 H' → E 82 [Pt pb, strT (if true = true then [45] else [])] H' (copyQ Q)) (h4 : kindN r ≠ 3 → ∀ H', PS H0 T pb rb (t :: r) o 0 0 H' → E 59 [Pt pb, .fn (.func 78) [Pt pb] []] H' (negQ Q)) : E 78 [Pt pb] H Q := by
  have hk := (nextIs_cons hn).1
  have hn : nextIs 5 ⟨#[45]⟩ (t :: r) = true := hn
  rw [f78_eq, c57 hps (by simp), hn, not_B, ob_some, Bool.not_true, cnd_f]
  simp only [nil_Pt, ob_some, add_Pt, hps.ld0]
  obtain ⟨L, i, hri, e⟩ := RS_RI.1 hps.rd
  rw [c81 hri (ne_of_drop e), hps.ld0, ob_some]
  refine c65 hri e (by omega) _ (fun o1 h2 => ?_)
  have e2 := (hri.get e).2.2
  have ps2 := hps.setr (RS_RI.2 ⟨L, i + 1, h2, e2⟩)
  cases r with
  | nil => exact (hr rfl).elim
  | cons u r2 =>
    rw [ps2.ld0, ob_some, c9 h2 e2, fK0, i_eql, ob_some]
    refine cnd_intro (fun h5 => ?_) (fun h5 => ?_)
    · exact h3 (by simpa [kindN] using h5) _ ps2
    · rw [ps2.ld0, ob_some]
      refine c83 h2 (ne_of_drop e) (by omega) _ (fun o2 h6 => ?_)
      exact h4 (by simpa [kindN] using h5) _ (ps2.setr (RS_RI.2 ⟨L, i, h6, e⟩))
theorem last_pre {H : Heap} {T : Nat → Nat → Prop} {r : List Tk} {o : Nat} {Q : Post} (hps : PS H0 T pb rb r o 0 0 H) (hn : nextIs 5 wOpen r = true) (h : E 59 [Pt pb, .fn (.func 88) [Pt pb] []] H (copyQ Q)) : E 80 [Pt pb] H Q := by
  obtain ⟨t, r1, rfl, hk, hs⟩ := nextIs_ne hn
  have hs : t.s = ⟨#[40]⟩ := hs
  have d3 : decide ((5 : Int) = 3) = false := rfl
  have d4 : decide ((5 : Int) = 4) = false := rfl
  have d2 : decide ((5 : Int) = 2) = false := rfl
  have d1 : decide ((5 : Int) = 1) = false := rfl
  have d5 : decide ((5 : Int) = 5) = true := rfl
  rw [f80_eq, nil_Pt, ob_some, add_Pt, ob_some, hps.ld0, ob_some, c9' hps.rd]
  simp only [encK_sz, encK_sp, ob_some, part_f, List.getElem?_cons_zero, List.getElem?_cons_succ]
  simp only [i_eql, hk, d3, d4, d2, d1, d5, cnd_f, cnd_t, s_eql, hs, ob_some]
  simp only [decide_true, cnd_t]
  exact h
/-- a part in parentheses -/
theorem c88 {H : Heap} {T : Nat → Nat → Prop} {r : List Tk} {o : Nat} {Q : Post} (h : E 13 [Pt pb] H fun r1 H2 => ob (sizedA 7 r1) fun b3 => ob (spliceA 0 b3 [I 0, I 0, I 0, S ⟨#[]⟩, S ⟨#[]⟩, S ⟨#[]⟩, AV.sl 0 true .full []]) fun b4 => ob (ldH H2 false 1 (Poff pb 2)) fun r7 => ob (binA Pg .eql 27 true r7 (I 0)) fun r8 => cndA r8 (ob (ldH H2 false 1 (Poff pb 0)) fun r11 => E 76 [r11, S wShut] H2 fun r12 H13 => ob (unA .not r12) fun r14 => f88_j7 (Pt pb) [I 0, I 0, I 0, S ⟨#[]⟩, S ⟨#[]⟩, S ⟨#[]⟩, AV.sl 0 true .full []] b4 r14 H13 Q) (f88_j7 (Pt pb) [I 0, I 0, I 0, S ⟨#[]⟩, S ⟨#[]⟩, S ⟨#[]⟩, AV.sl 0 true .full []] b4 (B false) H2 Q)) : E 88 [Pt pb] H Q := by
  rw [f88_eq]
  simp only [nil_Pt, ob_some, add_Pt]
  exact h
theorem atom_run {H : Heap} {T : Nat → Nat → Prop} {r : List Tk} {o : Nat} {Q : Post} {Bd : Nat} (hps : PS H0 T pb rb r o 0 0 H) (he : endsT r) (hok : ∀ t ∈ r, okTk t) (hn : nextIs 5 wOpen r = false) (hB : 1 ≤ Bd) (hq : Res H0 T pb rb o Bd Q (atomR r)) : E 80 [Pt pb] H Q := by
  cases r with
  | nil => exact he.elim
  | cons t r =>
    have ht := hok t (by simp)
    have hqc : ∀ R, Res H0 T pb rb o Bd Q R → Res H0 T pb rb o Bd (copyQ Q) R := fun R hR => by
      cases R with
      | ok z r2 => intro w H2 hw hws h2; rw [copyX]; exact hR w H2 hw hws h2
      | bad e p => intro w H2 r2 o' hws hsz hr2 h2; rw [copyX]; exact hR w H2 r2 o' hws hsz hr2 h2
    have fail : Res H0 T pb rb o Bd Q (.bad 4 t.p) → f80_j55 (Pt pb) [I 0, I 0, I 0, S ⟨#[]⟩, S ⟨#[]⟩, S ⟨#[]⟩, AV.sl 0 true .full []] H Q := fun hf => by
      rw [f80_j55_eq]
      refine c68 hps (by simp) 4 (fun H' h' => ?_)
      simp only [szX, splX, partX, ob_some]
      exact hf zX H' _ _ zX_sh (by rw [zX_size]; exact hB) (by simp) h'
    simp only [atomR] at hq
    rw [f80_eq, nil_Pt, ob_some, add_Pt, ob_some, hps.ld0, ob_some, c9' hps.rd]
    simp only [encK_sz, encK_sp, ob_some, part_f, List.getElem?_cons_zero, List.getElem?_cons_succ, i_eql]
    refine cnd_intro (fun h3 => ?_) (fun h3 => ?_)
    · have h3 : t.k = 3 := by simpa using h3
      rw [if_pos h3] at hq
      exact c82 false hps h3 ht hB (hqc _ hq)
    have h3 : t.k ≠ 3 := by simpa using h3
    rw [if_neg h3] at hq
    refine cnd_intro (fun h4 => ?_) (fun h4 => ?_)
    · have h4 : t.k = 4 := by simpa using h4
      rw [if_pos h4] at hq
      simp only [nil_Pt, ob_some, add_Pt, hps.ld0]
      refine c65' hps.rd (by omega) _ (fun o1 h1 => ?_)
      rw [c85 _ (ht.2.2 h4), constb, ob_some, szX, ob_some, splX, ob_some, partX, ob_some]
      exact hq _ _ (by rw [norm_mkl]; rfl) (constX_sh _) (hps.setr h1)
    have h4 : t.k ≠ 4 := by simpa using h4
    rw [if_neg h4] at hq
    refine cnd_intro (fun h2 => ?_) (fun h2 => ?_)
    · have h2 : t.k = 2 := by simpa using h2
      rw [if_pos h2] at hq
      simp only [nil_Pt, ob_some, add_Pt, hps.ld0]
      refine c65' hps.rd (by omega) _ (fun o1 h1 => ?_)
      exact c86 t.s (a := 0) (hps.setr h1) (endsT_tail he (by omega)) hB (hqc _ hq)
    have h2 : t.k ≠ 2 := by simpa using h2
    rw [if_neg h2] at hq
    refine cnd_intro (fun h1 => ?_) (fun h1 => ?_)
    · have h1 : t.k = 1 := by simpa using h1
      rw [if_pos h1] at hq
      have v1 : ∀ v : Vl, spliceA 0 [I v.k, I v.n, S v.s] [I 0, I 0, S ⟨#[]⟩] = some [I v.k, I v.n, S v.s] := fun v => rfl
      have v2 : ∀ v : Vl, partA true 0 3 [I v.k, I v.n, S v.s] = some (encV v) := fun v => rfl
      rw [c87]
      cases hw : wordV t.s with
      | none =>
        simp only [hw] at hq
        simp only [x20, x21, ob_some, sz3, v1, cnd_f]
        exact fail hq
      | some v =>
        simp only [hw] at hq
        simp only [x20, x21, ob_some, sz3, v1, cnd_t, nil_Pt, add_Pt, hps.ld0]
        refine c65' hps.rd (by omega) _ (fun o1 h1 => ?_)
        rw [v2, ob_some, constb, ob_some, szX, ob_some, splX, ob_some, partX, ob_some]
        exact hq _ _ (by rw [norm_mkl]; rfl) (constX_sh _) (hps.setr h1)
    have h1 : t.k ≠ 1 := by simpa using h1
    rw [if_neg h1] at hq
    refine cnd_intro (fun h5 => ?_) (fun h5 => ?_)
    · have h5 : t.k = 5 := by simpa using h5
      have hs : t.s ≠ ⟨#[40]⟩ := fun hs => by
        have : nextIs 5 wOpen (t :: r) = true := by simp [nextIs, h5, wOpen, hs]
        rw [hn] at this; cases this
      rw [s_eql, ob_some, decide_eq_false hs, cnd_f]
      exact fail hq
    · exact fail hq
theorem run_all {g : Gl} {o : Nat} {r : List Tk} {R : PR} (h : P g o r R) : ∀ (T : Nat → Nat → Prop) (H : Heap) (Q : Post), endsT r → (∀ t ∈ r, okTk t) → preG g r → PS H0 T pb rb r o 0 0 H → Res H0 T pb rb o (bnd g r) Q R → Run H0 T pb g H Q := by
  have tl : ∀ {k : Int} {s : ByteArray} {t : Tk} {r : List Tk}, k ≠ 6 → nextIs k s (t :: r) = true → endsT (t :: r) → endsT r := fun hk h he => endsT_tail he (by rw [(nextIs_cons h).1]; exact hk)
  have tl5 : ∀ {lo hi k : Int} {t : Tk} {r : List Tk}, opOf lo hi (t :: r) = some k → endsT (t :: r) → endsT r := fun h he => endsT_tail he (by rw [opOf_cons h]; decide)
  have tm : ∀ {t : Tk} {r : List Tk}, (∀ u ∈ t :: r, okTk u) → ∀ u ∈ r, okTk u := fun h u hu => h u (by simp [hu])
  have one : ∀ y : Ex, allX shX y → ∀ z ∈ [y], allX shX z := fun y hy z hz => by simp at hz; subst hz; exact hy
  have one7 : ∀ {k : Int} {y : Ex}, allX shX y → allX shX (.mk k nullV e0 e0 7 false .full [y]) := fun h => (allX_mk _ _ _ _ _ _ _ _).2 ⟨.inr rfl, h, trivial⟩
  have two7 : ∀ {k : Int} {x y : Ex}, allX shX x → allX shX y → allX shX (.mk k nullV e0 e0 7 false .full [x, y]) := fun h1 h2 => (allX_mk _ _ _ _ _ _ _ _).2 ⟨.inr rfl, h1, h2, trivial⟩
  have size1 : ∀ {k : Int} {y : Ex}, sizeX (.mk k nullV e0 e0 7 false .full [y]) = 1 + sizeX y := fun {k y} => by simp [sizeX, sizeXs]
  have size2 : ∀ {k : Int} {x y : Ex}, sizeX (.mk k nullV e0 e0 7 false .full [x, y]) = 1 + (sizeX x + sizeX y) := fun {k x y} => by simp [sizeX, sizeXs]
  induction h with
  | row_bad hp ih =>
    rename_i b o r e p
    intro T H Q he ht _ hps hq
    refine rowE b (ih T H _ he ht (pre_row b r) hps (fun y H' r1 o' hy hsz hr1 h' => ?_))
    have hr := hps.rlen
    rw [bnd_row] at hsz
    rw [mk1X, ob_some]
    refine l6_bad h' (P_ne hp _ _ rfl) b _ [y] 7 false .full (one y hy) (by simp only [sizeXs]; omega) (fun z H2 hz hzs h2 => ?_)
    rw [copyX]
    refine hq z H2 r1 o' hzs ?_ hr1 h2
    have := join_size_le hz (by simp)
    simp only [sizeXs, List.length_singleton, Nat.le_refl, if_true] at this
    show _ ≤ 2 * r.length + 1
    omega
  | row_ok hp hm ih1 ih2 =>
    rename_i b o r x r1 R
    intro T H Q he ht _ hps hq
    have hs : Suf _ _ := P_suf hp he
    have hsx := size_row hp
    have hr := hps.rlen
    refine rowE b (ih1 T H _ he ht (pre_row b r) hps (fun y H' hy hys h' => ?_))
    rw [mk1X, ob_some]
    refine ih2 T H' _ hs.1 (hs.mem ht) ⟨by simp, by simp only [sizeXs]; omega⟩ h' ?_ [y] 7 false .full (by simp [hy]) (one y hys) (.inr rfl) trivial trivial
    cases R with
    | ok z r2 => intro w H2 hw hws h2; rw [copyX]; exact hq w H2 hw hws h2
    | bad e p =>
      intro w H2 r2 o' hws hsz hr2 h2
      rw [copyX]
      refine hq w H2 r2 o' hws ?_ hr2 h2
      simp only [bnd, sizeXs] at hsz ⊢
      omega
  | more_no hn =>
    rename_i b l o r
    intro T H Q he ht hpre hps hq ys s' n' t' hyl hsh hns ho hT
    rw [f19_l6_eq, nil_Pt, ob_some, add_Pt, ob_some, hps.ld2, ob_some, i_eql, ob_some, show decide ((0 : Int) = 0) = true from rfl, cnd_t, ob_some, add_Pt, ob_some, hps.ld0, ob_some]
    refine c34 _ hps.rd (endsT_ne he) _ (fun _ => ?_) (fun t r1 ob1 e hn' h1 => by rw [hn] at hn'; cases hn')
    have hsl : sizeXs ys ≤ 2097152 := by rw [← sizeXs_norm, hyl]; have := hpre.2; omega
    refine j10_end hps b _ ys s' n' t' hsh (by omega) (fun z H' hz hzs h' => ?_)
    exact hq z H' (by rw [hz, hyl]) hzs h'
  | more_bad hn hp ih =>
    rename_i b l o t r e p
    intro T H Q he ht hpre hps hq ys s' n' t' hyl hsh hns ho hT
    rw [f19_l6_eq, nil_Pt, ob_some, add_Pt, ob_some, hps.ld2, ob_some, i_eql, ob_some, show decide ((0 : Int) = 0) = true from rfl, cnd_t, ob_some, add_Pt, ob_some, hps.ld0, ob_some]
    refine c34 _ hps.rd (endsT_ne he) _ (fun hn' => by rw [hn] at hn'; cases hn') (fun t0 r0 ob1 e' _ h1 => ?_)
    cases e'
    have h2 := hps.setr h1
    have hr := hps.rlen
    simp only [List.length_cons] at hr
    have hsl : sizeXs ys + (t :: r).length ≤ 2097152 := by rw [← sizeXs_norm, hyl]; exact hpre.2
    simp only [List.length_cons] at hsl
    have hll := len_sizeXs ys
    have ho2 : OwnS H0 (H.setObj rb ob1) 7 ys.length t' := by cases t' with
      | any => exact ho
      | full => exact ho
      | tip c => exact ho
    rw [f19_j10_eq, cnd_t]
    refine callR (H0 := H0) (T := T2 T (ys.length * 7) t') b (ih (T2 T (ys.length * 7) t') _ _ (tl (by decide) hn he) (tm ht) (pre_row b r) (h2.up ho2) (fun y H' r1 o' hy hsz hr1 h' => ?_))
    rw [bnd_row] at hsz
    rw [mk1X, ob_some]
    refine app_ps h'.down (h'.own ho2) hT hns (by omega) (fun s2 n2 t2 H3 hn2 h3 ho3 hT3 => ?_)
    refine l6_bad h3 (P_ne hp _ _ rfl) b _ (ys ++ [y]) s2 n2 t2 (fun z hz => by simp only [List.mem_append, List.mem_singleton] at hz; rcases hz with hz | hz; exact hsh z hz; subst hz; exact hy) (by rw [sizeXs_append]; simp only [sizeXs]; omega) (fun z H4 hz hzs h4 => ?_)
    refine hq z H4 r1 o' hzs ?_ hr1 h4
    have := join_size_le hz (by simp)
    rw [sizeXs_append] at this
    simp only [sizeXs] at this
    have hif : (if (ys ++ [y]).length ≤ 1 then 0 else 1) ≤ 1 := by split <;> omega
    have : sizeXs l = sizeXs ys := by rw [← hyl, sizeXs_norm]
    simp only [bnd, List.length_cons]
    omega
  | more_ok hn hp hm ih1 ih2 =>
    rename_i b l o t r x r1 R
    intro T H Q he ht hpre hps hq ys s' n' t' hyl hsh hns ho hT
    rw [f19_l6_eq, nil_Pt, ob_some, add_Pt, ob_some, hps.ld2, ob_some, i_eql, ob_some, show decide ((0 : Int) = 0) = true from rfl, cnd_t, ob_some, add_Pt, ob_some, hps.ld0, ob_some]
    refine c34 _ hps.rd (endsT_ne he) _ (fun hn' => by rw [hn] at hn'; cases hn') (fun t0 r0 ob1 e' _ h1 => ?_)
    cases e'
    have h2 := hps.setr h1
    have he' := tl (by decide) hn he
    have hs : Suf _ _ := P_suf hp he'
    have hsx := size_row hp
    have hr := hps.rlen
    simp only [List.length_cons] at hr
    have hsl : sizeXs ys + (t :: r).length ≤ 2097152 := by rw [← sizeXs_norm, hyl]; exact hpre.2
    simp only [List.length_cons] at hsl
    have hll := len_sizeXs ys
    have ho2 : OwnS H0 (H.setObj rb ob1) 7 ys.length t' := by cases t' with
      | any => exact ho
      | full => exact ho
      | tip c => exact ho
    have hsle : sizeXs l = sizeXs ys := by rw [← hyl, sizeXs_norm]
    rw [f19_j10_eq, cnd_t]
    refine callR (H0 := H0) (T := T2 T (ys.length * 7) t') b (ih1 (T2 T (ys.length * 7) t') _ _ he' (tm ht) (pre_row b r) (h2.up ho2) (fun y H' hy hys h' => ?_))
    rw [mk1X, ob_some]
    refine app_ps h'.down (h'.own ho2) hT hns (by omega) (fun s2 n2 t2 H3 hn2 h3 ho3 hT3 => ?_)
    refine ih2 T H3 _ hs.1 (hs.mem (tm ht)) ⟨by simp, by rw [sizeXs_append, hsle]; simp only [sizeXs]; omega⟩ h3 ?_ (ys ++ [y]) s2 n2 t2 (by rw [List.map_append, hyl]; simp [hy]) (fun z hz => by simp only [List.mem_append, List.mem_singleton] at hz; rcases hz with hz | hz; exact hsh z hz; subst hz; exact hys) hn2 ho3 hT3
    cases R with
    | ok z r2 => exact hq
    | bad e p =>
      intro w H2 r2 o' hws hsz hr2 h2
      refine hq w H2 r2 o' hws ?_ hr2 h2
      simp only [bnd] at hsz ⊢
      rw [sizeXs_append] at hsz
      simp only [sizeXs, List.length_cons] at hsz ⊢
      omega
  | not_no hn hp ih =>
    rename_i o r R
    intro T H Q he ht _ hps hq
    show E 36 [Pt pb] H Q
    have hn : nextIs 1 ⟨#[78, 79, 84]⟩ r = false := hn
    rw [f36_eq, c57 hps (endsT_ne he), hn, not_B, ob_some, Bool.not_false, cnd_t]
    refine ih T H (copyQ Q) he ht trivial hps ?_
    cases R with
    | ok z r2 => intro w H2 hw hws h2; rw [copyX]; exact hq w H2 hw hws h2
    | bad e p => intro w H2 r2 o' hws hsz hr2 h2; rw [copyX]; exact hq w H2 r2 o' hws hsz hr2 h2
  | not_long hn ho =>
    rename_i o r
    intro T H Q he ht _ hps hq
    show E 36 [Pt pb] H Q
    obtain ⟨t, r1, rfl, hk, _⟩ := nextIs_ne hn
    have hn : nextIs 1 ⟨#[78, 79, 84]⟩ (t :: r1) = true := hn
    rw [f36_eq, c57 hps (by simp), hn, not_B, ob_some, Bool.not_true, cnd_f]
    refine c59 hps (by omega) (fun _ H' h' => ?_) (fun ho' => by omega)
    rw [mk1X, ob_some, rowb, ob_some, szX, ob_some, splX, ob_some, partX, ob_some]
    exact hq _ H' _ _ (one7 zX_sh) (by rw [size1, zX_size]; simp only [bnd, List.length_cons]; omega) (by simp) h'
  | not_bad hn ho hp ih =>
    rename_i o t r e p
    intro T H Q he ht _ hps hq
    show E 36 [Pt pb] H Q
    have hk := (nextIs_cons hn).1
    have he' := tl (by decide) hn he
    have hn : nextIs 1 ⟨#[78, 79, 84]⟩ (t :: r) = true := hn
    rw [f36_eq, c57 hps (by simp), hn, not_B, ob_some, Bool.not_true, cnd_f]
    refine c59 hps (by omega) (fun h' => by omega) (fun _ H' h' K hK => ?_)
    refine ih T H' K he' (tm ht) trivial h' (fun y H2 r1 o' hy hsz hr1 h2 => ?_)
    refine hK y H2 r1 o' e p h2 (fun H3 h3 => ?_)
    rw [mk1X, ob_some, rowb, ob_some, szX, ob_some, splX, ob_some, partX, ob_some]
    exact hq _ H3 _ _ (one7 hy) (by rw [size1]; simp only [bnd, List.length_cons] at hsz ⊢; omega) hr1 h3
  | not_ok hn ho hp ih =>
    rename_i o t r x r1
    intro T H Q he ht _ hps hq
    show E 36 [Pt pb] H Q
    have hk := (nextIs_cons hn).1
    have he' := tl (by decide) hn he
    have hn : nextIs 1 ⟨#[78, 79, 84]⟩ (t :: r) = true := hn
    rw [f36_eq, c57 hps (by simp), hn, not_B, ob_some, Bool.not_true, cnd_f]
    refine c59 hps (by omega) (fun h' => by omega) (fun _ H' h' K hK => ?_)
    refine ih T H' K he' (tm ht) trivial h' (fun y H2 hy hys h2 => ?_)
    refine hK y H2 r1 _ 0 0 h2 (fun H3 h3 => ?_)
    have hw : W64 (((o + 1 : Nat) : Int) - 1) = (o : Int) := by rw [w64_id (by omega) (by omega)]; omega
    rw [hw] at h3
    rw [mk1X, ob_some, rowb, ob_some, szX, ob_some, splX, ob_some, partX, ob_some]
    exact hq _ H3 (by rw [norm_mkl]; simp [hy]) (one7 hys) h3
  | cmp_bad hp ih =>
    rename_i o r e p
    intro T H Q he ht _ hps hq
    show E 58 [Pt pb] H Q
    rw [f58_eq]
    refine ih T H _ he ht trivial hps (fun y H2 r1 o' hy hsz hr1 h2 => ?_)
    rw [szX, ob_some, splX, ob_some, nil_Pt, ob_some, add_Pt, ob_some, h2.ld2, ob_some, enc_err e (P_ne hp _ _ rfl), ob_some, cnd_t, partX, ob_some, szX, ob_some, splX, ob_some, partX, ob_some]
    exact hq y H2 r1 o' hy hsz hr1 h2
  | cmp_no hp hop ih =>
    rename_i o r x r1
    intro T H Q he ht _ hps hq
    show E 58 [Pt pb] H Q
    have hs : Suf _ _ := P_suf hp he
    rw [f58_eq]
    refine ih T H _ he ht trivial hps (fun y H2 hy hys h2 => ?_)
    rw [szX, ob_some, splX, ob_some, nil_Pt, ob_some, add_Pt, ob_some, h2.ld2, ob_some, enc_ok, ob_some, cnd_f]
    refine c67 h2 (endsT_ne hs.1) (fun _ H3 h3 => ?_) (fun t r2 k H3 e hk => by rw [hop] at hk; cases hk)
    rw [x20, ob_some, x21, ob_some, cnd_f, partX, ob_some, szX, ob_some, splX, ob_some, partX, ob_some]
    exact hq y H3 hy hys h3
  | cmp_bad2 hp hop hp2 ih1 ih2 =>
    rename_i o r x t r1 k e p
    intro T H Q he ht _ hps hq
    show E 58 [Pt pb] H Q
    have hs : Suf _ _ := P_suf hp he
    have hsx : _ ≤ _ := P_size hp
    rw [f58_eq]
    refine ih1 T H _ he ht trivial hps (fun y H2 hy hys h2 => ?_)
    rw [szX, ob_some, splX, ob_some, nil_Pt, ob_some, add_Pt, ob_some, h2.ld2, ob_some, enc_ok, ob_some, cnd_f]
    refine c67 h2 (endsT_ne hs.1) (fun hk => by rw [hop] at hk; cases hk) (fun t' r2 k' H3 e' hk h3 => ?_)
    cases e'
    rw [hop] at hk; cases hk
    rw [x20, ob_some, x21, ob_some, cnd_t, partX, ob_some]
    refine ih2 T H3 _ (tl5 hop hs.1) (tm (hs.mem ht)) trivial h3 (fun z H4 r3 o' hz hsz hr3 h4 => ?_)
    rw [mk2X, ob_some, rowb, ob_some, szX, ob_some, splX, ob_some, partX, ob_some]
    refine hq _ H4 r3 o' (two7 hys hz) ?_ hr3 h4
    rw [size2]
    have : sizeX y = sizeX x := by rw [← hy, norm_size]
    simp only [bnd, List.length_cons] at hsz hsx ⊢
    omega
  | cmp_ok hp hop hp2 ih1 ih2 =>
    rename_i o r x t r1 k z r2
    intro T H Q he ht _ hps hq
    show E 58 [Pt pb] H Q
    have hs : Suf _ _ := P_suf hp he
    rw [f58_eq]
    refine ih1 T H _ he ht trivial hps (fun y H2 hy hys h2 => ?_)
    rw [szX, ob_some, splX, ob_some, nil_Pt, ob_some, add_Pt, ob_some, h2.ld2, ob_some, enc_ok, ob_some, cnd_f]
    refine c67 h2 (endsT_ne hs.1) (fun hk => by rw [hop] at hk; cases hk) (fun t' r2 k' H3 e' hk h3 => ?_)
    cases e'
    rw [hop] at hk; cases hk
    rw [x20, ob_some, x21, ob_some, cnd_t, partX, ob_some]
    refine ih2 T H3 _ (tl5 hop hs.1) (tm (hs.mem ht)) trivial h3 (fun w H4 hw hws h4 => ?_)
    rw [mk2X, ob_some, rowb, ob_some, szX, ob_some, splX, ob_some, partX, ob_some]
    exact hq _ H4 (by rw [norm_mkl]; simp [hy, hw]) (two7 hys hws) h4
  | left_bad hp ih =>
    rename_i b o r e p
    intro T H Q he ht _ hps hq
    refine leftE b (ih T H _ he ht (pre_left b r) hps (fun y H' r1 o' hy hsz hr1 h' => ?_))
    rw [bnd_left] at hsz
    rw [szX, ob_some, splX, ob_some, f73_l6_eq, nil_Pt, ob_some, add_Pt, ob_some, h'.ld2, ob_some, i_eql, ob_some, decide_eq_false (P_ne hp _ _ rfl), cnd_f, partX, ob_some, szX, ob_some, splX, ob_some, partX, ob_some, copyX]
    exact hq y H' r1 o' hy hsz hr1 h'
  | left_ok hp hm ih1 ih2 =>
    rename_i b o r x r1 R
    intro T H Q he ht _ hps hq
    have hs : Suf _ _ := P_suf hp he
    have hsx := size_left hp
    refine leftE b (ih1 T H _ he ht (pre_left b r) hps (fun y H' hy hys h' => ?_))
    rw [szX, ob_some, splX, ob_some]
    refine ih2 T H' _ hs.1 (hs.mem ht) trivial h' ?_ y hy hys
    cases R with
    | ok z r2 => intro w H2 hw hws h2; rw [copyX]; exact hq w H2 hw hws h2
    | bad e p =>
      intro w H2 r2 o' hws hsz hr2 h2
      rw [copyX]
      refine hq w H2 r2 o' hws ?_ hr2 h2
      simp only [bnd] at hsz ⊢
      omega
  | lmore_no hop =>
    rename_i b x o r
    intro T H Q he ht _ hps hq y hy hys
    rw [f73_l6_eq, nil_Pt, ob_some, add_Pt, ob_some, hps.ld2, ob_some, i_eql, ob_some, show decide ((0 : Int) = 0) = true from rfl, cnd_t]
    refine c67 hps (endsT_ne he) (fun _ H3 h3 => ?_) (fun t r2 k H3 e hk => by rw [hop] at hk; cases hk)
    rw [x20, ob_some, x21, ob_some, not_B, ob_some, Bool.not_false, cnd_t, partX, ob_some, szX, ob_some, splX, ob_some, partX, ob_some]
    exact hq y H3 hy hys h3
  | lmore_bad hop hp ih =>
    rename_i b x o t r k e p
    intro T H Q he ht _ hps hq y hy hys
    rw [f73_l6_eq, nil_Pt, ob_some, add_Pt, ob_some, hps.ld2, ob_some, i_eql, ob_some, show decide ((0 : Int) = 0) = true from rfl, cnd_t]
    refine c67 hps (by simp) (fun hk => by rw [hop] at hk; cases hk) (fun t' r2 k' H3 e' hk h3 => ?_)
    cases e'
    rw [hop] at hk; cases hk
    rw [x20, ob_some, x21, ob_some, not_B, ob_some, Bool.not_true, cnd_f, partX, ob_some]
    refine callL (H0 := H0) (T := T) b (ih T H3 _ (tl5 hop he) (tm ht) (pre_left b r) h3 (fun z H4 r3 o' hz hsz hr3 h4 => ?_))
    rw [bnd_left] at hsz
    rw [mk2X, ob_some, rowb, ob_some, szX, ob_some, splX2, ob_some, f73_l6_eq, nil_Pt, ob_some, add_Pt, ob_some, h4.ld2, ob_some, i_eql, ob_some, decide_eq_false (P_ne hp _ _ rfl), cnd_f, partX, ob_some, szX, ob_some, splX, ob_some, partX, ob_some]
    refine hq _ H4 r3 o' (two7 hys hz) ?_ hr3 h4
    rw [size2]
    have : sizeX y = sizeX x := by rw [← hy, norm_size]
    simp only [bnd, List.length_cons]
    omega
  | lmore_ok hop hp hm ih1 ih2 =>
    rename_i b x o t r k z r1 R
    intro T H Q he ht _ hps hq y hy hys
    have he' := tl5 hop he
    have hs : Suf _ _ := P_suf hp he'
    have hsx := size_left hp
    rw [f73_l6_eq, nil_Pt, ob_some, add_Pt, ob_some, hps.ld2, ob_some, i_eql, ob_some, show decide ((0 : Int) = 0) = true from rfl, cnd_t]
    refine c67 hps (by simp) (fun hk => by rw [hop] at hk; cases hk) (fun t' r2 k' H3 e' hk h3 => ?_)
    cases e'
    rw [hop] at hk; cases hk
    rw [x20, ob_some, x21, ob_some, not_B, ob_some, Bool.not_true, cnd_f, partX, ob_some]
    refine callL (H0 := H0) (T := T) b (ih1 T H3 _ he' (tm ht) (pre_left b r) h3 (fun w H4 hw hws h4 => ?_))
    rw [mk2X, ob_some, rowb, ob_some, szX, ob_some, splX2, ob_some]
    refine ih2 T H4 _ hs.1 (hs.mem (tm ht)) trivial h4 ?_ _ (by rw [norm_mkl]; simp [hy, hw]) (two7 hys hws)
    cases R with
    | ok z r2 => exact hq
    | bad e p =>
      intro v H5 r2 o' hvs hsz hr2 h5
      refine hq v H5 r2 o' hvs ?_ hr2 h5
      simp only [bnd] at hsz ⊢
      rw [sizeX_nd] at hsz
      simp only [sizeXs, List.length_cons] at hsz ⊢
      omega
  | neg_no hn hp ih =>
    rename_i o r R
    intro T H Q he ht _ hps hq
    show E 78 [Pt pb] H Q
    have hn : nextIs 5 ⟨#[45]⟩ r = false := hn
    rw [f78_eq, c57 hps (endsT_ne he), hn, not_B, ob_some, Bool.not_false, cnd_t]
    refine ih T H (copyQ Q) he ht trivial hps ?_
    cases R with
    | ok z r2 => intro w H2 hw hws h2; rw [copyX]; exact hq w H2 hw hws h2
    | bad e p => intro w H2 r2 o' hws hsz hr2 h2; rw [copyX]; exact hq w H2 r2 o' hws hsz hr2 h2
  | neg_num hn hk3 =>
    rename_i o t r
    intro T H Q he ht _ hps hq
    show E 78 [Pt pb] H Q
    have he' := tl (by decide) hn he
    refine neg_pre hps hn (endsT_ne he') (fun _ H' h' => ?_) (fun hk' => (hk' hk3).elim)
    cases r with
    | nil => exact he'.elim
    | cons u r2 =>
      refine c82 true (Bd := bnd .neg (t :: u :: r2)) h' hk3 (ht u (by simp)) (by simp only [bnd]; omega) ?_
      revert hq
      cases numR true (u :: r2) with
      | ok z r2 => intro hq w H2 hw hws h2; rw [copyX]; exact hq w H2 hw hws h2
      | bad e p => intro hq w H2 r2 o' hws hsz hr2 h2; rw [copyX]; exact hq w H2 r2 o' hws hsz hr2 h2
  | neg_long hn hk3 ho =>
    rename_i o t r
    intro T H Q he ht _ hps hq
    show E 78 [Pt pb] H Q
    have he' := tl (by decide) hn he
    have hk := (nextIs_cons hn).1
    refine neg_pre hps hn (endsT_ne he') (fun hk' => (hk3 hk').elim) (fun _ H' h' => ?_)
    refine c59 h' (by omega) (fun _ H2 h2 => ?_) (fun ho' => by omega)
    rw [negX]
    exact hq _ H2 _ _ (one7 zX_sh) (by rw [size1, zX_size]; simp only [bnd, List.length_cons]; omega) (by simp) h2
  | neg_bad hn hk3 ho hp ih =>
    rename_i o t r e p
    intro T H Q he ht _ hps hq
    show E 78 [Pt pb] H Q
    have he' := tl (by decide) hn he
    have hk := (nextIs_cons hn).1
    refine neg_pre hps hn (endsT_ne he') (fun hk' => (hk3 hk').elim) (fun _ H' h' => ?_)
    refine c59 h' (by omega) (fun h' => by omega) (fun _ H2 h2 K hK => ?_)
    refine ih T H2 K he' (tm ht) trivial h2 (fun y H3 r1 o' hy hsz hr1 h3 => ?_)
    refine hK y H3 r1 o' e p h3 (fun H4 h4 => ?_)
    rw [negX]
    exact hq _ H4 _ _ (one7 hy) (by rw [size1]; simp only [bnd, List.length_cons] at hsz ⊢; omega) hr1 h4
  | neg_ok hn hk3 ho hp ih =>
    rename_i o t r x r1
    intro T H Q he ht _ hps hq
    show E 78 [Pt pb] H Q
    have he' := tl (by decide) hn he
    have hk := (nextIs_cons hn).1
    refine neg_pre hps hn (endsT_ne he') (fun hk' => (hk3 hk').elim) (fun _ H' h' => ?_)
    refine c59 h' (by omega) (fun h' => by omega) (fun _ H2 h2 K hK => ?_)
    refine ih T H2 K he' (tm ht) trivial h2 (fun y H3 hy hys h3 => ?_)
    refine hK y H3 r1 _ 0 0 h3 (fun H4 h4 => ?_)
    have hw : W64 (((o + 1 : Nat) : Int) - 1) = (o : Int) := by rw [w64_id (by omega) (by omega)]; omega
    rw [hw] at h4
    rw [negX]
    exact hq _ H4 (by rw [norm_mkl]; simp [hy]) (one7 hys) h4
  | last_atom hn =>
    rename_i o r
    intro T H Q he ht _ hps hq
    exact atom_run hps he ht hn (by simp only [bnd]; omega) hq
  | last_long hn ho =>
    rename_i o r
    intro T H Q he ht _ hps hq
    show E 80 [Pt pb] H Q
    refine last_pre hps hn ?_
    obtain ⟨t, r1, rfl, hk, _⟩ := nextIs_ne hn
    refine c59 hps (by omega) (fun _ H2 h2 => ?_) (fun ho' => by omega)
    rw [copyX]
    exact hq zX H2 _ _ zX_sh (by rw [zX_size]; simp only [bnd]; omega) (by simp) h2
  | last_bad hn ho hp ih =>
    rename_i o t r e p
    intro T H Q he ht _ hps hq
    show E 80 [Pt pb] H Q
    have he' := tl (by decide) hn he
    have hk := (nextIs_cons hn).1
    refine last_pre hps hn ?_
    refine c59 hps (by omega) (fun h' => by omega) (fun _ H2 h2 K hK => ?_)
    show E 88 [Pt pb] H2 K
    refine c88 (T := T) (r := r) (o := o) (ih T H2 _ he' (tm ht) trivial h2 (fun y H3 r1 o' hy hsz hr1 h3 => ?_))
    rw [szX, ob_some, splX, ob_some, h3.ld2, ob_some, i_eql, ob_some, decide_eq_false (P_ne hp _ _ rfl), cnd_f, f88_j7_eq, cnd_f, partX, ob_some, szX, ob_some, splX, ob_some, partX, ob_some]
    refine hK y H3 r1 o' e p h3 (fun H4 h4 => ?_)
    rw [copyX]
    exact hq _ H4 _ _ hy (by simp only [bnd, List.length_cons] at hsz ⊢; omega) hr1 h4
  | last_open hn ho hp hs ih =>
    rename_i o t r x r1
    intro T H Q he ht _ hps hq
    show E 80 [Pt pb] H Q
    have he' := tl (by decide) hn he
    have hk := (nextIs_cons hn).1
    have hsf : Suf _ _ := P_suf hp he'
    refine last_pre hps hn ?_
    refine c59 hps (by omega) (fun h' => by omega) (fun _ H2 h2 K hK => ?_)
    show E 88 [Pt pb] H2 K
    refine c88 (T := T) (r := r) (o := o) (ih T H2 _ he' (tm ht) trivial h2 (fun y H3 hy hys h3 => ?_))
    rw [szX, ob_some, splX, ob_some, h3.ld2, ob_some, i_eql, ob_some, show decide ((0 : Int) = 0) = true from rfl, cnd_t, h3.ld0, ob_some]
    refine c76 _ h3.rd (endsT_ne hsf.1) _ (fun _ => ?_) (fun u r2 o1 e' hs' _ => by rw [hs] at hs'; cases hs')
    rw [not_B, ob_some, Bool.not_false, f88_j7_eq, cnd_t]
    refine c68 h3 (endsT_ne hsf.1) 4 (fun H4 h4 => ?_)
    rw [szX, ob_some, splX, ob_some, partX, ob_some]
    refine hK zX H4 r1 _ 4 _ h4 (fun H5 h5 => ?_)
    rw [copyX]
    exact hq zX H5 _ _ zX_sh (by rw [zX_size]; simp only [bnd]; omega) (endsT_ne hsf.1) h5
  | last_ok hn ho hp hs ih =>
    rename_i o t r x u r1
    intro T H Q he ht _ hps hq
    show E 80 [Pt pb] H Q
    have he' := tl (by decide) hn he
    have hk := (nextIs_cons hn).1
    refine last_pre hps hn ?_
    refine c59 hps (by omega) (fun h' => by omega) (fun _ H2 h2 K hK => ?_)
    show E 88 [Pt pb] H2 K
    refine c88 (T := T) (r := r) (o := o) (ih T H2 _ he' (tm ht) trivial h2 (fun y H3 hy hys h3 => ?_))
    rw [szX, ob_some, splX, ob_some, h3.ld2, ob_some, i_eql, ob_some, show decide ((0 : Int) = 0) = true from rfl, cnd_t, h3.ld0, ob_some]
    refine c76 _ h3.rd (by simp) _ (fun hs' => by rw [hs] at hs'; cases hs') (fun u' r2 o1 e' _ hr2 => ?_)
    cases e'
    rw [not_B, ob_some, Bool.not_true, f88_j7_eq, cnd_f, partX, ob_some, szX, ob_some, splX, ob_some, partX, ob_some]
    have h4 := h3.setr hr2
    refine hK y _ r1 _ 0 0 h4 (fun H5 h5 => ?_)
    have hw : W64 (((o + 1 : Nat) : Int) - 1) = (o : Int) := by rw [w64_id (by omega) (by omega)]; omega
    rw [hw] at h5
    rw [copyX]
    exact hq y H5 hy hys h5
end
end Go.Hx
namespace Go.Hx
/-- a reader's state -/
structure RD (H0 : Heap) (T : Nat → Nat → Prop) (rb : Nat) (r : List Tk) (H : Heap) : Prop where
  ext : HExt H0 H
  fr : H0.fresh rb
  rd : RS rb r H
  tp : ∀ c n, T c n → H.tips c = some n
theorem PS.toRD {H0 : Heap} {T : Nat → Nat → Prop} {pb rb : Nat} {r : List Tk} {o e a : Int} {H : Heap} (h : PS H0 T pb rb r o e a H) : RD H0 T rb r H := ⟨h.ext, h.fr, h.rd, h.tp⟩
theorem RD.mono {H0 : Heap} {T : Nat → Nat → Prop} {rb : Nat} {r : List Tk} {H H' : Heap} (h : RD H0 T rb r H) (he : HExt H H') : RD H0 T rb r H' :=
  ⟨h.ext.trans he, h.fr, h.rd.mono he, fun c n hc => by have := h.tp c n hc; rw [(he c (fun hf => by rw [hf.2] at this; cases this)).2.1]; exact this⟩
/-- what Parse answers -/
def Res19 (H0 : Heap) (T : Nat → Nat → Prop) (rb : Nat) (r : List Tk) (Q : Post) : PR → Prop
  | .ok x r1 => (checkP x = 0 → ∀ y H', norm y = x → allX shX y → allX gX y → RD H0 T rb r1 H' → Q (.tup [encX y, I (posn r1), I 0]) H') ∧
      (checkP x ≠ 0 → ∀ H', RD H0 T rb r1 H' → Q (.tup [encX zX, I (posn r), I 2]) H')
  | .bad e p => ∀ H' r1, r1 ≠ [] → RD H0 T rb r1 H' → Q (.tup [encX zX, I p, I e]) H'
theorem norm_check {y : Ex} (h : sizeX y ≤ 1152921504606846975) : checkP (norm y) = checkP y := by
  rw [checkP_eq _ (by rw [norm_size]; exact h), checkP_eq _ h, norm_size, norm_allR]
theorem c8 {H0 H : Heap} {T : Nat → Nat → Prop} {rb : Nat} {r : List Tk} {Q : Post} {R : PR} (h : RD H0 T rb r H) (he : endsT r) (hok : ∀ t ∈ r, okTk t) (hP : P (.row true) 0 r R) (hq : Res19 H0 T rb r Q R) : E 8 [Pt rb] H Q := by
  have hb : bldA [(0, 1, Pt rb)] [AV.raw (.pointer none), I 0, I 0, I 0] = some (.agg [Pt rb, I 0, I 0, I 0]) := rfl
  have hs : sizedA 4 (.agg [Pt rb, I 0, I 0, I 0]) = some [Pt rb, I 0, I 0, I 0] := rfl
  rw [f8_eq, c10 h.rd (endsT_ne he), hb, ob_some, hs, ob_some]
  intro pb hf
  simp only [Pt_def]
  have hne : pb ≠ rb := fun e => by
    subst e
    obtain ⟨L, i, s', n', t', h1, _⟩ := h.rd
    rw [hf.1] at h1; cases h1
  have hfp := h.ext.fresh hf
  have ps : PS H0 T pb rb r ((0 : Nat) : Int) 0 0 (H.setObj pb (.cells [Pt rb, I 0, I 0, I 0])) :=
    ⟨h.ext.setObj hfp _, hfp, h.fr, hne, setObj_same _ _ _, by
      obtain ⟨L, i, s', n', t', h1, h2⟩ := h.rd
      exact ⟨L, i, s', n', t', by rw [setObj_ne _ _ (Ne.symm hne)]; exact h1, h2⟩, h.tp⟩
  have hlen := ps.rlen
  show Run H0 T pb (.row true) _ _
  refine run_all hP T _ _ he hok trivial ps ?_
  cases R with
  | bad e p =>
    intro y H' r1 o' _ _ hr1 h'
    have hne0 : decide (e = 0) = false := decide_eq_false (P_ne hP _ _ rfl)
    simp only [szX, splX, ob_some, nil_Pt, add_Pt, h'.ld2, h'.ld3, i_neq, hne0, Bool.not_false, cnd_t, zX_b, apL, partX]
    exact hq H' r1 hr1 h'.toRD
  | ok x r1 =>
    intro y H' hy hys h'
    have h0 : decide ((0 : Int) = 0) = true := rfl
    have hsz : sizeX x + r1.length ≤ r.length := P_size hP
    have hsuf : Suf r r1 := P_suf hP he
    have hgx : allX gX x := P_good hP hok he (fun _ _ h => by cases h) (fun _ _ h => by cases h)
    have hgy : allX gX y := (norm_gX y).1 (hy.symm ▸ hgx)
    have hys' : sizeX y = sizeX x := by rw [← hy, norm_size]
    have hoy := gX_ok hgy (by omega)
    simp only [szX, splX, ob_some, nil_Pt, add_Pt, h'.ld2, i_neq, h0, Bool.not_true, cnd_f, partX]
    refine c14 y hoy.1 H' _ (fun H2 e2 => ?_)
    have h2 := h'.mono e2
    have hcx : checkP x = checkP y := by rw [← hy]; exact norm_check (by omega)
    rw [i_neq, ob_some]
    refine cnd_intro (fun hc => ?_) (fun hc => ?_)
    · simp only [zX_b, ob_some, szX, splX, partX]
      exact hq.2 (by rw [hcx]; simpa using hc) H2 h2.toRD
    · rw [c10 h2.rd (endsT_ne hsuf.1)]
      exact hq.1 (by rw [hcx]; simpa using hc) y H2 hy hys hgy h2.toRD
/-- what a text says -/
inductive TR where
  | ok (x : Ex)
  | bad (p : Nat) (e : Int)
inductive TextR (s : ByteArray) : TR → Prop
  | lex {p : Nat} {e : Int} : lexA s = .error (p, e) → TextR s (.bad p e)
  | bad {L e p} : lexA s = .ok L → P (.row true) 0 L (.bad e p) → TextR s (.bad p e)
  | long {L x r1} : lexA s = .ok L → P (.row true) 0 L (.ok x r1) → checkP x ≠ 0 → TextR s (.bad (posn L) 2)
  | more {L x r1} : lexA s = .ok L → P (.row true) 0 L (.ok x r1) → checkP x = 0 → kindN r1 ≠ 6 → TextR s (.bad (posn r1) 4)
  | ok {L x r1} : lexA s = .ok L → P (.row true) 0 L (.ok x r1) → checkP x = 0 → kindN r1 = 6 → TextR s (.ok x)
theorem TextR_ne {s : ByteArray} {p : Nat} {e : Int} (h : TextR s (.bad p e)) : e ≠ 0 := by
  cases h with
  | lex h => exact (lexA_bad h).2
  | bad _ h => exact P_ne h _ _ rfl
  | long => decide
  | more => decide
theorem TextR_total (s : ByteArray) : ∃ R, TextR s R := by
  cases hl : lexA s with
  | error x => exact ⟨_, .lex hl⟩
  | ok L =>
    obtain ⟨R, hR, _⟩ := P_total _ (.row true) 0 L (Nat.le_refl _) (lexA_len hl).2
    cases R with
    | bad e p => exact ⟨_, .bad hl hR⟩
    | ok x r1 =>
      by_cases hc : checkP x = 0
      · by_cases hk : kindN r1 = 6
        · exact ⟨_, .ok hl hR hc hk⟩
        · exact ⟨_, .more hl hR hc hk⟩
      · exact ⟨_, .long hl hR hc⟩
end Go.Hx
namespace Go.Hx
theorem takeW_all (p : UInt8 → Bool) (l : List UInt8) : (l.takeWhile p).all p = true := by
  induction l with
  | nil => rfl
  | cons c l ih =>
    rw [List.takeWhile_cons]
    split
    · rename_i h; rw [List.all_cons, h, ih]; rfl
    · rfl
theorem takeW_head {p : UInt8 → Bool} {c : UInt8} (h : p c = true) (l : List UInt8) : (c :: l).takeWhile p = c :: l.takeWhile p := by rw [List.takeWhile_cons, if_pos h]
theorem lex1_ok {c : UInt8} {r w : List UInt8} {k : Int} {n : Nat} (hl : (c :: r).length ≤ 1099511627775) (h : lex1 (c :: r) = .tok k w n) (p : Nat) : okTk ⟨k, bs w, p⟩ := by
  have hsz : ∀ l : List UInt8, (bs l).size = l.length := fun l => by rw [← size_list]
  simp only [lex1] at h
  split at h
  · split at h
    · rename_i hu
      cases h
      have := unq_len hu
      exact ⟨by show (bs w).size ≤ _; rw [hsz]; omega, fun hk => (by cases hk), fun _ => by show (bs w).size ≤ _; rw [hsz]; omega⟩
    · cases h
  · have tw : ∀ (p : UInt8 → Bool), (bs ((c :: r).takeWhile p)).size ≤ 1099511627775 := fun p => by have := tw_le p (c :: r); rw [hsz]; omega
    split at h
    · simp only [wordT] at h
      split at h
      · cases h
      · cases h; exact ⟨tw _, fun hk => (by cases hk), fun hk => (by cases hk)⟩
    · split at h
      · simp only [wordT] at h
        split at h
        · cases h
        · cases h; exact ⟨tw _, fun hk => (by cases hk), fun hk => (by cases hk)⟩
      · split at h
        · rename_i hd
          simp only [intT] at h
          split at h
          · cases h
          · rename_i hn
            cases h
            refine ⟨tw _, fun _ => ?_, fun hk => (by cases hk)⟩
            show DigL false (tx (bs _))
            rw [tx_bs]
            refine ⟨by rw [takeW_head hd]; simp, takeW_all _ _, ?_⟩
            rw [takeW_head hd] at hn ⊢
            have hn : ¬ (19 < (c :: r.takeWhile digB).length ∨ (1 < (c :: r.takeWhile digB).length ∧ some c.toNat = some 48)) := hn
            by_cases h48 : c.toNat = 48
            · right
              refine ⟨rfl, ?_⟩
              have h1 : ¬ 1 < (c :: r.takeWhile digB).length := fun h1 => hn (.inr ⟨h1, by rw [h48]⟩)
              simp only [List.length_cons] at h1 ⊢
              omega
            · left; simp [h48]
        · simp only [signF] at h
          split at h
          · cases h
          · rename_i w' hw
            cases h
            have hm := List.mem_of_find?_eq_some hw
            have : ∀ w ∈ signW, w.length ≤ 2 := by decide
            have := this _ hm
            exact ⟨by show (bs w).size ≤ _; rw [hsz]; omega, fun hk => (by cases hk), fun hk => (by cases hk)⟩
theorem lexW_ok : ∀ (m p : Nat) (r : List UInt8), r.length ≤ m → m ≤ 1099511627775 → ∀ l, lexW p r = .ok l → ∀ t ∈ l, okTk t := by
  have hend : ∀ p, okTk ⟨6, e0, p⟩ := fun p => ⟨by show 0 ≤ _; omega, fun hk => (by cases hk), fun hk => (by cases hk)⟩
  intro m
  induction m with
  | zero =>
    intro p r hr _ l h
    have : r = [] := List.eq_nil_of_length_eq_zero (by omega)
    subst this
    rw [lexW] at h; cases h
    intro t ht; simp at ht; subst ht; exact hend p
  | succ m ih =>
    intro p r hr hm l h
    cases r with
    | nil =>
      rw [lexW] at h; cases h
      intro t ht; simp at ht; subst ht; exact hend p
    | cons c r =>
      rw [lexW] at h
      simp only [List.length_cons] at hr
      split at h
      · exact ih _ r (by omega) (by omega) _ h
      · split at h
        · cases h
        · rename_i k w n hL
          have hn := lex1_len hL
          split at h
          · cases h
          · rename_i l' hl'
            cases h
            have := ih _ (r.drop (n - 1)) (by simp; omega) (by omega) _ hl'
            intro t ht
            rcases List.mem_cons.1 ht with rfl | ht
            · exact lex1_ok (by simp only [List.length_cons]; omega) hL p
            · exact this t ht
theorem lexA_ok {s : ByteArray} {l : List Tk} (h : lexA s = .ok l) : ∀ t ∈ l, okTk t := by
  simp only [lexA] at h
  split at h
  · cases h
  · have hs : (tx s).length = s.size := size_list s
    exact lexW_ok 8192 0 (tx s) (by omega) (by omega) _ h
theorem x3_0' (a b c : AV) : extractA (.tup [a, b, c]) 0 = some a := rfl
/-- what Text answers -/
def Res13 (H : Heap) (s : ByteArray) (Q : Post) : TR → Prop
  | .ok x => ∀ y H', HExt H H' → norm y = x → allX shX y → allX gX y → checkP x = 0 → sizeX y ≤ 100 → Q (.tup [encX y, I s.size, I 0]) H'
  | .bad p e => ∀ H', HExt H H' → Q (.tup [encX zX, I p, I e]) H'
theorem check_size {x : Ex} (h : checkP x = 0) (hs : sizeX x ≤ 1152921504606846975) : sizeX x ≤ 100 := by
  rw [checkP_eq x hs] at h
  split at h
  · cases h
  · omega
theorem c4 (s : ByteArray) (hsz : s.size ≤ 1099511627776) (H : Heap) (Q : Post) {R : TR} (hR : TextR s R) (hq : Res13 H s Q R) : E 4 [S s] H Q := by
  have nz : ∀ {e : Int}, e ≠ 0 → decide (e = 0) = false := fun h => decide_eq_false h
  rw [f4_eq]
  refine c7 s hsz H _ (fun v H1 hv h1 hfr => ?_)
  cases hl : lexA s with
  | error x =>
    obtain ⟨p, e⟩ := x
    rw [hl] at hv
    have hv : v = .tup [.raw (.pointer none), I p, I e] := hv
    subst hv
    have hne := nz (lexA_bad hl).2
    simp only [x3_0, x3_1, x3_2, ob_some, i_neq, hne, Bool.not_false, cnd_t, zX_b, szX, splX, partX]
    cases hR with
    | lex h => rw [hl] at h; cases h; exact hq H1 h1
    | bad h => rw [hl] at h; cases h
    | long h => rw [hl] at h; cases h
    | more h => rw [hl] at h; cases h
    | ok h => rw [hl] at h; cases h
  | ok L =>
    rw [hl] at hv
    obtain ⟨b, rfl, hb⟩ := hv
    have h0 : decide ((0 : Int) = 0) = true := rfl
    simp only [x3_0, x3_1, x3_2, ob_some, i_neq, h0, Bool.not_true, cnd_f]
    have hbf := hfr b _ rfl
    have rd : RD H (fun _ _ => False) b L H1 := ⟨h1, hbf, hb, fun _ _ h => h.elim⟩
    have hls := lexA_len hl
    have ho := lexA_ok hl
    cases hR with
    | lex h => rw [hl] at h; cases h
    | bad h hP =>
      rw [hl] at h; cases h
      refine c8 rd hls.2 ho hP (fun H' r1 _ h' => ?_)
      simp only [x3_0, x3_1, x3_2, ob_some, i_neq, nz (P_ne hP _ _ rfl), Bool.not_false, cnd_t, zX_b, szX, splX, partX]
      exact hq H' h'.ext
    | long h hP hc =>
      rw [hl] at h; cases h
      refine c8 rd hls.2 ho hP ⟨fun h0 => (hc h0).elim, fun _ H' h' => ?_⟩
      have h2 : decide ((2 : Int) = 0) = false := rfl
      simp only [x3_0, x3_1, x3_2, ob_some, i_neq, h2, Bool.not_false, cnd_t, zX_b, szX, splX, partX]
      exact hq H' h'.ext
    | @more L' x r1 h hP hc hk =>
      rw [hl] at h; cases h
      have hsuf : Suf _ _ := P_suf hP hls.2
      refine c8 rd hls.2 ho hP ⟨fun _ y H' hy hys hgy h' => ?_, fun h0 => (h0 hc).elim⟩
      cases r1 with
      | nil => exact hsuf.1.elim
      | cons t r2 =>
        have hk : decide (t.k = 6) = false := decide_eq_false hk
        simp only [x3_0, x3_1, x3_2, ob_some, h0, Bool.not_true, cnd_f, i_neq, Bool.not_false, cnd_t, zX_b, szX, splX, partX]
        rw [c9' h'.rd]
        simp only [fK0, ob_some, i_neq, hk, Bool.not_false, cnd_t]
        rw [c10 h'.rd (by simp)]
        exact hq H' h'.ext
    | @ok L' x r1 h hP hc hk =>
      rw [hl] at h; cases h
      have hsuf : Suf _ _ := P_suf hP hls.2
      have hsz : _ ≤ _ := P_size hP
      refine c8 rd hls.2 ho hP ⟨fun _ y H' hy hys hgy h' => ?_, fun h0 => (h0 hc).elim⟩
      cases r1 with
      | nil => exact hsuf.1.elim
      | cons t r2 =>
        have hk : decide (t.k = 6) = true := decide_eq_true hk
        simp only [x3_0, x3_1, x3_2, ob_some, h0, Bool.not_true, cnd_f, i_neq, szX, splX, partX, len_S]
        rw [c9' h'.rd]
        simp only [fK0, ob_some, i_neq, hk, Bool.not_true, cnd_f]
        exact hq y H' h'.ext hy hys hgy hc (by have := check_size hc (by omega); rw [← hy, norm_size] at this; exact this)
end Go.Hx
namespace Go.Hx
def awS : ByteArray := ⟨#[97, 46, 120, 32, 60, 32, 49]⟩
def awL : List Tk := [⟨2, bs [97], 0⟩, ⟨5, bs [46], 1⟩, ⟨2, bs [120], 2⟩, ⟨5, bs [60], 4⟩, ⟨3, bs [49], 6⟩, ⟨6, e0, 7⟩]
theorem lexW_tok {p : Nat} {c : UInt8} {r w r' : List UInt8} {k : Int} {n : Nat} {l : List Tk} (hb : blankB c = false) (h : lex1 (c :: r) = .tok k w n) (hr : r.drop (n - 1) = r') (hl : lexW (p + n) r' = .ok l) : lexW p (c :: r) = .ok (⟨k, bs w, p⟩ :: l) := by
  rw [lexW, if_neg (by rw [hb]; decide)]
  simp only [h, hr, hl]
theorem lexW_skip {p : Nat} {c : UInt8} {r : List UInt8} {R : Except (Nat × Int) (List Tk)} (hb : blankB c = true) (hl : lexW (p + 1) r = R) : lexW p (c :: r) = R := by
  rw [lexW, if_pos hb, hl]
theorem aw_lex : lexA awS = .ok awL := by
  have h0 : lexA awS = lexW 0 [97, 46, 120, 32, 60, 32, 49] := by rw [lexA, if_neg (by decide)]; rfl
  rw [h0]
  refine lexW_tok rfl (k := 2) (w := [97]) (n := 1) (by kernel_rfl) (r' := [46, 120, 32, 60, 32, 49]) rfl ?_
  refine lexW_tok rfl (k := 5) (w := [46]) (n := 1) (by kernel_rfl) (r' := [120, 32, 60, 32, 49]) rfl ?_
  refine lexW_tok rfl (k := 2) (w := [120]) (n := 1) (by kernel_rfl) (r' := [32, 60, 32, 49]) rfl ?_
  refine lexW_skip rfl ?_
  refine lexW_tok rfl (k := 5) (w := [60]) (n := 1) (by kernel_rfl) (r' := [32, 49]) rfl ?_
  refine lexW_skip rfl ?_
  refine lexW_tok rfl (k := 3) (w := [49]) (n := 1) (by kernel_rfl) (r' := []) rfl ?_
  rw [lexW]

def awX : Ex := nd 11 nullV e0 e0 [nd 2 nullV (bs [97]) (bs [120]) [], nd 1 (intV 1) e0 e0 []]
theorem aw_P : P (.row true) 0 awL (.ok awX [⟨6, e0, 7⟩]) := by
  have atom : ∀ {r : List Tk} {x : Ex} {r1 : List Tk}, atomR r = .ok x r1 → nextIs 5 wOpen r = false → nextIs 5 wMinus r = false → opOf 6 8 r1 = none → opOf 4 5 r1 = none → P (.left true) 0 r (.ok x r1) := fun {r x r1} h h1 h2 h3 h4 => by
    have l : P .neg 0 r (.ok x r1) := .neg_no h2 (h ▸ .last_atom h1)
    exact .left_ok (b := true) (.left_ok (b := false) l (.lmore_no h3)) (.lmore_no h4)
  have h1 : P (.left true) 0 awL (.ok (nd 2 nullV (bs [97]) (bs [120]) []) [⟨5, bs [60], 4⟩, ⟨3, bs [49], 6⟩, ⟨6, e0, 7⟩]) := atom rfl rfl rfl rfl rfl
  have h2 : P (.left true) 0 [⟨3, bs [49], 6⟩, ⟨6, e0, 7⟩] (.ok (nd 1 (intV 1) e0 e0 []) [⟨6, e0, 7⟩]) := atom rfl rfl rfl rfl rfl
  have hc : P .cmp 0 awL (.ok awX [⟨6, e0, 7⟩]) := .cmp_ok h1 (show opOf 9 14 _ = some 11 from rfl) h2
  have j1 : joinE (rowK false) [awX] = awX := rfl
  have j2 : joinE (rowK true) [awX] = awX := rfl
  have hm1 : P (.more false [awX]) 0 [⟨6, e0, 7⟩] (.ok awX [⟨6, e0, 7⟩]) := by
    have := P.more_no (b := false) (l := [awX]) (o := 0) (r := [⟨6, e0, 7⟩]) rfl
    rw [j1] at this; exact this
  have hm2 : P (.more true [awX]) 0 [⟨6, e0, 7⟩] (.ok awX [⟨6, e0, 7⟩]) := by
    have := P.more_no (b := true) (l := [awX]) (o := 0) (r := [⟨6, e0, 7⟩]) rfl
    rw [j2] at this; exact this
  exact .row_ok (b := true) (.row_ok (b := false) (.not_no rfl hc) hm1) hm2
theorem aw_T : TextR awS (.ok awX) := .ok aw_lex aw_P (by decide +kernel) rfl
theorem c5 (H : Heap) (Q : Post) (hq : ∀ H', HExt H H' → Q (B true) H') : E 5 [] H Q := by
  rw [f5_eq]
  refine c4 awS (by decide) H _ aw_T (fun y H' he hy _ _ _ _ => ?_)
  have hk : y.k = 11 := by rw [← norm_k, hy]; rfl
  have e11 : partA false 0 1 (encC y) = some (I 11) := by rw [q0X, hk]
  have h0 : decide ((0 : Int) = 0) = true := rfl
  have h7 : decide (((awS.size : Nat) : Int) = 7) = true := rfl
  have h11 : decide ((11 : Int) = 11) = true := rfl
  simp only [x3_0, x3_1, x3_2, ob_some, szX, splX, i_eql, h0, h7, h11, cnd_t, e11]
  rw [f5_j6_eq]
  exact hq H' he
end Go.Hx
namespace Go.Hx
abbrev KT := Int × ByteArray
def kt (t : Tk) : KT := (t.k, t.s)
/-! ### Tokens of a text with a ) behind it -/
theorem takeW_more {p : UInt8 → Bool} {x : UInt8} (hx : p x = false) (r : List UInt8) : (r ++ [x]).takeWhile p = r.takeWhile p := by
  induction r with
  | nil => simp [hx]
  | cons c r ih =>
    rw [List.cons_append, List.takeWhile_cons, List.takeWhile_cons, ih]
theorem find_congr {α : Type} {p q : α → Bool} : ∀ {l : List α}, (∀ x ∈ l, p x = q x) → l.find? p = l.find? q
  | [], _ => rfl
  | x :: l, h => by rw [List.find?_cons, List.find?_cons, h x (by simp), find_congr fun y hy => h y (by simp [hy])]
theorem sign_two (c d : UInt8) (r : List UInt8) : signF (c :: d :: r) = signF [c, d] := by
  have : ∀ w ∈ signW, pre? (c :: d :: r) w = pre? [c, d] w := fun w hw => by
    have hl : w.length = 1 ∨ w.length = 2 := by
      have : ∀ w ∈ signW, w.length = 1 ∨ w.length = 2 := by decide
      exact this w hw
    rcases hl with hl | hl
    · simp [pre?, hl]
    · simp [pre?, hl]
  have h : signW.find? (pre? (c :: d :: r)) = signW.find? (pre? [c, d]) := find_congr this
  simp only [signF, h]
theorem sign_one (c d : UInt8) (h1 : d.toNat ≠ 61) (h2 : d.toNat ≠ 62) : signF [c, d] = signF [c] := by
  have e1 : d ≠ 61 := fun e => h1 (by rw [e]; rfl)
  have e2 : d ≠ 62 := fun e => h2 (by rw [e]; rfl)
  have : ∀ w ∈ signW, pre? [c, d] w = pre? [c] w := fun w hw => by
    simp only [signW, List.mem_cons, List.not_mem_nil, or_false] at hw
    rcases hw with rfl | rfl | rfl | rfl | rfl | rfl | rfl | rfl | rfl | rfl | rfl | rfl | rfl | rfl | rfl | rfl | rfl | rfl | rfl | rfl | rfl | rfl <;> simp [pre?, e1, e2]
  have h : signW.find? (pre? [c, d]) = signW.find? (pre? [c]) := find_congr this
  simp only [signF, h]
theorem sign_open (d : UInt8) : signF [40, d] = .tok 5 [40] 1 := by
  have : ∀ w ∈ signW, pre? [40, d] w = pre? [40] w := fun w hw => by
    simp only [signW, List.mem_cons, List.not_mem_nil, or_false] at hw
    rcases hw with rfl | rfl | rfl | rfl | rfl | rfl | rfl | rfl | rfl | rfl | rfl | rfl | rfl | rfl | rfl | rfl | rfl | rfl | rfl | rfl | rfl | rfl <;> simp [pre?]
  have h : signW.find? (pre? [40, d]) = signW.find? (pre? [40]) := find_congr this
  have e : signF [40, d] = signF [40] := by simp only [signF, h]
  have e0 : signF [40] = .tok 5 [40] 1 := by kernel_rfl
  rw [e, e0]
theorem lex_open (r : List UInt8) : lex1 (40 :: r) = .tok 5 [40] 1 := by
  have h : lex1 (40 :: r) = signF (40 :: r) := by
    have a : uppB 40 = false := by decide
    have b : lowB 40 = false := by decide
    have c : digB 40 = false := by decide
    have d : ¬ (40 : UInt8).toNat = 39 := by decide
    simp only [lex1, if_neg d, a, b, c, Bool.false_eq_true, if_false]
  rw [h]
  have e0 : signF [40] = .tok 5 [40] 1 := by kernel_rfl
  cases r with
  | nil => exact e0
  | cons d r => rw [sign_two, sign_open]
theorem hexR_app {p : Nat} {r : List UInt8} {c : UInt8} {n : Nat} (h : hexR p r = .ok c n) (z : List UInt8) : hexR p (r ++ z) = .ok c n := by
  cases r with
  | nil => cases h
  | cons x r =>
    simp only [hexR] at h
    cases hx : hexV x with
    | none => simp only [hx] at h; cases h
    | some a =>
      simp only [hx] at h
      cases r with
      | nil => cases h
      | cons y r =>
        simp only [List.cons_append, hexR, hx]
        exact h
theorem escR_app {p : Nat} {r : List UInt8} {c : UInt8} {n : Nat} (h : escR p r = .ok c n) (z : List UInt8) : escR p (r ++ z) = .ok c n := by
  cases r with
  | nil => cases h
  | cons d r =>
    simp only [List.cons_append, escR] at h ⊢
    split
    · rename_i g; rw [if_pos g] at h; exact h
    · rename_i g; rw [if_neg g] at h
      split
      · rename_i g2; rw [if_pos g2] at h; exact h
      · rename_i g2; rw [if_neg g2] at h
        cases hx : hexR (p + 2) r with
        | bad q => rw [hx] at h; cases h
        | ok c2 n2 =>
          rw [hx] at h
          rw [hexR_app hx z]
          exact h
theorem unqF_app : ∀ (m p : Nat) (out r : List UInt8), r.length ≤ m → ∀ s n, unqF p out r = .ok s n → ∀ z, unqF p out (r ++ z) = .ok s n := by
  intro m
  induction m with
  | zero =>
    intro p out r hr s n h
    have : r = [] := List.eq_nil_of_length_eq_zero (by omega)
    subst this
    rw [unqF] at h; cases h
  | succ m ih =>
    intro p out r hr s n h z
    cases r with
    | nil => rw [unqF] at h; cases h
    | cons c r =>
      simp only [List.length_cons] at hr
      rw [List.cons_append, unqF.eq_def]
      rw [unqF.eq_def] at h
      simp only at h ⊢
      by_cases g : c.toNat = 39
      · rw [if_pos g] at h ⊢; exact h
      · rw [if_neg g] at h ⊢
        by_cases g2 : c.toNat = 92
        · rw [if_pos g2] at h ⊢
          cases hx : escR p r with
          | bad q => rw [hx] at h; cases h
          | ok d k =>
            rw [hx] at h
            have hl := escR_len hx
            rw [escR_app hx z]
            have : (r ++ z).drop (k - 1) = r.drop (k - 1) ++ z := List.drop_append_of_le_length (by omega)
            simp only [this]
            exact ih _ _ (r.drop (k - 1)) (by simp; omega) _ _ h z
        · rw [if_neg g2] at h ⊢
          by_cases g3 : plainB c = true
          · rw [if_pos g3] at h ⊢
            exact ih _ _ r (by omega) _ _ h z
          · rw [if_neg g3] at h; cases h
theorem lex1_app {c : UInt8} {r w : List UInt8} {k : Int} {n : Nat} (h : lex1 (c :: r) = .tok k w n) : lex1 (c :: (r ++ [41])) = .tok k w n := by
  have tw : ∀ p : UInt8 → Bool, p 41 = false → (c :: (r ++ [41])).takeWhile p = (c :: r).takeWhile p := fun p hp => by
    have := takeW_more hp (c :: r)
    rwa [List.cons_append] at this
  simp only [lex1] at h ⊢
  by_cases g : c.toNat = 39
  · rw [if_pos g] at h ⊢
    have hu : ∀ z : List UInt8, unq (c :: z) = unqF 1 [] z := fun z => by simp only [unq, if_pos g]
    rw [hu] at h ⊢
    cases hx : unqF 1 [] r with
    | bad n e => rw [hx] at h; cases h
    | ok s n =>
      rw [hx] at h
      rw [unqF_app _ _ _ r (Nat.le_refl _) _ _ hx [41]]
      exact h
  · rw [if_neg g] at h ⊢
    by_cases g1 : uppB c = true
    · rw [if_pos g1] at h ⊢
      simp only [wordT, tw uppB (by decide)] at h ⊢; exact h
    · rw [if_neg g1] at h ⊢
      by_cases g2 : lowB c = true
      · rw [if_pos g2] at h ⊢
        simp only [wordT, tw signB (by decide)] at h ⊢; exact h
      · rw [if_neg g2] at h ⊢
        by_cases g3 : digB c = true
        · rw [if_pos g3] at h ⊢
          simp only [intT, tw digB (by decide)] at h ⊢; exact h
        · rw [if_neg g3] at h ⊢
          cases r with
          | nil => rw [List.nil_append, sign_one c 41 (by decide) (by decide)]; exact h
          | cons d r => rw [List.cons_append, sign_two]; rw [sign_two] at h; exact h
theorem lexW_app : ∀ (m : Nat) (r : List UInt8), r.length ≤ m → ∀ p p' L, lexW p r = .ok L → ∃ L1 q1 q2 e1, lexW p' (r ++ [41]) = .ok (L1 ++ [⟨5, wShut, q1⟩, ⟨6, e0, q2⟩]) ∧ L.map kt = L1.map kt ++ [(6, e1)] := by
  have base : ∀ p p' L, lexW p [] = .ok L → ∃ L1 q1 q2 e1, lexW p' ([] ++ [41]) = .ok (L1 ++ [⟨5, wShut, q1⟩, ⟨6, e0, q2⟩]) ∧ L.map kt = L1.map kt ++ [(6, e1)] := fun p p' L h => by
    rw [lexW] at h; cases h
    refine ⟨[], p', p' + 1, e0, ?_, rfl⟩
    rw [List.nil_append]
    exact lexW_tok (k := 5) (w := [41]) (n := 1) (by decide) (by kernel_rfl) (r' := []) rfl (by rw [lexW])
  intro m
  induction m with
  | zero =>
    intro r hr p p' L h
    have : r = [] := List.eq_nil_of_length_eq_zero (by omega)
    subst this
    exact base p p' L h
  | succ m ih =>
    intro r hr p p' L h
    cases r with
    | nil => exact base p p' L h
    | cons c r =>
      simp only [List.length_cons] at hr
      rw [lexW] at h
      by_cases hb : blankB c = true
      · rw [if_pos hb] at h
        obtain ⟨L1, q1, q2, e1, g1, g2⟩ := ih r (by omega) _ (p' + 1) L h
        exact ⟨L1, q1, q2, e1, by rw [List.cons_append]; exact lexW_skip hb g1, g2⟩
      · rw [if_neg hb] at h
        cases hL : lex1 (c :: r) with
        | bad n e => rw [hL] at h; cases h
        | tok k w n =>
          rw [hL] at h
          have hn := lex1_len hL
          simp only [List.length_cons] at hn
          simp only at h
          cases hx : lexW (p + n) (r.drop (n - 1)) with
          | error e => rw [hx] at h; cases h
          | ok l =>
            rw [hx] at h
            cases h
            obtain ⟨L1, q1, q2, e1, g1, g2⟩ := ih (r.drop (n - 1)) (by simp; omega) _ (p' + n) l hx
            refine ⟨⟨k, bs w, p'⟩ :: L1, q1, q2, e1, ?_, by rw [List.map_cons, g2]; rfl⟩
            rw [List.cons_append]
            refine lexW_tok (by simpa using hb) (lex1_app hL) (r' := r.drop (n - 1) ++ [41]) ?_ g1
            exact List.drop_append_of_le_length (by omega)
/-! ### The same, but for its end -/
def TailS (u : Tk) (z : List Tk) (r r' : List Tk) : Prop := ∃ a a' e, r = a ++ [e] ∧ r' = a' ++ u :: z ∧ a.map kt = a'.map kt ∧ e.k = 6 ∧ kt u = (5, wShut) ∧ ∀ t ∈ a, t.k ≠ 6
theorem TailS.cons {u : Tk} {z : List Tk} {t : Tk} {r r' : List Tk} (h : TailS u z (t :: r) r') (ht : t.k ≠ 6) : ∃ t' r2, r' = t' :: r2 ∧ kt t' = kt t ∧ TailS u z r r2 := by
  obtain ⟨a, a', e, h1, rfl, h3, h4, h5, h6⟩ := h
  cases a with
  | nil =>
    simp only [List.nil_append, List.cons.injEq] at h1
    exact (ht (by rw [h1.1]; exact h4)).elim
  | cons b a =>
    cases a' with
    | nil => simp at h3
    | cons b' a' =>
      simp only [List.cons_append, List.cons.injEq] at h1
      simp only [List.map_cons, List.cons.injEq] at h3
      obtain ⟨rfl, rfl⟩ := h1
      exact ⟨b', a' ++ u :: z, rfl, h3.1.symm, a, a', e, rfl, rfl, h3.2, h4, h5, fun t ht => h6 t (by simp [ht])⟩
theorem TailS.next {u : Tk} {z : List Tk} {r r' : List Tk} (h : TailS u z r r') {k : Int} {s : ByteArray} (hk : k ≠ 6) (hs : ¬ (k = 5 ∧ s = wShut)) : nextIs k s r' = nextIs k s r := by
  obtain ⟨a, a', e, rfl, rfl, h3, h4, h5, _⟩ := h
  cases a with
  | nil =>
    cases a' with
    | cons b' a' => simp at h3
    | nil =>
      have u1 : u.k = 5 := congrArg Prod.fst h5
      have u2 : u.s = wShut := congrArg Prod.snd h5
      simp only [List.nil_append, nextIs, u1, u2, h4]
      rw [decide_eq_false (Ne.symm hk), Bool.false_and]
      cases hx : (decide (5 = k) && decide (wShut = s)) with
      | false => rfl
      | true => simp only [Bool.and_eq_true, decide_eq_true_eq] at hx; exact (hs ⟨hx.1.symm, hx.2.symm⟩).elim
  | cons b a =>
    cases a' with
    | nil => simp at h3
    | cons b' a' =>
      simp only [List.map_cons, List.cons.injEq] at h3
      have b1 : b.k = b'.k := congrArg Prod.fst h3.1
      have b2 : b.s = b'.s := congrArg Prod.snd h3.1
      simp only [List.cons_append, nextIs, b1, b2]
theorem TailS.op {u : Tk} {z : List Tk} {r r' : List Tk} (h : TailS u z r r') {lo hi : Int} (hl : (lo = 6 ∧ hi = 8) ∨ (lo = 4 ∧ hi = 5) ∨ (lo = 9 ∧ hi = 14)) : opOf lo hi r' = opOf lo hi r := by
  obtain ⟨a, a', e, rfl, rfl, h3, h4, h5, _⟩ := h
  cases a with
  | nil =>
    cases a' with
    | cons b' a' => simp at h3
    | nil =>
      have u1 : u.k = 5 := congrArg Prod.fst h5
      have u2 : u.s = wShut := congrArg Prod.snd h5
      have e1 : opOf lo hi [e] = none := by simp [opOf, h4]
      have e2 : opI lo hi wShut 11 0 = none := by rcases hl with ⟨rfl, rfl⟩ | ⟨rfl, rfl⟩ | ⟨rfl, rfl⟩ <;> kernel_rfl
      rw [List.nil_append, List.nil_append, e1]
      simp only [opOf, u1, if_true, u2, e2]
  | cons b a =>
    cases a' with
    | nil => simp at h3
    | cons b' a' =>
      simp only [List.map_cons, List.cons.injEq] at h3
      have b1 : b.k = b'.k := congrArg Prod.fst h3.1
      have b2 : b.s = b'.s := congrArg Prod.snd h3.1
      simp only [List.cons_append, opOf, b1, b2]
theorem TailS.kind {u : Tk} {z : List Tk} {r r' : List Tk} (h : TailS u z r r') (h3 : kindN r ≠ 6) : kindN r' = kindN r := by
  cases r with
  | nil => obtain ⟨a, _, _, h1, _⟩ := h; simp at h1
  | cons t r =>
    obtain ⟨t', r2, rfl, e, _⟩ := h.cons h3
    exact congrArg Prod.fst e
theorem TailS.kind6 {u : Tk} {z : List Tk} {r r' : List Tk} (h : TailS u z r r') : (kindN r = 3 ↔ kindN r' = 3) := by
  by_cases h6 : kindN r = 6
  · have : kindN r' = 5 := by
      obtain ⟨a, a', e, rfl, rfl, h3, h4, h5, hn⟩ := h
      cases a with
      | cons b a => exact (hn b (by simp) h6).elim
      | nil =>
        cases a' with
        | cons b' a' => simp at h3
        | nil => exact congrArg Prod.fst h5
    omega
  · rw [h.kind h6]
def SimR (u : Tk) (z : List Tk) (o : Nat) (g : Gl) (r' : List Tk) (x : Ex) (r1 : List Tk) : Prop := (∃ r1', P g o r' (.ok x r1') ∧ TailS u z r1 r1') ∨ ∃ p, P g o r' (.bad 2 p)
theorem numR_sim {u : Tk} {z : List Tk} {m : Bool} {r r' : List Tk} {x : Ex} {r1 : List Tk} (h : numR m r = .ok x r1) (ht : TailS u z r r') (hk : kindN r = 3) : ∃ r1', numR m r' = .ok x r1' ∧ TailS u z r1 r1' := by
  cases r with
  | nil => cases h
  | cons t r =>
    simp only [kindN] at hk
    obtain ⟨t', r2, rfl, e, h2⟩ := ht.cons (by omega)
    have e2 : t'.s = t.s := congrArg Prod.snd e
    simp only [numR] at h ⊢
    rw [e2]
    cases hn : numOf m t.s with
    | none => rw [hn] at h; cases h
    | some n => rw [hn] at h; cases h; exact ⟨r2, rfl, h2⟩
theorem atomR_sim {u : Tk} {z : List Tk} {r r' : List Tk} {x : Ex} {r1 : List Tk} (h : atomR r = .ok x r1) (ht : TailS u z r r') : ∃ r1', atomR r' = .ok x r1' ∧ TailS u z r1 r1' := by
  cases r with
  | nil => cases h
  | cons t r =>
    have h6 : t.k ≠ 6 := fun h6 => by
      simp only [atomR, h6] at h
      cases h
    obtain ⟨t', r2, rfl, e, h2⟩ := ht.cons h6
    have e1 : t'.k = t.k := congrArg Prod.fst e
    have e2 : t'.s = t.s := congrArg Prod.snd e
    simp only [atomR, e1, e2] at h ⊢
    by_cases g3 : t.k = 3
    · rw [if_pos g3] at h ⊢
      exact numR_sim h ht g3
    rw [if_neg g3] at h ⊢
    by_cases g4 : t.k = 4
    · rw [if_pos g4] at h ⊢
      cases h; exact ⟨r2, rfl, h2⟩
    rw [if_neg g4] at h ⊢
    by_cases g2 : t.k = 2
    · rw [if_pos g2] at h ⊢
      simp only [fieldR] at h ⊢
      rw [h2.next (by decide) (fun hh => absurd hh.2 (by decide))]
      cases hn : nextIs 5 ⟨#[46]⟩ r with
      | false => rw [hn] at h; cases h
      | true =>
        rw [hn] at h
        obtain ⟨u0, r3, rfl, hu, _⟩ := nextIs_ne hn
        obtain ⟨u', r4, rfl, _, h4⟩ := h2.cons (by omega)
        simp only [List.tail_cons, if_true] at h ⊢
        cases r3 with
        | nil => cases h
        | cons v r5 =>
          simp only at h
          split at h
          · rename_i hv
            obtain ⟨v', r6, rfl, ev, h6⟩ := h4.cons (by omega)
            have v1 : v'.k = v.k := congrArg Prod.fst ev
            have v2 : v'.s = v.s := congrArg Prod.snd ev
            cases h
            refine ⟨r6, ?_, h6⟩
            simp only [v1, v2, if_pos hv]
          · cases h
    rw [if_neg g2] at h ⊢
    by_cases g1 : t.k = 1
    · rw [if_pos g1] at h ⊢
      cases hw : wordV t.s with
      | none => rw [hw] at h; cases h
      | some v => rw [hw] at h; cases h; exact ⟨r2, rfl, h2⟩
    rw [if_neg g1] at h
    cases h
theorem P_sim {u : Tk} {z : List Tk} {g : Gl} {o : Nat} {r : List Tk} {R : PR} (h : P g o r R) : ∀ x r1, R = .ok x r1 → ∀ o' r', TailS u z r r' → SimR u z o' g r' x r1 := by
  have nx : ∀ {k : Int} {s : ByteArray} {t : Tk} {r r' : List Tk}, k ≠ 6 → ¬ (k = 5 ∧ s = wShut) → nextIs k s (t :: r) = true → TailS u z (t :: r) r' → ∃ t' r2, r' = t' :: r2 ∧ nextIs k s (t' :: r2) = true ∧ TailS u z r r2 := fun hk hs h ht => by
    have := ht.next hk hs
    obtain ⟨t', r2, rfl, e, h2⟩ := ht.cons (by rw [(nextIs_cons h).1]; exact hk)
    exact ⟨t', r2, rfl, by rw [this]; exact h, h2⟩
  have ox : ∀ {lo hi k : Int} {t : Tk} {r r' : List Tk}, ((lo = 6 ∧ hi = 8) ∨ (lo = 4 ∧ hi = 5) ∨ (lo = 9 ∧ hi = 14)) → opOf lo hi (t :: r) = some k → TailS u z (t :: r) r' → ∃ t' r2, r' = t' :: r2 ∧ opOf lo hi (t' :: r2) = some k ∧ TailS u z r r2 := fun hl h ht => by
    have := ht.op hl
    obtain ⟨t', r2, rfl, e, h2⟩ := ht.cons (by rw [opOf_cons h]; decide)
    exact ⟨t', r2, rfl, by rw [this]; exact h, h2⟩
  have hw : ∀ b, rowW b ≠ wShut := fun b => by cases b <;> decide
  have hlb : ∀ b, ((leftLo b = 6 ∧ leftHi b = 8) ∨ (leftLo b = 4 ∧ leftHi b = 5) ∨ (leftLo b = 9 ∧ leftHi b = 14)) := fun b => by cases b; exact .inl ⟨rfl, rfl⟩; exact .inr (.inl ⟨rfl, rfl⟩)
  induction h with
  | row_bad => intro x r1 h; exact fun o' r' ht => by rename_i ih; exact (by
      rcases ih x r1 h o' r' ht with ⟨r1', hp, _⟩ | ⟨p, hp⟩
      · rename_i e p _; cases h
      · exact .inr ⟨p, .row_bad hp⟩)
  | row_ok _ _ ih1 ih2 =>
    intro x r1 h o' r' ht
    rcases ih1 _ _ rfl o' r' ht with ⟨q, hp, hq⟩ | ⟨p, hp⟩
    · rcases ih2 x r1 h o' q hq with ⟨q2, hp2, hq2⟩ | ⟨p, hp2⟩
      · exact .inl ⟨q2, .row_ok hp hp2, hq2⟩
      · exact .inr ⟨p, .row_ok hp hp2⟩
    · exact .inr ⟨p, .row_bad hp⟩
  | more_no hn =>
    intro x r1 h o' r' ht
    cases h
    exact .inl ⟨r', .more_no (by rw [ht.next (by decide) (fun hh => absurd hh.1 (by decide))]; exact hn), ht⟩
  | more_bad => intro x r1 h; cases h
  | more_ok hn _ _ ih1 ih2 =>
    intro x r1 h o' r' ht
    obtain ⟨t', r2, rfl, hn', h2⟩ := nx (by decide) (fun hh => absurd hh.1 (by decide)) hn ht
    rcases ih1 _ _ rfl o' r2 h2 with ⟨q, hp, hq⟩ | ⟨p, hp⟩
    · rcases ih2 x r1 h o' q hq with ⟨q2, hp2, hq2⟩ | ⟨p, hp2⟩
      · exact .inl ⟨q2, .more_ok hn' hp hp2, hq2⟩
      · exact .inr ⟨p, .more_ok hn' hp hp2⟩
    · exact .inr ⟨p, .more_bad hn' hp⟩
  | not_no hn _ ih =>
    intro x r1 h o' r' ht
    have hn' : nextIs 1 wNOT r' = false := by rw [ht.next (by decide) (fun hh => absurd hh.1 (by decide))]; exact hn
    rcases ih x r1 h o' r' ht with ⟨q, hp, hq⟩ | ⟨p, hp⟩
    · exact .inl ⟨q, .not_no hn' hp, hq⟩
    · exact .inr ⟨p, .not_no hn' hp⟩
  | not_long => intro x r1 h; cases h
  | not_bad => intro x r1 h; cases h
  | not_ok hn ho _ ih =>
    intro x r1 h o' r' ht
    cases h
    obtain ⟨t', r2, rfl, hn', h2⟩ := nx (by decide) (fun hh => absurd hh.1 (by decide)) hn ht
    rcases Nat.lt_or_ge o' 200 with hlt | hge
    · rcases ih _ _ rfl (o' + 1) r2 h2 with ⟨q, hp, hq⟩ | ⟨p, hp⟩
      · exact .inl ⟨q, .not_ok hn' hlt hp, hq⟩
      · exact .inr ⟨p, .not_bad hn' hlt hp⟩
    · exact .inr ⟨_, .not_long hn' hge⟩
  | cmp_bad => intro x r1 h; cases h
  | cmp_no _ hk ih =>
    intro x r1 h o' r' ht
    cases h
    rcases ih _ _ rfl o' r' ht with ⟨q, hp, hq⟩ | ⟨p, hp⟩
    · exact .inl ⟨q, .cmp_no hp (by rw [hq.op (.inr (.inr ⟨rfl, rfl⟩))]; exact hk), hq⟩
    · exact .inr ⟨p, .cmp_bad hp⟩
  | cmp_bad2 => intro x r1 h; cases h
  | cmp_ok _ hk _ ih1 ih2 =>
    intro x r1 h o' r' ht
    cases h
    rcases ih1 _ _ rfl o' r' ht with ⟨q, hp, hq⟩ | ⟨p, hp⟩
    · obtain ⟨t', r2, rfl, hk', h2⟩ := ox (.inr (.inr ⟨rfl, rfl⟩)) hk hq
      rcases ih2 _ _ rfl o' r2 h2 with ⟨q2, hp2, hq2⟩ | ⟨p, hp2⟩
      · exact .inl ⟨q2, .cmp_ok hp hk' hp2, hq2⟩
      · exact .inr ⟨p, .cmp_bad2 hp hk' hp2⟩
    · exact .inr ⟨p, .cmp_bad hp⟩
  | left_bad => intro x r1 h; cases h
  | left_ok _ _ ih1 ih2 =>
    intro x r1 h o' r' ht
    rcases ih1 _ _ rfl o' r' ht with ⟨q, hp, hq⟩ | ⟨p, hp⟩
    · rcases ih2 x r1 h o' q hq with ⟨q2, hp2, hq2⟩ | ⟨p, hp2⟩
      · exact .inl ⟨q2, .left_ok hp hp2, hq2⟩
      · exact .inr ⟨p, .left_ok hp hp2⟩
    · exact .inr ⟨p, .left_bad hp⟩
  | lmore_no hk =>
    intro x r1 h o' r' ht
    cases h
    exact .inl ⟨r', .lmore_no (by rw [ht.op (hlb _)]; exact hk), ht⟩
  | lmore_bad => intro x r1 h; cases h
  | lmore_ok hk _ _ ih1 ih2 =>
    intro x r1 h o' r' ht
    obtain ⟨t', r2, rfl, hk', h2⟩ := ox (hlb _) hk ht
    rcases ih1 _ _ rfl o' r2 h2 with ⟨q, hp, hq⟩ | ⟨p, hp⟩
    · rcases ih2 x r1 h o' q hq with ⟨q2, hp2, hq2⟩ | ⟨p, hp2⟩
      · exact .inl ⟨q2, .lmore_ok hk' hp hp2, hq2⟩
      · exact .inr ⟨p, .lmore_ok hk' hp hp2⟩
    · exact .inr ⟨p, .lmore_bad hk' hp⟩
  | neg_no hn _ ih =>
    intro x r1 h o' r' ht
    have hn' : nextIs 5 wMinus r' = false := by rw [ht.next (by decide) (fun hh => absurd hh.2 (by decide))]; exact hn
    rcases ih x r1 h o' r' ht with ⟨q, hp, hq⟩ | ⟨p, hp⟩
    · exact .inl ⟨q, .neg_no hn' hp, hq⟩
    · exact .inr ⟨p, .neg_no hn' hp⟩
  | neg_num hn hk =>
    intro x r1 h o' r' ht
    obtain ⟨t', r2, rfl, hn', h2⟩ := nx (by decide) (fun hh => absurd hh.2 (by decide)) hn ht
    obtain ⟨q, hq1, hq2⟩ := numR_sim h h2 hk
    exact .inl ⟨q, hq1 ▸ .neg_num hn' (h2.kind6.1 hk), hq2⟩
  | neg_long => intro x r1 h; cases h
  | neg_bad => intro x r1 h; cases h
  | neg_ok hn hk ho _ ih =>
    intro x r1 h o' r' ht
    cases h
    obtain ⟨t', r2, rfl, hn', h2⟩ := nx (by decide) (fun hh => absurd hh.2 (by decide)) hn ht
    have hk' : kindN r2 ≠ 3 := fun hh => hk (h2.kind6.2 hh)
    rcases Nat.lt_or_ge o' 200 with hlt | hge
    · rcases ih _ _ rfl (o' + 1) r2 h2 with ⟨q, hp, hq⟩ | ⟨p, hp⟩
      · exact .inl ⟨q, .neg_ok hn' hk' hlt hp, hq⟩
      · exact .inr ⟨p, .neg_bad hn' hk' hlt hp⟩
    · exact .inr ⟨_, .neg_long hn' hk' hge⟩
  | last_atom hn =>
    intro x r1 h o' r' ht
    have hn' : nextIs 5 wOpen r' = false := by rw [ht.next (by decide) (fun hh => absurd hh.2 (by decide))]; exact hn
    obtain ⟨q, hq1, hq2⟩ := atomR_sim h ht
    exact .inl ⟨q, hq1 ▸ .last_atom hn', hq2⟩
  | last_long => intro x r1 h; cases h
  | last_bad => intro x r1 h; cases h
  | last_open => intro x r1 h; cases h
  | last_ok hn ho _ hs ih =>
    intro x r1 h o' r' ht
    cases h
    obtain ⟨t', r2, rfl, hn', h2⟩ := nx (by decide) (fun hh => absurd hh.2 (by decide)) hn ht
    rcases Nat.lt_or_ge o' 200 with hlt | hge
    · rcases ih _ _ rfl (o' + 1) r2 h2 with ⟨q, hp, hq⟩ | ⟨p, hp⟩
      · obtain ⟨u', r3, rfl, eu, h3⟩ := hq.cons (by rw [(nextIs_cons hs).1]; decide)
        have hs' : nextIs 5 wShut (u' :: r3) = true := by
          have e1 := congrArg Prod.fst eu
          have e2 := congrArg Prod.snd eu
          simp only [kt] at e1 e2
          have := nextIs_cons hs
          simp [nextIs, e1, e2, this.1, this.2]
        exact .inl ⟨r3, .last_ok hn' hlt hp hs', h3⟩
      · exact .inr ⟨p, .last_bad hn' hlt hp⟩
    · exact .inr ⟨_, .last_long hn' hge⟩
end Go.Hx
namespace Go.Hx
def parS (s : ByteArray) : ByteArray := bs (40 :: (tx s ++ [41]))
theorem endsT_mem {r : List Tk} (h : endsT r) : ∃ a e, r = a ++ [e] ∧ e.k = 6 ∧ ∀ t ∈ a, t.k ≠ 6 := by
  induction r with
  | nil => exact h.elim
  | cons t r ih =>
    cases r with
    | nil => exact ⟨[], t, rfl, h, fun _ h => by cases h⟩
    | cons u r =>
      obtain ⟨a, e, e1, e2, e3⟩ := ih h.2
      refine ⟨t :: a, e, by rw [e1]; rfl, e2, fun v hv => ?_⟩
      rcases List.mem_cons.1 hv with rfl | hv
      · exact h.1
      · exact e3 v hv
theorem endsT_six {r : List Tk} (h : endsT r) (h6 : kindN r = 6) : ∃ e, r = [e] ∧ e.k = 6 := by
  cases r with
  | nil => exact h.elim
  | cons t r =>
    cases r with
    | nil => exact ⟨t, rfl, h⟩
    | cons u r => exact (h.1 h6).elim
theorem join_self {k : Int} (hk2 : k = 16 ∨ k = 17) {x y : Ex} (hx : norm y = x) (hc : checkP x = 0) : joinE k [x] = x := by
  by_cases hk : x.k = k
  · have hr := checkP_all hc
    rw [allR_eq, Bool.and_eq_true] at hr
    have hr := hr.1
    have hself : norm x = x := by
      rw [← hx]
      have : ∀ z : Ex, norm (norm z) = norm z := fun z => by
        induction z using Ex.ind with
        | h z ih =>
          rw [norm_eq (norm z), norm_k, norm_v, norm_var, norm_fld, norm_l, List.map_map]
          have : z.l.map (norm ∘ norm) = z.l.map norm := List.map_congr_left fun w hw => ih w hw
          rw [this, ← norm_eq]
      exact this y
    by_cases h2 : 2 ≤ x.l.length
    · have hp : partsJ k [x] = x.l := by simp [partsJ, hk]
      simp only [rightP] at hr
      have hb : bareP x = true ∨ x.k = 1 ∨ x.k = 2 := by
        split at hr
        · rename_i g; exact .inr (.inl g)
        · split at hr
          · rename_i g; exact .inr (.inr g)
          · split at hr
            · cases hr
            · rename_i g; left; simpa using g
      have hbare : bareP x = true := by
        rcases hb with h | h | h
        · exact h
        · simp only [h, if_true, Bool.and_eq_true, decide_eq_true_eq] at hr; omega
        · simp only [h, if_true, if_neg (by decide : ¬ (2 : Int) = 1), Bool.and_eq_true, decide_eq_true_eq] at hr; omega
      obtain ⟨e1, e2, e3⟩ : x.v = nullV ∧ x.var = e0 ∧ x.fld = e0 := by simpa [bareP, Bool.and_eq_true, decide_eq_true_eq] using hbare
      have hl : x.l.map norm = x.l := by
        have := congrArg Ex.l hself
        rw [norm_l] at this; exact this
      have hj : joinE k [x] = nd k nullV e0 e0 x.l := by
        simp only [joinE, hp]
        match hxl : x.l, h2 with
        | _ :: _ :: _, _ => rfl
      rw [hj, ← hself, norm_eq, hk, e1, e2, e3, hl]
      rfl
    · simp only [rightP] at hr
      rw [if_neg (by omega), if_neg (by omega)] at hr
      split at hr
      · cases hr
      · rw [if_neg (by omega), if_neg (by omega)] at hr
        simp only [Bool.and_eq_true, decide_eq_true_eq] at hr
        omega
  · simp [joinE, partsJ, hk]
theorem par_back {s : ByteArray} {x y : Ex} (h : TextR s (.ok x)) (hx : norm y = x) (hs : s.size ≤ 8190) : TextR (parS s) (.ok x) ∨ ∃ p, TextR (parS s) (.bad p 2) := by
  cases h with
  | @ok L _ r1 hl hP hc h6 =>
    have hle := (lexA_len hl).2
    have hsf : Suf L r1 := P_suf hP hle
    obtain ⟨e, rfl, he6⟩ := endsT_six hsf.1 h6
    have hl' : lexW 0 (tx s) = .ok L := by
      simp only [lexA] at hl
      split at hl
      · cases hl
      · exact hl
    obtain ⟨L1, q1, q2, ek, g1, g2⟩ := lexW_app (tx s).length (tx s) (Nat.le_refl _) 0 1 L hl'
    have hsz : (parS s).size = s.size + 2 := by
      have h1 : (tx (parS s)).length = (parS s).size := size_list _
      have h2 : (tx s).length = s.size := size_list _
      have h3 : tx (parS s) = 40 :: (tx s ++ [41]) := tx_bs _
      rw [← h1, h3, ← h2]; simp
    have hlex : lexA (parS s) = .ok (⟨5, bs [40], 0⟩ :: (L1 ++ [⟨5, wShut, q1⟩, ⟨6, e0, q2⟩])) := by
      rw [lexA, if_neg (by omega)]
      have h3 : tx (parS s) = 40 :: (tx s ++ [41]) := tx_bs _
      rw [h3]
      exact lexW_tok (by decide) (lex_open _) (r' := tx s ++ [41]) rfl g1
    obtain ⟨a, e', ea, he'6, ha⟩ := endsT_mem hle
    have hts : TailS ⟨5, wShut, q1⟩ [⟨6, e0, q2⟩] L (L1 ++ [⟨5, wShut, q1⟩, ⟨6, e0, q2⟩]) := by
      refine ⟨a, L1, e', ea, rfl, ?_, he'6, rfl, ha⟩
      rw [ea, List.map_append] at g2
      exact (List.append_inj' g2 rfl).1
    have hopen : nextIs 5 wOpen (⟨5, bs [40], 0⟩ :: (L1 ++ [⟨5, wShut, q1⟩, ⟨6, e0, q2⟩]) : List Tk) = true := by simp [nextIs, wOpen]
    have n1 : nextIs 5 wMinus (⟨5, bs [40], 0⟩ :: (L1 ++ [⟨5, wShut, q1⟩, ⟨6, e0, q2⟩]) : List Tk) = false := by simp [nextIs, wMinus]
    have n2 : nextIs 1 wNOT (⟨5, bs [40], 0⟩ :: (L1 ++ [⟨5, wShut, q1⟩, ⟨6, e0, q2⟩]) : List Tk) = false := by simp [nextIs]
    rcases P_sim hP x [e] rfl 1 _ hts with ⟨r1', hp, hq⟩ | ⟨p, hp⟩
    · left
      obtain ⟨a2, a2', e2, f1, rfl, f3, f4, f5, f6⟩ := hq
      have ha2 : a2 = [] := by
        cases a2 with
        | nil => rfl
        | cons b a2 => simp at f1
      subst ha2
      have ha2' : a2' = [] := by simpa using f3.symm
      subst ha2'
      have hlast : P .last 0 (⟨5, bs [40], 0⟩ :: (L1 ++ [⟨5, wShut, q1⟩, ⟨6, e0, q2⟩])) (.ok x [⟨6, e0, q2⟩]) := .last_ok hopen (by decide) hp (by simp [nextIs])
      have hneg := P.neg_no n1 hlast
      have on : ∀ lo hi, opOf lo hi [⟨6, e0, q2⟩] = none := fun lo hi => by simp [opOf]
      have nn : ∀ s, nextIs 1 s [⟨6, e0, q2⟩] = false := fun s => by simp [nextIs]
      have hcmp : P .cmp 0 _ (.ok x [⟨6, e0, q2⟩]) := .cmp_no (.left_ok (b := true) (.left_ok (b := false) hneg (.lmore_no (on _ _))) (.lmore_no (on _ _))) (on _ _)
      have m1 := P.more_no (b := false) (l := [x]) (o := 0) (nn (rowW false))
      rw [show rowK false = 16 from rfl, join_self (.inl rfl) hx hc] at m1
      have m2 := P.more_no (b := true) (l := [x]) (o := 0) (nn (rowW true))
      rw [show rowK true = 17 from rfl, join_self (.inr rfl) hx hc] at m2
      exact .ok hlex (.row_ok (b := true) (.row_ok (b := false) (.not_no n2 hcmp) m1) m2) hc rfl
    · right
      have hlast : P .last 0 (⟨5, bs [40], 0⟩ :: (L1 ++ [⟨5, wShut, q1⟩, ⟨6, e0, q2⟩])) (.bad 2 p) := .last_bad hopen (by decide) hp
      have hneg := P.neg_no n1 hlast
      exact ⟨p, .bad hlex (.row_bad (b := true) (.row_bad (b := false) (.not_no n2 (.cmp_bad (.left_bad (b := true) (.left_bad (b := false) hneg))))))⟩
end Go.Hx
namespace Go.Hx
theorem less_self (l : List UInt8) : Op.bytesLess l l = false := by
  induction l with
  | nil => rfl
  | cons c l ih => simp [Op.bytesLess, ih]
theorem c45 (a : Int) (H : Heap) (Q : Post) : E 45 [I a] H Q = Q (B false) H := by simp [f45_eq, i_neq, ob_some]
theorem c63 (a : Int) (H : Heap) (Q : Post) : E 63 [I a] H Q = Q (B false) H := by simp [f63_eq, i_neq, ob_some]
theorem c47 (a : ByteArray) (H : Heap) (Q : Post) : E 47 [S a] H Q = Q (B false) H := by simp [f47_eq, s_neq, ob_some]
theorem c24 (a : Int) (H : Heap) (Q : Post) : E 24 [I a, I a] H Q = Q (I 0) H := by
  have h : decide (a < a) = false := decide_eq_false (by omega)
  simp only [f24_eq, c45, i_lss, i_gtr, ob_some, h, cnd_f]
theorem c46 (a : Int) (H : Heap) (Q : Post) : E 46 [I a, I a] H Q = Q (I 0) H := by
  have h : decide (a < a) = false := decide_eq_false (by omega)
  simp only [f46_eq, c63, i_lss, i_gtr, ob_some, h, cnd_f]
theorem c26 (a : ByteArray) (H : Heap) (Q : Post) : E 26 [S a, S a] H Q = Q (I 0) H := by
  have h1 : (!(Op.bytesLess a.toList a.toList || a.toList == a.toList)) = false := by simp
  simp only [f26_eq, c47, s_lss, s_gtr, ob_some, less_self, h1, cnd_f]
  have h2 : (!(false || a.toList == a.toList)) = false := by simp
  simp only [h2, cnd_f]
theorem c25 (v : Vl) (H : Heap) (Q : Post) : E 25 [encV v, encV v] H Q = Q (I 0) H := by
  have h0 : sizedA 3 (encV v) = some [I v.k, I v.n, S v.s] := rfl
  have z : (!decide ((0 : Int) = 0)) = false := rfl
  simp only [f25_eq, h0, part_f, ob_some, c24, c46, c26, i_neq, decide_true, Bool.not_true, cnd_f, List.getElem?_cons_zero, List.getElem?_cons_succ]
theorem c23 (H : Heap) (Q : Post) : E 23 [.sl 1 false .full [I 0, I 0, I 0, I 0, I 0]] H Q = Q (I 0) H := by
  have hl : lenA (.sl 1 false .full [I 0, I 0, I 0, I 0, I 0]) = some (I 5) := rfl
  have hx : ∀ i : Nat, i < 5 → ixaA 1 (.sl 1 false .full [I 0, I 0, I 0, I 0, I 0]) (I i) = some [I 0] := fun i hi => by
    match i, hi with
    | 0, _ | 1, _ | 2, _ | 3, _ | 4, _ => rfl
    | n + 5, h => exact absurd h (by omega)
  have z : (!decide ((0 : Int) = 0)) = false := rfl
  have step : ∀ (m i : Nat), i + m = 5 → f23_l8 (I 0) (.sl 1 false .full [I 0, I 0, I 0, I 0, I 0]) (I 5) (I i) H Q = Q (I 0) H := by
    intro m
    induction m with
    | zero =>
      intro i e
      have : decide ((i : Int) < 5) = false := decide_eq_false (by omega)
      rw [f23_l8_eq, i_lss, ob_some, this, cnd_f]
    | succ m ih =>
      intro i e
      have : decide ((i : Int) < 5) = true := decide_eq_true (by omega)
      rw [f23_l8_eq, i_lss, ob_some, this, cnd_t, hx i (by omega), ob_some, part_f, List.getElem?_cons_zero, ob_some, i_neq, ob_some, z, cnd_f, i_add, ob_some, w64_succ (n := 5) (by omega) (by omega)]
      exact ih (i + 1) (by omega)
  rw [f23_eq, hl, ob_some]
  exact step 5 0 rfl
theorem mk5 : mkSlA 1 [I 0, I 0, I 0, I 0, I 0] = some (.sl 1 false .full [I 0, I 0, I 0, I 0, I 0]) := rfl
theorem q4X (x : Ex) : partA false 4 1 (encC x) = some (S x.var) := by rw [encC_eq]; rfl
theorem q5X (x : Ex) : partA false 5 1 (encC x) = some (S x.fld) := by rw [encC_eq]; rfl
theorem q6X' (x : Ex) : partA false 6 1 (encC x) = some (encXs x.sz x.nil x.tip x.l) := by rw [encC_eq]; rfl
theorem q0X' (x : Ex) : partA false 0 1 (encC x) = some (I x.k) := by rw [encC_eq]; rfl
theorem same_fields {x y : Ex} (h : norm x = norm y) : x.k = y.k ∧ x.v = y.v ∧ x.var = y.var ∧ x.fld = y.fld ∧ x.l.map norm = y.l.map norm := by
  rw [norm_eq, norm_eq y] at h
  simp only [nd, Ex.mk.injEq] at h
  exact ⟨h.1, h.2.1, h.2.2.1, h.2.2.2.1, h.2.2.2.2.2.2.2⟩
theorem same_len {x y : Ex} (h : norm x = norm y) : x.l.length = y.l.length := by
  have := congrArg List.length (same_fields h).2.2.2.2
  simpa using this
theorem c16 {x y : Ex} (h : norm x = norm y) (H : Heap) (Q : Post) : E 16 [encX x, encX y] H Q = Q (I 0) H := by
  obtain ⟨h1, h2, h3, h4, _⟩ := same_fields h
  have h5 := same_len h
  simp only [f16_eq, szX, ob_some, q0X', partXV, q4X, q5X, q6X', lenX, h1, h2, h3, h4, h5, c24, c25, c26, mk5, c23]
theorem get_split {l pre r : List Ex} {x : Ex} (e : l = pre ++ x :: r) : l[pre.length]? = some x := by rw [e]; simp
theorem c11 (x : Ex) : ∀ (y : Ex), norm x = norm y → sizeX x ≤ 1099511627776 → ∀ (H : Heap) (Q : Post), E 11 [encX x, encX y] H Q = Q (I 0) H := by
  induction x using Ex.ind with
  | h x ih =>
    intro y h hs H Q
    have z : (!decide ((0 : Int) = 0)) = false := rfl
    have hln := same_len h
    have hmap := (same_fields h).2.2.2.2
    have hsx := sizeX_eq x
    have hll := len_sizeXs x.l
    have loop : ∀ (r pre : List Ex) (r' pre' : List Ex), x.l = pre ++ r → y.l = pre' ++ r' → pre.length = pre'.length → r.map norm = r'.map norm → f11_l16 (encC y) (encXs x.sz x.nil x.tip x.l) (I x.l.length) (I pre.length) H Q = Q (I 0) H := by
      intro r
      induction r with
      | nil =>
        intro pre r' pre' e e' hp _
        have hlt : (pre.length : Int) = x.l.length := by rw [e]; simp
        rw [f11_l16_eq, i_lss, ob_some, cnd_B, hlt]
        simp
      | cons a r ihr =>
        intro pre r' pre' e e' hp hm
        cases r' with
        | nil => simp at hm
        | cons b r' =>
          simp only [List.map_cons, List.cons.injEq] at hm
          have hlt : pre.length < x.l.length := by rw [e]; simp
          have hlt' : (pre.length : Int) < x.l.length := by omega
          have ham : a ∈ x.l := by rw [e]; simp
          have hsa : sizeX a ≤ sizeXs x.l := by rw [e, sizeXs_append]; simp only [sizeXs]; omega
          have hxb : ixaA 7 (encXs y.sz y.nil y.tip y.l) (I pre.length) = some (encC b) := by rw [hp]; exact ixX y.l y.sz y.nil y.tip pre' r' b e'
          rw [f11_l16_eq, i_lss, ob_some, cnd_B, if_pos (by simpa using hlt'), ixX x.l x.sz x.nil x.tip pre r a e, ob_some, partX, ob_some, szX, ob_some, splX, ob_some, partX, ob_some, q6X', ob_some, hxb, ob_some, partX, ob_some, ih a ham b hm.1 (by omega), i_neq, ob_some, z, cnd_f, i_add, ob_some, w64_succ hlt (by omega)]
          have := ihr (pre ++ [a]) r' (pre' ++ [b]) (by simp [e]) (by simp [e']) (by simp [hp]) hm.2
          rw [List.length_append, List.length_singleton] at this
          exact this
    rw [f11_eq, szX, ob_some, szX, ob_some, partX, ob_some, partX, ob_some, c16 h, i_neq, ob_some, z, cnd_f, q6X', ob_some, lenX, ob_some]
    exact loop x.l [] y.l [] rfl rfl rfl hmap
theorem c6 {x y : Ex} (h : norm x = norm y) (hs : sizeX x ≤ 1099511627776) (H : Heap) (Q : Post) : E 6 [encX x, encX y] H Q = Q (B true) H := by
  have z : decide ((0 : Int) = 0) = true := rfl
  rw [f6_eq, szX, ob_some, szX, ob_some, partX, ob_some, partX, ob_some, c11 x y h hs, i_eql, ob_some, z]
/-! ### The document's -/
end Go.Hx
namespace Go.Hx
theorem wf_rng {n : Int} (h : (Lit.int .i64 n).wf = true) : rng n := by
  have : -9223372036854775808 ≤ n ∧ n ≤ 9223372036854775807 := by simpa [Lit.wf, IntKind.min, IntKind.max, IntKind.signed, IntKind.bits] using h
  exact this
theorem map_of2 {α : Type} {f : α → AV} {p : α → Prop} : ∀ (xs : List AV), (∀ x ∈ xs, ∃ y, x = f y ∧ p y) → ∃ l : List α, xs = l.map f ∧ ∀ y ∈ l, p y
  | [], _ => ⟨[], rfl, fun _ h => by cases h⟩
  | x :: xs, h => by
    obtain ⟨y, rfl, hy⟩ := h x (by simp)
    obtain ⟨l, rfl, hl⟩ := map_of2 xs (fun z hz => h z (by simp [hz]))
    exact ⟨y :: l, rfl, fun z hz => by
      rcases List.mem_cons.1 hz with rfl | hz
      · exact hy
      · exact hl z hz⟩
def conjF : List Field → (Field → Prop) → Prop
  | [], _ => True
  | f :: r, p => p f ∧ conjF r p
theorem conjF_of : ∀ (l : List Field) (p : Field → Prop), (∀ f ∈ l, p f) → conjF l p
  | [], _, _ => trivial
  | f :: r, p, h => ⟨h f (by simp), conjF_of r p (fun g hg => h g (by simp [hg]))⟩
def StrT (P : Program) (n : Nat) (t : TypeId) (cs : List AV) : Prop :=
  match P.underlying t with
  | some (.struct fs) => cs.length = P.cellsOf t ∧ conjF fs.toList fun f => HasT P n f.type ((cs.drop f.offset).take (P.cellsOf f.type))
  | _ => True
theorem HasT.str {P : Program} {n : Nat} {t : TypeId} {cs : List AV} (h : HasT P (n + 1) t cs) : StrT P n t cs := by
  unfold StrT
  split
  · rename_i fs hu
    simp only [HasT, hu] at h
    exact ⟨h.1, conjF_of _ _ h.2⟩
  · trivial
theorem has_int {n : Nat} {cs : List AV} (t : TypeId) (ht : t = 3 ∨ t = 2) (h : HasT Pg n t cs) : ∃ i, cs = [I i] ∧ rng i := by
  cases n with
  | zero => exact h.elim
  | succ n =>
    have e : HasT Pg (n + 1) t cs = ∃ i, cs = [.raw (.int .i64 i)] ∧ (Lit.int .i64 i).wf = true := by rcases ht with rfl | rfl <;> kernel_rfl
    rw [e] at h
    obtain ⟨i, h1, h2⟩ := h
    exact ⟨i, h1, wf_rng h2⟩
theorem has_S {n : Nat} {cs : List AV} (h : HasT Pg n 9 cs) : ∃ s, cs = [S s] := by
  cases n with
  | zero => exact h.elim
  | succ n =>
    have e : HasT Pg (n + 1) 9 cs = ∃ s : ByteArray, cs = [S s] ∧ s.size ≤ maxLen := by kernel_rfl
    rw [e] at h; obtain ⟨s, h, _⟩ := h; exact ⟨s, h⟩
theorem has_V {n : Nat} {cs : List AV} (h : HasT Pg n 23 cs) : ∃ v : Vl, cs = [I v.k, I v.n, S v.s] ∧ vr v := by
  cases n with
  | zero => exact h.elim
  | succ n =>
    have h := h.str
    have e : StrT Pg n 23 cs = (cs.length = 3 ∧ (HasT Pg n 3 ((cs.drop 0).take 1) ∧ (HasT Pg n 2 ((cs.drop 1).take 1) ∧ (HasT Pg n 9 ((cs.drop 2).take 1) ∧ True)))) := by kernel_rfl
    rw [e] at h
    obtain ⟨hl, h1, h2, h3, _⟩ := h
    match cs, hl with
    | [a, b, c], _ =>
      obtain ⟨i, hi, wi⟩ := has_int 3 (.inl rfl) h1
      obtain ⟨j, hj, wj⟩ := has_int 2 (.inr rfl) h2
      obtain ⟨s, hs⟩ := has_S h3
      simp at hi hj hs
      exact ⟨⟨i, j, s⟩, by simp [hi, hj, hs], wj⟩
theorem has_X : ∀ (n : Nat) {cs : List AV}, HasT Pg n 26 cs → ∃ x : Ex, cs = encC x ∧ allX vX x := by
  intro n
  induction n using Nat.strongRecOn with
  | _ n ih =>
    intro cs h
    cases n with
    | zero => exact h.elim
    | succ n =>
      have h := h.str
      have e : StrT Pg n 26 cs = (cs.length = 7 ∧ (HasT Pg n 3 ((cs.drop 0).take 1) ∧ (HasT Pg n 23 ((cs.drop 1).take 3) ∧ (HasT Pg n 9 ((cs.drop 4).take 1) ∧ (HasT Pg n 9 ((cs.drop 5).take 1) ∧ (HasT Pg n 24 ((cs.drop 6).take 1) ∧ True)))))) := by kernel_rfl
      rw [e] at h
      obtain ⟨hl, h1, h2, h3, h4, h5, _⟩ := h
      match cs, hl with
      | [a, b, c, d, e, f, g], _ =>
        obtain ⟨i, hi, wi⟩ := has_int 3 (.inl rfl) h1
        obtain ⟨v, hv, wv⟩ := has_V h2
        obtain ⟨s, hs⟩ := has_S h3
        obtain ⟨s', hs'⟩ := has_S h4
        simp at hi hv hs hs' h5
        obtain ⟨rfl, rfl, rfl⟩ := hv
        subst hi hs hs'
        cases n with
        | zero => exact h5.elim
        | succ m =>
          have e : HasT Pg (m + 1) 24 [g] = ([g] = [AV.sl 7 true .full []] ∨ ∃ xs : List AV, [g] = [AV.sl 7 false .any xs] ∧ ∀ x ∈ xs, ∃ c, x = packA Pg 26 c ∧ HasT Pg m 26 c) := by kernel_rfl
          rw [e] at h5
          rcases h5 with hg | ⟨xs, hg, hall⟩
          · simp at hg; subst hg
            exact ⟨.mk i v s s' 7 true .full [], by simp [encC, encCs], by rw [allX_eq]; exact ⟨wv, trivial⟩⟩
          · simp at hg; subst hg
            obtain ⟨l, rfl, hlv⟩ := map_of2 (f := encX) (p := allX vX) xs (fun x hx => by
              obtain ⟨c, rfl, hc⟩ := hall x hx
              obtain ⟨y, rfl, hy⟩ := ih m (by omega) hc
              exact ⟨y, by kernel_rfl, hy⟩)
            exact ⟨.mk i v s s' 7 false .any l, by simp [encC, encCs_map], by rw [allX_eq]; exact ⟨wv, allXs_of hlv⟩⟩
theorem has_Xs {n : Nat} {cs : List AV} (h : HasT Pg n 24 cs) : ∃ nil tip l, cs = [encXs 7 nil tip l] ∧ ∀ x ∈ l, allX vX x := by
  cases n with
  | zero => exact h.elim
  | succ n =>
    have e : HasT Pg (n + 1) 24 cs = (cs = [.sl 7 true .full []] ∨ ∃ xs : List AV, cs = [.sl 7 false .any xs] ∧ ∀ x ∈ xs, ∃ c, x = packA Pg 26 c ∧ HasT Pg n 26 c) := by kernel_rfl
    rw [e] at h
    rcases h with rfl | ⟨xs, rfl, h⟩
    · exact ⟨true, .full, [], rfl, fun x hx => by cases hx⟩
    · obtain ⟨l, rfl, hl⟩ := map_of2 (f := encX) (p := allX vX) xs (fun x hx => by
        obtain ⟨c, rfl, hc⟩ := h x hx
        obtain ⟨y, rfl, hy⟩ := has_X n hc
        exact ⟨y, by kernel_rfl, hy⟩)
      exact ⟨false, .any, l, rfl, hl⟩
/-! ### Small enough by its size -/
theorem sz_X (x : Ex) : sizeX x ≤ szL (encC x) ∧ (szL (encC x) ≤ 1048576 → allX okX x) := by
  induction x using Ex.ind with
  | h x ih =>
    have hs : ∀ (l : List Ex), (∀ y ∈ l, y ∈ x.l) → sizeXs l ≤ szL (l.map encX) ∧ (szL (l.map encX) ≤ 1048576 → allXs okX l) := by
      intro l
      induction l with
      | nil => intro _; simp [sizeXs, szL, allXs]
      | cons y r ihr =>
        intro hy
        obtain ⟨a1, a2⟩ := ihr (fun z hz => hy z (by simp [hz]))
        obtain ⟨b1, b2⟩ := ih y (hy y (by simp))
        simp only [sizeXs, List.map_cons, szL, encX, szA, allXs]
        exact ⟨by omega, fun h => ⟨b2 (by omega), a2 (by omega)⟩⟩
    obtain ⟨h1, h2⟩ := hs x.l (fun _ h => h)
    rw [sizeX_eq, allX_eq, encC_eq]
    have hl := length_le_szL (x.l.map encX)
    rw [List.length_map] at hl
    simp only [szL, szA, I, S, encXs]
    refine ⟨by omega, fun h => ⟨⟨by omega, by omega, by omega⟩, h2 (by omega)⟩⟩
theorem sz_Xs (l : List Ex) : sizeXs l ≤ szL (l.map encX) ∧ (szL (l.map encX) ≤ 1048576 → ∀ x ∈ l, allX okX x) := by
  induction l with
  | nil => simp [sizeXs, szL]
  | cons y r ih =>
    obtain ⟨b1, b2⟩ := sz_X y
    simp only [sizeXs, List.map_cons, szL, encX, szA]
    refine ⟨by omega, fun h x hx => ?_⟩
    rcases List.mem_cons.1 hx with rfl | hx
    · exact b2 (by omega)
    · exact ih.2 (by omega) x hx
end Go.Hx
namespace Go.Hx
theorem lawParen (s : ByteArray) (hsz : s.size ≤ 1048576) (H : Heap) (Q : Post) (hq : ∀ H', HExt H H' → Q (B true) H') : E 3 [S s] H Q := by
  have d0 : decide ((0 : Int) = 0) = true := rfl
  have fin : ∀ H1, HExt H H1 → E 5 [] H1 (fun r H2 => Q r H2) := fun H1 h1 => c5 H1 _ (fun H2 h2 => hq H2 (h1.trans h2))
  obtain ⟨R, hR⟩ := TextR_total s
  rw [f3_eq]
  refine c4 s (by omega) H _ hR ?_
  cases R with
  | bad p e =>
    intro H1 h1
    simp only [x3_0, x3_1, x3_2, ob_some, szX, splX, i_neq, decide_eq_false (TextR_ne hR), Bool.not_false, cnd_t]
    rw [f3_j7_eq, cnd_t]
    exact fin H1 h1
  | ok x =>
    intro y H1 h1 hy hys hgy hc hsy
    simp only [x3_0, x3_1, x3_2, ob_some, szX, splX, i_neq, decide_true, Bool.not_true, cnd_f, len_S, i_gtr]
    rw [f3_j7_eq]
    refine cnd_intro (fun _ => fin H1 h1) (fun hg => ?_)
    have hle : s.size ≤ 8190 := by simp at hg; omega
    have hS : S s = strT (tx s) := by show S s = S (bs (tx s)); rw [bs_tx]
    have hl : (tx s).length = s.size := size_list s
    have e1 : binA Pg .add 9 true (S ⟨#[40]⟩) (S s) = some (strT (40 :: tx s)) := by
      rw [hS]; exact s_add [40] (tx s) 9 true (by simp; omega)
    have e2 : binA Pg .add 9 true (strT (40 :: tx s)) (S ⟨#[41]⟩) = some (S (parS s)) := by
      refine (s_add (40 :: tx s) [41] 9 true (by simp; omega)).trans ?_
      rfl
    have hsz2 : (parS s).size = s.size + 2 := by
      have h1 : (tx (parS s)).length = (parS s).size := size_list _
      have h3 : tx (parS s) = 40 :: (tx s ++ [41]) := tx_bs _
      rw [← h1, h3, ← hl]; simp
    rw [e1, ob_some, e2, ob_some]
    rcases par_back hR hy hle with hT | ⟨p, hT⟩
    · refine c4 (parS s) (by omega) H1 _ hT (fun z H2 h2 hz _ _ _ hsz => ?_)
      have d2 : decide ((0 : Int) = 2) = false := rfl
      have hadd : W64 ((s.size : Int) + 2) = ((s.size + 2 : Nat) : Int) := by rw [w64_id (by omega) (by omega)]; omega
      have dl : decide (((s.size + 2 : Nat) : Int) = ((s.size + 2 : Nat) : Int)) = true := decide_eq_true rfl
      rw [x3_0, ob_some, x3_1, ob_some, x3_2, ob_some, szX, ob_some, splX, ob_some, i_eql, ob_some, d2, cnd_f, i_eql, ob_some, d0, cnd_t, len_S, ob_some, i_add, ob_some, hadd, hsz2, i_eql, ob_some, dl, f3_c7_9a_eq, cnd_t, partX, ob_some, partX, ob_some, c6 (by rw [hy, hz]) (by omega), f3_c7_14a_eq, cnd_t]
      refine c5 H2 _ (fun H3 h3 => ?_)
      rw [f3_c7_17a_eq, f3_j24_eq]
      exact hq H3 ((h1.trans h2).trans h3)
    · refine c4 (parS s) (by omega) H1 _ hT (fun H2 h2 => ?_)
      have d2 : decide ((2 : Int) = 2) = true := rfl
      rw [x3_0, ob_some, x3_1, ob_some, x3_2, ob_some, szX, ob_some, splX, ob_some, i_eql, ob_some, d2, cnd_t]
      exact fin H2 (h1.trans h2)
end Go.Hx
namespace Go.Hx
open Go.Proofs.Ytancdapnpceogaa
theorem bulkOf {H : Type} : Bulk (Rows.uptoBulk (H := H)) (Rows.uptoBulkAll (H := H)) :=
  ⟨fun l => by simp [Rows.uptoBulk], fun l => by simp [Rows.uptoBulk], fun k l => by simp [Rows.uptoBulk], by simp [Rows.uptoBulk], fun l r => by simp [Rows.uptoBulk], fun l => by simp [Rows.uptoBulk], by simp [Rows.uptoBulkAll], fun x l => by simp [Rows.uptoBulkAll]⟩
theorem pkOf : PK Pg := by
  refine ⟨fun f fn h => ?_, by kernel_rfl⟩
  have hall : (Pg.funcs.toList.all fun fn => !(fn.name == "runtime.NumGoroutine")) = true := by kernel_rfl
  have := List.all_eq_true.1 hall fn (List.mem_of_getElem? (i := f) (by simpa using h))
  simpa using this
theorem kidsOf : Kids Pg (· < Pg.types.size) := kids_rows (by kernel_rfl) (by kernel_rfl)
theorem oneOf : ∀ e, e < Pg.types.size → aggT Pg e = false → Pg.cellsOf e = 1 := by
  have h : ((List.range Pg.types.size).all fun e => aggT Pg e || Nat.beq (Pg.cellsOf e) 1) = true := by kernel_rfl
  intro e he ha
  have := List.all_eq_true.1 h e (List.mem_range.2 he)
  rw [ha, Bool.false_or] at this
  exact Nat.eq_of_beq_eq_true this
theorem fullOf : ∀ t e, t < Pg.types.size → Pg.underlying t = some (.slice e) → 0 < Pg.cellsOf e := slices_full_of Pg (by kernel_rfl)
theorem shutOf : shutT Pg [2, 3, 5, 9, 23, 24, 26] = true := by kernel_rfl
theorem own : ownKnob Pg.godebug = none := by kernel_rfl
end Go.Hx
