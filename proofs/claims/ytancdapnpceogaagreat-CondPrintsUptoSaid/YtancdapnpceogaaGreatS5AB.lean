/- Contracts: rows of parts, joined; numbers, fields, words. Own work. -/
import Derived.Test.YtancdapnpceogaaGreatS5AA
set_option maxRecDepth 20000
namespace Go.Hx
theorem encX_mk (k : Int) (v : Vl) (var fld : ByteArray) (s : Nat) (n : Bool) (t : Tip) (l : List Ex) : encX (.mk k v var fld s n t l) = .agg [I k, I v.k, I v.n, S v.s, S var, S fld, .sl s n t (l.map encX)] := by
  rw [encX, encC_eq]; rfl
def shX (x : Ex) : Prop := x.nil = true ∨ x.sz = 7
theorem allX_mk {p : Ex → Prop} (k : Int) (v : Vl) (a b : ByteArray) (s : Nat) (n : Bool) (t : Tip) (l : List Ex) : allX p (.mk k v a b s n t l) ↔ p (.mk k v a b s n t l) ∧ allXs p l := by simp [allX]
theorem sh_leaf (k : Int) (v : Vl) (a b : ByteArray) (s : Nat) (t : Tip) : allX shX (.mk k v a b s true t []) := (allX_mk _ _ _ _ _ _ _ _).2 ⟨.inl rfl, trivial⟩
theorem parts_cons (k : Int) (x : Ex) (l : List Ex) : partsJ k (x :: l) = (if x.k = k then x.l else [x]) ++ partsJ k l := by simp [partsJ]
theorem parts_len (k : Int) (l : List Ex) : (partsJ k l).length ≤ sizeXs l := Nat.le_trans (len_sizeXs _) (sizeXs_parts k l)
theorem parts_norm (k : Int) (l : List Ex) : partsJ k (l.map norm) = (partsJ k l).map norm := by
  induction l with
  | nil => rfl
  | cons x l ih =>
    rw [List.map_cons, parts_cons, parts_cons, ih, List.map_append, norm_k, norm_l]
    split <;> rfl
theorem parts_sh {k : Int} {l : List Ex} (h : ∀ x ∈ l, allX shX x) : ∀ x ∈ partsJ k l, allX shX x := fun x hx => by
  simp only [partsJ, List.mem_flatMap] at hx
  obtain ⟨y, hy, hx⟩ := hx
  split at hx
  · exact allXs_mem ((allX_eq _ _).1 (h y hy)).2 hx
  · simp at hx; subst hx; exact h _ hy
theorem mk1X (x : Ex) : mkSlA 7 [encX x] = some (.sl 7 false .full ([x].map encX)) := by
  simp [mkSlA, szX]
theorem mk2X (x y : Ex) : mkSlA 7 [encX x, encX y] = some (.sl 7 false .full ([x, y].map encX)) := by
  simp [mkSlA, szX]
theorem q6X (x : Ex) : partA false 6 1 (encC x) = some (encXs x.sz x.nil x.tip x.l) := by rw [encC_eq]; rfl
theorem q0X (x : Ex) : partA false 0 1 (encC x) = some (I x.k) := by rw [encC_eq]; rfl
theorem constb (v : Vl) : bldA [(0, 1, I 1), (1, 3, encV v)] [I 0, I 0, I 0, S ⟨#[]⟩, S ⟨#[]⟩, S ⟨#[]⟩, AV.sl 0 true .full []] = some (encX (.mk 1 v e0 e0 0 true .full [])) := by rw [encX_mk]; rfl
theorem rowb (k : Int) (s : Nat) (n : Bool) (t : Tip) (l : List Ex) : bldA [(0, 1, I k), (6, 1, .sl s n t (l.map encX))] [I 0, I 0, I 0, S ⟨#[]⟩, S ⟨#[]⟩, S ⟨#[]⟩, AV.sl 0 true .full []] = some (encX (.mk k nullV e0 e0 s n t l)) := by rw [encX_mk]; rfl
theorem norm_mkl (k : Int) (v : Vl) (a b : ByteArray) (s : Nat) (n : Bool) (t : Tip) (l : List Ex) : norm (.mk k v a b s n t l) = nd k v a b (l.map norm) := norm_mk _ _ _ _ _ _ _ _
/-- what is made of all parts -/
theorem join_end {H0 H : Heap} {k : Int} (hk : k = 16 ∨ k = 17) {Q : Post} (l : List Ex) {s : Nat} {n : Bool} {t : Tip} (hn : n = true ∨ s = 7) (hsh : ∀ x ∈ partsJ k l, allX shX x)
    (hq : ∀ y H', HExt H0 H' → norm y = joinE k (l.map norm) → allX shX y → Q (encX y) H') (he : HExt H0 H) (out : List Ex) (ho : out = partsJ k l) :
    (out = [] → Q (encX (.mk 1 (boolV (decide (k = 16))) e0 e0 0 true .full [])) H) ∧ (∀ x, out = [x] → Q (encX x) H) ∧ (2 ≤ out.length → Q (encX (.mk k nullV e0 e0 s n t out)) H) := by
  subst ho
  have hj : joinE k (l.map norm) = match (partsJ k l).map norm with | [] => nd 1 (boolV (decide (k = 16))) e0 e0 [] | [x] => x | out => nd k nullV e0 e0 out := by
    rw [joinE, parts_norm]
    generalize (partsJ k l).map norm = z
    rcases z with _ | ⟨a, _ | ⟨b, r⟩⟩ <;> rfl
  refine ⟨fun h => ?_, fun x h => ?_, fun h => ?_⟩
  · refine hq _ H he ?_ (sh_leaf _ _ _ _ _ _)
    rw [hj, h, norm_mkl]; rfl
  · refine hq x H he ?_ (hsh x (by rw [h]; simp))
    rw [hj, h]; rfl
  · refine hq _ H he ?_ ((allX_mk _ _ _ _ _ _ _ _).2 ⟨hn, allXs_of hsh⟩)
    rw [hj, norm_mkl]
    cases hp : partsJ k l with
    | nil => rw [hp] at h; simp at h
    | cons a r =>
      cases r with
      | nil => rw [hp] at h; simp at h
      | cons b r => rfl
theorem c186 (k : Int) (hk : k = 16 ∨ k = 17) (l : List Ex) (s : Nat) (n : Bool) (t : Tip) (hsh : ∀ x ∈ l, allX shX x) (hl : sizeXs l ≤ 1099511627776) (H0 : Heap) (Q : Post)
    (hq : ∀ y H', HExt H0 H' → norm y = joinE k (l.map norm) → allX shX y → Q (encX y) H') : E 186 [I k, .sl s n t (l.map encX)] H0 Q := by
  have hr : isRowP k = true := by rcases hk with rfl | rfl <;> rfl
  have hll := len_sizeXs l
  have loop : ∀ (r pre : List Ex) (H : Heap) (s' : Nat) (n' : Bool) (t' : Tip), l = pre ++ r → HExt H0 H → (n' = true ∨ s' = 7) → OwnS H0 H 7 (partsJ k pre).length t' →
      f186_l16 (I k) [I 0, I 0, I 0, S ⟨#[]⟩, S ⟨#[]⟩, S ⟨#[]⟩, AV.sl 0 true .full []] (.sl s' n' t' ((partsJ k pre).map encX)) (.sl s n t (l.map encX)) (I l.length) (I pre.length) H Q := by
    intro r
    induction r with
    | nil =>
      intro pre H s' n' t' e he hn ho
      rw [List.append_nil] at e
      subst e
      obtain ⟨h0, h1, h2⟩ := join_end hk l hn (parts_sh hsh) hq he (partsJ k l) rfl (s := s') (n := n') (t := t')
      have hlt : decide ((l.length : Int) < (l.length : Int)) = false := decide_eq_false (by omega)
      rw [f186_l16_eq, i_lss, ob_some, hlt, cnd_f, len_sl, ob_some, List.length_map, i_eql, ob_some]
      cases hp : partsJ k l with
      | nil =>
        rw [List.length_nil, show decide (((0 : Nat) : Int) = 0) = true from rfl, cnd_t, i_eql, ob_some, c251, constb, ob_some, szX, ob_some, splX, ob_some, partX, ob_some]
        exact h0 hp
      | cons a r =>
        have z0 : decide (((a :: r).length : Int) = 0) = false := decide_eq_false (by simp; omega)
        rw [z0, cnd_f, i_eql, ob_some]
        cases r with
        | nil =>
          have i0 : ixaA 7 (.sl s' n' t' (([a] : List Ex).map encX)) (I 0) = some (encC a) := ixX [a] s' n' t' [] [] a rfl
          rw [show decide ((([a] : List Ex).length : Int) = 1) = true from rfl, cnd_t, i0, ob_some, partX, ob_some, szX, ob_some, splX, ob_some, partX, ob_some]
          exact h1 a hp
        | cons b r =>
          have z1 : decide (((a :: b :: r).length : Int) = 1) = false := decide_eq_false (by simp; omega)
          rw [z1, cnd_f, rowb, ob_some, szX, ob_some, splX, ob_some, partX, ob_some, ← hp]
          exact h2 (by rw [hp]; simp)
    | cons x r ih =>
      intro pre H s' n' t' e he hn ho
      have hlt : pre.length < l.length := by rw [e]; simp
      have hlt' : decide ((pre.length : Int) < (l.length : Int)) = true := decide_eq_true (by omega)
      have hsz : (partsJ k (pre ++ [x])).length ≤ 1099511627776 := by
        have h1 : partsJ k l = partsJ k (pre ++ [x]) ++ partsJ k r := by rw [e]; simp [partsJ]
        have h2 := parts_len k l
        rw [h1, List.length_append] at h2; omega
      have hpx : partsJ k (pre ++ [x]) = partsJ k pre ++ (if x.k = k then x.l else [x]) := by simp [partsJ]
      have hx : allX shX x := hsh x (by rw [e]; simp)
      have next : ∀ (s2 : Nat) (n2 : Bool) (t2 : Tip) (H2 : Heap), (n2 = true ∨ s2 = 7) → HExt H0 H2 → OwnS H0 H2 7 (partsJ k (pre ++ [x])).length t2 →
          f186_j32 (I k) [I 0, I 0, I 0, S ⟨#[]⟩, S ⟨#[]⟩, S ⟨#[]⟩, AV.sl 0 true .full []] (.sl s2 n2 t2 ((partsJ k (pre ++ [x])).map encX)) (.sl s n t (l.map encX)) (I l.length) (I pre.length) H2 Q := fun s2 n2 t2 H2 hn2 he2 ho2 => by
        rw [f186_j32_eq, i_add, ob_some, w64_succ hlt (by omega)]
        have := ih (pre ++ [x]) H2 s2 n2 t2 (by rw [e]; simp) he2 hn2 ho2
        rw [List.length_append, List.length_singleton] at this
        exact this
      rw [f186_l16_eq, i_lss, ob_some, hlt', cnd_t]
      have hix : ixaA 7 (.sl s n t (l.map encX)) (I pre.length) = some (encC x) := ixX l s n t pre r x e
      rw [hix, ob_some, partX, ob_some, szX, ob_some, splX, ob_some, q0X, ob_some, i_eql, ob_some]
      rw [hpx, List.length_append] at hsz
      refine cnd_intro (fun h1 => ?_) (fun h1 => ?_)
      · have h1 : x.k = k := by simpa using h1
        rw [if_pos h1] at hpx hsz
        rw [q6X, ob_some]
        refine app_many he (by rw [List.length_map]; exact ho) hn ((allX_eq _ _).1 hx).1 (by omega) (by simp only [List.length_map]; omega) (fun s2 n2 t2 H2 hn2 he2 ho2 => ?_)
        rw [← List.map_append, ← hpx] at ho2 ⊢
        rw [List.length_map] at ho2
        exact next s2 n2 t2 H2 hn2 he2 ho2
      · have h1 : x.k ≠ k := by simpa using h1
        rw [if_neg h1] at hpx hsz
        have hm := mk1X x
        rw [partX, ob_some, hm, ob_some]
        refine app_many he (by rw [List.length_map]; exact ho) hn (.inr rfl) (by omega) (by simp only [List.length_map]; omega) (fun s2 n2 t2 H2 hn2 he2 ho2 => ?_)
        rw [← List.map_append, ← hpx] at ho2 ⊢
        rw [List.length_map] at ho2
        exact next s2 n2 t2 H2 hn2 he2 ho2
  rw [f186_eq, c125, hr, not_B, ob_some, Bool.not_true, cnd_f, len_sl, ob_some, List.length_map]
  exact loop l [] H0 0 true .full rfl (HExt.refl H0) (.inl rfl) trivial
theorem c257 (b : Bool) (H : Heap) (Q : Post) : E 257 [B b] H Q = Q (encV (boolV b)) H := by
  cases b <;> simp [f257_eq, ob_some, cnd_t, cnd_f, bldA, sizedA, spliceA, partA, cellsA, I, encV, boolV]
theorem c189 (k : Int) (hk : k = 16 ∨ k = 17) (l : List Ex) (s : Nat) (n : Bool) (t : Tip) (hsh : ∀ x ∈ l, allX shX x) (hl : sizeXs l ≤ 1099511627776) (H0 : Heap) (Q : Post)
    (hq : ∀ y H', HExt H0 H' → norm y = joinE k (l.map norm) → allX shX y → Q (encX y) H') : E 189 [I k, .sl s n t (l.map encX)] H0 Q := by
  have hll := len_sizeXs l
  have loop : ∀ (r pre : List Ex) (H : Heap) (s' : Nat) (n' : Bool) (t' : Tip), l = pre ++ r → HExt H0 H → (n' = true ∨ s' = 7) → OwnS H0 H 7 (partsJ k pre).length t' →
      f189_l16 (I k) (.sl s n t (l.map encX)) [I 0, I 0, I 0, S ⟨#[]⟩, S ⟨#[]⟩, S ⟨#[]⟩, AV.sl 0 true .full []] (.sl s' n' t' ((partsJ k pre).map encX)) (I pre.length) H Q := by
    intro r
    induction r with
    | nil =>
      intro pre H s' n' t' e he hn ho
      rw [List.append_nil] at e
      subst e
      obtain ⟨h0, h1, h2⟩ := join_end hk l hn (parts_sh hsh) hq he (partsJ k l) rfl (s := s') (n := n') (t := t')
      have hlt : decide ((l.length : Int) < (l.length : Int)) = false := decide_eq_false (by omega)
      rw [f189_l16_eq, len_sl, ob_some, List.length_map, i_lss, ob_some, hlt, cnd_f, len_sl, ob_some, List.length_map, i_eql, ob_some]
      cases hp : partsJ k l with
      | nil =>
        rw [List.length_nil, show decide (((0 : Nat) : Int) = 1) = false from rfl, cnd_f, ob_some, i_eql, ob_some, show decide (((0 : Nat) : Int) = 0) = true from rfl, cnd_t, i_eql, ob_some, c257, constb, ob_some, szX, ob_some, splX, ob_some, partX, ob_some]
        exact h0 hp
      | cons a r =>
        cases r with
        | nil =>
          have i0 : ixaA 7 (.sl s' n' t' (([a] : List Ex).map encX)) (I 0) = some (encC a) := ixX [a] s' n' t' [] [] a rfl
          rw [show decide ((([a] : List Ex).length : Int) = 1) = true from rfl, cnd_t, i0, ob_some, partX, ob_some, szX, ob_some, splX, ob_some, partX, ob_some]
          exact h1 a hp
        | cons b r =>
          have z0 : decide (((a :: b :: r).length : Int) = 0) = false := decide_eq_false (by simp; omega)
          have z1 : decide (((a :: b :: r).length : Int) = 1) = false := decide_eq_false (by simp; omega)
          rw [z1, cnd_f, ob_some, i_eql, ob_some, z0, cnd_f, rowb, ob_some, szX, ob_some, splX, ob_some, partX, ob_some, ← hp]
          exact h2 (by rw [hp]; simp)
    | cons x r ih =>
      intro pre H s' n' t' e he hn ho
      have hlt : pre.length < l.length := by rw [e]; simp
      have hlt' : decide ((pre.length : Int) < (l.length : Int)) = true := decide_eq_true (by omega)
      have hsz : (partsJ k (pre ++ [x])).length ≤ 1099511627776 := by
        have h1 : partsJ k l = partsJ k (pre ++ [x]) ++ partsJ k r := by rw [e]; simp [partsJ]
        have h2 := parts_len k l
        rw [h1, List.length_append] at h2; omega
      have hpx : partsJ k (pre ++ [x]) = partsJ k pre ++ (if x.k = k then x.l else [x]) := by simp [partsJ]
      have hx : allX shX x := hsh x (by rw [e]; simp)
      have next : ∀ (s2 : Nat) (n2 : Bool) (t2 : Tip) (H2 : Heap), (n2 = true ∨ s2 = 7) → HExt H0 H2 → OwnS H0 H2 7 (partsJ k (pre ++ [x])).length t2 →
          f189_j30 (I k) (.sl s n t (l.map encX)) [I 0, I 0, I 0, S ⟨#[]⟩, S ⟨#[]⟩, S ⟨#[]⟩, AV.sl 0 true .full []] (.sl s2 n2 t2 ((partsJ k (pre ++ [x])).map encX)) (I pre.length) H2 Q := fun s2 n2 t2 H2 hn2 he2 ho2 => by
        rw [f189_j30_eq, i_add, ob_some, w64_succ hlt (by omega)]
        have := ih (pre ++ [x]) H2 s2 n2 t2 (by rw [e]; simp) he2 hn2 ho2
        rw [List.length_append, List.length_singleton] at this
        exact this
      have d6 : partA false 0 1 ((encC x).drop 6) = some (encXs x.sz x.nil x.tip x.l) := by rw [encC_eq]; rfl
      have hix : ixaA 7 (.sl s n t (l.map encX)) (I pre.length) = some (encC x) := ixX l s n t pre r x e
      rw [f189_l16_eq, len_sl, ob_some, List.length_map, i_lss, ob_some, hlt', cnd_t, hix, ob_some, List.drop_zero, q0X, ob_some, i_eql, ob_some]
      rw [hpx, List.length_append] at hsz
      refine cnd_intro (fun h1 => ?_) (fun h1 => ?_)
      · have h1 : x.k = k := by simpa using h1
        rw [if_pos h1] at hpx hsz
        rw [ob_some, d6, ob_some]
        refine app_many he (by rw [List.length_map]; exact ho) hn ((allX_eq _ _).1 hx).1 (by omega) (by simp only [List.length_map]; omega) (fun s2 n2 t2 H2 hn2 he2 ho2 => ?_)
        rw [← List.map_append, ← hpx] at ho2 ⊢
        rw [List.length_map] at ho2
        exact next s2 n2 t2 H2 hn2 he2 ho2
      · have h1 : x.k ≠ k := by simpa using h1
        rw [if_neg h1] at hpx hsz
        have hm := mk1X x
        rw [ob_some, partX, ob_some, hm, ob_some]
        refine app_many he (by rw [List.length_map]; exact ho) hn (.inr rfl) (by omega) (by simp only [List.length_map]; omega) (fun s2 n2 t2 H2 hn2 he2 ho2 => ?_)
        rw [← List.map_append, ← hpx] at ho2 ⊢
        rw [List.length_map] at ho2
        exact next s2 n2 t2 H2 hn2 he2 ho2
  have go : f189_j5 (I k) (.sl s n t (l.map encX)) [I 0, I 0, I 0, S ⟨#[]⟩, S ⟨#[]⟩, S ⟨#[]⟩, AV.sl 0 true .full []] (B false) H0 Q := by
    rw [f189_j5_eq, cnd_f]
    exact loop l [] H0 0 true .full rfl (HExt.refl H0) (.inl rfl) trivial
  rw [f189_eq, i_neq, ob_some]
  rcases hk with rfl | rfl
  · exact go
  · exact go
end Go.Hx
