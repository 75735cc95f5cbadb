/- Contracts of layers 17, 19: how often, the items. Own work. -/
import Derived.Test.YtpmkfliolekedaaGreatS4X
set_option maxRecDepth 20000
namespace Go.Hx
/-! ### How often -/
def quantT (ex : Bool) (lo hi : Int) : List UInt8 :=
  if lo = 1 ∧ hi = 0 then [43] else 123 :: (numT lo ++ ((if ex = false ∨ lo ≠ hi then 44 :: (if hi = 0 then [] else numT hi) else []) ++ [125]))
theorem many_hi {x : Pa} (h : rightT x = true) (h5 : x.k = 5) : 0 ≤ x.hi ∧ x.hi ≤ 1000 := by
  have h1 : ¬ (x.k = 1 ∨ x.k = 6) := by omega
  simp only [rightT, if_neg h1, if_pos h5, Bool.and_eq_true] at h
  have h := h.2
  simp only [countT] at h
  split at h
  · cases h
  · split at h
    · omega
    · simp at h; omega
theorem quantT_len (ex : Bool) {lo hi : Int} (h1 : rng lo) (h2 : rng hi) : (quantT ex lo hi).length ≤ 43 := by
  have a1 := numT_len h1
  have a2 := numT_len h2
  simp only [quantT]
  split
  · simp
  · simp only [List.length_cons, List.length_append, List.length_nil]
    split
    · simp only [List.length_cons]
      split
      · simp only [List.length_nil]; omega
      · omega
    · simp only [List.length_nil]; omega
theorem c73 (x : Pa) (ex : Bool) (h5 : x.k = 5) (h1 : rng x.lo) (h2 : rng x.hi) (b : Nat) (H0 H : Heap) (t : List UInt8) (Q : Post) (h : Bld H0 b t H) (hl : t.length + 100 ≤ 140737488355328)
    (hq : ∀ H', Bld H0 b (t ++ quantT ex x.lo x.hi) H' → Q (.tup []) H') : E 73 [Pt b, encT x, B ex] H Q := by
  have a1 := numT_len h1
  have a2 := numT_len h2
  have d5 : decide (x.k = 5) = true := decide_eq_true h5
  rw [f73_eq, szT, ob_some, part_f, p0T, ob_some, i_neq, ob_some, d5, Bool.not_true, cnd_f, part_f, p3T, ob_some, i_eql, ob_some]
  simp only [quantT] at hq
  have j22 : ∀ (c : Bool) (t : List UInt8) (H : Heap), Bld H0 b t H → t.length + 50 ≤ 140737488355328 → (∀ H', Bld H0 b (t ++ ((if c = true then 44 :: (if x.hi = 0 then [] else numT x.hi) else []) ++ [125])) H' → Q (.tup []) H') → f73_j22 (Pt b) (encTC x) (B c) H Q := fun c t H h hl hq => by
    rw [f73_j22_eq]
    refine cnd_intro (fun g => ?_) (fun g => ?_)
    · rw [if_pos g] at hq
      refine put1 [44] b H0 H t _ h (by simp only [List.length_singleton]; omega) (fun H1 h1 => ?_)
      rw [part_f, p4T, ob_some, i_neq, ob_some]
      refine cnd_intro (fun g2 => ?_) (fun g2 => ?_)
      · rw [if_neg (by simpa using g2)] at hq
        rw [ob_some]
        refine c67 b x.hi h2 H0 H1 _ _ h1 (by simp only [List.length_append, List.length_singleton]; omega) (fun H2 h2 => ?_)
        exact put1 [125] b H0 H2 _ _ h2 (by simp only [List.length_append, List.length_singleton]; omega) (fun H3 h3 => hq H3 (by simpa using h3))
      · rw [if_pos (by simpa using g2)] at hq
        exact put1 [125] b H0 H1 _ _ h1 (by simp only [List.length_append, List.length_singleton]; omega) (fun H3 h3 => hq H3 (by simpa using h3))
    · rw [if_neg (by rw [g]; simp)] at hq
      exact put1 [125] b H0 H t _ h (by simp only [List.length_singleton]; omega) (fun H3 h3 => hq H3 (by simpa using h3))
  have j10 : ∀ c : Bool, c = decide (x.lo = 1 ∧ x.hi = 0) → f73_j10 (Pt b) (B ex) (encTC x) (B c) H Q := fun c hc => by
    rw [f73_j10_eq]
    refine cnd_intro (fun g => ?_) (fun g => ?_)
    · have g : x.lo = 1 ∧ x.hi = 0 := by rw [g] at hc; simpa using hc.symm
      rw [if_pos g] at hq
      exact put1 [43] b H0 H t _ h (by simp only [List.length_singleton]; omega) (fun H1 h1 => hq H1 h1)
    · have g : ¬ (x.lo = 1 ∧ x.hi = 0) := by rw [g] at hc; simpa using hc.symm
      rw [if_neg g] at hq
      refine put1 [123] b H0 H t _ h (by simp only [List.length_singleton]; omega) (fun H1 h1' => ?_)
      rw [part_f, p3T, ob_some]
      refine c67 b x.lo h1 H0 H1 _ _ h1' (by simp only [List.length_append, List.length_singleton]; omega) (fun H2 h2' => ?_)
      rw [not_B, ob_some]
      refine cnd_intro (fun g2 => ?_) (fun g2 => ?_)
      · have g2 : ex = false := by simpa using g2
        refine j22 true _ H2 h2' (by simp only [List.length_append, List.length_singleton]; omega) (fun H3 h3 => hq H3 ?_)
        rw [if_pos (.inl g2)]
        simpa using h3
      · have g2 : ex = true := by simpa using g2
        rw [ob_some, part_f, p4T, ob_some, i_neq, ob_some]
        refine j22 _ _ H2 h2' (by simp only [List.length_append, List.length_singleton]; omega) (fun H3 h3 => hq H3 ?_)
        by_cases hlh : x.lo = x.hi
        · rw [if_neg (by rw [g2, hlh]; simp)]
          simpa [hlh] using h3
        · rw [if_pos (.inr hlh)]
          simpa [hlh] using h3
  refine cnd_intro (fun g => ?_) (fun g => ?_)
  · rw [part_f, p4T, ob_some, i_eql, ob_some]
    exact j10 _ (by simp at g; simp [g])
  · exact j10 false (by simp at g; simp [g])
theorem c73n (x : Pa) (ex : Bool) (h5 : x.k ≠ 5) (b : Nat) (H : Heap) (Q : Post) (hq : Q (.tup []) H) : E 73 [Pt b, encT x, B ex] H Q := by
  have d5 : decide (x.k = 5) = false := decide_eq_false h5
  rw [f73_eq, szT, ob_some, part_f, p0T, ob_some, i_neq, ob_some, d5, Bool.not_false, cnd_t]
  exact hq
theorem c75 (x : Pa) (ex : Bool) (h5 : x.k = 5) (hlo : 1 ≤ x.lo ∧ x.lo ≤ 1000) (h2 : rng x.hi) (H : Heap) (Q : Post) (hq : Q (strT (quantT ex x.lo x.hi)) H) : E 75 [encT x, B ex] H Q := by
  have h1 := numT_small hlo
  have a1 := numT_len h1
  have a2 := numT_len h2
  have d5 : decide (x.k = 5) = true := decide_eq_true h5
  have e1 : S ⟨#[123]⟩ = strT [123] := rfl
  have e2 : S ⟨#[125]⟩ = strT [125] := rfl
  have e3 : S ⟨#[44, 125]⟩ = strT [44, 125] := rfl
  have e4 : S ⟨#[44]⟩ = strT [44] := rfl
  rw [f75_eq, szT, ob_some, part_f, p0T, ob_some, i_neq, ob_some, d5, Bool.not_true, cnd_f, part_f, p3T, ob_some, i_eql, ob_some]
  simp only [quantT] at hq
  have j12 : ∀ c : Bool, c = decide (x.lo = 1 ∧ x.hi = 0) → f75_j12 (B ex) (encTC x) (B c) H Q := fun c hc => by
    rw [f75_j12_eq]
    refine cnd_intro (fun g => ?_) (fun g => ?_)
    · have g : x.lo = 1 ∧ x.hi = 0 := by rw [g] at hc; simpa using hc.symm
      rw [if_pos g] at hq
      exact hq
    · have g : ¬ (x.lo = 1 ∧ x.hi = 0) := by rw [g] at hc; simpa using hc.symm
      rw [if_neg g] at hq
      rw [part_f, p4T, ob_some, i_eql, ob_some]
      refine cnd_intro (fun g2 => ?_) (fun g2 => ?_)
      · have g2 : x.hi = 0 := by simpa using g2
        rw [if_pos (.inr (by omega)), if_pos g2] at hq
        rw [part_f, p3T, ob_some]
        refine c70 x.lo h1 H _ ?_
        rw [e1, e3, s_add _ _ _ _ (by simp only [List.length_singleton]; omega), ob_some, s_add _ _ _ _ (by simp only [List.length_append, List.length_cons, List.length_nil]; omega), ob_some]
        simpa using hq
      · have g2 : ¬ x.hi = 0 := by simpa using g2
        rw [if_neg g2] at hq
        have j24 : ∀ d : Bool, d = (ex && decide (x.lo = x.hi)) → f75_j24 (encTC x) (B d) H Q := fun d hd => by
          rw [f75_j24_eq]
          refine cnd_intro (fun g3 => ?_) (fun g3 => ?_)
          · have g3 : ex = true ∧ x.lo = x.hi := by rw [g3] at hd; simpa using hd.symm
            rw [if_neg (by rw [g3.1, g3.2]; simp)] at hq
            rw [part_f, p3T, ob_some]
            refine c70 x.lo h1 H _ ?_
            rw [e1, e2, s_add _ _ _ _ (by simp only [List.length_singleton]; omega), ob_some, s_add _ _ _ _ (by simp only [List.length_append, List.length_cons, List.length_nil]; omega), ob_some]
            simpa using hq
          · have g3 : ex = false ∨ x.lo ≠ x.hi := by
              rw [g3] at hd
              cases ex
              · exact .inl rfl
              · right; simpa using hd.symm
            rw [if_pos g3] at hq
            rw [part_f, p3T, ob_some, part_f, p4T, ob_some]
            refine c70 x.lo h1 H _ ?_
            rw [e1, e2, e4, s_add _ _ _ _ (by simp only [List.length_singleton]; omega), ob_some, s_add _ _ _ _ (by simp only [List.length_append, List.length_cons, List.length_nil]; omega), ob_some]
            refine c70 x.hi h2 H _ ?_
            rw [s_add _ _ _ _ (by simp only [List.length_append, List.length_cons, List.length_nil]; omega), ob_some, s_add _ _ _ _ (by simp only [List.length_append, List.length_cons, List.length_nil]; omega), ob_some]
            simpa using hq
        cases hx : ex with
        | true =>
          rw [cnd_t, part_f, p3T, ob_some, ob_some, i_eql, ob_some]
          exact j24 _ (by simp [hx])
        | false =>
          rw [cnd_f]
          exact j24 _ (by simp [hx])
  refine cnd_intro (fun g => ?_) (fun g => ?_)
  · rw [part_f, p4T, ob_some, i_eql, ob_some]
    exact j12 _ (by simp at g; simp [g])
  · exact j12 false (by simp at g; simp [g])
theorem c75n (x : Pa) (ex : Bool) (h5 : x.k ≠ 5) (H : Heap) (Q : Post) (hq : Q (strT []) H) : E 75 [encT x, B ex] H Q := by
  have d5 : decide (x.k = 5) = false := decide_eq_false h5
  rw [f75_eq, szT, ob_some, part_f, p0T, ob_some, i_neq, ob_some, d5, Bool.not_false, cnd_t]
  exact hq
/-! ### Items -/
def wordT (k : Int) : List UInt8 :=
  if k = 1 then [70, 73, 82, 83, 84] else if k = 2 then [76, 65, 83, 84] else if k = 4 then [83, 85, 77] else [67, 79, 85, 78, 84]
def sAS : List UInt8 := [41, 32, 65, 83, 32]
def itemT (x : It) : List UInt8 := wordT x.k ++ (40 :: tx x.var) ++ (if x.k = 3 then [] else 46 :: tx x.fld) ++ (sAS ++ tx x.name)
def itemsT (l : List It) : List UInt8 := catL [44, 32] (l.map itemT)
theorem itemP_k {x : It} (h : itemP x = true) : x.k = 1 ∨ x.k = 2 ∨ x.k = 3 ∨ x.k = 4 := by
  simp only [itemP, Bool.and_eq_true] at h
  have h := h.2.2
  split at h
  · omega
  · split at h
    · omega
    · cases h
theorem itemT_len {x : It} (h : itemP x = true) : (itemT x).length ≤ 110 := by
  have hk := itemP_k h
  simp only [itemP, Bool.and_eq_true] at h
  have a1 := name_len h.1
  have a2 := name_len h.2.1
  have hw : (wordT x.k).length ≤ 5 := by
    simp only [wordT]
    repeat' split
    all_goals simp
  have h3 := h.2.2
  simp only [itemT, sAS, List.length_append, List.length_cons, List.length_nil]
  split
  · simp only [List.length_nil]; omega
  · rename_i hn
    rw [if_neg hn] at h3
    split at h3
    · have := name_len h3
      simp only [List.length_cons]; omega
    · cases h3
theorem wrongI_item : ∀ {l : List It} {seen : List ByteArray}, wrongI seen l = false → ∀ x ∈ l, itemP x = true := by
  intro l
  induction l with
  | nil => intro _ _ x hx; cases hx
  | cons y r ih =>
    intro seen h x hx
    simp only [wrongI, Bool.or_eq_false_iff, Bool.not_eq_false'] at h
    rcases List.mem_cons.1 hx with rfl | hx
    · exact h.1.2
    · exact ih h.2 x hx
def callC : List AV := [S ⟨#[70, 73, 82, 83, 84]⟩, I 1, S ⟨#[76, 65, 83, 84]⟩, I 2, S ⟨#[67, 79, 85, 78, 84]⟩, I 3, S ⟨#[83, 85, 77]⟩, I 4]
theorem c74 (H : Heap) (Q : Post) (hq : ∀ H', HExt H H' → Q (.agg callC) H') : E 74 [] H Q := by
  rw [f74_eq]
  intro b hb
  have b2 : ∀ (s : ByteArray) (n : Int), bldA [(0, 1, S s), (1, 1, I n)] [S e0, I 0] = some (.agg [S s, I n]) := fun _ _ => rfl
  simp only [b2, ob_some]
  have hb' : bldA [(0, 2, .agg [S ⟨#[70, 73, 82, 83, 84]⟩, I 1]), (2, 2, .agg [S ⟨#[76, 65, 83, 84]⟩, I 2]), (4, 2, .agg [S ⟨#[67, 79, 85, 78, 84]⟩, I 3]), (6, 2, .agg [S ⟨#[83, 85, 77]⟩, I 4])] [S e0, I 0, S e0, I 0, S e0, I 0, S e0, I 0] = some (.agg callC) := rfl
  rw [hb', ob_some]
  have o1 := setObj_same H b (.cells [S e0, I 0, S e0, I 0, S e0, I 0, S e0, I 0])
  have e1 : HExt H (H.setObj b (.cells [S e0, I 0, S e0, I 0, S e0, I 0, S e0, I 0])) := (HExt.refl H).setObj hb _
  simp only [Pt_def]
  generalize H.setObj b (.cells [S e0, I 0, S e0, I 0, S e0, I 0, S e0, I 0]) = H1 at o1 e1 ⊢
  have hs := st_agg o1 (xs := callC) rfl 8 rfl
  rw [hs, ob_some, ld_agg (setObj_same _ _ _) 8 rfl, ob_some]
  exact hq _ (e1.setObj hb _)
theorem ld_b (b : Nat) : ∃ x : AV, x = Pt b := ⟨_, rfl⟩
/-- two texts are put -/
theorem put2 (u v : ByteArray) (b : Nat) (H0 H : Heap) (t : List UInt8) (K : Post) (h : Bld H0 b t H) (hl : t.length + (tx u ++ tx v).length ≤ 140737488355328) (hq : ∀ H', Bld H0 b (t ++ (tx u ++ tx v)) H' → K (.tup []) H') :
    ob (mkSlA 1 [S u, S v]) fun r => E 32 [Pt b, r] H K := by
  have hm : mkSlA 1 [S u, S v] = some (.sl 1 false .full ([u, v].map S)) := lit_strs [u, v]
  have hc : cat [u, v] = tx u ++ tx v := by simp [cat]
  rw [hm, ob_some]
  exact c32 b _ 1 false .full (by simp) H0 H t _ h (by rw [hc]; exact hl) (fun H1 h1 => hq H1 (by rw [hc] at h1; exact h1))
theorem call_ix {j : Nat} {w : ByteArray} {k : Int} (h : callC[j * 2]? = some (S w)) (h' : callC[j * 2 + 1]? = some (I k)) (hj : j < 4) : ixAgg 4 true 2 (.agg callC) (I j) = some (.agg [S w, I k]) := by
  match j, hj with
  | 0, _ | 1, _ | 2, _ | 3, _ =>
    simp [callC, S, I] at h h'
    subst h h'
    rfl
  | n + 4, h => exact absurd h (by omega)
theorem c44 (sz : Nat) (nil : Bool) (tip : Tip) (l : List It) (hn : l.length ≤ 1099511627776) (hp : ∀ x ∈ l, itemP x = true) (b : Nat) (H0 H : Heap) (t : List UInt8) (Q : Post) (h : Bld H0 b t H) (hl : t.length + 130 * l.length ≤ 140737488355328)
    (hq : ∀ H', Bld H0 b (t ++ itemsT l) H' → Q (.tup []) H') : E 44 [Pt b, encIts sz nil tip l] H Q := by
  have one : ∀ (x : It) (pre r : List It), l = pre ++ x :: r → ∀ (t : List UInt8) (H : Heap), Bld H0 b t H → t.length + 120 ≤ 140737488355328 → (∀ H', Bld H0 b (t ++ itemT x) H' → f44_l3 (Pt b) (encIts sz nil tip l) (I l.length) (I ((pre.length + 1 : Nat) : Int)) H' Q) →
      f44_j20 (Pt b) (itC x) (encIts sz nil tip l) (I l.length) (I pre.length) H Q := by
    intro x pre r e t H h hl hk
    have hlt : pre.length < l.length := by rw [e]; simp
    have hx := hp x (by rw [e]; simp)
    have hlen := itemT_len hx
    have hkk := itemP_k hx
    have g0 : (itC x)[0]? = some (S x.name) := rfl
    have g1 : (itC x)[1]? = some (I x.k) := rfl
    have g2 : (itC x)[2]? = some (S x.var) := rfl
    have g3 : (itC x)[3]? = some (S x.fld) := rfl
    have j49 : ∀ (t : List UInt8) (H : Heap), Bld H0 b t H → t.length + (sAS ++ tx x.name).length ≤ 140737488355328 → (∀ H', Bld H0 b (t ++ (sAS ++ tx x.name)) H' → f44_l3 (Pt b) (encIts sz nil tip l) (I l.length) (I ((pre.length + 1 : Nat) : Int)) H' Q) →
        f44_j49 (Pt b) (itC x) (encIts sz nil tip l) (I l.length) (I pre.length) H Q := fun t H h hl hk => by
      rw [f44_j49_eq, part_f, g0, ob_some]
      refine put2 ⟨#[41, 32, 65, 83, 32]⟩ x.name b H0 H t _ h hl (fun H1 h1 => ?_)
      rw [i_add, ob_some, w64_succ hlt (by omega)]
      exact hk H1 h1
    have rest : ∀ (t : List UInt8) (H : Heap), Bld H0 b t H → t.length + 115 ≤ 140737488355328 → (∀ H', Bld H0 b (t ++ ((40 :: tx x.var) ++ (if x.k = 3 then [] else 46 :: tx x.fld) ++ (sAS ++ tx x.name))) H' → f44_l3 (Pt b) (encIts sz nil tip l) (I l.length) (I ((pre.length + 1 : Nat) : Int)) H' Q) →
        f44_l24 (Pt b) (itC x) (encIts sz nil tip l) (I l.length) (I pre.length) (.agg callC) (I 4) H Q := fun t H h hl hk => by
      have hlen2 := hlen
      simp only [itemT, List.length_append, List.length_cons] at hlen2
      rw [f44_l24_eq, i_lss, ob_some, show decide ((4 : Int) < 4) = false from rfl, cnd_f, part_f, g2, ob_some]
      refine put2 ⟨#[40]⟩ x.var b H0 H t _ h (by simp only [tx, List.length_append, List.length_cons, List.length_nil] at hlen2 ⊢; omega) (fun H1 h1 => ?_)
      rw [part_f, g1, ob_some, i_neq, ob_some]
      refine cnd_intro (fun g => ?_) (fun g => ?_)
      · rw [if_neg (by simpa using g)] at hk hlen2
        simp only [List.length_cons] at hlen2
        rw [part_f, g3, ob_some]
        refine put2 ⟨#[46]⟩ x.fld b H0 H1 _ _ h1 (by simp only [tx, List.length_append, List.length_cons, List.length_nil] at hlen2 ⊢; omega) (fun H2 h2 => ?_)
        exact j49 _ H2 h2 (by simp only [tx, List.length_append, List.length_cons, List.length_nil] at hlen2 ⊢; omega) (fun H' h' => hk H' (by simpa [tx] using h'))
      · rw [if_pos (by simpa using g)] at hk hlen2
        exact j49 _ H1 h1 (by simp only [tx, List.length_append, List.length_cons, List.length_nil] at hlen2 ⊢; omega) (fun H' h' => hk H' (by simpa [tx] using h'))
    have step : ∀ (j : Nat) (w : ByteArray) (k : Int), j < 4 → callC[j * 2]? = some (S w) → callC[j * 2 + 1]? = some (I k) → ∀ (t : List UInt8) (H : Heap), Bld H0 b t H → t.length + (tx w).length ≤ 140737488355328 →
        (∀ H', Bld H0 b (t ++ (if k = x.k then tx w else [])) H' → f44_l24 (Pt b) (itC x) (encIts sz nil tip l) (I l.length) (I pre.length) (.agg callC) (I ((j + 1 : Nat) : Int)) H' Q) →
        f44_l24 (Pt b) (itC x) (encIts sz nil tip l) (I l.length) (I pre.length) (.agg callC) (I j) H Q := fun j w k hj hw hk' t H h hl hk => by
      have hlt4 : decide ((j : Int) < 4) = true := decide_eq_true (by omega)
      have s2 : sizedA 2 (.agg [S w, I k]) = some [S w, I k] := rfl
      have sp : spliceA 0 [S w, I k] [S e0, I 0] = some [S w, I k] := rfl
      rw [f44_l24_eq, i_lss, ob_some, hlt4, cnd_t, call_ix hw hk' hj, ob_some, s2, ob_some, sp, ob_some, part_f, List.getElem?_cons_succ, List.getElem?_cons_zero, ob_some, part_f, g1, ob_some, i_eql, ob_some]
      have j40 : ∀ H', f44_l24 (Pt b) (itC x) (encIts sz nil tip l) (I l.length) (I pre.length) (.agg callC) (I ((j + 1 : Nat) : Int)) H' Q → f44_j40 (Pt b) (itC x) (encIts sz nil tip l) (I l.length) (I pre.length) (.agg callC) (I j) H' Q := fun H' hh => by
        rw [f44_j40_eq, i_add, ob_some, w64_succ hj (by omega)]
        exact hh
      refine cnd_intro (fun g => ?_) (fun g => ?_)
      · rw [if_pos (by simpa using g)] at hk
        rw [part_f, List.getElem?_cons_zero, ob_some]
        exact put1 (tx w) b H0 H t _ h hl (fun H1 h1 => j40 H1 (hk H1 h1))
      · rw [if_neg (by simpa using g), List.append_nil] at hk
        exact j40 H (hk H h)
    rw [f44_j20_eq]
    refine c74 H _ (fun H1 e1 => ?_)
    have h1 := h.mono e1
    have hi : ∀ (k : Int) (w : List UInt8), w.length ≤ 5 → (if k = x.k then w else []).length ≤ 5 := fun k w hw => by
      split
      · exact hw
      · simp
    have w1 : (tx ⟨#[70, 73, 82, 83, 84]⟩).length ≤ 5 := by decide
    have w2 : (tx ⟨#[76, 65, 83, 84]⟩).length ≤ 5 := by decide
    have w3 : (tx ⟨#[67, 79, 85, 78, 84]⟩).length ≤ 5 := by decide
    have w4 : (tx ⟨#[83, 85, 77]⟩).length ≤ 5 := by decide
    have v1 := hi 1 _ w1
    have v2 := hi 2 _ w2
    have v3 := hi 3 _ w3
    refine step 0 ⟨#[70, 73, 82, 83, 84]⟩ 1 (by omega) rfl rfl t H1 h1 (by omega) (fun H2 h2 => ?_)
    refine step 1 ⟨#[76, 65, 83, 84]⟩ 2 (by omega) rfl rfl _ H2 h2 (by simp only [List.length_append]; omega) (fun H3 h3 => ?_)
    refine step 2 ⟨#[67, 79, 85, 78, 84]⟩ 3 (by omega) rfl rfl _ H3 h3 (by simp only [List.length_append]; omega) (fun H4 h4 => ?_)
    refine step 3 ⟨#[83, 85, 77]⟩ 4 (by omega) rfl rfl _ H4 h4 (by simp only [List.length_append]; omega) (fun H5 h5 => ?_)
    have hw : t ++ (if (1 : Int) = x.k then tx ⟨#[70, 73, 82, 83, 84]⟩ else []) ++ (if (2 : Int) = x.k then tx ⟨#[76, 65, 83, 84]⟩ else []) ++ (if (3 : Int) = x.k then tx ⟨#[67, 79, 85, 78, 84]⟩ else []) ++ (if (4 : Int) = x.k then tx ⟨#[83, 85, 77]⟩ else []) = t ++ wordT x.k := by
      rcases hkk with hk | hk | hk | hk <;> simp [hk, wordT, tx]
    rw [hw] at h5
    have hwl : (wordT x.k).length ≤ 5 := by
      rcases hkk with hk | hk | hk | hk <;> simp [hk, wordT]
    exact rest _ H5 h5 (by rw [List.length_append]; omega) (fun H' h' => hk H' (by simpa [itemT] using h'))
  have lenI : ∀ r : List It, (∀ x ∈ r, itemP x = true) → (catR [44, 32] (r.map itemT)).length ≤ 112 * r.length := by
    intro r
    induction r with
    | nil => intro _; simp [catR]
    | cons y r ih =>
      intro hh
      have := itemT_len (hh y (by simp))
      have := ih (fun z hz => hh z (by simp [hz]))
      simp only [List.map_cons, catR, List.length_append, List.length_cons, List.length_nil]; omega
  have loop : ∀ (r pre : List It) (t : List UInt8) (H : Heap), l = pre ++ r → pre ≠ [] → Bld H0 b t H → t.length + 130 * r.length ≤ 140737488355328 → (∀ H', Bld H0 b (t ++ catR [44, 32] (r.map itemT)) H' → Q (.tup []) H') →
      f44_l3 (Pt b) (encIts sz nil tip l) (I l.length) (I pre.length) H Q := by
    intro r
    induction r with
    | nil =>
      intro pre t H e _ h hl hq
      have h1 : (pre.length : Int) = l.length := by rw [e]; simp
      rw [f44_l3_eq, i_lss, ob_some, cnd_B, h1]
      simp only [Int.lt_irrefl, decide_false, Bool.false_eq_true, if_false]
      exact hq H (by simpa [catR] using h)
    | cons x r ih =>
      intro pre t H e hne h hl hq
      have hlt : pre.length < l.length := by rw [e]; simp
      have hlt' : (pre.length : Int) < l.length := by omega
      have hp0 : 0 < pre.length := List.length_pos_iff.2 hne
      have hgt : decide ((0 : Int) < (pre.length : Int)) = true := by simp; omega
      have spl : spliceA 0 (itC x) [S e0, I 0, S e0, S e0] = some (itC x) := rfl
      have hx := itemT_len (hp x (by rw [e]; simp))
      simp only [List.length_cons] at hl
      simp only [List.map_cons, catR] at hq
      rw [f44_l3_eq, i_lss, ob_some, cnd_B, if_pos (by simpa using hlt'), ixIt l sz nil tip pre r x e, ob_some, partIt, ob_some, szIt, ob_some, spl, ob_some, i_gtr, ob_some, hgt, cnd_t]
      refine put1 [44, 32] b H0 H t _ h (by simp only [List.length_cons, List.length_nil]; omega) (fun H1 h1 => ?_)
      refine one x pre r e _ H1 h1 (by simp only [List.length_append, List.length_cons, List.length_nil]; omega) (fun H2 h2 => ?_)
      have := ih (pre ++ [x]) _ H2 (by simp [e]) (by simp) h2 (by simp only [List.length_append, List.length_cons, List.length_nil]; omega) (fun H' h' => hq H' (by simpa using h'))
      rw [List.length_append, List.length_singleton] at this
      exact this
  rw [f44_eq, lenIt, ob_some]
  cases hc : l with
  | nil =>
    rw [hc] at hq
    rw [f44_l3_eq, i_lss, ob_some, cnd_B]
    simp only [List.length_nil, Int.natCast_zero, Int.lt_irrefl, decide_false, Bool.false_eq_true, if_false]
    exact hq H (by simpa [itemsT, catL] using h)
  | cons x r =>
    rw [← hc]
    have hlt : 0 < l.length := by rw [hc]; simp
    have hlt' : (0 : Int) < l.length := by omega
    have spl : spliceA 0 (itC x) [S e0, I 0, S e0, S e0] = some (itC x) := rfl
    have hll : l.length = r.length + 1 := by rw [hc]; rfl
    have hx := itemT_len (hp x (by rw [hc]; simp))
    rw [hc] at hq
    simp only [itemsT, List.map_cons, catL] at hq
    have i1 : ixaA 4 (encIts sz nil tip l) (I 0) = some (itC x) := ixIt l sz nil tip [] r x hc
    have h00 : decide ((0 : Int) < 0) = false := rfl
    rw [f44_l3_eq, i_lss, ob_some, cnd_B, if_pos (by simpa using hlt'), i1, ob_some, partIt, ob_some, szIt, ob_some, spl, ob_some, i_gtr, ob_some, h00, cnd_f]
    refine one x [] r hc t H h (by omega) (fun H2 h2 => ?_)
    exact loop r [x] _ H2 (by simp [hc]) (by simp) h2 (by simp only [List.length_append]; omega) (fun H' h' => hq H' (by simpa using h'))
/-- the document's items -/
theorem c46 (sz : Nat) (nil : Bool) (tip : Tip) (l : List It) (hn : l.length ≤ 1099511627776) (hp : ∀ x ∈ l, itemP x = true) (H : Heap) (Q : Post) (hl : 130 * l.length ≤ 140737488355328) (hq : Q (strT (itemsT l)) H) : E 46 [encIts sz nil tip l] H Q := by
  have e2 : S ⟨#[44, 32]⟩ = strT [44, 32] := rfl
  have w1 : S ⟨#[70, 73, 82, 83, 84, 40]⟩ = strT [70, 73, 82, 83, 84, 40] := rfl
  have w2 : S ⟨#[76, 65, 83, 84, 40]⟩ = strT [76, 65, 83, 84, 40] := rfl
  have w4 : S ⟨#[83, 85, 77, 40]⟩ = strT [83, 85, 77, 40] := rfl
  have w3 : S ⟨#[67, 79, 85, 78, 84, 40]⟩ = strT [67, 79, 85, 78, 84, 40] := rfl
  have e46 : S ⟨#[46]⟩ = strT [46] := rfl
  have eAS : S ⟨#[41, 32, 65, 83, 32]⟩ = strT sAS := rfl
  have hAS : sAS.length = 5 := rfl
  have one : ∀ (x : It) (pre r : List It), l = pre ++ x :: r → ∀ (acc : List UInt8), acc.length + 120 ≤ 140737488355328 → f46_l8 (encIts sz nil tip l) (strT (acc ++ itemT x)) (I ((pre.length + 1 : Nat) : Int)) H Q →
      f46_j23 (encIts sz nil tip l) (strT acc) (I pre.length) H Q := by
    intro x pre r e acc hl hk
    have hlt : pre.length < l.length := by rw [e]; simp
    have hx := hp x (by rw [e]; simp)
    have hlen := itemT_len hx
    have hkk := itemP_k hx
    have g0 : (itC x)[0]? = some (S x.name) := rfl
    have g1 : (itC x)[1]? = some (I x.k) := rfl
    have g2 : (itC x)[2]? = some (S x.var) := rfl
    have g3 : (itC x)[3]? = some (S x.fld) := rfl
    have spl : spliceA 0 (itC x) [S e0, I 0, S e0, S e0] = some (itC x) := rfl
    have j42 : ∀ u : List UInt8, u.length + (sAS ++ tx x.name).length ≤ 140737488355328 → u ++ (sAS ++ tx x.name) = acc ++ itemT x → f46_j42 (encIts sz nil tip l) (strT u) (I pre.length) (itC x) H Q := fun u hu he => by
      rw [List.length_append] at hu
      rw [f46_j42_eq, eAS, s_add _ _ _ _ (by omega), ob_some, part_f, g0, ob_some, strT_tx, s_add _ _ _ _ (by simp only [List.length_append]; omega), ob_some, i_add, ob_some, w64_succ hlt (by omega), List.append_assoc, he]
      exact hk
    have hlen2 := hlen
    simp only [itemT, List.length_append] at hlen2
    rw [f46_j23_eq, ixIt l sz nil tip pre r x e, ob_some, partIt, ob_some, szIt, ob_some, spl, ob_some, part_f, g1, ob_some, i_eql, ob_some]
    rcases hkk with hk1 | hk1 | hk1 | hk1
    · simp only [hk1, wordT, if_true, List.length_cons, List.length_nil, List.length_append, show ¬ ((1 : Int) = 3) by omega, if_false] at hlen2
      rw [hk1, show decide ((1 : Int) = 1) = true from rfl, cnd_t, w1, s_add _ _ _ _ (by simp only [List.length_cons, List.length_nil]; omega), ob_some, part_f, g2, ob_some, strT_tx, s_add _ _ _ _ (by simp only [List.length_append, List.length_cons, List.length_nil]; omega), ob_some, e46,
        s_add _ _ _ _ (by simp only [List.length_append, List.length_cons, List.length_nil]; omega), ob_some, part_f, g3, ob_some, strT_tx, s_add _ _ _ _ (by simp only [List.length_append, List.length_cons, List.length_nil]; omega), ob_some]
      exact j42 _ (by simp only [List.length_append, List.length_cons, List.length_nil]; omega) (by simp [itemT, hk1, wordT])
    · simp only [hk1, wordT, if_true, List.length_cons, List.length_nil, List.length_append, show ¬ ((2 : Int) = 3) by omega, show ¬ ((2 : Int) = 1) by omega, if_false] at hlen2
      rw [hk1, show decide ((2 : Int) = 1) = false from rfl, cnd_f, i_eql, ob_some, show decide ((2 : Int) = 2) = true from rfl, cnd_t, w2, s_add _ _ _ _ (by simp only [List.length_cons, List.length_nil]; omega), ob_some, part_f, g2, ob_some, strT_tx, s_add _ _ _ _ (by simp only [List.length_append, List.length_cons, List.length_nil]; omega), ob_some, e46,
        s_add _ _ _ _ (by simp only [List.length_append, List.length_cons, List.length_nil]; omega), ob_some, part_f, g3, ob_some, strT_tx, s_add _ _ _ _ (by simp only [List.length_append, List.length_cons, List.length_nil]; omega), ob_some]
      exact j42 _ (by simp only [List.length_append, List.length_cons, List.length_nil]; omega) (by simp [itemT, hk1, wordT])
    · simp only [hk1, wordT, if_true, List.length_cons, List.length_nil, List.length_append, show ¬ ((3 : Int) = 1) by omega, show ¬ ((3 : Int) = 2) by omega, show ¬ ((3 : Int) = 4) by omega, if_false] at hlen2
      rw [hk1, show decide ((3 : Int) = 1) = false from rfl, cnd_f, i_eql, ob_some, show decide ((3 : Int) = 2) = false from rfl, cnd_f, i_eql, ob_some, show decide ((3 : Int) = 4) = false from rfl, cnd_f, w3, s_add _ _ _ _ (by simp only [List.length_cons, List.length_nil]; omega), ob_some, part_f, g2, ob_some, strT_tx, s_add _ _ _ _ (by simp only [List.length_append, List.length_cons, List.length_nil]; omega), ob_some]
      exact j42 _ (by simp only [List.length_append, List.length_cons, List.length_nil]; omega) (by simp [itemT, hk1, wordT])
    · simp only [hk1, wordT, if_true, List.length_cons, List.length_nil, List.length_append, show ¬ ((4 : Int) = 3) by omega, show ¬ ((4 : Int) = 1) by omega, show ¬ ((4 : Int) = 2) by omega, if_false] at hlen2
      rw [hk1, show decide ((4 : Int) = 1) = false from rfl, cnd_f, i_eql, ob_some, show decide ((4 : Int) = 2) = false from rfl, cnd_f, i_eql, ob_some, show decide ((4 : Int) = 4) = true from rfl, cnd_t, w4, s_add _ _ _ _ (by simp only [List.length_cons, List.length_nil]; omega), ob_some, part_f, g2, ob_some, strT_tx, s_add _ _ _ _ (by simp only [List.length_append, List.length_cons, List.length_nil]; omega), ob_some, e46,
        s_add _ _ _ _ (by simp only [List.length_append, List.length_cons, List.length_nil]; omega), ob_some, part_f, g3, ob_some, strT_tx, s_add _ _ _ _ (by simp only [List.length_append, List.length_cons, List.length_nil]; omega), ob_some]
      exact j42 _ (by simp only [List.length_append, List.length_cons, List.length_nil]; omega) (by simp [itemT, hk1, wordT])
  have loop : ∀ (r pre : List It) (acc : List UInt8), l = pre ++ r → pre ≠ [] → acc.length + 130 * r.length ≤ 140737488355328 → Q (strT (acc ++ catR [44, 32] (r.map itemT))) H →
      f46_l8 (encIts sz nil tip l) (strT acc) (I pre.length) H Q := by
    intro r
    induction r with
    | nil =>
      intro pre acc e _ hl hq
      have h1 : (pre.length : Int) = l.length := by rw [e]; simp
      rw [f46_l8_eq, lenIt, ob_some, i_lss, ob_some, cnd_B, h1]
      simp only [Int.lt_irrefl, decide_false, Bool.false_eq_true, if_false]
      simpa [catR] using hq
    | cons x r ih =>
      intro pre acc e hne hl hq
      have hlt : pre.length < l.length := by rw [e]; simp
      have hlt' : (pre.length : Int) < l.length := by omega
      have hp0 : 0 < pre.length := List.length_pos_iff.2 hne
      have hgt : decide ((0 : Int) < (pre.length : Int)) = true := by simp; omega
      have hx := itemT_len (hp x (by rw [e]; simp))
      simp only [List.length_cons] at hl
      simp only [List.map_cons, catR] at hq
      rw [f46_l8_eq, lenIt, ob_some, i_lss, ob_some, cnd_B, if_pos (by simpa using hlt'), i_gtr, ob_some, hgt, cnd_t, e2, s_add _ _ _ _ (by simp only [List.length_cons, List.length_nil]; omega), ob_some]
      refine one x pre r e _ (by simp only [List.length_append, List.length_cons, List.length_nil]; omega) ?_
      have := ih (pre ++ [x]) (acc ++ [44, 32] ++ itemT x) (by simp [e]) (by simp) (by simp only [List.length_append, List.length_cons, List.length_nil]; omega) (by simpa using hq)
      rw [List.length_append, List.length_singleton] at this
      exact this
  rw [f46_eq]
  have e0s : S ⟨#[]⟩ = strT [] := rfl
  cases hc : l with
  | nil =>
    rw [hc] at hq
    rw [f46_l8_eq, lenIt, ob_some, i_lss, ob_some, cnd_B]
    simp only [List.length_nil, Int.natCast_zero, Int.lt_irrefl, decide_false, Bool.false_eq_true, if_false]
    exact hq
  | cons x r =>
    rw [← hc]
    have hlt : 0 < l.length := by rw [hc]; simp
    have hlt' : (0 : Int) < l.length := by omega
    have hll : l.length = r.length + 1 := by rw [hc]; rfl
    have hx := itemT_len (hp x (by rw [hc]; simp))
    rw [hc] at hq
    simp only [itemsT, List.map_cons, catL] at hq
    have h00 : decide ((0 : Int) < 0) = false := rfl
    rw [f46_l8_eq, lenIt, ob_some, i_lss, ob_some, cnd_B, if_pos (by simpa using hlt'), i_gtr, ob_some, h00, cnd_f, e0s]
    refine one x [] r hc [] (by simp only [List.length_nil]; omega) ?_
    exact loop r [x] _ (by simp [hc]) (by simp) (by simp only [List.nil_append]; omega) (by simpa using hq)
end Go.Hx
