/- Contracts of layer 11, fourth part: Say, Holds, Table. Own work (session 2). -/
import Derived.Test.YthhghcekcgonnaaS3J
set_option maxRecDepth 20000
namespace Go.Hx
/-! ### Tables -/
theorem nil_eql (t : TypeId) (ht : t = 29 ∨ t = 49) (s : Nat) (nil : Bool) (tip : Tip) (xs : List AV) : binA Pg .eql t true (.sl s nil tip xs) (.sl 0 true .full []) = some (B nil) := by
  rcases ht with rfl | rfl <;> cases nil <;> kernel_rfl
theorem c35 (s : Nat) (nil : Bool) (tip : Tip) (l : List ByteArray) (h0 : nil = true → l = []) (hs : nil = true ∨ s = 1) (hl : l.length ≤ 1099511627776) (H : Heap) (Q : Post) (hq : ∀ s' nil' tip' H', HExt H H' → Q (.sl s' nil' tip' (l.map S)) H') :
    E 35 [.sl s nil tip (l.map S)] H Q := by
  have hm : mkSlA 1 [] = some (.sl 1 false .full []) := rfl
  rw [f35_eq, nil_eql 29 (.inl rfl), ob_some, hm, ob_some]
  refine cnd_intro (fun h => ?_) (fun h => ?_)
  · have := hq 0 true .full H (HExt.refl H)
    rw [h0 h] at this; exact this
  · exact app_clone hs (by omega) (by simp; omega) (fun tip' H' he => hq _ _ _ _ he)
theorem c41 (s : Nat) (nil : Bool) (tip : Tip) (l : List Vl) (h0 : nil = true → l = []) (hs : nil = true ∨ s = 3) (hl : l.length ≤ 1099511627776) (H : Heap) (Q : Post) (hq : ∀ s' nil' tip' H', HExt H H' → Q (.sl s' nil' tip' (l.map encV)) H') :
    E 41 [.sl s nil tip (l.map encV)] H Q := by
  have hm : mkSlA 3 [] = some (.sl 3 false .full []) := rfl
  rw [f41_eq, nil_eql 49 (.inr rfl), ob_some, hm, ob_some]
  refine cnd_intro (fun h => ?_) (fun h => ?_)
  · have := hq 0 true .full H (HExt.refl H)
    rw [h0 h] at this; exact this
  · exact app_clone hs (by omega) (by simp; omega) (fun tip' H' he => hq _ _ _ _ he)
def tableL (v f : ByteArray) : List ByteArray → List ByteArray → List Vl → Vl × Bool
  | a :: vs, b :: fs, l => if a = v ∧ b = f then (match l with | x :: _ => (x, true) | [] => (nullV, false)) else tableL v f vs fs l.tail
  | _, _, _ => (nullV, false)
def encT (p : Vl × Bool) : AV := .tup [encV p.1, B p.2]
theorem c42_l (v f : ByteArray) (vars fields : List ByteArray) (l : List Vl) (b1 b2 b3 : Nat) (s1 s2 s3 : Nat) (n1 n2 n3 : Bool) (t1 t2 t3 : Tip) (H : Heap) (Q : Post) (hl : vars.length ≤ 1099511627776)
    (h1 : H.objs b1 = some (.cells [.sl s1 n1 t1 (vars.map S)])) (h2 : H.objs b2 = some (.cells [.sl s2 n2 t2 (fields.map S)])) (h3 : H.objs b3 = some (.cells [.sl s3 n3 t3 (l.map encV)])) :
    ∀ (k i : Nat), i + k = min vars.length fields.length → f42_l6 (S v) (S f) (Pt b1) (Pt b2) (Pt b3) [I 0, I 0, S e0] (I ((min vars.length fields.length : Nat) : Int)) (I i) H Q = Q (encT (tableL v f (vars.drop i) (fields.drop i) (l.drop i))) H := by
  intro k
  induction k with
  | zero =>
    intro i hi
    have hi : i = min vars.length fields.length := by omega
    have ht : tableL v f (vars.drop i) (fields.drop i) (l.drop i) = (nullV, false) := by
      rcases Nat.le_total vars.length fields.length with h | h
      · have hd : vars.drop i = [] := List.drop_eq_nil_of_le (by omega)
        rw [hd]; simp [tableL]
      · have hd : fields.drop i = [] := List.drop_eq_nil_of_le (by omega)
        rw [hd]; cases vars.drop i <;> simp [tableL]
    rw [f42_l6_eq, i_lss, ob_some, cnd_B, ht]
    have : ¬ ((i : Int) < ((min vars.length fields.length : Nat) : Int)) := by omega
    simp only [this, decide_false, Bool.false_eq_true, if_false, c43, sz3, spl3, part3, ob_some]
    rfl
  | succ k ih =>
    intro i hi
    have hlt : ((i : Int) < ((min vars.length fields.length : Nat) : Int)) := by omega
    have hv : i < vars.length := by omega
    have hf : i < fields.length := by omega
    have ih := ih (i + 1) (by omega)
    have x1 : ixaA 1 (.sl s1 n1 t1 (vars.map S)) (I i) = some [S vars[i]] := ix_mk 1 _ _ _ i (x := S vars[i]) (by simp [hv]) rfl
    have x2 : ixaA 1 (.sl s2 n2 t2 (fields.map S)) (I i) = some [S fields[i]] := ix_mk 1 _ _ _ i (x := S fields[i]) (by simp [hf]) rfl
    have hd1 : vars.drop i = vars[i] :: vars.drop (i + 1) := List.drop_eq_getElem_cons hv
    have hd2 : fields.drop i = fields[i] :: fields.drop (i + 1) := List.drop_eq_getElem_cons hf
    have ht : tableL v f (vars.drop i) (fields.drop i) (l.drop i) = if vars[i] = v ∧ fields[i] = f then (match l.drop i with | x :: _ => (x, true) | [] => (nullV, false)) else tableL v f (vars.drop (i + 1)) (fields.drop (i + 1)) (l.drop (i + 1)) := by
      rw [hd1, hd2]
      simp only [tableL, List.tail_drop]
    have j20 : ∀ b : Bool, b = !decide (vars[i] = v ∧ fields[i] = f) → f42_j20 (S v) (S f) (Pt b1) (Pt b2) (Pt b3) [I 0, I 0, S e0] (I i) (I ((min vars.length fields.length : Nat) : Int)) (I i) (B b) H Q =
        Q (encT (tableL v f (vars.drop i) (fields.drop i) (l.drop i))) H := fun b hb => by
      rw [f42_j20_eq, ht, i_add, ob_some, w64_succ hv (by omega), ih, ld_Pt h3, cnd_B]
      simp only [part_f, List.getElem?_cons_zero, ob_some, len_sl, i_lss, cnd_B, List.length_map, c43, sz3, spl3, part3]
      cases hbb : b with
      | true =>
        rw [hbb] at hb
        have : ¬ (vars[i] = v ∧ fields[i] = f) := fun h => by simp [h] at hb
        rw [if_pos rfl, if_neg this]
      | false =>
        rw [hbb] at hb
        have : (vars[i] = v ∧ fields[i] = f) := Classical.byContradiction fun h => by rw [decide_eq_false h] at hb; cases hb
        rw [if_neg (by simp), if_pos this]
        by_cases hil : i < l.length
        · have x3 : ixaA 3 (.sl s3 n3 t3 (l.map encV)) (I i) = some [I l[i].k, I l[i].n, S l[i].s] := ix_mk 3 _ _ _ i (x := encV l[i]) (by simp [hil]) rfl
          have hd3 : l.drop i = l[i] :: l.drop (i + 1) := List.drop_eq_getElem_cons hil
          rw [if_pos (by simpa using hil), x3, hd3]
          simp only [ob_some, part3, sz3, spl3]
          rfl
        · rw [if_neg (by simpa using hil), List.drop_eq_nil_of_le (by omega)]
          rfl
    rw [f42_l6_eq, i_lss, ob_some, cnd_B, if_pos (by simpa using hlt), ld_Pt h1, ld_Pt h2]
    simp only [part_f, List.getElem?_cons_zero, ob_some, x1, x2, s_neq, cnd_B]
    split
    · rename_i h; exact j20 true (by have : ¬ vars[i] = v := by simpa using h
                                     simp [this])
    · rename_i h; exact j20 _ (by have : vars[i] = v := by simpa using h
                                  simp [this])
theorem c42 (v f : ByteArray) (vars fields : List ByteArray) (l : List Vl) (b1 b2 b3 : Nat) (s1 s2 s3 : Nat) (n1 n2 n3 : Bool) (t1 t2 t3 : Tip) (H : Heap) (Q : Post) (hl : vars.length ≤ 1099511627776)
    (h1 : H.objs b1 = some (.cells [.sl s1 n1 t1 (vars.map S)])) (h2 : H.objs b2 = some (.cells [.sl s2 n2 t2 (fields.map S)])) (h3 : H.objs b3 = some (.cells [.sl s3 n3 t3 (l.map encV)])) :
    E 42 [S v, S f, Pt b1, Pt b2, Pt b3] H Q = Q (encT (tableL v f vars fields l)) H := by
  have := c42_l v f vars fields l b1 b2 b3 s1 s2 s3 n1 n2 n3 t1 t2 t3 H Q hl h1 h2 h3 (min vars.length fields.length) 0 (by omega)
  simp only [List.drop_zero] at this
  rw [f42_eq, ld_Pt h1, ld_Pt h2]
  simp only [part_f, List.getElem?_cons_zero, ob_some, len_sl, min_I, List.length_map]
  rw [show min (vars.length : Int) (fields.length : Int) = ((min vars.length fields.length : Nat) : Int) by omega]
  exact this
theorem c19 (s1 s2 s3 : Nat) (n1 n2 n3 : Bool) (t1 t2 t3 : Tip) (vars fields : List ByteArray) (l : List Vl) (h1 : n1 = true → vars = []) (h2 : n2 = true → fields = []) (h3 : n3 = true → l = [])
    (k1 : n1 = true ∨ s1 = 1) (k2 : n2 = true ∨ s2 = 1) (k3 : n3 = true ∨ s3 = 3) (m1 : vars.length ≤ 1099511627776) (m2 : fields.length ≤ 1099511627776) (m3 : l.length ≤ 1099511627776) (H : Heap) (Q : Post)
    (hq : ∀ b1 b2 b3 H', HExt H H' → Tells H' (.fn (.func 42) [] [Pt b1, Pt b2, Pt b3]) (fun v f => tableL v f vars fields l) → Q (.fn (.func 42) [] [Pt b1, Pt b2, Pt b3]) H') :
    E 19 [.sl s1 n1 t1 (vars.map S), .sl s2 n2 t2 (fields.map S), .sl s3 n3 t3 (l.map encV)] H Q := by
  rw [f19_eq]
  simp only [sz1_sl, ob_some, part_f, List.getElem?_cons_zero]
  refine c35 s1 n1 t1 vars h1 k1 m1 H _ (fun u1 v1 w1 H1 e1 => ?_)
  refine c35 s2 n2 t2 fields h2 k2 m2 H1 _ (fun u2 v2 w2 H2 e2 => ?_)
  refine c41 s3 n3 t3 l h3 k3 m3 H2 _ (fun u3 v3 w3 H3 e3 => ?_)
  have sp : ∀ x y : AV, spliceA 0 [x] [y] = some [x] := fun _ _ => rfl
  simp only [sz1_sl, ob_some, sp]
  intro b1 f1
  simp only [Pt_def]
  have g1 : HExt H3 (H3.setObj b1 (.cells [.sl u1 v1 w1 (vars.map S)])) := (HExt.refl _).setObj f1 _
  have o1 := setObj_same H3 b1 (.cells [.sl u1 v1 w1 (vars.map S)])
  generalize H3.setObj b1 (.cells [.sl u1 v1 w1 (vars.map S)]) = H4 at g1 o1 ⊢
  intro b2 f2
  simp only [Pt_def]
  have g2 : HExt H4 (H4.setObj b2 (.cells [.sl u2 v2 w2 (fields.map S)])) := (HExt.refl _).setObj f2 _
  have o2 := setObj_same H4 b2 (.cells [.sl u2 v2 w2 (fields.map S)])
  generalize H4.setObj b2 (.cells [.sl u2 v2 w2 (fields.map S)]) = H5 at g2 o2 ⊢
  intro b3 f3
  simp only [Pt_def]
  have g3 : HExt H5 (H5.setObj b3 (.cells [.sl u3 v3 w3 (l.map encV)])) := (HExt.refl _).setObj f3 _
  have o3 := setObj_same H5 b3 (.cells [.sl u3 v3 w3 (l.map encV)])
  generalize H5.setObj b3 (.cells [.sl u3 v3 w3 (l.map encV)]) = H6 at g3 o3 ⊢
  refine hq b1 b2 b3 H6 ((((e1.trans e2).trans e3).trans (g1.trans g2)).trans g3) (fun v f H' K he hk => ?_)
  show E 42 [S v, S f, Pt b1, Pt b2, Pt b3] H' K
  rw [c42 v f vars fields l b1 b2 b3 u1 u2 u3 v1 v2 v3 w1 w2 w3 H' K m1 (he.obj ((g2.trans g3).obj o1)) (he.obj (g3.obj o2)) (he.obj o3)]
  exact hk

/-! ### Say, Holds -/
theorem stepC_all (x : Ex) : ∀ (s : Int × Bool) (d : Int), (foldX stepC s d x).2 = (s.2 && allR x) := by
  induction x using Ex.ind with
  | h x ih =>
    intro s d
    rw [foldX_eq, allR_eq]
    have : ∀ (r : List Ex), (∀ y ∈ r, y ∈ x.l) → ∀ (s : Int × Bool) (d : Int), (foldXs stepC s d r).2 = (s.2 && allRs r) := by
      intro r
      induction r with
      | nil => intro _ s d; simp [foldXs, allRs]
      | cons y r ihr =>
        intro hy s d
        simp only [foldXs, allRs]
        rw [ihr (fun z hz => hy z (by simp [hz])), ih y (hy y (by simp)), Bool.and_assoc]
    rw [this x.l (fun _ h => h)]
    simp only [stepC, Bool.and_assoc]
theorem sizeX_eq (x : Ex) : sizeX x = 1 + sizeXs x.l := by cases x; simp [sizeX, Ex.l]
theorem stepC_size (x : Ex) : ∀ (n : Nat) (b : Bool) (d : Int), n + sizeX x ≤ 1152921504606846976 → (foldX stepC ((n : Int), b) d x).1 = ((n + sizeX x : Nat) : Int) := by
  induction x using Ex.ind with
  | h x ih =>
    intro n b d hn
    rw [sizeX_eq] at hn
    have : ∀ (r : List Ex), (∀ y ∈ r, y ∈ x.l) → ∀ (n : Nat) (b : Bool) (d : Int), n + sizeXs r ≤ 1152921504606846976 → (foldXs stepC ((n : Int), b) d r).1 = ((n + sizeXs r : Nat) : Int) := by
      intro r
      induction r with
      | nil => intro _ n b d _; simp [foldXs, sizeXs]
      | cons y r ihr =>
        intro hy n b d hn
        simp only [foldXs, sizeXs] at hn ⊢
        have h1 := ih y (hy y (by simp)) n b d (by omega)
        have h2 : foldX stepC ((n : Int), b) d y = (((n + sizeX y : Nat) : Int), (foldX stepC ((n : Int), b) d y).2) := by rw [← h1]
        rw [h2, ihr (fun z hz => hy z (by simp [hz])) _ _ _ (by omega)]
        congr 1; omega
    rw [foldX_eq, sizeX_eq]
    have h3 : stepC ((n : Int), b) d x = (((n + 1 : Nat) : Int), b && rightP x) := by
      simp only [stepC]
      rw [w64_id (by omega) (by omega)]; rfl
    rw [h3, this x.l (fun _ h => h) _ _ _ (by omega)]
    congr 1; omega
theorem checkP_eq (x : Ex) (h : sizeX x ≤ 1152921504606846975) : checkP x = if 100 < sizeX x then 2 else if allR x = false then 1 else 0 := by
  have h1 := stepC_size x 0 true 1 (by omega)
  have h2 := stepC_all x (0, true) 1
  simp only [Bool.true_and] at h2
  simp only [checkP, h2]
  have : (foldX stepC (0, true) 1 x).1 = ((sizeX x : Nat) : Int) := by simpa using h1
  rw [this]
  by_cases h3 : 100 < sizeX x
  · rw [if_pos (by omega), if_pos h3]
  · rw [if_neg (by omega), if_neg h3]
def SayP (t : Tl) (x : Ex) : Vl × Int := if checkP x = 0 then sayP t x else (nullV, 1)
def HoldsP (t : Tl) (x : Ex) : Bool := decide ((SayP t x).2 = 0) && decide ((SayP t x).1 = boolV true)
theorem checkP_all {x : Ex} (h : checkP x = 0) : allR x = true := by
  have h2 := stepC_all x (0, true) 1
  simp only [Bool.true_and] at h2
  simp only [checkP, h2] at h
  split at h
  · cases h
  · split at h
    · cases h
    · rename_i h3; simpa using h3
theorem fn_nil (f : Nat) (a b : List AV) : binA Pg .eql 52 true (.fn (.func f) a b) (.raw .nilFunc) = some (B false) := by kernel_rfl
theorem fn_nil' (f : Nat) (a b : List AV) : binA Pg .neq 52 true (.fn (.func f) a b) (.raw .nilFunc) = some (B true) := by kernel_rfl
theorem c20 (t : Tl) (f : Nat) (cap : List AV) (x : Ex) (hok : allX okX x) (H : Heap) (Q : Post) (ht : Tells H (.fn (.func f) [] cap) t) (hq : ∀ H', HExt H H' → Q (encR (SayP t x)) H') : E 20 [encX x, .fn (.func f) [] cap] H Q := by
  rw [f20_eq, szX, ob_some, partX, ob_some]
  refine c28 x hok H _ (fun H1 he => ?_)
  have e5 := hq
  have z : encV nullV = encV nullV := rfl
  simp only [i_neq, ob_some, fn_nil, f20_j5_eq, c43, sz3, spl3, part3, partX]
  refine cnd_intro (fun h => ?_) (fun h => ?_)
  · have h0 : ¬ checkP x = 0 := by simpa using h
    have := hq H1 he
    simp only [SayP, if_neg h0] at this
    rw [cnd_t]; exact this
  · have h0 : checkP x = 0 := by simpa using h
    rw [cnd_f]
    refine c44 t _ x hok (checkP_all h0) H1 _ (ht.ext he) (fun H2 he2 => ?_)
    simp only [ext0, ext1, ob_some, sz3, spl3, part3]
    have := hq H2 (he.trans he2)
    simp only [SayP, if_pos h0] at this
    exact this
theorem c23 (t : Tl) (f : Nat) (cap : List AV) (x : Ex) (hok : allX okX x) (H : Heap) (Q : Post) (ht : Tells H (.fn (.func f) [] cap) t) (hq : ∀ H', HExt H H' → Q (B (HoldsP t x)) H') : E 23 [encX x, .fn (.func f) [] cap] H Q := by
  rw [f23_eq, szX, ob_some, partX, ob_some]
  refine c20 t f cap x hok H _ ht (fun H1 he => ?_)
  simp only [ext0, ext1, ob_some, sz3, spl3, part3, i_eql, c46, v_eql, f23_j6_eq]
  have := hq H1 he
  simp only [HoldsP] at this
  refine cnd_intro (fun h => ?_) (fun h => ?_)
  · rw [h, Bool.true_and] at this; exact this
  · rw [h, Bool.false_and] at this; exact this
/-- a constant -/
def constX (v : Vl) : Ex := .mk 1 v e0 e0 0 true .full []
end Go.Hx
