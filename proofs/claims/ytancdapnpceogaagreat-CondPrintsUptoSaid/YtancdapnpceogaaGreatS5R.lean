/- Contracts of layer 18: a condition is printed. Own work. -/
import Derived.Test.YtancdapnpceogaaGreatS5Q
set_option maxRecDepth 20000
namespace Go.Hx
abbrev top47 : Nat := 140737488355328
def Prints (x : Ex) : Prop := ∀ (b : Nat) (H0 H : Heap) (t : List UInt8) (Q : Post), Bld H0 b t H → t.length + (bareT x).length ≤ 140737488355328 → (∀ H', Bld H0 b (t ++ bareT x) H' → Q (.tup []) H') → E 113 [Pt b, encX x] H Q
theorem c52 {x : Ex} (hx : Prints x) (need : Int) (b : Nat) (H0 H : Heap) (t : List UInt8) (Q : Post) (h : Bld H0 b t H) (hl : t.length + (exprT x need).length ≤ 140737488355328)
    (hq : ∀ H', Bld H0 b (t ++ exprT x need) H' → Q (.tup []) H') : E 52 [Pt b, encX x, I need] H Q := by
  rw [f52_eq, szX, ob_some, partX, ob_some, c112, i_geq, ob_some]
  simp only [exprT, parT] at hl hq
  refine cnd_intro (fun g => ?_) (fun g => ?_)
  · rw [if_pos (by simpa using g)] at hl hq
    rw [ob_some]
    exact hx b H0 H t _ h hl hq
  · rw [if_neg (by simpa using g)] at hl hq
    simp only [List.length_cons, List.length_append, List.length_nil] at hl
    simp only [nil_Pt, add0_Pt, ob_some]
    refine c114 b 40 H0 H t _ h (by omega) (fun _ H1 h1 => ?_)
    refine hx b H0 H1 (t ++ [40]) _ h1 (by simp only [List.length_append, List.length_singleton]; omega) (fun H2 h2 => ?_)
    refine c114 b 41 H0 H2 _ _ h2 (by simp only [List.length_append, List.length_singleton]; omega) (fun _ H3 h3 => ?_)
    exact hq H3 (by simpa using h3)
theorem c55 (sep : ByteArray) (need : Int) (sz : Nat) (nil : Bool) (tip : Tip) (l : List Ex) (hn : l.length ≤ 1099511627776) (hp : ∀ x ∈ l, Prints x) (b : Nat) (H0 H : Heap) (t : List UInt8) (Q : Post) (h : Bld H0 b t H)
    (hl : t.length + (joinT (tx sep) need (bareTs l)).length ≤ 140737488355328) (hq : ∀ H', Bld H0 b (t ++ joinT (tx sep) need (bareTs l)) H' → Q (.tup []) H') : E 55 [Pt b, encXs sz nil tip l, S sep, I need] H Q := by
  have loop : ∀ (r pre : List Ex) (t : List UInt8) (H : Heap), l = pre ++ r → pre ≠ [] → Bld H0 b t H → t.length + (joinR (tx sep) need (bareTs r)).length ≤ 140737488355328 → (∀ H', Bld H0 b (t ++ joinR (tx sep) need (bareTs r)) H' → Q (.tup []) H') →
      f55_l3 (Pt b) (S sep) (I need) (encXs sz nil tip l) (I l.length) (I pre.length) H Q := by
    intro r
    induction r with
    | nil =>
      intro pre t H e _ h hl hq
      have h1 : (pre.length : Int) = l.length := by rw [e]; simp
      rw [f55_l3_eq, i_lss, ob_some, cnd_B, h1]
      simp only [Int.lt_irrefl, decide_false, Bool.false_eq_true, if_false]
      exact hq H (by simpa [joinR, bareTs] using h)
    | cons x r ih =>
      intro pre t H e hne h hl hq
      have hlt : pre.length < l.length := by rw [e]; simp
      have hlt' : (pre.length : Int) < l.length := by omega
      have hp0 : 0 < pre.length := List.length_pos_iff.2 hne
      have hgt : decide ((0 : Int) < (pre.length : Int)) = true := by simp; omega
      simp only [bareTs, joinR, List.length_append] at hl hq
      rw [f55_l3_eq, i_lss, ob_some, cnd_B, if_pos (by simpa using hlt'), ixX l sz nil tip pre r x e, ob_some, partX, ob_some, szX, ob_some, splX, ob_some, i_gtr, ob_some, hgt, cnd_t, nil_Pt, ob_some, add0_Pt, ob_some]
      refine c118 b sep H0 H t _ h (by omega) (fun _ H1 h1 => ?_)
      rw [f55_j20_eq, partX, ob_some]
      refine c52 (hp x (by rw [e]; simp)) need b H0 H1 _ _ h1 (by simp only [List.length_append, exprT]; omega) (fun H2 h2 => ?_)
      rw [i_add, ob_some, w64_succ hlt (by omega)]
      have := ih (pre ++ [x]) _ H2 (by simp [e]) (by simp) h2 (by simp only [List.length_append, exprT]; omega) (fun H' h' => hq H' (by simpa [exprT] using h'))
      rw [List.length_append, List.length_singleton] at this
      exact this
  rw [f55_eq, lenX, ob_some]
  cases hc : l with
  | nil =>
    rw [hc] at hq
    rw [f55_l3_eq, i_lss, ob_some, cnd_B]
    simp only [List.length_nil, Int.natCast_zero, Int.lt_irrefl, decide_false, Bool.false_eq_true, if_false]
    exact hq H (by simpa [joinT, bareTs] using h)
  | cons x r =>
    rw [← hc]
    have hlt : 0 < l.length := by rw [hc]; simp
    have hlt' : (0 : Int) < l.length := by omega
    rw [hc] at hl hq
    simp only [bareTs, joinT, List.length_append] at hl hq
    have i1 : ixaA 7 (encXs sz nil tip l) (I 0) = some (encC x) := ixX l sz nil tip [] r x hc
    have h00 : decide ((0 : Int) < 0) = false := rfl
    rw [f55_l3_eq, i_lss, ob_some, cnd_B, if_pos (by simpa using hlt'), i1, ob_some, partX, ob_some, szX, ob_some, splX, ob_some, i_gtr, ob_some, h00, cnd_f, f55_j20_eq, partX, ob_some]
    refine c52 (hp x (by rw [hc]; simp)) need b H0 H t _ h (by simp only [exprT]; omega) (fun H2 h2 => ?_)
    rw [i_add, ob_some]
    have h1 : W64 ((0 : Int) + 1) = (([x].length : Nat) : Int) := rfl
    rw [h1]
    exact loop r [x] _ H2 (by simp [hc]) (by simp) h2 (by simp only [List.length_append, exprT]; omega) (fun H' h' => hq H' (by simpa [exprT] using h'))
theorem c194 {y : Ex} (hy : Prints y) (b : Nat) (H0 H : Heap) (t : List UInt8) (Q : Post) (h : Bld H0 b t H)
    (hl : t.length + (45 :: (if numP y = true then 40 :: (exprT y 1 ++ [41]) else exprT y 7) : List UInt8).length ≤ 140737488355328)
    (hq : ∀ H', Bld H0 b (t ++ 45 :: (if numP y = true then 40 :: (exprT y 1 ++ [41]) else exprT y 7)) H' → Q (.tup []) H') : E 194 [Pt b, encX y] H Q := by
  rw [f194_eq, szX, ob_some, nil_Pt, ob_some, add0_Pt, ob_some]
  simp only [List.length_cons] at hl
  refine c114 b 45 H0 H t _ h (by omega) (fun _ H1 h1 => ?_)
  rw [partX, ob_some, c192, x20, ob_some, x21, ob_some]
  have j9 : ∀ c : Bool, c = numP y → f194_j9 (Pt b) (encC y) (B c) H1 Q := fun c hc => by
    rw [f194_j9_eq]
    refine cnd_intro (fun g => ?_) (fun g => ?_)
    · have hn : numP y = true := by rw [← hc, g]
      rw [if_pos hn] at hl hq
      simp only [List.length_cons, List.length_append, List.length_nil] at hl
      rw [nil_Pt, ob_some, add0_Pt, ob_some]
      refine c114 b 40 H0 H1 _ _ h1 (by simp only [List.length_append, List.length_singleton]; omega) (fun _ H2 h2 => ?_)
      rw [partX, ob_some]
      refine c52 hy 1 b H0 H2 _ _ h2 (by simp only [List.length_append, List.length_singleton]; omega) (fun H3 h3 => ?_)
      refine c114 b 41 H0 H3 _ _ h3 (by simp only [List.length_append, List.length_singleton]; omega) (fun _ H4 h4 => ?_)
      exact hq H4 (by simpa using h4)
    · have hn : ¬ numP y = true := by rw [← hc, g]; simp
      rw [if_neg hn] at hl hq
      rw [partX, ob_some]
      exact c52 hy 7 b H0 H1 _ _ h1 (by simp only [List.length_append, List.length_singleton]; omega) (fun H3 h3 => hq H3 (by simpa using h3))
  refine cnd_intro (fun g => ?_) (fun g => ?_)
  · rw [i_geq, ob_some]
    exact j9 _ (by simp [numP, g])
  · exact j9 false (by simp [numP, g])
def signC : List AV := [S ⟨#[43]⟩, I 4, S ⟨#[45]⟩, I 5, S ⟨#[42]⟩, I 6, S ⟨#[47]⟩, I 7, S ⟨#[37]⟩, I 8, S ⟨#[61]⟩, I 9, S ⟨#[60, 62]⟩, I 10, S ⟨#[60]⟩, I 11, S ⟨#[60, 61]⟩, I 12, S ⟨#[62]⟩, I 13, S ⟨#[62, 61]⟩, I 14]
theorem c261 (H : Heap) (Q : Post) (hq : ∀ H', HExt H H' → Q (.agg signC) H') : E 261 [] H Q := by
  rw [f261_eq]
  intro b hb
  have b2 : ∀ (s : ByteArray) (n : Int), bldA [(0, 1, S s), (1, 1, I n)] [S e0, I 0] = some (.agg [S s, I n]) := fun _ _ => rfl
  simp only [b2, ob_some]
  have hb' : bldA [(0, 2, .agg [S ⟨#[43]⟩, I 4]), (2, 2, .agg [S ⟨#[45]⟩, I 5]), (4, 2, .agg [S ⟨#[42]⟩, I 6]), (6, 2, .agg [S ⟨#[47]⟩, I 7]), (8, 2, .agg [S ⟨#[37]⟩, I 8]), (10, 2, .agg [S ⟨#[61]⟩, I 9]), (12, 2, .agg [S ⟨#[60, 62]⟩, I 10]), (14, 2, .agg [S ⟨#[60]⟩, I 11]), (16, 2, .agg [S ⟨#[60, 61]⟩, I 12]), (18, 2, .agg [S ⟨#[62]⟩, I 13]), (20, 2, .agg [S ⟨#[62, 61]⟩, I 14])]
    [S e0, I 0, S e0, I 0, S e0, I 0, S e0, I 0, S e0, I 0, S e0, I 0, S e0, I 0, S e0, I 0, S e0, I 0, S e0, I 0, S e0, I 0] = some (.agg signC) := rfl
  rw [hb', ob_some]
  have o1 := setObj_same H b (.cells [S e0, I 0, S e0, I 0, S e0, I 0, S e0, I 0, S e0, I 0, S e0, I 0, S e0, I 0, S e0, I 0, S e0, I 0, S e0, I 0, S e0, I 0])
  have e1 : HExt H (H.setObj b (.cells [S e0, I 0, S e0, I 0, S e0, I 0, S e0, I 0, S e0, I 0, S e0, I 0, S e0, I 0, S e0, I 0, S e0, I 0, S e0, I 0, S e0, I 0])) := (HExt.refl H).setObj hb _
  simp only [Pt_def]
  generalize H.setObj b (.cells [S e0, I 0, S e0, I 0, S e0, I 0, S e0, I 0, S e0, I 0, S e0, I 0, S e0, I 0, S e0, I 0, S e0, I 0, S e0, I 0, S e0, I 0]) = H1 at o1 e1 ⊢
  have hs := st_agg o1 (xs := signC) rfl 22 rfl
  rw [hs, ob_some, ld_agg (setObj_same _ _ _) 22 rfl, ob_some]
  exact hq _ (e1.setObj hb _)
theorem sign_ix {j : Nat} (h : j < 11) (K : AV → Prop) (hk : K (S (opS j))) : ob (ixAgg 11 true 2 (.agg signC) (I j)) fun r13 => fldK false 0 1 r13 K := by
  match j, h with
  | 0, _ | 1, _ | 2, _ | 3, _ | 4, _ | 5, _ | 6, _ | 7, _ | 8, _ | 9, _ | 10, _ => exact hk
  | n + 11, h => exact absurd h (by omega)
theorem c195 {x y z : Ex} (hx : x.l = [y, z]) (h4 : 4 ≤ x.k) (h14 : x.k ≤ 14) (hy : Prints y) (hz : Prints z) (n1 n2 : Int) (b : Nat) (H0 H : Heap) (t : List UInt8) (Q : Post) (h : Bld H0 b t H)
    (hl : t.length + (exprT y n1 ++ ((32 :: (tx (opS (x.k - 4).toNat) ++ [32])) ++ exprT z n2)).length ≤ 140737488355328)
    (hq : ∀ H', Bld H0 b (t ++ (exprT y n1 ++ ((32 :: (tx (opS (x.k - 4).toNat) ++ [32])) ++ exprT z n2))) H' → Q (.tup []) H') : E 195 [Pt b, encX x, I n1, I n2] H Q := by
  simp only [List.length_append, List.length_cons, List.length_nil] at hl
  have i0 : ixaA 7 (encXs x.sz x.nil x.tip x.l) (I 0) = some (encC y) := ixX x.l x.sz x.nil x.tip [] [z] y hx
  have i1 : ixaA 7 (encXs x.sz x.nil x.tip x.l) (I 1) = some (encC z) := ixX x.l x.sz x.nil x.tip [y] [] z hx
  rw [f195_eq, szX, ob_some, part_f, p6X, ob_some, i0, ob_some, partX, ob_some]
  refine c52 hy n1 b H0 H t _ h (by omega) (fun H1 h1 => ?_)
  simp only [nil_Pt, add0_Pt, ob_some, part_f, p0X, i_sub]
  refine c261 H1 _ (fun H2 e2 => ?_)
  have hj : W64 (x.k - 4) = (((x.k - 4).toNat : Nat) : Int) := by rw [w64_id (by omega) (by omega)]; omega
  rw [hj]
  have hsl := sign_len (x.k - 4).toNat
  refine sign_ix (by omega) _ ?_
  have e32 : S ⟨#[32]⟩ = strT [32] := rfl
  rw [e32, strT_tx (opS (x.k - 4).toNat), s_add _ _ _ _ (by simp only [List.length_singleton]; omega), ob_some, s_add _ _ _ _ (by simp only [List.length_singleton, List.length_append]; omega), ob_some]
  refine c118 b ⟨([32] ++ tx (opS (x.k - 4).toNat) ++ [32]).toArray⟩ H0 H2 _ _ (h1.mono e2) (by rw [tx_str]; simp only [List.length_append, List.length_singleton]; omega) (fun _ H3 h3 => ?_)
  rw [i1, ob_some, partX, ob_some]
  refine c52 hz n2 b H0 H3 _ _ h3 (by rw [tx_str]; simp only [List.length_append, List.length_singleton]; omega) (fun H4 h4 => ?_)
  exact hq H4 (by rw [tx_str] at h4; simpa using h4)
theorem one_of {l : List Ex} (h : l.length = 1) : ∃ y, l = [y] := by
  match l, h with
  | [y], _ => exact ⟨y, rfl⟩
theorem two_of {l : List Ex} (h : l.length = 2) : ∃ y z, l = [y, z] := by
  match l, h with
  | [y, z], _ => exact ⟨y, z, rfl⟩
theorem c113 (x : Ex) (hok : allX okX x) (hv : allX vX x) (hr : allR x = true) : Prints x := by
  induction x using Ex.ind with
  | h x ih =>
    rw [allX_eq] at hok hv
    rw [allR_eq, Bool.and_eq_true] at hr
    have hch : ∀ y ∈ x.l, Prints y := fun y hy => ih y hy (allXs_mem hok.2 hy) (allXs_mem hv.2 hy) (allRs_mem hr.2 hy)
    obtain ⟨hk1, hk17⟩ := right_k hr.1
    intro b H0 H t Q h hl hq
    rw [bareT_eq, bareTs_map] at hl hq
    unfold bodyT at hl hq
    have hbt := bareTs_map x.l
    rw [f113_eq, szX, ob_some, partX, ob_some, c112]
    rw [part_f, p0X, ob_some, i_eql, ob_some]
    refine cnd_intro (fun g => ?_) (fun g => ?_)
    · have g : x.k = 1 := by simpa using g
      have hrv : rightV x.v = true := by
        have := hr.1
        simp only [rightP, g, if_true, Bool.and_eq_true] at this
        exact this.2.1
      rw [if_pos g] at hl hq
      rw [partXV, ob_some]
      refine c193 x.v hv.1 hrv H _ (fun H1 e1 => ?_)
      simp only [x20, x21, ob_some, nil_Pt, add0_Pt]
      exact c118 b ⟨(valT x.v).toArray⟩ H0 H1 t _ (h.mono e1) (by rw [tx_str]; exact hl) (fun _ H2 h2 => hq H2 (by rw [tx_str] at h2; exact h2))
    have g1 : ¬ x.k = 1 := by simpa using g
    rw [ob_some, i_eql, ob_some]
    refine cnd_intro (fun g => ?_) (fun g => ?_)
    · have g : x.k = 2 := by simpa using g
      rw [if_neg g1, if_pos g] at hl hq
      have hlx : (tx x.var).length + 1 ≤ 140737488355328 := by simp only [List.length_append, List.length_cons] at hl; omega
      rw [nil_Pt, ob_some, add0_Pt, ob_some, part_f, p4X, ob_some]
      have e46 : S ⟨#[46]⟩ = strT [46] := rfl
      simp only [List.length_append, List.length_cons] at hl
      rw [strT_tx x.var, e46, s_add _ _ _ _ (by simp only [List.length_singleton]; omega), ob_some, part_f, p5X, ob_some, strT_tx x.fld, s_add _ _ _ _ (by simp only [List.length_singleton, List.length_append]; omega), ob_some]
      exact c118 b ⟨(tx x.var ++ [46] ++ tx x.fld).toArray⟩ H0 H t _ h (by rw [tx_str]; simp only [List.length_append, List.length_singleton]; omega) (fun _ H2 h2 => hq H2 (by rw [tx_str] at h2; simpa using h2))
    have g2 : ¬ x.k = 2 := by simpa using g
    have hlen := rightP_len hr.1 g1 g2
    rw [ob_some, i_eql, ob_some]
    rw [if_neg g1, if_neg g2] at hl hq
    refine cnd_intro (fun g => ?_) (fun g => ?_)
    · have g : x.k = 3 := by simpa using g
      obtain ⟨y, hy⟩ := one_of (l := x.l) (by omega)
      rw [if_pos g, hy] at hl hq
      have i0 : ixaA 7 (encXs x.sz x.nil x.tip x.l) (I 0) = some (encC y) := ixX x.l x.sz x.nil x.tip [] [] y hy
      rw [part_f, p6X, ob_some, i0, ob_some, partX, ob_some]
      exact c194 (hch y (by rw [hy]; simp)) b H0 H t _ h hl hq
    have g3 : ¬ x.k = 3 := by simpa using g
    rw [if_neg g3] at hl hq
    rw [i_eql, ob_some]
    refine cnd_intro (fun g => ?_) (fun g => ?_)
    · have g : x.k = 17 := by
        simp only [levelX] at g
        by_cases k : x.k = 17
        · exact k
        · simp only [k, if_false, decide_eq_true_eq] at g
          repeat' split at g
          all_goals omega
      rw [if_pos g, ← hbt] at hl hq
      rw [part_f, p6X, ob_some]
      exact c55 ⟨#[32, 79, 82, 32]⟩ 2 x.sz x.nil x.tip x.l hok.1.1 hch b H0 H t _ h hl hq
    have g17 : ¬ x.k = 17 := fun k => by simp [levelX, k] at g
    rw [if_neg g17] at hl hq
    rw [i_eql, ob_some]
    refine cnd_intro (fun g => ?_) (fun g => ?_)
    · have g : x.k = 16 := by
        simp only [levelX, g17, if_false] at g
        by_cases k : x.k = 16
        · exact k
        · simp only [k, if_false, decide_eq_true_eq] at g
          repeat' split at g
          all_goals omega
      rw [if_pos g, ← hbt] at hl hq
      rw [part_f, p6X, ob_some]
      exact c55 ⟨#[32, 65, 78, 68, 32]⟩ 3 x.sz x.nil x.tip x.l hok.1.1 hch b H0 H t _ h hl hq
    have g16 : ¬ x.k = 16 := fun k => by simp [levelX, k] at g
    rw [if_neg g16] at hl hq
    rw [i_eql, ob_some]
    refine cnd_intro (fun g => ?_) (fun g => ?_)
    · have g : x.k = 15 := by
        simp only [levelX, g17, g16, if_false] at g
        by_cases k : x.k = 15
        · exact k
        · simp only [k, if_false, decide_eq_true_eq] at g
          repeat' split at g
          all_goals omega
      obtain ⟨y, hy⟩ := one_of (l := x.l) (by omega)
      rw [if_pos g, hy] at hl hq
      simp only [List.map_cons, List.map_nil, List.length_append] at hl hq
      have i0 : ixaA 7 (encXs x.sz x.nil x.tip x.l) (I 0) = some (encC y) := ixX x.l x.sz x.nil x.tip [] [] y hy
      rw [nil_Pt, ob_some, add0_Pt, ob_some]
      have hN : tx ⟨#[78, 79, 84, 32]⟩ = sNOT := rfl
      have hNl : sNOT.length = 4 := rfl
      rw [hNl] at hl
      have hle : (exprT y 3).length = (parT y (bareT y) 3).length := rfl
      refine c118 b ⟨#[78, 79, 84, 32]⟩ H0 H t _ h (by rw [hN, hNl]; omega) (fun _ H1 h1 => ?_)
      rw [hN] at h1
      rw [part_f, p6X, ob_some, i0, ob_some, partX, ob_some]
      refine c52 (hch y (by rw [hy]; simp)) 3 b H0 H1 _ _ h1 (by rw [List.length_append, hNl, hle]; omega) (fun H2 h2 => hq H2 ?_)
      rw [List.append_assoc] at h2
      exact h2
    have g15 : ¬ x.k = 15 := fun k => by simp [levelX, k] at g
    rw [if_neg g15] at hl hq
    rw [i_eql, ob_some]
    have h4 : 4 ≤ x.k := by omega
    have h14 : x.k ≤ 14 := by omega
    obtain ⟨y, z, hyz⟩ := two_of (l := x.l) (by omega)
    have hy := hch y (by rw [hyz]; simp)
    have hz := hch z (by rw [hyz]; simp)
    rw [hyz] at hl hq
    simp only [List.map_cons, List.map_nil] at hl hq
    refine cnd_intro (fun g => ?_) (fun g => ?_)
    · have h9 : 9 ≤ x.k := by
        simp only [levelX, g17, g16, g15, if_false, decide_eq_true_eq] at g
        by_cases k : 9 ≤ x.k
        · exact k
        · simp only [k, if_false] at g
          repeat' split at g
          all_goals omega
      simp only [need1, need2, if_pos h9] at hl hq
      rw [ob_some]
      exact c195 hyz h4 h14 hy hz 5 5 b H0 H t _ h hl hq
    · have h9 : ¬ 9 ≤ x.k := fun k => by simp [levelX, g17, g16, g15, k] at g
      by_cases h6 : 6 ≤ x.k
      · have hlv : levelX x = 6 := by simp only [levelX, g17, g16, g15, h9, h6, if_false, if_true]
        simp only [need1, need2, if_neg h9, if_pos h6] at hl hq
        rw [ob_some, hlv, i_add, ob_some]
        exact c195 hyz h4 h14 hy hz 6 7 b H0 H t _ h hl hq
      · have hlv : levelX x = 5 := by simp only [levelX, g17, g16, g15, h9, h6, h4, if_false, if_true]
        simp only [need1, need2, if_neg h9, if_neg h6] at hl hq
        rw [ob_some, hlv, i_add, ob_some]
        exact c195 hyz h4 h14 hy hz 5 6 b H0 H t _ h hl hq
end Go.Hx
