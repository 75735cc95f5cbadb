/- Contracts of layer 18: the document's texts of conditions; rows of conditions. Own work. -/
import Derived.Test.YtancdapnpceogaaGreatS5R
set_option maxRecDepth 20000
namespace Go.Hx
theorem c117 (k : Int) (h4 : 4 ≤ k) (h14 : k ≤ 14) (H : Heap) (Q : Post) (hq : Q (strT (tx (opS (k - 4).toNat))) H) : E 117 [I k] H Q := by
  have hm : mkSlA 1 [S ⟨#[43]⟩, S ⟨#[45]⟩, S ⟨#[42]⟩, S ⟨#[47]⟩, S ⟨#[37]⟩, S ⟨#[61]⟩, S ⟨#[60, 62]⟩, S ⟨#[60]⟩, S ⟨#[60, 61]⟩, S ⟨#[62]⟩, S ⟨#[62, 61]⟩] = some (.sl 1 false .full (signL.map S)) := rfl
  have hj : W64 (k - 4) = (((k - 4).toNat : Nat) : Int) := by rw [w64_id (by omega) (by omega)]; omega
  have hi : ∀ j : Nat, j < 11 → ixaA 1 (.sl 1 false .full (signL.map S)) (I j) = some [S (opS j)] := fun j hj => by
    match j, hj with
    | 0, _ | 1, _ | 2, _ | 3, _ | 4, _ | 5, _ | 6, _ | 7, _ | 8, _ | 9, _ | 10, _ => rfl
    | n + 11, h => exact absurd h (by omega)
  rw [f117_eq, hm, ob_some, i_sub, ob_some, hj, hi _ (by omega), ob_some, part_f, List.getElem?_cons_zero, ob_some]
  exact hq
def Puts (x : Ex) : Prop := ∀ (need : Int) (H : Heap) (Q : Post), (exprT x need).length ≤ 140737488355328 → Q (strT (exprT x need)) H → E 54 [encX x, I need] H Q
theorem c56 (w : List UInt8) (need : Int) (sz : Nat) (nil : Bool) (tip : Tip) (l : List Ex) (hn : l.length ≤ 1099511627776) (hp : ∀ x ∈ l, Puts x) (H : Heap) (Q : Post)
    (hl : (joinT (32 :: (w ++ [32])) need (bareTs l)).length ≤ 140737488355328) (hq : Q (strT (joinT (32 :: (w ++ [32])) need (bareTs l))) H) : E 56 [encXs sz nil tip l, strT w, I need] H Q := by
  have e32 : S ⟨#[32]⟩ = strT [32] := rfl
  have loop : ∀ (r pre : List Ex) (acc : List UInt8), l = pre ++ r → pre ≠ [] → acc.length + (joinR (32 :: (w ++ [32])) need (bareTs r)).length ≤ 140737488355328 → Q (strT (acc ++ joinR (32 :: (w ++ [32])) need (bareTs r))) H →
      f56_l8 (encXs sz nil tip l) (strT w) (I need) (strT acc) (I pre.length) H Q := by
    intro r
    induction r with
    | nil =>
      intro pre acc e _ hl hq
      have h1 : (pre.length : Int) = l.length := by rw [e]; simp
      rw [f56_l8_eq, lenX, ob_some, i_lss, ob_some, cnd_B, h1]
      simp only [Int.lt_irrefl, decide_false, Bool.false_eq_true, if_false]
      simpa [joinR, bareTs] using hq
    | cons x r ih =>
      intro pre acc e hne hl hq
      have hlt : pre.length < l.length := by rw [e]; simp
      have hlt' : (pre.length : Int) < l.length := by omega
      have hp0 : 0 < pre.length := List.length_pos_iff.2 hne
      have hgt : decide ((0 : Int) < (pre.length : Int)) = true := by simp; omega
      simp only [bareTs, joinR, List.length_append, List.length_cons, List.length_nil] at hl hq
      have hle : (exprT x need).length = (parT x (bareT x) need).length := rfl
      rw [f56_l8_eq, lenX, ob_some, i_lss, ob_some, cnd_B, if_pos (by simpa using hlt'), i_gtr, ob_some, hgt, cnd_t, e32, s_add _ _ _ _ (by simp only [List.length_singleton]; omega), ob_some, s_add _ _ _ _ (by simp only [List.length_append, List.length_singleton]; omega), ob_some,
        s_add _ _ _ _ (by simp only [List.length_append, List.length_singleton]; omega), ob_some, f56_j23_eq, ixX l sz nil tip pre r x e, ob_some, partX, ob_some]
      refine hp x (by rw [e]; simp) need H _ (by omega) ?_
      rw [s_add _ _ _ _ (by simp only [List.length_append, List.length_singleton]; omega), ob_some, i_add, ob_some, w64_succ hlt (by omega)]
      have := ih (pre ++ [x]) (acc ++ [32] ++ w ++ [32] ++ exprT x need) (by simp [e]) (by simp) (by simp only [List.length_append, List.length_singleton]; omega) (by simpa [exprT] using hq)
      rw [List.length_append, List.length_singleton] at this
      exact this
  rw [f56_eq]
  have e0s : S ⟨#[]⟩ = strT [] := rfl
  cases hc : l with
  | nil =>
    rw [hc] at hq
    rw [f56_l8_eq, lenX, ob_some, i_lss, ob_some, cnd_B]
    simp only [List.length_nil, Int.natCast_zero, Int.lt_irrefl, decide_false, Bool.false_eq_true, if_false]
    exact hq
  | cons x r =>
    rw [← hc]
    have hlt : 0 < l.length := by rw [hc]; simp
    have hlt' : (0 : Int) < l.length := by omega
    rw [hc] at hl hq
    simp only [bareTs, joinT, List.length_append] at hl hq
    have hle : (exprT x need).length = (parT x (bareT x) need).length := rfl
    have i1 : ixaA 7 (encXs sz nil tip l) (I 0) = some (encC x) := ixX l sz nil tip [] r x hc
    have h00 : decide ((0 : Int) < 0) = false := rfl
    rw [f56_l8_eq, lenX, ob_some, i_lss, ob_some, cnd_B, if_pos (by simpa using hlt'), i_gtr, ob_some, h00, cnd_f, f56_j23_eq, i1, ob_some, partX, ob_some]
    refine hp x (by rw [hc]; simp) need H _ (by omega) ?_
    rw [e0s, s_add _ _ _ _ (by simp only [List.length_nil]; omega), ob_some, i_add, ob_some]
    have h1 : W64 ((0 : Int) + 1) = (([x].length : Nat) : Int) := rfl
    rw [h1]
    exact loop r [x] _ (by simp [hc]) (by simp) (by simp only [List.nil_append]; omega) (by simpa [exprT] using hq)
theorem j45 (x : Ex) (need : Int) (t : List UInt8) (H : Heap) (Q : Post) (hl : (parT x t need).length ≤ 140737488355328) (hq : Q (strT (parT x t need)) H) : f54_j45 (I need) (strT t) (I (levelX x)) H Q := by
  rw [f54_j45_eq, i_lss, ob_some]
  simp only [parT] at hl hq
  refine cnd_intro (fun g => ?_) (fun g => ?_)
  · have g : ¬ need ≤ levelX x := by simp at g; omega
    rw [if_neg g] at hl hq
    simp only [List.length_cons, List.length_append, List.length_nil] at hl
    have e1 : S ⟨#[40]⟩ = strT [40] := rfl
    have e2 : S ⟨#[41]⟩ = strT [41] := rfl
    rw [e1, e2, s_add _ _ _ _ (by simp only [List.length_singleton]; omega), ob_some, s_add _ _ _ _ (by simp only [List.length_append, List.length_singleton]; omega), ob_some]
    simpa using hq
  · have g : need ≤ levelX x := by simp at g; omega
    rw [if_pos g] at hq
    exact hq
theorem j37 {y x : Ex} (hy : Puts y) (need : Int) (c : Bool) (hc : c = numP y) (H : Heap) (Q : Post) (hl : (parT x (45 :: (if numP y = true then 40 :: (exprT y 1 ++ [41]) else exprT y 7)) need).length ≤ 140737488355328)
    (hlb : (45 :: (if numP y = true then 40 :: (exprT y 1 ++ [41]) else exprT y 7)).length ≤ 140737488355328) (hq : Q (strT (parT x (45 :: (if numP y = true then 40 :: (exprT y 1 ++ [41]) else exprT y 7)) need)) H) : f54_j37 (I need) (I (levelX x)) (encC y) (B c) H Q := by
  rw [f54_j37_eq]
  refine cnd_intro (fun g => ?_) (fun g => ?_)
  · have hn : numP y = true := by rw [← hc, g]
    rw [if_pos hn] at hl hq hlb
    simp only [List.length_cons, List.length_append, List.length_nil] at hlb
    rw [partX, ob_some]
    refine hy 1 H _ (by omega) ?_
    have e1 : S ⟨#[45, 40]⟩ = strT [45, 40] := rfl
    have e2 : S ⟨#[41]⟩ = strT [41] := rfl
    rw [e1, e2, s_add _ _ _ _ (by simp only [List.length_cons, List.length_nil]; omega), ob_some, s_add _ _ _ _ (by simp only [List.length_append, List.length_cons, List.length_nil]; omega), ob_some]
    exact j45 x need ([45, 40] ++ exprT y 1 ++ [41]) H Q (by simpa using hl) (by simpa using hq)
  · have hn : ¬ numP y = true := by rw [← hc, g]; simp
    rw [if_neg hn] at hl hq hlb
    simp only [List.length_cons] at hlb
    rw [partX, ob_some]
    refine hy 7 H _ (by omega) ?_
    have e1 : S ⟨#[45]⟩ = strT [45] := rfl
    rw [e1, s_add _ _ _ _ (by simp only [List.length_cons, List.length_nil]; omega), ob_some]
    exact j45 x need ([45] ++ exprT y 7) H Q (by simpa using hl) (by simpa using hq)
theorem c54 (x : Ex) (hok : allX okX x) (hv : allX vX x) (hr : allR x = true) : Puts x := by
  induction x using Ex.ind with
  | h x ih =>
    rw [allX_eq] at hok hv
    rw [allR_eq, Bool.and_eq_true] at hr
    have hch : ∀ y ∈ x.l, Puts y := fun y hy => ih y hy (allXs_mem hok.2 hy) (allXs_mem hv.2 hy) (allRs_mem hr.2 hy)
    obtain ⟨hk1, hk17⟩ := right_k hr.1
    intro need H Q hl hq
    have hlb : (bareT x).length ≤ 140737488355328 := by
      simp only [exprT, parT] at hl
      split at hl
      · exact hl
      · simp only [List.length_cons, List.length_append, List.length_nil] at hl; omega
    have hJ := fun t (ht : bareT x = t) => j45 x need t H Q (by rw [← ht]; exact hl) (by rw [← ht]; exact hq)
    rw [bareT_eq, bareTs_map] at hJ hlb
    unfold bodyT at hJ hlb
    have hbt := bareTs_map x.l
    rw [f54_eq, szX, ob_some, partX, ob_some, c115 x hk1 hk17, part_f, p0X, ob_some, i_eql, ob_some]
    refine cnd_intro (fun g => ?_) (fun g => ?_)
    · have g : x.k = 1 := by simpa using g
      have hrv : rightV x.v = true := by
        have := hr.1
        simp only [rightP, g, if_true, Bool.and_eq_true] at this
        exact this.2.1
      rw [if_pos g] at hJ
      rw [partXV, ob_some]
      refine c116 x.v hv.1 hrv H _ ?_
      rw [x20, ob_some, x21, ob_some]
      exact hJ _ rfl
    have g1 : ¬ x.k = 1 := by simpa using g
    rw [ob_some, i_eql, ob_some]
    refine cnd_intro (fun g => ?_) (fun g => ?_)
    · have g : x.k = 2 := by simpa using g
      rw [if_neg g1, if_pos g] at hJ hlb
      rw [part_f, p4X, ob_some]
      have e46 : S ⟨#[46]⟩ = strT [46] := rfl
      simp only [List.length_append, List.length_cons] at hlb
      rw [strT_tx x.var, e46, s_add _ _ _ _ (by simp only [List.length_singleton]; omega), ob_some, part_f, p5X, ob_some, strT_tx x.fld, s_add _ _ _ _ (by simp only [List.length_singleton, List.length_append]; omega), ob_some]
      exact hJ _ (by simp)
    have g2 : ¬ x.k = 2 := by simpa using g
    have hlen := rightP_len hr.1 g1 g2
    rw [if_neg g1, if_neg g2] at hJ hlb
    rw [ob_some, i_eql, ob_some]
    refine cnd_intro (fun g => ?_) (fun g => ?_)
    · have g : x.k = 17 := by simpa using g
      have g3 : ¬ x.k = 3 := by omega
      rw [if_neg g3, if_pos g, ← hbt] at hJ hlb
      rw [part_f, p6X, ob_some]
      exact c56 [79, 82] 2 x.sz x.nil x.tip x.l hok.1.1 hch H _ hlb (hJ _ rfl)
    have g17 : ¬ x.k = 17 := by simpa using g
    rw [if_neg g17] at hJ hlb
    rw [ob_some, i_eql, ob_some]
    refine cnd_intro (fun g => ?_) (fun g => ?_)
    · have g : x.k = 16 := by simpa using g
      have g3 : ¬ x.k = 3 := by omega
      rw [if_neg g3, if_pos g, ← hbt] at hJ hlb
      rw [part_f, p6X, ob_some]
      exact c56 [65, 78, 68] 3 x.sz x.nil x.tip x.l hok.1.1 hch H _ hlb (hJ _ rfl)
    have g16 : ¬ x.k = 16 := by simpa using g
    rw [if_neg g16] at hJ hlb
    rw [ob_some, i_eql, ob_some]
    refine cnd_intro (fun g => ?_) (fun g => ?_)
    · have g : x.k = 15 := by simpa using g
      have g3 : ¬ x.k = 3 := by omega
      obtain ⟨y, hy⟩ := one_of (l := x.l) (by omega)
      rw [if_neg g3, if_pos g, hy] at hJ hlb
      simp only [List.map_cons, List.map_nil, List.length_append] at hJ hlb
      have i0 : ixaA 7 (encXs x.sz x.nil x.tip x.l) (I 0) = some (encC y) := ixX x.l x.sz x.nil x.tip [] [] y hy
      have hNl : sNOT.length = 4 := rfl
      rw [hNl] at hlb
      have hle : (exprT y 3).length = (parT y (bareT y) 3).length := rfl
      rw [part_f, p6X, ob_some, i0, ob_some, partX, ob_some]
      refine hch y (by rw [hy]; simp) 3 H _ (by omega) ?_
      have e1 : S ⟨#[78, 79, 84, 32]⟩ = strT sNOT := rfl
      rw [e1, s_add _ _ _ _ (by rw [hNl]; omega), ob_some]
      exact hJ _ rfl
    have g15 : ¬ x.k = 15 := by simpa using g
    rw [ob_some, i_eql, ob_some]
    refine cnd_intro (fun g => ?_) (fun g => ?_)
    · have g : x.k = 3 := by simpa using g
      obtain ⟨y, hy⟩ := one_of (l := x.l) (by omega)
      rw [if_pos g, hy] at hJ hlb
      have i0 : ixaA 7 (encXs x.sz x.nil x.tip x.l) (I 0) = some (encC y) := ixX x.l x.sz x.nil x.tip [] [] y hy
      have hb : bareT x = 45 :: (if numP y = true then 40 :: (exprT y 1 ++ [41]) else exprT y 7) := by
        rw [bareT_eq, bareTs_map, hy]
        unfold bodyT
        rw [if_neg g1, if_neg g2, if_pos g]
        rfl
      have hJ' := fun (c : Bool) (hc : c = numP y) => j37 (x := x) (hch y (by rw [hy]; simp)) need c hc H Q (by rw [← hb]; exact hl) hlb (by rw [← hb]; exact hq)
      rw [part_f, p6X, ob_some, i0, ob_some, partX, ob_some, szX, ob_some, splX, ob_some, part_f, p0X, ob_some, i_eql, ob_some]
      refine cnd_intro (fun q1 => ?_) (fun q1 => hJ' false (by simp [numP, numK, q1]))
      rw [part_f, partV1, ob_some, i_eql, ob_some]
      refine cnd_intro (fun q2 => ?_) (fun q2 => hJ' false (by simp [numP, numK, q2]))
      rw [part_f, partV2, ob_some, i_geq, ob_some]
      exact hJ' _ (by simp [numP, numK, q1, q2])
    have g3 : ¬ x.k = 3 := by simpa using g
    rw [if_neg g3, if_neg g15] at hJ hlb
    have h4 : 4 ≤ x.k := by omega
    have h14 : x.k ≤ 14 := by omega
    obtain ⟨y, z, hyz⟩ := two_of (l := x.l) (by omega)
    have hy := hch y (by rw [hyz]; simp)
    have hz := hch z (by rw [hyz]; simp)
    rw [hyz] at hJ hlb
    simp only [List.map_cons, List.map_nil] at hJ hlb
    have hsl := sign_len (x.k - 4).toNat
    simp only [List.length_append, List.length_cons, List.length_nil] at hlb
    have hly : (exprT y (need1 x.k)).length = (parT y (bareT y) (need1 x.k)).length := rfl
    have hlz : (exprT z (need2 x.k)).length = (parT z (bareT z) (need2 x.k)).length := rfl
    have i0 : ixaA 7 (encXs x.sz x.nil x.tip x.l) (I 0) = some (encC y) := ixX x.l x.sz x.nil x.tip [] [z] y hyz
    have i1 : ixaA 7 (encXs x.sz x.nil x.tip x.l) (I 1) = some (encC z) := ixX x.l x.sz x.nil x.tip [y] [] z hyz
    have e32 : S ⟨#[32]⟩ = strT [32] := rfl
    have two : ∀ a b : Int, a = need1 x.k → b = need2 x.k → E 54 [encX y, I a] H fun r57 H58 => ob (binA Pg .add 9 true r57 (S ⟨#[32]⟩)) fun r59 => E 117 [I x.k] H58 fun r60 H61 => ob (binA Pg .add 9 false r59 r60) fun r62 => ob (binA Pg .add 9 true r62 (S ⟨#[32]⟩)) fun r63 =>
        E 54 [encX z, I b] H61 fun r64 H65 => ob (binA Pg .add 9 false r63 r64) fun r66 => f54_j45 (I need) r66 (I (levelX x)) H65 Q := fun a b ha hb => by
      subst ha hb
      refine hy (need1 x.k) H _ (by omega) ?_
      rw [e32, s_add _ _ _ _ (by simp only [List.length_singleton]; omega), ob_some]
      refine c117 x.k h4 h14 H _ ?_
      rw [s_add _ _ _ _ (by simp only [List.length_append, List.length_singleton]; omega), ob_some, s_add _ _ _ _ (by simp only [List.length_append, List.length_singleton]; omega), ob_some]
      refine hz (need2 x.k) H _ (by omega) ?_
      rw [s_add _ _ _ _ (by simp only [List.length_append, List.length_singleton]; omega), ob_some]
      exact hJ _ (by simp [exprT])
    rw [i_eql, ob_some]
    refine cnd_intro (fun g => ?_) (fun g => ?_)
    · have h9 : 9 ≤ x.k := by
        simp only [levelX, g17, g16, g15, if_false, decide_eq_true_eq] at g
        by_cases k : 9 ≤ x.k
        · exact k
        · simp only [k, if_false] at g
          repeat' split at g
          all_goals omega
      rw [part_f, p6X, ob_some, i0, ob_some, partX, ob_some, ob_some, ob_some, i1, ob_some, partX, ob_some]
      exact two 5 5 (by simp [need1, h9]) (by simp [need2, h9])
    · have h9 : ¬ 9 ≤ x.k := fun k => by simp [levelX, g17, g16, g15, k] at g
      rw [part_f, p6X, ob_some, i0, ob_some, partX, ob_some, ob_some, ob_some, i1, ob_some, partX, ob_some, i_add, ob_some]
      by_cases h6 : 6 ≤ x.k
      · have hlv : levelX x = 6 := by simp only [levelX, g17, g16, g15, h9, h6, if_false, if_true]
        have t2 := two 6 7 (by simp [need1, h9, h6]) (by simp [need2, h9, h6])
        rw [hlv] at t2 ⊢
        exact t2
      · have hlv : levelX x = 5 := by simp only [levelX, g17, g16, g15, h9, h6, h4, if_false, if_true]
        have t2 := two 5 6 (by simp [need1, h9, h6]) (by simp [need2, h9, h6])
        rw [hlv] at t2 ⊢
        exact t2
end Go.Hx
