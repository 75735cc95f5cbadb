/- CondPrints, but for its row: the law's contract. Own work. -/
import Derived.Test.YtancdapnpceogaaGreatS5IN
set_option maxRecDepth 20000
namespace Go.Hx
theorem i27_eql (t : Bool) (a b : Int) : binA Pg .eql 27 t (I a) (I b) = some (B (decide (a = b))) := i_eql 27 t a b
theorem rowA_0 (l : List Ex) : ∃ s e, rowA l = .tup [S s, I e] := by
  simp only [rowA]
  split
  · exact ⟨_, _, rfl⟩
  · split
    · exact ⟨_, _, rfl⟩
    · exact ⟨_, _, rfl⟩
theorem printA_0 (x : Ex) : ∃ s e, printA x = .tup [S s, I e] := by
  simp only [printA]
  split <;> exact ⟨_, _, rfl⟩
theorem c4 (x : Ex) (hx : allX okX x) (hv : allX vX x) (hs : sizeX x ≤ 1048576) (sz : Nat) (nil : Bool) (tip : Tip) (l : List Ex) (hl : ∀ y ∈ l, allX okX y ∧ allX vX y) (hls : sizeXs l ≤ 1048576) (H : Heap) (Q : Post) (hq : ∀ H', HExt H H' → Q (B true) H') :
    E 4 [encX x, encXs sz nil tip l] H Q := by
  have hll := len_sizeXs l
  have hok : OkL l := ⟨by omega, fun y hy => (hl y hy).1, fun y hy => (hl y hy).2, by omega⟩
  obtain ⟨ps, pe, hp⟩ := printA_0 x
  obtain ⟨rs, re, hr⟩ := rowA_0 l
  have d9 : ∀ s : ByteArray, decide (s = s) = true := fun s => decide_eq_true rfl
  have d3 : ∀ s : Int, decide (s = s) = true := fun s => decide_eq_true rfl
  have fin : ∀ H1, HExt H H1 → E 18 [] H1 (fun r8 H9 => Q r8 H9) := fun H1 h1 => c18 H1 _ (fun H2 h2 => hq H2 (h1.trans h2))
  have loop : ∀ (r pre : List Ex) (H1 : Heap), l = pre ++ r → HExt H H1 → f4_l14 (encXs sz nil tip l) (encC x) (I pre.length) H1 Q := by
    intro r
    induction r with
    | nil =>
      intro pre H1 e h1
      have hlt : (pre.length : Int) = l.length := by rw [e]; simp
      rw [f4_l14_eq, lenX, ob_some, i_lss, ob_some, cnd_B, hlt]
      simp only [Int.lt_irrefl, decide_false, Bool.false_eq_true, if_false]
      rw [partX, ob_some]
      refine c24 x hx hv (by omega) H1 _ (fun H2 e2 => ?_)
      rw [hp]
      simp only [x20, x21, ob_some]
      refine c25 x hx hv (by omega) H2 _ ?_
      rw [hp]
      simp only [x20, x21, ob_some]
      refine c26 sz nil tip l hok H2 _ (fun H3 e3 => ?_)
      rw [hr]
      simp only [x20, x21, ob_some]
      refine c27 sz nil tip l hok H3 _ ?_
      rw [hr]
      simp only [x20, x21, ob_some, s_eql, i_eql, d9, d3, cnd_t, f4_c12_8a_eq, f4_c12_13a_eq, f4_c12_18a_eq]
      refine c18 H3 _ (fun H4 e4 => ?_)
      rw [f4_c12_21a_eq, f4_j41_eq]
      exact hq H4 (((h1.trans e2).trans e3).trans e4)
    | cons y r ih =>
      intro pre H1 e h1
      have hlt : pre.length < l.length := by rw [e]; simp
      have hlt' : (pre.length : Int) < l.length := by omega
      have hym : y ∈ l := by rw [e]; simp
      have hsy := mem_size hym
      rw [f4_l14_eq, lenX, ob_some, i_lss, ob_some, cnd_B, if_pos (by simpa using hlt'), ixX l sz nil tip pre r y e, ob_some, partX, ob_some, c23 y (by omega), i_gtr, ob_some]
      refine cnd_intro (fun _ => fin H1 h1) (fun _ => ?_)
      rw [i_add, ob_some, w64_succ hlt (by omega)]
      have := ih (pre ++ [y]) H1 (by simp [e]) h1
      rw [List.length_append, List.length_singleton] at this
      exact this
  have j5 : ∀ b : Bool, f4_j5 (encXs sz nil tip l) (encC x) (B b) H Q := fun b => by
    rw [f4_j5_eq]
    exact cnd_intro (fun _ => fin H (HExt.refl H)) (fun _ => loop l [] H rfl (HExt.refl H))
  rw [f4_eq, szX, ob_some, partX, ob_some, c23 x (by omega), i_gtr, ob_some]
  refine cnd_intro (fun _ => j5 true) (fun _ => ?_)
  rw [lenX, ob_some, i_gtr, ob_some]
  exact j5 _
end Go.Hx
