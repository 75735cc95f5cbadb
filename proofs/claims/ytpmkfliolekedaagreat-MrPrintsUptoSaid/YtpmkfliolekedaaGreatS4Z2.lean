/- Contracts of layer 19: a query's text. Own work. -/
import Derived.Test.YtpmkfliolekedaaGreatS4Z1
set_option maxRecDepth 20000
namespace Go.Hx
def sepS (k : Int) : List UInt8 := if k = 2 then [44, 32] else [32, 124, 32]
def sSEQ : List UInt8 := [83, 69, 81, 40]
def atomS (var typ : ByteArray) : List UInt8 := tx typ ++ (32 :: tx var)
mutual
def saseT : Pa → List UInt8
  | .mk k var typ lo hi _ _ _ l => if k = 2 then sSEQ ++ (catL (sepS k) (saseTs l) ++ [41]) else if k = 4 then catL (sepS k) (saseTs l) else if k = 6 then 33 :: atomS var typ else atomS var typ ++ (if k = 5 then quantT false lo hi else [])
def saseTs : List Pa → List (List UInt8)
  | [] => []
  | x :: r => saseT x :: saseTs r
end
theorem saseT_eq (x : Pa) : saseT x = if x.k = 2 then sSEQ ++ (catL (sepS x.k) (saseTs x.l) ++ [41]) else if x.k = 4 then catL (sepS x.k) (saseTs x.l) else if x.k = 6 then 33 :: atomS x.var x.typ else atomS x.var x.typ ++ (if x.k = 5 then quantT false x.lo x.hi else []) := by
  cases x; rw [saseT]; rfl
mutual
/-- has a pattern a PAnd -/
def hasA : Pa → Bool
  | .mk k _ _ _ _ _ _ _ l => decide (k = 3) || hasAs l
def hasAs : List Pa → Bool
  | [] => false
  | x :: r => hasA x || hasAs r
end
theorem hasA_eq (x : Pa) : hasA x = (decide (x.k = 3) || hasAs x.l) := by cases x; rw [hasA]; rfl
theorem hasAs_mem {l : List Pa} (h : hasAs l = false) {x : Pa} (hx : x ∈ l) : hasA x = false := by
  induction l with
  | nil => cases hx
  | cons y r ih =>
    simp only [hasAs, Bool.or_eq_false_iff] at h
    rcases List.mem_cons.1 hx with rfl | hx
    · exact h.1
    · exact ih h.2 hx
theorem sepS_len (k : Int) : (sepS k).length ≤ 3 := by
  simp only [sepS]
  split <;> simp
theorem atomS_len {x : Pa} (h : allRT x = true) (hl : x.k ≠ 2 ∧ x.k ≠ 3 ∧ x.k ≠ 4) : (atomS x.var x.typ).length ≤ 65 := by
  have hn := fine_name h hl
  have a1 := name_len hn.1
  have a2 := name_len hn.2
  simp only [atomS, List.length_append, List.length_cons]; omega
theorem many_rng {x : Pa} (h : rightT x = true) (h5 : x.k = 5) : rng x.lo ∧ rng x.hi := by
  have a := many_lo h h5
  have b := many_hi h h5
  exact ⟨⟨by omega, by omega⟩, ⟨by omega, by omega⟩⟩
theorem saseT_len (x : Pa) (h : allRT x = true) (hA : hasA x = false) : (saseT x).length + 5 ≤ 130 * sizeT x := by
  induction x using Pa.ind with
  | h x ih =>
    have h' := h
    rw [allRT_eq, Bool.and_eq_true] at h'
    rw [hasA_eq, Bool.or_eq_false_iff] at hA
    have k3 : ¬ x.k = 3 := by simpa using hA.1
    have hch : ∀ y ∈ x.l, (saseT y).length + 5 ≤ 130 * sizeT y := fun y hy => ih y hy (allRTs_mem h'.2 hy) (hasAs_mem hA.2 hy)
    have hsum : ∀ (sep : List UInt8) (r : List Pa), sep.length ≤ 3 → (∀ y ∈ r, y ∈ x.l) → (catR sep (saseTs r)).length ≤ 130 * sizeTs r := by
      intro sep r hs
      induction r with
      | nil => intro _; simp [saseTs, catR]
      | cons y r ihr =>
        intro hm
        have h1 := hch y (hm y (by simp))
        have h2 := ihr (fun z hz => hm z (by simp [hz]))
        simp only [saseTs, catR, sizeTs, List.length_append]; omega
    have hcat : ∀ (sep : List UInt8), sep.length ≤ 3 → (catL sep (saseTs x.l)).length ≤ 130 * sizeTs x.l := by
      intro sep hs
      cases hl : x.l with
      | nil => simp [saseTs, catL]
      | cons y r =>
        have h1 := hch y (by rw [hl]; simp)
        have h2 := hsum sep r hs (fun z hz => by rw [hl]; simp [hz])
        simp only [saseTs, catL, sizeTs, List.length_append]; omega
    have hc := hcat (sepS x.k) (sepS_len _)
    rw [saseT_eq, sizeT_eq]
    split
    · simp only [sSEQ, List.length_cons, List.length_append, List.length_nil]; omega
    · split
      · omega
      · rename_i k2 k4
        have := atomS_len h ⟨k2, k3, k4⟩
        split
        · simp only [List.length_cons]; omega
        · rw [List.length_append]
          split
          · rename_i k5
            have := quantT_len false (many_rng h'.1 k5).1 (many_rng h'.1 k5).2
            omega
          · simp only [List.length_nil]; omega
theorem put4 (u v w z : ByteArray) (b : Nat) (H0 H : Heap) (t : List UInt8) (K : Post) (h : Bld H0 b t H) (hl : t.length + (tx u ++ (tx v ++ (tx w ++ tx z))).length ≤ 140737488355328) (hq : ∀ H', Bld H0 b (t ++ (tx u ++ (tx v ++ (tx w ++ tx z)))) H' → K (.tup []) H') :
    ob (mkSlA 1 [S u, S v, S w, S z]) fun r => E 32 [Pt b, r] H K := by
  have hm : mkSlA 1 [S u, S v, S w, S z] = some (.sl 1 false .full ([u, v, w, z].map S)) := lit_strs [u, v, w, z]
  have hc : cat [u, v, w, z] = tx u ++ (tx v ++ (tx w ++ tx z)) := by simp [cat]
  rw [hm, ob_some]
  exact c32 b _ 1 false .full (by simp) H0 H t _ h (by rw [hc]; exact hl) (fun H1 h1 => hq H1 (by rw [hc] at h1; exact h1))
def PutsS (x : Pa) : Prop := ∀ (b : Nat) (H0 H : Heap) (t : List UInt8) (Q : Post), Bld H0 b t H → t.length + (saseT x).length + 100 ≤ 140737488355328 → (∀ H', Bld H0 b (t ++ saseT x) H' → Q (.tup []) H') → E 43 [Pt b, encT x] H Q
theorem c72 (sep : List UInt8) (sz : Nat) (nil : Bool) (tip : Tip) (l : List Pa) (hn : l.length ≤ 1099511627776) (hp : ∀ x ∈ l, PutsS x) (b : Nat) (H0 H : Heap) (t : List UInt8) (Q : Post) (h : Bld H0 b t H) (hl : t.length + (catL sep (saseTs l)).length + 100 ≤ 140737488355328)
    (hq : ∀ H', Bld H0 b (t ++ catL sep (saseTs l)) H' → Q (.tup []) H') : E 72 [Pt b, encTs sz nil tip l, strT sep] H Q := by
  have loop : ∀ (r pre : List Pa) (t : List UInt8) (H : Heap), l = pre ++ r → pre ≠ [] → Bld H0 b t H → t.length + (catR sep (saseTs r)).length + 100 ≤ 140737488355328 → (∀ H', Bld H0 b (t ++ catR sep (saseTs r)) H' → Q (.tup []) H') →
      f72_l3 (Pt b) (strT sep) (encTs sz nil tip l) (I l.length) (I pre.length) H Q := by
    intro r
    induction r with
    | nil =>
      intro pre t H e _ h hl hq
      have h1 : (pre.length : Int) = l.length := by rw [e]; simp
      rw [f72_l3_eq, i_lss, ob_some, cnd_B, h1]
      simp only [Int.lt_irrefl, decide_false, Bool.false_eq_true, if_false]
      exact hq H (by simpa [saseTs, catR] using h)
    | cons x r ih =>
      intro pre t H e hne h hl hq
      have hlt : pre.length < l.length := by rw [e]; simp
      have hlt' : (pre.length : Int) < l.length := by omega
      have hp0 : 0 < pre.length := List.length_pos_iff.2 hne
      have hgt : decide ((0 : Int) < (pre.length : Int)) = true := by simp; omega
      simp only [saseTs, catR, List.length_append] at hl hq
      rw [f72_l3_eq, i_lss, ob_some, cnd_B, if_pos (by simpa using hlt'), ixT l sz nil tip pre r x e, ob_some, partT, ob_some, szT, ob_some, splT, ob_some, i_gtr, ob_some, hgt, cnd_t, nil_Pt, ob_some, add0_Pt, ob_some]
      refine put1 sep b H0 H t _ h (by omega) (fun H1 h1 => ?_)
      rw [f72_j20_eq, partT, ob_some]
      refine hp x (by rw [e]; simp) b H0 H1 _ _ h1 (by rw [List.length_append]; omega) (fun H2 h2 => ?_)
      rw [i_add, ob_some, w64_succ hlt (by omega)]
      have := ih (pre ++ [x]) _ H2 (by simp [e]) (by simp) h2 (by simp only [List.length_append]; omega) (fun H' h' => hq H' (by simpa using h'))
      rw [List.length_append, List.length_singleton] at this
      exact this
  rw [f72_eq, lenT, ob_some]
  cases hc : l with
  | nil =>
    rw [hc] at hq
    rw [f72_l3_eq, i_lss, ob_some, cnd_B]
    simp only [List.length_nil, Int.natCast_zero, Int.lt_irrefl, decide_false, Bool.false_eq_true, if_false]
    exact hq H (by simpa [saseTs, catL] using h)
  | cons x r =>
    rw [← hc]
    have hlt : 0 < l.length := by rw [hc]; simp
    have hlt' : (0 : Int) < l.length := by omega
    rw [hc] at hl hq
    simp only [saseTs, catL, List.length_append] at hl hq
    have i1 : ixaA 6 (encTs sz nil tip l) (I 0) = some (encTC x) := ixT l sz nil tip [] r x hc
    have h00 : decide ((0 : Int) < 0) = false := rfl
    rw [f72_l3_eq, i_lss, ob_some, cnd_B, if_pos (by simpa using hlt'), i1, ob_some, partT, ob_some, szT, ob_some, splT, ob_some, i_gtr, ob_some, h00, cnd_f, f72_j20_eq, partT, ob_some]
    refine hp x (by rw [hc]; simp) b H0 H t _ h (by omega) (fun H2 h2 => ?_)
    rw [i_add, ob_some]
    have h1 : W64 ((0 : Int) + 1) = (([x].length : Nat) : Int) := rfl
    rw [h1]
    exact loop r [x] _ H2 (by simp [hc]) (by simp) h2 (by simp only [List.length_append]; omega) (fun H' h' => hq H' (by simpa using h'))
theorem c43 (x : Pa) (hok : allT okT x) (hr : allRT x = true) (hA : hasA x = false) : PutsS x := by
  induction x using Pa.ind with
  | h x ih =>
    rw [allT_eq] at hok
    have hr' := hr
    rw [allRT_eq, Bool.and_eq_true] at hr'
    have hA' := hA
    rw [hasA_eq, Bool.or_eq_false_iff] at hA'
    have k3 : ¬ x.k = 3 := by simpa using hA'.1
    have hch : ∀ y ∈ x.l, PutsS y := fun y hy => ih y hy (allTs_mem hok.2 hy) (allRTs_mem hr'.2 hy) (hasAs_mem hA'.2 hy)
    have hn := hok.1.1
    intro b H0 H t Q h hl hq
    rw [saseT_eq] at hl hq
    rw [f43_eq, szT, ob_some, part_f, p0T, ob_some, i_eql, ob_some]
    refine cnd_intro (fun g => ?_) (fun g => ?_)
    · have g : x.k = 2 := by simpa using g
      rw [if_pos g] at hl hq
      have h4 : sSEQ.length = 4 := rfl
      have hsep : sepS x.k = [44, 32] := by rw [g]; rfl
      rw [hsep] at hl hq
      simp only [List.length_append, List.length_singleton, h4] at hl
      rw [nil_Pt, ob_some, add0_Pt, ob_some]
      refine put1 sSEQ b H0 H t _ h (by rw [h4]; omega) (fun H1 h1 => ?_)
      rw [part_f, p5T, ob_some]
      refine c72 [44, 32] x.sz x.nil x.tip x.l hn hch b H0 H1 _ _ h1 (by simp only [List.length_append, h4]; omega) (fun H2 h2 => ?_)
      rw [ob_some, add0_Pt, ob_some]
      exact put1 [41] b H0 H2 _ _ h2 (by simp only [List.length_append, List.length_singleton, h4]; omega) (fun H3 h3 => hq H3 (by simpa using h3))
    have k2 : ¬ x.k = 2 := by simpa using g
    rw [if_neg k2] at hl hq
    rw [i_eql, ob_some]
    refine cnd_intro (fun g => ?_) (fun g => ?_)
    · have g : x.k = 4 := by simpa using g
      rw [if_pos g] at hl hq
      have hsep : sepS x.k = [32, 124, 32] := by rw [g]; rfl
      rw [hsep] at hl hq
      rw [part_f, p5T, ob_some]
      exact c72 [32, 124, 32] x.sz x.nil x.tip x.l hn hch b H0 H t _ h hl hq
    have k4 : ¬ x.k = 4 := by simpa using g
    rw [if_neg k4] at hl hq
    have hlen := atomS_len hr ⟨k2, k3, k4⟩
    rw [i_eql, ob_some]
    refine cnd_intro (fun g => ?_) (fun g => ?_)
    · rw [if_pos (by simpa using g)] at hl hq
      rw [nil_Pt, ob_some, add0_Pt, ob_some, part_f, p2T, ob_some, part_f, p1T, ob_some]
      exact put4 ⟨#[33]⟩ x.typ ⟨#[32]⟩ x.var b H0 H t _ h (by simp only [atomS, List.length_cons, List.length_append] at hl ⊢; simp only [tx] at hl ⊢; simp at hl ⊢; omega) (fun H1 h1 => hq H1 (by simpa [atomS, tx] using h1))
    · rw [if_neg (by simpa using g)] at hl hq
      rw [List.length_append] at hl
      rw [nil_Pt, ob_some, add0_Pt, ob_some, part_f, p2T, ob_some, part_f, p1T, ob_some]
      refine put3 x.typ ⟨#[32]⟩ x.var b H0 H t _ h (by simp only [atomS, List.length_cons, List.length_append] at hl ⊢; simp only [tx] at hl ⊢; simp at hl ⊢; omega) (fun H1 h1 => ?_)
      have hat : tx x.typ ++ (tx ⟨#[32]⟩ ++ tx x.var) = atomS x.var x.typ := rfl
      rw [hat] at h1
      rw [ob_some, add0_Pt, ob_some, partT, ob_some]
      by_cases k5 : x.k = 5
      · rw [if_pos k5] at hl hq
        exact c73 x false k5 (many_rng hr'.1 k5).1 (many_rng hr'.1 k5).2 b H0 H1 _ _ h1 (by rw [List.length_append]; omega) (fun H2 h2 => hq H2 (by simpa using h2))
      · rw [if_neg k5, List.append_nil] at hq
        exact c73n x false k5 b H1 _ (hq H1 h1)
/-! ### Has it a PAnd -/
theorem c42 (x : Pa) : allT okT x → ∀ (H : Heap) (Q : Post), E 42 [encT x] H Q = Q (B (hasA x)) H := by
  induction x using Pa.ind with
  | h x ih =>
    intro hok H Q
    have hok' := (allT_eq _ _).1 hok
    have hn := hok'.1.1
    have loop : ∀ (r pre : List Pa) (K : Post), x.l = pre ++ r → ∃ i : Int, decide (0 ≤ i) = hasAs r ∧ f107_l6 (encTs x.sz x.nil x.tip x.l) (.fn (.func 42) [] []) (I x.l.length) (I pre.length) H K = K (I i) H := by
      intro r
      induction r with
      | nil =>
        intro pre K e
        have h1 : (pre.length : Int) = x.l.length := by rw [e]; simp
        refine ⟨-1, by simp [hasAs], ?_⟩
        rw [f107_l6_eq, i_lss, ob_some, cnd_B, h1]
        simp
      | cons y r ihr =>
        intro pre K e
        have hlt : pre.length < x.l.length := by rw [e]; simp
        have hlt' : (pre.length : Int) < x.l.length := by omega
        obtain ⟨i, h1, h2⟩ := ihr (pre ++ [y]) K (by simp [e])
        rw [List.length_append, List.length_singleton] at h2
        have hy : ∀ K : Post, callA (Ev Pg Hs) (.fn (.func 42) [] []) [encT y] H K = K (B (hasA y)) H := fun K => ih y (by rw [e]; simp) (allTs_mem hok'.2 (by rw [e]; simp)) H K
        cases hx : hasA y with
        | false =>
          refine ⟨i, by rw [h1]; simp [hasAs, hx], ?_⟩
          rw [f107_l6_eq, i_lss, ob_some, cnd_B, if_pos (by simpa using hlt'), ixT x.l x.sz x.nil x.tip pre r y e, ob_some, partT, ob_some, hy, hx, cnd_f, i_add, ob_some, w64_succ hlt (by omega), h2]
        | true =>
          refine ⟨pre.length, by simp [hasAs, hx], ?_⟩
          rw [f107_l6_eq, i_lss, ob_some, cnd_B, if_pos (by simpa using hlt'), ixT x.l x.sz x.nil x.tip pre r y e, ob_some, partT, ob_some, hy, hx, cnd_t]
    have h71 : ∀ K : Post, E 71 [encTs x.sz x.nil x.tip x.l, .fn (.func 42) [] []] H K = K (B (hasAs x.l)) H := fun K => by
      obtain ⟨i, h1, h2⟩ := loop x.l [] (fun r1 H2 => ob (binA Pg .geq 3 true r1 (I 0)) fun r3 => K r3 H2) rfl
      rw [f71_eq, f107_eq, lenT, ob_some]
      refine h2.trans ?_
      rw [i_geq, ob_some, h1]
    rw [f42_eq, szT, ob_some, part_f, p0T, ob_some, i_eql, ob_some, cnd_B, part_f, p5T, ob_some, h71, f42_j4_eq, f42_j4_eq, hasA_eq]
    by_cases h : x.k = 3 <;> simp [h]
theorem c47 (x : Pa) : allT okT x → ∀ (H : Heap) (Q : Post), E 47 [encT x, I 3] H Q = Q (B (hasA x)) H := by
  induction x using Pa.ind with
  | h x ih =>
    intro hok H Q
    have hok' := (allT_eq _ _).1 hok
    have hn := hok'.1.1
    have loop : ∀ (r pre : List Pa), x.l = pre ++ r → f47_l14 (I 3) (encTC x) (I pre.length) H Q = Q (B (hasAs r)) H := by
      intro r
      induction r with
      | nil =>
        intro pre e
        have h1 : (pre.length : Int) = x.l.length := by rw [e]; simp
        rw [f47_l14_eq, part_f, p5T, ob_some, lenT, ob_some, i_lss, ob_some, cnd_B, h1]
        simp [hasAs]
      | cons y r ihr =>
        intro pre e
        have hlt : pre.length < x.l.length := by rw [e]; simp
        have hlt' : (pre.length : Int) < x.l.length := by omega
        have ih2 := ihr (pre ++ [y]) (by simp [e])
        rw [List.length_append, List.length_singleton] at ih2
        rw [f47_l14_eq, part_f, p5T, ob_some, lenT, ob_some, i_lss, ob_some, cnd_B, if_pos (by simpa using hlt'), ob_some, ixT x.l x.sz x.nil x.tip pre r y e, ob_some, partT, ob_some, ih y (by rw [e]; simp) (allTs_mem hok'.2 (by rw [e]; simp)), cnd_B, i_add, ob_some, w64_succ hlt (by omega), ih2]
        cases h : hasA y <;> simp [hasAs, h]
    have l0 : f47_l14 (I 3) (encTC x) (I 0) H Q = _ := loop x.l [] rfl
    rw [f47_eq, szT, ob_some, part_f, p0T, ob_some, i_eql, ob_some, cnd_B, l0, hasA_eq]
    by_cases h : x.k = 3 <;> simp [h]
/-! ### The document's text -/
def RefS (x : Pa) : Prop := ∀ (H : Heap) (Q : Post), (saseT x).length ≤ 140737488355328 → Q (strT (saseT x)) H → E 45 [encT x] H Q
theorem c45 (x : Pa) (hok : allT okT x) (hr : allRT x = true) (hA : hasA x = false) : RefS x := by
  induction x using Pa.ind with
  | h x ih =>
    rw [allT_eq] at hok
    have hr' := hr
    rw [allRT_eq, Bool.and_eq_true] at hr'
    have hA' := hA
    rw [hasA_eq, Bool.or_eq_false_iff] at hA'
    have k3 : ¬ x.k = 3 := by simpa using hA'.1
    have hch : ∀ y ∈ x.l, RefS y := fun y hy => ih y hy (allTs_mem hok.2 hy) (allRTs_mem hr'.2 hy) (hasAs_mem hA'.2 hy)
    have hn := hok.1.1
    intro H Q hl hq
    rw [saseT_eq] at hl hq
    have e41 : S ⟨#[41]⟩ = strT [41] := rfl
    have eSEQ : S ⟨#[83, 69, 81, 40]⟩ = strT sSEQ := rfl
    have h4 : sSEQ.length = 4 := rfl
    have e2 : S ⟨#[44, 32]⟩ = strT [44, 32] := rfl
    have e3 : S ⟨#[32, 124, 32]⟩ = strT [32, 124, 32] := rfl
    have e0s : S ⟨#[]⟩ = strT [] := rfl
    have row : (x.k = 2 ∨ x.k = 4) → f45_l19 (encTC x) (strT []) (I 0) H Q := fun hk => by
      have hlc : (catL (sepS x.k) (saseTs x.l)).length + 5 ≤ 140737488355333 := by
        rcases hk with hk | hk
        · rw [if_pos hk] at hl
          simp only [List.length_append, List.length_singleton, h4] at hl; omega
        · rw [if_neg (by omega), if_pos hk] at hl; omega
      have fin : ∀ (acc : List UInt8), acc = catL (sepS x.k) (saseTs x.l) → ob (some (I x.k)) fun r25 => ob (binA Pg .eql 3 true r25 (I 2)) fun r26 => cndA r26 (ob (binA Pg .add 9 true (S ⟨#[83, 69, 81, 40]⟩) (strT acc)) fun r27 => ob (binA Pg .add 9 true r27 (S ⟨#[41]⟩)) fun r28 => Q r28 H) (Q (strT acc) H) := fun acc ha => by
        rw [ob_some, i_eql, ob_some]
        refine cnd_intro (fun g => ?_) (fun g => ?_)
        · have g : x.k = 2 := by simpa using g
          rw [if_pos g] at hl hq
          simp only [List.length_append, List.length_singleton, h4] at hl
          rw [eSEQ, e41, s_add _ _ _ _ (by rw [ha, h4]; omega), ob_some, s_add _ _ _ _ (by simp only [List.length_append, List.length_singleton, h4]; rw [ha]; omega), ob_some, ha, List.append_assoc]
          exact hq
        · have g : ¬ x.k = 2 := by simpa using g
          have g4 : x.k = 4 := by omega
          rw [if_neg g, if_pos g4] at hq
          rw [ha]; exact hq
      have step : ∀ (y : Pa) (pre r : List Pa) (acc : List UInt8), x.l = pre ++ y :: r → acc.length + (saseT y).length ≤ 140737488355333 → (saseT y).length ≤ 140737488355328 → f45_l19 (encTC x) (strT (acc ++ saseT y)) (I ((pre.length + 1 : Nat) : Int)) H Q →
          E 45 [encT y] H fun r47 H48 => ob (binA Pg .add 9 false (strT acc) r47) fun r49 => ob (binA Pg .add 3 true (I pre.length) (I 1)) fun r50 => f45_l19 (encTC x) r49 r50 H48 Q := fun y pre r acc e hla hly hk => by
        have hlt : pre.length < x.l.length := by rw [e]; simp
        refine hch y (by rw [e]; simp) H _ hly ?_
        rw [s_add _ _ _ _ (by omega), ob_some, i_add, ob_some, w64_succ hlt (by omega)]
        exact hk
      have loop : ∀ (r pre : List Pa) (acc : List UInt8), x.l = pre ++ r → pre ≠ [] → acc ++ catR (sepS x.k) (saseTs r) = catL (sepS x.k) (saseTs x.l) → f45_l19 (encTC x) (strT acc) (I pre.length) H Q := by
        intro r
        induction r with
        | nil =>
          intro pre acc e _ ha
          have h1 : (pre.length : Int) = x.l.length := by rw [e]; simp
          rw [f45_l19_eq, part_f, p5T, ob_some, lenT, ob_some, i_lss, ob_some, cnd_B, h1]
          simp only [Int.lt_irrefl, decide_false, Bool.false_eq_true, if_false]
          rw [part_f, p0T]
          exact fin acc (by simpa [saseTs, catR] using ha)
        | cons y r ihr =>
          intro pre acc e hne ha
          have hlt : pre.length < x.l.length := by rw [e]; simp
          have hlt' : (pre.length : Int) < x.l.length := by omega
          have hp0 : 0 < pre.length := List.length_pos_iff.2 hne
          have hgt : decide ((0 : Int) < (pre.length : Int)) = true := by simp; omega
          have hal := congrArg List.length ha
          simp only [saseTs, catR, List.length_append] at ha hal
          have hnx := ihr (pre ++ [y]) (acc ++ sepS x.k ++ saseT y) (by simp [e]) (by simp) (by simpa using ha)
          rw [List.length_append, List.length_singleton] at hnx
          have i1 := ixT x.l x.sz x.nil x.tip pre r y e
          rw [f45_l19_eq, part_f, p5T, ob_some, lenT, ob_some, i_lss, ob_some, cnd_B, if_pos (by simpa using hlt'), i_gtr, ob_some, hgt, cnd_t, part_f, p0T, ob_some, i_eql, ob_some, f45_j31_eq]
          rcases hk with hk | hk
          · have hs : sepS x.k = [44, 32] := by rw [hk]; rfl
            have hlc' := hlc
            rw [hs] at hal hnx hlc'
            simp only [List.length_cons, List.length_nil] at hal
            rw [show decide (x.k = 2) = true from decide_eq_true hk, cnd_t, e2, s_add _ _ _ _ (by simp only [List.length_cons, List.length_nil]; omega), ob_some, i_gtr, ob_some, hgt, cnd_t, part_f, p0T, ob_some, i_eql, ob_some, show decide (x.k = 4) = false from decide_eq_false (by omega), f45_j37_eq, cnd_f, part_f, p5T, ob_some, i1, ob_some, partT, ob_some]
            exact step y pre r (acc ++ [44, 32]) e (by simp only [List.length_append, List.length_cons, List.length_nil]; omega) (by omega) hnx
          · have hs : sepS x.k = [32, 124, 32] := by rw [hk]; rfl
            have hlc' := hlc
            rw [hs] at hal hnx hlc'
            simp only [List.length_cons, List.length_nil] at hal
            rw [show decide (x.k = 2) = false from decide_eq_false (by omega), cnd_f, i_gtr, ob_some, hgt, cnd_t, part_f, p0T, ob_some, i_eql, ob_some, show decide (x.k = 4) = true from decide_eq_true hk, f45_j37_eq, cnd_t, e3, s_add _ _ _ _ (by simp only [List.length_cons, List.length_nil]; omega), ob_some, part_f, p5T, ob_some, i1, ob_some, partT, ob_some]
            exact step y pre r (acc ++ [32, 124, 32]) e (by simp only [List.length_append, List.length_cons, List.length_nil]; omega) (by omega) hnx
      cases hc : x.l with
      | nil =>
        rw [f45_l19_eq, part_f, p5T, ob_some, lenT, ob_some, i_lss, ob_some, cnd_B, hc]
        simp only [List.length_nil, Int.natCast_zero, Int.lt_irrefl, decide_false, Bool.false_eq_true, if_false]
        rw [part_f, p0T]
        exact fin [] (by rw [hc]; rfl)
      | cons y r =>
        have hlt : 0 < x.l.length := by rw [hc]; simp
        have hlt' : (0 : Int) < x.l.length := by omega
        have i1 : ixaA 6 (encTs x.sz x.nil x.tip x.l) (I 0) = some (encTC y) := ixT x.l x.sz x.nil x.tip [] r y hc
        have h00 : decide ((0 : Int) < 0) = false := rfl
        have hal : catL (sepS x.k) (saseTs x.l) = saseT y ++ catR (sepS x.k) (saseTs r) := by rw [hc]; rfl
        have hal2 := hlc
        rw [hal, List.length_append] at hal2
        have hnx := loop r [y] (saseT y) (by simp [hc]) (by simp) hal.symm
        rw [f45_l19_eq, part_f, p5T, ob_some, lenT, ob_some, i_lss, ob_some, cnd_B, if_pos (by simpa using hlt'), i_gtr, ob_some, h00, cnd_f, f45_j31_eq, cnd_f, i_gtr, ob_some, h00, cnd_f, f45_j37_eq, cnd_f, part_f, p5T, ob_some, i1, ob_some, partT, ob_some]
        exact step y [] r [] hc (by simp only [List.length_nil]; omega) (by omega) hnx
    rw [f45_eq, szT, ob_some, part_f, p0T, ob_some, i_eql, ob_some, e0s]
    refine cnd_intro (fun g => ?_) (fun g => ?_)
    · rw [f45_j14_eq, g, cnd_t]
      exact row (.inl (by simpa using g))
    have k2 : ¬ x.k = 2 := by simpa using g
    rw [if_neg k2] at hl hq
    rw [i_eql, ob_some, f45_j14_eq]
    refine cnd_intro (fun g => ?_) (fun g => ?_)
    · exact row (.inr (by simpa using g))
    have k4 : ¬ x.k = 4 := by simpa using g
    rw [if_neg k4] at hl hq
    have hlen := atomS_len hr ⟨k2, k3, k4⟩
    simp only [atomS, List.length_append, List.length_cons] at hlen
    have e33 : S ⟨#[33]⟩ = strT [33] := rfl
    have e32 : S ⟨#[32]⟩ = strT [32] := rfl
    rw [i_eql, ob_some]
    refine cnd_intro (fun g => ?_) (fun g => ?_)
    · rw [if_pos (by simpa using g)] at hq
      rw [part_f, p2T, ob_some, e33, e32, strT_tx x.typ, s_add _ _ _ _ (by simp only [List.length_singleton]; omega), ob_some, s_add _ _ _ _ (by simp only [List.length_append, List.length_singleton]; omega), ob_some, part_f, p1T, ob_some, strT_tx x.var, s_add _ _ _ _ (by simp only [List.length_append, List.length_singleton]; omega), ob_some]
      simpa [atomS] using hq
    · rw [if_neg (by simpa using g)] at hl hq
      rw [part_f, p2T, ob_some, e32, strT_tx x.typ, s_add _ _ _ _ (by simp only [List.length_singleton]; omega), ob_some, part_f, p1T, ob_some, strT_tx x.var, s_add _ _ _ _ (by simp only [List.length_append, List.length_singleton]; omega), ob_some, partT, ob_some]
      by_cases k5 : x.k = 5
      · rw [if_pos k5] at hl hq
        have hql := quantT_len false (many_rng hr'.1 k5).1 (many_rng hr'.1 k5).2
        refine c75 x false k5 (many_lo hr'.1 k5) (many_rng hr'.1 k5).2 H _ ?_
        rw [s_add _ _ _ _ (by simp only [List.length_append, List.length_singleton]; omega), ob_some]
        simpa [atomS] using hq
      · rw [if_neg k5] at hq
        refine c75n x false k5 H _ ?_
        rw [s_add _ _ _ _ (by simp only [List.length_append, List.length_singleton, List.length_nil]; omega), ob_some]
        simpa [atomS] using hq
end Go.Hx
