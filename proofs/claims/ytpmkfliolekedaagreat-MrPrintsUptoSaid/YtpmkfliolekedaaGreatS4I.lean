/- Contracts of layer 12: Check, and the document's. Own work. -/
import Derived.Test.YtpmkfliolekedaaGreatS4G
set_option maxRecDepth 20000
namespace Go.Hx
def stepT (s : Int × Int × Bool) (d : Int) (x : Pa) : Int × Int × Bool := (W64 (s.1 + 1), max s.2.1 d, s.2.2 && rightT x)
def checkT0 (x : Pa) : Int :=
  if 64 < (foldT stepT (0, 0, true) 1 x).1 ∨ 8 < (foldT stepT (0, 0, true) 1 x).2.1 then 2 else if (foldT stepT (0, 0, true) 1 x).2.2 = false then 1 else 0
theorem c109 (x : Pa) (H : Heap) (Q : Post) (hq : ∀ b, H.fresh b → Q (.fn (.func 144) [] [Pt b]) (H.setObj b (.cells (encTC x)))) : E 109 [encT x] H Q := by
  rw [f109_eq, szT, ob_some]
  intro b hb
  exact hq b hb
theorem visitT (bn bd bf l : Nat) (n1 : bn ≠ bd) (n2 : bn ≠ bf) (n3 : bn ≠ l) (n4 : bd ≠ bf) (n5 : bd ≠ l) (n6' : bf ≠ l) (L : LoopInfo) (hL : L = f97_L8 (Pt bn) (Pt bd) (Pt bf)) :
    VisitT (Int × Int × Bool) (.fn (.yield l) [] []) (fun b => b = bn ∨ b = bd ∨ b = bf ∨ b = l)
      (fun s H => H.objs bn = some (.cells [I s.1]) ∧ H.objs bd = some (.cells [I s.2.1]) ∧ H.objs bf = some (.cells [B s.2.2]) ∧ H.objs l = some (.loop L .ready)) stepT := by
  refine ⟨rfl, fun s H H' hs he => ⟨he.obj hs.1, he.obj hs.2.1, he.obj hs.2.2.1, he.obj hs.2.2.2⟩, fun s H b hs hb => ?_, fun s H d x K hx hs hk => ?_⟩
  · rcases hb with rfl | rfl | rfl | rfl
    · exact not_fresh hs.1
    · exact not_fresh hs.2.1
    · exact not_fresh hs.2.2.1
    · exact not_fresh hs.2.2.2
  obtain ⟨s1, s2, s3, s4⟩ := hs
  show Ev Pg Hs (.yield l) [encNd x d] H K
  rw [Ev_yield s4, hL, f97_y8_eq, szN, ob_some, splN, ob_some]
  unfold beginA
  rw [s4]
  simp only
  have t1 : (H.setObj l (.loop L .busy)).objs bn = some (.cells [I s.1]) := (setObj_ne H _ n3).trans s1
  have t2 : (H.setObj l (.loop L .busy)).objs bd = some (.cells [I s.2.1]) := (setObj_ne H _ n5).trans s2
  have t3 : (H.setObj l (.loop L .busy)).objs bf = some (.cells [B s.2.2]) := (setObj_ne H _ n6').trans s3
  have t4 := setObj_same H l (.loop L .busy)
  have te : HExc (fun b => b = bn ∨ b = bd ∨ b = bf ∨ b = l) H (H.setObj l (.loop L .busy)) := (HExc.refl _ H).setObj (.inl (.inr (.inr (.inr rfl)))) _
  generalize H.setObj l (.loop L .busy) = H1 at t1 t2 t3 t4 te ⊢
  rw [ld_Pt t1]
  simp only [part_f, List.getElem?_cons_zero, ob_some, i_add]
  rw [st_Pt t1 (sz1_I _), ob_some]
  have u1 := setObj_same H1 bn (.cells [I (W64 (s.1 + 1))])
  have u2 : (H1.setObj bn (.cells [I (W64 (s.1 + 1))])).objs bd = some (.cells [I s.2.1]) := (setObj_ne H1 _ (Ne.symm n1)).trans t2
  have u3 : (H1.setObj bn (.cells [I (W64 (s.1 + 1))])).objs bf = some (.cells [B s.2.2]) := (setObj_ne H1 _ (Ne.symm n2)).trans t3
  have u4 : (H1.setObj bn (.cells [I (W64 (s.1 + 1))])).objs l = some (.loop L .busy) := (setObj_ne H1 _ (Ne.symm n3)).trans t4
  have ue : HExc (fun b => b = bn ∨ b = bd ∨ b = bf ∨ b = l) H (H1.setObj bn (.cells [I (W64 (s.1 + 1))])) := te.setObj (.inl (.inl rfl)) _
  generalize H1.setObj bn (.cells [I (W64 (s.1 + 1))]) = H2 at u1 u2 u3 u4 ue ⊢
  rw [ld_Pt u2]
  simp only [part_f, List.getElem?_cons_zero, ob_some, n6, max_I]
  rw [st_Pt u2 (sz1_I _), ob_some]
  have v1 : (H2.setObj bd (.cells [I (max s.2.1 d)])).objs bn = some (.cells [I (W64 (s.1 + 1))]) := (setObj_ne H2 _ n1).trans u1
  have v2 := setObj_same H2 bd (.cells [I (max s.2.1 d)])
  have v3 : (H2.setObj bd (.cells [I (max s.2.1 d)])).objs bf = some (.cells [B s.2.2]) := (setObj_ne H2 _ (Ne.symm n4)).trans u3
  have v4 : (H2.setObj bd (.cells [I (max s.2.1 d)])).objs l = some (.loop L .busy) := (setObj_ne H2 _ (Ne.symm n5)).trans u4
  have ve : HExc (fun b => b = bn ∨ b = bd ∨ b = bf ∨ b = l) H (H2.setObj bd (.cells [I (max s.2.1 d)])) := ue.setObj (.inl (.inr (.inl rfl))) _
  generalize H2.setObj bd (.cells [I (max s.2.1 d)]) = H3 at v1 v2 v3 v4 ve ⊢
  rw [ld_Pt v3]
  simp only [part_f, List.getElem?_cons_zero, ob_some]
  have fin : ∀ (c : Bool) (H4 : Heap), c = (s.2.2 && rightT x) → HExt H3 H4 → ob (stH H4 1 (Pt bf) (B c)) fun H30 => endA l H30 true .ready K := fun c H4 hc he => by
    rw [st_Pt (he.obj v3) (sz1_B _), ob_some]
    unfold endA
    have w1 : (H4.setObj bf (.cells [B c])).objs bn = some (.cells [I (W64 (s.1 + 1))]) := (setObj_ne H4 _ n2).trans (he.obj v1)
    have w2 : (H4.setObj bf (.cells [B c])).objs bd = some (.cells [I (max s.2.1 d)]) := (setObj_ne H4 _ n4).trans (he.obj v2)
    have w3 := setObj_same H4 bf (.cells [B c])
    have w4 : (H4.setObj bf (.cells [B c])).objs l = some (.loop L .busy) := (setObj_ne H4 _ (Ne.symm n6')).trans (he.obj v4)
    have we : HExc (fun b => b = bn ∨ b = bd ∨ b = bf ∨ b = l) H (H4.setObj bf (.cells [B c])) := (ve.trans he.exc).setObj (.inl (.inr (.inr (.inl rfl)))) _
    rw [w4]
    simp only
    refine hk _ ⟨?_, ?_, ?_, setObj_same _ _ _⟩ (we.setObj (.inl (.inr (.inr (.inr rfl)))) _)
    · rw [setObj_ne _ _ n3, w1]; rfl
    · rw [setObj_ne _ _ n5, w2]; rfl
    · rw [setObj_ne _ _ n6', w3, hc]; rfl
  refine cnd_intro (fun h => ?_) (fun h => ?_)
  · rw [partNT, ob_some]
    refine c134 x hx.1 hx.2.1 hx.2.2 H3 _ (fun H4 he => ?_)
    exact fin _ H4 (by rw [h, Bool.true_and]) he
  · exact fin false H3 (by rw [h, Bool.false_and]) (HExt.refl _)
theorem c97_0 (x : Pa) (hok : allT okT x) (H : Heap) (Q : Post) (hq : ∀ H', HExt H H' → Q (I (checkT0 x)) H') : E 97 [encT x] H Q := by
  rw [f97_eq, szT, ob_some]
  intro bn hn
  simp only [Pt_def]
  have e1 : HExt H (H.setObj bn (.cells [I 0])) := (HExt.refl H).setObj hn _
  have o1 := setObj_same H bn (.cells [I 0])
  generalize H.setObj bn (.cells [I 0]) = H1 at e1 o1 ⊢
  intro bd hd
  simp only [Pt_def]
  have n1 : bn ≠ bd := fresh_ne o1 hd
  have e2 : HExt H (H1.setObj bd (.cells [I 0])) := e1.setObj (e1.fresh hd) _
  have o2 := setObj_same H1 bd (.cells [I 0])
  have o1 : (H1.setObj bd (.cells [I 0])).objs bn = some (.cells [I 0]) := (setObj_ne H1 _ n1).trans o1
  have hd' := e1.fresh hd
  generalize H1.setObj bd (.cells [I 0]) = H2 at e2 o1 o2 ⊢
  intro bf hf
  simp only [Pt_def]
  have n2 : bn ≠ bf := fresh_ne o1 hf
  have n4 : bd ≠ bf := fresh_ne o2 hf
  have e3 : HExt H (H2.setObj bf (.cells [B false])) := e2.setObj (e2.fresh hf) _
  have o3 := setObj_same H2 bf (.cells [B false])
  have o1 : (H2.setObj bf (.cells [B false])).objs bn = some (.cells [I 0]) := (setObj_ne H2 _ n2).trans o1
  have o2 : (H2.setObj bf (.cells [B false])).objs bd = some (.cells [I 0]) := (setObj_ne H2 _ n4).trans o2
  have hf' := e2.fresh hf
  generalize H2.setObj bf (.cells [B false]) = H3 at e3 o1 o2 o3 ⊢
  rw [st_Pt o1 (sz1_I _), ob_some]
  have e4 : HExt H (H3.setObj bn (.cells [I 0])) := e3.setObj hn _
  have o2 : (H3.setObj bn (.cells [I 0])).objs bd = some (.cells [I 0]) := (setObj_ne H3 _ (Ne.symm n1)).trans o2
  have o3 : (H3.setObj bn (.cells [I 0])).objs bf = some (.cells [B false]) := (setObj_ne H3 _ (Ne.symm n2)).trans o3
  have o1 := setObj_same H3 bn (.cells [I 0])
  generalize H3.setObj bn (.cells [I 0]) = H4 at e4 o1 o2 o3 ⊢
  rw [st_Pt o2 (sz1_I _), ob_some]
  have e5 : HExt H (H4.setObj bd (.cells [I 0])) := e4.setObj hd' _
  have o1 : (H4.setObj bd (.cells [I 0])).objs bn = some (.cells [I 0]) := (setObj_ne H4 _ n1).trans o1
  have o3 : (H4.setObj bd (.cells [I 0])).objs bf = some (.cells [B false]) := (setObj_ne H4 _ (Ne.symm n4)).trans o3
  have o2 := setObj_same H4 bd (.cells [I 0])
  generalize H4.setObj bd (.cells [I 0]) = H5 at e5 o1 o2 o3 ⊢
  rw [st_Pt o3 (sz1_B _), ob_some, partT, ob_some]
  have e6 : HExt H (H5.setObj bf (.cells [B true])) := e5.setObj hf' _
  have o1 : (H5.setObj bf (.cells [B true])).objs bn = some (.cells [I 0]) := (setObj_ne H5 _ n2).trans o1
  have o2 : (H5.setObj bf (.cells [B true])).objs bd = some (.cells [I 0]) := (setObj_ne H5 _ n4).trans o2
  have o3 := setObj_same H5 bf (.cells [B true])
  generalize H5.setObj bf (.cells [B true]) = H6 at e6 o1 o2 o3 ⊢
  refine c109 x H6 _ (fun b1 hb => ?_)
  have e7 : HExt H6 (H6.setObj b1 (.cells (encTC x))) := (HExt.refl H6).setObj hb _
  have ox := setObj_same H6 b1 (.cells (encTC x))
  generalize H6.setObj b1 (.cells (encTC x)) = H7 at e7 ox ⊢
  have o1 := e7.obj o1
  have o2 := e7.obj o2
  have o3 := e7.obj o3
  refine ⟨trivial, ?_⟩
  intro l hl
  have n3 := fresh_ne o1 hl
  have n5 := fresh_ne o2 hl
  have n6' := fresh_ne o3 hl
  have e8 : HExt H7 (H7.setObj l (.loop (f97_L8 (Pt bn) (Pt bd) (Pt bf)) .ready)) := (HExt.refl H7).setObj hl _
  have o4 := setObj_same H7 l (.loop (f97_L8 (Pt bn) (Pt bd) (Pt bf)) .ready)
  generalize H7.setObj l (.loop (f97_L8 (Pt bn) (Pt bd) (Pt bf)) .ready) = H8 at e8 o4 ⊢
  show E 144 [.fn (.yield l) [] [], Pt b1] H8 _
  refine c144 (visitT bn bd bf l n1 n2 n3 n4 n5 n6' _ rfl) x hok b1 (0, 0, true) H8 _ (e8.obj ox) ⟨e8.obj o1, e8.obj o2, e8.obj o3, o4⟩ (fun H9 hs he => ?_)
  obtain ⟨s1, s2, s3, s4⟩ := hs
  have hE : HExt H H9 := he.ext ((e6.trans e7).trans e8) (fun b hb => by
    rcases hb with rfl | rfl | rfl | rfl
    · exact hn
    · exact hd'
    · exact hf'
    · exact (e6.trans e7).fresh hl)
  unfold overA
  rw [s4]
  simp only
  have t1 : (H9.setObj l (.loop (f97_L8 (Pt bn) (Pt bd) (Pt bf)) .over)).objs bn = _ := (setObj_ne H9 _ n3).trans s1
  have t2 : (H9.setObj l (.loop (f97_L8 (Pt bn) (Pt bd) (Pt bf)) .over)).objs bd = _ := (setObj_ne H9 _ n5).trans s2
  have t3 : (H9.setObj l (.loop (f97_L8 (Pt bn) (Pt bd) (Pt bf)) .over)).objs bf = _ := (setObj_ne H9 _ n6').trans s3
  have hE' : HExt H (H9.setObj l (.loop (f97_L8 (Pt bn) (Pt bd) (Pt bf)) .over)) := hE.setObj ((e6.trans e7).fresh hl) _
  generalize H9.setObj l (.loop (f97_L8 (Pt bn) (Pt bd) (Pt bf)) .over) = H10 at t1 t2 t3 hE' ⊢
  have := hq H10 hE'
  simp only [checkT0] at this
  have j24 : ∀ b : Bool, b = decide (64 < (foldT stepT (0, 0, true) 1 x).1 ∨ 8 < (foldT stepT (0, 0, true) 1 x).2.1) → f97_j24 (Pt bf) (B b) H10 Q := fun b hb => by
    rw [f97_j24_eq]
    simp only [ld_Pt t3, part_f, List.getElem?_cons_zero, ob_some, not_B]
    refine cnd_intro (fun h => ?_) (fun h => cnd_intro (fun h' => ?_) (fun h' => ?_))
    · rw [if_pos (by simpa [hb] using h)] at this; exact this
    · rw [if_neg (by simpa [hb] using h), if_pos (by simpa using h')] at this; exact this
    · rw [if_neg (by simpa [hb] using h), if_neg (by simpa using h')] at this; exact this
  rw [f97_j16_eq, ld_Pt t1]
  simp only [part_f, List.getElem?_cons_zero, ob_some, i_gtr, ld_Pt t2]
  refine cnd_intro (fun h => ?_) (fun h => ?_)
  · rw [h]; exact j24 true (by simp at h; simp [h])
  · exact j24 _ (by simp at h; have : ¬ 64 < (foldT stepT (0, 0, true) 1 x).1 := by omega
                    simp [this])
/-! ### What it says -/
mutual
def deepT : Pa → Nat
  | .mk _ _ _ _ _ _ _ _ l => 1 + deepTs l
def deepTs : List Pa → Nat
  | [] => 0
  | x :: r => max (deepT x) (deepTs r)
end
theorem deepT_eq (x : Pa) : deepT x = 1 + deepTs x.l := by cases x; simp [deepT, Pa.l]
mutual
def allRT : Pa → Bool
  | .mk k var typ lo hi sz nil tip l => rightT (.mk k var typ lo hi sz nil tip l) && allRTs l
def allRTs : List Pa → Bool
  | [] => true
  | x :: r => allRT x && allRTs r
end
theorem allRT_eq (x : Pa) : allRT x = (rightT x && allRTs x.l) := by cases x; simp [allRT, Pa.l]
theorem allRTs_mem {l : List Pa} (h : allRTs l = true) {x : Pa} (hx : x ∈ l) : allRT x = true := by
  induction l with
  | nil => cases hx
  | cons y r ih =>
    simp only [allRTs, Bool.and_eq_true] at h
    cases hx with
    | head => exact h.1
    | tail _ hx => exact ih h.2 hx
theorem one_le_sizeT (x : Pa) : 1 ≤ sizeT x := by rw [sizeT_eq]; omega
theorem len_sizeTs (l : List Pa) : l.length ≤ sizeTs l := by
  induction l with
  | nil => simp [sizeTs]
  | cons x l ih => have := one_le_sizeT x; simp only [List.length_cons, sizeTs]; omega
theorem sizeTs_append (l r : List Pa) : sizeTs (l ++ r) = sizeTs l + sizeTs r := by
  induction l with
  | nil => simp [sizeTs]
  | cons x l ih => simp only [List.cons_append, sizeTs, ih]; omega
theorem deepTs_append (l r : List Pa) : deepTs (l ++ r) = max (deepTs l) (deepTs r) := by
  induction l with
  | nil => simp [deepTs]
  | cons x l ih => simp only [List.cons_append, deepTs, ih]; omega
theorem deep_size (x : Pa) : deepT x ≤ sizeT x := by
  induction x using Pa.ind with
  | h x ih =>
    rw [deepT_eq, sizeT_eq]
    have : ∀ r : List Pa, (∀ y ∈ r, y ∈ x.l) → deepTs r ≤ sizeTs r := by
      intro r
      induction r with
      | nil => intro _; simp [deepTs, sizeTs]
      | cons y r ihr =>
        intro hy
        have := ih y (hy y (by simp))
        have := ihr (fun z hz => hy z (by simp [hz]))
        simp only [deepTs, sizeTs]; omega
    have := this x.l (fun _ h => h)
    omega
theorem stepT_fold (x : Pa) : ∀ (n m e : Nat) (b : Bool), n + sizeT x ≤ 1152921504606846976 → e + 1 + deepT x ≤ 1152921504606846976 →
    foldT stepT ((n : Int), (m : Int), b) ((e + 1 : Nat) : Int) x = (((n + sizeT x : Nat) : Int), ((max m (e + deepT x) : Nat) : Int), b && allRT x) := by
  induction x using Pa.ind with
  | h x ih =>
    intro n m e b hn he
    rw [sizeT_eq] at hn
    rw [deepT_eq] at he
    have hs : ∀ (r : List Pa), (∀ y ∈ r, y ∈ x.l) → ∀ (n m : Nat) (b : Bool), n + sizeTs r ≤ 1152921504606846976 → e + 2 + deepTs r ≤ 1152921504606846976 →
        e + 1 ≤ m → foldTs stepT ((n : Int), (m : Int), b) ((e + 1 + 1 : Nat) : Int) r = (((n + sizeTs r : Nat) : Int), ((max m (e + 1 + deepTs r) : Nat) : Int), b && allRTs r) := by
      intro r
      induction r with
      | nil => intro _ n m b _ _ hm; simp only [foldTs, sizeTs, deepTs, allRTs, Bool.and_true, Nat.add_zero]; rw [Nat.max_eq_left hm]
      | cons y r ihr =>
        intro hy n m b hn he hm
        simp only [sizeTs, deepTs] at hn he
        simp only [foldTs]
        rw [ih y (hy y (by simp)) n m (e + 1) b (by omega) (by omega), ihr (fun z hz => hy z (by simp [hz])) _ _ _ (by omega) (by omega) (by omega)]
        simp only [sizeTs, deepTs, allRTs, Bool.and_assoc, Prod.mk.injEq, and_true]
        constructor <;> congr 1 <;> omega
    rw [foldT_eq, sizeT_eq, deepT_eq, allRT_eq]
    have h3 : stepT ((n : Int), (m : Int), b) ((e + 1 : Nat) : Int) x = (((n + 1 : Nat) : Int), ((max m (e + 1) : Nat) : Int), b && rightT x) := by
      simp only [stepT]
      rw [w64_id (by omega) (by omega)]
      simp only [Prod.mk.injEq, and_true]
      constructor
      · rfl
      · omega
    have h4 : W64 (((e + 1 : Nat) : Int) + 1) = ((e + 1 + 1 : Nat) : Int) := by rw [w64_id (by omega) (by omega)]; rfl
    rw [h3, h4, hs x.l (fun _ h => h) _ _ _ (by omega) (by omega) (by omega)]
    simp only [Bool.and_assoc, Prod.mk.injEq, and_true]
    constructor <;> congr 1 <;> omega
def checkT (x : Pa) : Int := if 64 < sizeT x ∨ 8 < deepT x then 2 else if allRT x = false then 1 else 0
theorem checkT0_eq (x : Pa) (h : sizeT x ≤ 1152921504606846975) : checkT0 x = checkT x := by
  have hd := deep_size x
  have h0 := stepT_fold x 0 0 0 true (by omega) (by omega)
  have h1 : foldT stepT (0, 0, true) 1 x = (((sizeT x : Nat) : Int), ((deepT x : Nat) : Int), allRT x) := by
    have e : (((0 + sizeT x : Nat) : Int), ((max 0 (0 + deepT x) : Nat) : Int), true && allRT x) = (((sizeT x : Nat) : Int), ((deepT x : Nat) : Int), allRT x) := by
      simp
    rw [← e, ← h0]; rfl
  simp only [checkT0, checkT, h1]
  by_cases h3 : 64 < sizeT x ∨ 8 < deepT x
  · rw [if_pos (by omega), if_pos h3]
  · rw [if_neg (by omega), if_neg h3]
theorem c97 (x : Pa) (hok : allT okT x) (hs : sizeT x ≤ 1152921504606846975) (H : Heap) (Q : Post) (hq : ∀ H', HExt H H' → Q (I (checkT x)) H') : E 97 [encT x] H Q :=
  c97_0 x hok H Q (by rw [checkT0_eq x hs]; exact hq)
/-! ### The document's -/
theorem c29 (x : Pa) : sizeT x ≤ 1152921504606846975 → ∀ (H : Heap) (Q : Post), E 29 [encT x] H Q = Q (I (sizeT x)) H := by
  induction x using Pa.ind with
  | h x ih =>
    intro hs H Q
    have hs' := hs
    rw [sizeT_eq] at hs'
    have loop : ∀ (r pre : List Pa), x.l = pre ++ r → f29_l8 (encTC x) (I ((1 + sizeTs pre : Nat) : Int)) (I pre.length) H Q = Q (I (sizeT x)) H := by
      intro r
      induction r with
      | nil =>
        intro pre e
        have h1 : (pre.length : Int) = x.l.length := by rw [e]; simp
        have h2 : pre = x.l := by rw [e]; simp
        rw [f29_l8_eq, part_f, p5T, ob_some, lenT, ob_some, i_lss, ob_some, cnd_B, h1, sizeT_eq, h2]
        simp
      | cons y r ihr =>
        intro pre e
        have hlt : pre.length < x.l.length := by rw [e]; simp
        have hlt' : (pre.length : Int) < x.l.length := by omega
        have hl := len_sizeTs x.l
        have hsum : sizeTs pre + (sizeT y + sizeTs r) = sizeTs x.l := by rw [e, sizeTs_append]; rfl
        have := ihr (pre ++ [y]) (by simp [e])
        rw [List.length_append, List.length_singleton, sizeTs_append] at this
        rw [f29_l8_eq, part_f, p5T, ob_some, lenT, ob_some, i_lss, ob_some, cnd_B, if_pos (by simpa using hlt'), ob_some, ixT x.l x.sz x.nil x.tip pre r y e, ob_some, partT, ob_some, ih y (by rw [e]; simp) (by omega), i_add, ob_some, i_add, ob_some, w64_succ hlt (by omega),
          w64_id (by omega) (by omega)]
        rw [← this]
        congr 2
        simp only [sizeTs]
        omega
    rw [f29_eq, szT, ob_some]
    exact loop x.l [] rfl
theorem c139 (x : Pa) : sizeT x ≤ 1152921504606846975 → ∀ (H : Heap) (Q : Post), E 139 [encT x] H Q = Q (I (deepT x)) H := by
  induction x using Pa.ind with
  | h x ih =>
    intro hs H Q
    have hs' := hs
    rw [sizeT_eq] at hs'
    have hdx := deep_size x
    rw [deepT_eq] at hdx
    have loop : ∀ (r pre : List Pa), x.l = pre ++ r → f139_l8 (encTC x) (I ((deepTs pre : Nat) : Int)) (I pre.length) H Q = Q (I (deepT x)) H := by
      intro r
      induction r with
      | nil =>
        intro pre e
        have h1 : (pre.length : Int) = x.l.length := by rw [e]; simp
        have h2 : pre = x.l := by rw [e]; simp
        rw [f139_l8_eq, part_f, p5T, ob_some, lenT, ob_some, i_lss, ob_some, cnd_B, h1, deepT_eq, h2]
        simp only [Int.lt_irrefl, decide_false, Bool.false_eq_true, if_false, i_add, ob_some]
        rw [w64_id (by omega) (by omega)]
        congr 2; omega
      | cons y r ihr =>
        intro pre e
        have hlt : pre.length < x.l.length := by rw [e]; simp
        have hlt' : (pre.length : Int) < x.l.length := by omega
        have hl := len_sizeTs x.l
        have hsum : sizeTs pre + (sizeT y + sizeTs r) = sizeTs x.l := by rw [e, sizeTs_append]; rfl
        have := ihr (pre ++ [y]) (by simp [e])
        rw [List.length_append, List.length_singleton, deepTs_append] at this
        rw [f139_l8_eq, part_f, p5T, ob_some, lenT, ob_some, i_lss, ob_some, cnd_B, if_pos (by simpa using hlt'), ob_some, ixT x.l x.sz x.nil x.tip pre r y e, ob_some, partT, ob_some, ih y (by rw [e]; simp) (by omega), max_I, ob_some, i_add, ob_some, w64_succ hlt (by omega)]
        rw [← this]
        congr 2
        simp only [deepTs]
        omega
    rw [f139_eq, szT, ob_some]
    exact loop x.l [] rfl
def rowT (k : Int) : Bool := decide (k = 2 ∨ k = 3 ∨ k = 4)
theorem c163 (x : Pa) (H : Heap) (Q : Post) : E 163 [encT x] H Q = Q (B (rowT x.k)) H := by
  simp only [f163_eq, f163_j4_eq, szT, part_f, p0T, i_eql, ob_some, cnd_B, decide_eq_true_eq, rowT]
  by_cases h2 : x.k = 2
  · simp [h2]
  · by_cases h3 : x.k = 3
    · simp [h3]
    · simp [h2, h3]
theorem allPT (k : Int) (l : List Pa) : (l.all fun y => !decide (y.k = k) && allRT y) = (allRTs l && !(l.any fun y => decide (y.k = k))) := by
  induction l with
  | nil => simp [allRTs]
  | cons y r ih =>
    simp only [List.all_cons, List.any_cons, allRTs, ih]
    cases allRT y <;> cases allRTs r <;> cases decide (y.k = k) <;> cases (r.any fun y => decide (y.k = k)) <;> rfl
theorem c140 (x : Pa) : allT okT x → ∀ (H : Heap) (Q : Post), E 140 [encT x] H Q = Q (B (allRT x)) H := by
  induction x using Pa.ind with
  | h x ih =>
    intro hok H Q
    have hok' := (allT_eq _ _).1 hok
    have loop : ∀ (r pre : List Pa), x.l = pre ++ r → f140_l18 (encTC x) (I pre.length) H Q = Q (B (r.all fun y => !decide (y.k = x.k) && allRT y)) H := by
      intro r
      induction r with
      | nil =>
        intro pre e
        have h1 : (pre.length : Int) = x.l.length := by rw [e]; simp
        rw [f140_l18_eq, part_f, p5T, ob_some, lenT, ob_some, i_lss, ob_some, cnd_B, h1]
        simp
      | cons y r ihr =>
        intro pre e
        have hlt : pre.length < x.l.length := by rw [e]; simp
        have hlt' : (pre.length : Int) < x.l.length := by omega
        have hy := ih y (by rw [e]; simp) (allTs_mem hok'.2 (by rw [e]; simp))
        have ih2 := ihr (pre ++ [y]) (by simp [e])
        rw [List.length_append, List.length_singleton] at ih2
        have p0' : ((encTC y).drop 0)[0]? = some (I y.k) := p0T y
        have hn := hok'.1.1
        rw [f140_l18_eq, part_f, p5T, ob_some, lenT, ob_some, i_lss, ob_some, cnd_B, if_pos (by simpa using hlt'), ob_some, ixT x.l x.sz x.nil x.tip pre r y e, ob_some]
        simp only [part_f, p0', p0T, ob_some, i_eql, f140_j29_eq, ixT x.l x.sz x.nil x.tip pre r y e, p5T, partT, hy, not_B, i_add, w64_succ hlt (show x.l.length ≤ 1152921504606846976 by omega), ih2, cnd_B, cnd_t, List.all_cons, decide_eq_true_eq]
        by_cases h : y.k = x.k
        · simp [h]
        · cases allRT y <;> simp [h]
    have l0 : f140_l18 (encTC x) (I 0) H Q = _ := loop x.l [] rfl
    rw [allPT] at l0
    simp only [f140_eq, szT, partT, ob_some, c163, part_f, p0T, p1T, p2T, p3T, p4T, p5T, lenT, s_neq, i_neq, i_eql, i_lss, i_leq, i_geq, c102 x.var hok'.1.2.1, c102 x.typ hok'.1.2.2, not_B, f140_j42_eq, f140_j9_eq, f140_j57_eq, f140_j53_eq,
      f140_c2_8a_eq, f140_c2_8b_eq, f140_c2_13a_eq, f140_c2_13b_eq, f140_c2_18a_eq, f140_c2_18b_eq, f140_c13_8a_eq, f140_c13_8b_eq, f140_c13_23a_eq, f140_c13_23b_eq, f140_c13_23c_eq, f140_c13_23d_eq, f140_c13_24a_eq, f140_c13_24b_eq, f140_c13_24c_eq, f140_c13_24d_eq, f140_c13_25a_eq, f140_c13_25b_eq, f140_c13_25c_eq, f140_c13_34a_eq, f140_c13_34b_eq, f140_c13_34c_eq, f140_c13_36a_eq, f140_c13_36b_eq, f140_c14_8a_eq, f140_c14_8b_eq, f140_c14_13a_eq, f140_c14_13b_eq, f140_c14_18a_eq, f140_c14_18b_eq, l0, cnd_B, rowT, allRT_eq, rightT, leafT, countT]
    by_cases hr : x.k = 2 ∨ x.k = 3 ∨ x.k = 4
    · have h1 : ¬ (x.k = 1 ∨ x.k = 6) := by omega
      have h5 : ¬ x.k = 5 := by omega
      simp only [hr, h1, h5, decide_true, if_true, if_false]
      by_cases g1 : x.var = e0
      · by_cases g2 : x.typ = e0
        · by_cases g3 : x.lo = 0
          · by_cases g4 : x.hi = 0
            · by_cases g5 : 2 ≤ x.l.length
              · have : ¬ (x.l.length : Int) < 2 := by omega
                simp only [g1, g2, g3, g4, g5, this, decide_true, decide_false, Bool.not_true, Bool.false_eq_true, if_false, Bool.true_and]
                rw [Bool.and_comm]
              · have : (x.l.length : Int) < 2 := by omega
                simp [g1, g2, g3, g4, g5, this]
            · simp [g1, g2, g3, g4]
          · simp [g1, g2, g3]
        · simp [g1, g2]
      · simp [g1]
    · simp only [hr, decide_false, Bool.false_eq_true, if_false]
      by_cases hl : x.l.length = 0
      · have hl' : x.l = [] := List.eq_nil_of_length_eq_zero hl
        have hnil : allRTs x.l = true := by rw [hl']; rfl
        have hl0 : (x.l.length : Int) = 0 := by omega
        simp only [hl0, hl, hnil, decide_true, Bool.not_true, Bool.false_eq_true, if_false, Bool.true_and, Bool.and_true]
        cases nameL x.var.data.toList
        · by_cases h1 : x.k = 1 ∨ x.k = 6 <;> by_cases h5 : x.k = 5 <;> simp [h1, h5]
        · cases nameL x.typ.data.toList
          · by_cases h1 : x.k = 1 ∨ x.k = 6 <;> by_cases h5 : x.k = 5 <;> simp [h1, h5]
          · by_cases h5 : x.k = 5
            · have h1 : ¬ (x.k = 1 ∨ x.k = 6) := by omega
              simp only [h5, h1, decide_true, Bool.not_true, Bool.false_eq_true, if_true, if_false, Bool.true_and, decide_eq_true_eq]
              by_cases a1 : 1 ≤ x.lo
              · by_cases a2 : x.lo ≤ 1000
                · by_cases a3 : x.hi = 0
                  · have b1 : ¬ x.lo < 1 := by omega
                    have b2 : ¬ 1000 < x.lo := by omega
                    by_cases a4 : x.lo = 1 <;> simp [a1, a2, a3, b1, b2, a4]
                  · by_cases a4 : x.lo ≤ x.hi
                    · by_cases a5 : x.hi ≤ 1000
                      · have b1 : ¬ x.lo < 1 := by omega
                        have b2 : ¬ 1000 < x.lo := by omega
                        have b3 : ¬ 1000 < x.hi := by omega
                        by_cases a6 : x.lo = 1
                        · by_cases a7 : x.hi = 1
                          · simp [a6, a7]
                          · have : 1 < x.hi := by omega
                            simp only [a6, this] at *
                            simp [a2, a3, a4, a5, a7, b3]
                        · have : 1 < x.hi := by omega
                          simp [a1, a2, a3, a4, a5, a6, b1, b2, b3, this]
                      · have : 1000 < x.hi := by omega
                        simp [a1, a2, a3, a4, a5, this]
                    · simp [a1, a2, a3, a4]
                · have : 1000 < x.lo := by omega
                  simp [a1, a2, this]
              · have : x.lo < 1 := by omega
                simp [a1, this]
            · by_cases h1 : x.k = 1
              · by_cases a1 : x.lo = 0 <;> by_cases a2 : x.hi = 0 <;> simp [h1, a1, a2]
              · by_cases h6 : x.k = 6
                · by_cases a1 : x.lo = 0 <;> by_cases a2 : x.hi = 0 <;> simp [h6, a1, a2]
                · simp [h1, h5, h6]
      · have hl0 : ¬ (x.l.length : Int) = 0 := by omega
        have h1 : ∀ b c : Bool, (if x.k = 1 ∨ x.k = 6 then b else if x.k = 5 then c else false) = true → b = true ∨ c = true := fun b c h => by
          split at h
          · exact .inl h
          · split at h
            · exact .inr h
            · cases h
        simp [hl0, hl]
theorem c101 (x : Pa) (hok : allT okT x) (hs : sizeT x ≤ 1152921504606846975) (H : Heap) (Q : Post) : E 101 [encT x] H Q = Q (I (checkT x)) H := by
  rw [f101_eq, szT, ob_some, partT, ob_some, c29 x hs]
  simp only [i_gtr, ob_some, partT, c139 x hs, c140 x hok, not_B, f101_j5_eq, cnd_B, decide_eq_true_eq, checkT]
  by_cases h : 64 < sizeT x
  · have h' : (64 : Int) < (sizeT x : Int) := by omega
    simp [h, h']
  · have h' : ¬ (64 : Int) < (sizeT x : Int) := by omega
    by_cases h2 : 8 < deepT x
    · have h2' : (8 : Int) < (deepT x : Int) := by omega
      simp [h, h', h2, h2']
    · have h2' : ¬ (8 : Int) < (deepT x : Int) := by omega
      cases allRT x <;> simp [h, h', h2, h2']
end Go.Hx
