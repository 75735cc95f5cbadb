/- Contracts of layer 9, second part: what goes over all nodes. Own work (turned from S3G). -/
import Derived.Test.YtancdapnpceogaaGreatS5C
set_option maxRecDepth 20000
namespace Go.Hx
/-- but for some blocks, the heap only grows -/
def HExc (own : Nat → Prop) (H H' : Heap) : Prop := ∀ b, ¬ H.fresh b → ¬ own b → H'.objs b = H.objs b ∧ H'.tips b = H.tips b ∧ H'.tys b = H.tys b
theorem HExc.refl (own : Nat → Prop) (H : Heap) : HExc own H H := fun _ _ _ => ⟨rfl, rfl, rfl⟩
theorem HExt.exc {own : Nat → Prop} {H H' : Heap} (h : HExt H H') : HExc own H H' := fun b hb _ => h b hb
theorem HExc.trans {own : Nat → Prop} {H H' H'' : Heap} (h : HExc own H H') (h' : HExc own H' H'') : HExc own H H'' := fun b hb ho =>
  have h1 := h b hb ho
  have h2 := h' b (fun hf => hb ⟨h1.1 ▸ hf.1, h1.2.1 ▸ hf.2⟩) ho
  ⟨h2.1.trans h1.1, h2.2.1.trans h1.2.1, h2.2.2.trans h1.2.2⟩
theorem HExc.mono {o1 o2 : Nat → Prop} {H H' : Heap} (h : HExc o1 H H') (ho : ∀ b, ¬ H.fresh b → o1 b → o2 b) : HExc o2 H H' := fun b hb hn =>
  h b hb (fun h1 => hn (ho b hb h1))
theorem HExc.obj {own : Nat → Prop} {H H' : Heap} (h : HExc own H H') {b : Nat} {o : AObj} (hb : H.objs b = some o) (ho : ¬ own b) : H'.objs b = some o :=
  ((h b (not_fresh hb) ho).1).trans hb
theorem HExc.setObj {own : Nat → Prop} {H H' : Heap} (h : HExc own H H') {b : Nat} (hb : own b ∨ H.fresh b) (o : AObj) : HExc own H (H'.setObj b o) := fun c hc hoc => by
  have hne : c ≠ b := fun e => by
    subst e
    rcases hb with hb | hb
    · exact hoc hb
    · exact hc hb
  have := h c hc hoc
  simp only [Heap.setObj, if_neg hne]
  exact this
/-- as HExc, where what is owned was new -/
theorem HExc.ext {own : Nat → Prop} {H0 H H' : Heap} (h0 : HExt H0 H) (h : HExc own H H') (ho : ∀ b, own b → H0.fresh b) : HExt H0 H' := fun b hb => by
  have h1 := h0 b hb
  have h2 := h b (fun hf => hb (h0.fresh hf)) (fun hob => hb (ho b hob))
  exact ⟨h2.1.trans h1.1, h2.2.1.trans h1.2.1, h2.2.2.trans h1.2.2⟩
structure Visit (σ : Type) (y : AV) (own : Nat → Prop) (St : σ → Heap → Prop) (f : σ → Int → Ex → σ) : Prop where
  one : sizedA 1 y = some [y]
  stab : ∀ s H H', St s H → HExt H H' → St s H'
  old : ∀ s H b, St s H → own b → ¬ H.fresh b
  call : ∀ (s : σ) (H : Heap) (d : Int) (x : Ex) (K : Post), okX x → St s H → (∀ H', St (f s d x) H' → HExc own H H' → K (B true) H') → callA (Ev Pg Hs) y [I d, encX x] H K
theorem c119 {σ : Type} {y : AV} {own : Nat → Prop} {St : σ → Heap → Prop} {f : σ → Int → Ex → σ} (hv : Visit σ y own St f) (x : Ex) (hok : allX okX x) (b1 : Nat) (s : σ) (H : Heap) (Q : Post) (h1 : H.objs b1 = some (.cells (encC x))) (hs : St s H)
    (hq : ∀ H', St (foldX f s 1 x) H' → HExc own H H' → Q (.tup []) H') : E 119 [y, Pt b1] H Q := by
  rw [f119_eq, hv.one, ob_some]
  intro b2 f2
  simp only [Pt_def]
  have e1 : HExt H (H.setObj b2 (.cells [y])) := (HExt.refl H).setObj f2 _
  have o2 := setObj_same H b2 (.cells [y])
  generalize H.setObj b2 (.cells [y]) = H1 at e1 o2 ⊢
  intro b4 f4
  simp only [Pt_def]
  have hne : b2 ≠ b4 := fresh_ne o2 f4
  have hne1 : b1 ≠ b4 := fresh_ne (e1.obj h1) f4
  have o4 := setObj_same H1 b4 (.cells [.raw .nilFunc])
  have e2 : HExt H1 (H1.setObj b4 (.cells [.raw .nilFunc])) := (HExt.refl H1).setObj f4 _
  have o4' : ∀ o, ((H1.setObj b4 (.cells [.raw .nilFunc])).setObj b4 o).objs b4 = some o := fun o => setObj_same _ _ _
  rw [st_Pt o4 (sz1_fn _ _ _), ob_some]
  have e3 : HExt H1 ((H1.setObj b4 (.cells [.raw .nilFunc])).setObj b4 (.cells [.fn (.func 120) [] [Pt b2, Pt b4]])) := e2.setObj f4 _
  have o4 := o4' (.cells [.fn (.func 120) [] [Pt b2, Pt b4]])
  generalize (H1.setObj b4 (.cells [.raw .nilFunc])).setObj b4 (.cells [.fn (.func 120) [] [Pt b2, Pt b4]]) = H2 at e3 o4 ⊢
  have o2 := e3.obj o2
  have h1 := e3.obj (e1.obj h1)
  have hs2 := hv.stab _ _ _ hs (e1.trans e3)
  rw [ld_Pt o4, ld_Pt h1, partX]
  simp only [part_f, List.getElem?_cons_zero, ob_some]
  show E 120 [I 1, encX x, Pt b2, Pt b4] H2 _
  have n2 : ¬ own b2 := fun h => hv.old _ _ _ hs h f2
  have n4 : ¬ own b4 := fun h => hv.old _ _ _ (hv.stab _ _ _ hs e1) h f4
  refine c120 (St := fun s H' => St s H' ∧ H'.objs b2 = some (.cells [y]) ∧ H'.objs b4 = some (.cells [.fn (.func 120) [] [Pt b2, Pt b4]]) ∧ HExc own H2 H') (f := f)
    ⟨fun s H' d x K hx hs' hk => hv.call s H' d x K hx hs'.1 (fun H'' hs'' he => hk H'' ⟨hs'', he.obj hs'.2.1 n2, he.obj hs'.2.2.1 n4, hs'.2.2.2.trans he⟩)⟩
    (fun s H' hs' => ⟨hs'.2.1, hs'.2.2.1⟩) x hok s H2 1 _ ⟨hs2, o2, o4, HExc.refl _ _⟩ (fun H' hs' => ?_)
  exact hq H' hs'.1 ((e1.trans e3).exc.trans hs'.2.2.2)

/-! ### May a condition be -/
def stepC (s : Int × Bool) (_ : Int) (x : Ex) : Int × Bool := (W64 (s.1 + 1), s.2 && rightP x)
def checkP (x : Ex) : Int :=
  if 100 < (foldX stepC (0, true) 1 x).1 then 2 else if (foldX stepC (0, true) 1 x).2 = false then 1 else 0
theorem c57 (x : Ex) (H : Heap) (Q : Post) (hq : ∀ b, H.fresh b → Q (.fn (.func 119) [] [Pt b]) (H.setObj b (.cells (encC x)))) : E 57 [encX x] H Q := by
  rw [f57_eq, szX, ob_some]
  intro b hb
  exact hq b hb
theorem visitC (H0 : Heap) (bn bf l : Nat) (n1 : bn ≠ bf) (n2 : bn ≠ l) (n3 : bf ≠ l) (L : LoopInfo) (hL : L = f28_L8 (Pt bn) (Pt bf)) :
    Visit (Int × Bool) (.fn (.yield l) [] []) (fun b => b = bn ∨ b = bf ∨ b = l)
      (fun s H => H.objs bn = some (.cells [I s.1]) ∧ H.objs bf = some (.cells [B s.2]) ∧ H.objs l = some (.loop L .ready)) stepC := by
  refine ⟨rfl, fun s H H' hs he => ⟨he.obj hs.1, he.obj hs.2.1, he.obj hs.2.2⟩, fun s H b hs hb => ?_, fun s H d x K hx hs hk => ?_⟩
  · rcases hb with rfl | rfl | rfl
    · exact not_fresh hs.1
    · exact not_fresh hs.2.1
    · exact not_fresh hs.2.2
  obtain ⟨s1, s2, s3⟩ := hs
  show Ev Pg Hs (.yield l) [I d, encX x] H K
  rw [Ev_yield s3, hL, f28_y8_eq, szX, ob_some, splX, ob_some]
  unfold beginA
  rw [s3]
  simp only
  have t1 : (H.setObj l (.loop L .busy)).objs bn = some (.cells [I s.1]) := (setObj_ne H _ n2).trans s1
  have t2 : (H.setObj l (.loop L .busy)).objs bf = some (.cells [B s.2]) := (setObj_ne H _ n3).trans s2
  have t3 := setObj_same H l (.loop L .busy)
  have te : HExc (fun b => b = bn ∨ b = bf ∨ b = l) H (H.setObj l (.loop L .busy)) := (HExc.refl _ H).setObj (.inl (.inr (.inr rfl))) _
  generalize H.setObj l (.loop L .busy) = H1 at t1 t2 t3 te ⊢
  rw [ld_Pt t1]
  simp only [part_f, List.getElem?_cons_zero, ob_some, i_add]
  rw [st_Pt t1 (sz1_I _), ob_some]
  have u1 := setObj_same H1 bn (.cells [I (W64 (s.1 + 1))])
  have u2 : (H1.setObj bn (.cells [I (W64 (s.1 + 1))])).objs bf = some (.cells [B s.2]) := (setObj_ne H1 _ (Ne.symm n1)).trans t2
  have u3 : (H1.setObj bn (.cells [I (W64 (s.1 + 1))])).objs l = some (.loop L .busy) := (setObj_ne H1 _ (Ne.symm n2)).trans t3
  have ue : HExc (fun b => b = bn ∨ b = bf ∨ b = l) H (H1.setObj bn (.cells [I (W64 (s.1 + 1))])) := te.setObj (.inl (.inl rfl)) _
  generalize H1.setObj bn (.cells [I (W64 (s.1 + 1))]) = H2 at u1 u2 u3 ue ⊢
  rw [ld_Pt u2]
  simp only [part_f, List.getElem?_cons_zero, ob_some]
  have fin : ∀ (c : Bool) (H3 : Heap), c = (s.2 && rightP x) → HExt H2 H3 → ob (stH H3 1 (Pt bf) (B c)) fun H30 => endA l H30 true .ready K := fun c H3 hc he => by
    rw [st_Pt (he.obj u2) (sz1_B _), ob_some]
    unfold endA
    have v1 := setObj_same H3 bf (.cells [B c])
    have v2 : (H3.setObj bf (.cells [B c])).objs bn = some (.cells [I (W64 (s.1 + 1))]) := (setObj_ne H3 _ n1).trans (he.obj u1)
    have v3 : (H3.setObj bf (.cells [B c])).objs l = some (.loop L .busy) := (setObj_ne H3 _ (Ne.symm n3)).trans (he.obj u3)
    have ve : HExc (fun b => b = bn ∨ b = bf ∨ b = l) H (H3.setObj bf (.cells [B c])) := (ue.trans he.exc).setObj (.inl (.inr (.inl rfl))) _
    rw [v3]
    simp only
    refine hk _ ⟨?_, ?_, setObj_same _ _ _⟩ (ve.setObj (.inl (.inr (.inr rfl))) _)
    · rw [setObj_ne _ _ n2, v2]; rfl
    · rw [setObj_ne _ _ n3, v1, hc]; rfl
  refine cnd_intro (fun h => ?_) (fun h => ?_)
  · rw [partX, ob_some]
    refine c58 x hx.1 hx.2.1 hx.2.2 H2 _ (fun H3 he => ?_)
    exact fin _ H3 (by rw [h, Bool.true_and]) he
  · exact fin false H2 (by rw [h, Bool.false_and]) (HExt.refl _)
theorem c28 (x : Ex) (hok : allX okX x) (H : Heap) (Q : Post) (hq : ∀ H', HExt H H' → Q (I (checkP x)) H') : E 28 [encX x] H Q := by
  rw [f28_eq, szX, ob_some]
  intro bn hn
  simp only [Pt_def]
  have e1 : HExt H (H.setObj bn (.cells [I 0])) := (HExt.refl H).setObj hn _
  have o1 := setObj_same H bn (.cells [I 0])
  generalize H.setObj bn (.cells [I 0]) = H1 at e1 o1 ⊢
  intro bf hf
  simp only [Pt_def]
  have n1 : bn ≠ bf := fresh_ne o1 hf
  have e2 : HExt H (H1.setObj bf (.cells [B false])) := e1.setObj (e1.fresh hf) _
  have o2 := setObj_same H1 bf (.cells [B false])
  have o1 : (H1.setObj bf (.cells [B false])).objs bn = some (.cells [I 0]) := (setObj_ne H1 _ n1).trans o1
  have hf' := e1.fresh hf
  generalize H1.setObj bf (.cells [B false]) = H2 at e2 o1 o2 ⊢
  rw [st_Pt o1 (sz1_I _), ob_some]
  have e3 : HExt H (H2.setObj bn (.cells [I 0])) := e2.setObj hn _
  have o2 : (H2.setObj bn (.cells [I 0])).objs bf = some (.cells [B false]) := (setObj_ne H2 _ (Ne.symm n1)).trans o2
  have o1 := setObj_same H2 bn (.cells [I 0])
  generalize H2.setObj bn (.cells [I 0]) = H3 at e3 o1 o2 ⊢
  rw [st_Pt o2 (sz1_B _), ob_some, partX, ob_some]
  have e4 : HExt H (H3.setObj bf (.cells [B true])) := e3.setObj hf' _
  have o1 : (H3.setObj bf (.cells [B true])).objs bn = some (.cells [I 0]) := (setObj_ne H3 _ n1).trans o1
  have o2 := setObj_same H3 bf (.cells [B true])
  generalize H3.setObj bf (.cells [B true]) = H4 at e4 o1 o2 ⊢
  refine c57 x H4 _ (fun b1 hb => ?_)
  have e5 : HExt H4 (H4.setObj b1 (.cells (encC x))) := (HExt.refl H4).setObj hb _
  have ox := setObj_same H4 b1 (.cells (encC x))
  generalize H4.setObj b1 (.cells (encC x)) = H5 at e5 ox ⊢
  have o1 := e5.obj o1
  have o2 := e5.obj o2
  refine ⟨trivial, ?_⟩
  intro l hl
  have n2 := fresh_ne o1 hl
  have n3 := fresh_ne o2 hl
  have e6 : HExt H5 (H5.setObj l (.loop (f28_L8 (Pt bn) (Pt bf)) .ready)) := (HExt.refl H5).setObj hl _
  have o3 := setObj_same H5 l (.loop (f28_L8 (Pt bn) (Pt bf)) .ready)
  generalize H5.setObj l (.loop (f28_L8 (Pt bn) (Pt bf)) .ready) = H6 at e6 o3 ⊢
  show E 119 [.fn (.yield l) [] [], Pt b1] H6 _
  refine c119 (visitC H bn bf l n1 n2 n3 _ rfl) x hok b1 (0, true) H6 _ (e6.obj ox) ⟨e6.obj o1, e6.obj o2, o3⟩ (fun H7 hs he => ?_)
  obtain ⟨s1, s2, s3⟩ := hs
  have hE : HExt H H7 := he.ext ((e4.trans e5).trans e6) (fun b hb => by
    rcases hb with rfl | rfl | rfl
    · exact hn
    · exact hf'
    · exact (e4.trans e5).fresh hl)
  unfold overA
  rw [s3]
  simp only
  have t1 : (H7.setObj l (.loop (f28_L8 (Pt bn) (Pt bf)) .over)).objs bn = _ := (setObj_ne H7 _ n2).trans s1
  have t2 : (H7.setObj l (.loop (f28_L8 (Pt bn) (Pt bf)) .over)).objs bf = _ := (setObj_ne H7 _ n3).trans s2
  have hE' : HExt H (H7.setObj l (.loop (f28_L8 (Pt bn) (Pt bf)) .over)) := hE.setObj ((e4.trans e5).fresh hl) _
  generalize H7.setObj l (.loop (f28_L8 (Pt bn) (Pt bf)) .over) = H8 at t1 t2 hE' ⊢
  rw [f28_j14_eq, ld_Pt t1]
  simp only [part_f, List.getElem?_cons_zero, ob_some, i_gtr, ld_Pt t2, not_B]
  have := hq H8 hE'
  simp only [checkP] at this
  refine cnd_intro (fun h => ?_) (fun h => cnd_intro (fun h' => ?_) (fun h' => ?_))
  · rw [if_pos (by simpa using h)] at this; exact this
  · rw [if_neg (by simpa using h), if_pos (by simpa using h')] at this; exact this
  · rw [if_neg (by simpa using h), if_neg (by simpa using h')] at this; exact this
end Go.Hx
