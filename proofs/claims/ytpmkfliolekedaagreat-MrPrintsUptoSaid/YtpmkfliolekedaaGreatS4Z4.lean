/- Contracts of layer 12: the Vars of a pattern. Own work. -/
import Derived.Test.YtpmkfliolekedaaGreatS4Z2
set_option maxRecDepth 20000
namespace Go.Hx
/-! ### Several rows that grow (turned from S3KW) -/
def TipsApart (t u : Tip) : Prop := ∀ b, t = .tip b → u ≠ .tip b
theorem TipsApart.symm {t u : Tip} (h : TipsApart t u) : TipsApart u t := fun b hu ht => h b ht hu
structure SlS where
  s : Nat
  n : Bool
  t : Tip
def slA (z : SlS) (l : List AV) : AV := .sl z.s z.n z.t l
structure Ow (H0 H : Heap) (sz : Nat) (z : SlS) (n : Nat) : Prop where
  own : OwnS H0 H sz n z.t
  sz : z.n = true ∨ z.s = sz
theorem Ow.mono {H0 H H' : Heap} {sz : Nat} {z : SlS} {n : Nat} (h : Ow H0 H sz z n) (he : HExt H H') : Ow H0 H' sz z n := ⟨h.own.ext he, h.sz⟩
theorem app_own2 {H0 H : Heap} {sz bytes : Nat} {z : SlS} {xs : List AV} (y : AV) {K : Post} (he : HExt H0 H) (ho : Ow H0 H sz z xs.length) (h1 : 1 ≤ sz)
    (hb : (xs.length + 1) * bytes ≤ 140737488355328)
    (hk : ∀ z' H', HExt H0 H' → H'.objs = H.objs → Ow H0 H' sz z' (xs.length + 1) → (∀ sz2 u n, Ow H0 H sz2 u n → TipsApart z.t u.t → Ow H0 H' sz2 u n ∧ TipsApart z'.t u.t) → K (slA z' (xs ++ [y])) H') :
    appA sz bytes (slA z xs) (.sl sz false .full [y]) H K := by
  have ht : tailA sz (.sl sz false .full [y]) = some [y] := by simp [tailA]
  obtain ⟨zs, zn, zt⟩ := z
  unfold appA slA
  simp only [ht]
  refine ⟨ho.sz, h1, hb, ?_⟩
  have done : ∀ b, (zt = .tip b ∨ H.fresh b) → H0.fresh b → K (.sl sz false (.tip b) (xs ++ [y])) (H.setTip b ((xs.length + 1) * sz)) := fun b hbb hf0 =>
    hk ⟨sz, false, .tip b⟩ _ (he.setTip hf0 _) rfl ⟨⟨by simp [Heap.setTip], hf0⟩, .inr rfl⟩ (fun sz2 u n hu ha => by
      have hne : ∀ c, u.t = .tip c → c ≠ b := fun c hc hcb => by
        subst hcb
        rcases hbb with hbb | hbb
        · exact ha c hbb hc
        · have := hu.own
          rw [hc] at this
          have h2 := this.1
          rw [hbb.2] at h2; cases h2
      refine ⟨⟨?_, hu.sz⟩, fun c hc hc' => ?_⟩
      · have := hu.own
        cases hut : u.t with
        | any => rw [hut] at this; exact this
        | full => trivial
        | tip c =>
          rw [hut] at this
          refine ⟨?_, this.2⟩
          have hcb : c ≠ b := hne c hut
          simp only [Heap.setTip, if_neg hcb]; exact this.1
      · simp only [Tip.tip.injEq] at hc
        exact hne c hc' hc.symm)
  cases zt with
  | any => exact ho.own.elim
  | full => exact fun b hf => done b (.inr hf) (he.fresh hf)
  | tip b0 =>
    refine ⟨ho.own.1, fun b hf => ?_⟩
    rcases hf with rfl | hf
    · exact done b (.inl rfl) ho.own.2
    · exact done b (.inr hf) (he.fresh hf)
structure Bag3 (H0 H : Heap) (V T K : SlS) (n : Nat) : Prop where
  ext : HExt H0 H
  oV : Ow H0 H 1 V n
  oT : Ow H0 H 1 T n
  oK : Ow H0 H 1 K n
  VT : TipsApart V.t T.t
  VK : TipsApart V.t K.t
  TK : TipsApart T.t K.t
theorem Bag3.mono {H0 H H' : Heap} {V T K : SlS} {n : Nat} (h : Bag3 H0 H V T K n) (he : HExt H H') : Bag3 H0 H' V T K n :=
  ⟨h.ext.trans he, h.oV.mono he, h.oT.mono he, h.oK.mono he, h.VT, h.VK, h.TK⟩
def z0 : SlS := ⟨0, true, .full⟩
theorem bag0 (H : Heap) : Bag3 H H z0 z0 z0 0 := ⟨HExt.refl H, ⟨trivial, .inl rfl⟩, ⟨trivial, .inl rfl⟩, ⟨trivial, .inl rfl⟩, fun _ h => (by cases h), fun _ h => (by cases h), fun _ h => (by cases h)⟩
def vA (s : List Us) : List AV := s.map fun u => S u.var
def tA (s : List Us) : List AV := s.map fun u => S u.typ
def kA (s : List Us) : List AV := s.map fun u => I u.k
/-- the three rows grow by one -/
theorem bag_app {H0 H : Heap} {V T K : SlS} {s : List Us} (u : Us) (h : Bag3 H0 H V T K s.length) (hn : s.length ≤ 1099511627776) {R : AV → AV → AV → Heap → Prop}
    (hk : ∀ V' T' K' H', Bag3 H0 H' V' T' K' (s ++ [u]).length → H'.objs = H.objs → R (slA V' (vA (s ++ [u]))) (slA T' (tA (s ++ [u]))) (slA K' (kA (s ++ [u]))) H') :
    appA 1 16 (slA V (vA s)) (.sl 1 false .full [S u.var]) H fun r39 H40 => appA 1 16 (slA T (tA s)) (.sl 1 false .full [S u.typ]) H40 fun r41 H42 => appA 1 8 (slA K (kA s)) (.sl 1 false .full [I u.k]) H42 fun r43 H44 => R r39 r41 r43 H44 := by
  have lv : (vA s).length = s.length := by simp [vA]
  have lt : (tA s).length = s.length := by simp [tA]
  have lk : (kA s).length = s.length := by simp [kA]
  refine app_own2 (S u.var) h.ext (by rw [lv]; exact h.oV) (by omega) (by omega) (fun V' H1 e1 q1 o1 r1 => ?_)
  rw [lv] at o1
  obtain ⟨aT, aVT⟩ := r1 _ _ _ h.oT h.VT
  obtain ⟨aK, aVK⟩ := r1 _ _ _ h.oK h.VK
  refine app_own2 (S u.typ) e1 (by rw [lt]; exact aT) (by omega) (by omega) (fun T' H2 e2 q2 o2 r2 => ?_)
  rw [lt] at o2
  obtain ⟨bV, bTV⟩ := r2 _ _ _ o1 aVT.symm
  obtain ⟨bK, bTK⟩ := r2 _ _ _ aK h.TK
  refine app_own2 (I u.k) e2 (by rw [lk]; exact bK) (by omega) (by omega) (fun K' H3 e3 q3 o3 r3 => ?_)
  rw [lk] at o3
  obtain ⟨cV, cKV⟩ := r3 _ _ _ bV aVK.symm
  obtain ⟨cT, cKT⟩ := r3 _ _ _ o2 bTK.symm
  have e : (s ++ [u]).length = s.length + 1 := by simp
  have := hk V' T' K' H3 (by rw [e]; exact ⟨e3, cV, cT, o3, bTV.symm, cKV.symm, cKT.symm⟩) (q3.trans (q2.trans q1))
  simpa [vA, tA, kA] using this
/-! ### What is kept -/
def seenV (s : List Us) (v : ByteArray) : Bool := s.any fun u => decide (v = u.var)
def addV (s : List Us) (u : Us) : List Us := if seenV s u.var = true then s else s ++ [u]
def varsOf (x : Pa) : List Us := (usesT x).foldl addV []
def stepV (s : List Us) (_ : Int) (x : Pa) : List Us := if isLeafT x.k = true then addV s (useOf x) else s
theorem fold_uses (x : Pa) : ∀ (s : List Us) (d : Int), foldT stepV s d x = (usesT x).foldl addV s := by
  induction x using Pa.ind with
  | h x ih =>
    intro s d
    rw [foldT_eq, usesT_eq, List.foldl_append]
    have hs : ∀ (r : List Pa), (∀ y ∈ r, y ∈ x.l) → ∀ (s : List Us) (d : Int), foldTs stepV s d r = (usesTs r).foldl addV s := by
      intro r
      induction r with
      | nil => intro _ s d; simp [foldTs, usesTs]
      | cons y r ihr =>
        intro hm s d
        simp only [foldTs, usesTs, List.foldl_append]
        rw [ih y (hm y (by simp)), ihr (fun z hz => hm z (by simp [hz]))]
    rw [hs x.l (fun _ h => h)]
    congr 1
    simp only [stepV]
    by_cases h : isLeafT x.k = true
    · rw [if_pos h, if_pos h]; rfl
    · rw [if_neg h, if_neg h]; rfl
theorem fold_len : ∀ (us s : List Us), (us.foldl addV s).length ≤ s.length + us.length := by
  intro us
  induction us with
  | nil => intro s; simp
  | cons u r ih =>
    intro s
    have h1 := ih (addV s u)
    have h2 : (addV s u).length ≤ s.length + 1 := by
      simp only [addV]
      split
      · omega
      · simp
    simp only [List.foldl_cons, List.length_cons]; omega
theorem c111 (z : SlS) (s : List Us) (v : ByteArray) (hn : s.length ≤ 1099511627776) (H : Heap) (Q : Post) : E 111 [slA z (vA s), S v] H Q = Q (B (seenV s v)) H := by
  have loop : ∀ (r pre : List Us) (K : Post), s = pre ++ r → ∃ i : Int, decide (0 ≤ i) = seenV r v ∧ f146_l6 (slA z (vA s)) (S v) (I s.length) (I pre.length) H K = K (I i) H := by
    intro r
    induction r with
    | nil =>
      intro pre K e
      have h1 : (pre.length : Int) = s.length := by rw [e]; simp
      refine ⟨-1, rfl, ?_⟩
      rw [f146_l6_eq, i_lss, ob_some, cnd_B, h1]
      simp
    | cons u r ihr =>
      intro pre K e
      have hlt : pre.length < s.length := by rw [e]; simp
      have hlt' : (pre.length : Int) < s.length := by omega
      obtain ⟨i, h1, h2⟩ := ihr (pre ++ [u]) K (by simp [e])
      rw [List.length_append, List.length_singleton] at h2
      have i1 : ixaA 1 (slA z (vA s)) (I pre.length) = some [S u.var] := ix_mk 1 z.n z.t _ pre.length (x := S u.var) (by rw [e]; exact get_mid (fun u : Us => S u.var) pre r u) rfl
      by_cases hv : v = u.var
      · refine ⟨pre.length, by simp [seenV, hv], ?_⟩
        rw [f146_l6_eq, i_lss, ob_some, cnd_B, if_pos (by simpa using hlt'), i1, ob_some, part_f, List.getElem?_cons_zero, ob_some, s_eql, ob_some, cnd_B, if_pos (by simpa using hv)]
      · refine ⟨i, by rw [h1]; simp [seenV, hv], ?_⟩
        rw [f146_l6_eq, i_lss, ob_some, cnd_B, if_pos (by simpa using hlt'), i1, ob_some, part_f, List.getElem?_cons_zero, ob_some, s_eql, ob_some, cnd_B, if_neg (by simpa using hv), i_add, ob_some, w64_succ hlt (by omega), h2]
  obtain ⟨i, h1, h2⟩ := loop s [] (fun r1 H2 => ob (binA Pg .geq 3 true r1 (I 0)) fun r3 => Q r3 H2) rfl
  have hl : lenA (slA z (vA s)) = some (I s.length) := by simp [slA, len_sl, vA]
  rw [f111_eq, f146_eq, hl, ob_some]
  refine h2.trans ?_
  rw [i_geq, ob_some, h1]
/-! ### Over all nodes, keeping blocks, each node once -/
structure VisitO (σ : Type) (y : AV) (own : Nat → Prop) (St : σ → Nat → Heap → Prop) (f : σ → Int → Pa → σ) : Prop where
  one : sizedA 1 y = some [y]
  stab : ∀ s n H H', St s n H → HExt H H' → St s n H'
  old : ∀ s n H b, St s n H → own b → ¬ H.fresh b
  call : ∀ (s : σ) (n : Nat) (H : Heap) (d : Int) (x : Pa) (K : Post), okT x → St s (n + 1) H → (∀ H', St (f s d x) n H' → (∀ b o, H.objs b = some o → ¬ own b → H'.objs b = some o) → K (B true) H') → callA (Ev Pg Hs) y [encNd x d] H K
section walk2
variable {σ : Type} {y : AV} {St : σ → Nat → Heap → Prop} {f : σ → Int → Pa → σ} {b2 b4 : Nat}
theorem c145b (hy : ∀ (s : σ) (n : Nat) (H : Heap) (d : Int) (x : Pa) (K : Post), okT x → St s (n + 1) H → (∀ H', St (f s d x) n H' → K (B true) H') → callA (Ev Pg Hs) y [encNd x d] H K)
    (h2 : ∀ s n H, St s n H → H.objs b2 = some (.cells [y]) ∧ H.objs b4 = some (.cells [.fn (.func 145) [] [Pt b2, Pt b4]])) : ∀ (x : Pa), allT okT x → ∀ (s : σ) (n : Nat) (H : Heap) (d : Int) (Q : Post), St s (n + sizeT x) H →
    (∀ H', St (foldT f s d x) n H' → Q (B true) H') → E 145 [encNd x d, Pt b2, Pt b4] H Q := by
  intro x
  induction x using Pa.ind with
  | h x ih =>
    intro hok s n H d Q hs hq
    rw [allT_eq] at hok
    have hn := hok.1.1
    have loop : ∀ (r pre : List Pa) (s : σ) (H : Heap), x.l = pre ++ r → St s (n + sizeTs r) H → (∀ H', St (foldTs f s (W64 (d + 1)) r) n H' → Q (B true) H') → f145_l14 (Pt b4) (encTC x ++ [I d]) (encTs x.sz x.nil x.tip x.l) (I x.l.length) (I pre.length) H Q := by
      intro r
      induction r with
      | nil =>
        intro pre s H e hs hq
        have : (pre.length : Int) = x.l.length := by rw [e]; simp
        rw [f145_l14_eq, i_lss, ob_some, cnd_B, this]
        simp only [Int.lt_irrefl, decide_false, Bool.false_eq_true, if_false]
        exact hq H (by simpa [foldTs, sizeTs] using hs)
      | cons z r ihr =>
        intro pre s H e hs hq
        have hlt : pre.length < x.l.length := by rw [e]; simp
        have hlt' : (pre.length : Int) < x.l.length := by omega
        obtain ⟨g1, g2⟩ := h2 s _ H hs
        have hs' : St s ((n + sizeTs r) + sizeT z) H := by
          have e2 : n + sizeTs (z :: r) = (n + sizeTs r) + sizeT z := by simp only [sizeTs]; omega
          rw [← e2]; exact hs
        rw [f145_l14_eq, i_lss, ob_some, cnd_B, if_pos (by simpa using hlt'), ixT x.l x.sz x.nil x.tip pre r z e, ob_some, partT, ob_some, szT, ob_some, splT, ob_some, ld_Pt g2]
        simp only [part_f, List.getElem?_cons_zero, ob_some, i_add, partT, n6, nodeB]
        show E 145 [encNd z (W64 (d + 1)), Pt b2, Pt b4] H _
        refine ih z (by rw [e]; simp) (allTs_mem hok.2 (by rw [e]; simp)) s (n + sizeTs r) H _ _ hs' (fun H' hs' => ?_)
        rw [not_B, ob_some, cnd_B]
        simp only [Bool.not_true, Bool.false_eq_true, if_false, ob_some]
        rw [w64_succ hlt (by omega)]
        have := ihr (pre ++ [z]) _ H' (by simp [e]) hs' (fun H'' hs'' => hq H'' (by simpa [foldTs] using hs''))
        rw [List.length_append, List.length_singleton] at this
        exact this
    obtain ⟨g1, g2⟩ := h2 s _ H hs
    have hs1 : St s ((n + sizeTs x.l) + 1) H := by
      have e2 : n + sizeT x = (n + sizeTs x.l) + 1 := by rw [sizeT_eq]; omega
      rw [← e2]; exact hs
    rw [f145_eq, szN, ob_some, ld_Pt g1]
    simp only [part_f, List.getElem?_cons_zero, ob_some, partN]
    refine hy s _ H d x _ hok.1 hs1 (fun H' hs' => ?_)
    rw [not_B, ob_some, cnd_B]
    simp only [Bool.not_true, Bool.false_eq_true, if_false]
    rw [n5, ob_some, lenT, ob_some]
    exact loop x.l [] _ H' rfl hs' (fun H'' hs'' => hq H'' (by rw [foldT_eq]; exact hs''))
end walk2
theorem c144o {σ : Type} {y : AV} {own : Nat → Prop} {St : σ → Nat → Heap → Prop} {f : σ → Int → Pa → σ} (hv : VisitO σ y own St f) (x : Pa) (hok : allT okT x) (b1 : Nat) (s : σ) (n : Nat) (H : Heap) (Q : Post) (h1 : H.objs b1 = some (.cells (encTC x))) (hs : St s (n + sizeT x) H)
    (hq : ∀ H', St (foldT f s 1 x) n H' → Q (.tup []) H') : E 144 [y, Pt b1] H Q := by
  rw [f144_eq, hv.one, ob_some]
  intro b2 f2
  simp only [Pt_def]
  have e1 : HExt H (H.setObj b2 (.cells [y])) := (HExt.refl H).setObj f2 _
  have o2 := setObj_same H b2 (.cells [y])
  generalize H.setObj b2 (.cells [y]) = H1 at e1 o2 ⊢
  intro b4 f4
  simp only [Pt_def]
  have o4 := setObj_same H1 b4 (.cells [.raw .nilFunc])
  have e2 : HExt H1 (H1.setObj b4 (.cells [.raw .nilFunc])) := (HExt.refl H1).setObj f4 _
  have o4' : ∀ o, ((H1.setObj b4 (.cells [.raw .nilFunc])).setObj b4 o).objs b4 = some o := fun o => setObj_same _ _ _
  rw [st_Pt o4 (sz1_fn _ _ _), ob_some]
  have e3 : HExt H1 ((H1.setObj b4 (.cells [.raw .nilFunc])).setObj b4 (.cells [.fn (.func 145) [] [Pt b2, Pt b4]])) := e2.setObj f4 _
  have o4 := o4' (.cells [.fn (.func 145) [] [Pt b2, Pt b4]])
  generalize (H1.setObj b4 (.cells [.raw .nilFunc])).setObj b4 (.cells [.fn (.func 145) [] [Pt b2, Pt b4]]) = H2 at e3 o4 ⊢
  have o2 := e3.obj o2
  have h1 := e3.obj (e1.obj h1)
  have hs2 := hv.stab _ _ _ _ hs (e1.trans e3)
  rw [ld_Pt o4, ld_Pt h1, partT]
  simp only [part_f, List.getElem?_cons_zero, ob_some, nodeB]
  show E 145 [encNd x 1, Pt b2, Pt b4] H2 _
  have n2 : ¬ own b2 := fun h => hv.old _ _ _ _ hs h f2
  have n4 : ¬ own b4 := fun h => hv.old _ _ _ _ (hv.stab _ _ _ _ hs e1) h f4
  refine c145b (St := fun s n H' => St s n H' ∧ H'.objs b2 = some (.cells [y]) ∧ H'.objs b4 = some (.cells [.fn (.func 145) [] [Pt b2, Pt b4]])) (f := f)
    (fun s n H' d x K hx hs' hk => hv.call s n H' d x K hx hs'.1 (fun H'' hs'' he => hk H'' ⟨hs'', he _ _ hs'.2.1 n2, he _ _ hs'.2.2 n4⟩))
    (fun s n H' hs' => ⟨hs'.2.1, hs'.2.2⟩) x hok s n H2 1 _ ⟨hs2, o2, o4⟩ (fun H' hs' => ?_)
  exact hq H' hs'.1
theorem nd0 (x : Pa) (d : Int) : (encTC x ++ [I d])[0]? = some (I x.k) := by rw [encTC_eq]; rfl
theorem nd1 (x : Pa) (d : Int) : (encTC x ++ [I d])[1]? = some (S x.var) := by rw [encTC_eq]; rfl
theorem nd2 (x : Pa) (d : Int) : (encTC x ++ [I d])[2]? = some (S x.typ) := by rw [encTC_eq]; rfl
theorem apL_nil (v : AV) (k : Prop) : apL v [] k = k := rfl
theorem mkS (s : ByteArray) : mkSlA 1 [S s] = some (.sl 1 false .full [S s]) := rfl
theorem mkI (n : Int) : mkSlA 1 [I n] = some (.sl 1 false .full [I n]) := rfl
structure StV (H0 : Heap) (bv bt bk l : Nat) (L : LoopInfo) (s : List Us) (n : Nat) (H : Heap) : Prop where
  room : s.length + n ≤ 1099511627776
  bag : ∃ V T K, Bag3 H0 H V T K s.length ∧ H.objs bv = some (.cells [slA V (vA s)]) ∧ H.objs bt = some (.cells [slA T (tA s)]) ∧ H.objs bk = some (.cells [slA K (kA s)])
  loop : H.objs l = some (.loop L .ready)
theorem addV_len (s : List Us) (u : Us) : (addV s u).length ≤ s.length + 1 := by
  simp only [addV]
  split
  · omega
  · simp
theorem sz1_slA (z : SlS) (l : List AV) : sizedA 1 (slA z l) = some [slA z l] := rfl
theorem visitV (H0 : Heap) (bv bt bk l : Nat) (fv : H0.fresh bv) (ft : H0.fresh bt) (fk : H0.fresh bk) (fl : H0.fresh l) (n1 : bv ≠ bt) (n2 : bv ≠ bk) (n3 : bv ≠ l) (n4 : bt ≠ bk) (n5' : bt ≠ l) (n6' : bk ≠ l) (L : LoopInfo) (hL : L = f78_L10 (Pt bv) (Pt bt) (Pt bk)) :
    VisitO (List Us) (.fn (.yield l) [] []) (fun b => b = bv ∨ b = bt ∨ b = bk ∨ b = l) (StV H0 bv bt bk l L) stepV := by
  refine ⟨rfl, fun s n H H' hs he => ?_, fun s n H b hs hb => ?_, fun s n H d x K hx hs hk => ?_⟩
  · obtain ⟨r, ⟨V, T, Kk, g1, g2, g3, g4⟩, g5⟩ := hs
    exact ⟨r, ⟨V, T, Kk, g1.mono he, he.obj g2, he.obj g3, he.obj g4⟩, he.obj g5⟩
  · obtain ⟨r, ⟨V, T, Kk, g1, g2, g3, g4⟩, g5⟩ := hs
    rcases hb with rfl | rfl | rfl | rfl
    · exact not_fresh g2
    · exact not_fresh g3
    · exact not_fresh g4
    · exact not_fresh g5
  obtain ⟨room, ⟨V, T, Kk, g1, g2, g3, g4⟩, g5⟩ := hs
  show Ev Pg Hs (.yield l) [encNd x d] H K
  rw [Ev_yield g5, hL, f78_y10_eq, szN, ob_some, splN, ob_some]
  unfold beginA
  rw [g5]
  simp only
  have t2 : (H.setObj l (.loop L .busy)).objs bv = _ := (setObj_ne H _ n3).trans g2
  have t3 : (H.setObj l (.loop L .busy)).objs bt = _ := (setObj_ne H _ n5').trans g3
  have t4 : (H.setObj l (.loop L .busy)).objs bk = _ := (setObj_ne H _ n6').trans g4
  have t5 := setObj_same H l (.loop L .busy)
  have tb : Bag3 H0 (H.setObj l (.loop L .busy)) V T Kk s.length := ⟨g1.ext.setObj fl _, ⟨g1.oV.own, g1.oV.sz⟩, ⟨g1.oT.own, g1.oT.sz⟩, ⟨g1.oK.own, g1.oK.sz⟩, g1.VT, g1.VK, g1.TK⟩
  have tk : ∀ b o, H.objs b = some o → ¬ (b = bv ∨ b = bt ∨ b = bk ∨ b = l) → (H.setObj l (.loop L .busy)).objs b = some o := fun b o hb hn => by
    rw [setObj_ne H _ (fun e => hn (.inr (.inr (.inr e))))]; exact hb
  generalize H.setObj l (.loop L .busy) = H1 at t2 t3 t4 t5 tb tk ⊢
  -- the round ends
  have fin : ∀ (s' : List Us) (V' T' K' : SlS) (H2 : Heap), s'.length + n ≤ 1099511627776 → s' = stepV s d x → Bag3 H0 H2 V' T' K' s'.length → H2.objs bv = some (.cells [slA V' (vA s')]) → H2.objs bt = some (.cells [slA T' (tA s')]) → H2.objs bk = some (.cells [slA K' (kA s')]) →
      H2.objs l = some (.loop L .busy) → (∀ b o, H.objs b = some o → ¬ (b = bv ∨ b = bt ∨ b = bk ∨ b = l) → H2.objs b = some o) → endA l H2 true .ready K := fun s' V' T' K' H2 hr hs' hb q1 q2 q3 q4 q5 => by
    unfold endA
    rw [q4]
    simp only
    refine hk _ ?_ (fun b o hb hn => ?_)
    · rw [← hs']
      exact ⟨hr, ⟨V', T', K', ⟨hb.ext.setObj fl _, ⟨hb.oV.own, hb.oV.sz⟩, ⟨hb.oT.own, hb.oT.sz⟩, ⟨hb.oK.own, hb.oK.sz⟩, hb.VT, hb.VK, hb.TK⟩, (setObj_ne _ _ n3).trans q1, (setObj_ne _ _ n5').trans q2, (setObj_ne _ _ n6').trans q3⟩, setObj_same _ _ _⟩
    · rw [setObj_ne _ _ (fun e => hn (.inr (.inr (.inr e))))]; exact q5 b o hb hn
  have j16 : ∀ c : Bool, (c = true → stepV s d x = s) → (c = false → stepV s d x = s ++ [useOf x]) → f78_j16 (Pt bv) (Pt bt) (Pt bk) l (Pt bv) (Pt bt) (Pt bk) (encTC x ++ [I d]) (B c) H1 K := fun c hc1 hc2 => by
    rw [f78_j16_eq]
    refine cnd_intro (fun g => ?_) (fun g => ?_)
    · exact fin s V T Kk H1 (by omega) (hc1 g).symm tb t2 t3 t4 t5 tk
    · rw [ld_Pt t2, part_f, List.getElem?_cons_zero, ob_some, part_f, nd1, ob_some, mkS, ob_some, apL_nil, ld_Pt t3, part_f, List.getElem?_cons_zero, ob_some, part_f, nd2, ob_some, mkS, ob_some, apL_nil, ld_Pt t4, part_f, List.getElem?_cons_zero, ob_some, part_f, nd0, ob_some, mkI, ob_some]
      refine bag_app (useOf x) tb (by omega) (R := fun r39 r41 r43 H44 => ob (stH H44 1 (Pt bv) r39) fun H45 => ob (stH H45 1 (Pt bt) r41) fun H46 => ob (stH H46 1 (Pt bk) r43) fun H47 => endA l H47 true .ready K) (fun V' T' K' H2 hb ho => ?_)
      have u2 : H2.objs bv = some (.cells [slA V (vA s)]) := by rw [ho]; exact t2
      have u3 : H2.objs bt = some (.cells [slA T (tA s)]) := by rw [ho]; exact t3
      have u4 : H2.objs bk = some (.cells [slA Kk (kA s)]) := by rw [ho]; exact t4
      have u5 : H2.objs l = some (.loop L .busy) := by rw [ho]; exact t5
      have uk : ∀ b o, H.objs b = some o → ¬ (b = bv ∨ b = bt ∨ b = bk ∨ b = l) → H2.objs b = some o := fun b o hb hn => by rw [ho]; exact tk b o hb hn
      rw [st_Pt u2 (sz1_slA _ _), ob_some]
      have w3 := (setObj_ne H2 (.cells [slA V' (vA (s ++ [useOf x]))]) (Ne.symm n1)).trans u3
      rw [st_Pt w3 (sz1_slA _ _), ob_some]
      have w4 := (setObj_ne (H2.setObj bv (.cells [slA V' (vA (s ++ [useOf x]))])) (.cells [slA T' (tA (s ++ [useOf x]))]) (Ne.symm n4)).trans ((setObj_ne H2 (.cells [slA V' (vA (s ++ [useOf x]))]) (Ne.symm n2)).trans u4)
      rw [st_Pt w4 (sz1_slA _ _), ob_some]
      refine fin (s ++ [useOf x]) V' T' K' _ (by rw [List.length_append, List.length_singleton]; omega) (hc2 g).symm ⟨((hb.ext.setObj fv _).setObj ft _).setObj fk _, ⟨hb.oV.own, hb.oV.sz⟩, ⟨hb.oT.own, hb.oT.sz⟩, ⟨hb.oK.own, hb.oK.sz⟩, hb.VT, hb.VK, hb.TK⟩ ?_ ?_ (setObj_same _ _ _) ?_ (fun b o hb hn => ?_)
      · rw [setObj_ne _ _ n2, setObj_ne _ _ n1, setObj_same]
      · rw [setObj_ne _ _ n4, setObj_same]
      · rw [setObj_ne _ _ (Ne.symm n6'), setObj_ne _ _ (Ne.symm n5'), setObj_ne _ _ (Ne.symm n3)]; exact u5
      · rw [setObj_ne _ _ (fun e => hn (.inr (.inr (.inl e)))), setObj_ne _ _ (fun e => hn (.inr (.inl e))), setObj_ne _ _ (fun e => hn (.inl e))]; exact uk b o hb hn
  rw [part_f, nd0, ob_some, c110, not_B, ob_some]
  refine cnd_intro (fun g => ?_) (fun g => ?_)
  · have g : ¬ isLeafT x.k = true := by simpa using g
    exact j16 true (fun _ => by simp [stepV, g]) (fun h => by cases h)
  · have g : isLeafT x.k = true := by simpa using g
    rw [ld_Pt t2, part_f, List.getElem?_cons_zero, ob_some, part_f, nd1, ob_some, c111 V s x.var (by omega)]
    exact j16 _ (fun h => by simp [stepV, g, addV, useOf, h]) (fun h => by simp [stepV, g, addV, useOf, h])
theorem c78 (x : Pa) (hok : allT okT x) (hsz : sizeT x ≤ 1099511627776) (H : Heap) (Q : Post) (hq : ∀ V T K H', HExt H H' → Q (.tup [slA V (vA (varsOf x)), slA T (tA (varsOf x)), slA K (kA (varsOf x))]) H') : E 78 [encT x] H Q := by
  rw [f78_eq, szT, ob_some]
  have e0' : AV.sl 0 true .full [] = slA z0 [] := rfl
  intro bv hv
  simp only [Pt_def, e0']
  have e1 : HExt H (H.setObj bv (.cells [slA z0 []])) := (HExt.refl H).setObj hv _
  have o1 := setObj_same H bv (.cells [slA z0 []])
  generalize H.setObj bv (.cells [slA z0 []]) = H1 at e1 o1 ⊢
  intro bt ht
  simp only [Pt_def]
  have n1 : bv ≠ bt := fresh_ne o1 ht
  have e2 : HExt H (H1.setObj bt (.cells [slA z0 []])) := e1.setObj (e1.fresh ht) _
  have o2 := setObj_same H1 bt (.cells [slA z0 []])
  have o1 := (setObj_ne H1 (.cells [slA z0 []]) n1).trans o1
  have ht' := e1.fresh ht
  generalize H1.setObj bt (.cells [slA z0 []]) = H2 at e2 o1 o2 ⊢
  intro bk hk
  simp only [Pt_def]
  have n2 : bv ≠ bk := fresh_ne o1 hk
  have n4 : bt ≠ bk := fresh_ne o2 hk
  have e3 : HExt H (H2.setObj bk (.cells [slA z0 []])) := e2.setObj (e2.fresh hk) _
  have o3 := setObj_same H2 bk (.cells [slA z0 []])
  have o1 := (setObj_ne H2 (.cells [slA z0 []]) n2).trans o1
  have o2 := (setObj_ne H2 (.cells [slA z0 []]) n4).trans o2
  have hk' := e2.fresh hk
  generalize H2.setObj bk (.cells [slA z0 []]) = H3 at e3 o1 o2 o3 ⊢
  rw [partT, ob_some]
  refine c109 x H3 _ (fun b1 hb => ?_)
  have e4 : HExt H3 (H3.setObj b1 (.cells (encTC x))) := (HExt.refl H3).setObj hb _
  have ox := setObj_same H3 b1 (.cells (encTC x))
  generalize H3.setObj b1 (.cells (encTC x)) = H4 at e4 ox ⊢
  refine ⟨trivial, ?_⟩
  intro l hl
  have p1 := e4.obj o1
  have p2 := e4.obj o2
  have p3 := e4.obj o3
  have n3 := fresh_ne p1 hl
  have n5' := fresh_ne p2 hl
  have n6' := fresh_ne p3 hl
  have hl' := (e3.trans e4).fresh hl
  have e5 : HExt H4 (H4.setObj l (.loop (f78_L10 (Pt bv) (Pt bt) (Pt bk)) .ready)) := (HExt.refl H4).setObj hl _
  have o5 := setObj_same H4 l (.loop (f78_L10 (Pt bv) (Pt bt) (Pt bk)) .ready)
  generalize H4.setObj l (.loop (f78_L10 (Pt bv) (Pt bt) (Pt bk)) .ready) = H5 at e5 o5 ⊢
  show E 144 [.fn (.yield l) [] [], Pt b1] H5 _
  have hst : StV H bv bt bk l (f78_L10 (Pt bv) (Pt bt) (Pt bk)) [] (0 + sizeT x) H5 := by
    have hb0 : Bag3 H H5 z0 z0 z0 0 := (bag0 H).mono ((e3.trans e4).trans e5)
    exact ⟨by simpa using hsz, ⟨z0, z0, z0, hb0, e5.obj p1, e5.obj p2, e5.obj p3⟩, o5⟩
  refine c144o (visitV H bv bt bk l hv ht' hk' hl' n1 n2 n3 n4 n5' n6' _ rfl) x hok b1 [] 0 H5 _ (e5.obj ox) hst (fun H6 hs => ?_)
  obtain ⟨_, ⟨V, T, K, g1, g2, g3, g4⟩, g5⟩ := hs
  rw [fold_uses] at g1 g2 g3 g4
  unfold overA
  rw [g5]
  simp only
  have hE : HExt H (H6.setObj l (.loop (f78_L10 (Pt bv) (Pt bt) (Pt bk)) .over)) := g1.ext.setObj hl' _
  have t1 := (setObj_ne H6 (.loop (f78_L10 (Pt bv) (Pt bt) (Pt bk)) .over) n3).trans g2
  have t2 := (setObj_ne H6 (.loop (f78_L10 (Pt bv) (Pt bt) (Pt bk)) .over) n5').trans g3
  have t3 := (setObj_ne H6 (.loop (f78_L10 (Pt bv) (Pt bt) (Pt bk)) .over) n6').trans g4
  generalize H6.setObj l (.loop (f78_L10 (Pt bv) (Pt bt) (Pt bk)) .over) = H7 at hE t1 t2 t3 ⊢
  rw [f78_j20_eq, ld_Pt t1, part_f, List.getElem?_cons_zero, ob_some, ld_Pt t2, part_f, List.getElem?_cons_zero, ob_some, ld_Pt t3, part_f, List.getElem?_cons_zero, ob_some]
  exact hq V T K H7 hE
/-! ### The document's -/
theorem c52 (x : Pa) (hok : allT okT x) (hsz : sizeT x ≤ 1099511627776) (H : Heap) (Q : Post) (hq : ∀ V T K H', HExt H H' → Q (.tup [slA V (vA (varsOf x)), slA T (tA (varsOf x)), slA K (kA (varsOf x))]) H') : E 52 [encT x] H Q := by
  rw [f52_eq, szT, ob_some, partT, ob_some]
  have hul := uses_len x
  refine c79 x hok hsz H _ (fun s n t H1 hs e1 => ?_)
  have ixU : ∀ (us pre r : List Us) (a : Us), us = pre ++ a :: r → ixaA 3 (.sl s n t (us.map encU)) (I pre.length) = some [S a.var, S a.typ, I a.k] := fun us pre r a e =>
    ix_mk 3 n t _ pre.length (x := encU a) (by rw [e]; exact get_mid encU pre r a) (szU a)
  have lenV : ∀ (z : SlS) (acc : List Us), lenA (slA z (vA acc)) = some (I acc.length) := fun z acc => by simp [slA, len_sl, vA]
  have inner : ∀ (us pre r1 : List Us) (u : Us), us = pre ++ u :: r1 → ∀ (V : SlS) (T K : AV) (acc : List Us), acc.length ≤ 1099511627776 → ∀ (r2 pre2 : List Us) (had : Bool), acc = pre2 ++ r2 → ∀ H,
      f52_l29 (slA V (vA acc)) T K (.sl s n t (us.map encU)) (I pre.length) (B had) (I pre2.length) H Q = f52_l29 (slA V (vA acc)) T K (.sl s n t (us.map encU)) (I pre.length) (B (had || seenV r2 u.var)) (I acc.length) H Q := by
    intro us pre r1 u e V T K acc hacc r2
    induction r2 with
    | nil =>
      intro pre2 had e2 H
      have : pre2 = acc := by rw [e2]; simp
      rw [this]; simp [seenV]
    | cons w r2 ih =>
      intro pre2 had e2 H
      have hlt2 : pre2.length < acc.length := by rw [e2]; simp
      have hlt2' : (pre2.length : Int) < acc.length := by omega
      have i1 : ixaA 1 (slA V (vA acc)) (I pre2.length) = some [S w.var] := ix_mk 1 V.n V.t _ pre2.length (x := S w.var) (by rw [e2]; exact get_mid (fun u : Us => S u.var) pre2 r2 w) rfl
      have d0 : ([S u.var, S u.typ, I u.k].drop 0)[0]? = some (S u.var) := rfl
      have ih2 := fun had => ih (pre2 ++ [w]) had (by simp [e2]) H
      simp only [List.length_append, List.length_singleton] at ih2
      have hs : seenV (w :: r2) u.var = (decide (u.var = w.var) || seenV r2 u.var) := rfl
      rw [f52_l29_eq, lenV, ob_some, i_lss, ob_some, cnd_B, if_pos (by simpa using hlt2'), hs]
      cases had with
      | true =>
        rw [cnd_t, f52_j39_eq, i_add, ob_some, w64_succ hlt2 (by omega), ih2]
        rfl
      | false =>
        rw [cnd_f, i1, ob_some, part_f, List.getElem?_cons_zero, ob_some, ixU us pre r1 u e, ob_some, part_f, d0, ob_some, s_eql, ob_some, f52_j39_eq, i_add, ob_some, w64_succ hlt2 (by omega), ih2]
        have hd : decide (w.var = u.var) = decide (u.var = w.var) := by rw [Bool.eq_iff_iff]; simp [eq_comm]
        rw [hd, Bool.false_or]
  have loop : ∀ (r pre acc : List Us) (V T K : SlS) (H2 : Heap), usesT x = pre ++ r → acc.length ≤ pre.length → Bag3 H H2 V T K acc.length → r.foldl addV acc = varsOf x → f52_l14 (slA V (vA acc)) (slA T (tA acc)) (slA K (kA acc)) (.sl s n t ((usesT x).map encU)) (I pre.length) H2 Q := by
    intro r
    induction r with
    | nil =>
      intro pre acc V T K H2 e ha hb hv
      have h1 : (pre.length : Int) = (usesT x).length := by rw [e]; simp
      rw [f52_l14_eq, len_sl, ob_some, i_lss, ob_some, cnd_B, List.length_map, h1]
      simp only [Int.lt_irrefl, decide_false, Bool.false_eq_true, if_false]
      simp only [List.foldl_nil] at hv
      rw [hv]
      exact hq V T K H2 hb.ext
    | cons u r ih =>
      intro pre acc V T K H2 e ha hb hv
      have hlt : pre.length < (usesT x).length := by rw [e]; simp
      have hlt' : (pre.length : Int) < (usesT x).length := by omega
      have hin : f52_l29 (slA V (vA acc)) (slA T (tA acc)) (slA K (kA acc)) (.sl s n t ((usesT x).map encU)) (I pre.length) (B false) (I 0) H2 Q = _ := inner (usesT x) pre r u e V _ _ acc (by omega) acc [] false rfl H2
      have d0 : ([S u.var, S u.typ, I u.k].drop 0)[0]? = some (S u.var) := rfl
      have d1 : ([S u.var, S u.typ, I u.k].drop 1)[0]? = some (S u.typ) := rfl
      have d2 : ([S u.var, S u.typ, I u.k].drop 2)[0]? = some (I u.k) := rfl
      simp only [List.foldl_cons] at hv
      rw [f52_l14_eq, len_sl, ob_some, i_lss, ob_some, cnd_B, List.length_map, if_pos (by simpa using hlt'), hin, Bool.false_or, f52_l29_eq, lenV, ob_some, i_lss, ob_some, cnd_B]
      simp only [Int.lt_irrefl, decide_false, Bool.false_eq_true, if_false]
      rw [not_B, ob_some]
      refine cnd_intro (fun g => ?_) (fun g => ?_)
      · have g : seenV acc u.var = false := by simpa using g
        rw [addV, if_neg (by rw [g]; simp)] at hv
        rw [ixU (usesT x) pre r u e, ob_some, part_f, d0, ob_some, mkS, ob_some]
        refine (?_ : appA 1 16 (slA V (vA acc)) (.sl 1 false .full [S u.var]) H2 fun r18 H19 => ob (some [S u.var, S u.typ, I u.k]) fun c20 => ob (partA false 0 1 (c20.drop 1)) fun r21 => ob (mkSlA 1 [r21]) fun r22 => appA 1 16 (slA T (tA acc)) r22 H19 fun r23 H24 => ob (some [S u.var, S u.typ, I u.k]) fun c25 => ob (partA false 0 1 (c25.drop 2)) fun r26 => ob (mkSlA 1 [r26]) fun r27 => appA 1 8 (slA K (kA acc)) r27 H24 fun r28 H29 => ob (binA Pg .add 3 true (I pre.length) (I 1)) fun r30 => f52_l14 r18 r23 r28 (.sl s n t ((usesT x).map encU)) r30 H29 Q)
        refine bag_app u hb (by omega) (R := fun r18 r23 r28 H29 => ob (binA Pg .add 3 true (I pre.length) (I 1)) fun r30 => f52_l14 r18 r23 r28 (.sl s n t ((usesT x).map encU)) r30 H29 Q) (fun V' T' K' H3 hb3 _ => ?_)
        rw [i_add, ob_some, w64_succ hlt (by omega)]
        have := ih (pre ++ [u]) (acc ++ [u]) V' T' K' H3 (by simp [e]) (by simp; omega) hb3 hv
        rw [List.length_append, List.length_singleton] at this
        exact this
      · have g : seenV acc u.var = true := by simpa using g
        rw [addV, if_pos g] at hv
        rw [i_add, ob_some, w64_succ hlt (by omega)]
        have := ih (pre ++ [u]) acc V T K H2 (by simp [e]) (by simp; omega) hb hv
        rw [List.length_append, List.length_singleton] at this
        exact this
  exact loop (usesT x) [] [] z0 z0 z0 H1 rfl (by simp) ((bag0 H).mono e1) rfl
end Go.Hx
