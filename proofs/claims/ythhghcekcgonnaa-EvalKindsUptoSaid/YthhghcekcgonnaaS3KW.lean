/- EvalKinds over the abstract machine. Own work (session 2). -/
import Derived.Test.YthhghcekcgonnaaS3KP
import Derived.Test.YthhghcekcgonnaaS3L
set_option maxRecDepth 20000
namespace Go.Hx
/-! ### Several rows that grow -/
def TipsApart (t u : Tip) : Prop := ∀ b, t = .tip b → u ≠ .tip b
theorem TipsApart.symm {t u : Tip} (h : TipsApart t u) : TipsApart u t := fun b hu ht => h b ht hu
structure SlS where
  s : Nat
  n : Bool
  t : Tip
def slA (z : SlS) (l : List AV) : AV := .sl z.s z.n z.t l
/-- one of them -/
structure Ow (H0 H : Heap) (sz : Nat) (z : SlS) (n : Nat) : Prop where
  own : OwnS H0 H sz n z.t
  sz : z.n = true ∨ z.s = sz
  nil : z.n = true → n = 0
theorem app_own2 {H0 H : Heap} {sz bytes : Nat} {z : SlS} {xs : List AV} (y : AV) {K : Post} (he : HExt H0 H) (ho : Ow H0 H sz z xs.length) (h1 : 1 ≤ sz)
    (hb : (xs.length + 1) * bytes ≤ 140737488355328)
    (hk : ∀ z' H', HExt H0 H' → Ow H0 H' sz z' (xs.length + 1) → (∀ sz2 u n, Ow H0 H sz2 u n → TipsApart z.t u.t → Ow H0 H' sz2 u n ∧ TipsApart z'.t u.t) → K (slA z' (xs ++ [y])) H') :
    appA sz bytes (slA z xs) (.sl sz false .full [y]) H K := by
  have ht : tailA sz (.sl sz false .full [y]) = some [y] := by simp [tailA]
  obtain ⟨zs, zn, zt⟩ := z
  unfold appA slA
  simp only [ht]
  refine ⟨ho.sz, h1, hb, ?_⟩
  have done : ∀ b, (zt = .tip b ∨ H.fresh b) → H0.fresh b → K (.sl sz false (.tip b) (xs ++ [y])) (H.setTip b ((xs.length + 1) * sz)) := fun b hbb hf0 =>
    hk ⟨sz, false, .tip b⟩ _ (he.setTip hf0 _) ⟨⟨by simp [Heap.setTip], hf0⟩, .inr rfl, fun h => (by cases h)⟩ (fun sz2 u n hu ha => by
      have hne : ∀ c, u.t = .tip c → c ≠ b := fun c hc hcb => by
        subst hcb
        rcases hbb with hbb | hbb
        · exact ha c hbb hc
        · have := hu.own
          rw [hc] at this
          have h2 := this.1
          rw [hbb.2] at h2; cases h2
      refine ⟨⟨?_, hu.sz, hu.nil⟩, fun c hc hc' => ?_⟩
      · have := hu.own
        cases hut : u.t with
        | any => rw [hut] at this; exact this
        | full => trivial
        | tip c =>
          rw [hut] at this
          refine ⟨?_, this.2⟩
          have hcb : c ≠ b := hne c hut
          simp only [Heap.setTip, if_neg hcb]; exact this.1
      · simp only [Tip.tip.injEq] at hc
        exact hne c hc' hc.symm)
  cases zt with
  | any => exact ho.own.elim
  | full => exact fun b hf => done b (.inr hf) (he.fresh hf)
  | tip b0 =>
    refine ⟨ho.own.1, fun b hf => ?_⟩
    rcases hf with rfl | hf
    · exact done b (.inl rfl) ho.own.2
    · exact done b (.inr hf) (he.fresh hf)
/-- the types and the three rows of a table -/
structure Bag (H0 H : Heap) (T V F L : SlS) (nT nV nF nL : Nat) : Prop where
  ext : HExt H0 H
  oT : Ow H0 H 1 T nT
  oV : Ow H0 H 1 V nV
  oF : Ow H0 H 1 F nF
  oL : Ow H0 H 3 L nL
  TV : TipsApart T.t V.t
  TF : TipsApart T.t F.t
  TL : TipsApart T.t L.t
  VF : TipsApart V.t F.t
  VL : TipsApart V.t L.t
  FL : TipsApart F.t L.t
theorem bag_T {H0 H : Heap} {T V F L : SlS} {nT nV nF nL : Nat} (h : Bag H0 H T V F L nT nV nF nL) (xs : List AV) (hx : xs.length = nT) (y : AV) (K : Post) (hb : nT ≤ 1099511627776)
    (hk : ∀ T' H', Bag H0 H' T' V F L (nT + 1) nV nF nL → K (slA T' (xs ++ [y])) H') : appA 1 16 (slA T xs) (.sl 1 false .full [y]) H K := by
  subst hx
  refine app_own2 y h.ext h.oT (by omega) (by omega) (fun z' H' he ho hr => hk z' H' ?_)
  obtain ⟨a1, a2⟩ := hr _ _ _ h.oV h.TV
  obtain ⟨b1, b2⟩ := hr _ _ _ h.oF h.TF
  obtain ⟨c1, c2⟩ := hr _ _ _ h.oL h.TL
  exact ⟨he, ho, a1, b1, c1, a2, b2, c2, h.VF, h.VL, h.FL⟩
theorem bag_V {H0 H : Heap} {T V F L : SlS} {nT nV nF nL : Nat} (h : Bag H0 H T V F L nT nV nF nL) (xs : List AV) (hx : xs.length = nV) (y : AV) (K : Post) (hb : nV ≤ 1099511627776)
    (hk : ∀ V' H', Bag H0 H' T V' F L nT (nV + 1) nF nL → K (slA V' (xs ++ [y])) H') : appA 1 16 (slA V xs) (.sl 1 false .full [y]) H K := by
  subst hx
  refine app_own2 y h.ext h.oV (by omega) (by omega) (fun z' H' he ho hr => hk z' H' ?_)
  obtain ⟨a1, a2⟩ := hr _ _ _ h.oT h.TV.symm
  obtain ⟨b1, b2⟩ := hr _ _ _ h.oF h.VF
  obtain ⟨c1, c2⟩ := hr _ _ _ h.oL h.VL
  exact ⟨he, a1, ho, b1, c1, a2.symm, h.TF, h.TL, b2, c2, h.FL⟩
theorem bag_F {H0 H : Heap} {T V F L : SlS} {nT nV nF nL : Nat} (h : Bag H0 H T V F L nT nV nF nL) (xs : List AV) (hx : xs.length = nF) (y : AV) (K : Post) (hb : nF ≤ 1099511627776)
    (hk : ∀ F' H', Bag H0 H' T V F' L nT nV (nF + 1) nL → K (slA F' (xs ++ [y])) H') : appA 1 16 (slA F xs) (.sl 1 false .full [y]) H K := by
  subst hx
  refine app_own2 y h.ext h.oF (by omega) (by omega) (fun z' H' he ho hr => hk z' H' ?_)
  obtain ⟨a1, a2⟩ := hr _ _ _ h.oT h.TF.symm
  obtain ⟨b1, b2⟩ := hr _ _ _ h.oV h.VF.symm
  obtain ⟨c1, c2⟩ := hr _ _ _ h.oL h.FL
  exact ⟨he, a1, b1, ho, c1, h.TV, a2.symm, h.TL, b2.symm, h.VL, c2⟩
theorem bag_L {H0 H : Heap} {T V F L : SlS} {nT nV nF nL : Nat} (h : Bag H0 H T V F L nT nV nF nL) (xs : List AV) (hx : xs.length = nL) (y : AV) (K : Post) (hb : nL ≤ 1099511627776)
    (hk : ∀ L' H', Bag H0 H' T V F L' nT nV nF (nL + 1) → K (slA L' (xs ++ [y])) H') : appA 3 32 (slA L xs) (.sl 3 false .full [y]) H K := by
  subst hx
  refine app_own2 y h.ext h.oL (by omega) (by omega) (fun z' H' he ho hr => hk z' H' ?_)
  obtain ⟨a1, a2⟩ := hr _ _ _ h.oT h.TL.symm
  obtain ⟨b1, b2⟩ := hr _ _ _ h.oV h.VL.symm
  obtain ⟨c1, c2⟩ := hr _ _ _ h.oF h.FL.symm
  exact ⟨he, a1, b1, c1, ho, h.TV, h.TF, a2.symm, h.VF, b2.symm, c2.symm⟩
/-! ### The table is made -/
theorem c26 (H : Heap) (Q : Post) : E 26 [] H Q = Q (encScs 2 false .full [scBuy]) H := f26_eq () H Q
def tabC (V F L : SlS) (rows : List Row) : List AV := [slA V (rows.map fun r => S r.1), slA F (rows.map fun r => S r.2.1), slA L (rows.map fun r => encV r.2.2)]
theorem step9 (H0 : Heap) (z2 : Nat) (n2 : Bool) (t2 : Tip) (vars : List ByteArray) (n3 : Bool) (t3 : Tip) (vl : List Vl) (hvl : vl.length ≤ 1099511627776) (x3 : List AV) (Q : Post) (i : Nat) (hi8 : i < 8) (a : ByteArray) (p q : List ByteArray) (ha : vars = p ++ a :: q) (hp : p.length = i)
    (T V F L : SlS) (ty : AV) (nT : Nat) (k : Nat) (hk : k < 3) (rows : List Row) (hrow : rows.length ≤ 1000) (H : Heap) (hB : Bag H0 H T V F L nT rows.length rows.length rows.length)
    (hq : ∀ V' F' L' H', Bag H0 H' T V' F' L' nT (rows ++ rowOf vl i a k).length (rows ++ rowOf vl i a k).length (rows ++ rowOf vl i a k).length →
      f9_l24 (encSs z2 n2 t2 vars) (encVs n3 t3 vl) x3 ty (tabC V' F' L' (rows ++ rowOf vl i a k)) (I i) (I (k + 1 : Nat)) H' Q) :
    f9_l24 (encSs z2 n2 t2 vars) (encVs n3 t3 vl) x3 ty (tabC V F L rows) (I i) (I k) H Q := by
  have hd : decide ((k : Int) < 3) = true := by simp; omega
  obtain ⟨f, hf⟩ : ∃ f, fsBuy[k]? = some f := by
    match k, hk with
    | 0, _ => exact ⟨_, rfl⟩
    | 1, _ => exact ⟨_, rfl⟩
    | 2, _ => exact ⟨_, rfl⟩
  have hrowe : rowOf vl i a k = [(a, f.name, pick vl (3 * i + k) f.k)] := by rw [rowOf, hf]
  have hx0 : ixaA 2 (encScs 2 false .full [scBuy]) (I 0) = some (scC scBuy) := rfl
  have hx1 : ixaA 2 (encFs scBuy.sz scBuy.nil scBuy.tip scBuy.fs) (I k) = some [S f.name, I f.k] := ix_mk 2 _ _ _ k (x := encF f) (by rw [List.getElem?_map]; show Option.map encF fsBuy[k]? = _; rw [hf]; rfl) rfl
  have hs2 : spliceA 0 [S f.name, I f.k] [S e0, I 0] = some [S f.name, I f.k] := rfl
  have hb3 : bldA [] [(I 0), (I 0), (S e0)] = some (encV nullV) := rfl
  have hm1 : W64 (3 * (i : Int)) = ((3 * i : Nat) : Int) := by rw [w64_id (by omega) (by omega)]; omega
  have hm2 : W64 (((3 * i : Nat) : Int) + (k : Int)) = ((3 * i + k : Nat) : Int) := by rw [w64_id (by omega) (by omega)]; omega
  have hlv : lenA (encVs n3 t3 vl) = some (I vl.length) := by simp [encVs, len_sl]
  have hva : ixaA 1 (encSs z2 n2 t2 vars) (I i) = some [S a] := by rw [← hp]; exact ixSs vars z2 n2 t2 p q a ha
  have hlen : (rows ++ rowOf vl i a k).length = rows.length + 1 := by rw [hrowe]; simp
  -- what is put into the table
  have put : ∀ (y : Vl) (H' : Heap), y = pick vl (3 * i + k) f.k → Bag H0 H' T V F L nT rows.length rows.length rows.length →
      ob (partA false 0 1 (tabC V F L rows)) fun r106 =>
      ob (ixaA 1 (encSs z2 n2 t2 vars) (I i)) fun c107 =>
      ob (partA false 0 1 c107) fun r108 =>
      ob (mkSlA 1 [r108]) fun r109 =>
      appA 1 16 r106 r109 H' fun r110 H111 =>
      ob (sizedA 1 r110) fun b112 =>
      ob (spliceA 0 b112 (tabC V F L rows)) fun b113 =>
      ob (partA false 1 1 b113) fun r114 =>
      ob (partA false 0 1 [S f.name, I f.k]) fun r115 =>
      ob (mkSlA 1 [r115]) fun r116 =>
      appA 1 16 r114 r116 H111 fun r117 H118 =>
      ob (sizedA 1 r117) fun b119 =>
      ob (spliceA 1 b119 b113) fun b120 =>
      ob (partA false 2 1 b120) fun r121 =>
      ob (partA true 0 3 [I y.k, I y.n, S y.s]) fun r122 =>
      ob (mkSlA 3 [r122]) fun r123 =>
      appA 3 32 r121 r123 H118 fun r124 H125 =>
      ob (sizedA 1 r124) fun b126 =>
      ob (spliceA 2 b126 b120) fun b127 =>
      ob (binA Pg .add 3 true (I k) (I 1)) fun r128 =>
      f9_l24 (encSs z2 n2 t2 vars) (encVs n3 t3 vl) x3 ty b127 (I i) r128 H125 Q := by
    intro y H' hy hB'
    have e0' : partA false 0 1 (tabC V F L rows) = some (slA V (rows.map fun r => S r.1)) := rfl
    rw [e0', ob_some, hva, ob_some, part_f, List.getElem?_cons_zero, ob_some, mk1 1 (S a) (sz1_S _), ob_some]
    refine bag_V hB' _ (by simp) (S a) _ (by omega) (fun V' H1 hB1 => ?_)
    have s1 : sizedA 1 (slA V' ((rows.map fun r => S r.1) ++ [S a])) = some [slA V' ((rows.map fun r => S r.1) ++ [S a])] := rfl
    have p1 : ∀ z, spliceA 0 [z] (tabC V F L rows) = some [z, slA F (rows.map fun r => S r.2.1), slA L (rows.map fun r => encV r.2.2)] := fun _ => rfl
    simp only [s1, ob_some, p1, part_f, List.getElem?_cons_zero, List.getElem?_cons_succ, mk1 1 (S f.name) (sz1_S _)]
    refine bag_F hB1 _ (by simp) (S f.name) _ (by omega) (fun F' H2 hB2 => ?_)
    have s2 : sizedA 1 (slA F' ((rows.map fun r => S r.2.1) ++ [S f.name])) = some [slA F' ((rows.map fun r => S r.2.1) ++ [S f.name])] := rfl
    have p2 : ∀ z u v w : AV, spliceA 1 [z] [u, v, w] = some [u, z, w] := fun _ _ _ _ => rfl
    simp only [s2, ob_some, p2, List.getElem?_cons_zero, List.getElem?_cons_succ, part3, mk1 3 (encV y) (sz3 y)]
    refine bag_L hB2 _ (by simp) (encV y) _ (by omega) (fun L' H3 hB3 => ?_)
    have s3 : sizedA 1 (slA L' ((rows.map fun r => encV r.2.2) ++ [encV y])) = some [slA L' ((rows.map fun r => encV r.2.2) ++ [encV y])] := rfl
    have p3 : ∀ z u v w : AV, spliceA 2 [z] [u, v, w] = some [u, v, z] := fun _ _ _ _ => rfl
    simp only [s3, ob_some, p3, i_add, w64_succ hk (by omega)]
    have := hq V' F' L' H3 (by rw [hlen]; exact hB3)
    rw [hrowe, tabC, List.map_append, List.map_append, List.map_append] at this
    subst hy
    exact this
  rw [f9_l24_eq, i_lss, ob_some, hd, cnd_t, c26, hx0, ob_some]
  simp only [List.drop_succ_cons, List.drop_zero, part_f, List.getElem?_cons_zero, ob_some, hx1]
  rw [show partA true 0 2 [S f.name, I f.k] = some (encF f) from partF f, ob_some, szF, ob_some]
  refine Eq.mpr (congrArg (fun z => ob z _) hs2) ?_
  rw [ob_some]
  refine Eq.mpr (congrArg (fun z => ob z _) hb3) ?_
  rw [ob_some, sz3, ob_some]
  show ob (spliceA 0 [I nullV.k, I nullV.n, S nullV.s] [I 0, I 0, S e0]) _
  rw [spl3, ob_some, i_mul, ob_some, hm1, i_add, ob_some, hm2, hlv, ob_some, i_lss, ob_some]
  refine cnd_intro (fun hlt => ?_) (fun hlt => ?_)
  · have hlt : 3 * i + k < vl.length := by simp at hlt; omega
    obtain ⟨w, hw⟩ : ∃ w, vl[3 * i + k]? = some w := ⟨_, List.getElem?_eq_getElem hlt⟩
    have hxw : ixaA 3 (encVs n3 t3 vl) (I (3 * i + k : Nat)) = some [I w.k, I w.n, S w.s] := ix_mk 3 _ _ _ (3 * i + k) (x := encV w) (by rw [List.getElem?_map, hw]; rfl) rfl
    simp only [i_mul, ob_some, hm1, i_add, hm2, hxw, List.drop_zero, List.getElem?_cons_zero, List.getElem?_cons_succ, i_eql]
    rw [f9_j40_eq]
    refine cnd_intro (fun hk' => ?_) (fun hk' => ?_)
    · have hwk : w.k = f.k := by simpa using hk'
      have hyy : w = pick vl (3 * i + k) f.k := by rw [pick, hw]; simp [hwk]
      have hsp : spliceA 0 [I w.k, I w.n, S w.s] [I nullV.k, I nullV.n, S nullV.s] = some [I w.k, I w.n, S w.s] := rfl
      simp only [i_mul, ob_some, hm1, i_add, hm2, hxw, part3, sz3, hsp]
      exact put w H hyy hB
    · have hwk : ¬ w.k = f.k := by simpa using hk'
      have hyy : nullV = pick vl (3 * i + k) f.k := by rw [pick, hw]; simp [hwk]
      exact put nullV H hyy hB
  · have hlt : ¬ 3 * i + k < vl.length := by simp at hlt; omega
    have hyy : nullV = pick vl (3 * i + k) f.k := by rw [pick, List.getElem?_eq_none (by omega)]
    rw [f9_j40_eq, cnd_f]
    exact put nullV H hyy hB
end Go.Hx
