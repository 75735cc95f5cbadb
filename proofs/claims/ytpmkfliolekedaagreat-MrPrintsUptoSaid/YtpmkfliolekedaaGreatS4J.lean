/- Contracts of layer 13: may a query be. Own work. -/
import Derived.Test.YtpmkfliolekedaaGreatS4I
set_option maxRecDepth 20000
namespace Go.Hx
structure It where
  name : ByteArray
  k : Int
  var : ByteArray
  fld : ByteArray
def itC (x : It) : List AV := [S x.name, I x.k, S x.var, S x.fld]
def encIt (x : It) : AV := .agg (itC x)
def encIts (sz : Nat) (nil : Bool) (tip : Tip) (l : List It) : AV := .sl sz nil tip (l.map encIt)
structure Qu where
  p : Pa
  wsz : Nat
  wnil : Bool
  wtip : Tip
  ws : List Ex
  key : ByteArray
  mode : Int
  within : Int
  isz : Nat
  inil : Bool
  itip : Tip
  its : List It
def qC (q : Qu) : List AV := encTC q.p ++ [encXs q.wsz q.wnil q.wtip q.ws, S q.key, I q.mode, I q.within, encIts q.isz q.inil q.itip q.its]
def encQ (q : Qu) : AV := .agg (qC q)
theorem szIt (x : It) : sizedA 4 (encIt x) = some (itC x) := rfl
theorem partIt (x : It) : partA true 0 4 (itC x) = some (encIt x) := rfl
theorem ixIt (l : List It) (sz : Nat) (nil : Bool) (tip : Tip) (pre r : List It) (x : It) (e : l = pre ++ x :: r) : ixaA 4 (encIts sz nil tip l) (I pre.length) = some (itC x) :=
  ix_mk 4 nil tip _ pre.length (x := encIt x) (by rw [e]; exact get_mid encIt pre r x) (szIt x)
theorem lenIt (sz : Nat) (nil : Bool) (tip : Tip) (l : List It) : lenA (encIts sz nil tip l) = some (I l.length) := by simp [encIts, len_sl]
theorem szQ (q : Qu) : sizedA 11 (encQ q) = some (qC q) := by
  have : (qC q).length = 11 := by rw [qC, encTC_eq]; rfl
  simp only [encQ, sizedA, cellsA, this, if_true]
theorem partQ (q : Qu) : partA true 0 11 (qC q) = some (encQ q) := by rw [encQ, qC, encTC_eq]; rfl
theorem partQT (q : Qu) : partA true 0 6 (qC q) = some (encT q.p) := by rw [encT, qC, encTC_eq]; rfl
theorem splQ (q : Qu) : spliceA 0 (qC q) [I 0, S e0, S e0, I 0, I 0, .sl 0 true .full [], .sl 0 true .full [], S e0, I 0, I 0, .sl 0 true .full []] = some (qC q) := by rw [qC, encTC_eq]; rfl
theorem bldQ (q : Qu) : bldA [(0, 11, encQ q)] [I 0, S e0, S e0, I 0, I 0, .sl 0 true .full [], .sl 0 true .full [], S e0, I 0, I 0, .sl 0 true .full []] = some (encQ q) := by rw [encQ, qC, encTC_eq]; rfl
theorem q0 (q : Qu) : (qC q)[0]? = some (I q.p.k) := by rw [qC, encTC_eq]; rfl
theorem q6 (q : Qu) : (qC q)[6]? = some (encXs q.wsz q.wnil q.wtip q.ws) := by rw [qC, encTC_eq]; rfl
theorem q7 (q : Qu) : (qC q)[7]? = some (S q.key) := by rw [qC, encTC_eq]; rfl
theorem q8 (q : Qu) : (qC q)[8]? = some (I q.mode) := by rw [qC, encTC_eq]; rfl
theorem q9 (q : Qu) : (qC q)[9]? = some (I q.within) := by rw [qC, encTC_eq]; rfl
theorem q10 (q : Qu) : (qC q)[10]? = some (encIts q.isz q.inil q.itip q.its) := by rw [qC, encTC_eq]; rfl
def okI (x : It) : Prop := x.name.size ≤ 1099511627776 ∧ x.var.size ≤ 1099511627776 ∧ x.fld.size ≤ 1099511627776
/-- small enough -/
structure OkQ (q : Qu) : Prop where
  p : allT okT q.p
  ps : sizeT q.p ≤ 1099511627776
  wl : q.ws.length ≤ 1099511627776
  wx : ∀ x ∈ q.ws, allX okX x ∧ allX vX x
  wsum : sizeXs q.ws ≤ 1099511627776
  key : q.key.size ≤ 1099511627776
  il : q.its.length ≤ 1099511627776
  it : ∀ x ∈ q.its, okI x
/-! ### Size of a condition -/
def stepN (s : Int) (_ : Int) (_ : Ex) : Int := W64 (s + 1)
theorem stepN_size (x : Ex) : ∀ (n : Nat) (d : Int), n + sizeX x ≤ 1152921504606846976 → foldX stepN (n : Int) d x = ((n + sizeX x : Nat) : Int) := by
  induction x using Ex.ind with
  | h x ih =>
    intro n d hn
    rw [sizeX_eq] at hn
    have : ∀ (r : List Ex), (∀ y ∈ r, y ∈ x.l) → ∀ (n : Nat) (d : Int), n + sizeXs r ≤ 1152921504606846976 → foldXs stepN (n : Int) d r = ((n + sizeXs r : Nat) : Int) := by
      intro r
      induction r with
      | nil => intro _ n d _; simp [foldXs, sizeXs]
      | cons y r ihr =>
        intro hy n d hn
        simp only [foldXs, sizeXs] at hn ⊢
        rw [ih y (hy y (by simp)) n d (by omega), ihr (fun z hz => hy z (by simp [hz])) _ _ (by omega)]
        congr 1; omega
    rw [foldX_eq, sizeX_eq]
    have h3 : stepN (n : Int) d x = ((n + 1 : Nat) : Int) := by
      simp only [stepN]
      rw [w64_id (by omega) (by omega)]; rfl
    rw [h3, this x.l (fun _ h => h) _ _ (by omega)]
    congr 1; omega
theorem visitN (bn l : Nat) (n2 : bn ≠ l) (L : LoopInfo) (hL : L = f129_L8 (Pt bn)) :
    Visit Int (.fn (.yield l) [] []) (fun b => b = bn ∨ b = l) (fun s H => H.objs bn = some (.cells [I s]) ∧ H.objs l = some (.loop L .ready)) stepN := by
  refine ⟨rfl, fun s H H' hs he => ⟨he.obj hs.1, he.obj hs.2⟩, fun s H b hs hb => ?_, fun s H d x K hx hs hk => ?_⟩
  · rcases hb with rfl | rfl
    · exact not_fresh hs.1
    · exact not_fresh hs.2
  obtain ⟨s1, s3⟩ := hs
  show Ev Pg Hs (.yield l) [I d, encX x] H K
  rw [Ev_yield s3, hL, f129_y8_eq]
  unfold beginA
  rw [s3]
  simp only
  have t1 : (H.setObj l (.loop L .busy)).objs bn = some (.cells [I s]) := (setObj_ne H _ n2).trans s1
  have t3 := setObj_same H l (.loop L .busy)
  have te : HExc (fun b => b = bn ∨ b = l) H (H.setObj l (.loop L .busy)) := (HExc.refl _ H).setObj (.inl (.inr rfl)) _
  generalize H.setObj l (.loop L .busy) = H1 at t1 t3 te ⊢
  rw [ld_Pt t1]
  simp only [part_f, List.getElem?_cons_zero, ob_some, i_add]
  rw [st_Pt t1 (sz1_I _), ob_some]
  have u1 := setObj_same H1 bn (.cells [I (W64 (s + 1))])
  have u3 : (H1.setObj bn (.cells [I (W64 (s + 1))])).objs l = some (.loop L .busy) := (setObj_ne H1 _ (Ne.symm n2)).trans t3
  have ue : HExc (fun b => b = bn ∨ b = l) H (H1.setObj bn (.cells [I (W64 (s + 1))])) := te.setObj (.inl (.inl rfl)) _
  generalize H1.setObj bn (.cells [I (W64 (s + 1))]) = H2 at u1 u3 ue ⊢
  unfold endA
  rw [u3]
  simp only
  refine hk _ ⟨?_, setObj_same _ _ _⟩ (ue.setObj (.inl (.inr rfl)) _)
  rw [setObj_ne _ _ n2, u1]; rfl
theorem c129 (x : Ex) (hok : allX okX x) (hsz : sizeX x ≤ 1152921504606846975) (H : Heap) (Q : Post) (hq : ∀ H', HExt H H' → Q (I (sizeX x)) H') : E 129 [encX x] H Q := by
  rw [f129_eq, szX, ob_some]
  intro bn hn
  simp only [Pt_def]
  have e1 : HExt H (H.setObj bn (.cells [I 0])) := (HExt.refl H).setObj hn _
  have o1 := setObj_same H bn (.cells [I 0])
  generalize H.setObj bn (.cells [I 0]) = H1 at e1 o1 ⊢
  rw [st_Pt o1 (sz1_I _), ob_some, partX, ob_some]
  have e3 : HExt H (H1.setObj bn (.cells [I 0])) := e1.setObj hn _
  have o1 := setObj_same H1 bn (.cells [I 0])
  generalize H1.setObj bn (.cells [I 0]) = H4 at e3 o1 ⊢
  refine c84 x H4 _ (fun b1 hb => ?_)
  have e5 : HExt H4 (H4.setObj b1 (.cells (encC x))) := (HExt.refl H4).setObj hb _
  have ox := setObj_same H4 b1 (.cells (encC x))
  generalize H4.setObj b1 (.cells (encC x)) = H5 at e5 ox ⊢
  have o1 := e5.obj o1
  refine ⟨trivial, ?_⟩
  intro l hl
  have n2 := fresh_ne o1 hl
  have e6 : HExt H5 (H5.setObj l (.loop (f129_L8 (Pt bn)) .ready)) := (HExt.refl H5).setObj hl _
  have o3 := setObj_same H5 l (.loop (f129_L8 (Pt bn)) .ready)
  generalize H5.setObj l (.loop (f129_L8 (Pt bn)) .ready) = H6 at e6 o3 ⊢
  show E 115 [.fn (.yield l) [] [], Pt b1] H6 _
  refine c115 (visitN bn l n2 _ rfl) x hok b1 0 H6 _ (e6.obj ox) ⟨e6.obj o1, o3⟩ (fun H7 hs he => ?_)
  obtain ⟨s1, s3⟩ := hs
  have hE : HExt H H7 := he.ext ((e3.trans e5).trans e6) (fun b hb => by
    rcases hb with rfl | rfl
    · exact hn
    · exact (e3.trans e5).fresh hl)
  unfold overA
  rw [s3]
  simp only
  have t1 : (H7.setObj l (.loop (f129_L8 (Pt bn)) .over)).objs bn = _ := (setObj_ne H7 _ n2).trans s1
  have hE' : HExt H (H7.setObj l (.loop (f129_L8 (Pt bn)) .over)) := hE.setObj ((e3.trans e5).fresh hl) _
  generalize H7.setObj l (.loop (f129_L8 (Pt bn)) .over) = H8 at t1 hE' ⊢
  rw [f129_j12_eq, ld_Pt t1]
  simp only [part_f, List.getElem?_cons_zero, ob_some]
  have h0 := stepN_size x 0 1 (by omega)
  rw [Nat.zero_add] at h0
  rw [show foldX stepN 0 1 x = _ from h0]
  exact hq H8 hE'
/-! ### The clauses -/
theorem c93 (q : Qu) (hq0 : OkQ q) (H : Heap) (Q : Post) (hq : ∀ H', HExt H H' → Q (I (checkT q.p)) H') : E 93 [encQ q] H Q := by
  rw [f93_eq, szQ, ob_some, partQT, ob_some]
  exact c97 q.p hq0.p (by have := hq0.ps; omega) H _ hq
def countsP (q : Qu) : Int := if 16 < q.ws.length ∨ 16 < q.its.length then 2 else 0
theorem c94 (q : Qu) (H : Heap) (Q : Post) : E 94 [encQ q] H Q = Q (I (countsP q)) H := by
  simp only [f94_eq, szQ, ob_some, part_f, q6, q10, lenX, lenIt, i_gtr, f94_j5_eq, cnd_B, decide_eq_true_eq, countsP]
  by_cases h : 16 < q.ws.length
  · have h' : (16 : Int) < (q.ws.length : Int) := by omega
    simp [h, h']
  · have h' : ¬ (16 : Int) < (q.ws.length : Int) := by omega
    by_cases h2 : 16 < q.its.length
    · have h2' : (16 : Int) < (q.its.length : Int) := by omega
      simp [h, h', h2, h2']
    · have h2' : ¬ (16 : Int) < (q.its.length : Int) := by omega
      simp [h, h', h2, h2']
def whereP : Nat → List Ex → Int
  | n, [] => if 100 ≤ n then 2 else 0
  | n, x :: r => if checkP x = 0 then whereP (n + sizeX x) r else checkP x
theorem c95 (q : Qu) (hok : OkQ q) (H : Heap) (Q : Post) (hq : ∀ H', HExt H H' → Q (I (whereP 0 q.ws)) H') : E 95 [encQ q] H Q := by
  have loop : ∀ (r pre : List Ex) (n : Nat) (H1 : Heap), q.ws = pre ++ r → HExt H H1 → n + sizeXs r ≤ 1099511627776 → (∀ H', HExt H H' → Q (I (whereP n r)) H') →
      f95_l8 (I n) (encXs q.wsz q.wnil q.wtip q.ws) (I q.ws.length) (I pre.length) H1 Q := by
    intro r
    induction r with
    | nil =>
      intro pre n H1 e he hn hq
      have h1 : (pre.length : Int) = q.ws.length := by rw [e]; simp
      rw [f95_l8_eq, i_lss, ob_some, cnd_B, h1]
      simp only [Int.lt_irrefl, decide_false, Bool.false_eq_true, if_false, i_geq, ob_some]
      have := hq H1 he
      simp only [whereP] at this
      refine cnd_intro (fun h => ?_) (fun h => ?_)
      · rw [if_pos (by simp at h; omega)] at this; exact this
      · rw [if_neg (by simp at h; omega)] at this; exact this
    | cons x r ih =>
      intro pre n H1 e he hn hq
      have hlt : pre.length < q.ws.length := by rw [e]; simp
      have hlt' : (pre.length : Int) < q.ws.length := by omega
      have hx := hok.wx x (by rw [e]; simp)
      have hwl := hok.wl
      simp only [sizeXs] at hn
      rw [f95_l8_eq, i_lss, ob_some, cnd_B, if_pos (by simpa using hlt'), ixX q.ws q.wsz q.wnil q.wtip pre r x e, ob_some, partX, ob_some, szX, ob_some, splX, ob_some, partX, ob_some]
      refine c55 x hx.1 H1 _ (fun H2 e2 => ?_)
      simp only [i_neq, ob_some, whereP] at hq ⊢
      refine cnd_intro (fun h => ?_) (fun h => ?_)
      · have := hq H2 (he.trans e2)
        rw [if_neg (by simpa using h)] at this
        exact this
      · refine c129 x hx.1 (by omega) H2 _ (fun H3 e3 => ?_)
        rw [i_add, ob_some, i_add, ob_some, w64_succ hlt (by omega), w64_id (by omega) (by omega)]
        have := ih (pre ++ [x]) (n + sizeX x) H3 (by simp [e]) ((he.trans e2).trans e3) (by omega) (fun H' h' => by
          have := hq H' h'
          rw [if_pos (by simpa using h)] at this
          exact this)
        rw [List.length_append, List.length_singleton] at this
        exact this
  rw [f95_eq, szQ, ob_some, part_f, q6, ob_some, lenX, ob_some]
  exact loop q.ws [] 0 H rfl (HExt.refl H) (by have := hok.wsum; omega) hq
/-! ### The rest -/
theorem c130 (x : Ex) (H : Heap) (Q : Post) : E 130 [encX x] H Q = Q (B (decide (x.k = 16))) H := by
  simp only [f130_eq, szX, ob_some, part_f, p0X, i_eql]
theorem c153a_l (sz : Nat) (nil : Bool) (tip : Tip) (l : List Ex) (hn : l.length ≤ 1099511627776) (H : Heap) (Q : Post) : ∀ (r pre : List Ex), l = pre ++ r →
    f153_l6 (encXs sz nil tip l) (.fn (.func 130) [] []) (I l.length) (I pre.length) H Q = Q (I (ownIx 16 pre.length r)) H := by
  intro r
  induction r with
  | nil =>
    intro pre e
    have : (pre.length : Int) = l.length := by rw [e]; simp
    rw [f153_l6_eq, i_lss, ob_some, cnd_B, this]
    simp [ownIx]
  | cons y r ih =>
    intro pre e
    have hlt : pre.length < l.length := by rw [e]; simp
    have hlt' : (pre.length : Int) < l.length := by omega
    have ih := ih (pre ++ [y]) (by simp [e])
    rw [f153_l6_eq, i_lss, ob_some, cnd_B, if_pos (by simpa using hlt'), ixX l sz nil tip pre r y e, ob_some, partX, ob_some]
    show E 130 [encX y] H _ = _
    rw [c130, cnd_B, i_add, ob_some, w64_succ hlt (by omega)]
    rw [List.length_append, List.length_singleton] at ih
    rw [ih]
    simp only [ownIx, decide_eq_true_eq]
    split <;> rfl
theorem c122a (sz : Nat) (nil : Bool) (tip : Tip) (l : List Ex) (hn : l.length ≤ 1099511627776) (H : Heap) (Q : Post) :
    E 122 [encXs sz nil tip l, .fn (.func 130) [] []] H Q = Q (B (l.any fun y => decide (y.k = 16))) H := by
  have := fun K => c153a_l sz nil tip l hn H K l [] rfl
  rw [f122_eq, f153_eq, lenX, ob_some]
  refine (this _).trans ?_
  rw [i_geq, ob_some, ownIx_ge]
/-- may an item be -/
def itemP (x : It) : Bool :=
  nameL x.name.data.toList && (nameL x.var.data.toList && (if x.k = 3 then decide (x.fld = e0) else if x.k = 1 ∨ x.k = 2 ∨ x.k = 4 then nameL x.fld.data.toList else false))
theorem c132 (x : It) (hok : okI x) (H : Heap) (Q : Post) (hq : ∀ H', HExt H H' → Q (B (itemP x)) H') : E 132 [encIt x] H Q := by
  have g0 : (itC x)[0]? = some (S x.name) := rfl
  have g1 : (itC x)[1]? = some (I x.k) := rfl
  have g2 : (itC x)[2]? = some (S x.var) := rfl
  have g3 : (itC x)[3]? = some (S x.fld) := rfl
  simp only [f132_eq, szIt, ob_some, part_f, g0, g2]
  refine c118 _ hok.1 H _ (fun H1 e1 => ?_)
  rw [not_B, ob_some]
  refine cnd_intro (fun h => ?_) (fun h => ?_)
  · have := hq H1 e1
    simp only [itemP, show nameL x.name.data.toList = false by simpa using h, Bool.false_and] at this
    rw [f132_j5_eq]; exact this
  · have h : nameL x.name.data.toList = true := by simpa using h
    refine c118 _ hok.2.1 H1 _ (fun H2 e2 => ?_)
    have e12 := e1.trans e2
    rw [not_B, ob_some, f132_j5_eq]
    refine cnd_intro (fun h2 => ?_) (fun h2 => ?_)
    · have := hq H2 e12
      simp only [itemP, h, show nameL x.var.data.toList = false by simpa using h2, Bool.false_and, Bool.and_false] at this
      exact this
    · have h2 : nameL x.var.data.toList = true := by simpa using h2
      have q1 := fun H' e' => hq H' e'
      simp only [itemP, h, h2, Bool.true_and] at q1
      simp only [part_f, g1, g3, ob_some, i_eql, s_eql, f132_j30_eq]
      by_cases k3 : x.k = 3
      · simp only [k3, decide_true, cnd_t]
        simp only [k3, if_true] at q1
        exact q1 H2 e12
      · simp only [k3, decide_false, cnd_f]
        simp only [k3, if_false] at q1
        by_cases k1 : x.k = 1
        · simp only [k1, decide_true, cnd_t]
          simp only [k1, true_or, if_true] at q1
          exact c118 _ hok.2.2 H2 _ (fun H3 e3 => q1 H3 (e12.trans e3))
        · by_cases k2 : x.k = 2
          · simp only [k2, decide_true, cnd_t]
            simp only [k2, true_or, or_true, if_true] at q1
            have : decide ((2 : Int) = 1) = false := rfl
            simp only [this, cnd_f]
            exact c118 _ hok.2.2 H2 _ (fun H3 e3 => q1 H3 (e12.trans e3))
          · simp only [k1, k2, decide_false, cnd_f]
            simp only [k1, k2, false_or] at q1
            refine cnd_intro (fun h4 => ?_) (fun h4 => ?_)
            · rw [if_pos (by simpa using h4)] at q1
              exact c118 _ hok.2.2 H2 _ (fun H3 e3 => q1 H3 (e12.trans e3))
            · rw [if_neg (by simpa using h4)] at q1
              exact q1 H2 e12
def seenM (l : List ByteArray) : List (ByteArray × AV) := l.map fun s => (s, B true)
def hasB (s : ByteArray) (l : List ByteArray) : Bool := l.any fun k => decide (s = k)
theorem findM_seen (s : ByteArray) (l : List ByteArray) : findM s (seenM l) = if hasB s l = true then some (B true) else none := by
  induction l with
  | nil => rfl
  | cons k r ih =>
    simp only [seenM, List.map_cons, findM, hasB, List.any_cons] at ih ⊢
    rw [ba_beq]
    by_cases h : s = k
    · simp [h]
    · simp only [h, decide_false, Bool.false_or]; exact ih
theorem updM_seen (s : ByteArray) (l : List ByteArray) (h : hasB s l = false) : updM s (B true) (seenM l) = seenM (l ++ [s]) := by
  induction l with
  | nil => rfl
  | cons k r ih =>
    simp only [hasB, List.any_cons, Bool.or_eq_false_iff] at h
    have h2 : hasB s r = false := h.2
    simp only [seenM, List.map_cons, updM, List.cons_append] at ih ⊢
    rw [ba_beq, h.1, ih h2]
abbrev Mp (m : Nat) : AV := .raw (.map (some m))
structure Seen (H0 : Heap) (b m : Nat) (l : List ByteArray) (H : Heap) : Prop where
  ext : HExt H0 H
  cell : H.objs b = some (.cells [Mp m])
  map : H.objs m = some (.smap (seenM l))
theorem c131 (H0 : Heap) (b m : Nat) (hm : H0.fresh m) (hbm : b ≠ m) (x : It) (hok : okI x) (l : List ByteArray) (H : Heap) (Q : Post) (hs : Seen H0 b m l H)
    (h1 : (hasB x.name l || !itemP x) = true → ∀ H', HExt H0 H' → Q (B true) H') (h2 : (hasB x.name l || !itemP x) = false → ∀ H', Seen H0 b m (l ++ [x.name]) H' → Q (B false) H') : E 131 [encIt x, Pt b] H Q := by
  have g0 : (itC x)[0]? = some (S x.name) := rfl
  have hl : lookA H (B false) (Mp m) (S x.name) false = some (okA (B false) false (findM x.name (seenM l))) := by simp [lookA, S, entsA, hs.map]
  rw [f131_eq, szIt, ob_some, ld_Pt hs.cell]
  have hu : ∀ K : Heap → Prop, updA H (Mp m) (S x.name) (B true) K = K (H.setObj m (.smap (updM x.name (B true) (seenM l)))) := fun K => by simp [updA, S, hs.map]
  simp only [part_f, List.getElem?_cons_zero, ob_some, g0, hl, findM_seen, hu, partIt, f131_j8_eq]
  cases h : hasB x.name l with
  | true =>
    rw [h] at h1
    exact h1 rfl _ (hs.ext.setObj hm _)
  | false =>
    rw [h, Bool.false_or] at h1 h2
    show cndA (B false) _ _
    rw [cnd_f, updM_seen _ _ h]
    refine c132 x hok _ _ (fun H2 e2 => ?_)
    rw [not_B, ob_some]
    have es : HExt H0 (H.setObj m (.smap (seenM (l ++ [x.name])))) := hs.ext.setObj hm _
    cases hi : !itemP x with
    | true => exact h1 hi _ (es.trans e2)
    | false => exact h2 hi _ ⟨es.trans e2, e2.obj ((setObj_ne _ _ hbm).trans hs.cell), e2.obj (setObj_same _ _ _)⟩
def wrongI : List ByteArray → List It → Bool
  | _, [] => false
  | l, x :: r => (hasB x.name l || !itemP x) || wrongI (l ++ [x.name]) r
theorem c133 (H0 : Heap) (b m : Nat) (hm : H0.fresh m) (hbm : b ≠ m) (sz : Nat) (nil : Bool) (tip : Tip) (xs : List It) (hn : xs.length ≤ 1099511627776) (hok : ∀ x ∈ xs, okI x) (H : Heap) (Q : Post) (hs : Seen H0 b m [] H)
    (hq : ∀ H', HExt H0 H' → Q (B (wrongI [] xs)) H') : E 133 [encIts sz nil tip xs, .fn (.func 131) [] [Pt b]] H Q := by
  have loop : ∀ (r pre : List It) (l : List ByteArray) (H : Heap) (K : Post), xs = pre ++ r → Seen H0 b m l H → (∀ H' (i : Int), HExt H0 H' → decide (0 ≤ i) = wrongI l r → K (I i) H') →
      f159_l6 (encIts sz nil tip xs) (.fn (.func 131) [] [Pt b]) (I xs.length) (I pre.length) H K := by
    intro r
    induction r with
    | nil =>
      intro pre l H K e hs hk
      have : (pre.length : Int) = xs.length := by rw [e]; simp
      rw [f159_l6_eq, i_lss, ob_some, cnd_B, this]
      simp only [Int.lt_irrefl, decide_false, Bool.false_eq_true, if_false]
      exact hk H (-1) hs.ext rfl
    | cons x r ih =>
      intro pre l H K e hs hk
      have hlt : pre.length < xs.length := by rw [e]; simp
      have hlt' : (pre.length : Int) < xs.length := by omega
      rw [f159_l6_eq, i_lss, ob_some, cnd_B, if_pos (by simpa using hlt'), ixIt xs sz nil tip pre r x e, ob_some, partIt, ob_some]
      show E 131 [encIt x, Pt b] H _
      refine c131 H0 b m hm hbm x (hok x (by rw [e]; simp)) l H _ hs (fun h H' he => ?_) (fun h H' hs' => ?_)
      · rw [cnd_t]
        exact hk H' _ he (by simp only [wrongI, h, Bool.true_or]; simp)
      · rw [cnd_f, i_add, ob_some, w64_succ hlt (by omega)]
        have := ih (pre ++ [x]) (l ++ [x.name]) H' K (by simp [e]) hs' (fun H'' i he hi => hk H'' i he (by simp only [wrongI, h, Bool.false_or]; exact hi))
        rw [List.length_append, List.length_singleton] at this
        exact this
  rw [f133_eq, f159_eq, lenIt, ob_some]
  refine loop xs [] [] H _ rfl hs (fun H' i he hi => ?_)
  rw [i_geq, ob_some, hi]
  exact hq H' he
def rangeP (q : Qu) : Bool := decide (0 ≤ q.mode) && (decide (q.mode ≤ 2) && (decide (0 ≤ q.within) && decide (q.within ≤ 1099511627776)))
def restP (q : Qu) : Int :=
  if (q.key = e0 ∨ nameL q.key.data.toList = true) ∧ rangeP q = true ∧ (q.ws.any fun y => decide (y.k = 16)) = false ∧ wrongI [] q.its = false then 0 else 1
theorem c96 (q : Qu) (hok : OkQ q) (H : Heap) (Q : Post) (hq : ∀ H', HExt H H' → Q (I (restP q)) H') : E 96 [encQ q] H Q := by
  have hbad : ∀ H', HExt H H' → ¬ ((q.key = e0 ∨ nameL q.key.data.toList = true) ∧ rangeP q = true ∧ (q.ws.any fun y => decide (y.k = 16)) = false ∧ wrongI [] q.its = false) → Q (I 1) H' := fun H' he h => by
    have := hq H' he
    rw [restP, if_neg h] at this; exact this
  rw [f96_eq, szQ, ob_some, partQ, ob_some, szQ, ob_some, splQ, ob_some]
  intro m fm
  have em : HExt H (H.setObj m (.smap [])) := (HExt.refl H).setObj fm _
  have om := setObj_same H m (.smap [])
  generalize H.setObj m (.smap []) = H1 at em om ⊢
  have z1 : sizedA 1 (AV.raw (.map (some m))) = some [Mp m] := rfl
  have z2 : spliceA 0 [Mp m] [AV.raw (.map none)] = some [Mp m] := rfl
  rw [z1, ob_some, z2, ob_some]
  intro b fb
  have hbm : b ≠ m := Ne.symm (fresh_ne om fb)
  have eb : HExt H (H1.setObj b (.cells [Mp m])) := em.setObj (em.fresh fb) _
  have ob' := setObj_same H1 b (.cells [Mp m])
  have om : (H1.setObj b (.cells [Mp m])).objs m = some (.smap (seenM [])) := (setObj_ne H1 _ (Ne.symm hbm)).trans om
  simp only [Pt_def]
  generalize H1.setObj b (.cells [Mp m]) = H2 at eb ob' om ⊢
  have j32 : ∀ H3, Seen H b m [] H3 → (q.key = e0 ∨ nameL q.key.data.toList = true) → f96_j32 (qC q) (.fn (.func 130) [] []) (.fn (.func 131) [] [Pt b]) (B (!rangeP q)) H3 Q := fun H3 hs hkey => by
    rw [f96_j32_eq]
    refine cnd_intro (fun h => ?_) (fun h => ?_)
    · exact hbad H3 hs.ext (fun hh => by rw [hh.2.1] at h; cases h)
    · have hr : rangeP q = true := by simpa using h
      simp only [part_f, q6, q10, ob_some, c122a q.wsz q.wnil q.wtip q.ws hok.wl, f96_j42_eq]
      refine cnd_intro (fun h2 => ?_) (fun h2 => ?_)
      · rw [h2, cnd_t]
        exact hbad H3 hs.ext (fun hh => by rw [hh.2.2.1] at h2; cases h2)
      · refine c133 H b m fm hbm q.isz q.inil q.itip q.its hok.il hok.it H3 _ hs (fun H4 e4 => ?_)
        refine cnd_intro (fun h3 => ?_) (fun h3 => ?_)
        · exact hbad H4 e4 (fun hh => by rw [hh.2.2.2] at h3; cases h3)
        · have := hq H4 e4
          rw [restP, if_pos ⟨hkey, hr, h2, h3⟩] at this
          exact this
  have j14 : ∀ H3, Seen H b m [] H3 → (q.key = e0 ∨ nameL q.key.data.toList = true) → f96_j14 (qC q) (.fn (.func 130) [] []) (.fn (.func 131) [] [Pt b]) (B false) H3 Q := fun H3 hs hkey => by
    have := j32 H3 hs hkey
    simp only [rangeP] at this
    rw [f96_j14_eq, cnd_f]
    simp only [part_f, q8, q9, ob_some, i_lss, i_gtr]
    by_cases h1 : 0 ≤ q.mode
    · by_cases h2 : q.mode ≤ 2
      · by_cases h3 : 0 ≤ q.within
        · by_cases h4 : q.within ≤ 1099511627776
          · have b1 : ¬ q.mode < 0 := by omega
            have b2 : ¬ 2 < q.mode := by omega
            have b3 : ¬ q.within < 0 := by omega
            have b4 : ¬ 1099511627776 < q.within := by omega
            simp only [h1, h2, h3, h4, b1, b2, b3, b4, decide_true, decide_false, Bool.and_self, Bool.not_true, cnd_f] at this ⊢
            exact this
          · have b1 : ¬ q.mode < 0 := by omega
            have b2 : ¬ 2 < q.mode := by omega
            have b3 : ¬ q.within < 0 := by omega
            have b4 : 1099511627776 < q.within := by omega
            simp only [h1, h2, h3, h4, b1, b2, b3, b4, decide_true, decide_false, Bool.and_false, Bool.not_false, cnd_f] at this ⊢
            exact this
        · have b1 : ¬ q.mode < 0 := by omega
          have b2 : ¬ 2 < q.mode := by omega
          have b3 : q.within < 0 := by omega
          simp only [h1, h2, h3, b1, b2, b3, decide_true, decide_false, Bool.false_and, Bool.and_false, Bool.not_false, cnd_f, cnd_t] at this ⊢
          exact this
      · have b1 : ¬ q.mode < 0 := by omega
        have b2 : 2 < q.mode := by omega
        simp only [h1, h2, b1, b2, decide_true, decide_false, Bool.false_and, Bool.and_false, Bool.not_false, cnd_f, cnd_t] at this ⊢
        exact this
    · have b1 : q.mode < 0 := by omega
      simp only [h1, b1, decide_true, decide_false, Bool.false_and, Bool.not_false, cnd_t] at this ⊢
      exact this
  have hs2 : Seen H b m [] H2 := ⟨eb, ob', om⟩
  simp only [part_f, q7, ob_some, s_neq]
  refine cnd_intro (fun h => ?_) (fun h => ?_)
  · have hk : q.key ≠ e0 := by simpa using h
    refine c118 _ hok.key H2 _ (fun H3 e3 => ?_)
    rw [not_B, ob_some]
    cases hn : nameL q.key.data.toList with
    | true => exact j14 H3 ⟨eb.trans e3, e3.obj ob', e3.obj om⟩ (.inr hn)
    | false =>
      rw [f96_j14_eq]
      show cndA (B true) _ _
      rw [cnd_t]
      exact hbad H3 (eb.trans e3) (fun hh => by
        rcases hh.1 with h' | h'
        · exact hk h'
        · rw [hn] at h'; cases h')
  · exact j14 H2 hs2 (.inl (by simpa using h))
def queryP (q : Qu) : Int :=
  if checkT q.p ≠ 0 then checkT q.p else if countsP q ≠ 0 then 2 else if whereP 0 q.ws ≠ 0 then whereP 0 q.ws else restP q
theorem countsP_ne {q : Qu} (h : countsP q ≠ 0) : countsP q = 2 := by
  simp only [countsP] at h ⊢
  split at h
  · rename_i h'; rw [if_pos h']
  · exact absurd rfl h
theorem c61 (q : Qu) (hok : OkQ q) (H : Heap) (Q : Post) (hq : ∀ H', HExt H H' → Q (I (queryP q)) H') : E 61 [encQ q] H Q := by
  rw [f61_eq, szQ, ob_some, partQ, ob_some, bldQ, ob_some, szQ, ob_some, splQ, ob_some, partQ, ob_some]
  simp only [queryP] at hq
  refine c93 q hok H _ (fun H1 e1 => ?_)
  rw [i_neq, ob_some]
  refine cnd_intro (fun h => ?_) (fun h => ?_)
  · have := hq H1 e1
    rw [if_pos (by simpa using h)] at this; exact this
  rw [if_neg (by simpa using h)] at hq
  rw [ob_some]
  show E 94 [encQ q] H1 _
  rw [c94, i_neq, ob_some]
  refine cnd_intro (fun h => ?_) (fun h => ?_)
  · have h' : countsP q ≠ 0 := by simpa using h
    have := hq H1 e1
    rw [if_pos h', ← countsP_ne h'] at this; exact this
  rw [if_neg (by simpa using h)] at hq
  rw [ob_some]
  show E 95 [encQ q] H1 _
  refine c95 q hok H1 _ (fun H2 e2 => ?_)
  rw [i_neq, ob_some]
  refine cnd_intro (fun h => ?_) (fun h => ?_)
  · have := hq H2 (e1.trans e2)
    rw [if_pos (by simpa using h)] at this; exact this
  rw [if_neg (by simpa using h)] at hq
  rw [ob_some]
  exact c96 q hok H2 _ (fun H3 e3 => hq H3 ((e1.trans e2).trans e3))
end Go.Hx
