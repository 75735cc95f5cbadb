/- Contracts of layer 7 in this seat: schemas. Own work (session 2). -/
import Derived.Test.YthhghcekcgonnaaS3K
set_option maxRecDepth 20000
namespace Go.Hx
/-! ### Fields, schemas, events -/
structure Fd where
  name : ByteArray
  k : Int
structure Sc where
  name : ByteArray
  sz : Nat
  nil : Bool
  tip : Tip
  fs : List Fd
def encF (f : Fd) : AV := .agg [S f.name, I f.k]
def encFs (sz : Nat) (nil : Bool) (tip : Tip) (l : List Fd) : AV := .sl sz nil tip (l.map encF)
def encSc (c : Sc) : AV := .agg [S c.name, encFs c.sz c.nil c.tip c.fs]
def encScs (sz : Nat) (nil : Bool) (tip : Tip) (l : List Sc) : AV := .sl sz nil tip (l.map encSc)
theorem lenF (sz : Nat) (nil : Bool) (tip : Tip) (l : List Fd) : lenA (encFs sz nil tip l) = some (I l.length) := by simp [encFs, len_sl]
theorem lenSc (sz : Nat) (nil : Bool) (tip : Tip) (l : List Sc) : lenA (encScs sz nil tip l) = some (I l.length) := by simp [encScs, len_sl]
theorem szF (f : Fd) : sizedA 2 (encF f) = some [S f.name, I f.k] := rfl
theorem partF (f : Fd) : partA true 0 2 [S f.name, I f.k] = some (encF f) := rfl
abbrev scC (c : Sc) : List AV := [S c.name, encFs c.sz c.nil c.tip c.fs]
theorem szSc (c : Sc) : sizedA 2 (encSc c) = some (scC c) := rfl
theorem partSc (c : Sc) : partA true 0 2 (scC c) = some (encSc c) := rfl
theorem splSc (c : Sc) : spliceA 0 (scC c) [S e0, .sl 0 true .full []] = some (scC c) := rfl
theorem ixF' (l : List Fd) (sz : Nat) (nil : Bool) (tip : Tip) (pre r : List Fd) (x : Fd) (e : l = pre ++ x :: r) : ixaA 2 (encFs sz nil tip l) (I pre.length) = some [S x.name, I x.k] :=
  ix_mk 2 nil tip _ pre.length (x := encF x) (by rw [e]; exact get_mid encF pre r x) rfl
theorem ixSc (l : List Sc) (sz : Nat) (nil : Bool) (tip : Tip) (pre r : List Sc) (x : Sc) (e : l = pre ++ x :: r) : ixaA 2 (encScs sz nil tip l) (I pre.length) = some (scC x) :=
  ix_mk 2 nil tip _ pre.length (x := encSc x) (by rw [e]; exact get_mid encSc pre r x) rfl
/-! ### Names that were seen -/
def seenM (l : List ByteArray) : List (ByteArray × AV) := l.map fun s => (s, B true)
def hasB (s : ByteArray) (l : List ByteArray) : Bool := l.any fun k => decide (s = k)
theorem findM_seen (s : ByteArray) (l : List ByteArray) : findM s (seenM l) = if hasB s l = true then some (B true) else none := by
  induction l with
  | nil => rfl
  | cons k r ih =>
    simp only [seenM, List.map_cons, findM, hasB, List.any_cons] at ih ⊢
    rw [ba_beq]
    by_cases h : s = k
    · simp [h]
    · simp only [h, decide_false, Bool.false_or]; exact ih
theorem updM_seen (s : ByteArray) (l : List ByteArray) (h : hasB s l = false) : updM s (B true) (seenM l) = seenM (l ++ [s]) := by
  induction l with
  | nil => rfl
  | cons k r ih =>
    simp only [hasB, List.any_cons, Bool.or_eq_false_iff] at h
    have h2 : hasB s r = false := h.2
    simp only [seenM, List.map_cons, updM, List.cons_append] at ih ⊢
    rw [ba_beq, h.1, ih h2]
abbrev Mp (m : Nat) : AV := .raw (.map (some m))
theorem c55 (m : Nat) (s : ByteArray) (l : List ByteArray) (H : Heap) (Q : Post) (hm : H.objs m = some (.smap (seenM l))) (h1 : hasB s l = true → Q (B true) H) (h2 : hasB s l = false → Q (B false) (H.setObj m (.smap (seenM (l ++ [s]))))) : E 55 [Mp m, S s] H Q := by
  have hl : lookA H (B false) (Mp m) (S s) false = some (okA (B false) false (findM s (seenM l))) := by simp [lookA, S, entsA, hm]
  rw [f55_eq, hl, ob_some, findM_seen]
  cases h : hasB s l with
  | true => exact h1 h
  | false =>
    show cndA (B false) _ _
    rw [cnd_f]
    simp only [updA, S, hm]
    have := h2 h
    rw [← updM_seen s l h] at this
    exact this
/-! ### May a schema be -/
def bad0 (f : Fd) : Bool := !(nameL f.name.data.toList) || (decide (f.k < 1) || decide (3 < f.k))
def wrongF : List ByteArray → List Fd → Bool
  | _, [] => false
  | l, f :: r => bad0 f || (hasB f.name l || wrongF (l ++ [f.name]) r)
structure Seen (H0 : Heap) (b m : Nat) (l : List ByteArray) (H : Heap) : Prop where
  ext : HExt H0 H
  cell : H.objs b = some (.cells [Mp m])
  map : H.objs m = some (.smap (seenM l))
theorem c86 (H0 : Heap) (b m : Nat) (hm : H0.fresh m) (hbm : b ≠ m) (f : Fd) (hf : f.name.size ≤ 1099511627776) (l : List ByteArray) (H : Heap) (Q : Post) (hs : Seen H0 b m l H)
    (h1 : (bad0 f || hasB f.name l) = true → ∀ H', HExt H0 H' → Q (B true) H') (h2 : (bad0 f || hasB f.name l) = false → ∀ H', Seen H0 b m (l ++ [f.name]) H' → Q (B false) H') : E 86 [encF f, Pt b] H Q := by
  rw [f86_eq, szF, ob_some, part_f, List.getElem?_cons_zero, ob_some]
  refine c74 f.name hf H _ (fun H1 e1 => ?_)
  have hs1 : Seen H0 b m l H1 := ⟨hs.ext.trans e1, e1.obj hs.cell, e1.obj hs.map⟩
  rw [not_B, ob_some]
  have t : ∀ (Q' : Prop), (bad0 f || hasB f.name l) = true → (Q (B true) H1 → Q') → Q' := fun _ h k => k (h1 h H1 hs1.ext)
  refine cnd_intro (fun a1 => ?_) (fun a1 => ?_)
  · rw [f86_c1_9a_eq, f86_c1_14a_eq, f86_c1_20a_eq, f86_j4_eq]
    exact h1 (by simp [bad0, a1]) H1 hs1.ext
  simp only [part_f, List.getElem?_cons_zero, List.getElem?_cons_succ, ob_some, i_lss, f86_c1_9b_eq]
  refine cnd_intro (fun a2 => ?_) (fun a2 => ?_)
  · rw [f86_c1_14a_eq, f86_c1_20a_eq, f86_j4_eq]
    exact h1 (by simp only [bad0, a2]; simp) H1 hs1.ext
  simp only [part_f, List.getElem?_cons_zero, List.getElem?_cons_succ, ob_some, i_gtr, f86_c1_14b_eq]
  refine cnd_intro (fun a3 => ?_) (fun a3 => ?_)
  · rw [f86_c1_20a_eq, f86_j4_eq]
    exact h1 (by simp only [bad0, a3]; simp) H1 hs1.ext
  have hb0 : bad0 f = false := by simp only [bad0, a1, a2, a3]; rfl
  rw [ld_Pt hs1.cell, part_f, List.getElem?_cons_zero, ob_some]
  refine c55 m f.name l H1 _ hs1.map (fun a4 => ?_) (fun a4 => ?_)
  · rw [f86_c1_20b_eq, f86_j4_eq]
    exact h1 (by simp [a4]) H1 hs1.ext
  · rw [f86_c1_20b_eq, f86_j4_eq]
    exact h2 (by simp [hb0, a4]) _ ⟨hs1.ext.setObj hm _, (setObj_ne _ _ hbm).trans hs1.cell, setObj_same _ _ _⟩
theorem c102w (H0 : Heap) (b m : Nat) (hm : H0.fresh m) (hbm : b ≠ m) (sz : Nat) (nil : Bool) (tip : Tip) (fs : List Fd) (hn : fs.length ≤ 1099511627776) (hf : ∀ f ∈ fs, f.name.size ≤ 1099511627776) (Q : Post) :
    ∀ (r pre : List Fd) (l : List ByteArray) (H : Heap), fs = pre ++ r → Seen H0 b m l H → (∀ ix H', HExt H0 H' → decide (0 ≤ ix) = wrongF l r → Q (I ix) H') → f102_l6 (encFs sz nil tip fs) (.fn (.func 86) [] [Pt b]) (I fs.length) (I pre.length) H Q := by
  intro r
  induction r with
  | nil =>
    intro pre l H e hs hq
    have : (pre.length : Int) = fs.length := by rw [e]; simp
    rw [f102_l6_eq, i_lss, ob_some, this]
    simp only [Int.lt_irrefl, decide_false, cnd_f]
    exact hq (-1) H hs.ext rfl
  | cons f r ih =>
    intro pre l H e hs hq
    have hlt : pre.length < fs.length := by rw [e]; simp
    have hlt' : decide ((pre.length : Int) < fs.length) = true := by simp; omega
    rw [f102_l6_eq, i_lss, ob_some, hlt', cnd_t, ixF' fs sz nil tip pre r f e, ob_some, partF, ob_some]
    show E 86 [encF f, Pt b] H _
    refine c86 H0 b m hm hbm f (hf f (by rw [e]; simp)) l H _ hs (fun h H' he => ?_) (fun h H' hs' => ?_)
    · rw [cnd_t]
      refine hq _ H' he ?_
      have : (bad0 f || (hasB f.name l || wrongF (l ++ [f.name]) r)) = true := by rw [← Bool.or_assoc, h, Bool.true_or]
      simp only [wrongF, this]
      simp
    · rw [cnd_f, i_add, ob_some, w64_succ hlt (by omega)]
      have := ih (pre ++ [f]) (l ++ [f.name]) H' (by simp [e]) hs' (fun ix H'' he hix => hq ix H'' he (by
        rw [hix]
        simp only [wrongF]
        rw [← Bool.or_assoc, h, Bool.false_or]))
      rw [List.length_append, List.length_singleton] at this
      exact this
def okSc (c : Sc) : Prop := c.name.size ≤ 1099511627776 ∧ c.fs.length ≤ 1099511627776 ∧ ∀ f ∈ c.fs, f.name.size ≤ 1099511627776
def checkSc (c : Sc) : Int := if 16 < c.fs.length then 2 else if (!(nameL c.name.data.toList) || wrongF [] c.fs) = true then 1 else 0
theorem c54 (c : Sc) (hc : okSc c) (H : Heap) (Q : Post) (hq : ∀ H', HExt H H' → Q (I (checkSc c)) H') : E 54 [encSc c] H Q := by
  rw [f54_eq, szSc, ob_some]
  simp only [part_f, List.getElem?_cons_zero, List.getElem?_cons_succ, ob_some, lenF, i_gtr]
  refine cnd_intro (fun h => ?_) (fun h => ?_)
  · have := hq H (HExt.refl H)
    rw [checkSc, if_pos (by simp at h; omega)] at this; exact this
  have h16 : ¬ 16 < c.fs.length := by simp at h; omega
  intro m fm
  have em : HExt H (H.setObj m (.smap [])) := (HExt.refl H).setObj fm _
  have om := setObj_same H m (.smap [])
  generalize H.setObj m (.smap []) = H1 at em om ⊢
  have s1 : sizedA 1 (Mp m) = some [Mp m] := rfl
  have s2 : spliceA 0 [Mp m] [AV.raw (.map none)] = some [Mp m] := rfl
  show ob (sizedA 1 (Mp m)) _
  rw [s1, ob_some, s2, ob_some]
  intro b fb
  simp only [Pt_def]
  have hbm : b ≠ m := fun e => by subst e; exact not_fresh om fb
  have eb : HExt H (H1.setObj b (.cells [Mp m])) := em.setObj (em.fresh fb) _
  have ob' := setObj_same H1 b (.cells [Mp m])
  have om : (H1.setObj b (.cells [Mp m])).objs m = some (.smap []) := (setObj_ne H1 _ (Ne.symm hbm)).trans om
  generalize H1.setObj b (.cells [Mp m]) = H2 at eb ob' om ⊢
  refine c74 c.name hc.1 H2 _ (fun H3 e3 => ?_)
  rw [not_B, ob_some]
  refine cnd_intro (fun a1 => ?_) (fun a1 => ?_)
  · rw [f54_j17_eq, cnd_t]
    have := hq H3 (eb.trans e3)
    rw [checkSc, if_neg h16, if_pos (by rw [a1]; rfl)] at this; exact this
  · have hS : Seen H b m [] H3 := ⟨eb.trans e3, e3.obj ob', e3.obj om⟩
    rw [f87_eq, f102_eq, lenF, ob_some]
    refine c102w H b m fm hbm c.sz c.nil c.tip c.fs hc.2.1 hc.2.2 _ c.fs [] [] H3 rfl hS (fun ix H' he hix => ?_)
    rw [i_geq, ob_some, hix, f54_j17_eq]
    have := hq H' he
    rw [checkSc, if_neg h16, a1, Bool.false_or] at this
    refine cnd_intro (fun a2 => ?_) (fun a2 => ?_)
    · rw [if_pos a2] at this; exact this
    · rw [if_neg (by rw [a2]; simp)] at this; exact this
/-! ### May schemas be together -/
def firstBad : List Sc → Int
  | [] => 0
  | c :: r => if checkSc c = 0 then firstBad r else checkSc c
def dupSc : List ByteArray → List Sc → Bool
  | _, [] => false
  | l, c :: r => hasB c.name l || dupSc (l ++ [c.name]) r
def bookP (l : List Sc) : Int := if 16 < l.length then 2 else if firstBad l ≠ 0 then firstBad l else if dupSc [] l = true then 4 else 0
theorem c32_2 (H0 : Heap) (m : Nat) (hm : H0.fresh m) (sz : Nat) (nil : Bool) (tip : Tip) (cs : List Sc) (hn : cs.length ≤ 16) (Q : Post) :
    ∀ (r pre : List Sc) (l : List ByteArray) (H : Heap), cs = pre ++ r → HExt H0 H → H.objs m = some (.smap (seenM l)) → (∀ H', HExt H0 H' → Q (I (if dupSc l r = true then 4 else 0)) H') → f32_l41 (Mp m) (encScs sz nil tip cs) (I cs.length) (I pre.length) H Q := by
  intro r
  induction r with
  | nil =>
    intro pre l H e he hmo hq
    have : (pre.length : Int) = cs.length := by rw [e]; simp
    rw [f32_l41_eq, i_lss, ob_some, this]
    simp only [Int.lt_irrefl, decide_false, cnd_f]
    exact hq H he
  | cons c r ih =>
    intro pre l H e he hmo hq
    have hlt : pre.length < cs.length := by rw [e]; simp
    have hlt' : decide ((pre.length : Int) < cs.length) = true := by simp; omega
    rw [f32_l41_eq, i_lss, ob_some, hlt', cnd_t, ixSc cs sz nil tip pre r c e, ob_some, partSc, ob_some, szSc, ob_some, splSc, ob_some]
    simp only [part_f, List.getElem?_cons_zero, ob_some]
    refine c55 m c.name l H _ hmo (fun a => ?_) (fun a => ?_)
    · rw [cnd_t]
      have := hq H he
      rw [if_pos (by simp only [dupSc, a, Bool.true_or])] at this
      exact this
    · rw [cnd_f, i_add, ob_some, w64_succ hlt (by omega)]
      have := ih (pre ++ [c]) (l ++ [c.name]) _ (by simp [e]) (he.setObj hm _) (setObj_same _ _ _) (fun H' he' => by
        have := hq H' he'
        simp only [dupSc, a, Bool.false_or] at this
        exact this)
      rw [List.length_append, List.length_singleton] at this
      exact this
theorem c32_1 (H0 : Heap) (sz : Nat) (nil : Bool) (tip : Tip) (cs : List Sc) (hn : cs.length ≤ 16) (hok : ∀ c ∈ cs, okSc c) (Q : Post) :
    ∀ (r pre : List Sc) (H : Heap), cs = pre ++ r → HExt H0 H → (∀ H', HExt H0 H' → Q (I (if firstBad r ≠ 0 then firstBad r else if dupSc [] cs = true then 4 else 0)) H') →
    f32_l14 (encScs sz nil tip cs) (encScs sz nil tip cs) (I cs.length) (I pre.length) H Q := by
  intro r
  induction r with
  | nil =>
    intro pre H e he hq
    have : (pre.length : Int) = cs.length := by rw [e]; simp
    rw [f32_l14_eq, i_lss, ob_some, this]
    simp only [Int.lt_irrefl, decide_false, cnd_f]
    intro m fm
    show ob (lenA (encScs sz nil tip cs)) (fun r16 => f32_l41 (Mp m) (encScs sz nil tip cs) r16 (I 0) (H.setObj m (.smap [])) Q)
    rw [lenSc, ob_some]
    refine c32_2 H0 m (he.fresh fm) sz nil tip cs hn Q cs [] [] _ rfl (he.setObj (he.fresh fm) _) (setObj_same _ _ _) (fun H' he' => ?_)
    have := hq H' he'
    rw [if_neg (by simp [firstBad])] at this
    exact this
  | cons c r ih =>
    intro pre H e he hq
    have hlt : pre.length < cs.length := by rw [e]; simp
    have hlt' : decide ((pre.length : Int) < cs.length) = true := by simp; omega
    rw [f32_l14_eq, i_lss, ob_some, hlt', cnd_t, ixSc cs sz nil tip pre r c e, ob_some, partSc, ob_some, szSc, ob_some, splSc, ob_some, partSc, ob_some]
    refine c54 c (hok c (by rw [e]; simp)) H _ (fun H1 e1 => ?_)
    rw [i_neq, ob_some]
    refine cnd_intro (fun a => ?_) (fun a => ?_)
    · have ha : checkSc c ≠ 0 := by simpa using a
      have := hq H1 (he.trans e1)
      simp only [firstBad, if_neg ha] at this
      rw [if_pos ha] at this
      exact this
    · have ha : checkSc c = 0 := by simpa using a
      rw [i_add, ob_some, w64_succ hlt (by omega)]
      have := ih (pre ++ [c]) H1 (by simp [e]) (he.trans e1) (fun H' he' => by
        have := hq H' he'
        simp only [firstBad, if_pos ha] at this
        exact this)
      rw [List.length_append, List.length_singleton] at this
      exact this
theorem c32 (sz : Nat) (nil : Bool) (tip : Tip) (cs : List Sc) (hok : ∀ c ∈ cs, okSc c) (H : Heap) (Q : Post) (hq : ∀ H', HExt H H' → Q (I (bookP cs)) H') : E 32 [encScs sz nil tip cs] H Q := by
  rw [f32_eq, lenSc, ob_some, i_gtr, ob_some]
  refine cnd_intro (fun a => ?_) (fun a => ?_)
  · have := hq H (HExt.refl H)
    rw [bookP, if_pos (by simp at a; omega)] at this; exact this
  · have h16 : ¬ 16 < cs.length := by simp at a; omega
    rw [ob_some]
    refine c32_1 H sz nil tip cs (by omega) hok Q cs [] H rfl (HExt.refl H) (fun H' he => ?_)
    have := hq H' he
    rw [bookP, if_neg h16] at this; exact this
def isSc (s : ByteArray) (c : Sc) : Bool := decide (c.name = s)
def findSc (s : ByteArray) (l : List Sc) : Option Sc := l.find? (isSc s)
theorem c57 (c : Sc) (s : ByteArray) (b : Nat) (H : Heap) (Q : Post) (hb : H.objs b = some (.cells [S s])) : E 57 [encSc c, Pt b] H Q = Q (B (isSc s c)) H := by
  rw [f57_eq, szSc, ob_some]
  simp only [part_f, List.getElem?_cons_zero, ob_some, ld_Pt hb, s_eql]
  rfl
theorem c56w (s : ByteArray) (b : Nat) (H : Heap) (hb : H.objs b = some (.cells [S s])) (sz : Nat) (nil : Bool) (tip : Tip) (cs : List Sc) (hn : cs.length ≤ 1099511627776) (Q : Post) :
    ∀ (r pre : List Sc), cs = pre ++ r → (r.find? (isSc s) = none → Q (I (-1)) H) → (∀ p c t, r = p ++ c :: t → r.find? (isSc s) = some c → Q (I ((pre ++ p).length : Nat)) H) →
    f56_l6 (encScs sz nil tip cs) (.fn (.func 57) [] [Pt b]) (I cs.length) (I pre.length) H Q := by
  intro r
  induction r with
  | nil =>
    intro pre e h1 h2
    have : (pre.length : Int) = cs.length := by rw [e]; simp
    rw [f56_l6_eq, i_lss, ob_some, this]
    simp only [Int.lt_irrefl, decide_false, cnd_f]
    exact h1 rfl
  | cons c r ih =>
    intro pre e h1 h2
    have hlt : pre.length < cs.length := by rw [e]; simp
    have hlt' : decide ((pre.length : Int) < cs.length) = true := by simp; omega
    rw [f56_l6_eq, i_lss, ob_some, hlt', cnd_t, ixSc cs sz nil tip pre r c e, ob_some, partSc, ob_some]
    show E 57 [encSc c, Pt b] H _
    rw [c57 c s b H _ hb]
    refine cnd_intro (fun a => ?_) (fun a => ?_)
    · have := h2 [] c r rfl (by simp [a])
      simpa using this
    · rw [i_add, ob_some, w64_succ hlt (by omega)]
      have := ih (pre ++ [c]) (by simp [e]) (fun h => h1 (by simp [a]; simpa using h)) (fun p c' t e' h => by
        have := h2 (c :: p) c' t (by simp [e']) (by rw [List.find?_cons, a]; exact h)
        simpa using this)
      rw [List.length_append, List.length_singleton] at this
      exact this
end Go.Hx
