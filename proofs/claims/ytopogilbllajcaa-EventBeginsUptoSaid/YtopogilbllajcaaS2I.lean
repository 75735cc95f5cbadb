/- Contracts of layers 7 and 8: find, check, stream, has. Own work (session 2). -/
import Derived.Test.YtopogilbllajcaaS2G
set_option maxRecDepth 20000
namespace Go.Hx
def isSc (s : ByteArray) (c : Sc) : Bool := decide (c.name = s)
def findSc (s : ByteArray) (l : List Sc) : Option Sc := l.find? (isSc s)
theorem c47 (c : Sc) (s : ByteArray) (b : Nat) (H : Heap) (Q : Post) (hb : H.objs b = some (.cells [S s])) : E 47 [encSc c, Pt b] H Q = Q (B (isSc s c)) H := by
  rw [f47_eq, szSc, ob_some]
  simp only [part_f, List.getElem?_cons_zero, ob_some, ld_Pt hb, s_eql]
  rfl
theorem c46w (s : ByteArray) (b : Nat) (H : Heap) (hb : H.objs b = some (.cells [S s])) (sz : Nat) (nil : Bool) (tip : Tip) (cs : List Sc) (hn : cs.length ≤ 1099511627776) (Q : Post) :
    ∀ (r pre : List Sc), cs = pre ++ r → (r.find? (isSc s) = none → Q (I (-1)) H) → (∀ p c t, r = p ++ c :: t → r.find? (isSc s) = some c → Q (I ((pre ++ p).length : Nat)) H) →
    f46_l6 (encScs sz nil tip cs) (.fn (.func 47) [] [Pt b]) (I cs.length) (I pre.length) H Q := by
  intro r
  induction r with
  | nil =>
    intro pre e h1 h2
    have : (pre.length : Int) = cs.length := by rw [e]; simp
    rw [f46_l6_eq, i_lss, ob_some, this]
    simp only [Int.lt_irrefl, decide_false, cnd_f]
    exact h1 rfl
  | cons c r ih =>
    intro pre e h1 h2
    have hlt : pre.length < cs.length := by rw [e]; simp
    have hlt' : decide ((pre.length : Int) < cs.length) = true := by simp; omega
    rw [f46_l6_eq, i_lss, ob_some, hlt', cnd_t, ixSc cs sz nil tip pre r c e, ob_some, partSc, ob_some]
    show E 47 [encSc c, Pt b] H _
    rw [c47 c s b H _ hb]
    refine cnd_intro (fun a => ?_) (fun a => ?_)
    · have := h2 [] c r rfl (by simp [a])
      simpa using this
    · rw [i_add, ob_some, w64_succ hlt (by omega)]
      have := ih (pre ++ [c]) (by simp [e]) (fun h => h1 (by simp [a]; simpa using h)) (fun p c' t e' h => by
        have := h2 (c :: p) c' t (by simp [e']) (by rw [List.find?_cons, a]; exact h)
        simpa using this)
      rw [List.length_append, List.length_singleton] at this
      exact this
def emptySc : Sc := ⟨e0, 0, true, .full, []⟩
def foundSc : Option Sc → AV
  | none => .tup [encSc emptySc, B false]
  | some c => .tup [encSc c, B true]
theorem c24 (sz : Nat) (nil : Bool) (tip : Tip) (cs : List Sc) (hn : cs.length ≤ 1099511627776) (s : ByteArray) (H : Heap) (Q : Post) (hq : ∀ H', HExt H H' → Q (foundSc (findSc s cs)) H') : E 24 [encScs sz nil tip cs, S s] H Q := by
  have x0 : ∀ x y, extractA (.tup [x, y]) 0 = some x := fun _ _ => rfl
  have x1 : ∀ x y, extractA (.tup [x, y]) 1 = some y := fun _ _ => rfl
  rw [f24_eq, f33_eq, sz1_S, ob_some]
  intro b hb
  simp only [Pt_def]
  have he : HExt H (H.setObj b (.cells [S s])) := (HExt.refl H).setObj hb _
  have hb' := setObj_same H b (.cells [S s])
  generalize H.setObj b (.cells [S s]) = H1 at he hb' ⊢
  rw [f46_eq, lenSc, ob_some]
  refine c46w s b H1 hb' sz nil tip cs hn _ cs [] rfl (fun h => ?_) (fun p c t e h => ?_)
  · rw [max_I, ob_some, i_geq, ob_some, x0, ob_some, x1, ob_some, not_B, ob_some]
    refine cnd_intro (fun _ => ?_) (fun a => absurd a (by decide))
    have hb : bldA [] [S e0, .sl 0 true .full []] = some (encSc emptySc) := rfl
    show ob (bldA [] [S e0, .sl 0 true .full []]) _
    rw [hb, ob_some, szSc, ob_some]
    show ob (spliceA 0 (scC emptySc) [S e0, .sl 0 true .full []]) _
    rw [splSc, ob_some, partSc, ob_some]
    have := hq H1 he
    rw [findSc, h] at this
    exact this
  · rw [max_I, ob_some, i_geq, ob_some, x0, ob_some, x1, ob_some, not_B, ob_some]
    refine cnd_intro (fun a => by simp at a) (fun a => ?_)
    have hm : max (((([] : List Sc) ++ p).length : Nat) : Int) 0 = (p.length : Int) := by simp
    rw [hm, ixSc cs sz nil tip p t c e, ob_some, partSc, ob_some, szSc, ob_some]
    show ob (spliceA 0 (scC c) [S e0, .sl 0 true .full []]) _
    rw [splSc, ob_some, partSc, ob_some]
    have := hq H1 he
    rw [findSc, h] at this
    exact this
/-! ### May an event be -/
def fitsL : List Vl → List Fd → Bool
  | v :: vs, f :: fs => fitsP v f.k && fitsL vs fs
  | _, _ => true
def chkE (cs : List Sc) (e : En) : Int :=
  match findSc e.ty cs with
  | none => 6
  | some c => if e.time < 0 then 1 else if e.vs.length ≠ c.fs.length then 4 else if fitsL e.vs c.fs = true then 0 else 5
theorem c18w (sz : Nat) (nil : Bool) (tip : Tip) (vs : List Vl) (c : Sc) (hlen : vs.length = c.fs.length) (hn : vs.length ≤ 1099511627776) (H : Heap) (Q : Post) :
    ∀ (r pre : List Vl) (fr fpre : List Fd), vs = pre ++ r → c.fs = fpre ++ fr → pre.length = fpre.length → Q (I (if fitsL r fr = true then 0 else 5)) H → f18_l29 (scC c) (encVl sz nil tip vs) (I vs.length) (I pre.length) H Q := by
  intro r
  induction r with
  | nil =>
    intro pre fr fpre e1 e2 e3 hq
    have : (pre.length : Int) = vs.length := by rw [e1]; simp
    rw [f18_l29_eq, i_lss, ob_some, this]
    simp only [Int.lt_irrefl, decide_false, cnd_f]
    have : fr = [] := by
      have h1 := congrArg List.length e1
      have h2 := congrArg List.length e2
      simp at h1 h2
      exact List.eq_nil_of_length_eq_zero (by omega)
    subst this
    exact hq
  | cons v r ih =>
    intro pre fr fpre e1 e2 e3 hq
    have hlt : pre.length < vs.length := by rw [e1]; simp
    have hlt' : decide ((pre.length : Int) < vs.length) = true := by simp; omega
    cases fr with
    | nil =>
      have h1 := congrArg List.length e1
      have h2 := congrArg List.length e2
      simp at h1 h2
      omega
    | cons f fr =>
      have hb : bldA [] [I 0, I 0, S e0] = some (encV nullV) := rfl
      rw [f18_l29_eq, i_lss, ob_some, hlt', cnd_t, ixVl vs sz nil tip pre r v e1, ob_some, part3, ob_some, sz3, ob_some]
      show ob (spliceA 0 [I v.k, I v.n, S v.s] [I 0, I 0, S e0]) _
      rw [spl3, ob_some, part3, ob_some]
      simp only [part_f, List.getElem?_cons_zero, List.getElem?_cons_succ, ob_some]
      have hx := ixF c.fs c.sz c.nil c.tip fpre fr f e2
      rw [← e3] at hx
      rw [hx]
      simp only [ob_some, List.drop_succ_cons, List.drop_zero, List.getElem?_cons_zero]
      rw [c28, not_B, ob_some]
      refine cnd_intro (fun a => ?_) (fun a => ?_)
      · have ha : fitsP v f.k = false := by simpa using a
        rw [fitsL, ha] at hq
        exact hq
      · have ha : fitsP v f.k = true := by simpa using a
        rw [i_add, ob_some, w64_succ hlt (by omega)]
        have := ih (pre ++ [v]) fr (fpre ++ [f]) (by simp [e1]) (by simp [e2]) (by simp [e3]) (by rw [fitsL, ha, Bool.true_and] at hq; exact hq)
        rw [List.length_append, List.length_singleton] at this
        exact this
theorem c18 (sz : Nat) (nil : Bool) (tip : Tip) (cs : List Sc) (hn : cs.length ≤ 1099511627776) (e : En) (hv : e.vs.length ≤ 1099511627776) (H : Heap) (Q : Post) (hq : ∀ H', HExt H H' → Q (I (chkE cs e)) H') : E 18 [encScs sz nil tip cs, encE e] H Q := by
  have x0 : ∀ x y, extractA (.tup [x, y]) 0 = some x := fun _ _ => rfl
  have x1 : ∀ x y, extractA (.tup [x, y]) 1 = some y := fun _ _ => rfl
  rw [f18_eq, szE, ob_some]
  simp only [part_f, List.getElem?_cons_zero, List.getElem?_cons_succ, ob_some]
  refine c24 sz nil tip cs hn e.ty H _ (fun H1 he => ?_)
  have hq1 := hq H1 he
  rw [chkE] at hq1
  cases hf : findSc e.ty cs with
  | none =>
    rw [hf] at hq1
    simp only [foundSc, x0, x1, ob_some, szSc]
    show ob (spliceA 0 (scC emptySc) [S e0, .sl 0 true .full []]) _
    rw [splSc, ob_some, not_B, ob_some]
    exact hq1
  | some c =>
    rw [hf] at hq1
    have hq1 : Q (I (if e.time < 0 then 1 else if e.vs.length ≠ c.fs.length then 4 else if fitsL e.vs c.fs = true then 0 else 5)) H1 := hq1
    simp only [foundSc, x0, x1, ob_some, szSc]
    show ob (spliceA 0 (scC c) [S e0, .sl 0 true .full []]) _
    rw [splSc, ob_some, not_B, ob_some]
    show cndA (B false) _ _
    rw [cnd_f, i_lss, ob_some]
    refine cnd_intro (fun a => ?_) (fun a => ?_)
    · simp only [decide_eq_true_eq] at a
      rw [if_pos a] at hq1; exact hq1
    simp only [decide_eq_false_iff_not] at a
    rw [if_neg a] at hq1
    simp only [lenVl, List.getElem?_cons_zero, List.getElem?_cons_succ, ob_some, lenF, i_neq]
    refine cnd_intro (fun a2 => ?_) (fun a2 => ?_)
    · have : e.vs.length ≠ c.fs.length := by simp at a2; omega
      rw [if_pos this] at hq1; exact hq1
    · have hl : e.vs.length = c.fs.length := by simp at a2; omega
      rw [if_neg (by simp [hl])] at hq1
      exact c18w e.sz e.nil e.tip e.vs c hl hv H1 Q e.vs [] c.fs [] rfl rfl rfl hq1
/-! ### May a stream be -/
def goS (bad : Bool) (cs : List Sc) : List En → Int → Int → Int × Int
  | [], _, i => (i, 0)
  | e :: r, last, i => if bad = true then (i, 1) else if chkE cs e ≠ 0 then (i, chkE cs e) else if e.time < last then (i, 11) else goS bad cs r e.time (i + 1)
def streamP (cs : List Sc) (es : List En) : Int × Int := if 4096 < es.length then (0, 2) else goS (decide (bookP cs ≠ 0)) cs es 0 0
def encSt (p : Int × Int) : AV := .tup [I p.1, I p.2]
theorem c10w (H0 : Heap) (sz1 : Nat) (nil1 : Bool) (tip1 : Tip) (cs : List Sc) (hn : cs.length ≤ 1099511627776) (sz : Nat) (nil : Bool) (tip : Tip) (es : List En) (hes : es.length ≤ 4096) (hv : ∀ e ∈ es, e.vs.length ≤ 1099511627776) (bad : Bool) (Q : Post) :
    ∀ (r pre : List En) (last : Int) (H : Heap), es = pre ++ r → HExt H0 H → (∀ H', HExt H0 H' → Q (encSt (goS bad cs r last pre.length)) H') →
    f10_l20 (encScs sz1 nil1 tip1 cs) (encEs sz nil tip es) (B bad) (.fn (.func 18) [] []) (I last) (encEs sz nil tip es) (I es.length) (I pre.length) H Q := by
  intro r
  induction r with
  | nil =>
    intro pre last H e he hq
    have : (pre.length : Int) = es.length := by rw [e]; simp
    rw [f10_l20_eq, i_lss, ob_some, this]
    simp only [Int.lt_irrefl, decide_false, cnd_f, lenE, ob_some]
    have := hq H he
    rw [goS, ‹(pre.length : Int) = _›] at this
    exact this
  | cons x r ih =>
    intro pre last H e he hq
    have hlt : pre.length < es.length := by rw [e]; simp
    have hlt' : decide ((pre.length : Int) < es.length) = true := by simp; omega
    rw [f10_l20_eq, i_lss, ob_some, hlt', cnd_t, ixE es sz nil tip pre r x e, ob_some, partE, ob_some, szE, ob_some]
    show ob (spliceA 0 (enC x) [S e0, I 0, .sl 0 true .full []]) _
    rw [splE, ob_some, not_B, ob_some]
    have hj : ∀ (code : Int) (H' : Heap), HExt H0 H' → (∀ H', HExt H0 H' → Q (encSt (if code ≠ 0 then ((pre.length : Int), code) else if x.time < last then ((pre.length : Int), 11) else goS bad cs r x.time (pre.length + 1))) H') →
        f10_j39 (encScs sz1 nil1 tip1 cs) (encEs sz nil tip es) (B bad) (.fn (.func 18) [] []) (I last) (I pre.length) (enC x) (I code) (encEs sz nil tip es) (I es.length) (I pre.length) H' Q := by
      intro code H' he' hq'
      rw [f10_j39_eq, i_neq, ob_some]
      refine cnd_intro (fun a => ?_) (fun a => ?_)
      · have := hq' H' he'
        rw [if_pos (by simpa using a)] at this
        exact this
      simp only [part_f, List.getElem?_cons_zero, List.getElem?_cons_succ, ob_some, i_lss]
      have hc : ¬ code ≠ 0 := by simpa using a
      refine cnd_intro (fun a2 => ?_) (fun a2 => ?_)
      · have := hq' H' he'
        rw [if_neg hc, if_pos (by simpa using a2)] at this
        exact this
      · rw [i_add, ob_some, w64_succ hlt (by omega)]
        have := ih (pre ++ [x]) x.time H' (by simp [e]) he' (fun H'' he'' => by
          have := hq' H'' he''
          rw [if_neg hc, if_neg (by simpa using a2)] at this
          simpa using this)
        rw [List.length_append, List.length_singleton] at this
        exact this
    cases bad with
    | true =>
      show cndA (B false) _ _
      rw [cnd_f]
      refine hj 1 H he (fun H' he' => ?_)
      have := hq H' he'
      rw [goS, if_pos rfl] at this
      exact this
    | false =>
      show cndA (B true) _ _
      rw [cnd_t, partE, ob_some]
      show E 18 [encScs sz1 nil1 tip1 cs, encE x] H _
      refine c18 sz1 nil1 tip1 cs hn x (hv x (by rw [e]; simp)) H _ (fun H1 he1 => ?_)
      refine hj (chkE cs x) H1 (he.trans he1) (fun H' he' => ?_)
      have := hq H' he'
      rw [goS, if_neg (by simp)] at this
      exact this
theorem c10 (sz1 : Nat) (nil1 : Bool) (tip1 : Tip) (cs : List Sc) (hok : ∀ c ∈ cs, okSc c) (hn : cs.length ≤ 1099511627776) (sz : Nat) (nil : Bool) (tip : Tip) (es : List En) (hv : ∀ e ∈ es, e.vs.length ≤ 1099511627776) (H : Heap) (Q : Post)
    (hq : ∀ H', HExt H H' → Q (encSt (streamP cs es)) H') : E 10 [encScs sz1 nil1 tip1 cs, encEs sz nil tip es] H Q := by
  rw [f10_eq, lenE, ob_some, i_gtr, ob_some]
  refine cnd_intro (fun a => ?_) (fun a => ?_)
  · have := hq H (HExt.refl H)
    rw [streamP, if_pos (by simp at a; omega)] at this; exact this
  · have hes : ¬ 4096 < es.length := by simp at a; omega
    refine c17 sz1 nil1 tip1 cs hok H _ (fun H1 he => ?_)
    simp only [i_neq, ob_some, lenE]
    refine c10w H sz1 nil1 tip1 cs hn sz nil tip es (by omega) hv _ _ es [] 0 H1 rfl he (fun H' he' => ?_)
    have := hq H' he'
    rw [streamP, if_neg hes] at this
    have hb : (!decide (bookP cs = 0)) = decide (bookP cs ≠ 0) := by simp
    rw [hb]
    exact this
/-! ### The awake schemas -/
theorem c35 (f : Fd) (s : ByteArray) (b : Nat) (H : Heap) (Q : Post) (hb : H.objs b = some (.cells [S s])) : E 35 [encF f, Pt b] H Q = Q (B (decide (f.name = s))) H := by
  rw [f35_eq, szF, ob_some]
  simp only [part_f, List.getElem?_cons_zero, ob_some, ld_Pt hb, s_eql]
abbrev sA : ByteArray := ⟨#[97]⟩
abbrev sX : ByteArray := ⟨#[120]⟩
theorem c9 (H : Heap) (Q : Post) (hq : ∀ H', HExt H H' → Q (B true) H') : E 9 [] H Q := by
  have x0 : ∀ x y, extractA (.tup [x, y]) 0 = some x := fun _ _ => rfl
  have x1 : ∀ x y, extractA (.tup [x, y]) 1 = some y := fun _ _ => rfl
  have x20 : ∀ x y z, extractA (.tup [x, y, z]) 0 = some x := fun _ _ _ => rfl
  have x21 : ∀ x y z, extractA (.tup [x, y, z]) 1 = some y := fun _ _ _ => rfl
  have x22 : ∀ x y z, extractA (.tup [x, y, z]) 2 = some z := fun _ _ _ => rfl
  have h1 : bldA [(0, 1, S sX), (1, 1, I 2)] [S e0, I 0] = some (encF ⟨sX, 2⟩) := rfl
  have h2 : mkSlA 2 [encF ⟨sX, 2⟩] = some (encFs 2 false .full [⟨sX, 2⟩]) := rfl
  have h3 : bldA [(0, 1, S sA), (1, 1, encFs 2 false .full [⟨sX, 2⟩])] [S e0, .sl 0 true .full []] = some (encSc ⟨sA, 2, false, .full, [⟨sX, 2⟩]⟩) := rfl
  have h4 : mkSlA 2 [encSc ⟨sA, 2, false, .full, [⟨sX, 2⟩]⟩] = some (encScs 2 false .full [⟨sA, 2, false, .full, [⟨sX, 2⟩]⟩]) := rfl
  rw [f9_eq]
  show ob (bldA [(0, 1, S sX), (1, 1, I 2)] [S e0, I 0]) _
  rw [h1, ob_some, h2, ob_some]
  show ob (bldA [(0, 1, S sA), (1, 1, encFs 2 false .full [⟨sX, 2⟩])] [S e0, .sl 0 true .full []]) _
  rw [h3, ob_some, h4, ob_some]
  show E 16 [_, S sA, S sX] H _
  rw [f16_eq]
  refine c24 2 false .full _ (by simp) sA H _ (fun H1 he => ?_)
  have hf : findSc sA [⟨sA, 2, false, .full, [⟨sX, 2⟩]⟩] = some ⟨sA, 2, false, .full, [⟨sX, 2⟩]⟩ := by simp [findSc, isSc]
  rw [hf]
  simp only [foundSc, x0, x1, ob_some, szSc]
  show ob (spliceA 0 (scC _) [S e0, .sl 0 true .full []]) _
  rw [splSc, ob_some, not_B, ob_some]
  show cndA (B false) _ _
  rw [cnd_f, partSc, ob_some, f25_eq, szSc, ob_some, sz1_S, ob_some]
  simp only [part_f, List.getElem?_cons_zero, List.getElem?_cons_succ, ob_some]
  intro b hb
  simp only [Pt_def]
  have he1 : HExt H (H1.setObj b (.cells [S sX])) := he.setObj (he.fresh hb) _
  have hb' := setObj_same H1 b (.cells [S sX])
  generalize H1.setObj b (.cells [S sX]) = H2 at he1 hb' ⊢
  rw [f34_eq, lenF, ob_some, f34_l6_eq]
  simp only [i_lss, ob_some]
  show cndA (B true) _ _
  rw [cnd_t]
  show ob (ixaA 2 (encFs 2 false .full [⟨sX, 2⟩]) (I 0)) _
  have hx : ixaA 2 (encFs 2 false .full [⟨sX, 2⟩]) (I 0) = some [S sX, I 2] := rfl
  rw [hx, ob_some, partF ⟨sX, 2⟩, ob_some]
  show E 35 [encF ⟨sX, 2⟩, Pt b] H2 _
  rw [c35 _ sX b H2 _ hb']
  simp only [decide_true, cnd_t, i_lss, ob_some]
  show cndA (B false) _ _
  rw [cnd_f]
  simp only [ob_some, List.drop_succ_cons, List.drop_zero, List.getElem?_cons_zero, x20, x21, x22]
  exact hq H2 he1
end Go.Hx
