/- EvalSays over the abstract machine, second part. Own work (session 2). -/
import Derived.Test.YthhghcekcgonnaaS3Y1
set_option maxRecDepth 20000
namespace Go.Hx
section
variable (s1 s2 s3 : Nat) (n1 n2 n3 : Bool) (t1 t2 t3 : Tip) (vars fields : List ByteArray) (l : List Vl)
def tabT (vars fields : List ByteArray) (l : List Vl) : Tl := fun v f => tableL v f vars fields l
theorem tab_vr {vars fields : List ByteArray} {l : List Vl} (hl : ∀ v ∈ l, vr v) (v f : ByteArray) : vr (tabT vars fields l v f).1 := by
  rcases tableL_mem v f vars fields l with h | h
  · simp only [tabT, h]; exact vr_null
  · exact hl _ h
theorem c45_l (x : Ex) (H : Heap) (Q : Post) (m1 : vars.length ≤ 1099511627776) (hl : ∀ v ∈ l, vr v) (hok : allX okX x) (hvx : allX vX x) (hr : allR x = true)
    (ih : ∀ y ∈ x.l, ∀ (H1 : Heap) (K : Post), (∀ H', HExt H1 H' → K (encR (sayP (tabT vars fields l) y)) H') → E 45 [encX y, .agg (tabA s1 s2 s3 n1 n2 n3 t1 t2 t3 vars fields l)] H1 K) :
    ∀ (r pre : List Ex) (acc : List Vl) (s : Nat) (nil : Bool) (tip : Tip) (H1 : Heap), x.l = pre ++ r → acc.length = pre.length → HExt H H1 → OwnS H H1 3 acc.length tip → (nil = true ∨ s = 3) → (r = [] → s = 3 ∨ x.l = []) → (∀ v ∈ acc, vr v ∧ rightV v = true) →
    (∀ H', HExt H H' → Q (encR (match saysP (tabT vars fields l) r with | .error e => (nullV, e) | .ok vs => nodeP (tabT vars fields l) x (acc ++ vs))) H') →
    f45_l8 (encC x) (tabA s1 s2 s3 n1 n2 n3 t1 t2 t3 vars fields l) [I 0, I 0, S e0] (.sl s nil tip (acc.map encV)) (I pre.length) H1 Q := by
  have hn : x.l.length ≤ 1099511627776 := ((allX_eq _ _).1 hok).1.1
  have hrx : rightP x = true := by rw [allR_eq, Bool.and_eq_true] at hr; exact hr.1
  intro r
  induction r with
  | nil =>
    intro pre acc s nil tip H1 e hacc he ho hs hs3 hav hq
    have : (pre.length : Int) = x.l.length := by rw [e]; simp
    have hal : acc.length = x.l.length := by rw [e, hacc]; simp
    rw [f45_l8_eq, part_f, p6X, ob_some, lenX, ob_some, i_lss, ob_some, cnd_B, this]
    simp only [Int.lt_irrefl, decide_false, Bool.false_eq_true, if_false, part_f, p0X, p4X, p5X, ob_some, i_eql, i_geq, i_leq, partXV, sz3, spl3, part3, tab_part, bld0, not_B]
    have hq0 := hq H1 he
    simp only [saysP, List.append_nil, nodeP] at hq0
    refine cnd_intro (fun h => ?_) (fun h => cnd_intro (fun h' => ?_) (fun h' => ?_))
    · rw [if_pos (by simpa using h)] at hq0; exact hq0
    · rw [if_neg (by simpa using h), if_pos (by simpa using h')] at hq0
      rw [c22 s1 s2 s3 n1 n2 n3 t1 t2 t3 vars fields l x.var x.fld H1 _ m1, show tableL x.var x.fld vars fields l = tabT vars fields l x.var x.fld from rfl]
      have y0 : ∀ p : Vl × Bool, extractA (encT p) 0 = some (encV p.1) := fun _ => rfl
      have y1 : ∀ p : Vl × Bool, extractA (encT p) 1 = some (B p.2) := fun _ => rfl
      have hvt := tab_vr (vars := vars) (fields := fields) hl x.var x.fld
      simp only [fieldP] at hq0
      generalize tabT vars fields l x.var x.fld = pv at hvt hq0 ⊢
      simp only [y0, y1, ob_some, sz3, spl3, part3, not_B, c67 _ hvt]
      refine cnd_intro (fun g => ?_) (fun g => cnd_intro (fun g' => ?_) (fun g' => ?_))
      · rw [if_pos (by simpa using g)] at hq0; exact hq0
      · rw [if_neg (by simpa using g), if_pos (by simpa using g')] at hq0; exact hq0
      · rw [if_neg (by simpa using g), if_neg (by simpa using g')] at hq0; exact hq0
    have h1 : ¬ x.k = 1 := by simpa using h
    have h2 : ¬ x.k = 2 := by simpa using h'
    rw [if_neg h1, if_neg h2] at hq0
    have hlen := rightP_len hrx h1 h2
    have hs3 : s = 3 := by
      rcases hs3 rfl with h | h
      · exact h
      · rw [h] at hlen; simp at hlen
    subst hs3
    have hv : AV.sl 3 nil tip (acc.map encV) = encVs nil tip acc := rfl
    rw [hv]
    have j68 : ∀ b : Bool, b = decide (9 ≤ x.k ∧ x.k ≤ 14) → ¬ (3 ≤ x.k ∧ x.k ≤ 8) → f45_j68 (encC x) [I 0, I 0, S e0] (encVs nil tip acc) (B b) H1 Q := fun b hb h38 => by
      rw [f45_j68_eq]
      refine cnd_intro (fun g => ?_) (fun g => ?_)
      · have hk : 9 ≤ x.k ∧ x.k ≤ 14 := by rw [hb] at g; simpa using g
        rw [if_neg (by omega), if_neg (by omega)] at hq0
        have hl2 : acc.length = 2 := by omega
        match acc, hl2 with
        | [a, b], _ =>
          have i0 : ixaA 3 (encVs nil tip [a, b]) (I 0) = some [I a.k, I a.n, S a.s] := rfl
          have i1 : ixaA 3 (encVs nil tip [a, b]) (I 1) = some [I b.k, I b.n, S b.s] := rfl
          simp only [part_f, p0X, i0, i1, ob_some, part3, cmp_node, ext0, ext1, sz3, spl3]
          exact hq0
      · have hk : ¬ (9 ≤ x.k ∧ x.k ≤ 14) := by rw [hb] at g; simpa using g
        rw [if_pos (by omega)] at hq0
        simp only [part_f, p0X, ob_some, c70 x.k acc nil tip (by omega) (fun v hv => (hav v hv).2), ext0, ext1, sz3, spl3, part3]
        exact hq0
    have j62 : ∀ b : Bool, b = decide (3 ≤ x.k ∧ x.k ≤ 8) → f45_j62 (encC x) [I 0, I 0, S e0] (encVs nil tip acc) (B b) H1 Q := fun b hb => by
      rw [f45_j62_eq]
      refine cnd_intro (fun g => ?_) (fun g => ?_)
      · have hk : 3 ≤ x.k ∧ x.k ≤ 8 := by rw [hb] at g; simpa using g
        rw [if_neg (by omega), if_pos hk.2] at hq0
        simp only [part_f, p0X, ob_some, c68 x.k acc nil tip (fun e => by subst e; simp at hal; omega) (by omega) (fun v hv => (hav v hv).1), ext0, ext1, sz3, spl3, part3]
        exact hq0
      · have hk : ¬ (3 ≤ x.k ∧ x.k ≤ 8) := by rw [hb] at g; simpa using g
        simp only [part_f, p0X, ob_some, i_geq, i_leq]
        refine cnd_intro (fun g' => j68 _ ?_ hk) (fun g' => j68 _ ?_ hk)
        · have : 9 ≤ x.k := by simpa using g'
          simp [this]
        · have : ¬ 9 ≤ x.k := by simpa using g'
          simp [this]
    refine cnd_intro (fun h => j62 _ ?_) (fun h => j62 _ ?_)
    · have : 3 ≤ x.k := by simpa using h
      simp [this]
    · have : ¬ 3 ≤ x.k := by simpa using h
      simp [this]
  | cons y r ihr =>
    intro pre acc s nil tip H1 e hacc he ho hs hs3 hav hq
    have hlt : pre.length < x.l.length := by rw [e]; simp
    have hlt' : (pre.length : Int) < x.l.length := by omega
    have hy : y ∈ x.l := by rw [e]; simp
    have hry : allR y = true := by rw [allR_eq, Bool.and_eq_true] at hr; exact allRs_mem hr.2 hy
    rw [f45_l8_eq, part_f, p6X, ob_some, lenX, ob_some, i_lss, ob_some, cnd_B, if_pos (by simpa using hlt'), ob_some, ixX x.l x.sz x.nil x.tip pre r y e]
    simp only [ob_some, partX, tab_part]
    refine ih y hy H1 _ (fun H2 he2 => ?_)
    simp only [ext0, ext1, ob_some, sz3, spl3, part3, i_neq, bld0]
    refine cnd_intro (fun h => ?_) (fun h => ?_)
    · have := hq H2 (he.trans he2)
      have h0 : ¬ (sayP (tabT vars fields l) y).2 = 0 := by simpa using h
      simp only [saysP, if_neg h0] at this
      exact this
    · have h0 : (sayP (tabT vars fields l) y).2 = 0 := by simpa using h
      rw [mk1 3 (encV (sayP (tabT vars fields l) y).1) (sz3 _), ob_some]
      have ho2 : OwnS H H2 3 acc.length tip := by
        cases tip with
        | any => exact ho
        | full => trivial
        | tip b => exact ⟨((he2 b (fun hf => by have := ho.1; rw [hf.2] at this; cases this)).2).trans ho.1, ho.2⟩
      refine app_own (H0 := H) _ (he.trans he2) (by simpa using ho2) hs (by omega) (by simp; omega) (fun tip' H3 he3 ho3 => ?_)
      rw [i_add, ob_some, w64_succ hlt (by omega)]
      have := ihr (pre ++ [y]) (acc ++ [(sayP (tabT vars fields l) y).1]) 3 false tip' H3 (by simp [e]) (by simp [hacc]) he3 (by simpa using ho3) (.inr rfl) (fun _ => .inl rfl) (fun v hv => by
        rcases List.mem_append.1 hv with hv | hv
        · exact hav v hv
        · rw [List.mem_singleton.1 hv]
          exact ⟨say_vr _ (tab_vr hl) y (allXs_mem ((allX_eq _ _).1 hvx).2 hy), say_right _ y hry h0⟩) (fun H' hx => by
        have := hq H' hx
        simp only [saysP, if_pos h0] at this
        cases hsr : saysP (tabT vars fields l) r with
        | error e => rw [hsr] at this; exact this
        | ok vs => rw [hsr] at this; simp only [List.append_assoc, List.singleton_append]; exact this)
      rw [List.length_append, List.length_singleton, List.map_append] at this
      exact this
theorem c45 (m1 : vars.length ≤ 1099511627776) (hl : ∀ v ∈ l, vr v) : ∀ (x : Ex), allX okX x → allX vX x → allR x = true → ∀ (H : Heap) (Q : Post), (∀ H', HExt H H' → Q (encR (sayP (tabT vars fields l) x)) H') → E 45 [encX x, .agg (tabA s1 s2 s3 n1 n2 n3 t1 t2 t3 vars fields l)] H Q := by
  intro x
  induction x using Ex.ind with
  | h x ih =>
    intro hok hvx hr H Q hq
    have hr' := hr
    rw [allR_eq, Bool.and_eq_true] at hr'
    rw [f45_eq, szX, ob_some, tab_sz, ob_some]
    refine c45_l s1 s2 s3 n1 n2 n3 t1 t2 t3 vars fields l x H Q m1 hl hok hvx hr (fun y hy H1 K hk => ih y hy (allXs_mem ((allX_eq _ _).1 hok).2 hy) (allXs_mem ((allX_eq _ _).1 hvx).2 hy) (allRs_mem hr'.2 hy) H1 K hk)
      x.l [] [] 0 true .full H rfl rfl (HExt.refl H) trivial (.inl rfl) (fun h => .inr h) (fun v hv => by cases hv) (fun H' he => ?_)
    have := hq H' he
    rw [sayP_eq] at this
    cases hsr : saysP (tabT vars fields l) x.l with
    | error e => rw [hsr] at this; exact this
    | ok vs => rw [hsr] at this; exact this
theorem c21 (m1 : vars.length ≤ 1099511627776) (hl : ∀ v ∈ l, vr v) (x : Ex) (hok : allX okX x) (hvx : allX vX x) (hs : sizeX x ≤ 1048576) (H : Heap) (Q : Post) (hq : ∀ H', HExt H H' → Q (encR (SayP (tabT vars fields l) x)) H') : E 21 [encX x, .agg (tabA s1 s2 s3 n1 n2 n3 t1 t2 t3 vars fields l)] H Q := by
  rw [f21_eq, szX, ob_some, tab_sz, ob_some, partX, ob_some, c39 x hok hvx (by omega)]
  simp only [i_neq, ob_some, bld0, sz3, spl3, part3, tab_part]
  refine cnd_intro (fun h => ?_) (fun h => ?_)
  · have h0 : ¬ checkP x = 0 := by simpa using h
    have := hq H (HExt.refl H)
    simp only [SayP, if_neg h0] at this
    exact this
  · have h0 : checkP x = 0 := by simpa using h
    refine c45 s1 s2 s3 n1 n2 n3 t1 t2 t3 vars fields l m1 hl x hok hvx (checkP_all h0) H _ (fun H2 he2 => ?_)
    simp only [ext0, ext1, ob_some, sz3, spl3, part3]
    have := hq H2 he2
    simp only [SayP, if_pos h0] at this
    exact this
theorem c24 (m1 : vars.length ≤ 1099511627776) (hl : ∀ v ∈ l, vr v) (x : Ex) (hok : allX okX x) (hvx : allX vX x) (hs : sizeX x ≤ 1048576) (H : Heap) (Q : Post) (hq : ∀ H', HExt H H' → Q (B (HoldsP (tabT vars fields l) x)) H') : E 24 [encX x, .agg (tabA s1 s2 s3 n1 n2 n3 t1 t2 t3 vars fields l)] H Q := by
  rw [f24_eq, szX, ob_some, tab_sz, ob_some, partX, ob_some, tab_part, ob_some]
  refine c21 s1 s2 s3 n1 n2 n3 t1 t2 t3 vars fields l m1 hl x hok hvx hs H _ (fun H1 he => ?_)
  simp only [ext0, ext1, ob_some, sz3, spl3, part3, i_eql, c47, v_eql, f24_j6_eq]
  have := hq H1 he
  simp only [HoldsP] at this
  refine cnd_intro (fun h => ?_) (fun h => ?_)
  · rw [h, Bool.true_and] at this; exact this
  · rw [h, Bool.false_and] at this; exact this
theorem c20nil (x : Ex) (hok : allX okX x) (H : Heap) (Q : Post) (hq : ∀ H', HExt H H' → Q (encR (nullV, 1)) H') : E 20 [encX x, .raw .nilFunc] H Q := by
  have fn0 : binA Pg .eql 52 true (.raw .nilFunc) (.raw .nilFunc) = some (B true) := by kernel_rfl
  rw [f20_eq, szX, ob_some, partX, ob_some]
  refine c28 x hok H _ (fun H1 he => ?_)
  simp only [i_neq, ob_some, fn0, f20_j5_eq, c43, sz3, spl3, part3, cnd_t]
  exact cnd_intro (fun _ => hq H1 he) (fun _ => hq H1 he)
theorem cEvalSays (x : Ex) (hok : allX okX x) (hvx : allX vX x) (hs : sizeX x ≤ 1048576) (hl : ∀ v ∈ l, vr v) (h1 : n1 = true → vars = []) (h2 : n2 = true → fields = []) (h3 : n3 = true → l = [])
    (k1 : n1 = true ∨ s1 = 1) (k2 : n2 = true ∨ s2 = 1) (k3 : n3 = true ∨ s3 = 3) (m1 : vars.length ≤ 1099511627776) (m2 : fields.length ≤ 1099511627776) (m3 : l.length ≤ 1099511627776) (v f : ByteArray) (H : Heap) (Q : Post) (hq : ∀ H', Q (B true) H') :
    E 5 [encX x, .sl s1 n1 t1 (vars.map S), .sl s2 n2 t2 (fields.map S), .sl s3 n3 t3 (l.map encV), S v, S f] H Q := by
  have hb : bldA [(0, 1, AV.sl s1 n1 t1 (vars.map S)), (1, 1, AV.sl s2 n2 t2 (fields.map S)), (2, 1, AV.sl s3 n3 t3 (l.map encV))] [.sl 0 true .full [], .sl 0 true .full [], .sl 0 true .full []] = some (.agg (tabA s1 s2 s3 n1 n2 n3 t1 t2 t3 vars fields l)) := rfl
  have hsp : spliceA 0 (tabA s1 s2 s3 n1 n2 n3 t1 t2 t3 vars fields l) [.sl 0 true .full [], .sl 0 true .full [], .sl 0 true .full []] = some (tabA s1 s2 s3 n1 n2 n3 t1 t2 t3 vars fields l) := rfl
  rw [f5_eq, szX, ob_some, hb, ob_some, tab_sz, ob_some, hsp, ob_some]
  refine c19 s1 s2 s3 n1 n2 n3 t1 t2 t3 vars fields l h1 h2 h3 k1 k2 k3 m1 m2 m3 H _ (fun b1 b2 b3 H1 e1 ht => ?_)
  rw [fn_nil, ob_some, cnd_f, partX, ob_some]
  have ht : Tells H1 (.fn (.func 42) [] [Pt b1, Pt b2, Pt b3]) (tabT vars fields l) := ht
  refine c20 _ 42 _ x hok H1 _ ht (fun H2 e2 => ?_)
  simp only [ext0, ext1, ob_some, sz3, spl3, partX, tab_part]
  refine c21 s1 s2 s3 n1 n2 n3 t1 t2 t3 vars fields l m1 hl x hok hvx hs H2 _ (fun H3 e3 => ?_)
  simp only [ext0, ext1, ob_some, sz3, spl3]
  refine ht v f H3 _ (e2.trans e3) ?_
  have y0 : ∀ x y, extractA (.tup [x, y]) 0 = some x := fun _ _ => rfl
  have y1 : ∀ x y, extractA (.tup [x, y]) 1 = some y := fun _ _ => rfl
  have z0 : ∀ p : Vl × Bool, extractA (encT p) 0 = some (encV p.1) := fun _ => rfl
  have z1 : ∀ p : Vl × Bool, extractA (encT p) 1 = some (B p.2) := fun _ => rfl
  simp only [y0, y1, ob_some, sz3, spl3, tab_part]
  rw [c22 s1 s2 s3 n1 n2 n3 t1 t2 t3 vars fields l v f H3 _ m1]
  simp only [z0, z1, ob_some, sz3, spl3, partX]
  refine c20nil x hok H3 _ (fun H4 e4 => ?_)
  simp only [ext0, ext1, ob_some, sz3, spl3, part3, v_eql, i_eql, decide_true, cnd_t, f5_c10_8a_eq, partX, tab_part]
  refine c23 _ 42 _ x hok H4 _ (ht.ext ((e2.trans e3).trans e4)) (fun H5 e5 => ?_)
  refine c24 s1 s2 s3 n1 n2 n3 t1 t2 t3 vars fields l m1 hl x hok hvx hs H5 _ (fun H6 e6 => ?_)
  simp only [b_eql 4 false u4, ob_some, BEq.rfl, cnd_t, f5_c10_17a_eq, part3, v_eql, tabT, decide_true, f5_c10_22a_eq, f5_c10_27a_eq, i_eql, f5_c10_31a_eq, f5_c10_34a_eq, f5_j26_eq]
  exact c25 H6 _ (fun H' _ => hq H')
end
/-! ### What came in, in range -/
theorem wf_rng {n : Int} (h : (Lit.int .i64 n).wf = true) : rng n := by
  have : -9223372036854775808 ≤ n ∧ n ≤ 9223372036854775807 := by simpa [Lit.wf, IntKind.min, IntKind.max, IntKind.signed, IntKind.bits] using h
  exact this
theorem map_of2 {α : Type} {f : α → AV} {p : α → Prop} : ∀ (xs : List AV), (∀ x ∈ xs, ∃ y, x = f y ∧ p y) → ∃ l : List α, xs = l.map f ∧ ∀ y ∈ l, p y
  | [], _ => ⟨[], rfl, fun _ h => by cases h⟩
  | x :: xs, h => by
    obtain ⟨y, rfl, hy⟩ := h x (by simp)
    obtain ⟨l, rfl, hl⟩ := map_of2 xs (fun z hz => h z (by simp [hz]))
    exact ⟨y :: l, rfl, fun z hz => by
      rcases List.mem_cons.1 hz with rfl | hz
      · exact hy
      · exact hl z hz⟩
theorem has_Vs2 {n : Nat} {cs : List AV} (h : HasT Pg n 49 cs) : ∃ nil tip l, cs = [.sl 3 nil tip (l.map encV)] ∧ (nil = true → l = []) ∧ ∀ v ∈ l, vr v := by
  cases n with
  | zero => exact h.elim
  | succ n =>
    have e : HasT Pg (n + 1) 49 cs = (cs = [.sl 3 true .full []] ∨ ∃ xs : List AV, cs = [.sl 3 false .any xs] ∧ ∀ x ∈ xs, ∃ c, x = packA Pg 23 c ∧ HasT Pg n 23 c) := by kernel_rfl
    rw [e] at h
    rcases h with rfl | ⟨xs, rfl, h⟩
    · exact ⟨true, .full, [], rfl, fun _ => rfl, fun _ h => by cases h⟩
    · obtain ⟨l, rfl, hl⟩ := map_of2 (f := encV) (p := vr) xs (fun x hx => by
        obtain ⟨c, rfl, hc⟩ := h x hx
        obtain ⟨v, rfl, _, hw⟩ := has_V hc
        exact ⟨v, by kernel_rfl, wf_rng hw⟩)
      exact ⟨false, .any, l, rfl, fun h => (by cases h), hl⟩
theorem allXs_of {p : Ex → Prop} : ∀ {l : List Ex}, (∀ y ∈ l, allX p y) → allXs p l
  | [], _ => trivial
  | y :: r, h => ⟨h y (by simp), allXs_of (fun z hz => h z (by simp [hz]))⟩
theorem has_X2 : ∀ (n : Nat) {cs : List AV}, HasT Pg n 26 cs → ∃ x : Ex, cs = encC x ∧ allX vX x := by
  intro n
  induction n using Nat.strongRecOn with
  | _ n ih =>
    intro cs h
    cases n with
    | zero => exact h.elim
    | succ n =>
      have h := h.str
      have e : StrT Pg n 26 cs = (cs.length = 7 ∧ (HasT Pg n 3 ((cs.drop 0).take 1) ∧ (HasT Pg n 23 ((cs.drop 1).take 3) ∧ (HasT Pg n 9 ((cs.drop 4).take 1) ∧ (HasT Pg n 9 ((cs.drop 5).take 1) ∧ (HasT Pg n 24 ((cs.drop 6).take 1) ∧ True)))))) := by kernel_rfl
      rw [e] at h
      obtain ⟨hl, h1, h2, h3, h4, h5, _⟩ := h
      match cs, hl with
      | [a, b, c, d, e, f, g], _ =>
        obtain ⟨i, hi, wi⟩ := has_int 3 (.inl rfl) h1
        obtain ⟨v, hv, _, wv⟩ := has_V h2
        obtain ⟨s, hs⟩ := has_S h3
        obtain ⟨s', hs'⟩ := has_S h4
        simp at hi hv hs hs' h5
        obtain ⟨rfl, rfl, rfl⟩ := hv
        subst hi hs hs'
        cases n with
        | zero => exact h5.elim
        | succ m =>
          have e : HasT Pg (m + 1) 24 [g] = ([g] = [AV.sl 7 true .full []] ∨ ∃ xs : List AV, [g] = [AV.sl 7 false .any xs] ∧ ∀ x ∈ xs, ∃ c, x = packA Pg 26 c ∧ HasT Pg m 26 c) := by kernel_rfl
          rw [e] at h5
          rcases h5 with hg | ⟨xs, hg, hall⟩
          · simp at hg; subst hg
            exact ⟨.mk i v s s' 7 true .full [], by simp [encC, encCs], by rw [allX_eq]; exact ⟨wf_rng wv, trivial⟩⟩
          · simp at hg; subst hg
            obtain ⟨l, rfl, hlv⟩ := map_of2 (f := encX) (p := allX vX) xs (fun x hx => by
              obtain ⟨c, rfl, hc⟩ := hall x hx
              obtain ⟨y, rfl, hy⟩ := ih m (by omega) hc
              exact ⟨y, by kernel_rfl, hy⟩)
            exact ⟨.mk i v s s' 7 false .any l, by simp [encC, encCs_map], by rw [allX_eq]; exact ⟨wf_rng wv, allXs_of hlv⟩⟩
end Go.Hx
