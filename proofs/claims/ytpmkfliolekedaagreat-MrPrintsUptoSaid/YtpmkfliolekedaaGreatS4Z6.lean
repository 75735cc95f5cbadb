/- Contracts of layer 21: Print, Says; the statement's walk. Own work. -/
import Derived.Test.YtpmkfliolekedaaGreatS4Z5
set_option maxRecDepth 20000
namespace Go.Hx
def sASb : List UInt8 := [32, 65, 83, 32]
def defT (u : Us) : List UInt8 := tx u.var ++ (sASb ++ tx u.typ)
def defsT (us : List Us) : List UInt8 := catL [44, 32] (us.map defT)
def smallU (u : Us) : Prop := (tx u.var).length ≤ 32 ∧ (tx u.typ).length ≤ 32
theorem defR_len : ∀ (us : List Us), (∀ u ∈ us, smallU u) → (catR [44, 32] (us.map defT)).length ≤ 70 * us.length := by
  intro us
  induction us with
  | nil => intro _; simp [catR]
  | cons u r ih =>
    intro h
    have h1 := h u (by simp)
    have h2 := ih (fun z hz => h z (by simp [hz]))
    simp only [List.map_cons, catR, defT, sASb, List.length_append, List.length_cons, List.length_nil, smallU] at h1 ⊢; omega
theorem defs_len (us : List Us) (h : ∀ u ∈ us, smallU u) : (defsT us).length ≤ 70 * us.length := by
  cases us with
  | nil => simp [defsT, catL]
  | cons u r =>
    have h1 := h u (by simp)
    have h2 := defR_len r (fun z hz => h z (by simp [hz]))
    simp only [defsT, List.map_cons, catL, defT, sASb, List.length_append, List.length_cons, List.length_nil, smallU] at h1 ⊢; omega
theorem uses_small (x : Pa) (h : allRT x = true) : ∀ u ∈ usesT x, smallU u := by
  induction x using Pa.ind with
  | h x ih =>
    have h' := h
    rw [allRT_eq, Bool.and_eq_true] at h'
    intro u hu
    rw [usesT_eq] at hu
    rcases List.mem_append.1 hu with hu | hu
    · by_cases hl : isLeafT x.k = true
      · rw [if_pos hl] at hu
        simp only [List.mem_singleton] at hu
        have hk : x.k ≠ 2 ∧ x.k ≠ 3 ∧ x.k ≠ 4 := by
          simp only [isLeafT, Bool.or_eq_true, decide_eq_true_eq] at hl; omega
        have hn := fine_name h hk
        rw [hu]
        exact ⟨name_len hn.1, name_len hn.2⟩
      · rw [if_neg hl] at hu; cases hu
    · have : ∀ r : List Pa, (∀ y ∈ r, y ∈ x.l) → ∀ u ∈ usesTs r, smallU u := by
        intro r
        induction r with
        | nil => intro _ u hu; cases hu
        | cons y r ihr =>
          intro hm u hu
          simp only [usesTs] at hu
          rcases List.mem_append.1 hu with hu | hu
          · exact ih y (hm y (by simp)) (allRTs_mem h'.2 (hm y (by simp))) u hu
          · exact ihr (fun z hz => hm z (by simp [hz])) u hu
      exact this x.l (fun _ h => h) u hu
theorem fold_mem : ∀ (us s : List Us) (u : Us), u ∈ us.foldl addV s → u ∈ s ∨ u ∈ us := by
  intro us
  induction us with
  | nil => intro s u h; exact .inl h
  | cons w r ih =>
    intro s u h
    rcases ih _ u h with h1 | h1
    · simp only [addV] at h1
      split at h1
      · exact .inl h1
      · rcases List.mem_append.1 h1 with h2 | h2
        · exact .inl h2
        · simp only [List.mem_singleton] at h2; exact .inr (by simp [h2])
    · exact .inr (by simp [h1])
theorem vars_small (x : Pa) (h : allRT x = true) : ∀ u ∈ varsOf x, smallU u := fun u hu => by
  rcases fold_mem _ _ u hu with h1 | h1
  · cases h1
  · exact uses_small x h u h1
theorem vars_len (x : Pa) : (varsOf x).length ≤ sizeT x := by
  have h1 := fold_len (usesT x) []
  have h2 := uses_len x
  simp only [List.length_nil] at h1
  simp only [varsOf]; omega
theorem lenVA (z : SlS) (s : List Us) : lenA (slA z (vA s)) = some (I s.length) := by simp [slA, len_sl, vA]
theorem lenTA (z : SlS) (s : List Us) : lenA (slA z (tA s)) = some (I s.length) := by simp [slA, len_sl, tA]
theorem ixVA (z : SlS) (s pre r : List Us) (u : Us) (e : s = pre ++ u :: r) : ixaA 1 (slA z (vA s)) (I pre.length) = some [S u.var] := ix_mk 1 z.n z.t _ pre.length (x := S u.var) (by rw [e]; exact get_mid (fun u : Us => S u.var) pre r u) rfl
theorem ixTA (z : SlS) (s pre r : List Us) (u : Us) (e : s = pre ++ u :: r) : ixaA 1 (slA z (tA s)) (I pre.length) = some [S u.typ] := ix_mk 1 z.n z.t _ pre.length (x := S u.typ) (by rw [e]; exact get_mid (fun u : Us => S u.typ) pre r u) rfl
theorem c50 (x : Pa) (hok : allT okT x) (hr : allRT x = true) (hsz : sizeT x ≤ 64) (b : Nat) (H0 H : Heap) (t : List UInt8) (Q : Post) (h : Bld H0 b t H) (hl : t.length + 10000 ≤ 140737488355328) (hq : ∀ H', Bld H0 b (t ++ defsT (varsOf x)) H' → Q (.tup []) H') : E 50 [Pt b, encT x] H Q := by
  have hvl := vars_len x
  have hsm := vars_small x hr
  rw [f50_eq, szT, ob_some, partT, ob_some]
  refine c78 x hok (by omega) H _ (fun V T K H1 e1 => ?_)
  generalize hs : varsOf x = s at hvl hsm hq ⊢
  have x0 : ∀ a b c : AV, extractA (.tup [a, b, c]) 0 = some a := fun _ _ _ => rfl
  have x1 : ∀ a b c : AV, extractA (.tup [a, b, c]) 1 = some b := fun _ _ _ => rfl
  have x2 : ∀ a b c : AV, extractA (.tup [a, b, c]) 2 = some c := fun _ _ _ => rfl
  rw [x0, ob_some, x1, ob_some, x2, ob_some, lenVA, ob_some]
  have j24 : ∀ (u : Us) (pre r : List Us), s = pre ++ u :: r → ∀ (t : List UInt8) (H : Heap), Bld H0 b t H → t.length + 100 ≤ 140737488355328 → (∀ H', Bld H0 b (t ++ defT u) H' → f50_l7 (Pt b) (slA V (vA s)) (slA T (tA s)) (I s.length) (I ((pre.length + 1 : Nat) : Int)) H' Q) →
      f50_j24 (Pt b) (slA V (vA s)) (slA T (tA s)) (I pre.length) (I s.length) (I pre.length) H Q := fun u pre r e t H h hl hk => by
    have hlt : pre.length < s.length := by rw [e]; simp
    have hu := hsm u (by rw [e]; simp)
    have h4 : sASb.length = 4 := rfl
    rw [f50_j24_eq, nil_Pt, ob_some, add0_Pt, ob_some, ixVA V s pre r u e, ob_some, part_f, List.getElem?_cons_zero, ob_some, ixTA T s pre r u e, ob_some, part_f, List.getElem?_cons_zero, ob_some]
    refine put3 u.var ⟨#[32, 65, 83, 32]⟩ u.typ b H0 H t _ h (by
      have : tx ⟨#[32, 65, 83, 32]⟩ = sASb := rfl
      rw [this]; simp only [List.length_append, h4]; have := hu.1; have := hu.2; omega) (fun H2 h2 => ?_)
    rw [i_add, ob_some, w64_succ hlt (by omega)]
    exact hk H2 h2
  have loop : ∀ (r pre : List Us) (t : List UInt8) (H : Heap), s = pre ++ r → pre ≠ [] → Bld H0 b t H → t.length + 100 * r.length + 100 ≤ 140737488355328 → (∀ H', Bld H0 b (t ++ catR [44, 32] (r.map defT)) H' → Q (.tup []) H') →
      f50_l7 (Pt b) (slA V (vA s)) (slA T (tA s)) (I s.length) (I pre.length) H Q := by
    intro r
    induction r with
    | nil =>
      intro pre t H e _ h hl hq
      have h1 : (pre.length : Int) = s.length := by rw [e]; simp
      rw [f50_l7_eq, i_lss, ob_some, cnd_B, h1]
      simp only [Int.lt_irrefl, decide_false, Bool.false_eq_true, if_false]
      exact hq H (by simpa [catR] using h)
    | cons u r ih =>
      intro pre t H e hne h hl hq
      have hlt : pre.length < s.length := by rw [e]; simp
      have hlt' : (pre.length : Int) < s.length := by omega
      have hp0 : 0 < pre.length := List.length_pos_iff.2 hne
      have hgt : decide ((0 : Int) < (pre.length : Int)) = true := by simp; omega
      have hu := hsm u (by rw [e]; simp)
      have hdl : (defT u).length ≤ 68 := by
        have h1 := hu.1; have h2 := hu.2
        simp only [defT, sASb, List.length_append, List.length_cons, List.length_nil]; omega
      simp only [List.length_cons] at hl
      simp only [List.map_cons, catR] at hq
      rw [f50_l7_eq, i_lss, ob_some, cnd_B, if_pos (by simpa using hlt'), i_gtr, ob_some, hgt, cnd_t, nil_Pt, ob_some, add0_Pt, ob_some]
      refine put1 [44, 32] b H0 H t _ h (by simp only [List.length_cons, List.length_nil]; omega) (fun H1 h1 => ?_)
      refine j24 u pre r e _ H1 h1 (by simp only [List.length_append, List.length_cons, List.length_nil]; omega) (fun H2 h2 => ?_)
      have := ih (pre ++ [u]) _ H2 (by simp [e]) (by simp) h2 (by simp only [List.length_append, List.length_cons, List.length_nil]; omega) (fun H' h' => hq H' (by simpa using h'))
      rw [List.length_append, List.length_singleton] at this
      exact this
  have hB := h.mono e1
  cases hc : s with
  | nil =>
    rw [hc] at hq
    rw [f50_l7_eq, i_lss, ob_some, cnd_B]
    simp only [List.length_nil, Int.natCast_zero, Int.lt_irrefl, decide_false, Bool.false_eq_true, if_false]
    exact hq H1 (by simpa [defsT, catL] using hB)
  | cons u r =>
    rw [← hc]
    have hlt : 0 < s.length := by rw [hc]; simp
    have hlt' : (0 : Int) < s.length := by omega
    have hll : s.length = r.length + 1 := by rw [hc]; rfl
    have hu := hsm u (by rw [hc]; simp)
    have hdl : (defT u).length ≤ 68 := by
      have h1 := hu.1; have h2 := hu.2
      simp only [defT, sASb, List.length_append, List.length_cons, List.length_nil]; omega
    rw [hc] at hq
    simp only [defsT, List.map_cons, catL] at hq
    have h00 : decide ((0 : Int) < 0) = false := rfl
    rw [f50_l7_eq, i_lss, ob_some, cnd_B, if_pos (by simpa using hlt'), i_gtr, ob_some, h00, cnd_f]
    refine j24 u [] r hc t H1 hB (by omega) (fun H2 h2 => ?_)
    exact loop r [u] _ H2 (by simp [hc]) (by simp) h2 (by simp only [List.length_append]; omega) (fun H' h' => hq H' (by simpa using h'))
/-! ### Says -/
def plainM (q : Qu) : Bool := !lackT q.p && !decide (q.mode = 0)
theorem c48 (q : Qu) (hok : OkQ q) (H : Heap) (Q : Post) (hq : ∀ H', HExt H H' → Q (B (plainM q)) H') : E 48 [encQ q] H Q := by
  rw [f48_eq, szQ, ob_some, partQT, ob_some]
  refine c76 q.p hok.p H _ (fun H1 e1 => ?_)
  have := hq H1 e1
  simp only [plainM] at this
  rw [not_B, ob_some]
  refine cnd_intro (fun g => ?_) (fun g => ?_)
  · rw [part_f, q8, ob_some, i_neq, ob_some, f48_j4_eq]
    rw [g, Bool.true_and] at this; exact this
  · rw [f48_j4_eq]
    rw [g, Bool.false_and] at this; exact this
theorem c21 (q : Qu) (hok : OkQ q) (H : Heap) (Q : Post) (hq : ∀ H', HExt H H' → Q (B (decide (fineP q = 0) && plainM q)) H') : E 21 [encQ q] H Q := by
  rw [f21_eq, szQ, ob_some, partQ, ob_some]
  refine c30 q hok H _ (fun H1 e1 => ?_)
  rw [i_eql, ob_some]
  refine cnd_intro (fun h => ?_) (fun h => ?_)
  · rw [ob_some]
    refine c48 q hok H1 _ (fun H2 e2 => ?_)
    have := hq H2 (e1.trans e2)
    rw [h, Bool.true_and] at this
    rw [f21_j4_eq]; exact this
  · have := hq H1 e1
    rw [h, Bool.false_and] at this
    rw [f21_j4_eq]; exact this
theorem c22 (q : Qu) (hok : OkQ q) (H : Heap) (Q : Post) (hq : ∀ H', HExt H H' → Q (B (decide (fineP q = 0) && plainM q)) H') : E 22 [encQ q] H Q := by
  rw [f22_eq, szQ, ob_some, partQ, ob_some]
  refine c37 q hok H _ (fun H1 e1 => ?_)
  have := hq H1 e1
  simp only [plainM, lack_is] at this
  rw [i_eql, ob_some]
  simp only [partQT, ob_some, c47k 6 q.p hok.p, not_B, c53 q.p hok.p, part_f, q8, i_neq, f22_c1_9a_eq, f22_c1_9b_eq, f22_c1_14a_eq, f22_c1_14b_eq, f22_c1_19a_eq, f22_c1_19b_eq, f22_j4_eq, cnd_B]
  cases hf : decide (fineP q = 0)
  · rw [hf] at this; simpa using this
  · rw [hf] at this
    cases h1 : hasK 6 q.p
    · cases h2 : atomsT q.p
      · rw [h1, h2] at this; simpa using this
      · rw [h1, h2] at this; simpa using this
    · rw [h1] at this; simpa using this
/-! ### Print -/
def sMATCH : List UInt8 := [77, 65, 84, 67, 72, 32, 40]
def sPBY : List UInt8 := [80, 65, 82, 84, 73, 84, 73, 79, 78, 32, 66, 89, 32]
def sMEAS : List UInt8 := [77, 69, 65, 83, 85, 82, 69, 83, 32]
def sRNEAR : List UInt8 := [82, 79, 87, 83, 32, 78, 69, 65, 82]
def sRSTR : List UInt8 := [82, 79, 87, 83, 32, 83, 84, 82, 73, 67, 84]
def sPATP : List UInt8 := [32, 80, 65, 84, 84, 69, 82, 78, 32, 40]
def sDEF : List UInt8 := [32, 68, 69, 70, 73, 78, 69, 32]
def keyM (k : ByteArray) : List UInt8 := if k = e0 then [] else sPBY ++ (tx k ++ [32])
def measM (l : List It) : List UInt8 := if l.length = 0 then [] else sMEAS ++ (itemsT l ++ [32])
def rowsM (m : Int) : List UInt8 := if m = 1 then sRNEAR else sRSTR
def tailM (q : Qu) : List UInt8 := sPATP ++ (mrT q.p false ++ ([41] ++ (withinT q.within ++ (sDEF ++ (defsT (varsOf q.p) ++ (whereT q.ws ++ [41]))))))
def textM (q : Qu) : List UInt8 := sMATCH ++ (keyM q.key ++ (measM q.its ++ (rowsM q.mode ++ tailM q)))
def printM (q : Qu) : AV := if fineP q ≠ 0 then .tup [S e0, I (fineP q)] else if plainM q = false then .tup [S e0, I 12] else .tup [strT (textM q), I 0]
theorem c19 (q : Qu) (hok : OkQ q) (H : Heap) (Q : Post) (hq : ∀ H', HExt H H' → Q (printM q) H') : E 19 [encQ q] H Q := by
  simp only [printM] at hq
  rw [f19_eq, szQ, ob_some, partQ, ob_some]
  refine c30 q hok H _ (fun H1 e1 => ?_)
  rw [i_neq, ob_some]
  refine cnd_intro (fun h => ?_) (fun h => ?_)
  · have := hq H1 e1
    rw [if_pos (by simpa using h)] at this; exact this
  have h : fineP q = 0 := by simpa using h
  simp only [h, ne_eq, not_true, if_false] at hq
  have hf := fine_of h
  rw [ob_some]
  refine c48 q hok H1 _ (fun H2 e2 => ?_)
  have e12 := e1.trans e2
  rw [not_B, ob_some]
  refine cnd_intro (fun h2 => ?_) (fun h2 => ?_)
  · have := hq H2 e12
    rw [if_pos (by simpa using h2)] at this; exact this
  rw [if_neg (by simpa using h2)] at hq
  have hb : bldA [] [AV.raw (.pointer none), .sl 0 true .full []] = some (.agg [.raw (.pointer none), .sl 0 true .full []]) := rfl
  have hs : sizedA 2 (.agg [AV.raw (.pointer none), .sl 0 true .full []]) = some [.raw (.pointer none), .sl 0 true .full []] := rfl
  have hpl := mrT_len q.p hf.all false
  have hsz := hf.size
  have hwl := okl_len (okl_of hok hf) hf.row
  have hsum := hf.sum
  have hwi := fine_within hf
  have hwil := withinT_len hwi
  have hkl := fine_key hf
  have hits := hf.its
  have hil := items_len (fine_items hf)
  have hvl := vars_len q.p
  have hdl := defs_len (varsOf q.p) (vars_small q.p hf.all)
  have k1 : sMATCH.length = 7 := rfl
  have k2 : sPBY.length = 13 := rfl
  have k3 : sMEAS.length = 9 := rfl
  have k4 : sRNEAR.length = 9 := rfl
  have k5 : sRSTR.length = 11 := rfl
  have k6 : sPATP.length = 10 := rfl
  have k7 : sDEF.length = 8 := rfl
  rw [hb, ob_some, hs, ob_some]
  refine bld_new 75 lies75 e12 (fun b H3 hb3 => ?_)
  have j48 : ∀ (rows t : List UInt8) (H' : Heap), Bld H b t H' → t.length ≤ 900000 → rows.length ≤ 11 → t ++ (rows ++ tailM q) = textM q → f19_j48 (qC q) (Pt b) (strT rows) H' Q := fun rows t H' h hl hrl ht => by
    rw [f19_j48_eq, nil_Pt, ob_some, add0_Pt, ob_some]
    have er : strT rows = S ⟨rows.toArray⟩ := rfl
    rw [er]
    refine put2 ⟨rows.toArray⟩ ⟨#[32, 80, 65, 84, 84, 69, 82, 78, 32, 40]⟩ b H H' t _ h (by
      have : tx ⟨#[32, 80, 65, 84, 84, 69, 82, 78, 32, 40]⟩ = sPATP := rfl
      rw [this, tx_str, List.length_append, k6]; omega) (fun H4 h4 => ?_)
    have hp : tx ⟨#[32, 80, 65, 84, 84, 69, 82, 78, 32, 40]⟩ = sPATP := rfl
    rw [hp, tx_str] at h4
    rw [partQT, ob_some]
    refine c49 q.p hok.p hf.all false b H H4 _ _ h4 (by simp only [List.length_append, k6]; omega) (fun H5 h5 => ?_)
    rw [ob_some, add0_Pt, ob_some]
    refine put1 [41] b H H5 _ _ h5 (by simp only [List.length_append, List.length_singleton, k6]; omega) (fun H6 h6 => ?_)
    rw [ob_some, add0_Pt, ob_some, part_f, q9, ob_some]
    refine c35 q.within hwi b H H6 _ _ h6 (by simp only [List.length_append, List.length_singleton, k6]; omega) (fun H7 h7 => ?_)
    rw [ob_some, add0_Pt, ob_some]
    refine put1 sDEF b H H7 _ _ h7 (by simp only [List.length_append, List.length_singleton, k6, k7]; omega) (fun H8 h8 => ?_)
    rw [ob_some]
    refine c50 q.p hok.p hf.all hsz b H H8 _ _ h8 (by simp only [List.length_append, List.length_singleton, k6, k7]; omega) (fun H9 h9 => ?_)
    rw [ob_some, add0_Pt, ob_some, part_f, q6, ob_some]
    refine c34 q.wsz q.wnil q.wtip q.ws (okl_of hok hf) hf.row b H H9 _ _ h9 (by simp only [List.length_append, List.length_singleton, k6, k7]; omega) (fun H10 h10 => ?_)
    rw [ob_some, add0_Pt, ob_some]
    refine put1 [41] b H H10 _ _ h10 (by simp only [List.length_append, List.length_singleton, k6, k7]; omega) (fun H11 h11 => ?_)
    rw [ob_some, add0_Pt, ob_some, add0_Pt, ob_some]
    refine c36 b H H11 _ _ h11 (by simp only [List.length_append, List.length_singleton, k6, k7]; omega) (fun H12 e => ?_)
    have := hq H12 e
    rw [← ht] at this
    simp only [tailM, List.append_assoc] at this ⊢
    exact this
  have j40 : ∀ (t : List UInt8) (H' : Heap), Bld H b t H' → t.length ≤ 900000 → t ++ (rowsM q.mode ++ tailM q) = textM q → f19_j40 (qC q) (Pt b) H' Q := fun t H' h hl ht => by
    rw [f19_j40_eq, part_f, q8, ob_some, i_eql, ob_some]
    simp only [rowsM] at ht
    refine cnd_intro (fun g => ?_) (fun g => ?_)
    · rw [if_pos (by simpa using g)] at ht
      exact j48 sRNEAR t H' h hl (by rw [k4]; omega) ht
    · rw [if_neg (by simpa using g)] at ht
      exact j48 sRSTR t H' h hl (by rw [k5]; omega) ht
  have j30 : ∀ (t : List UInt8) (H' : Heap), Bld H b t H' → t.length ≤ 800000 → t ++ (measM q.its ++ (rowsM q.mode ++ tailM q)) = textM q → f19_j30 (qC q) (Pt b) H' Q := fun t H' h hl ht => by
    rw [f19_j30_eq, part_f, q10, ob_some, lenIt, ob_some, i_gtr, ob_some]
    simp only [measM] at ht
    refine cnd_intro (fun g => ?_) (fun g => ?_)
    · have g : ¬ q.its.length = 0 := by have := of_decide_eq_true g; omega
      rw [if_neg g] at ht
      rw [nil_Pt, ob_some, add0_Pt, ob_some]
      refine put1 sMEAS b H H' t _ h (by rw [k3]; omega) (fun H4 h4 => ?_)
      rw [ob_some, add0_Pt, ob_some, ob_some]
      refine c44 q.isz q.inil q.itip q.its hok.il (fine_items hf) b H H4 _ _ h4 (by simp only [List.length_append, k3]; omega) (fun H5 h5 => ?_)
      rw [ob_some, add0_Pt, ob_some]
      refine put1 [32] b H H5 _ _ h5 (by simp only [List.length_append, List.length_singleton, k3]; omega) (fun H6 h6 => ?_)
      exact j40 _ H6 h6 (by simp only [List.length_append, List.length_singleton, k3]; omega) (by rw [← ht]; simp)
    · have g : q.its.length = 0 := by have := of_decide_eq_false g; omega
      rw [if_pos g] at ht
      exact j40 t H' h (by omega) ht
  rw [nil_Pt, ob_some, add0_Pt, ob_some]
  refine put1 sMATCH b H H3 [] _ hb3 (by rw [k1, List.length_nil]; omega) (fun H4 h4 => ?_)
  rw [part_f, q7, ob_some, s_neq, ob_some]
  refine cnd_intro (fun g => ?_) (fun g => ?_)
  · have g : ¬ q.key = e0 := by simpa using g
    rw [ob_some, add0_Pt, ob_some, ob_some]
    refine put3 ⟨#[80, 65, 82, 84, 73, 84, 73, 79, 78, 32, 66, 89, 32]⟩ q.key ⟨#[32]⟩ b H H4 _ _ h4 (by
      have h1 : tx ⟨#[80, 65, 82, 84, 73, 84, 73, 79, 78, 32, 66, 89, 32]⟩ = sPBY := rfl
      have h2 : tx ⟨#[32]⟩ = [32] := rfl
      rw [h1, h2]; simp only [List.nil_append, List.length_append, List.length_singleton, k1, k2]; omega) (fun H5 h5 => ?_)
    have h1 : tx ⟨#[80, 65, 82, 84, 73, 84, 73, 79, 78, 32, 66, 89, 32]⟩ = sPBY := rfl
    have h2 : tx ⟨#[32]⟩ = [32] := rfl
    rw [h1, h2] at h5
    exact j30 _ H5 h5 (by simp only [List.nil_append, List.length_append, List.length_singleton, k1, k2]; omega) (by simp [textM, keyM, g])
  · have g : q.key = e0 := by simpa using g
    exact j30 _ H4 h4 (by simp only [List.nil_append, k1]; omega) (by simp [textM, keyM, g])
theorem c20 (q : Qu) (hok : OkQ q) (H : Heap) (Q : Post) (hq : ∀ H', HExt H H' → Q (printM q) H') : E 20 [encQ q] H Q := by
  simp only [printM] at hq
  rw [f20_eq, szQ, ob_some, partQ, ob_some]
  refine c37 q hok H _ (fun H1 e1 => ?_)
  rw [i_neq, ob_some]
  refine cnd_intro (fun h => ?_) (fun h => ?_)
  · have := hq H1 e1
    rw [if_pos (by simpa using h)] at this; exact this
  have h : fineP q = 0 := by simpa using h
  have hf := fine_of h
  rw [ob_some]
  refine c22 q hok H1 _ (fun H2 e2 => ?_)
  have e12 := e1.trans e2
  simp only [h, ne_eq, not_true, if_false, decide_true, Bool.true_and] at hq ⊢
  rw [not_B, ob_some]
  refine cnd_intro (fun h2 => ?_) (fun h2 => ?_)
  · have := hq H2 e12
    rw [if_pos (by simpa using h2)] at this; exact this
  rw [if_neg (by simpa using h2)] at hq
  have hpl := mrT_len q.p hf.all false
  have hsz := hf.size
  have hwl := okl_len (okl_of hok hf) hf.row
  have hsum := hf.sum
  have hwi := fine_within hf
  have hwil := withinT_len hwi
  have hkl := fine_key hf
  have hits := hf.its
  have hil := items_len (fine_items hf)
  have hvl := vars_len q.p
  have hsm := vars_small q.p hf.all
  have k1 : sMATCH.length = 7 := rfl
  have k2 : sPBY.length = 13 := rfl
  have k3 : sMEAS.length = 9 := rfl
  have k4 : sRNEAR.length = 9 := rfl
  have k5 : sRSTR.length = 11 := rfl
  have k6 : sPATP.length = 10 := rfl
  have k7 : sDEF.length = 8 := rfl
  have kA : sASb.length = 4 := rfl
  have w1 : S ⟨#[77, 65, 84, 67, 72, 32, 40]⟩ = strT sMATCH := rfl
  have w2 : S ⟨#[80, 65, 82, 84, 73, 84, 73, 79, 78, 32, 66, 89, 32]⟩ = strT sPBY := rfl
  have w3 : S ⟨#[77, 69, 65, 83, 85, 82, 69, 83, 32]⟩ = strT sMEAS := rfl
  have w4 : S ⟨#[82, 79, 87, 83, 32, 78, 69, 65, 82]⟩ = strT sRNEAR := rfl
  have w5 : S ⟨#[82, 79, 87, 83, 32, 83, 84, 82, 73, 67, 84]⟩ = strT sRSTR := rfl
  have w6 : S ⟨#[32, 80, 65, 84, 84, 69, 82, 78, 32, 40]⟩ = strT sPATP := rfl
  have w7 : S ⟨#[32, 68, 69, 70, 73, 78, 69, 32]⟩ = strT sDEF := rfl
  have w8 : S ⟨#[32]⟩ = strT [32] := rfl
  have w9 : S ⟨#[41]⟩ = strT [41] := rfl
  have wA : S ⟨#[32, 65, 83, 32]⟩ = strT sASb := rfl
  have wC : S ⟨#[44, 32]⟩ = strT [44, 32] := rfl
  have x0 : ∀ a b c : AV, extractA (.tup [a, b, c]) 0 = some a := fun _ _ _ => rfl
  have x1 : ∀ a b c : AV, extractA (.tup [a, b, c]) 1 = some b := fun _ _ _ => rfl
  have x2 : ∀ a b c : AV, extractA (.tup [a, b, c]) 2 = some c := fun _ _ _ => rfl
  have j40 : ∀ t : List UInt8, t.length ≤ 900000 → t ++ tailM q = textM q → f20_j40 (qC q) (strT t) H2 Q := fun t hl ht => by
    rw [f20_j40_eq, w6, s_add _ _ _ _ (by rw [k6]; omega), ob_some, partQT, ob_some, part_f, q9, ob_some]
    refine c51 q.p hok.p hf.all false H2 _ (by omega) ?_
    rw [s_add _ _ _ _ (by simp only [List.length_append, k6]; omega), ob_some, w9, s_add _ _ _ _ (by simp only [List.length_append, List.length_singleton, k6]; omega), ob_some]
    refine c40 q.within hwi H2 _ ?_
    rw [s_add _ _ _ _ (by simp only [List.length_append, List.length_singleton, k6]; omega), ob_some, w7, s_add _ _ _ _ (by simp only [List.length_append, List.length_singleton, k6, k7]; omega), ob_some, ob_some]
    refine c52 q.p hok.p (by omega) H2 _ (fun V T K H3 e3 => ?_)
    have e13 := e12.trans e3
    rw [x0, ob_some, x1, ob_some, x2, ob_some]
    have hdl := defs_len (varsOf q.p) hsm
    simp only [tailM] at ht
    generalize varsOf q.p = s at hvl hsm hdl ht ⊢
    have fin : ∀ acc : List UInt8, acc.length ≤ 1000000 → acc ++ (whereT q.ws ++ [41]) = textM q → ob (some (encXs q.wsz q.wnil q.wtip q.ws)) fun r52 => E 39 [r52] H3 fun r53 H54 => ob (binA Pg .add 9 false (strT acc) r53) fun r55 => ob (binA Pg .add 9 true r55 (S ⟨#[41]⟩)) fun r56 => Q (.tup [r56, I 0]) H54 := fun acc hl ha => by
      rw [ob_some]
      refine c39 q.wsz q.wnil q.wtip q.ws (okl_of hok hf) hf.row H3 _ (by omega) ?_
      rw [s_add _ _ _ _ (by omega), ob_some, w9, s_add _ _ _ _ (by simp only [List.length_append, List.length_singleton]; omega), ob_some, List.append_assoc, ha]
      exact hq H3 e13
    have j63 : ∀ (u : Us) (pre r : List Us) (acc : List UInt8), s = pre ++ u :: r → acc.length ≤ 1000000 → f20_l48 (qC q) (strT (acc ++ defT u)) (slA V (vA s)) (slA T (tA s)) (I ((pre.length + 1 : Nat) : Int)) H3 Q → f20_j63 (qC q) (strT acc) (slA V (vA s)) (slA T (tA s)) (I pre.length) H3 Q := fun u pre r acc e hl hk => by
      have hlt : pre.length < s.length := by rw [e]; simp
      have hu := hsm u (by rw [e]; simp)
      have h1 := hu.1
      have h2 := hu.2
      rw [f20_j63_eq, ixVA V s pre r u e, ob_some, part_f, List.getElem?_cons_zero, ob_some, strT_tx u.var, s_add _ _ _ _ (by omega), ob_some, wA, s_add _ _ _ _ (by simp only [List.length_append, kA]; omega), ob_some, ixTA T s pre r u e, ob_some, part_f, List.getElem?_cons_zero, ob_some, strT_tx u.typ, s_add _ _ _ _ (by simp only [List.length_append, kA]; omega), ob_some, i_add, ob_some, w64_succ hlt (by omega)]
      have : acc ++ tx u.var ++ sASb ++ tx u.typ = acc ++ defT u := by simp [defT]
      rw [this]; exact hk
    have loop : ∀ (r pre : List Us) (acc : List UInt8), s = pre ++ r → pre ≠ [] → acc.length + 100 * r.length ≤ 1000000 → acc ++ (catR [44, 32] (r.map defT) ++ (whereT q.ws ++ [41])) = textM q → f20_l48 (qC q) (strT acc) (slA V (vA s)) (slA T (tA s)) (I pre.length) H3 Q := by
      intro r
      induction r with
      | nil =>
        intro pre acc e _ hl ha
        have h1 : (pre.length : Int) = s.length := by rw [e]; simp
        rw [f20_l48_eq, lenVA, ob_some, i_lss, ob_some, cnd_B, h1]
        simp only [Int.lt_irrefl, decide_false, Bool.false_eq_true, if_false]
        rw [f20_j52_eq, cnd_f, part_f, q6]
        exact fin acc (by simpa using hl) (by simpa [catR] using ha)
      | cons u r ih =>
        intro pre acc e hne hl ha
        have hlt : pre.length < s.length := by rw [e]; simp
        have hlt' : (pre.length : Int) < s.length := by omega
        have hp0 : 0 < pre.length := List.length_pos_iff.2 hne
        have hgt : decide ((0 : Int) < (pre.length : Int)) = true := by simp; omega
        have hlts : decide ((pre.length : Int) < (s.length : Int)) = true := decide_eq_true hlt'
        have hu := hsm u (by rw [e]; simp)
        have hdu : (defT u).length ≤ 68 := by
          have h1 := hu.1; have h2 := hu.2
          simp only [defT, List.length_append, kA]; omega
        simp only [List.length_cons] at hl
        simp only [List.map_cons, catR] at ha
        rw [f20_l48_eq, lenVA, ob_some, i_lss, ob_some, hlts, cnd_t, lenTA, ob_some, i_lss, ob_some, hlts, f20_j52_eq, cnd_t, i_gtr, ob_some, hgt, cnd_t, wC, s_add _ _ _ _ (by simp only [List.length_cons, List.length_nil]; omega), ob_some]
        refine j63 u pre r _ e (by simp only [List.length_append, List.length_cons, List.length_nil]; omega) ?_
        have := ih (pre ++ [u]) (acc ++ [44, 32] ++ defT u) (by simp [e]) (by simp) (by simp only [List.length_append, List.length_cons, List.length_nil]; omega) (by simpa using ha)
        rw [List.length_append, List.length_singleton] at this
        exact this
    generalize hacc : t ++ sPATP ++ mrT q.p false ++ [41] ++ withinT q.within ++ sDEF = acc
    have hal : acc.length ≤ 910000 := by rw [← hacc]; simp only [List.length_append, List.length_singleton, k6, k7]; omega
    have hta : acc ++ (defsT s ++ (whereT q.ws ++ [41])) = textM q := by rw [← hacc, ← ht]; simp
    cases hc : s with
    | nil =>
      rw [hc] at hta
      rw [f20_l48_eq, lenVA, ob_some, i_lss, ob_some, cnd_B]
      simp only [List.length_nil, Int.natCast_zero, Int.lt_irrefl, decide_false, Bool.false_eq_true, if_false]
      rw [f20_j52_eq, cnd_f, part_f, q6]
      exact fin acc (by omega) (by simpa [defsT, catL] using hta)
    | cons u r =>
      rw [← hc]
      have hlt : 0 < s.length := by rw [hc]; simp
      have hlt' : (0 : Int) < s.length := by omega
      have hll : s.length = r.length + 1 := by rw [hc]; rfl
      have hlts : decide ((0 : Int) < (s.length : Int)) = true := decide_eq_true hlt'
      have hu := hsm u (by rw [hc]; simp)
      have hdu : (defT u).length ≤ 68 := by
        have h1 := hu.1; have h2 := hu.2
        simp only [defT, List.length_append, kA]; omega
      have h00 : decide ((0 : Int) < 0) = false := rfl
      rw [hc] at hta
      simp only [defsT, List.map_cons, catL] at hta
      rw [f20_l48_eq, lenVA, ob_some, i_lss, ob_some, hlts, cnd_t, lenTA, ob_some, i_lss, ob_some, hlts, f20_j52_eq, cnd_t, i_gtr, ob_some, h00, cnd_f]
      refine j63 u [] r acc hc (by omega) ?_
      exact loop r [u] (acc ++ defT u) (by simp [hc]) (by simp) (by simp only [List.length_append]; omega) (by simpa using hta)
  have j34 : ∀ t : List UInt8, t.length ≤ 800000 → t ++ (rowsM q.mode ++ tailM q) = textM q → f20_j34 (qC q) (strT t) H2 Q := fun t hl ht => by
    rw [f20_j34_eq, part_f, q8, ob_some, i_eql, ob_some]
    simp only [rowsM] at ht
    refine cnd_intro (fun g => ?_) (fun g => ?_)
    · rw [if_pos (by simpa using g)] at ht
      rw [w4, s_add _ _ _ _ (by rw [k4]; omega), ob_some]
      exact j40 _ (by simp only [List.length_append, k4]; omega) (by rw [← ht]; simp)
    · rw [if_neg (by simpa using g)] at ht
      rw [w5, s_add _ _ _ _ (by rw [k5]; omega), ob_some]
      exact j40 _ (by simp only [List.length_append, k5]; omega) (by rw [← ht]; simp)
  have j28 : ∀ t : List UInt8, t.length ≤ 700000 → t ++ (measM q.its ++ (rowsM q.mode ++ tailM q)) = textM q → f20_j28 (qC q) (strT t) H2 Q := fun t hl ht => by
    rw [f20_j28_eq, part_f, q10, ob_some, lenIt, ob_some, i_gtr, ob_some]
    simp only [measM] at ht
    refine cnd_intro (fun g => ?_) (fun g => ?_)
    · have g : ¬ q.its.length = 0 := by have := of_decide_eq_true g; omega
      rw [if_neg g] at ht
      rw [w3, s_add _ _ _ _ (by rw [k3]; omega), ob_some, ob_some]
      refine c46 q.isz q.inil q.itip q.its hok.il (fine_items hf) H2 _ (by omega) ?_
      rw [s_add _ _ _ _ (by simp only [List.length_append, k3]; omega), ob_some, w8, s_add _ _ _ _ (by simp only [List.length_append, List.length_singleton, k3]; omega), ob_some]
      exact j34 _ (by simp only [List.length_append, List.length_singleton, k3]; omega) (by rw [← ht]; simp)
    · have g : q.its.length = 0 := by have := of_decide_eq_false g; omega
      rw [if_pos g] at ht
      exact j34 t (by omega) ht
  rw [part_f, q7, ob_some, s_neq, ob_some]
  refine cnd_intro (fun g => ?_) (fun g => ?_)
  · have g : ¬ q.key = e0 := by simpa using g
    rw [w1, w2, s_add _ _ _ _ (by rw [k1, k2]; omega), ob_some, ob_some, strT_tx q.key, s_add _ _ _ _ (by simp only [List.length_append, k1, k2]; omega), ob_some, w8, s_add _ _ _ _ (by simp only [List.length_append, List.length_singleton, k1, k2]; omega), ob_some]
    exact j28 _ (by simp only [List.length_append, List.length_singleton, k1, k2]; omega) (by simp [textM, keyM, g])
  · have g : q.key = e0 := by simpa using g
    rw [w1]
    exact j28 _ (by rw [k1]; omega) (by simp [textM, keyM, g])
/-! ### The program computes at all -/
def awakeQM : Qu := ⟨awakeP, 0, true, .full, [], e0, 1, 0, 0, true, .full, []⟩
theorem awakeM_fine : fineP awakeQM = 0 := by kernel_rfl
theorem awakeM_ok : OkQ awakeQM := by
  refine ⟨?_, by decide, by decide, fun x hx => (by cases hx), by decide, by decide, by decide, fun x hx => (by cases hx)⟩
  rw [allT_eq]
  exact ⟨⟨by decide, by decide, by decide⟩, trivial⟩
theorem awakeM_plain : plainM awakeQM = true := by kernel_rfl
theorem awakeM_text : textM awakeQM = [77, 65, 84, 67, 72, 32, 40, 82, 79, 87, 83, 32, 78, 69, 65, 82, 32, 80, 65, 84, 84, 69, 82, 78, 32, 40, 97, 41, 32, 68, 69, 70, 73, 78, 69, 32, 97, 32, 65, 83, 32, 116, 41] := by kernel_rfl
theorem c18 (H : Heap) (Q : Post) (hq : ∀ H', HExt H H' → Q (B true) H') : E 18 [] H Q := by
  have h1 : bldA [(0, 1, I 1), (1, 1, S ⟨#[97]⟩), (2, 1, S ⟨#[116]⟩)] [I 0, S e0, S e0, I 0, I 0, .sl 0 true .full []] = some (encT awakeP) := rfl
  have h2 : bldA [(0, 6, encT awakeP), (8, 1, I 1)] [I 0, S e0, S e0, I 0, I 0, .sl 0 true .full [], .sl 0 true .full [], S e0, I 0, I 0, .sl 0 true .full []] = some (encQ awakeQM) := rfl
  rw [f18_eq, h1, ob_some, h2, ob_some]
  refine c19 awakeQM awakeM_ok H _ (fun H1 e1 => ?_)
  simp only [printM, awakeM_fine, awakeM_plain, ne_eq, not_true, if_false, Bool.true_eq_false]
  have hs : strT (textM awakeQM) = S ⟨#[77, 65, 84, 67, 72, 32, 40, 82, 79, 87, 83, 32, 78, 69, 65, 82, 32, 80, 65, 84, 84, 69, 82, 78, 32, 40, 97, 41, 32, 68, 69, 70, 73, 78, 69, 32, 97, 32, 65, 83, 32, 116, 41]⟩ := by rw [awakeM_text]; rfl
  rw [hs, x20, ob_some, x21, ob_some, i_eql, ob_some]
  have d0 : decide ((0 : Int) = 0) = true := rfl
  rw [d0, cnd_t, s_eql, ob_some, f18_j6_eq, dS]
  exact hq H1 e1
theorem c5 (q : Qu) (hok : OkQ q) (H : Heap) (Q : Post) (hq : ∀ H', HExt H H' → Q (B true) H') : E 5 [encQ q] H Q := by
  rw [f5_eq, szQ, ob_some, partQ, ob_some, c7 q hok, not_B, ob_some]
  refine cnd_intro (fun h => c18 H _ hq) (fun h => ?_)
  rw [ob_some]
  refine c19 q hok H _ (fun H1 e1 => ?_)
  have hp : ∃ (s : ByteArray) (n : Int), printM q = .tup [S s, I n] := by
    simp only [printM]
    split
    · exact ⟨_, _, rfl⟩
    · split
      · exact ⟨_, _, rfl⟩
      · exact ⟨_, _, rfl⟩
  obtain ⟨s, n, hp⟩ := hp
  rw [hp, x20, ob_some, x21, ob_some, ob_some]
  refine c20 q hok H1 _ (fun H2 e2 => ?_)
  rw [hp, x20, ob_some, x21, ob_some, s_eql, ob_some, dS, cnd_t, i_eql, ob_some, dI, f5_c5_8a_eq, cnd_t, partQ, ob_some, ob_some]
  refine c21 q hok H2 _ (fun H3 e3 => ?_)
  refine c22 q hok H3 _ (fun H4 e4 => ?_)
  rw [b_eql 4 false u4, ob_some, f5_c5_15a_eq]
  have hbb : ∀ b : Bool, (b == b) = true := fun b => by cases b <;> rfl
  rw [hbb, cnd_t]
  refine c18 H4 _ (fun H5 e5 => ?_)
  rw [f5_c5_18a_eq, f5_j16_eq]
  exact hq H5 ((((e1.trans e2).trans e3).trans e4).trans e5)
end Go.Hx
