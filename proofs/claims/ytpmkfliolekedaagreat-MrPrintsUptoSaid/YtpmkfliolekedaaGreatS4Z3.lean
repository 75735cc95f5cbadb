/- Contracts of layer 19: Print, Says; the statement's walk. Own work. -/
import Derived.Test.YtpmkfliolekedaaGreatS4Z2
set_option maxRecDepth 20000
namespace Go.Hx
def sPATTERN : List UInt8 := [80, 65, 84, 84, 69, 82, 78, 32]
def sPART : List UInt8 := [32, 80, 65, 82, 84, 73, 84, 73, 79, 78, 32, 66, 89, 32]
def sNEAR : List UInt8 := [32, 77, 79, 68, 69, 32, 78, 69, 65, 82]
def sSTRICT : List UInt8 := [32, 77, 79, 68, 69, 32, 83, 84, 82, 73, 67, 84]
def sRETURN : List UInt8 := [32, 82, 69, 84, 85, 82, 78, 32]
def keyT (k : ByteArray) : List UInt8 := if k = e0 then [] else sPART ++ tx k
def modeT (m : Int) : List UInt8 := if m = 1 then sNEAR else if m = 2 then sSTRICT else []
def retT (l : List It) : List UInt8 := if l.length = 0 then [] else sRETURN ++ itemsT l
def textS (q : Qu) : List UInt8 := sPATTERN ++ saseT q.p ++ whereT q.ws ++ keyT q.key ++ modeT q.mode ++ withinT q.within ++ retT q.its
def printS (q : Qu) : AV := if fineP q ≠ 0 then .tup [S e0, I (fineP q)] else if hasA q.p = true then .tup [S e0, I 12] else .tup [strT (textS q), I 0]
theorem fine_key {q : Qu} (hf : FineQ q) : (tx q.key).length ≤ 32 := by
  have h := hf.rest
  simp only [restP] at h
  split at h
  · rename_i h1
    rcases h1.1 with h2 | h2
    · rw [h2]; decide
    · exact name_len h2
  · cases h
theorem fine_items {q : Qu} (hf : FineQ q) : ∀ x ∈ q.its, itemP x = true := by
  have h := hf.rest
  simp only [restP] at h
  split at h
  · rename_i h1
    exact wrongI_item h1.2.2.2
  · cases h
theorem items_len {l : List It} (hp : ∀ x ∈ l, itemP x = true) : (itemsT l).length ≤ 112 * l.length := by
  have lenI : ∀ r : List It, (∀ x ∈ r, itemP x = true) → (catR [44, 32] (r.map itemT)).length ≤ 112 * r.length := by
    intro r
    induction r with
    | nil => intro _; simp [catR]
    | cons y r ih =>
      intro hh
      have := itemT_len (hh y (by simp))
      have := ih (fun z hz => hh z (by simp [hz]))
      simp only [List.map_cons, catR, List.length_append, List.length_cons, List.length_nil]; omega
  cases l with
  | nil => simp [itemsT, catL]
  | cons y r =>
    have := itemT_len (hp y (by simp))
    have := lenI r (fun z hz => hp z (by simp [hz]))
    simp only [itemsT, List.map_cons, catL, List.length_append, List.length_cons]; omega
theorem c14 (q : Qu) (hok : OkQ q) (H : Heap) (Q : Post) (hq : ∀ H', HExt H H' → Q (printS q) H') : E 14 [encQ q] H Q := by
  simp only [printS] at hq
  rw [f14_eq, szQ, ob_some, partQ, ob_some]
  refine c30 q hok H _ (fun H1 e1 => ?_)
  rw [i_neq, ob_some]
  refine cnd_intro (fun h => ?_) (fun h => ?_)
  · have := hq H1 e1
    rw [if_pos (by simpa using h)] at this; exact this
  have h : fineP q = 0 := by simpa using h
  simp only [h, ne_eq, not_true, if_false] at hq
  have hf := fine_of h
  rw [partQT, ob_some, c42 q.p hok.p]
  refine cnd_intro (fun h2 => ?_) (fun h2 => ?_)
  · have := hq H1 e1
    rw [if_pos h2] at this; exact this
  rw [if_neg (by rw [h2]; simp)] at hq
  have hb : bldA [] [AV.raw (.pointer none), .sl 0 true .full []] = some (.agg [.raw (.pointer none), .sl 0 true .full []]) := rfl
  have hs : sizedA 2 (.agg [AV.raw (.pointer none), .sl 0 true .full []]) = some [.raw (.pointer none), .sl 0 true .full []] := rfl
  have hpl := saseT_len q.p hf.all h2
  have hsz := hf.size
  have hwl := okl_len (okl_of hok hf) hf.row
  have hsum := hf.sum
  have hwi := fine_within hf
  have hwil := withinT_len hwi
  have hkl := fine_key hf
  have hits := hf.its
  have hil := items_len (fine_items hf)
  have h8 : sPATTERN.length = 8 := rfl
  have h14 : sPART.length = 14 := rfl
  have h10 : sNEAR.length = 10 := rfl
  have h12 : sSTRICT.length = 12 := rfl
  have h8' : sRETURN.length = 8 := rfl
  rw [hb, ob_some, hs, ob_some]
  refine bld_new 68 lies68 e1 (fun b H2 hb2 => ?_)
  have j57 : ∀ (t : List UInt8) (H' : Heap), Bld H b t H' → t.length ≤ 140737488355328 → t = textS q → f14_j57 (Pt b) H' Q := fun t H' h hl ht => by
    rw [f14_j57_eq, nil_Pt, ob_some, add0_Pt, ob_some, add0_Pt, ob_some]
    refine c36 b H H' t _ h hl (fun H'' e => ?_)
    rw [ht]; exact hq H'' e
  have j47 : ∀ (t : List UInt8) (H' : Heap), Bld H b t H' → t.length ≤ 1000000 → t ++ (withinT q.within ++ retT q.its) = textS q → f14_j47 (qC q) (Pt b) H' Q := fun t H' h hl ht => by
    rw [f14_j47_eq, nil_Pt, ob_some, add0_Pt, ob_some, part_f, q9, ob_some]
    refine c35 q.within hwi b H H' t _ h (by omega) (fun H3 h3 => ?_)
    rw [part_f, q10, ob_some, lenIt, ob_some, i_gtr, ob_some]
    refine cnd_intro (fun g => ?_) (fun g => ?_)
    · have g : ¬ q.its.length = 0 := by have := of_decide_eq_true g; omega
      rw [retT, if_neg g] at ht
      rw [ob_some, add0_Pt, ob_some]
      refine put1 sRETURN b H H3 _ _ h3 (by simp only [List.length_append, h8']; omega) (fun H4 h4 => ?_)
      rw [ob_some, add0_Pt, ob_some, ob_some]
      refine c44 q.isz q.inil q.itip q.its hok.il (fine_items hf) b H H4 _ _ h4 (by simp only [List.length_append, h8']; omega) (fun H5 h5 => ?_)
      exact j57 _ H5 h5 (by simp only [List.length_append, h8']; omega) (by rw [← ht]; simp)
    · have g : q.its.length = 0 := by have := of_decide_eq_false g; omega
      rw [retT, if_pos g, List.append_nil] at ht
      exact j57 _ H3 h3 (by simp only [List.length_append]; omega) ht
  have j34 : ∀ (t : List UInt8) (H' : Heap), Bld H b t H' → t.length ≤ 900000 → t ++ (modeT q.mode ++ (withinT q.within ++ retT q.its)) = textS q → f14_j34 (qC q) (Pt b) H' Q := fun t H' h hl ht => by
    rw [f14_j34_eq, part_f, q8, ob_some, i_eql, ob_some]
    simp only [modeT] at ht
    refine cnd_intro (fun g => ?_) (fun g => ?_)
    · rw [if_pos (by simpa using g)] at ht
      rw [nil_Pt, ob_some, add0_Pt, ob_some]
      refine put1 sNEAR b H H' _ _ h (by rw [h10]; omega) (fun H4 h4 => ?_)
      exact j47 _ H4 h4 (by simp only [List.length_append, h10]; omega) (by rw [← ht]; simp)
    rw [if_neg (by simpa using g)] at ht
    rw [i_eql, ob_some]
    refine cnd_intro (fun g => ?_) (fun g => ?_)
    · rw [if_pos (by simpa using g)] at ht
      rw [nil_Pt, ob_some, add0_Pt, ob_some]
      refine put1 sSTRICT b H H' _ _ h (by rw [h12]; omega) (fun H4 h4 => ?_)
      exact j47 _ H4 h4 (by simp only [List.length_append, h12]; omega) (by rw [← ht]; simp)
    · rw [if_neg (by simpa using g)] at ht
      exact j47 t H' h (by omega) (by rw [← ht]; simp)
  rw [nil_Pt, ob_some, add0_Pt, ob_some]
  refine put1 sPATTERN b H H2 [] _ hb2 (by rw [h8, List.length_nil]; omega) (fun H3 h3 => ?_)
  rw [ob_some]
  refine c43 q.p hok.p hf.all h2 b H H3 _ _ h3 (by rw [List.nil_append, h8]; omega) (fun H4 h4 => ?_)
  rw [ob_some, add0_Pt, ob_some, part_f, q6, ob_some]
  refine c34 q.wsz q.wnil q.wtip q.ws (okl_of hok hf) hf.row b H H4 _ _ h4 (by simp only [List.nil_append, List.length_append, h8]; omega) (fun H5 h5 => ?_)
  rw [part_f, q7, ob_some, s_neq, ob_some]
  refine cnd_intro (fun g => ?_) (fun g => ?_)
  · have g : ¬ q.key = e0 := by simpa using g
    rw [ob_some, add0_Pt, ob_some, ob_some]
    refine put2 ⟨#[32, 80, 65, 82, 84, 73, 84, 73, 79, 78, 32, 66, 89, 32]⟩ q.key b H H5 _ _ h5 (by
      have : tx ⟨#[32, 80, 65, 82, 84, 73, 84, 73, 79, 78, 32, 66, 89, 32]⟩ = sPART := rfl
      rw [this]; simp only [List.nil_append, List.length_append, h8, h14]; omega) (fun H6 h6 => ?_)
    have : tx ⟨#[32, 80, 65, 82, 84, 73, 84, 73, 79, 78, 32, 66, 89, 32]⟩ = sPART := rfl
    rw [this] at h6
    exact j34 _ H6 h6 (by simp only [List.nil_append, List.length_append, h8, h14]; omega) (by simp [textS, keyT, g])
  · have g : q.key = e0 := by simpa using g
    exact j34 _ H5 h5 (by simp only [List.nil_append, List.length_append, h8]; omega) (by simp [textS, keyT, g])
theorem c16 (q : Qu) (hok : OkQ q) (H : Heap) (Q : Post) (hq : ∀ H', HExt H H' → Q (B (decide (fineP q = 0) && !hasA q.p)) H') : E 16 [encQ q] H Q := by
  rw [f16_eq, szQ, ob_some, partQ, ob_some]
  refine c30 q hok H _ (fun H1 e1 => ?_)
  have := hq H1 e1
  rw [i_eql, ob_some, partQT, ob_some, c42 q.p hok.p, not_B, ob_some, f16_j4_eq, f16_j4_eq]
  refine cnd_intro (fun h => ?_) (fun h => ?_)
  · rw [h, Bool.true_and] at this; exact this
  · rw [h, Bool.false_and] at this; exact this
theorem c17 (q : Qu) (hok : OkQ q) (H : Heap) (Q : Post) (hq : ∀ H', HExt H H' → Q (B (decide (fineP q = 0) && !hasA q.p)) H') : E 17 [encQ q] H Q := by
  rw [f17_eq, szQ, ob_some, partQ, ob_some]
  refine c37 q hok H _ (fun H1 e1 => ?_)
  have := hq H1 e1
  rw [i_eql, ob_some, partQT, ob_some, c47 q.p hok.p, not_B, ob_some, f17_j4_eq, f17_j4_eq]
  refine cnd_intro (fun h => ?_) (fun h => ?_)
  · rw [h, Bool.true_and] at this; exact this
  · rw [h, Bool.false_and] at this; exact this
theorem c15 (q : Qu) (hok : OkQ q) (H : Heap) (Q : Post) (hq : ∀ H', HExt H H' → Q (printS q) H') : E 15 [encQ q] H Q := by
  simp only [printS] at hq
  rw [f15_eq, szQ, ob_some, partQ, ob_some]
  refine c37 q hok H _ (fun H1 e1 => ?_)
  rw [i_neq, ob_some]
  refine cnd_intro (fun h => ?_) (fun h => ?_)
  · have := hq H1 e1
    rw [if_pos (by simpa using h)] at this; exact this
  have h : fineP q = 0 := by simpa using h
  have hf := fine_of h
  rw [ob_some]
  refine c17 q hok H1 _ (fun H2 e2 => ?_)
  have e12 := e1.trans e2
  simp only [h, ne_eq, not_true, if_false, decide_true, Bool.true_and] at hq ⊢
  rw [not_B, ob_some, Bool.not_not]
  refine cnd_intro (fun h2 => ?_) (fun h2 => ?_)
  · have := hq H2 e12
    rw [if_pos h2] at this; exact this
  rw [if_neg (by rw [h2]; simp)] at hq
  have hq := hq H2 e12
  have hpl := saseT_len q.p hf.all h2
  have hsz := hf.size
  have hwl := okl_len (okl_of hok hf) hf.row
  have hsum := hf.sum
  have hwi := fine_within hf
  have hwil := withinT_len hwi
  have hkl := fine_key hf
  have hits := hf.its
  have hil := items_len (fine_items hf)
  have h8 : sPATTERN.length = 8 := rfl
  have h14 : sPART.length = 14 := rfl
  have h10 : sNEAR.length = 10 := rfl
  have h12 : sSTRICT.length = 12 := rfl
  have h8' : sRETURN.length = 8 := rfl
  have w1 : S ⟨#[80, 65, 84, 84, 69, 82, 78, 32]⟩ = strT sPATTERN := rfl
  have w2 : S ⟨#[32, 80, 65, 82, 84, 73, 84, 73, 79, 78, 32, 66, 89, 32]⟩ = strT sPART := rfl
  have w3 : S ⟨#[32, 77, 79, 68, 69, 32, 78, 69, 65, 82]⟩ = strT sNEAR := rfl
  have w4 : S ⟨#[32, 77, 79, 68, 69, 32, 83, 84, 82, 73, 67, 84]⟩ = strT sSTRICT := rfl
  have w5 : S ⟨#[32, 82, 69, 84, 85, 82, 78, 32]⟩ = strT sRETURN := rfl
  have j48 : ∀ t : List UInt8, t = textS q → f15_j48 (strT t) H2 Q := fun t ht => by rw [f15_j48_eq, ht]; exact hq
  have j40 : ∀ t : List UInt8, t.length ≤ 1000000 → t ++ (withinT q.within ++ retT q.its) = textS q → f15_j40 (qC q) (strT t) H2 Q := fun t hl ht => by
    rw [f15_j40_eq, part_f, q9, ob_some]
    refine c40 q.within hwi H2 _ ?_
    rw [s_add _ _ _ _ (by omega), ob_some, part_f, q10, ob_some, lenIt, ob_some, i_gtr, ob_some]
    refine cnd_intro (fun g => ?_) (fun g => ?_)
    · have g : ¬ q.its.length = 0 := by have := of_decide_eq_true g; omega
      rw [retT, if_neg g] at ht
      rw [w5, s_add _ _ _ _ (by simp only [List.length_append, h8']; omega), ob_some, ob_some]
      refine c46 q.isz q.inil q.itip q.its hok.il (fine_items hf) H2 _ (by omega) ?_
      rw [s_add _ _ _ _ (by simp only [List.length_append, h8']; omega), ob_some]
      exact j48 _ (by rw [← ht]; simp)
    · have g : q.its.length = 0 := by have := of_decide_eq_false g; omega
      rw [retT, if_pos g, List.append_nil] at ht
      exact j48 _ ht
  have j34 : ∀ t : List UInt8, t.length ≤ 900000 → q.mode ≠ 1 → t ++ (modeT q.mode ++ (withinT q.within ++ retT q.its)) = textS q → f15_j34 (qC q) (strT t) H2 Q := fun t hl hm ht => by
    rw [f15_j34_eq, part_f, q8, ob_some, i_eql, ob_some]
    simp only [modeT, if_neg hm] at ht
    refine cnd_intro (fun g => ?_) (fun g => ?_)
    · rw [if_pos (by simpa using g)] at ht
      rw [w4, s_add _ _ _ _ (by rw [h12]; omega), ob_some]
      exact j40 _ (by simp only [List.length_append, h12]; omega) (by rw [← ht]; simp)
    · rw [if_neg (by simpa using g)] at ht
      exact j40 t (by omega) (by rw [← ht]; simp)
  have j28 : ∀ t : List UInt8, t.length ≤ 900000 → t ++ (modeT q.mode ++ (withinT q.within ++ retT q.its)) = textS q → f15_j28 (qC q) (strT t) H2 Q := fun t hl ht => by
    rw [f15_j28_eq, part_f, q8, ob_some, i_eql, ob_some]
    refine cnd_intro (fun g => ?_) (fun g => ?_)
    · have g : q.mode = 1 := by simpa using g
      simp only [modeT, if_pos g] at ht
      have d2 : decide (q.mode = 2) = false := decide_eq_false (by omega)
      rw [w3, s_add _ _ _ _ (by rw [h10]; omega), ob_some, f15_j34_eq, part_f, q8, ob_some, i_eql, ob_some, d2, cnd_f]
      exact j40 _ (by simp only [List.length_append, h10]; omega) (by rw [← ht]; simp)
    · exact j34 t hl (by simpa using g) ht
  rw [partQT, ob_some, part_f, q6, ob_some]
  refine c45 q.p hok.p hf.all h2 H2 _ (by omega) ?_
  rw [w1, s_add _ _ _ _ (by rw [h8]; omega), ob_some]
  refine c39 q.wsz q.wnil q.wtip q.ws (okl_of hok hf) hf.row H2 _ (by omega) ?_
  rw [s_add _ _ _ _ (by rw [List.length_append, h8]; omega), ob_some, part_f, q7, ob_some, s_neq, ob_some]
  refine cnd_intro (fun g => ?_) (fun g => ?_)
  · have g : ¬ q.key = e0 := by simpa using g
    rw [w2, s_add _ _ _ _ (by simp only [List.length_append, h8, h14]; omega), ob_some, ob_some, strT_tx q.key, s_add _ _ _ _ (by simp only [List.length_append, h8, h14]; omega), ob_some]
    exact j28 _ (by simp only [List.length_append, h8, h14]; omega) (by simp [textS, keyT, g])
  · have g : q.key = e0 := by simpa using g
    exact j28 _ (by simp only [List.length_append, h8]; omega) (by simp [textS, keyT, g])
theorem awake_has : hasA awakeQ.p = false := by kernel_rfl
theorem awake_textS : textS awakeQ = [80, 65, 84, 84, 69, 82, 78, 32, 116, 32, 97] := by kernel_rfl
theorem c13 (H : Heap) (Q : Post) (hq : ∀ H', HExt H H' → Q (B true) H') : E 13 [] H Q := by
  have h1 : bldA [(0, 1, I 1), (1, 1, S ⟨#[97]⟩), (2, 1, S ⟨#[116]⟩)] [I 0, S e0, S e0, I 0, I 0, .sl 0 true .full []] = some (encT awakeP) := rfl
  have h2 : bldA [(0, 6, encT awakeP)] [I 0, S e0, S e0, I 0, I 0, .sl 0 true .full [], .sl 0 true .full [], S e0, I 0, I 0, .sl 0 true .full []] = some (encQ awakeQ) := rfl
  rw [f13_eq, h1, ob_some, h2, ob_some]
  refine c14 awakeQ awake_ok H _ (fun H1 e1 => ?_)
  simp only [printS, awake_fine, awake_has, ne_eq, not_true, if_false, Bool.false_eq_true]
  have hs : strT (textS awakeQ) = S ⟨#[80, 65, 84, 84, 69, 82, 78, 32, 116, 32, 97]⟩ := by rw [awake_textS]; rfl
  rw [hs, x20, ob_some, x21, ob_some, i_eql, ob_some]
  have d0 : decide ((0 : Int) = 0) = true := rfl
  rw [d0, cnd_t, s_eql, ob_some, f13_j6_eq, dS]
  exact hq H1 e1
theorem c4 (q : Qu) (hok : OkQ q) (H : Heap) (Q : Post) (hq : ∀ H', HExt H H' → Q (B true) H') : E 4 [encQ q] H Q := by
  rw [f4_eq, szQ, ob_some, partQ, ob_some, c7 q hok, not_B, ob_some]
  refine cnd_intro (fun h => c13 H _ hq) (fun h => ?_)
  rw [ob_some]
  refine c14 q hok H _ (fun H1 e1 => ?_)
  have hp : ∃ (s : ByteArray) (n : Int), printS q = .tup [S s, I n] := by
    simp only [printS]
    split
    · exact ⟨_, _, rfl⟩
    · split
      · exact ⟨_, _, rfl⟩
      · exact ⟨_, _, rfl⟩
  obtain ⟨s, n, hp⟩ := hp
  rw [hp, x20, ob_some, x21, ob_some, ob_some]
  refine c15 q hok H1 _ (fun H2 e2 => ?_)
  rw [hp, x20, ob_some, x21, ob_some, s_eql, ob_some, dS, cnd_t, i_eql, ob_some, dI, f4_c5_8a_eq, cnd_t, partQ, ob_some, ob_some]
  refine c16 q hok H2 _ (fun H3 e3 => ?_)
  refine c17 q hok H3 _ (fun H4 e4 => ?_)
  rw [b_eql 4 false u4, ob_some, f4_c5_15a_eq]
  have hbb : ∀ b : Bool, (b == b) = true := fun b => by cases b <;> rfl
  rw [hbb, cnd_t]
  refine c13 H4 _ (fun H5 e5 => ?_)
  rw [f4_c5_18a_eq, f4_j16_eq]
  exact hq H5 ((((e1.trans e2).trans e3).trans e4).trans e5)
end Go.Hx
