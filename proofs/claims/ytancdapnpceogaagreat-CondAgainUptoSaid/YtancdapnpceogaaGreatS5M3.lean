/- The tokens of a printed condition are read as it: all nodes. Own work. And what builds on it. -/
import Derived.Test.YtancdapnpceogaaGreatS5M2
import Derived.Test.YtancdapnpceogaaGreatS5M1
import Derived.Test.YtancdapnpceogaaGreatRows
import Derived.WalkKit
import Derived.ProofKit
import Derived.OpenShut
import Derived.JoinedCond
set_option maxRecDepth 20000
namespace Go.Hx
def leftLv (b : Bool) : Int := if b = true then 5 else 6
/-- a node's tokens are read as it -/
structure PBs (x : Ex) : Prop where
  bare : ∀ (l1 r : List Tk) (o : Nat), l1.map kt = bareK x → o + 2 * sizeX x ≤ 201 → stopAt (levelX x) r → P (goal (levelX x)) o (l1 ++ r) (.ok (norm x) r)
  gen : ∀ b, levelX x = leftLv b → ∀ (l1 r : List Tk) (o : Nat) (R : PR), l1.map kt = bareK x → o + 2 * sizeX x ≤ 201 → stopAt (leftLv b + 1) r → P (.lmore b (norm x)) o r R → P (.left b) o (l1 ++ r) R
theorem next_of {t : Tk} {k0 : KT} {k : Int} {s : ByteArray} (h : kt t = k0) (hn : k0 ≠ (k, s)) (r : List Tk) : nextIs k s (t :: r) = false := by
  cases hx : nextIs k s (t :: r) with
  | false => rfl
  | true =>
    have := nextIs_cons hx
    exact (hn (by rw [← h]; simp [kt, this.1, this.2])).elim
theorem lift_bare {x : Ex} (hr : allR x = true) (h : PBs x) {need : Int} (h1 : 1 ≤ need) (hn : need ≤ levelX x) (l1 r : List Tk) (o : Nat) (hl : l1.map kt = bareK x) (ho : o + 2 * sizeX x ≤ 201) (hs : stopAt need r) :
    P (goal need) o (l1 ++ r) (.ok (norm x) r) := by
  obtain ⟨k0, ks, e, g1, g2, _⟩ := (hb_bare x hr).hd
  have hb := h.bare l1 r o hl ho (hs.mono hn)
  rw [e] at hl
  obtain ⟨t, l', rfl, ht, _⟩ := List.map_eq_cons_iff.1 hl
  refine down (levelX x - need).toNat need (levelX x) (by omega) h1 (level_rng x).2 hb hs (fun g _ => ?_) (fun g _ => ?_) (fun g _ => ?_) (fun g _ => ?_)
  · exact next_of ht (g2 g) _
  · exact next_of ht (g1 g) _
  · rw [norm_k]; exact level_16 g
  · rw [norm_k]; exact level_17 g
theorem pl_of {x : Ex} (hr : allR x = true) (h : PBs x) {need : Int} (h1 : 1 ≤ need) (h7 : need ≤ 7) (l1 r : List Tk) (o : Nat) (hl : l1.map kt = exprK x need) (ho : o + 2 * sizeX x ≤ 200) (hs : stopAt need r) :
    P (goal need) o (l1 ++ r) (.ok (norm x) r) := by
  simp only [exprK, kPar] at hl
  split at hl
  · rename_i hn
    exact lift_bare hr h h1 hn l1 r o hl (by omega) hs
  · rename_i hn
    obtain ⟨a, l2, rfl, ha, hl2⟩ := List.map_eq_cons_iff.1 hl
    obtain ⟨l3, l4, rfl, h3, h4⟩ := List.map_eq_append_iff.1 hl2
    obtain ⟨b, l5, rfl, hb, h5⟩ := List.map_eq_cons_iff.1 h4
    have h5 : l5 = [] := List.map_eq_nil_iff.1 h5
    subst h5
    have inner : P (goal 1) (o + 1) (l3 ++ (b :: r)) (.ok (norm x) (b :: r)) := lift_bare hr h (by omega) (level_rng x).1 l3 (b :: r) (o + 1) h3 (by omega) (stop_shut hb r 1)
    have hx1 := one_le_sizeX x
    have hl : P (goal 8) o (a :: (l3 ++ (b :: r))) (.ok (norm x) r) := .last_ok (next_t ha _) (by omega) inner (next_t hb _)
    have e : a :: (l3 ++ [b]) ++ r = a :: (l3 ++ (b :: r)) := by simp
    rw [e]
    refine down (8 - need).toNat need 8 (by omega) h1 (by omega) hl hs (fun _ _ => ?_) (fun _ _ => ?_) (fun _ g => ?_) (fun _ g => ?_)
    · exact next_of ha (fun h => absurd (congrArg Prod.snd h) (by decide)) _
    · exact next_of ha (fun h => absurd (congrArg Prod.fst h) (by decide : ¬ (5 : Int) = 1)) _
    · rw [norm_k]; intro hk; have := level_r16 hk; omega
    · have := (level_rng x).1; omega
/-! ### Rows -/
def needR (b : Bool) : Int := if b = true then 2 else 3
theorem tail_stop {b : Bool} {l : List (Ex × List KT)} {l3 r : List Tk} (hl : l3.map kt = kJoinR (rowW b) (needR b) l) (hs : stopAt (needR b) r) : stopAt (needR b) (l3 ++ r) := by
  cases l with
  | nil =>
    have : l3 = [] := List.map_eq_nil_iff.1 hl
    subst this; exact hs
  | cons p l =>
    obtain ⟨t, l', rfl, ht, _⟩ := List.map_eq_cons_iff.1 hl
    exact stop_word ht _
theorem rowP_goal (b : Bool) : rowP b = goal (needR b) := by cases b <;> rfl
theorem leftP_goal (b : Bool) : leftP b = goal (leftLv b + 1) := by cases b <;> rfl
theorem left_goal (b : Bool) : Gl.left b = goal (leftLv b) := by cases b <;> rfl
theorem more_all (b : Bool) : ∀ (rest acc : List Ex) (l1 r : List Tk) (o : Nat), (∀ y ∈ rest, allR y = true ∧ PBs y) → l1.map kt = kJoinR (rowW b) (needR b) (bareKs rest) → o + 2 * sizeXs rest ≤ 200 → stopAt (needR b) r → nextIs 1 (rowW b) r = false →
    P (.more b acc) o (l1 ++ r) (.ok (joinE (rowK b) (acc ++ rest.map norm)) r) := by
  intro rest
  induction rest with
  | nil =>
    intro acc l1 r o _ hl _ _ hn
    have : l1 = [] := List.map_eq_nil_iff.1 hl
    subst this
    rw [List.map_nil, List.append_nil]
    exact .more_no hn
  | cons y rest ih =>
    intro acc l1 r o hy hl ho hs hn
    simp only [bareKs, kJoinR] at hl
    simp only [sizeXs] at ho
    obtain ⟨t, l2, rfl, ht, hl2⟩ := List.map_eq_cons_iff.1 hl
    obtain ⟨l3, l4, rfl, h3, h4⟩ := List.map_eq_append_iff.1 hl2
    have hp := pl_of (need := needR b) (hy y (by simp)).1 (hy y (by simp)).2 (by cases b <;> decide) (by cases b <;> decide) l3 (l4 ++ r) o h3 (by omega) (tail_stop h4 hs)
    rw [← rowP_goal] at hp
    have hm := ih (acc ++ [norm y]) l4 r o (fun z hz => hy z (by simp [hz])) h4 (by omega) hs hn
    have e : t :: (l3 ++ l4) ++ r = t :: (l3 ++ (l4 ++ r)) := by simp
    have e2 : acc ++ (y :: rest).map norm = acc ++ [norm y] ++ rest.map norm := by simp
    rw [e, e2]
    exact .more_ok (next_t ht _) hp hm
theorem parts_id {k : Int} : ∀ {l : List Ex}, (∀ y ∈ l, y.k ≠ k) → partsJ k l = l
  | [], _ => rfl
  | y :: l, h => by rw [parts_cons, if_neg (h y (by simp)), parts_id fun z hz => h z (by simp [hz])]; rfl
theorem join_id {k : Int} {l : List Ex} (h : ∀ y ∈ l, y.k ≠ k) (h2 : 2 ≤ l.length) : joinE k l = nd k nullV e0 e0 l := by
  simp only [joinE, parts_id h]
  match l, h2 with
  | _ :: _ :: _, _ => rfl
theorem bare_e0 {x : Ex} (h : bareP x = true) : x.v = nullV ∧ x.var = e0 ∧ x.fld = e0 := by
  simpa [bareP, Bool.and_eq_true, decide_eq_true_eq] using h
/-- a row -/
theorem row_all (b : Bool) {x : Ex} (hk : x.k = rowK b) (hb : bareP x = true) (hlen : 2 ≤ x.l.length) (hno : ∀ y ∈ x.l, y.k ≠ x.k) (hy : ∀ y ∈ x.l, allR y = true ∧ PBs y) (l1 r : List Tk) (o : Nat) (hl : l1.map kt = kJoinT (rowW b) (needR b) (bareKs x.l)) (ho : o + 2 * sizeX x ≤ 201)
    (hs : stopAt (needR b) r) (hn : nextIs 1 (rowW b) r = false) : P (.row b) o (l1 ++ r) (.ok (norm x) r) := by
  obtain ⟨e1, e2, e3⟩ := bare_e0 hb
  have hx : norm x = joinE (rowK b) (x.l.map norm) := by
    rw [join_id (fun y hy => by
      obtain ⟨z, hz, rfl⟩ := List.mem_map.1 hy
      rw [norm_k, ← hk]; exact hno z hz) (by rw [List.length_map]; exact hlen), norm_eq, hk, e1, e2, e3]
  rw [hx]
  rw [sizeX_eq] at ho
  cases hl' : x.l with
  | nil => rw [hl'] at hlen; simp at hlen
  | cons y rest =>
    rw [hl'] at hl hy ho
    simp only [bareKs, kJoinT] at hl
    simp only [sizeXs] at ho
    obtain ⟨l3, l4, rfl, h3, h4⟩ := List.map_eq_append_iff.1 hl
    have hp := pl_of (need := needR b) (hy y (by simp)).1 (hy y (by simp)).2 (by cases b <;> decide) (by cases b <;> decide) l3 (l4 ++ r) o h3 (by omega) (tail_stop h4 hs)
    rw [← rowP_goal] at hp
    have hm := more_all b rest [norm y] l4 r o (fun z hz => hy z (by simp [hz])) h4 (by omega) hs hn
    rw [List.append_assoc]
    exact .row_ok hp hm
/-! ### Atoms -/
theorem val_all {v : Vl} (hv : vr v) (hr : rightV v = true) (l1 r : List Tk) (o : Nat) (hl : l1.map kt = valK v) : P (if (decide (v.k = 2) && decide (v.n < 0)) = true then .neg else .last) o (l1 ++ r) (.ok (nd 1 v e0 e0 []) r) := by
  have hr0 := hr
  rw [rightV_eq hv] at hr
  have atom : ∀ {t : Tk} {y : Ex}, t.k ≠ 5 → atomR (t :: r) = .ok y r → P .last o (t :: r) (.ok y r) := fun {t y} h5 h => h ▸ .last_atom (next_k h5 r)
  simp only [valK] at hl
  by_cases h0 : v.k = 0
  · rw [if_pos h0] at hl
    rw [if_pos h0] at hr
    simp only [Bool.and_eq_true, decide_eq_true_eq] at hr
    obtain ⟨t, l', rfl, ht, hl'⟩ := List.map_eq_cons_iff.1 hl
    have : l' = [] := List.map_eq_nil_iff.1 hl'
    subst this
    have h1 : t.k = 1 := congrArg Prod.fst ht
    have h2 : t.s = sNULL := congrArg Prod.snd ht
    have hv0 : v = nullV := by cases v; simp only at h0 hr; simp [nullV, h0, hr.1, hr.2]
    rw [if_neg (by simp [h0])]
    refine atom (by omega) ?_
    simp only [atomR, h1, h2, hv0]
    rfl
  rw [if_neg h0] at hl hr
  by_cases hk1 : v.k = 1
  · rw [if_pos hk1] at hl hr
    simp only [Bool.and_eq_true, Bool.or_eq_true, decide_eq_true_eq] at hr
    obtain ⟨t, l', rfl, ht, hl'⟩ := List.map_eq_cons_iff.1 hl
    have : l' = [] := List.map_eq_nil_iff.1 hl'
    subst this
    have h1 : t.k = 1 := congrArg Prod.fst ht
    have h2 : t.s = if v.n = 1 then sTRUE else sFALSE := congrArg Prod.snd ht
    rw [if_neg (by simp [hk1])]
    refine atom (by omega) ?_
    rcases hr.1 with hn | hn
    · have hv0 : v = boolV false := by cases v; simp only at hk1 hr hn; simp [boolV, hk1, hn, hr.2]
      have h2 : t.s = sFALSE := by rw [h2, if_neg (by omega)]
      simp only [atomR, h1, h2, hv0]
      rfl
    · have hv0 : v = boolV true := by cases v; simp only at hk1 hr hn; simp [boolV, hk1, hn, hr.2]
      have h2 : t.s = sTRUE := by rw [h2, if_pos hn]
      simp only [atomR, h1, h2, hv0]
      rfl
  rw [if_neg hk1] at hl hr
  by_cases hk2 : v.k = 2
  · rw [if_pos hk2] at hl hr
    simp only [decide_eq_true_eq] at hr
    have hb := hv
    simp only [vr, rng] at hb
    have hv0 : v = intV v.n := by cases v; simp only at hk2 hr; simp [intV, hk2, hr]
    have hval : valD (tx (bs (digitsN v.n.natAbs))) = v.n.natAbs := by rw [tx_bs, digits_val]
    by_cases hneg : v.n < 0
    · rw [if_pos hneg] at hl
      rw [if_pos (by simp [hk2, hneg])]
      obtain ⟨m, l', rfl, hm, hl'⟩ := List.map_eq_cons_iff.1 hl
      obtain ⟨t, l', rfl, ht, hl''⟩ := List.map_eq_cons_iff.1 hl'
      have : l' = [] := List.map_eq_nil_iff.1 hl''
      subst this
      have h1 : t.k = 3 := congrArg Prod.fst ht
      have h2 : t.s = bs (digitsN v.n.natAbs) := congrArg Prod.snd ht
      have hnum : numOf true t.s = some v.n := by
        simp only [numOf, h2, hval, if_true]
        rw [if_pos (by omega)]
        congr 1; omega
      have : numR true (t :: r) = .ok (nd 1 v e0 e0 []) r := by
        simp only [numR, hnum]
        rw [← hv0]
      rw [← this]
      exact .neg_num (r := t :: r) (next_t hm _) h1
    · rw [if_neg hneg] at hl
      rw [if_neg (by simp [hneg])]
      obtain ⟨t, l', rfl, ht, hl''⟩ := List.map_eq_cons_iff.1 hl
      have : l' = [] := List.map_eq_nil_iff.1 hl''
      subst this
      have h1 : t.k = 3 := congrArg Prod.fst ht
      have h2 : t.s = bs (digitsN v.n.natAbs) := congrArg Prod.snd ht
      have hnum : numOf false t.s = some v.n := by
        simp only [numOf, h2, hval, Bool.false_eq_true, if_false]
        rw [if_pos (by omega)]
        congr 1; omega
      refine atom (by omega) ?_
      simp only [atomR, h1, if_true, numR, hnum]
      rw [← hv0]
  rw [if_neg hk2] at hl hr
  split at hr
  · rename_i hk3
    simp only [Bool.and_eq_true, decide_eq_true_eq] at hr
    obtain ⟨t, l', rfl, ht, hl''⟩ := List.map_eq_cons_iff.1 hl
    have : l' = [] := List.map_eq_nil_iff.1 hl''
    subst this
    have h1 : t.k = 4 := congrArg Prod.fst ht
    have h2 : t.s = v.s := congrArg Prod.snd ht
    have hv0 : textV v.s = v := by cases v; simp only at hk3 hr; simp [textV, hk3, hr.1]
    rw [if_neg (by simp [hk2])]
    refine atom (by omega) ?_
    simp only [atomR, h1, h2, hv0]
    rfl
  · cases hr
theorem pb_all (x : Ex) (hv : allX vX x) (hr : allR x = true) : PBs x := by
  induction x using Ex.ind with
  | h x ih =>
    have hv' := (allX_eq _ _).1 hv
    have hr' := hr
    rw [allR_eq, Bool.and_eq_true] at hr'
    have ih : ∀ y ∈ x.l, allR y = true ∧ PBs y := fun y hy => ⟨allRs_mem hr'.2 hy, ih y hy (allXs_mem hv'.2 hy) (allRs_mem hr'.2 hy)⟩
    have hsz := sizeX_eq x
    have hnx := norm_eq x
    have nogen : (levelX x ≠ 5 ∧ levelX x ≠ 6) → (∀ (l1 r : List Tk) (o : Nat), l1.map kt = bareK x → o + 2 * sizeX x ≤ 201 → stopAt (levelX x) r → P (goal (levelX x)) o (l1 ++ r) (.ok (norm x) r)) → PBs x := fun hne hb =>
      ⟨hb, fun b hlv => by cases b <;> simp only [leftLv, Bool.false_eq_true, if_false, if_true] at hlv <;> omega⟩
    rcases right_cases hr'.1 with ⟨hk, hl, hval, hva, hfl⟩ | ⟨hk, hl, hvn, hn1, hn2⟩ | ⟨hbare, ⟨hk, y, hl⟩ | ⟨h4, h14, y, z, hl⟩ | ⟨hk, hlen, hno⟩⟩
    · have hlv := level_low (x := x) (by omega)
      refine nogen (by rw [hlv]; split <;> omega) (fun l1 r o h1 ho hs => ?_)
      rw [bareK_eq] at h1
      simp only [bodyK, hk, if_true] at h1
      have := val_all hv'.1 hval l1 r o h1
      rw [hnx, hk, hva, hfl, hl]
      have hnk : numK x = decide (x.v.k = 2) := by simp [numK, hk]
      rw [hlv, hnk]
      split at this
      · rename_i h; rw [if_pos h]; exact this
      · rename_i h; rw [if_neg h]; exact this
    · have hlv := level_low (x := x) (by omega)
      have hnk : numK x = false := by simp [numK, hk]
      rw [hnk] at hlv
      have hlv : levelX x = 8 := hlv
      refine nogen (by omega) (fun l1 r o h1 ho hs => ?_)
      rw [bareK_eq] at h1
      simp only [bodyK, hk, if_true, if_neg (by decide : ¬ (2 : Int) = 1)] at h1
      obtain ⟨t, l1, rfl, ht, h1⟩ := List.map_eq_cons_iff.1 h1
      obtain ⟨u, l1, rfl, hu, h1⟩ := List.map_eq_cons_iff.1 h1
      obtain ⟨w, l1, rfl, hw, h1⟩ := List.map_eq_cons_iff.1 h1
      have : l1 = [] := List.map_eq_nil_iff.1 h1
      subst this
      have t1 : t.k = 2 := congrArg Prod.fst ht
      have t2 : t.s = x.var := congrArg Prod.snd ht
      have w1 : w.k = 2 := congrArg Prod.fst hw
      have w2 : w.s = x.fld := congrArg Prod.snd hw
      have hdot : nextIs 5 ⟨#[46]⟩ (u :: ([w] ++ r)) = true := next_t hu _
      have ha : atomR (t :: u :: w :: r) = .ok (norm x) r := by
        rw [hnx, hk, hvn, hl]
        simp only [atomR, t1, if_neg (by decide : ¬ (2 : Int) = 3), if_neg (by decide : ¬ (2 : Int) = 4), if_true, fieldR]
        rw [show nextIs 5 ⟨#[46]⟩ (u :: w :: r) = true from hdot]
        simp only [if_true, List.tail_cons, w1, t2, w2]
        rfl
      rw [hlv, ← ha]
      exact .last_atom (next_k (by omega) _)
    · obtain ⟨e1, e2, e3⟩ := bare_e0 hbare
      obtain ⟨hyr, hyp⟩ := ih y (by rw [hl]; simp)
      have hsx : sizeX x = 1 + sizeX y := by rw [hsz, hl]; simp [sizeXs]
      have hy1 := one_le_sizeX y
      rcases hk with hk | hk
      · have hlv := level_3 hk
        refine nogen (by omega) (fun l1 r o h1 ho hs => ?_)
        rw [bareK_eq] at h1
        simp only [bodyK, hk, hl, if_true, if_neg (by decide : ¬ (3 : Int) = 1), if_neg (by decide : ¬ (3 : Int) = 2), bareKs] at h1
        obtain ⟨m, l2, rfl, hm, h1⟩ := List.map_eq_cons_iff.1 h1
        rw [hlv, hnx, hk, e1, e2, e3, hl]
        by_cases hnp : numP y = true
        · rw [if_pos hnp] at h1
          obtain ⟨a, l3, rfl, ha, h1⟩ := List.map_eq_cons_iff.1 h1
          obtain ⟨l4, l5, rfl, h4, h1⟩ := List.map_eq_append_iff.1 h1
          obtain ⟨b, l6, rfl, hb, h1⟩ := List.map_eq_cons_iff.1 h1
          have : l6 = [] := List.map_eq_nil_iff.1 h1
          subst this
          have ha5 : a.k = 5 := congrArg Prod.fst ha
          have h4' : l4.map kt = bareK y := by rw [h4, kPar, if_pos (level_rng y).1]
          have hin : P (goal 1) (o + 2) (l4 ++ (b :: r)) (.ok (norm y) (b :: r)) := lift_bare hyr hyp (by omega) (level_rng y).1 l4 (b :: r) (o + 2) h4' (by omega) (stop_shut hb r 1)
          have hlast : P .last (o + 1) (a :: (l4 ++ (b :: r))) (.ok (norm y) r) := .last_ok (next_t ha _) (by omega) hin (next_t hb _)
          have hneg : P .neg (o + 1) (a :: (l4 ++ (b :: r))) (.ok (norm y) r) := .neg_no (next_of ha (fun h => absurd (congrArg Prod.snd h) (by decide)) _) hlast
          have e : m :: a :: (l4 ++ [b]) ++ r = m :: a :: (l4 ++ (b :: r)) := by simp
          rw [e]
          exact .neg_ok (next_t hm _) (by show a.k ≠ 3; omega) (by omega) hneg
        · rw [if_neg hnp] at h1
          obtain ⟨k0, ks, e, _, hk3⟩ := hb_par (hb_bare y hyr) 7
          have hp := pl_of (need := 7) hyr hyp (by omega) (by omega) l2 r (o + 1) h1 (by omega) (hlv ▸ hs)
          rw [e] at h1
          obtain ⟨c, l3, rfl, hc, _⟩ := List.map_eq_cons_iff.1 h1
          have : c.k ≠ 3 := by
            have h0 : c.k = k0.1 := congrArg Prod.fst hc
            rw [h0]; exact hk3 (by omega) (by simpa using hnp)
          exact .neg_ok (r := c :: l3 ++ r) (next_t hm _) this (by omega) hp
      · have hlv := level_15 hk
        refine nogen (by omega) (fun l1 r o h1 ho hs => ?_)
        rw [bareK_eq] at h1
        simp only [bodyK, hk, hl, if_true, if_neg (by decide : ¬ (15 : Int) = 1), if_neg (by decide : ¬ (15 : Int) = 2), if_neg (by decide : ¬ (15 : Int) = 3), if_neg (by decide : ¬ (15 : Int) = 17), if_neg (by decide : ¬ (15 : Int) = 16), bareKs] at h1
        obtain ⟨m, l2, rfl, hm, h1⟩ := List.map_eq_cons_iff.1 h1
        rw [hlv, hnx, hk, e1, e2, e3, hl]
        have hp := pl_of (need := 3) hyr hyp (by omega) (by omega) l2 r (o + 1) h1 (by omega) (hlv ▸ hs)
        exact .not_ok (r := l2 ++ r) (next_t hm _) (by omega) hp
    · obtain ⟨e1, e2, e3⟩ := bare_e0 hbare
      obtain ⟨hyr, hyp⟩ := ih y (by rw [hl]; simp)
      obtain ⟨hzr, hzp⟩ := ih z (by rw [hl]; simp)
      have hsx : sizeX x = 1 + (sizeX y + sizeX z) := by rw [hsz, hl]; simp [sizeXs]
      have hlv := level_big h4 h14
      have hnx : norm x = nd x.k nullV e0 e0 [norm y, norm z] := by rw [hnx, e1, e2, e3, hl]; rfl
      have hbk : bareK x = kPar y (bareK y) (need1 x.k) ++ ((5, opS (x.k - 4).toNat) :: kPar z (bareK z) (need2 x.k)) := by
        rw [bareK_eq]
        simp only [bodyK, hl, bareKs, if_neg (by omega : ¬ x.k = 1), if_neg (by omega : ¬ x.k = 2), if_neg (by omega : ¬ x.k = 3), if_neg (by omega : ¬ x.k = 17), if_neg (by omega : ¬ x.k = 16), if_neg (by omega : ¬ x.k = 15)]
      by_cases h9 : 9 ≤ x.k
      · rw [if_pos h9] at hlv
        refine nogen (by omega) (fun l1 r o h1 ho hs => ?_)
        rw [hbk] at h1
        simp only [need1, need2, if_pos h9] at h1
        obtain ⟨l2, l3, rfl, h2, h1⟩ := List.map_eq_append_iff.1 h1
        obtain ⟨t, l4, rfl, ht, h1⟩ := List.map_eq_cons_iff.1 h1
        rw [hlv] at hs ⊢
        rw [hnx, List.append_assoc]
        have hp1 := pl_of (need := 5) hyr hyp (by omega) (by omega) l2 (t :: (l4 ++ r)) o h2 (by omega) (stop_op h4 h14 ht _ (.inl ⟨h9, by omega⟩))
        have hp2 := pl_of (need := 5) hzr hzp (by omega) (by omega) l4 r o h1 (by omega) (hs.mono (by omega))
        exact .cmp_ok hp1 (by rw [op_of h4 h14 ht (.inr (.inr ⟨rfl, rfl⟩)), if_pos ⟨h9, h14⟩]) hp2
      · rw [if_neg h9] at hlv
        have key : ∀ b, levelX x = leftLv b → ∀ (l1 r : List Tk) (o : Nat) (R : PR), l1.map kt = bareK x → o + 2 * sizeX x ≤ 201 → stopAt (leftLv b + 1) r → P (.lmore b (norm x)) o r R → P (.left b) o (l1 ++ r) R := by
          intro b hb l1 r o R h1 ho hs hR
          have hkb : leftLo b ≤ x.k ∧ x.k ≤ leftHi b ∧ need1 x.k = leftLv b ∧ need2 x.k = leftLv b + 1 ∧ ((x.k ≤ 5 ∧ b = true) ∨ (6 ≤ x.k ∧ b = false)) := by
            rw [hlv] at hb
            simp only [need1, need2, if_neg h9]
            cases b
            · simp only [leftLv, leftLo, leftHi, Bool.false_eq_true, if_false] at hb ⊢
              split at hb
              · rename_i h6; rw [if_pos h6, if_pos h6]; exact ⟨h6, by omega, rfl, rfl, .inr ⟨h6, trivial⟩⟩
              · omega
            · simp only [leftLv, leftLo, leftHi, if_true] at hb ⊢
              split at hb
              · omega
              · rename_i h6; rw [if_neg h6, if_neg h6]; exact ⟨h4, by omega, rfl, rfl, .inl ⟨by omega, trivial⟩⟩
          obtain ⟨k1, k2, k3, k4, k5⟩ := hkb
          rw [hbk, k3, k4] at h1
          obtain ⟨l2, l3, rfl, h2, h1⟩ := List.map_eq_append_iff.1 h1
          obtain ⟨t, l4, rfl, ht, h1⟩ := List.map_eq_cons_iff.1 h1
          have hlb : 5 ≤ leftLv b ∧ leftLv b ≤ 6 := by cases b <;> simp [leftLv]
          have hp2 := pl_of (need := leftLv b + 1) hzr hzp (by omega) (by omega) l4 r o h1 (by omega) hs
          rw [← leftP_goal] at hp2
          have hop : opOf (leftLo b) (leftHi b) (t :: (l4 ++ r)) = some x.k := by
            rw [op_of h4 h14 ht (by cases b; exact .inl ⟨rfl, rfl⟩; exact .inr (.inl ⟨rfl, rfl⟩)), if_pos ⟨k1, k2⟩]
          have htail : P (.lmore b (norm y)) o (t :: (l4 ++ r)) R := .lmore_ok hop hp2 (by rw [← hnx]; exact hR)
          have hst : stopAt (leftLv b + 1) (t :: (l4 ++ r)) := stop_op h4 h14 ht _ (by
            rcases k5 with ⟨h5, rfl⟩ | ⟨h6, rfl⟩
            · exact .inr (.inl ⟨h5, by simp [leftLv]⟩)
            · exact .inr (.inr ⟨h6, by simp [leftLv]⟩))
          rw [List.append_assoc]
          by_cases hly : levelX y = leftLv b
          · have h2' : l2.map kt = bareK y := by rw [h2, kPar, if_pos (by omega)]
            exact hyp.gen b hly l2 (t :: (l4 ++ r)) o R h2' (by omega) hst htail
          · have h2' : l2.map kt = exprK y (leftLv b + 1) := by
              rw [h2, exprK, kPar, kPar]
              by_cases hg : leftLv b ≤ levelX y
              · rw [if_pos hg, if_pos (by omega)]
              · rw [if_neg hg, if_neg (by omega)]
            have hp1 := pl_of (need := leftLv b + 1) hyr hyp (by omega) (by omega) l2 (t :: (l4 ++ r)) o h2' (by omega) hst
            rw [← leftP_goal] at hp1
            exact .left_ok hp1 htail
        refine ⟨fun l1 r o h1 ho hs => ?_, key⟩
        have hb : ∃ b, levelX x = leftLv b := by
          rw [hlv]
          split
          · exact ⟨false, rfl⟩
          · exact ⟨true, rfl⟩
        obtain ⟨b, hb⟩ := hb
        rw [hb] at hs ⊢
        rw [← left_goal]
        refine key b hb l1 r o _ h1 ho (hs.mono (by omega)) (.lmore_no ?_)
        cases b
        · exact hs.1 (by simp [leftLv])
        · exact hs.2.1 (by simp [leftLv])
    · rcases hk with hk | hk
      · have hlv := level_r16 hk
        refine nogen (by omega) (fun l1 r o h1 ho hs => ?_)
        rw [bareK_eq] at h1
        simp only [bodyK, hk, if_true, if_neg (by decide : ¬ (16 : Int) = 1), if_neg (by decide : ¬ (16 : Int) = 2), if_neg (by decide : ¬ (16 : Int) = 3), if_neg (by decide : ¬ (16 : Int) = 17)] at h1
        rw [hlv] at hs ⊢
        exact row_all false hk hbare hlen hno ih l1 r o h1 ho (hs.mono (by decide)) (hs.2.2.2.1 (by omega))
      · have hlv := level_r17 hk
        refine nogen (by omega) (fun l1 r o h1 ho hs => ?_)
        rw [bareK_eq] at h1
        simp only [bodyK, hk, if_true, if_neg (by decide : ¬ (17 : Int) = 1), if_neg (by decide : ¬ (17 : Int) = 2), if_neg (by decide : ¬ (17 : Int) = 3)] at h1
        rw [hlv] at hs ⊢
        exact row_all true hk hbare hlen hno ih l1 r o h1 ho (hs.mono (by decide)) (hs.2.2.2.2 (by omega))
end Go.Hx
namespace Go.Hx
theorem text_back {x : Ex} (hv : allX vX x) (hc : checkP x = 0) (hs : sizeX x ≤ 1152921504606846975) (hl : (exprT x 1).length ≤ 8192) : TextR (bs (exprT x 1)) (.ok (norm x)) := by
  have hr := checkP_all hc
  have h100 := check_size hc hs
  have hsz : (bs (exprT x 1)).size = (exprT x 1).length := by rw [← size_list]
  obtain ⟨l1, e1, m1⟩ := (lb_expr x hv hr 1).lx 0 [] [⟨6, e0, 0 + (exprT x 1).length⟩] calm_nil (by rw [lexW])
  rw [List.append_nil] at e1
  have hlex : lexA (bs (exprT x 1)) = .ok (l1 ++ [⟨6, e0, 0 + (exprT x 1).length⟩]) := by
    rw [lexA, if_neg (by omega)]
    have : tx (bs (exprT x 1)) = exprT x 1 := tx_bs _
    rw [this]; exact e1
  have hp := pl_of hr (pb_all x hv hr) (need := 1) (by omega) (by omega) l1 [⟨6, e0, 0 + (exprT x 1).length⟩] 0 m1 (by omega) (stop_nosign (by show (6 : Int) ≠ 5; omega) (by show (6 : Int) ≠ 1; omega) _ _)
  exact .ok hlex hp (by rw [norm_check hs]; exact hc) rfl
/-- printing sees no slices -/
theorem norm_level (x : Ex) : levelX (norm x) = levelX x := by
  simp only [levelX, numK, norm_k, norm_v]
  rfl
theorem norm_bare (x : Ex) : bareT (norm x) = bareT x := by
  induction x using Ex.ind with
  | h x ih =>
    have hl : ∀ l : List Ex, (∀ y ∈ l, bareT (norm y) = bareT y) → ∀ need sep, joinR sep need (bareTs (l.map norm)) = joinR sep need (bareTs l) := by
      intro l
      induction l with
      | nil => intro _ _ _; rfl
      | cons y l ihl =>
        intro h need sep
        simp only [List.map_cons, bareTs, joinR, ihl (fun z hz => h z (by simp [hz])), h y (by simp), parT, norm_level]
    have hj : ∀ need sep, joinT sep need (bareTs (x.l.map norm)) = joinT sep need (bareTs x.l) := by
      intro need sep
      cases hx : x.l with
      | nil => rfl
      | cons y l =>
        have h1 := hl l (fun z hz => ih z (by rw [hx]; simp [hz])) need sep
        simp only [List.map_cons, bareTs, joinT, h1, ih y (by rw [hx]; simp), parT, norm_level]
    rw [bareT_eq, bareT_eq x, norm_k, norm_v, norm_var, norm_fld, norm_l]
    simp only [bodyT, hj]
    cases hx : x.l with
    | nil => rfl
    | cons y l =>
      have hy := ih y (by rw [hx]; simp)
      cases l with
      | nil => simp only [List.map_cons, List.map_nil, bareTs, hy, parT, norm_level, numP, numK, norm_k, norm_v]
      | cons z l =>
        have hz := ih z (by rw [hx]; simp)
        simp only [List.map_cons, bareTs, hy, hz, parT, norm_level, numP, numK, norm_k, norm_v]
theorem norm_expr (x : Ex) (need : Int) : exprT (norm x) need = exprT x need := by
  simp only [exprT, parT, norm_bare, norm_level]
theorem norm_expr2 {x y : Ex} (h : norm x = norm y) (need : Int) : exprT x need = exprT y need := by rw [← norm_expr x, h, norm_expr]
/-! ### Places -/
theorem lexW_pos : ∀ (m p : Nat) (r : List UInt8), r.length ≤ m → ∀ l, lexW p r = .ok l → ∀ t ∈ l, t.p ≤ p + r.length := by
  intro m
  induction m with
  | zero =>
    intro p r hr l h
    have : r = [] := List.eq_nil_of_length_eq_zero (by omega)
    subst this
    rw [lexW] at h; cases h
    intro t ht; simp at ht; subst ht; show p ≤ _; omega
  | succ m ih =>
    intro p r hr l h
    cases r with
    | nil =>
      rw [lexW] at h; cases h
      intro t ht; simp at ht; subst ht; show p ≤ _; omega
    | cons c r =>
      rw [lexW] at h
      simp only [List.length_cons] at hr ⊢
      split at h
      · intro t ht
        have := ih _ r (by omega) _ h t ht; omega
      · split at h
        · cases h
        · rename_i k w n hL
          have hn := lex1_len hL
          simp only [List.length_cons] at hn
          split at h
          · cases h
          · rename_i l' hl'
            cases h
            have := ih _ (r.drop (n - 1)) (by simp; omega) _ hl'
            intro t ht
            rcases List.mem_cons.1 ht with rfl | ht
            · show p ≤ _; omega
            · have := this t ht
              simp only [List.length_drop] at this; omega
theorem lexA_pos {s : ByteArray} {l : List Tk} (h : lexA s = .ok l) : ∀ t ∈ l, t.p ≤ s.size := by
  simp only [lexA] at h
  split at h
  · cases h
  · have hs : (tx s).length = s.size := size_list s
    intro t ht
    have := lexW_pos _ 0 (tx s) (Nat.le_refl _) _ h t ht; omega
theorem posn_le {n : Nat} {r : List Tk} (h : ∀ t ∈ r, t.p ≤ n) : posn r ≤ n := by
  cases r with
  | nil => exact Nat.zero_le _
  | cons t r => exact h t (by simp)
theorem numR_pos {m : Bool} {r : List Tk} {e : Int} {p n : Nat} (h : numR m r = .bad e p) (hr : ∀ t ∈ r, t.p ≤ n) : p ≤ n := by
  cases r with
  | nil => cases h; exact Nat.zero_le _
  | cons t r =>
    simp only [numR] at h
    split at h <;> cases h
    exact hr t (by simp)
theorem atomR_pos {r : List Tk} {e : Int} {p n : Nat} (h : atomR r = .bad e p) (hr : ∀ t ∈ r, t.p ≤ n) : p ≤ n := by
  cases r with
  | nil => cases h; exact Nat.zero_le _
  | cons t r =>
    have ht := hr t (by simp)
    have hr' : ∀ u ∈ r, u.p ≤ n := fun u hu => hr u (by simp [hu])
    simp only [atomR] at h
    split at h
    · exact numR_pos h hr
    · split at h
      · cases h
      · split at h
        · simp only [fieldR] at h
          split at h
          · rename_i hn
            obtain ⟨u, r2, rfl, _, _⟩ := nextIs_ne hn
            simp only [List.tail_cons] at h
            split at h
            · cases h; exact Nat.zero_le _
            · split at h
              · cases h
              · cases h; exact hr' _ (by simp)
          · cases h; exact posn_le hr'
        · split at h
          · split at h
            · cases h
            · cases h; exact ht
          · cases h; exact ht
theorem P_pos {g : Gl} {o : Nat} {r : List Tk} {R : PR} (h : P g o r R) : ∀ n, endsT r → (∀ t ∈ r, t.p ≤ n) → ∀ e p, R = .bad e p → p ≤ n := by
  have tl : ∀ {k : Int} {s : ByteArray} {t : Tk} {r : List Tk}, k ≠ 6 → nextIs k s (t :: r) = true → endsT (t :: r) → endsT r := fun hk h he => endsT_tail he (by rw [(nextIs_cons h).1]; exact hk)
  have tl5 : ∀ {lo hi k : Int} {t : Tk} {r : List Tk}, opOf lo hi (t :: r) = some k → endsT (t :: r) → endsT r := fun h he => endsT_tail he (by rw [opOf_cons h]; decide)
  have tm : ∀ {t : Tk} {r : List Tk} {n : Nat}, (∀ u ∈ t :: r, u.p ≤ n) → ∀ u ∈ r, u.p ≤ n := fun h u hu => h u (by simp [hu])
  induction h with
  | row_bad _ ih => exact ih
  | row_ok h1 _ _ ih => intro n he hn; have hs : Suf _ _ := P_suf h1 he; exact ih n hs.1 (hs.mem hn)
  | more_no => intro n _ _ e p h; cases h
  | more_bad hx _ ih => intro n he hn; exact ih n (tl (by decide) hx he) (tm hn)
  | more_ok hx h1 _ _ ih => intro n he hn; have he' := tl (by decide) hx he; have hs : Suf _ _ := P_suf h1 he'; exact ih n hs.1 (hs.mem (tm hn))
  | not_no _ _ ih => exact ih
  | not_long => intro n _ hn e p h; cases h; exact posn_le hn
  | not_bad hx _ _ ih => intro n he hn; exact ih n (tl (by decide) hx he) (tm hn)
  | not_ok => intro n _ _ e p h; cases h
  | cmp_bad _ ih => exact ih
  | cmp_no => intro n _ _ e p h; cases h
  | cmp_bad2 h1 hk _ _ ih => intro n he hn; have hs : Suf _ _ := P_suf h1 he; exact ih n (tl5 hk hs.1) (tm (hs.mem hn))
  | cmp_ok => intro n _ _ e p h; cases h
  | left_bad _ ih => exact ih
  | left_ok h1 _ _ ih => intro n he hn; have hs : Suf _ _ := P_suf h1 he; exact ih n hs.1 (hs.mem hn)
  | lmore_no => intro n _ _ e p h; cases h
  | lmore_bad hk _ ih => intro n he hn; exact ih n (tl5 hk he) (tm hn)
  | lmore_ok hk h1 _ _ ih => intro n he hn; have he' := tl5 hk he; have hs : Suf _ _ := P_suf h1 he'; exact ih n hs.1 (hs.mem (tm hn))
  | neg_no _ _ ih => exact ih
  | neg_num _ _ => intro n _ hn e p h; exact numR_pos h (tm hn)
  | neg_long => intro n _ hn e p h; cases h; exact hn _ (by simp)
  | neg_bad hx _ _ _ ih => intro n he hn; exact ih n (tl (by decide) hx he) (tm hn)
  | neg_ok => intro n _ _ e p h; cases h
  | last_atom _ => intro n _ hn e p h; exact atomR_pos h hn
  | last_long => intro n _ hn e p h; cases h; exact posn_le hn
  | last_bad hx _ _ ih => intro n he hn; exact ih n (tl (by decide) hx he) (tm hn)
  | last_open hx _ h1 _ _ => intro n he hn e p h; cases h; have hs : Suf _ _ := P_suf h1 (tl (by decide) hx he); exact posn_le (hs.mem (tm hn))
  | last_ok => intro n _ _ e p h; cases h
theorem TextR_le {s : ByteArray} {p : Nat} {e : Int} (h : TextR s (.bad p e)) : p ≤ s.size := by
  cases h with
  | lex h => exact (lexA_bad h).1
  | bad h hP => exact P_pos hP _ (lexA_len h).2 (lexA_pos h) _ _ rfl
  | long h hP _ => exact posn_le (lexA_pos h)
  | more h hP _ _ => have hs : Suf _ _ := P_suf hP (lexA_len h).2; exact posn_le (hs.mem (lexA_pos h))
end Go.Hx
namespace Go.Hx
theorem less_self (l : List UInt8) : Op.bytesLess l l = false := by
  induction l with
  | nil => rfl
  | cons c l ih => simp [Op.bytesLess, ih]
theorem c265 (a : Int) (H : Heap) (Q : Post) : E 265 [I a] H Q = Q (B false) H := by simp [f265_eq, i_neq, ob_some]
theorem c291 (a : Int) (H : Heap) (Q : Post) : E 291 [I a] H Q = Q (B false) H := by simp [f291_eq, i_neq, ob_some]
theorem c267 (a : ByteArray) (H : Heap) (Q : Post) : E 267 [S a] H Q = Q (B false) H := by simp [f267_eq, s_neq, ob_some]
theorem c203 (a : Int) (H : Heap) (Q : Post) : E 203 [I a, I a] H Q = Q (I 0) H := by
  have h : decide (a < a) = false := decide_eq_false (by omega)
  simp only [f203_eq, c265, i_lss, i_gtr, ob_some, h, cnd_f]
theorem c266 (a : Int) (H : Heap) (Q : Post) : E 266 [I a, I a] H Q = Q (I 0) H := by
  have h : decide (a < a) = false := decide_eq_false (by omega)
  simp only [f266_eq, c291, i_lss, i_gtr, ob_some, h, cnd_f]
theorem c205 (a : ByteArray) (H : Heap) (Q : Post) : E 205 [S a, S a] H Q = Q (I 0) H := by
  have h1 : (!(Op.bytesLess a.toList a.toList || a.toList == a.toList)) = false := by simp
  simp only [f205_eq, c267, s_lss, s_gtr, ob_some, less_self, h1, cnd_f]
  have h2 : (!(false || a.toList == a.toList)) = false := by simp
  simp only [h2, cnd_f]
theorem c204 (v : Vl) (H : Heap) (Q : Post) : E 204 [encV v, encV v] H Q = Q (I 0) H := by
  have h0 : sizedA 3 (encV v) = some [I v.k, I v.n, S v.s] := rfl
  have z : (!decide ((0 : Int) = 0)) = false := rfl
  simp only [f204_eq, h0, part_f, ob_some, c203, c266, c205, i_neq, decide_true, Bool.not_true, cnd_f, List.getElem?_cons_zero, List.getElem?_cons_succ]
theorem c202 (H : Heap) (Q : Post) : E 202 [.sl 1 false .full [I 0, I 0, I 0, I 0, I 0]] H Q = Q (I 0) H := by
  have hl : lenA (.sl 1 false .full [I 0, I 0, I 0, I 0, I 0]) = some (I 5) := rfl
  have hx : ∀ i : Nat, i < 5 → ixaA 1 (.sl 1 false .full [I 0, I 0, I 0, I 0, I 0]) (I i) = some [I 0] := fun i hi => by
    match i, hi with
    | 0, _ | 1, _ | 2, _ | 3, _ | 4, _ => rfl
    | n + 5, h => exact absurd h (by omega)
  have z : (!decide ((0 : Int) = 0)) = false := rfl
  have step : ∀ (m i : Nat), i + m = 5 → f202_l8 (I 0) (.sl 1 false .full [I 0, I 0, I 0, I 0, I 0]) (I 5) (I i) H Q = Q (I 0) H := by
    intro m
    induction m with
    | zero =>
      intro i e
      have : decide ((i : Int) < 5) = false := decide_eq_false (by omega)
      rw [f202_l8_eq, i_lss, ob_some, this, cnd_f]
    | succ m ih =>
      intro i e
      have : decide ((i : Int) < 5) = true := decide_eq_true (by omega)
      rw [f202_l8_eq, i_lss, ob_some, this, cnd_t, hx i (by omega), ob_some, part_f, List.getElem?_cons_zero, ob_some, i_neq, ob_some, z, cnd_f, i_add, ob_some, w64_succ (n := 5) (by omega) (by omega)]
      exact ih (i + 1) (by omega)
  rw [f202_eq, hl, ob_some]
  exact step 5 0 rfl
theorem mk5 : mkSlA 1 [I 0, I 0, I 0, I 0, I 0] = some (.sl 1 false .full [I 0, I 0, I 0, I 0, I 0]) := rfl
theorem q4X (x : Ex) : partA false 4 1 (encC x) = some (S x.var) := by rw [encC_eq]; rfl
theorem q5X (x : Ex) : partA false 5 1 (encC x) = some (S x.fld) := by rw [encC_eq]; rfl
theorem q6X' (x : Ex) : partA false 6 1 (encC x) = some (encXs x.sz x.nil x.tip x.l) := by rw [encC_eq]; rfl
theorem q0X' (x : Ex) : partA false 0 1 (encC x) = some (I x.k) := by rw [encC_eq]; rfl
theorem same_fields {x y : Ex} (h : norm x = norm y) : x.k = y.k ∧ x.v = y.v ∧ x.var = y.var ∧ x.fld = y.fld ∧ x.l.map norm = y.l.map norm := by
  rw [norm_eq, norm_eq y] at h
  simp only [nd, Ex.mk.injEq] at h
  exact ⟨h.1, h.2.1, h.2.2.1, h.2.2.2.1, h.2.2.2.2.2.2.2⟩
theorem same_len {x y : Ex} (h : norm x = norm y) : x.l.length = y.l.length := by
  have := congrArg List.length (same_fields h).2.2.2.2
  simpa using this
theorem c127 {x y : Ex} (h : norm x = norm y) (H : Heap) (Q : Post) : E 127 [encX x, encX y] H Q = Q (I 0) H := by
  obtain ⟨h1, h2, h3, h4, _⟩ := same_fields h
  have h5 := same_len h
  simp only [f127_eq, szX, ob_some, q0X', partXV, q4X, q5X, q6X', lenX, h1, h2, h3, h4, h5, c203, c204, c205, mk5, c202]
theorem get_split {l pre r : List Ex} {x : Ex} (e : l = pre ++ x :: r) : l[pre.length]? = some x := by rw [e]; simp
theorem c59 (x : Ex) : ∀ (y : Ex), norm x = norm y → sizeX x ≤ 1099511627776 → ∀ (H : Heap) (Q : Post), E 59 [encX x, encX y] H Q = Q (I 0) H := by
  induction x using Ex.ind with
  | h x ih =>
    intro y h hs H Q
    have z : (!decide ((0 : Int) = 0)) = false := rfl
    have hln := same_len h
    have hmap := (same_fields h).2.2.2.2
    have hsx := sizeX_eq x
    have hll := len_sizeXs x.l
    have loop : ∀ (r pre : List Ex) (r' pre' : List Ex), x.l = pre ++ r → y.l = pre' ++ r' → pre.length = pre'.length → r.map norm = r'.map norm → f59_l16 (encC y) (encXs x.sz x.nil x.tip x.l) (I x.l.length) (I pre.length) H Q = Q (I 0) H := by
      intro r
      induction r with
      | nil =>
        intro pre r' pre' e e' hp _
        have hlt : (pre.length : Int) = x.l.length := by rw [e]; simp
        rw [f59_l16_eq, i_lss, ob_some, cnd_B, hlt]
        simp
      | cons a r ihr =>
        intro pre r' pre' e e' hp hm
        cases r' with
        | nil => simp at hm
        | cons b r' =>
          simp only [List.map_cons, List.cons.injEq] at hm
          have hlt : pre.length < x.l.length := by rw [e]; simp
          have hlt' : (pre.length : Int) < x.l.length := by omega
          have ham : a ∈ x.l := by rw [e]; simp
          have hsa : sizeX a ≤ sizeXs x.l := by rw [e, sizeXs_append]; simp only [sizeXs]; omega
          have hxb : ixaA 7 (encXs y.sz y.nil y.tip y.l) (I pre.length) = some (encC b) := by rw [hp]; exact ixX y.l y.sz y.nil y.tip pre' r' b e'
          rw [f59_l16_eq, i_lss, ob_some, cnd_B, if_pos (by simpa using hlt'), ixX x.l x.sz x.nil x.tip pre r a e, ob_some, partX, ob_some, szX, ob_some, splX, ob_some, partX, ob_some, q6X', ob_some, hxb, ob_some, partX, ob_some, ih a ham b hm.1 (by omega), i_neq, ob_some, z, cnd_f, i_add, ob_some, w64_succ hlt (by omega)]
          have := ihr (pre ++ [a]) r' (pre' ++ [b]) (by simp [e]) (by simp [e']) (by simp [hp]) hm.2
          rw [List.length_append, List.length_singleton] at this
          exact this
    rw [f59_eq, szX, ob_some, szX, ob_some, partX, ob_some, partX, ob_some, c127 h, i_neq, ob_some, z, cnd_f, q6X', ob_some, lenX, ob_some]
    exact loop x.l [] y.l [] rfl rfl rfl hmap
theorem c29 {x y : Ex} (h : norm x = norm y) (hs : sizeX x ≤ 1099511627776) (H : Heap) (Q : Post) : E 29 [encX x, encX y] H Q = Q (B true) H := by
  have z : decide ((0 : Int) = 0) = true := rfl
  rw [f29_eq, szX, ob_some, szX, ob_some, partX, ob_some, partX, ob_some, c59 x y h hs, i_eql, ob_some, z]
/-! ### The document's -/
theorem c101 (a : Int) (H : Heap) (Q : Post) : E 101 [I a, I a] H Q = Q (I 0) H := by
  have h : decide (a = a) = true := decide_eq_true rfl
  simp only [f101_eq, i_eql, ob_some, decide_true, cnd_t]
theorem c103 (a : ByteArray) (H : Heap) (Q : Post) : E 103 [S a, S a] H Q = Q (I 0) H := by
  have h : decide (a = a) = true := decide_eq_true rfl
  simp only [f103_eq, s_eql, ob_some, decide_true, cnd_t]
theorem c102 (v : Vl) (H : Heap) (Q : Post) : E 102 [encV v, encV v] H Q = Q (I 0) H := by
  have h0 : sizedA 3 (encV v) = some [I v.k, I v.n, S v.s] := rfl
  have h1 : partA true 0 3 [I v.k, I v.n, S v.s] = some (encV v) := rfl
  have h : decide (v = v) = true := decide_eq_true rfl
  rw [f102_eq, h0, ob_some, ob_some, h1, ob_some, ob_some, v_eql, ob_some, h, cnd_t]
theorem c46_l (b1 b2 : List AV) (H : Heap) (Q : Post) : f46_l8 b1 b2 (.sl 1 false .full [I 0, I 0, I 0, I 0, I 0]) (I 0) H Q = f46_l29 b1 b2 (I 0) H Q := by
  have hl : lenA (.sl 1 false .full [I 0, I 0, I 0, I 0, I 0]) = some (I 5) := rfl
  have hx : ∀ i : Nat, i < 5 → ixaA 1 (.sl 1 false .full [I 0, I 0, I 0, I 0, I 0]) (I i) = some [I 0] := fun i hi => by
    match i, hi with
    | 0, _ | 1, _ | 2, _ | 3, _ | 4, _ => rfl
    | n + 5, h => exact absurd h (by omega)
  have z : (!decide ((0 : Int) = 0)) = false := rfl
  have step : ∀ (m i : Nat), i + m = 5 → f46_l8 b1 b2 (.sl 1 false .full [I 0, I 0, I 0, I 0, I 0]) (I i) H Q = f46_l29 b1 b2 (I 0) H Q := by
    intro m
    induction m with
    | zero =>
      intro i e
      have : decide ((i : Int) < 5) = false := decide_eq_false (by omega)
      rw [f46_l8_eq, hl, ob_some, i_lss, ob_some, this, cnd_f]
    | succ m ih =>
      intro i e
      have : decide ((i : Int) < 5) = true := decide_eq_true (by omega)
      rw [f46_l8_eq, hl, ob_some, i_lss, ob_some, this, cnd_t, hx i (by omega), ob_some, part_f, List.getElem?_cons_zero, ob_some, i_neq, ob_some, z, cnd_f, i_add, ob_some, w64_succ (n := 5) (by omega) (by omega)]
      exact ih (i + 1) (by omega)
  exact step 5 0 rfl
theorem c46 (x : Ex) : ∀ (y : Ex), norm x = norm y → sizeX x ≤ 1099511627776 → ∀ (H : Heap) (Q : Post), E 46 [encX x, encX y] H Q = Q (I 0) H := by
  induction x using Ex.ind with
  | h x ih =>
    intro y h hs H Q
    have z : (!decide ((0 : Int) = 0)) = false := rfl
    obtain ⟨h1, h2, h3, h4, hmap⟩ := same_fields h
    have hln := same_len h
    have hsx := sizeX_eq x
    have hll := len_sizeXs x.l
    have loop : ∀ (r pre : List Ex) (r' pre' : List Ex), x.l = pre ++ r → y.l = pre' ++ r' → pre.length = pre'.length → r.map norm = r'.map norm → f46_l29 (encC x) (encC y) (I pre.length) H Q = Q (I 0) H := by
      intro r
      induction r with
      | nil =>
        intro pre r' pre' e e' hp _
        have hlt : (pre.length : Int) = x.l.length := by rw [e]; simp
        rw [f46_l29_eq, q6X', ob_some, lenX, ob_some, i_lss, ob_some, cnd_B, hlt]
        simp only [Int.lt_irrefl, decide_false, Bool.false_eq_true, if_false]
        rw [f46_j33_eq, cnd_f]
      | cons a r ihr =>
        intro pre r' pre' e e' hp hm
        cases r' with
        | nil => simp at hm
        | cons b r' =>
          simp only [List.map_cons, List.cons.injEq] at hm
          have hlt : pre.length < x.l.length := by rw [e]; simp
          have hlt' : (pre.length : Int) < x.l.length := by omega
          have hlty : decide ((pre.length : Int) < y.l.length) = true := decide_eq_true (by rw [← hln]; omega)
          have ham : a ∈ x.l := by rw [e]; simp
          have hsa : sizeX a ≤ sizeXs x.l := by rw [e, sizeXs_append]; simp only [sizeXs]; omega
          have hxb : ixaA 7 (encXs y.sz y.nil y.tip y.l) (I pre.length) = some (encC b) := by rw [hp]; exact ixX y.l y.sz y.nil y.tip pre' r' b e'
          rw [f46_l29_eq, q6X', ob_some, lenX, ob_some, i_lss, ob_some, cnd_B, if_pos (by simpa using hlt'), q6X', ob_some, lenX, ob_some, i_lss, ob_some, hlty, f46_j33_eq, cnd_t, q6X', ob_some, ixX x.l x.sz x.nil x.tip pre r a e, ob_some, partX, ob_some, q6X', ob_some, hxb, ob_some, partX, ob_some, ih a ham b hm.1 (by omega), i_neq, ob_some, z, cnd_f, i_add, ob_some, w64_succ hlt (by omega)]
          have := ihr (pre ++ [a]) r' (pre' ++ [b]) (by simp [e]) (by simp [e']) (by simp [hp]) hm.2
          rw [List.length_append, List.length_singleton] at this
          exact this
    simp only [f46_eq, szX, ob_some, q0X', partXV, q4X, q5X, q6X', lenX, h1, h2, h3, h4, hln, c101, c102, c103, mk5, c46_l]
    exact loop x.l [] y.l [] rfl rfl rfl hmap
theorem c15 {x y : Ex} (h : norm x = norm y) (hs : sizeX x ≤ 1099511627776) (H : Heap) (Q : Post) : E 15 [encX x, encX y] H Q = Q (B true) H := by
  have z : decide ((0 : Int) = 0) = true := rfl
  rw [f15_eq, szX, ob_some, szX, ob_some, partX, ob_some, partX, ob_some, c46 x y h hs, i_eql, ob_some, z]
end Go.Hx
namespace Go.Hx
theorem c117 (k : Int) (h4 : 4 ≤ k) (h14 : k ≤ 14) (H : Heap) (Q : Post) (hq : Q (strT (tx (opS (k - 4).toNat))) H) : E 117 [I k] H Q := by
  have hm : mkSlA 1 [S ⟨#[43]⟩, S ⟨#[45]⟩, S ⟨#[42]⟩, S ⟨#[47]⟩, S ⟨#[37]⟩, S ⟨#[61]⟩, S ⟨#[60, 62]⟩, S ⟨#[60]⟩, S ⟨#[60, 61]⟩, S ⟨#[62]⟩, S ⟨#[62, 61]⟩] = some (.sl 1 false .full (signL.map S)) := rfl
  have hj : W64 (k - 4) = (((k - 4).toNat : Nat) : Int) := by rw [w64_id (by omega) (by omega)]; omega
  have hi : ∀ j : Nat, j < 11 → ixaA 1 (.sl 1 false .full (signL.map S)) (I j) = some [S (opS j)] := fun j hj => by
    match j, hj with
    | 0, _ | 1, _ | 2, _ | 3, _ | 4, _ | 5, _ | 6, _ | 7, _ | 8, _ | 9, _ | 10, _ => rfl
    | n + 11, h => exact absurd h (by omega)
  rw [f117_eq, hm, ob_some, i_sub, ob_some, hj, hi _ (by omega), ob_some, part_f, List.getElem?_cons_zero, ob_some]
  exact hq
def Puts (x : Ex) : Prop := ∀ (need : Int) (H : Heap) (Q : Post), (exprT x need).length ≤ 140737488355328 → Q (strT (exprT x need)) H → E 54 [encX x, I need] H Q
theorem c56 (w : List UInt8) (need : Int) (sz : Nat) (nil : Bool) (tip : Tip) (l : List Ex) (hn : l.length ≤ 1099511627776) (hp : ∀ x ∈ l, Puts x) (H : Heap) (Q : Post)
    (hl : (joinT (32 :: (w ++ [32])) need (bareTs l)).length ≤ 140737488355328) (hq : Q (strT (joinT (32 :: (w ++ [32])) need (bareTs l))) H) : E 56 [encXs sz nil tip l, strT w, I need] H Q := by
  have e32 : S ⟨#[32]⟩ = strT [32] := rfl
  have loop : ∀ (r pre : List Ex) (acc : List UInt8), l = pre ++ r → pre ≠ [] → acc.length + (joinR (32 :: (w ++ [32])) need (bareTs r)).length ≤ 140737488355328 → Q (strT (acc ++ joinR (32 :: (w ++ [32])) need (bareTs r))) H →
      f56_l8 (encXs sz nil tip l) (strT w) (I need) (strT acc) (I pre.length) H Q := by
    intro r
    induction r with
    | nil =>
      intro pre acc e _ hl hq
      have h1 : (pre.length : Int) = l.length := by rw [e]; simp
      rw [f56_l8_eq, lenX, ob_some, i_lss, ob_some, cnd_B, h1]
      simp only [Int.lt_irrefl, decide_false, Bool.false_eq_true, if_false]
      simpa [joinR, bareTs] using hq
    | cons x r ih =>
      intro pre acc e hne hl hq
      have hlt : pre.length < l.length := by rw [e]; simp
      have hlt' : (pre.length : Int) < l.length := by omega
      have hp0 : 0 < pre.length := List.length_pos_iff.2 hne
      have hgt : decide ((0 : Int) < (pre.length : Int)) = true := by simp; omega
      simp only [bareTs, joinR, List.length_append, List.length_cons, List.length_nil] at hl hq
      have hle : (exprT x need).length = (parT x (bareT x) need).length := rfl
      rw [f56_l8_eq, lenX, ob_some, i_lss, ob_some, cnd_B, if_pos (by simpa using hlt'), i_gtr, ob_some, hgt, cnd_t, e32, s_add _ _ _ _ (by simp only [List.length_singleton]; omega), ob_some, s_add _ _ _ _ (by simp only [List.length_append, List.length_singleton]; omega), ob_some,
        s_add _ _ _ _ (by simp only [List.length_append, List.length_singleton]; omega), ob_some, f56_j23_eq, ixX l sz nil tip pre r x e, ob_some, partX, ob_some]
      refine hp x (by rw [e]; simp) need H _ (by omega) ?_
      rw [s_add _ _ _ _ (by simp only [List.length_append, List.length_singleton]; omega), ob_some, i_add, ob_some, w64_succ hlt (by omega)]
      have := ih (pre ++ [x]) (acc ++ [32] ++ w ++ [32] ++ exprT x need) (by simp [e]) (by simp) (by simp only [List.length_append, List.length_singleton]; omega) (by simpa [exprT] using hq)
      rw [List.length_append, List.length_singleton] at this
      exact this
  rw [f56_eq]
  have e0s : S ⟨#[]⟩ = strT [] := rfl
  cases hc : l with
  | nil =>
    rw [hc] at hq
    rw [f56_l8_eq, lenX, ob_some, i_lss, ob_some, cnd_B]
    simp only [List.length_nil, Int.natCast_zero, Int.lt_irrefl, decide_false, Bool.false_eq_true, if_false]
    exact hq
  | cons x r =>
    rw [← hc]
    have hlt : 0 < l.length := by rw [hc]; simp
    have hlt' : (0 : Int) < l.length := by omega
    rw [hc] at hl hq
    simp only [bareTs, joinT, List.length_append] at hl hq
    have hle : (exprT x need).length = (parT x (bareT x) need).length := rfl
    have i1 : ixaA 7 (encXs sz nil tip l) (I 0) = some (encC x) := ixX l sz nil tip [] r x hc
    have h00 : decide ((0 : Int) < 0) = false := rfl
    rw [f56_l8_eq, lenX, ob_some, i_lss, ob_some, cnd_B, if_pos (by simpa using hlt'), i_gtr, ob_some, h00, cnd_f, f56_j23_eq, i1, ob_some, partX, ob_some]
    refine hp x (by rw [hc]; simp) need H _ (by omega) ?_
    rw [e0s, s_add _ _ _ _ (by simp only [List.length_nil]; omega), ob_some, i_add, ob_some]
    have h1 : W64 ((0 : Int) + 1) = (([x].length : Nat) : Int) := rfl
    rw [h1]
    exact loop r [x] _ (by simp [hc]) (by simp) (by simp only [List.nil_append]; omega) (by simpa [exprT] using hq)
theorem j45 (x : Ex) (need : Int) (t : List UInt8) (H : Heap) (Q : Post) (hl : (parT x t need).length ≤ 140737488355328) (hq : Q (strT (parT x t need)) H) : f54_j45 (I need) (strT t) (I (levelX x)) H Q := by
  rw [f54_j45_eq, i_lss, ob_some]
  simp only [parT] at hl hq
  refine cnd_intro (fun g => ?_) (fun g => ?_)
  · have g : ¬ need ≤ levelX x := by simp at g; omega
    rw [if_neg g] at hl hq
    simp only [List.length_cons, List.length_append, List.length_nil] at hl
    have e1 : S ⟨#[40]⟩ = strT [40] := rfl
    have e2 : S ⟨#[41]⟩ = strT [41] := rfl
    rw [e1, e2, s_add _ _ _ _ (by simp only [List.length_singleton]; omega), ob_some, s_add _ _ _ _ (by simp only [List.length_append, List.length_singleton]; omega), ob_some]
    simpa using hq
  · have g : need ≤ levelX x := by simp at g; omega
    rw [if_pos g] at hq
    exact hq
theorem j37 {y x : Ex} (hy : Puts y) (need : Int) (c : Bool) (hc : c = numP y) (H : Heap) (Q : Post) (hl : (parT x (45 :: (if numP y = true then 40 :: (exprT y 1 ++ [41]) else exprT y 7)) need).length ≤ 140737488355328)
    (hlb : (45 :: (if numP y = true then 40 :: (exprT y 1 ++ [41]) else exprT y 7)).length ≤ 140737488355328) (hq : Q (strT (parT x (45 :: (if numP y = true then 40 :: (exprT y 1 ++ [41]) else exprT y 7)) need)) H) : f54_j37 (I need) (I (levelX x)) (encC y) (B c) H Q := by
  rw [f54_j37_eq]
  refine cnd_intro (fun g => ?_) (fun g => ?_)
  · have hn : numP y = true := by rw [← hc, g]
    rw [if_pos hn] at hl hq hlb
    simp only [List.length_cons, List.length_append, List.length_nil] at hlb
    rw [partX, ob_some]
    refine hy 1 H _ (by omega) ?_
    have e1 : S ⟨#[45, 40]⟩ = strT [45, 40] := rfl
    have e2 : S ⟨#[41]⟩ = strT [41] := rfl
    rw [e1, e2, s_add _ _ _ _ (by simp only [List.length_cons, List.length_nil]; omega), ob_some, s_add _ _ _ _ (by simp only [List.length_append, List.length_cons, List.length_nil]; omega), ob_some]
    exact j45 x need ([45, 40] ++ exprT y 1 ++ [41]) H Q (by simpa using hl) (by simpa using hq)
  · have hn : ¬ numP y = true := by rw [← hc, g]; simp
    rw [if_neg hn] at hl hq hlb
    simp only [List.length_cons] at hlb
    rw [partX, ob_some]
    refine hy 7 H _ (by omega) ?_
    have e1 : S ⟨#[45]⟩ = strT [45] := rfl
    rw [e1, s_add _ _ _ _ (by simp only [List.length_cons, List.length_nil]; omega), ob_some]
    exact j45 x need ([45] ++ exprT y 7) H Q (by simpa using hl) (by simpa using hq)
theorem c54 (x : Ex) (hok : allX okX x) (hv : allX vX x) (hr : allR x = true) : Puts x := by
  induction x using Ex.ind with
  | h x ih =>
    rw [allX_eq] at hok hv
    rw [allR_eq, Bool.and_eq_true] at hr
    have hch : ∀ y ∈ x.l, Puts y := fun y hy => ih y hy (allXs_mem hok.2 hy) (allXs_mem hv.2 hy) (allRs_mem hr.2 hy)
    obtain ⟨hk1, hk17⟩ := right_k hr.1
    intro need H Q hl hq
    have hlb : (bareT x).length ≤ 140737488355328 := by
      simp only [exprT, parT] at hl
      split at hl
      · exact hl
      · simp only [List.length_cons, List.length_append, List.length_nil] at hl; omega
    have hJ := fun t (ht : bareT x = t) => j45 x need t H Q (by rw [← ht]; exact hl) (by rw [← ht]; exact hq)
    rw [bareT_eq, bareTs_map] at hJ hlb
    unfold bodyT at hJ hlb
    have hbt := bareTs_map x.l
    rw [f54_eq, szX, ob_some, partX, ob_some, c115 x hk1 hk17, part_f, p0X, ob_some, i_eql, ob_some]
    refine cnd_intro (fun g => ?_) (fun g => ?_)
    · have g : x.k = 1 := by simpa using g
      have hrv : rightV x.v = true := by
        have := hr.1
        simp only [rightP, g, if_true, Bool.and_eq_true] at this
        exact this.2.1
      rw [if_pos g] at hJ
      rw [partXV, ob_some]
      refine c116 x.v hv.1 hrv H _ ?_
      rw [x20, ob_some, x21, ob_some]
      exact hJ _ rfl
    have g1 : ¬ x.k = 1 := by simpa using g
    rw [ob_some, i_eql, ob_some]
    refine cnd_intro (fun g => ?_) (fun g => ?_)
    · have g : x.k = 2 := by simpa using g
      rw [if_neg g1, if_pos g] at hJ hlb
      rw [part_f, p4X, ob_some]
      have e46 : S ⟨#[46]⟩ = strT [46] := rfl
      simp only [List.length_append, List.length_cons] at hlb
      rw [strT_tx x.var, e46, s_add _ _ _ _ (by simp only [List.length_singleton]; omega), ob_some, part_f, p5X, ob_some, strT_tx x.fld, s_add _ _ _ _ (by simp only [List.length_singleton, List.length_append]; omega), ob_some]
      exact hJ _ (by simp)
    have g2 : ¬ x.k = 2 := by simpa using g
    have hlen := rightP_len hr.1 g1 g2
    rw [if_neg g1, if_neg g2] at hJ hlb
    rw [ob_some, i_eql, ob_some]
    refine cnd_intro (fun g => ?_) (fun g => ?_)
    · have g : x.k = 17 := by simpa using g
      have g3 : ¬ x.k = 3 := by omega
      rw [if_neg g3, if_pos g, ← hbt] at hJ hlb
      rw [part_f, p6X, ob_some]
      exact c56 [79, 82] 2 x.sz x.nil x.tip x.l hok.1.1 hch H _ hlb (hJ _ rfl)
    have g17 : ¬ x.k = 17 := by simpa using g
    rw [if_neg g17] at hJ hlb
    rw [ob_some, i_eql, ob_some]
    refine cnd_intro (fun g => ?_) (fun g => ?_)
    · have g : x.k = 16 := by simpa using g
      have g3 : ¬ x.k = 3 := by omega
      rw [if_neg g3, if_pos g, ← hbt] at hJ hlb
      rw [part_f, p6X, ob_some]
      exact c56 [65, 78, 68] 3 x.sz x.nil x.tip x.l hok.1.1 hch H _ hlb (hJ _ rfl)
    have g16 : ¬ x.k = 16 := by simpa using g
    rw [if_neg g16] at hJ hlb
    rw [ob_some, i_eql, ob_some]
    refine cnd_intro (fun g => ?_) (fun g => ?_)
    · have g : x.k = 15 := by simpa using g
      have g3 : ¬ x.k = 3 := by omega
      obtain ⟨y, hy⟩ := one_of (l := x.l) (by omega)
      rw [if_neg g3, if_pos g, hy] at hJ hlb
      simp only [List.map_cons, List.map_nil, List.length_append] at hJ hlb
      have i0 : ixaA 7 (encXs x.sz x.nil x.tip x.l) (I 0) = some (encC y) := ixX x.l x.sz x.nil x.tip [] [] y hy
      have hNl : sNOT.length = 4 := rfl
      rw [hNl] at hlb
      have hle : (exprT y 3).length = (parT y (bareT y) 3).length := rfl
      rw [part_f, p6X, ob_some, i0, ob_some, partX, ob_some]
      refine hch y (by rw [hy]; simp) 3 H _ (by omega) ?_
      have e1 : S ⟨#[78, 79, 84, 32]⟩ = strT sNOT := rfl
      rw [e1, s_add _ _ _ _ (by rw [hNl]; omega), ob_some]
      exact hJ _ rfl
    have g15 : ¬ x.k = 15 := by simpa using g
    rw [ob_some, i_eql, ob_some]
    refine cnd_intro (fun g => ?_) (fun g => ?_)
    · have g : x.k = 3 := by simpa using g
      obtain ⟨y, hy⟩ := one_of (l := x.l) (by omega)
      rw [if_pos g, hy] at hJ hlb
      have i0 : ixaA 7 (encXs x.sz x.nil x.tip x.l) (I 0) = some (encC y) := ixX x.l x.sz x.nil x.tip [] [] y hy
      have hb : bareT x = 45 :: (if numP y = true then 40 :: (exprT y 1 ++ [41]) else exprT y 7) := by
        rw [bareT_eq, bareTs_map, hy]
        unfold bodyT
        rw [if_neg g1, if_neg g2, if_pos g]
        rfl
      have hJ' := fun (c : Bool) (hc : c = numP y) => j37 (x := x) (hch y (by rw [hy]; simp)) need c hc H Q (by rw [← hb]; exact hl) hlb (by rw [← hb]; exact hq)
      rw [part_f, p6X, ob_some, i0, ob_some, partX, ob_some, szX, ob_some, splX, ob_some, part_f, p0X, ob_some, i_eql, ob_some]
      refine cnd_intro (fun q1 => ?_) (fun q1 => hJ' false (by simp [numP, numK, q1]))
      rw [part_f, partV1, ob_some, i_eql, ob_some]
      refine cnd_intro (fun q2 => ?_) (fun q2 => hJ' false (by simp [numP, numK, q2]))
      rw [part_f, partV2, ob_some, i_geq, ob_some]
      exact hJ' _ (by simp [numP, numK, q1, q2])
    have g3 : ¬ x.k = 3 := by simpa using g
    rw [if_neg g3, if_neg g15] at hJ hlb
    have h4 : 4 ≤ x.k := by omega
    have h14 : x.k ≤ 14 := by omega
    obtain ⟨y, z, hyz⟩ := two_of (l := x.l) (by omega)
    have hy := hch y (by rw [hyz]; simp)
    have hz := hch z (by rw [hyz]; simp)
    rw [hyz] at hJ hlb
    simp only [List.map_cons, List.map_nil] at hJ hlb
    have hsl := sign_len (x.k - 4).toNat
    simp only [List.length_append, List.length_cons, List.length_nil] at hlb
    have hly : (exprT y (need1 x.k)).length = (parT y (bareT y) (need1 x.k)).length := rfl
    have hlz : (exprT z (need2 x.k)).length = (parT z (bareT z) (need2 x.k)).length := rfl
    have i0 : ixaA 7 (encXs x.sz x.nil x.tip x.l) (I 0) = some (encC y) := ixX x.l x.sz x.nil x.tip [] [z] y hyz
    have i1 : ixaA 7 (encXs x.sz x.nil x.tip x.l) (I 1) = some (encC z) := ixX x.l x.sz x.nil x.tip [y] [] z hyz
    have e32 : S ⟨#[32]⟩ = strT [32] := rfl
    have two : ∀ a b : Int, a = need1 x.k → b = need2 x.k → E 54 [encX y, I a] H fun r57 H58 => ob (binA Pg .add 9 true r57 (S ⟨#[32]⟩)) fun r59 => E 117 [I x.k] H58 fun r60 H61 => ob (binA Pg .add 9 false r59 r60) fun r62 => ob (binA Pg .add 9 true r62 (S ⟨#[32]⟩)) fun r63 =>
        E 54 [encX z, I b] H61 fun r64 H65 => ob (binA Pg .add 9 false r63 r64) fun r66 => f54_j45 (I need) r66 (I (levelX x)) H65 Q := fun a b ha hb => by
      subst ha hb
      refine hy (need1 x.k) H _ (by omega) ?_
      rw [e32, s_add _ _ _ _ (by simp only [List.length_singleton]; omega), ob_some]
      refine c117 x.k h4 h14 H _ ?_
      rw [s_add _ _ _ _ (by simp only [List.length_append, List.length_singleton]; omega), ob_some, s_add _ _ _ _ (by simp only [List.length_append, List.length_singleton]; omega), ob_some]
      refine hz (need2 x.k) H _ (by omega) ?_
      rw [s_add _ _ _ _ (by simp only [List.length_append, List.length_singleton]; omega), ob_some]
      exact hJ _ (by simp [exprT])
    rw [i_eql, ob_some]
    refine cnd_intro (fun g => ?_) (fun g => ?_)
    · have h9 : 9 ≤ x.k := by
        simp only [levelX, g17, g16, g15, if_false, decide_eq_true_eq] at g
        by_cases k : 9 ≤ x.k
        · exact k
        · simp only [k, if_false] at g
          repeat' split at g
          all_goals omega
      rw [part_f, p6X, ob_some, i0, ob_some, partX, ob_some, ob_some, ob_some, i1, ob_some, partX, ob_some]
      exact two 5 5 (by simp [need1, h9]) (by simp [need2, h9])
    · have h9 : ¬ 9 ≤ x.k := fun k => by simp [levelX, g17, g16, g15, k] at g
      rw [part_f, p6X, ob_some, i0, ob_some, partX, ob_some, ob_some, ob_some, i1, ob_some, partX, ob_some, i_add, ob_some]
      by_cases h6 : 6 ≤ x.k
      · have hlv : levelX x = 6 := by simp only [levelX, g17, g16, g15, h9, h6, if_false, if_true]
        have t2 := two 6 7 (by simp [need1, h9, h6]) (by simp [need2, h9, h6])
        rw [hlv] at t2 ⊢
        exact t2
      · have hlv : levelX x = 5 := by simp only [levelX, g17, g16, g15, h9, h6, h4, if_false, if_true]
        have t2 := two 5 6 (by simp [need1, h9, h6]) (by simp [need2, h9, h6])
        rw [hlv] at t2 ⊢
        exact t2
end Go.Hx
namespace Go.Hx
def rowErr : List Ex → Int
  | [] => 0
  | x :: r => if checkP x = 0 then rowErr r else checkP x
def rowA (l : List Ex) : AV :=
  if l.length = 0 then .tup [S e0, I 1] else if rowErr l = 0 then .tup [strT (joinT sAND 3 (bareTs l)), I 0] else .tup [S e0, I (rowErr l)]
theorem rowErr_all : ∀ {l : List Ex}, rowErr l = 0 → ∀ x ∈ l, checkP x = 0 := by
  intro l
  induction l with
  | nil => intro _ x hx; cases hx
  | cons y r ih =>
    intro h x hx
    simp only [rowErr] at h
    split at h
    · rename_i hy
      cases hx with
      | head => exact hy
      | tail _ hx => exact ih h x hx
    · rename_i hy; exact absurd h hy
theorem join_len (sep : List UInt8) (need : Int) (hs : sep.length ≤ 5) (l : List Ex) (hl : ∀ x ∈ l, allX vX x ∧ allR x = true) : (joinT sep need (bareTs l)).length ≤ 1100 * sizeXs l := by
  have hR : ∀ r : List Ex, (∀ x ∈ r, allX vX x ∧ allR x = true) → (joinR sep need (bareTs r)).length ≤ 1100 * sizeXs r := by
    intro r
    induction r with
    | nil => intro _; simp [bareTs, joinR]
    | cons y r ih =>
      intro h
      have h1 := bare_len y (h y (by simp)).1 (h y (by simp)).2
      have h2 := ih (fun x hx => h x (by simp [hx]))
      have h3 := parT_len y (bareT y) need
      simp only [bareTs, joinR, sizeXs, List.length_append]; omega
  cases l with
  | nil => simp [bareTs, joinT]
  | cons y r =>
    have h1 := bare_len y (hl y (by simp)).1 (hl y (by simp)).2
    have h2 := hR r (fun x hx => hl x (by simp [hx]))
    have h3 := parT_len y (bareT y) need
    simp only [bareTs, joinT, sizeXs, List.length_append]; omega
/-- conditions that are small enough -/
structure OkL (l : List Ex) : Prop where
  len : l.length ≤ 1099511627776
  ok : ∀ x ∈ l, allX okX x
  vx : ∀ x ∈ l, allX vX x
  sum : sizeXs l ≤ 100000000000
theorem mem_size {l : List Ex} {x : Ex} (h : x ∈ l) : sizeX x ≤ sizeXs l := by
  obtain ⟨p, r, e⟩ := List.append_of_mem h
  rw [e, sizeXs_append]; simp only [sizeXs]; omega
theorem c26 (sz : Nat) (nil : Bool) (tip : Tip) (l : List Ex) (hok : OkL l) (H : Heap) (Q : Post) (hq : ∀ H', HExt H H' → Q (rowA l) H') : E 26 [encXs sz nil tip l] H Q := by
  rw [f26_eq, lenX, ob_some, i_eql, ob_some, len0]
  simp only [rowA] at hq
  refine cnd_intro (fun g => ?_) (fun g => ?_)
  · have := hq H (HExt.refl H)
    rw [if_pos (by simpa using g)] at this; exact this
  have g : ¬ l.length = 0 := by simpa using g
  simp only [if_neg g] at hq
  rw [ob_some]
  have hlen := hok.len
  have loop : ∀ (r pre : List Ex) (H1 : Heap), l = pre ++ r → HExt H H1 → (rowErr r ≠ 0 → ∀ H', HExt H H' → Q (.tup [S e0, I (rowErr r)]) H') → (∀ x ∈ pre, checkP x = 0) →
      (rowErr r = 0 → ∀ H', HExt H H' → Q (.tup [strT (joinT sAND 3 (bareTs l)), I 0]) H') → f26_l14 (encXs sz nil tip l) (encXs sz nil tip l) (I l.length) (I pre.length) H1 Q := by
    intro r
    induction r with
    | nil =>
      intro pre H1 e he _ hall hq
      have h1 : (pre.length : Int) = l.length := by rw [e]; simp
      have hp : l = pre := by rw [e]; simp
      have hall : ∀ x ∈ l, checkP x = 0 := by rw [hp]; exact hall
      have hR : ∀ x ∈ l, allX vX x ∧ allR x = true := fun x hx => ⟨hok.vx x hx, checkP_all (hall x hx)⟩
      have hjl := join_len sAND 3 (by simp [sAND]) l hR
      have hsum := hok.sum
      have hb : bldA [] [AV.raw (.pointer none), .sl 0 true .full []] = some (.agg [.raw (.pointer none), .sl 0 true .full []]) := rfl
      have hs : sizedA 2 (.agg [AV.raw (.pointer none), .sl 0 true .full []]) = some [.raw (.pointer none), .sl 0 true .full []] := rfl
      rw [f26_l14_eq, i_lss, ob_some, cnd_B, h1]
      simp only [Int.lt_irrefl, decide_false, Bool.false_eq_true, if_false]
      rw [hb, ob_some, hs, ob_some]
      refine bld_new 95 lies95 he (fun b H2 h2 => ?_)
      refine c55 ⟨#[32, 65, 78, 68, 32]⟩ 3 sz nil tip l hok.len (fun x hx => c113 x (hok.ok x hx) (hok.vx x hx) (hR x hx).2) b H H2 [] _ h2 (by
        have : tx ⟨#[32, 65, 78, 68, 32]⟩ = sAND := rfl
        rw [this, List.length_nil]; omega) (fun H3 h3 => ?_)
      have : tx ⟨#[32, 65, 78, 68, 32]⟩ = sAND := rfl
      rw [this, List.nil_append] at h3
      rw [nil_Pt, ob_some, add0_Pt, ob_some]
      exact c53 b H H3 _ _ h3 (by omega) (fun H4 e4 => hq rfl H4 e4)
    | cons x r ih =>
      intro pre H1 e he hq1 hall hq2
      have hlt : pre.length < l.length := by rw [e]; simp
      have hlt' : (pre.length : Int) < l.length := by omega
      have hxm : x ∈ l := by rw [e]; simp
      rw [f26_l14_eq, i_lss, ob_some, cnd_B, if_pos (by simpa using hlt'), ixX l sz nil tip pre r x e, ob_some, partX, ob_some, szX, ob_some, splX, ob_some, partX, ob_some]
      refine c28 x (hok.ok x hxm) H1 _ (fun H2 e2 => ?_)
      simp only [rowErr] at hq1 hq2
      rw [i_neq, ob_some]
      refine cnd_intro (fun h => ?_) (fun h => ?_)
      · have h : ¬ checkP x = 0 := by simpa using h
        rw [if_neg h] at hq1
        exact hq1 h H2 (he.trans e2)
      · have h : checkP x = 0 := by simpa using h
        rw [if_pos h] at hq1 hq2
        rw [i_add, ob_some, w64_succ hlt (by omega)]
        have := ih (pre ++ [x]) H2 (by simp [e]) (he.trans e2) hq1 (fun y hy => by
          rcases List.mem_append.1 hy with hy | hy
          · exact hall y hy
          · rw [List.mem_singleton.1 hy]; exact h) hq2
        rw [List.length_append, List.length_singleton] at this
        exact this
  refine loop l [] H rfl (HExt.refl H) (fun h H' h' => ?_) (fun x hx => by cases hx) (fun h H' h' => ?_)
  · have := hq H' h'
    rw [if_neg h] at this; exact this
  · have := hq H' h'
    rw [if_pos h] at this; exact this
theorem c27 (sz : Nat) (nil : Bool) (tip : Tip) (l : List Ex) (hok : OkL l) (H : Heap) (Q : Post) (hq : Q (rowA l) H) : E 27 [encXs sz nil tip l] H Q := by
  rw [f27_eq, lenX, ob_some, i_eql, ob_some, len0]
  simp only [rowA] at hq
  refine cnd_intro (fun g => ?_) (fun g => ?_)
  · rw [if_pos (by simpa using g)] at hq; exact hq
  have g : ¬ l.length = 0 := by simpa using g
  simp only [if_neg g] at hq
  have hlen := hok.len
  have loop : ∀ (r pre : List Ex), l = pre ++ r → (rowErr r ≠ 0 → Q (.tup [S e0, I (rowErr r)]) H) → (∀ x ∈ pre, checkP x = 0) →
      (rowErr r = 0 → Q (.tup [strT (joinT sAND 3 (bareTs l)), I 0]) H) → f27_l14 (encXs sz nil tip l) (I pre.length) H Q := by
    intro r
    induction r with
    | nil =>
      intro pre e _ hall hq
      have h1 : (pre.length : Int) = l.length := by rw [e]; simp
      have hp : l = pre := by rw [e]; simp
      have hall : ∀ x ∈ l, checkP x = 0 := by rw [hp]; exact hall
      have hR : ∀ x ∈ l, allX vX x ∧ allR x = true := fun x hx => ⟨hok.vx x hx, checkP_all (hall x hx)⟩
      have hjl := join_len sAND 3 (by simp [sAND]) l hR
      have hsum := hok.sum
      rw [f27_l14_eq, lenX, ob_some, i_lss, ob_some, cnd_B, h1]
      simp only [Int.lt_irrefl, decide_false, Bool.false_eq_true, if_false]
      refine c56 [65, 78, 68] 3 sz nil tip l hok.len (fun x hx => c54 x (hok.ok x hx) (hok.vx x hx) (hR x hx).2) H _ (by
        have : (32 :: ([65, 78, 68] ++ [32]) : List UInt8) = sAND := rfl
        rw [this]; omega) ?_
      exact hq rfl
    | cons x r ih =>
      intro pre e hq1 hall hq2
      have hlt : pre.length < l.length := by rw [e]; simp
      have hlt' : (pre.length : Int) < l.length := by omega
      have hxm : x ∈ l := by rw [e]; simp
      have hsx := mem_size hxm
      have hsum := hok.sum
      rw [f27_l14_eq, lenX, ob_some, i_lss, ob_some, cnd_B, if_pos (by simpa using hlt'), ixX l sz nil tip pre r x e, ob_some, partX, ob_some, c51 x (hok.ok x hxm) (hok.vx x hxm) (by omega), i_neq, ob_some]
      simp only [rowErr] at hq1 hq2
      refine cnd_intro (fun h => ?_) (fun h => ?_)
      · have h : ¬ checkP x = 0 := by simpa using h
        rw [if_neg h] at hq1
        exact hq1 h
      · have h : checkP x = 0 := by simpa using h
        rw [if_pos h] at hq1 hq2
        rw [i_add, ob_some, w64_succ hlt (by omega)]
        have := ih (pre ++ [x]) (by simp [e]) hq1 (fun y hy => by
          rcases List.mem_append.1 hy with hy | hy
          · exact hall y hy
          · rw [List.mem_singleton.1 hy]; exact h) hq2
        rw [List.length_append, List.length_singleton] at this
        exact this
  refine loop l [] rfl (fun h => ?_) (fun x hx => by cases hx) (fun h => ?_)
  · rw [if_neg h] at hq; exact hq
  · rw [if_pos h] at hq; exact hq
/-! ### Clauses -/
def printA (x : Ex) : AV := if checkP x = 0 then .tup [strT (exprT x 1), I 0] else .tup [S e0, I (checkP x)]
theorem exprT_01 (x : Ex) : exprT x 0 = exprT x 1 := by
  have : 1 ≤ levelX x := by
    simp only [levelX]
    repeat' split
    all_goals omega
  simp only [exprT, parT]
  rw [if_pos (by omega), if_pos this]
theorem c24 (x : Ex) (hok : allX okX x) (hv : allX vX x) (hs : sizeX x ≤ 100000000000) (H : Heap) (Q : Post) (hq : ∀ H', HExt H H' → Q (printA x) H') : E 24 [encX x] H Q := by
  have hb : bldA [] [AV.raw (.pointer none), .sl 0 true .full []] = some (.agg [.raw (.pointer none), .sl 0 true .full []]) := rfl
  have hsz : sizedA 2 (.agg [AV.raw (.pointer none), .sl 0 true .full []]) = some [.raw (.pointer none), .sl 0 true .full []] := rfl
  rw [f24_eq, szX, ob_some, partX, ob_some]
  refine c28 x hok H _ (fun H1 e1 => ?_)
  rw [i_neq, ob_some]
  simp only [printA] at hq
  refine cnd_intro (fun h => ?_) (fun h => ?_)
  · have h : checkP x ≠ 0 := by simpa using h
    have := hq H1 e1
    rw [if_neg h] at this; exact this
  · have h : checkP x = 0 := by simpa using h
    have hR := checkP_all h
    have hl := expr_len x hv hR 0
    rw [if_pos h] at hq
    rw [hb, ob_some, hsz, ob_some]
    refine bld_new 95 lies95 e1 (fun b H2 h2 => ?_)
    rw [ob_some]
    refine c52 (c113 x hok hv hR) 0 b H H2 [] _ h2 (by simp only [List.length_nil]; omega) (fun H3 h3 => ?_)
    rw [nil_Pt, ob_some, add0_Pt, ob_some]
    rw [List.nil_append, exprT_01] at h3
    exact c53 b H H3 _ _ h3 (by rw [exprT_01] at hl; omega) (fun H4 e4 => hq H4 e4)
theorem c25 (x : Ex) (hok : allX okX x) (hv : allX vX x) (hs : sizeX x ≤ 100000000000) (H : Heap) (Q : Post) (hq : Q (printA x) H) : E 25 [encX x] H Q := by
  rw [f25_eq, szX, ob_some, partX, ob_some, c51 x hok hv (by omega), i_neq, ob_some]
  simp only [printA] at hq
  refine cnd_intro (fun h => ?_) (fun h => ?_)
  · have h : checkP x ≠ 0 := by simpa using h
    rw [if_neg h] at hq; exact hq
  · have h : checkP x = 0 := by simpa using h
    have hR := checkP_all h
    have hl := expr_len x hv hR 1
    rw [if_pos h] at hq
    rw [ob_some]
    exact c54 x hok hv hR 1 H _ (by omega) hq
end Go.Hx
namespace Go.Hx
theorem wf_rng {n : Int} (h : (Lit.int .i64 n).wf = true) : rng n := by
  have : -9223372036854775808 ≤ n ∧ n ≤ 9223372036854775807 := by simpa [Lit.wf, IntKind.min, IntKind.max, IntKind.signed, IntKind.bits] using h
  exact this
theorem map_of2 {α : Type} {f : α → AV} {p : α → Prop} : ∀ (xs : List AV), (∀ x ∈ xs, ∃ y, x = f y ∧ p y) → ∃ l : List α, xs = l.map f ∧ ∀ y ∈ l, p y
  | [], _ => ⟨[], rfl, fun _ h => by cases h⟩
  | x :: xs, h => by
    obtain ⟨y, rfl, hy⟩ := h x (by simp)
    obtain ⟨l, rfl, hl⟩ := map_of2 xs (fun z hz => h z (by simp [hz]))
    exact ⟨y :: l, rfl, fun z hz => by
      rcases List.mem_cons.1 hz with rfl | hz
      · exact hy
      · exact hl z hz⟩
def conjF : List Field → (Field → Prop) → Prop
  | [], _ => True
  | f :: r, p => p f ∧ conjF r p
theorem conjF_of : ∀ (l : List Field) (p : Field → Prop), (∀ f ∈ l, p f) → conjF l p
  | [], _, _ => trivial
  | f :: r, p, h => ⟨h f (by simp), conjF_of r p (fun g hg => h g (by simp [hg]))⟩
def StrT (P : Program) (n : Nat) (t : TypeId) (cs : List AV) : Prop :=
  match P.underlying t with
  | some (.struct fs) => cs.length = P.cellsOf t ∧ conjF fs.toList fun f => HasT P n f.type ((cs.drop f.offset).take (P.cellsOf f.type))
  | _ => True
theorem HasT.str {P : Program} {n : Nat} {t : TypeId} {cs : List AV} (h : HasT P (n + 1) t cs) : StrT P n t cs := by
  unfold StrT
  split
  · rename_i fs hu
    simp only [HasT, hu] at h
    exact ⟨h.1, conjF_of _ _ h.2⟩
  · trivial
theorem has_int {n : Nat} {cs : List AV} (t : TypeId) (ht : t = 3 ∨ t = 2) (h : HasT Pg n t cs) : ∃ i, cs = [I i] ∧ rng i := by
  cases n with
  | zero => exact h.elim
  | succ n =>
    have e : HasT Pg (n + 1) t cs = ∃ i, cs = [.raw (.int .i64 i)] ∧ (Lit.int .i64 i).wf = true := by rcases ht with rfl | rfl <;> kernel_rfl
    rw [e] at h
    obtain ⟨i, h1, h2⟩ := h
    exact ⟨i, h1, wf_rng h2⟩
theorem has_S {n : Nat} {cs : List AV} (h : HasT Pg n 9 cs) : ∃ s, cs = [S s] := by
  cases n with
  | zero => exact h.elim
  | succ n =>
    have e : HasT Pg (n + 1) 9 cs = ∃ s : ByteArray, cs = [S s] ∧ s.size ≤ maxLen := by kernel_rfl
    rw [e] at h; obtain ⟨s, h, _⟩ := h; exact ⟨s, h⟩
theorem has_V {n : Nat} {cs : List AV} (h : HasT Pg n 23 cs) : ∃ v : Vl, cs = [I v.k, I v.n, S v.s] ∧ vr v := by
  cases n with
  | zero => exact h.elim
  | succ n =>
    have h := h.str
    have e : StrT Pg n 23 cs = (cs.length = 3 ∧ (HasT Pg n 3 ((cs.drop 0).take 1) ∧ (HasT Pg n 2 ((cs.drop 1).take 1) ∧ (HasT Pg n 9 ((cs.drop 2).take 1) ∧ True)))) := by kernel_rfl
    rw [e] at h
    obtain ⟨hl, h1, h2, h3, _⟩ := h
    match cs, hl with
    | [a, b, c], _ =>
      obtain ⟨i, hi, wi⟩ := has_int 3 (.inl rfl) h1
      obtain ⟨j, hj, wj⟩ := has_int 2 (.inr rfl) h2
      obtain ⟨s, hs⟩ := has_S h3
      simp at hi hj hs
      exact ⟨⟨i, j, s⟩, by simp [hi, hj, hs], wj⟩
theorem has_X : ∀ (n : Nat) {cs : List AV}, HasT Pg n 26 cs → ∃ x : Ex, cs = encC x ∧ allX vX x := by
  intro n
  induction n using Nat.strongRecOn with
  | _ n ih =>
    intro cs h
    cases n with
    | zero => exact h.elim
    | succ n =>
      have h := h.str
      have e : StrT Pg n 26 cs = (cs.length = 7 ∧ (HasT Pg n 3 ((cs.drop 0).take 1) ∧ (HasT Pg n 23 ((cs.drop 1).take 3) ∧ (HasT Pg n 9 ((cs.drop 4).take 1) ∧ (HasT Pg n 9 ((cs.drop 5).take 1) ∧ (HasT Pg n 24 ((cs.drop 6).take 1) ∧ True)))))) := by kernel_rfl
      rw [e] at h
      obtain ⟨hl, h1, h2, h3, h4, h5, _⟩ := h
      match cs, hl with
      | [a, b, c, d, e, f, g], _ =>
        obtain ⟨i, hi, wi⟩ := has_int 3 (.inl rfl) h1
        obtain ⟨v, hv, wv⟩ := has_V h2
        obtain ⟨s, hs⟩ := has_S h3
        obtain ⟨s', hs'⟩ := has_S h4
        simp at hi hv hs hs' h5
        obtain ⟨rfl, rfl, rfl⟩ := hv
        subst hi hs hs'
        cases n with
        | zero => exact h5.elim
        | succ m =>
          have e : HasT Pg (m + 1) 24 [g] = ([g] = [AV.sl 7 true .full []] ∨ ∃ xs : List AV, [g] = [AV.sl 7 false .any xs] ∧ ∀ x ∈ xs, ∃ c, x = packA Pg 26 c ∧ HasT Pg m 26 c) := by kernel_rfl
          rw [e] at h5
          rcases h5 with hg | ⟨xs, hg, hall⟩
          · simp at hg; subst hg
            exact ⟨.mk i v s s' 7 true .full [], by simp [encC, encCs], by rw [allX_eq]; exact ⟨wv, trivial⟩⟩
          · simp at hg; subst hg
            obtain ⟨l, rfl, hlv⟩ := map_of2 (f := encX) (p := allX vX) xs (fun x hx => by
              obtain ⟨c, rfl, hc⟩ := hall x hx
              obtain ⟨y, rfl, hy⟩ := ih m (by omega) hc
              exact ⟨y, by kernel_rfl, hy⟩)
            exact ⟨.mk i v s s' 7 false .any l, by simp [encC, encCs_map], by rw [allX_eq]; exact ⟨wv, allXs_of hlv⟩⟩
theorem has_Xs {n : Nat} {cs : List AV} (h : HasT Pg n 24 cs) : ∃ nil tip l, cs = [encXs 7 nil tip l] ∧ ∀ x ∈ l, allX vX x := by
  cases n with
  | zero => exact h.elim
  | succ n =>
    have e : HasT Pg (n + 1) 24 cs = (cs = [.sl 7 true .full []] ∨ ∃ xs : List AV, cs = [.sl 7 false .any xs] ∧ ∀ x ∈ xs, ∃ c, x = packA Pg 26 c ∧ HasT Pg n 26 c) := by kernel_rfl
    rw [e] at h
    rcases h with rfl | ⟨xs, rfl, h⟩
    · exact ⟨true, .full, [], rfl, fun x hx => by cases hx⟩
    · obtain ⟨l, rfl, hl⟩ := map_of2 (f := encX) (p := allX vX) xs (fun x hx => by
        obtain ⟨c, rfl, hc⟩ := h x hx
        obtain ⟨y, rfl, hy⟩ := has_X n hc
        exact ⟨y, by kernel_rfl, hy⟩)
      exact ⟨false, .any, l, rfl, hl⟩
/-! ### Small enough by its size -/
theorem sz_X (x : Ex) : sizeX x ≤ szL (encC x) ∧ (szL (encC x) ≤ 1048576 → allX okX x) := by
  induction x using Ex.ind with
  | h x ih =>
    have hs : ∀ (l : List Ex), (∀ y ∈ l, y ∈ x.l) → sizeXs l ≤ szL (l.map encX) ∧ (szL (l.map encX) ≤ 1048576 → allXs okX l) := by
      intro l
      induction l with
      | nil => intro _; simp [sizeXs, szL, allXs]
      | cons y r ihr =>
        intro hy
        obtain ⟨a1, a2⟩ := ihr (fun z hz => hy z (by simp [hz]))
        obtain ⟨b1, b2⟩ := ih y (hy y (by simp))
        simp only [sizeXs, List.map_cons, szL, encX, szA, allXs]
        exact ⟨by omega, fun h => ⟨b2 (by omega), a2 (by omega)⟩⟩
    obtain ⟨h1, h2⟩ := hs x.l (fun _ h => h)
    rw [sizeX_eq, allX_eq, encC_eq]
    have hl := length_le_szL (x.l.map encX)
    rw [List.length_map] at hl
    simp only [szL, szA, I, S, encXs]
    refine ⟨by omega, fun h => ⟨⟨by omega, by omega, by omega⟩, h2 (by omega)⟩⟩
theorem sz_Xs (l : List Ex) : sizeXs l ≤ szL (l.map encX) ∧ (szL (l.map encX) ≤ 1048576 → ∀ x ∈ l, allX okX x) := by
  induction l with
  | nil => simp [sizeXs, szL]
  | cons y r ih =>
    obtain ⟨b1, b2⟩ := sz_X y
    simp only [sizeXs, List.map_cons, szL, encX, szA]
    refine ⟨by omega, fun h x hx => ?_⟩
    rcases List.mem_cons.1 hx with rfl | hx
    · exact b2 (by omega)
    · exact ih.2 (by omega) x hx
end Go.Hx
namespace Go.Hx
theorem strT_bs (l : List UInt8) : strT l = S (bs l) := rfl
theorem size_bs (l : List UInt8) : (bs l).size = l.length := by rw [← size_list]
theorem c5 (x : Ex) (hx : allX okX x) (hv : allX vX x) (hs : sizeX x ≤ 1048576) (H : Heap) (Q : Post) (hq : ∀ H', HExt H H' → Q (B true) H') : E 5 [encX x] H Q := by
  have d0 : decide ((0 : Int) = 0) = true := rfl
  rw [f5_eq, szX, ob_some, partX, ob_some]
  refine c24 x hx hv (by omega) H _ (fun H1 h1 => ?_)
  simp only [printA]
  split
  · rename_i hc
    rw [x20, ob_some, x21, ob_some, i_neq, ob_some, d0, Bool.not_true, cnd_f, strT_bs, len_S, ob_some, i_gtr, ob_some]
    refine cnd_intro (fun _ => c18 H1 _ (fun H2 h2 => hq H2 (h1.trans h2))) (fun hg => ?_)
    have hlen : (exprT x 1).length ≤ 8192 := by rw [size_bs] at hg; simp at hg; omega
    have hT := text_back hv hc (by omega) hlen
    refine c13 _ (by rw [size_bs]; omega) H1 _ hT (fun y H2 h2 hy hys hgy _ hsy => ?_)
    have dl : decide (((bs (exprT x 1)).size : Int) = ((bs (exprT x 1)).size : Int)) = true := decide_eq_true rfl
    simp only [x3_0, x3_1, x3_2, ob_some, szX, splX, i_eql, d0, cnd_t, len_S, dl, f5_c7_8a_eq, partX]
    rw [c29 hy.symm (by omega), f5_c7_13a_eq, cnd_t]
    refine c18 H2 _ (fun H3 h3 => ?_)
    rw [f5_c7_16a_eq, f5_j24_eq]
    exact hq H3 ((h1.trans h2).trans h3)
  · rename_i hc
    have dc : decide (checkP x = 0) = false := decide_eq_false hc
    have de : decide ((e0 : ByteArray) = ⟨#[]⟩) = true := decide_eq_true rfl
    rw [x20, ob_some, x21, ob_some, i_neq, ob_some, dc, Bool.not_false, cnd_t, s_eql, ob_some, de, cnd_t, ob_some]
    refine c28 x hx H1 _ (fun H2 h2 => ?_)
    rw [i_eql, ob_some, decide_eq_true rfl, cnd_t]
    refine c18 H2 _ (fun H3 h3 => ?_)
    rw [f5_j10_eq]
    exact hq H3 ((h1.trans h2).trans h3)
theorem c6 (s : ByteArray) (hsz : s.size ≤ 1048576) (H : Heap) (Q : Post) (hq : ∀ H', HExt H H' → Q (B true) H') : E 6 [S s] H Q := by
  have d0 : decide ((0 : Int) = 0) = true := rfl
  obtain ⟨R, hR⟩ := TextR_total s
  rw [f6_eq]
  refine c13 s (by omega) H _ hR ?_
  cases R with
  | bad p e =>
    intro H1 h1
    have de : decide (e = 0) = false := decide_eq_false (TextR_ne hR)
    have hp : p ≤ s.size := TextR_le hR
    have g0 : decide ((0 : Int) ≤ (p : Int)) = true := decide_eq_true (by omega)
    have g1 : decide ((p : Int) ≤ (s.size : Int)) = true := decide_eq_true (by omega)
    simp only [x3_0, x3_1, x3_2, ob_some, szX, splX, i_neq, de, Bool.not_false, cnd_t, i_geq, g0, len_S, i_leq, g1, f6_c3_8a_eq, partX, zX_b]
    rw [c29 rfl (by rw [zX_size]; omega), f6_c3_13a_eq, cnd_t]
    refine c18 H1 _ (fun H2 h2 => ?_)
    rw [f6_c3_16a_eq, f6_j10_eq]
    exact hq H2 (h1.trans h2)
  | ok x =>
    intro y H1 h1 hy hys hgy hc hsy
    have hoy := gX_ok hgy (by omega)
    have hcy : checkP y = 0 := by rw [← norm_check (by omega), hy]; exact hc
    simp only [x3_0, x3_1, x3_2, ob_some, szX, splX, i_neq, d0, Bool.not_true, cnd_f, partX]
    refine c24 y hoy.1 hoy.2 (by omega) H1 _ (fun H2 h2 => ?_)
    simp only [printA, if_pos hcy]
    rw [x20, ob_some, x21, ob_some, i_neq, ob_some, d0, Bool.not_true, cnd_f]
    refine c28 y hoy.1 H2 _ (fun H3 h3 => ?_)
    rw [hcy, i_neq, ob_some, d0, Bool.not_true, cnd_f, len_S, ob_some, i_neq, ob_some, decide_eq_true rfl, Bool.not_true, f6_j17_eq, cnd_f, strT_bs, len_S, ob_some, i_gtr, ob_some]
    refine cnd_intro (fun _ => c18 H3 _ (fun H4 h4 => hq H4 (((h1.trans h2).trans h3).trans h4))) (fun hg => ?_)
    have hlen : (exprT y 1).length ≤ 8192 := by rw [size_bs] at hg; simp at hg; omega
    have hT := text_back hoy.2 hcy (by omega) hlen
    refine c13 _ (by rw [size_bs]; omega) H3 _ hT (fun z H4 h4 hz hzs hgz _ hsz => ?_)
    have hoz := gX_ok hgz (by omega)
    have hcz : checkP z = 0 := by rw [← norm_check (by omega), hz, norm_check (by omega)]; exact hcy
    have ht : exprT z 1 = exprT y 1 := norm_expr2 hz 1
    simp only [x3_0, x3_1, x3_2, ob_some, szX, splX, partX]
    refine c24 z hoz.1 hoz.2 (by omega) H4 _ (fun H5 h5 => ?_)
    simp only [printA, if_pos hcz]
    have ds : decide (bs (exprT z 1) = bs (exprT y 1)) = true := decide_eq_true (by rw [ht])
    simp only [x20, x21, ob_some, i_eql, d0, cnd_t, f6_c11_6a_eq, partX]
    rw [c29 hz.symm (by omega), f6_c11_11a_eq, cnd_t, strT_bs, s_eql, ob_some, ds, f6_c11_16a_eq, cnd_t]
    refine c18 H5 _ (fun H6 h6 => ?_)
    rw [f6_c11_19a_eq, f6_j36_eq]
    exact hq H6 (((((h1.trans h2).trans h3).trans h4).trans h5).trans h6)
end Go.Hx
namespace Go.Hx
open Go.Proofs.YtancdapnpceogaaGreat
theorem bulkOf {H : Type} : Bulk (Rows.uptoBulk (H := H)) (Rows.uptoBulkAll (H := H)) :=
  ⟨fun l => by simp [Rows.uptoBulk], fun l => by simp [Rows.uptoBulk], fun k l => by simp [Rows.uptoBulk], by simp [Rows.uptoBulk], fun l r => by simp [Rows.uptoBulk], fun l => by simp [Rows.uptoBulk], by simp [Rows.uptoBulkAll], fun x l => by simp [Rows.uptoBulkAll]⟩
theorem pkOf : PK Pg := by
  refine ⟨fun f fn h => ?_, by kernel_rfl⟩
  have hall : (Pg.funcs.toList.all fun fn => !(fn.name == "runtime.NumGoroutine")) = true := by kernel_rfl
  have := List.all_eq_true.1 hall fn (List.mem_of_getElem? (i := f) (by simpa using h))
  simpa using this
theorem kidsOf : Kids Pg (· < Pg.types.size) := kids_rows (by kernel_rfl) (by kernel_rfl)
theorem oneOf : ∀ e, e < Pg.types.size → aggT Pg e = false → Pg.cellsOf e = 1 := by
  have h : ((List.range Pg.types.size).all fun e => aggT Pg e || Nat.beq (Pg.cellsOf e) 1) = true := by kernel_rfl
  intro e he ha
  have := List.all_eq_true.1 h e (List.mem_range.2 he)
  rw [ha, Bool.false_or] at this
  exact Nat.eq_of_beq_eq_true this
theorem fullOf : ∀ t e, t < Pg.types.size → Pg.underlying t = some (.slice e) → 0 < Pg.cellsOf e := slices_full_of Pg (by kernel_rfl)
theorem shutOf : shutT Pg [2, 3, 5, 9, 23, 24, 26] = true := by kernel_rfl
theorem own : ownKnob Pg.godebug = none := by kernel_rfl
end Go.Hx
