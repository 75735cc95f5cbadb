/- Contracts of cond.Parse, cond.Text and the law's own run. Own work. -/
import Derived.Test.YtancdapnpceogaaGreatS5AD
set_option maxRecDepth 20000
namespace Go.Hx
/-- a reader's state -/
structure RD (H0 : Heap) (T : Nat → Nat → Prop) (rb : Nat) (r : List Tk) (H : Heap) : Prop where
  ext : HExt H0 H
  fr : H0.fresh rb
  rd : RS rb r H
  tp : ∀ c n, T c n → H.tips c = some n
theorem PS.toRD {H0 : Heap} {T : Nat → Nat → Prop} {pb rb : Nat} {r : List Tk} {o e a : Int} {H : Heap} (h : PS H0 T pb rb r o e a H) : RD H0 T rb r H := ⟨h.ext, h.fr, h.rd, h.tp⟩
theorem RD.mono {H0 : Heap} {T : Nat → Nat → Prop} {rb : Nat} {r : List Tk} {H H' : Heap} (h : RD H0 T rb r H) (he : HExt H H') : RD H0 T rb r H' :=
  ⟨h.ext.trans he, h.fr, h.rd.mono he, fun c n hc => by have := h.tp c n hc; rw [(he c (fun hf => by rw [hf.2] at this; cases this)).2.1]; exact this⟩
/-- what Parse answers -/
def Res19 (H0 : Heap) (T : Nat → Nat → Prop) (rb : Nat) (r : List Tk) (Q : Post) : PR → Prop
  | .ok x r1 => (checkP x = 0 → ∀ y H', norm y = x → allX shX y → allX gX y → RD H0 T rb r1 H' → Q (.tup [encX y, I (posn r1), I 0]) H') ∧
      (checkP x ≠ 0 → ∀ H', RD H0 T rb r1 H' → Q (.tup [encX zX, I (posn r), I 2]) H')
  | .bad e p => ∀ H' r1, r1 ≠ [] → RD H0 T rb r1 H' → Q (.tup [encX zX, I p, I e]) H'
theorem norm_check {y : Ex} (h : sizeX y ≤ 1152921504606846975) : checkP (norm y) = checkP y := by
  rw [checkP_eq _ (by rw [norm_size]; exact h), checkP_eq _ h, norm_size, norm_allR]
theorem c19 {H0 H : Heap} {T : Nat → Nat → Prop} {rb : Nat} {r : List Tk} {Q : Post} {R : PR} (h : RD H0 T rb r H) (he : endsT r) (hok : ∀ t ∈ r, okTk t) (hP : P (.row true) 0 r R) (hq : Res19 H0 T rb r Q R) : E 19 [Pt rb] H Q := by
  have hb : bldA [(0, 1, Pt rb)] [AV.raw (.pointer none), I 0, I 0, I 0] = some (.agg [Pt rb, I 0, I 0, I 0]) := rfl
  have hs : sizedA 4 (.agg [Pt rb, I 0, I 0, I 0]) = some [Pt rb, I 0, I 0, I 0] := rfl
  rw [f19_eq, c21 h.rd (endsT_ne he), hb, ob_some, hs, ob_some]
  intro pb hf
  simp only [Pt_def]
  have hne : pb ≠ rb := fun e => by
    subst e
    obtain ⟨L, i, s', n', t', h1, _⟩ := h.rd
    rw [hf.1] at h1; cases h1
  have hfp := h.ext.fresh hf
  have ps : PS H0 T pb rb r ((0 : Nat) : Int) 0 0 (H.setObj pb (.cells [Pt rb, I 0, I 0, I 0])) :=
    ⟨h.ext.setObj hfp _, hfp, h.fr, hne, setObj_same _ _ _, by
      obtain ⟨L, i, s', n', t', h1, h2⟩ := h.rd
      exact ⟨L, i, s', n', t', by rw [setObj_ne _ _ (Ne.symm hne)]; exact h1, h2⟩, h.tp⟩
  have hlen := ps.rlen
  show Run H0 T pb (.row true) _ _
  refine run_all hP T _ _ he hok trivial ps ?_
  cases R with
  | bad e p =>
    intro y H' r1 o' _ _ hr1 h'
    have hne0 : decide (e = 0) = false := decide_eq_false (P_ne hP _ _ rfl)
    simp only [szX, splX, ob_some, nil_Pt, add_Pt, h'.ld2, h'.ld3, i_neq, hne0, Bool.not_false, cnd_t, zX_b, apL, partX]
    exact hq H' r1 hr1 h'.toRD
  | ok x r1 =>
    intro y H' hy hys h'
    have h0 : decide ((0 : Int) = 0) = true := rfl
    have hsz : sizeX x + r1.length ≤ r.length := P_size hP
    have hsuf : Suf r r1 := P_suf hP he
    have hgx : allX gX x := P_good hP hok he (fun _ _ h => by cases h) (fun _ _ h => by cases h)
    have hgy : allX gX y := (norm_gX y).1 (hy.symm ▸ hgx)
    have hys' : sizeX y = sizeX x := by rw [← hy, norm_size]
    have hoy := gX_ok hgy (by omega)
    simp only [szX, splX, ob_some, nil_Pt, add_Pt, h'.ld2, i_neq, h0, Bool.not_true, cnd_f, partX]
    refine c28 y hoy.1 H' _ (fun H2 e2 => ?_)
    have h2 := h'.mono e2
    have hcx : checkP x = checkP y := by rw [← hy]; exact norm_check (by omega)
    rw [i_neq, ob_some]
    refine cnd_intro (fun hc => ?_) (fun hc => ?_)
    · simp only [zX_b, ob_some, szX, splX, partX]
      exact hq.2 (by rw [hcx]; simpa using hc) H2 h2.toRD
    · rw [c21 h2.rd (endsT_ne hsuf.1)]
      exact hq.1 (by rw [hcx]; simpa using hc) y H2 hy hys hgy h2.toRD
/-- what a text says -/
inductive TR where
  | ok (x : Ex)
  | bad (p : Nat) (e : Int)
inductive TextR (s : ByteArray) : TR → Prop
  | lex {p : Nat} {e : Int} : lexA s = .error (p, e) → TextR s (.bad p e)
  | bad {L e p} : lexA s = .ok L → P (.row true) 0 L (.bad e p) → TextR s (.bad p e)
  | long {L x r1} : lexA s = .ok L → P (.row true) 0 L (.ok x r1) → checkP x ≠ 0 → TextR s (.bad (posn L) 2)
  | more {L x r1} : lexA s = .ok L → P (.row true) 0 L (.ok x r1) → checkP x = 0 → kindN r1 ≠ 6 → TextR s (.bad (posn r1) 4)
  | ok {L x r1} : lexA s = .ok L → P (.row true) 0 L (.ok x r1) → checkP x = 0 → kindN r1 = 6 → TextR s (.ok x)
theorem TextR_ne {s : ByteArray} {p : Nat} {e : Int} (h : TextR s (.bad p e)) : e ≠ 0 := by
  cases h with
  | lex h => exact (lexA_bad h).2
  | bad _ h => exact P_ne h _ _ rfl
  | long => decide
  | more => decide
theorem TextR_total (s : ByteArray) : ∃ R, TextR s R := by
  cases hl : lexA s with
  | error x => exact ⟨_, .lex hl⟩
  | ok L =>
    obtain ⟨R, hR, _⟩ := P_total _ (.row true) 0 L (Nat.le_refl _) (lexA_len hl).2
    cases R with
    | bad e p => exact ⟨_, .bad hl hR⟩
    | ok x r1 =>
      by_cases hc : checkP x = 0
      · by_cases hk : kindN r1 = 6
        · exact ⟨_, .ok hl hR hc hk⟩
        · exact ⟨_, .more hl hR hc hk⟩
      · exact ⟨_, .long hl hR hc⟩
end Go.Hx
