/- Contracts of the program's parser: what is no row. Own work. -/
import Derived.Test.YtancdapnpceogaaGreatS5AB
import Derived.Test.YtancdapnpceogaaGreatS5R
set_option maxRecDepth 20000
namespace Go.Hx
/-- what is answered -/
def Res (H0 : Heap) (T : Nat → Nat → Prop) (pb rb : Nat) (o : Nat) (Bd : Nat) (Q : Post) : PR → Prop
  | .ok x r1 => ∀ y H', norm y = x → allX shX y → PS H0 T pb rb r1 o 0 0 H' → Q (encX y) H'
  | .bad e p => ∀ y H' r1 o', allX shX y → sizeX y ≤ Bd → r1 ≠ [] → PS H0 T pb rb r1 o' e p H' → Q (encX y) H'
theorem zX_sh : allX shX zX := sh_leaf _ _ _ _ _ _
theorem zX_size : sizeX zX = 1 := rfl
theorem constX_sh (v : Vl) : allX shX (.mk 1 v e0 e0 0 true .full []) := sh_leaf _ _ _ _ _ _
theorem fieldb (v f : ByteArray) : bldA [(0, 1, I 2), (4, 1, S v), (5, 1, S f)] [I 0, I 0, I 0, S ⟨#[]⟩, S ⟨#[]⟩, S ⟨#[]⟩, AV.sl 0 true .full []] = some (encX (.mk 2 nullV v f 0 true .full [])) := by rw [encX_mk]; rfl
section
variable {H0 H : Heap} {T : Nat → Nat → Prop} {pb rb : Nat} {r : List Tk} {o : Nat} {Q : Post} {Bd : Nat}
theorem c252 {a e : Int} (h : PS H0 T pb rb r o e a H) (hr : r ≠ []) (k : Int) (s : ByteArray) : E 252 [Pt pb, I k, S s] H Q = Q (B (nextIs k s r)) H := by
  cases r with
  | nil => exact (hr rfl).elim
  | cons t r =>
    rw [f252_eq, nil_Pt, ob_some, add_Pt, ob_some, h.ld0, ob_some, c44' h.rd]
    simp only [encK_sz, encK_sp, ob_some, part_f, List.getElem?_cons_zero, List.getElem?_cons_succ, i_eql, s_eql, f252_j6_eq, cnd_B, decide_eq_true_eq, nextIs]
    split <;> simp_all
theorem c315 (s : ByteArray) (hs : s.size ≤ 256) (H : Heap) (Q : Post) : E 315 [S s] H Q = Q (encV (textV s)) H := by
  have h0 : decide ((256 : Int) < (s.size : Int)) = false := decide_eq_false (by omega)
  have hb : bldA [(0, 1, I 3), (2, 1, S s)] [I 0, I 0, S ⟨#[]⟩] = some (encV (textV s)) := rfl
  have h1 : spliceA 0 [I (textV s).k, I (textV s).n, S (textV s).s] [I 0, I 0, S ⟨#[]⟩] = some [I (textV s).k, I (textV s).n, S (textV s).s] := rfl
  have h2 : partA true 0 3 [I (textV s).k, I (textV s).n, S (textV s).s] = some (encV (textV s)) := rfl
  rw [f315_eq, len_S, ob_some, i_gtr, ob_some, h0, cnd_f, hb, ob_some, sz3, ob_some, h1, ob_some, h2, ob_some]
theorem c317 (s : ByteArray) (H : Heap) (Q : Post) : E 317 [S s] H Q = Q (match wordV s with | some v => .tup [encV v, B true] | none => .tup [encV nullV, B false]) H := by
  have h1 : ∀ v : Vl, spliceA 0 [I v.k, I v.n, S v.s] [I 0, I 0, S ⟨#[]⟩] = some [I v.k, I v.n, S v.s] := fun v => rfl
  have h2 : ∀ v : Vl, partA true 0 3 [I v.k, I v.n, S v.s] = some (encV v) := fun v => rfl
  rw [f317_eq, s_eql, ob_some]
  by_cases g1 : s = sTRUE
  · have hw : wordV s = some (boolV true) := by rw [wordV, if_pos g1]
    rw [hw, decide_eq_true (show s = ⟨#[84, 82, 85, 69]⟩ from g1), cnd_t, c251, sz3, ob_some, h1, ob_some, h2, ob_some]
  · rw [decide_eq_false (show ¬ s = ⟨#[84, 82, 85, 69]⟩ from g1), cnd_f, s_eql, ob_some]
    by_cases g2 : s = sFALSE
    · have hw : wordV s = some (boolV false) := by rw [wordV, if_neg g1, if_pos g2]
      rw [hw, decide_eq_true (show s = ⟨#[70, 65, 76, 83, 69]⟩ from g2), cnd_t, c251, sz3, ob_some, h1, ob_some, h2, ob_some]
    · rw [decide_eq_false (show ¬ s = ⟨#[70, 65, 76, 83, 69]⟩ from g2), cnd_f, s_eql, ob_some]
      by_cases g3 : s = sNULL
      · have hw : wordV s = some nullV := by rw [wordV, if_neg g1, if_neg g2, if_pos g3]
        rw [hw, decide_eq_true (show s = ⟨#[78, 85, 76, 76]⟩ from g3), cnd_t, c259, sz3, ob_some, h1, ob_some, h2, ob_some]
      · have hw : wordV s = none := by rw [wordV, if_neg g1, if_neg g2, if_neg g3]
        rw [hw, decide_eq_false (show ¬ s = ⟨#[78, 85, 76, 76]⟩ from g3), cnd_f, c259, sz3, ob_some, h1, ob_some, h2, ob_some]
/-- a number -/
theorem c311 (m : Bool) {t : Tk} {r : List Tk} (h : PS H0 T pb rb (t :: r) o 0 0 H) (hk : t.k = 3) (hok : okTk t) (hB : 1 ≤ Bd) (hq : Res H0 T pb rb o Bd Q (numR m (t :: r))) : E 311 [Pt pb, strT (if m = true then [45] else [])] H Q := by
  obtain ⟨hsz, hdig, _⟩ := hok
  have hdig := hdig hk
  have hts : t.s = bs (tx t.s) := (bs_tx t.s).symm
  have hlen : (tx t.s).length = t.s.size := size_list t.s
  have j10 : ∀ d : AV, d = S (bs (numB (m && !decide (t.s = ⟨#[48]⟩)) (tx t.s))) → f311_j10 (Pt pb) [I 0, I 0, I 0, S ⟨#[]⟩, S ⟨#[]⟩, S ⟨#[]⟩, AV.sl 0 true .full []] d H Q := fun d hd => by
    subst hd
    have hD : DigL (m && !decide (t.s = ⟨#[48]⟩)) (tx t.s) := by
      obtain ⟨h1, h2, h3⟩ := hdig
      refine ⟨h1, h2, ?_⟩
      rcases h3 with h3 | ⟨_, h3⟩
      · exact .inl h3
      · by_cases h48 : t.s = ⟨#[48]⟩
        · right; rw [decide_eq_true h48]; exact ⟨by simp, h3⟩
        · left
          intro hh
          apply h48
          cases hl : tx t.s with
          | nil => rw [hl] at h3; cases h3
          | cons c l =>
            rw [hl] at h3 hh
            have : l = [] := by simpa using h3
            subst this
            have hc : c.toNat = 48 := by simpa using hh
            have hc : c = 48 := UInt8.toNat_inj.1 hc
            rw [hts, hl, hc]
    have hv : numV (m && !decide (t.s = ⟨#[48]⟩)) (bs (tx t.s)) = numV m t.s := by
      rw [bs_tx]
      by_cases h48 : t.s = ⟨#[48]⟩
      · rw [h48]; cases m <;> rfl
      · rw [decide_eq_false h48]; simp
    rw [f311_j10_eq, c269 _ _ (by omega) hD, hv, extN0, ob_some, extN1, ob_some]
    cases hn : numOf m t.s with
    | none =>
      have hN : numV m t.s = (0, 10) := by simp only [numV, hn]
      rw [hN, enc_err 10 (by decide), ob_some, cnd_t]
      refine c285 h (by simp) 4 (fun H' h' => ?_)
      simp only [szX, splX, partX, ob_some]
      simp only [numR, hn] at hq
      exact hq zX H' _ _ zX_sh (by rw [zX_size]; exact hB) (by simp) h'
    | some n =>
      have hN : numV m t.s = (n, 0) := by simp only [numV, hn]
      rw [hN, enc_ok, ob_some, cnd_f]
      simp only [nil_Pt, ob_some, add_Pt, h.ld0]
      refine c268' h.rd (by omega) _ (fun ob1 hr => ?_)
      rw [c319, constb, ob_some, szX, ob_some, splX, ob_some, partX, ob_some]
      simp only [numR, hn] at hq
      exact hq _ _ (by rw [norm_mkl]; rfl) (constX_sh _) (h.setr hr)
  rw [f311_eq, nil_Pt, ob_some, add_Pt, ob_some, h.ld0, ob_some, c44' h.rd, fK1, s_neq, ob_some]
  refine cnd_intro (fun h1 => ?_) (fun h1 => ?_)
  · have h1 : t.s ≠ ⟨#[48]⟩ := by simpa using h1
    have hS : S t.s = strT (tx t.s) := by show S t.s = S (bs (tx t.s)); rw [bs_tx]
    rw [hS, s_add _ _ _ _ (by have : (if m = true then [45] else ([] : List UInt8)).length ≤ 1 := by cases m <;> simp
                              omega), ob_some]
    refine j10 _ ?_
    rw [decide_eq_false h1]; simp only [Bool.not_false, Bool.and_true]; rfl
  · have h1 : t.s = ⟨#[48]⟩ := by simpa using h1
    refine j10 _ ?_
    rw [decide_eq_true h1]; simp only [Bool.not_true, Bool.and_false, numB, Bool.false_eq_true, if_false, List.nil_append, bs_tx]
/-- a field, behind its Var -/
theorem c316 (v : ByteArray) {a : Int} (h : PS H0 T pb rb r o 0 0 H) (he : endsT r) (hB : 1 ≤ Bd) (hq : Res H0 T pb rb o Bd Q (fieldR v r)) : E 316 [Pt pb, S v] H Q := by
  have hr := endsT_ne he
  rw [f316_eq]
  simp only [nil_Pt, ob_some, add_Pt, h.ld0]
  refine c228 _ h.rd hr _ (fun hn => ?_) (fun t r1 ob1 e hn h1 => ?_)
  · rw [not_B, ob_some, Bool.not_false, cnd_t]
    refine c285 h hr 4 (fun H' h' => ?_)
    simp only [szX, splX, partX, ob_some]
    simp only [fieldR, hn] at hq
    exact hq zX H' _ _ zX_sh (by rw [zX_size]; exact hB) hr h'
  · subst e
    have h2 := h.setr h1
    have he1 := endsT_tail he (by rw [(nextIs_cons hn).1]; decide)
    have hr1 := endsT_ne he1
    rw [not_B, ob_some, Bool.not_true, cnd_f]
    rw [h2.ld0, ob_some]
    simp only [fieldR, hn, if_true, List.tail_cons] at hq
    refine c229 h2.rd hr1 _ (fun hk => ?_) (fun u r2 ob2 e hk h3 => ?_)
    · rw [x20, ob_some, x21, ob_some, not_B, ob_some, Bool.not_false, cnd_t]
      refine c285 h2 hr1 4 (fun H' h' => ?_)
      simp only [szX, splX, partX, ob_some]
      cases r1 with
      | nil => exact (hr1 rfl).elim
      | cons u r2 =>
        simp only [kindN] at hk
        simp only [if_neg hk] at hq
        exact hq zX H' _ _ zX_sh (by rw [zX_size]; exact hB) (by simp) h'
    · subst e
      simp only [if_pos hk] at hq
      rw [x20, ob_some, x21, ob_some, not_B, ob_some, Bool.not_true, cnd_f, fieldb, ob_some, szX, ob_some, splX, ob_some, partX, ob_some]
      exact hq _ _ (by rw [norm_mkl]; rfl) (sh_leaf _ _ _ _ _ _) (h2.setr h3)
/-- something within, behind a token -/
theorem c254 {fv : AV} {t : Tk} (h : PS H0 T pb rb (t :: r) o 0 0 H) (hk : t.k ≠ 6) (h0 : 200 ≤ o → ∀ H', PS H0 T pb rb (t :: r) o 2 t.p H' → Q (encX zX) H')
    (h1 : o < 200 → ∀ H', PS H0 T pb rb r ((o + 1 : Nat) : Int) 0 0 H' → ∀ K : Post, (∀ y H2 r1 o1 e a, PS H0 T pb rb r1 o1 e a H2 → (∀ H3, PS H0 T pb rb r1 (W64 (o1 - 1)) e a H3 → Q (encX y) H3) → K (encX y) H2) → callA (Ev Pg Hs) fv [] H' K) : E 254 [Pt pb, fv] H Q := by
  rw [f254_eq, nil_Pt, ob_some, add_Pt, ob_some, h.ld1, ob_some, i_geq, ob_some]
  refine cnd_intro (fun hc => ?_) (fun hc => ?_)
  · refine c285 h (by simp) 2 (fun H' h' => ?_)
    simp only [szX, splX, partX, ob_some]
    exact h0 (by simp at hc; omega) H' h'
  · have hc : o < 200 := by simp at hc; omega
    simp only [nil_Pt, ob_some, add_Pt, h.ld0]
    refine c268' h.rd hk _ (fun ob1 hr => ?_)
    have h2 := h.setr hr
    have hw : W64 ((o : Int) + 1) = ((o + 1 : Nat) : Int) := w64_succ (n := 1000) (by omega) (by omega)
    have h3 := h2.setp ((o + 1 : Nat) : Int) 0 0
    rw [h2.ld1, ob_some, i_add, ob_some, hw, h2.st1, ob_some]
    refine h1 hc _ h3 _ (fun y H2 r1 o1 e a h4 hQ => ?_)
    have h5 := h4.setp (W64 (o1 - 1)) e a
    rw [szX, ob_some, splX, ob_some, h4.ld1, ob_some, i_sub, ob_some, h4.st1, ob_some, partX, ob_some, szX, ob_some, splX, ob_some, partX, ob_some]
    exact hQ _ h5
/-- the next sign of two parts -/
theorem c284 {lo hi : Int} (h : PS H0 T pb rb r o 0 0 H) (hr : r ≠ []) (h0 : opOf lo hi r = none → ∀ H', PS H0 T pb rb r o 0 0 H' → Q (.tup [I 0, B false]) H')
    (h1 : ∀ t r1 k H', r = t :: r1 → opOf lo hi r = some k → PS H0 T pb rb r1 o 0 0 H' → Q (.tup [I k, B true]) H') : E 284 [Pt pb, I lo, I hi] H Q := by
  cases r with
  | nil => exact (hr rfl).elim
  | cons t r =>
    have loop : ∀ (m j : Nat) (H : Heap), j + m = 11 → PS H0 T pb rb (t :: r) o 0 0 H → ((if t.k = 5 then opI lo hi t.s m j else none) = none → ∀ H', PS H0 T pb rb (t :: r) o 0 0 H' → Q (.tup [I 0, B false]) H') →
        (∀ k H', (if t.k = 5 then opI lo hi t.s m j else none) = some k → PS H0 T pb rb r o 0 0 H' → Q (.tup [I k, B true]) H') → f284_l6 (Pt pb) (I lo) (I hi) (.agg signC) (I j) H Q := by
      intro m
      induction m with
      | zero =>
        intro j H e h h0 h1
        have : decide ((j : Int) < 11) = false := decide_eq_false (by omega)
        rw [f284_l6_eq, i_lss, ob_some, this, cnd_f]
        exact h0 (by simp only [opI]; split <;> rfl) H h
      | succ m ih =>
        intro j H e h h0 h1
        have hlt : decide ((j : Int) < 11) = true := decide_eq_true (by omega)
        have hj : j < 11 := by omega
        have hix : ixAgg 11 true 2 (.agg signC) (I j) = some (.agg [S (opS j), I ((j : Int) + 4)]) := by
          clear ih e h h0 h1 hlt
          match j, hj with
          | 0, _ | 1, _ | 2, _ | 3, _ | 4, _ | 5, _ | 6, _ | 7, _ | 8, _ | 9, _ | 10, _ => rfl
          | n + 11, h => exact absurd h (by omega)
        have hsz : sizedA 2 (.agg [S (opS j), I ((j : Int) + 4)]) = some [S (opS j), I ((j : Int) + 4)] := rfl
        have hsp : spliceA 0 [S (opS j), I ((j : Int) + 4)] [S ⟨#[]⟩, I 0] = some [S (opS j), I ((j : Int) + 4)] := rfl
        have next : (∀ (X : Prop), (if t.k = 5 then opI lo hi t.s (m + 1) j else none) = (if t.k = 5 then opI lo hi t.s m (j + 1) else none)) → ∀ H', PS H0 T pb rb (t :: r) o 0 0 H' →
            f284_j19 (Pt pb) (I lo) (I hi) [S (opS j), I ((j : Int) + 4)] (.agg signC) (I j) (B false) H' Q := fun hx H' h' => by
          have hx := hx True
          rw [f284_j19_eq, cnd_f, i_add, ob_some, w64_succ (n := 11) hj (by omega)]
          exact ih (j + 1) H' (by omega) h' (fun h => h0 (hx.trans h)) (fun k H2 h => h1 k H2 (hx.trans h))
        rw [f284_l6_eq, i_lss, ob_some, hlt, cnd_t, hix, ob_some, hsz, ob_some, hsp, ob_some, part_f]
        simp only [List.getElem?_cons_succ, List.getElem?_cons_zero, ob_some, i_geq, i_leq, part_f]
        refine cnd_intro (fun g1 => ?_) (fun g1 => ?_)
        · have g1 : lo ≤ (j : Int) + 4 := by simpa using g1
          refine cnd_intro (fun g2 => ?_) (fun g2 => ?_)
          · have g2 : (j : Int) + 4 ≤ hi := by simpa using g2
            simp only [nil_Pt, ob_some, add_Pt, h.ld0]
            refine c228 _ h.rd (by simp) _ (fun hn => ?_) (fun t' r' ob1 e' hn hr' => ?_)
            · refine next (fun _ => ?_) H h
              by_cases h5 : t.k = 5
              · have hs : t.s ≠ opS j := fun hs => by simp [nextIs, h5, hs] at hn
                rw [if_pos h5, if_pos h5, opI, if_neg (fun hh => hs hh.2.2)]
              · rw [if_neg h5, if_neg h5]
            · cases e'
              have hc := nextIs_cons hn
              have h2 := h.setr hr'
              rw [f284_j19_eq, cnd_t, part_f]
              simp only [List.getElem?_cons_succ, List.getElem?_cons_zero, ob_some]
              exact h1 _ _ (by rw [if_pos hc.1, opI, if_pos ⟨g1, g2, hc.2⟩]) h2
          · have g2 : ¬ (j : Int) + 4 ≤ hi := by simpa using g2
            refine next (fun _ => ?_) H h
            split
            · rw [opI, if_neg (fun hh => g2 hh.2.1)]
            · rfl
        · have g1 : ¬ lo ≤ (j : Int) + 4 := by simpa using g1
          refine next (fun _ => ?_) H h
          split
          · rw [opI, if_neg (fun hh => g1 hh.1)]
          · rfl
    rw [f284_eq]
    refine c261 H _ (fun H1 e1 => ?_)
    exact loop 11 0 H1 rfl (h.mono e1) (fun hh => h0 hh) (fun k H' hh h' => h1 t r k H' rfl hh h')
end
end Go.Hx
