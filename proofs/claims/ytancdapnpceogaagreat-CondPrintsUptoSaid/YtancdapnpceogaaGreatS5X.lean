/- Contracts of the program's tokens, all. Own work. -/
import Derived.Test.YtancdapnpceogaaGreatS5W
set_option maxRecDepth 20000
namespace Go.Hx
def nextV (p : Nat) : L1 → AV
  | .tok k w n => .tup [encK ⟨k, bs w, p⟩, I ((p + n : Nat) : Int), I 0]
  | .bad n e => .tup [zeroK, I ((p + n : Nat) : Int), I e]
theorem encK_sz (t : Tk) : sizedA 3 (encK t) = some [I t.k, S t.s, I t.p] := rfl
theorem encK_sp (t : Tk) : spliceA 0 [I t.k, S t.s, I t.p] [I 0, S ⟨#[]⟩, I 0] = some [I t.k, S t.s, I t.p] := rfl
theorem encK_pt (t : Tk) : partA true 0 3 [I t.k, S t.s, I t.p] = some (encK t) := rfl
theorem zK_b : bldA [] [I 0, S ⟨#[]⟩, I 0] = some zeroK := rfl
theorem zK_sz : sizedA 3 zeroK = some [I 0, S ⟨#[]⟩, I 0] := rfl
theorem zK_sp : spliceA 0 [I 0, S ⟨#[]⟩, I 0] [I 0, S ⟨#[]⟩, I 0] = some [I 0, S ⟨#[]⟩, I 0] := rfl
theorem zK_pt : partA true 0 3 [I 0, S ⟨#[]⟩, I 0] = some zeroK := rfl
section
variable {T : Nat → Option Nat} {H0 H : Heap} {b : Nat} {s : ByteArray} {pre r : List UInt8} {Q : Post}
def textL (r : List UInt8) : L1 := match unq r with
  | .ok s n => .tok 4 s n
  | .bad n e => .bad n e
theorem unq_len {r s : List UInt8} {n : Nat} (h : unq r = .ok s n) : s.length ≤ 256 ∧ 1 ≤ n ∧ n ≤ r.length := by
  cases r with
  | nil => cases h
  | cons c r =>
    simp only [unq] at h
    split at h
    · have := unqF_len _ _ _ r (Nat.le_refl _) _ _ h
      simp only [List.length_cons]; omega
    · cases h
theorem unq_bad : ∀ (m p : Nat) (out r : List UInt8), r.length ≤ m → ∀ n e, unqF p out r = .bad n e → n ≤ p + r.length ∧ e ≠ 0 := by
  intro m
  induction m with
  | zero =>
    intro p out r hr n e h
    cases r with
    | nil => rw [unqF] at h; cases h; simp
    | cons c r => simp at hr
  | succ m ih =>
    intro p out r hr n e h
    cases r with
    | nil => rw [unqF] at h; cases h; simp
    | cons c r =>
      rw [unqF.eq_def] at h
      simp only [List.length_cons] at hr h ⊢
      split at h
      · split at h
        · cases h; simp
        · cases h
      · split at h
        · split at h
          · rename_i q hq
            cases h
            refine ⟨?_, by simp⟩
            cases r with
            | nil => simp only [escR] at hq; cases hq; simp
            | cons d r =>
              simp only [escR] at hq
              split at hq
              · cases hq
              · split at hq
                · cases hq; simp
                · split at hq
                  · rename_i q' hq'
                    cases hq
                    cases r with
                    | nil => simp only [hexR] at hq'; cases hq'; simp
                    | cons x r =>
                      simp only [hexR] at hq'
                      split at hq'
                      · cases hq'; simp
                      · cases r with
                        | nil => simp only at hq'; cases hq'; simp
                        | cons y r =>
                          simp only at hq'
                          split at hq'
                          · cases hq'; simp; omega
                          · cases hq'
                  · split at hq
                    · cases hq; omega
                    · cases hq
          · rename_i d k hd
            have h1 := escR_len hd
            have := ih _ _ (r.drop (k - 1)) (by simp; omega) _ _ h
            simp only [List.length_drop] at this; omega
        · split at h
          · have := ih _ _ r (by omega) _ _ h; omega
          · cases h; simp
theorem unq_bad' {r : List UInt8} {n : Nat} {e : Int} (h : unq r = .bad n e) : n ≤ r.length ∧ e ≠ 0 := by
  cases r with
  | nil => cases h; simp
  | cons c r =>
    simp only [unq] at h
    split at h
    · have := unq_bad _ _ _ r (Nat.le_refl _) _ _ h
      simp only [List.length_cons]; omega
    · cases h; simp
theorem c174 (h : Sc H0 T b s pre.length H) (e : tx s = pre ++ r) (hsz : s.size ≤ 1099511627776)
    (hq : ∀ H' p, Sc H0 T b s p H' → (∀ k w n, textL r = .tok k w n → p = pre.length + n) → Q (nextV pre.length (textL r)) H') : E 174 [Pt b] H Q := by
  have hb := size_bound e
  rw [f174_eq]
  refine c242 h e ?_
  refine c241 r (by omega) H _ (fun H1 e1 => ?_)
  have h1 := h.mono e1
  cases hu : unq r with
  | bad n er =>
    have hn := unq_bad' hu
    have hne : decide (er = 0) = false := decide_eq_false hn.2
    have hw : W64 ((pre.length : Int) + (n : Int)) = ((pre.length + n : Nat) : Int) := w64_add (by omega)
    simp only [uqV, x3_0, x3_1, x3_2, ob_some, i_neq, hne, Bool.not_false, cnd_t, nil_Pt, add_Pt, apL, h1.ld1, i_add, hw, zK_b, zK_sz, zK_sp, zK_pt]
    have := hq H1 pre.length h1
    simp only [textL, hu] at this
    exact this (fun _ _ _ h => by cases h)
  | ok w n =>
    have hn := unq_len hu
    have hw : W64 ((pre.length : Int) + (n : Int)) = ((pre.length + n : Nat) : Int) := w64_add (by omega)
    have hbd : bldA [(0, 1, I 4), (1, 1, S (bs w)), (2, 1, I pre.length)] [I 0, S ⟨#[]⟩, I 0] = some (encK ⟨4, bs w, pre.length⟩) := rfl
    have hne : (!decide ((0 : Int) = 0)) = false := rfl
    have es := encK_sz ⟨4, bs w, pre.length⟩
    have ep := encK_sp ⟨4, bs w, pre.length⟩
    have et := encK_pt ⟨4, bs w, pre.length⟩
    have h2 := h1.set (pre.length + n)
    simp only [uqV, x3_0, x3_1, x3_2, ob_some, i_neq, hne, cnd_f, nil_Pt, add_Pt, apL, h1.ld1, i_add, hw, hbd, es, ep, et, h1.st1, h2.ld1]
    have := hq _ _ h2
    simp only [textL, hu] at this
    exact this (fun _ _ _ h => by cases h; rfl)
theorem cv32 (c : UInt8) : cvtIA .i32 (U8 c.toNat) = some (R32 c.toNat) := by
  have : ∀ n : Fin 256, IntKind.i32.wrap (n.1 : Int) = (n.1 : Int) := by decide +kernel
  have := this ⟨c.toNat, byte_lt c⟩
  show some (AV.raw (.int .i32 (IntKind.i32.wrap _))) = _
  rw [this]
/-- behind what tells whether there is a token -/
theorem lexN {L : L1} {p : Nat} {H' : Heap} (h' : Sc H0 T b s (p + resN L) H') (hL : ∀ n e, L = .bad n e → n = 0 ∧ e = 4) (hq : ∀ p', Sc H0 T b s p' H' → (∀ k w n, L = .tok k w n → p' = p + n) → Q (nextV p L) H') :
    ob (extractA (resV p L) 0) fun r29 => ob (extractA (resV p L) 1) fun r31 => ob (sizedA 3 r29) fun b33 => ob (spliceA 0 b33 [I 0, S ⟨#[]⟩, I 0]) fun b34 => ob (unA .not r31) fun r35 => cndA r35 (ob (bldA [] [I 0, S ⟨#[]⟩, I 0]) fun r36 => ob (sizedA 3 r36) fun b37 => ob (spliceA 0 b37 [I 0, S ⟨#[]⟩, I 0]) fun b38 => ob (partA true 0 3 b38) fun r39 => Q (.tup [r39, I p, I 4]) H')
      (ob (partA true 0 3 b34) fun r40 => ob (nilA (Pt b)) fun r41 => ob (addPA r41 1) fun r42 => apL r42 [] (ob (ldH H' false 1 r42) fun r43 => ob (sizedA 3 r40) fun b44 => ob (spliceA 0 b44 [I 0, S ⟨#[]⟩, I 0]) fun b45 => ob (partA true 0 3 b45) fun r46 => Q (.tup [r46, r43, I 0]) H')) := by
  cases L with
  | bad n e =>
    obtain ⟨rfl, rfl⟩ := hL n e rfl
    have : unA .not (B false) = some (B true) := rfl
    simp only [resV, x20, x21, ob_some, zK_b, zK_sz, zK_sp, zK_pt, this, cnd_t]
    exact hq _ h' (fun _ _ _ h => by cases h)
  | tok k w n =>
    have : unA .not (B true) = some (B false) := rfl
    have es := encK_sz ⟨k, bs w, p⟩
    have ep := encK_sp ⟨k, bs w, p⟩
    have et := encK_pt ⟨k, bs w, p⟩
    simp only [resN] at h'
    simp only [resV, x20, x21, ob_some, es, ep, et, this, cnd_f, nil_Pt, add_Pt, apL, h'.ld1]
    exact hq _ h' (fun _ _ _ h => by cases h; rfl)
theorem wordT_bad {k : Int} {p : UInt8 → Bool} {r : List UInt8} : ∀ n e, wordT k p r = .bad n e → n = 0 ∧ e = 4 := by
  intro n e h; simp only [wordT] at h; split at h <;> cases h; exact ⟨rfl, rfl⟩
theorem intT_bad {r : List UInt8} : ∀ n e, intT r = .bad n e → n = 0 ∧ e = 4 := by
  intro n e h; simp only [intT] at h; split at h <;> cases h; exact ⟨rfl, rfl⟩
theorem signF_bad {r : List UInt8} : ∀ n e, signF r = .bad n e → n = 0 ∧ e = 4 := by
  intro n e h; simp only [signF] at h; split at h <;> cases h; exact ⟨rfl, rfl⟩
/-- the next token -/
theorem c105 {c : UInt8} (h : Sc H0 T b s pre.length H) (e : tx s = pre ++ c :: r) (hsz : s.size ≤ 1099511627776)
    (hq : ∀ H' p, Sc H0 T b s p H' → (∀ k w n, lex1 (c :: r) = .tok k w n → p = pre.length + n) → Q (nextV pre.length (lex1 (c :: r))) H') : E 105 [Pt b] H Q := by
  have z : ([I 0, S ⟨#[]⟩, I 0] : List AV) = [I 0, S ⟨#[]⟩, I 0] := rfl
  rw [f105_eq]
  simp only [nil_Pt, ob_some, add_Pt, h.ld0, h.ld1, ixS s pre r c e, cv32]
  have e39 : binA Pg .eql 21 true (R32 c.toNat) (AV.raw (.int .i32 39)) = some (B (decide (c.toNat = 39))) := by
    rw [k_eql]
    have : decide ((c.toNat : Int) = 39) = decide (c.toNat = 39) := by simp; omega
    rw [this]
  rw [e39, ob_some]
  refine cnd_intro (fun h1 => ?_) (fun h1 => ?_)
  · have h1 : c.toNat = 39 := by simpa using h1
    refine c174 h e hsz (fun H' p h' hp => ?_)
    have hl : lex1 (c :: r) = textL (c :: r) := by simp only [lex1, textL, if_pos h1]; cases unq (c :: r) <;> rfl
    have := hq H' p h' (by rw [hl]; exact hp)
    rw [hl] at this
    cases hL : textL (c :: r) with
    | bad n er =>
      rw [hL] at this
      simp only [nextV, x3_0, x3_1, x3_2, ob_some, zK_sz, zK_sp, zK_pt]; exact this
    | tok k w n =>
      have es := encK_sz ⟨k, bs w, pre.length⟩
      have ep := encK_sp ⟨k, bs w, pre.length⟩
      have et := encK_pt ⟨k, bs w, pre.length⟩
      rw [hL] at this
      simp only [nextV, x3_0, x3_1, x3_2, ob_some, es, ep, et]; exact this
  · have h1 : c.toNat ≠ 39 := by simpa using h1
    have u : uppI (c.toNat : Nat) = uppB c := rfl
    have l : lowI (c.toNat : Nat) = lowB c := rfl
    have d : digI (c.toNat : Nat) = digB c := rfl
    have j55 : ∀ (k : Int) (x : Bool), (x = true → k = 2 ∨ k = 3) → (∀ L, L = (if x = true then (if k = 2 then wordT 2 signB (c :: r) else intT (c :: r)) else signF (c :: r)) → ∀ H' p, Sc H0 T b s p H' → (∀ k w n, L = .tok k w n → p = pre.length + n) → Q (nextV pre.length L) H') →
        f105_j55 (Pt b) [I 0, S ⟨#[]⟩, I 0] (I k) (I pre.length) [I 0, S ⟨#[]⟩, I 0] (B x) H Q := fun k x hk hq => by
      rw [f105_j55_eq]
      refine cnd_intro (fun h2 => ?_) (fun h2 => ?_)
      · subst h2
        rcases hk rfl with rfl | rfl
        · refine c178_w h e hsz 2 (.inr rfl) (fun H' h' => ?_)
          have e2 : (if (2 : Int) = 1 then uppB else signB) = signB := rfl
          rw [e2] at h' ⊢
          exact lexN h' wordT_bad (fun p' h2 h3 => hq _ rfl H' p' h2 h3)
        · refine c178_n h e hsz (by simp) (fun H' h' => ?_)
          exact lexN h' intT_bad (fun p' h2 h3 => hq _ rfl H' p' h2 h3)
      · subst h2
        refine c179 h e hsz (fun H' h' => ?_)
        exact lexN h' signF_bad (fun p' h2 h3 => hq _ rfl H' p' h2 h3)
    have k1 : decide ((1 : Int) = 1) = true := rfl
    have k21 : decide ((2 : Int) = 1) = false := rfl
    have k31 : decide ((3 : Int) = 1) = false := rfl
    have k51 : decide ((5 : Int) = 1) = false := rfl
    have k22 : decide ((2 : Int) = 2) = true := rfl
    have k32 : decide ((3 : Int) = 2) = false := rfl
    have k52 : decide ((5 : Int) = 2) = false := rfl
    have k33 : decide ((3 : Int) = 3) = true := rfl
    have k53 : decide ((5 : Int) = 3) = false := rfl
    rw [c175, u]
    refine cnd_intro (fun h2 => ?_) (fun h2 => ?_)
    · rw [f105_j27_eq]
      simp only [nil_Pt, ob_some, add_Pt, h.ld1, i_eql, k1, cnd_t]
      refine c178_w h e hsz 1 (.inl rfl) (fun H' h' => ?_)
      have e2 : (if (1 : Int) = 1 then uppB else signB) = uppB := rfl
      rw [e2] at h' ⊢
      have hl : lex1 (c :: r) = wordT 1 uppB (c :: r) := by simp only [lex1, if_neg h1, if_pos h2]
      exact lexN h' wordT_bad (fun p' h2 h3 => by rw [← hl]; exact hq H' p' h2 (by rw [hl]; exact h3))
    · rw [c176, l]
      refine cnd_intro (fun h3 => ?_) (fun h3 => ?_)
      · rw [f105_j27_eq]
        simp only [nil_Pt, ob_some, add_Pt, h.ld1, i_eql, k21, cnd_f, k22, cnd_t]
        have hl : lex1 (c :: r) = wordT 2 signB (c :: r) := by simp only [lex1, if_neg h1, h2, h3, if_true]; rfl
        exact j55 2 true (fun _ => .inl rfl) (fun L hL H' p h' hp => by
          have : L = lex1 (c :: r) := by rw [hl, hL]; rfl
          subst this; exact hq H' p h' hp)
      · rw [c177, d]
        refine cnd_intro (fun h4 => ?_) (fun h4 => ?_)
        · rw [f105_j27_eq]
          simp only [nil_Pt, ob_some, add_Pt, h.ld1, i_eql, k31, cnd_f, k32, k33]
          have hl : lex1 (c :: r) = intT (c :: r) := by simp only [lex1, if_neg h1, h2, h3, h4, if_true]; rfl
          exact j55 3 true (fun _ => .inr rfl) (fun L hL H' p h' hp => by
            have : L = lex1 (c :: r) := by rw [hl, hL]; rfl
            subst this; exact hq H' p h' hp)
        · rw [f105_j27_eq]
          simp only [nil_Pt, ob_some, add_Pt, h.ld1, i_eql, k51, cnd_f, k52, k53]
          have hl : lex1 (c :: r) = signF (c :: r) := by simp only [lex1, if_neg h1, h2, h3, h4]; rfl
          exact j55 5 false (fun h => by cases h) (fun L hL H' p h' hp => by
            have : L = lex1 (c :: r) := by rw [hl, hL]; rfl
            subst this; exact hq H' p h' hp)
/-- what is blank is passed -/
theorem c104 (hsz : s.size ≤ 1099511627776) : ∀ (r pre : List UInt8) (H : Heap) (Q : Post), Sc H0 T b s pre.length H → tx s = pre ++ r →
    (∀ H' w r1, r = w ++ r1 → w.all blankB = true → (∀ c r2, r1 = c :: r2 → blankB c = false) → Sc H0 T b s (pre ++ w).length H' → Q (.tup []) H') → f104_l1 (Pt b) H Q := by
  intro r
  induction r with
  | nil =>
    intro pre H Q h e hq
    have hb := size_bound e
    rw [f104_l1_eq]
    have hlt : decide ((pre.length : Int) < (s.size : Int)) = false := by simp at hb ⊢; omega
    simp only [nil_Pt, ob_some, add_Pt, h.ld0, h.ld1, len_S, i_lss, hlt, cnd_f]
    rw [f104_j5_eq, cnd_f]
    exact hq H [] [] rfl rfl (fun _ _ h => by cases h) (by simpa using h)
  | cons c r ih =>
    intro pre H Q h e hq
    have hb := size_bound e
    simp only [List.length_cons] at hb
    rw [f104_l1_eq]
    have hlt : decide ((pre.length : Int) < (s.size : Int)) = true := by simp; omega
    simp only [nil_Pt, ob_some, add_Pt, h.ld0, h.ld1, len_S, i_lss, hlt, cnd_t, ixS s pre r c e]
    rw [c173, f104_j5_eq]
    refine cnd_intro (fun h1 => ?_) (fun h1 => ?_)
    · simp only [nil_Pt, ob_some, add_Pt, h.ld1]
      refine step1 h e hsz _ (fun H2 h2 e2 hl2 => ?_)
      refine ih (pre ++ [c]) H2 Q h2 e2 (fun H' w r1 hr hw hb h' => ?_)
      exact hq H' (c :: w) r1 (by rw [hr]; rfl) (by simp [h1, hw]) hb (by rw [List.append_assoc] at h'; exact h')
    · exact hq H [] (c :: r) rfl rfl (fun c' r2 h => by cases h; exact h1) (by simpa using h)
end
theorem lexW_blank : ∀ (w : List UInt8) (p : Nat) (r : List UInt8), w.all blankB = true → lexW p (w ++ r) = lexW (p + w.length) r := by
  intro w
  induction w with
  | nil => intro p r _; rfl
  | cons c w ih =>
    intro p r h
    simp only [List.all_cons, Bool.and_eq_true] at h
    rw [List.cons_append, lexW, if_pos h.1, ih _ _ h.2, List.length_cons]
    congr 1; omega
def allV (sz : Nat) (v : AV) : Except (Nat × Int) (List Tk) → Prop
  | .error (p, e) => v = .tup [.sl 0 true .full [], I p, I e]
  | .ok l => ∃ s' n' t', v = .tup [.sl s' n' t' (l.map encK), I sz, I 0] ∧ (n' = true ∨ s' = 3)
theorem lex1_len {c : UInt8} {r w : List UInt8} {k : Int} {n : Nat} (h : lex1 (c :: r) = .tok k w n) : 1 ≤ n ∧ n ≤ (c :: r).length ∧ k ≠ 6 := by
  simp only [lex1] at h
  split at h
  · split at h
    · rename_i hu; cases h; have := unq_len hu; exact ⟨this.2.1, this.2.2, by decide⟩
    · cases h
  · have tw : ∀ (p : UInt8 → Bool), p c = true → 1 ≤ ((c :: r).takeWhile p).length := fun p hp => by simp [List.takeWhile_cons, hp]
    split at h
    · rename_i hu
      simp only [wordT] at h
      split at h
      · cases h
      · cases h; exact ⟨tw _ hu, tw_le _ _, by decide⟩
    · split at h
      · rename_i hu
        simp only [wordT] at h
        split at h
        · cases h
        · cases h; exact ⟨tw _ (by show signI _ = true; simp only [signI]; rw [show lowI (c.toNat : Nat) = lowB c from rfl, hu]; rfl), tw_le _ _, by decide⟩
      · split at h
        · rename_i hu
          simp only [intT] at h
          split at h
          · cases h
          · cases h; exact ⟨tw _ hu, tw_le _ _, by decide⟩
        · simp only [signF] at h
          split at h
          · cases h
          · rename_i w' hw
            cases h
            have hp := List.find?_some hw
            have hm := List.mem_of_find?_eq_some hw
            simp only [pre?, Bool.and_eq_true, decide_eq_true_eq] at hp
            refine ⟨?_, hp.1, by decide⟩
            have : ∀ w ∈ signW, 1 ≤ w.length := by decide
            exact this _ hm
theorem lex1_bad {c : UInt8} {r : List UInt8} {n : Nat} {e : Int} (h : lex1 (c :: r) = .bad n e) : n ≤ (c :: r).length ∧ e ≠ 0 := by
  simp only [lex1] at h
  split at h
  · split at h
    · cases h
    · rename_i hu; cases h; exact unq_bad' hu
  · split at h
    · have := wordT_bad _ _ h; simp [this]
    · split at h
      · have := wordT_bad _ _ h; simp [this]
      · split at h
        · have := intT_bad _ _ h; simp [this]
        · have := signF_bad _ _ h; simp [this]
theorem app_obj {H0 H : Heap} {sz sz' bytes : Nat} {nil nil2 : Bool} {tip tip2 : Tip} {xs ys : List AV} {K : Post} (he : HExt H0 H) (ho : OwnS H0 H sz xs.length tip) (hs : nil = true ∨ sz' = sz) (h1 : 1 ≤ sz)
    (hb : (xs.length + ys.length) * bytes ≤ 140737488355328) (hk : ∀ s' n' tip' H', (n' = true ∨ s' = sz) → HExt H0 H' → H'.objs = H.objs → OwnS H0 H' sz (xs ++ ys).length tip' → K (.sl s' n' tip' (xs ++ ys)) H') :
    appA sz bytes (.sl sz' nil tip xs) (.sl sz nil2 tip2 ys) H K := by
  have ht : tailA sz (.sl sz nil2 tip2 ys) = some ys := by simp [tailA]
  unfold appA
  simp only [ht]
  cases ys with
  | nil => have := hk sz' nil tip H hs he rfl (by simpa using ho); simpa using this
  | cons y ys =>
    refine ⟨hs, h1, hb, ?_⟩
    cases tip with
    | any => exact ho.elim
    | full =>
      intro b hf
      exact hk sz false _ _ (.inr rfl) (he.setTip (he.fresh hf) _) rfl ⟨by simp [Heap.setTip], he.fresh hf⟩
    | tip b0 =>
      refine ⟨ho.1, fun b hf => ?_⟩
      have hf0 : H0.fresh b := by
        rcases hf with rfl | hf
        · exact ho.2
        · exact he.fresh hf
      exact hk sz false _ _ (.inr rfl) (he.setTip hf0 _) rfl ⟨by simp [Heap.setTip], hf0⟩
theorem c47 (s : ByteArray) (hsz : s.size ≤ 1099511627776) (H0 : Heap) (Q : Post) (hq : ∀ v H', allV s.size v (lexA s) → HExt H0 H' → Q v H') : E 47 [S s] H0 Q := by
  rw [f47_eq, len_S, ob_some, i_gtr, ob_some]
  refine cnd_intro (fun h1 => ?_) (fun h1 => ?_)
  · refine hq _ H0 ?_ (HExt.refl H0)
    rw [lexA, if_pos (by simp at h1; omega)]; rfl
  have hsz2 : s.size ≤ 8192 := by simp at h1; omega
  have hq : ∀ v H', allV s.size v (lexW 0 (tx s)) → HExt H0 H' → Q v H' := by rw [lexA, if_neg (by omega)] at hq; exact hq
  have hbd : bldA [(0, 1, S s)] [S ⟨#[]⟩, I 0] = some (.agg [S s, I 0]) := rfl
  have hsd : sizedA 2 (.agg [S s, I 0]) = some [S s, I 0] := rfl
  rw [hbd, ob_some, hsd, ob_some]
  refine sc_new 0 (HExt.refl H0) (fun b H1 h1 => ?_)
  have enter : ∀ (T : Nat → Option Nat) (r pre : List UInt8) (H : Heap) (K : Heap → Prop), Sc H0 T b s pre.length H → tx s = pre ++ r → (∀ H' pre' r', tx s = pre' ++ r' → lexW pre.length r = lexW pre'.length r' → r'.length ≤ r.length → (∀ c r2, r' = c :: r2 → blankB c = false) → Sc H0 T b s pre'.length H' → K H') → E 104 [Pt b] H (fun _ H => K H) := fun T r pre H K h e hk => by
    rw [f104_eq]
    refine c104 hsz r pre H _ h e (fun H' w r1 hr hw hb h' => ?_)
    refine hk H' (pre ++ w) r1 (by rw [e, hr, List.append_assoc]) (by rw [hr, lexW_blank w _ _ hw, List.length_append]) (by rw [hr]; simp) hb h'
  have loop : ∀ (m : Nat) (r pre : List UInt8) (out : List Tk) (s' : Nat) (n' : Bool) (t' : Tip) (H : Heap), r.length ≤ m → Sc H0 (tipT (out.length * 3) t') b s pre.length H → tx s = pre ++ r → (∀ c r2, r = c :: r2 → blankB c = false) → (n' = true ∨ s' = 3) → OwnS H0 H 3 out.length t' → out.length ≤ pre.length →
      (∀ v H', allV s.size v (match lexW pre.length r with | .error x => .error x | .ok l => .ok (out ++ l)) → HExt H0 H' → Q v H') → f47_l18 (S s) (Pt b) (.sl s' n' t' (out.map encK)) H Q := by
    intro m
    induction m with
    | zero =>
      intro r pre out s' n' t' H hm h e hbl hn ho hol hq
      have hr : r = [] := List.eq_nil_of_length_eq_zero (by omega)
      subst hr
      have hb := size_bound e
      have hlt : decide ((pre.length : Int) < (s.size : Int)) = false := by simp at hb ⊢; omega
      have hbd : bldA [(0, 1, I 6), (2, 1, I s.size)] [I 0, S ⟨#[]⟩, I 0] = some (encK ⟨6, e0, s.size⟩) := rfl
      have hmk : mkSlA 3 [encK ⟨6, e0, s.size⟩] = some (.sl 3 false .full [encK ⟨6, e0, s.size⟩]) := rfl
      have hp : pre.length = s.size := by simpa using hb
      rw [f47_l18_eq]
      simp only [nil_Pt, ob_some, add_Pt, h.ld1, len_S, i_lss, hlt, cnd_f, hbd, hmk]
      refine app_obj (bytes := 32) (xs := out.map encK) (ys := [encK ⟨6, e0, s.size⟩]) h.ext (by rw [List.length_map]; exact ho) hn (by omega) (by simp only [List.length_map, List.length_singleton]; omega) (fun s2 n2 t2 H2 hn2 e2 _ ho2 => ?_)
      refine hq _ H2 ?_ e2
      rw [lexW, hp]
      exact ⟨s2, n2, t2, by simp, hn2⟩
    | succ m ih =>
      intro r pre out s' n' t' H hm h e hbl hn ho hol hq
      cases r with
      | nil => exact ih [] pre out s' n' t' H (by simp) h e (fun _ _ h => by cases h) hn ho hol hq
      | cons c r =>
        have hb := size_bound e
        simp only [List.length_cons] at hb hm
        have hlt : decide ((pre.length : Int) < (s.size : Int)) = true := by simp; omega
        have hnb : blankB c = false := hbl c r rfl
        rw [f47_l18_eq]
        simp only [nil_Pt, ob_some, add_Pt, h.ld1, len_S, i_lss, hlt, cnd_t]
        refine c105 h e hsz (fun H2 p h2 hp => ?_)
        cases hL : lex1 (c :: r) with
        | bad n er =>
          have hn := lex1_bad hL
          have hne : decide (er = 0) = false := decide_eq_false hn.2
          simp only [nextV, x3_0, x3_1, x3_2, ob_some, zK_sz, zK_sp, i_neq, hne, Bool.not_false, cnd_t]
          refine hq _ H2 ?_ h2.ext
          rw [lexW, if_neg (by rw [hnb]; decide)]
          simp only [hL]
          rfl
        | tok k w n =>
          have hn1 := lex1_len hL
          have hp := hp k w n hL
          subst hp
          have hne : (!decide ((0 : Int) = 0)) = false := rfl
          have es := encK_sz ⟨k, bs w, pre.length⟩
          have ep := encK_sp ⟨k, bs w, pre.length⟩
          have et := encK_pt ⟨k, bs w, pre.length⟩
          have hmk : mkSlA 3 [encK ⟨k, bs w, pre.length⟩] = some (.sl 3 false .full [encK ⟨k, bs w, pre.length⟩]) := rfl
          simp only [nextV, x3_0, x3_1, x3_2, ob_some, es, ep, i_neq, decide_true, Bool.not_true, cnd_f, et, hmk]
          have ho2 := h2.own ho
          refine app_obj (bytes := 32) (xs := out.map encK) (ys := [encK ⟨k, bs w, pre.length⟩]) h2.ext (by rw [List.length_map]; exact ho2) hn (by omega) (by simp only [List.length_map, List.length_singleton]; omega) (fun s3 n3 t3 H3 hn3 e3 hobj ho3 => ?_)
          have hxs : out.map encK ++ [encK ⟨k, bs w, pre.length⟩] = (out ++ [(⟨k, bs w, pre.length⟩ : Tk)]).map encK := by simp
          rw [hxs] at ho3 ⊢
          rw [List.length_map] at ho3
          have hdr : (c :: r).drop n = r.drop (n - 1) := by
            obtain ⟨j, rfl⟩ : ∃ j, n = j + 1 := ⟨n - 1, by omega⟩
            simp
          have hsp : c :: r = (c :: r).take n ++ r.drop (n - 1) := by rw [← hdr, List.take_append_drop]
          have hpl : (pre ++ (c :: r).take n).length = pre.length + n := by rw [List.length_append, List.length_take]; omega
          have h3 : Sc H0 (fun _ => none) b s (pre ++ (c :: r).take n).length H3 := ⟨e3, h2.fr, by rw [hobj, hpl]; exact h2.obj, fun _ _ h => by cases h⟩
          refine enter _ (r.drop (n - 1)) (pre ++ (c :: r).take n) H3 _ (h3.tip ho3) (by rw [List.append_assoc, ← hsp]; exact e) (fun H4 pre' r' e4 hlw hrl hb4 h4 => ?_)
          have hlw' : lexW pre.length (c :: r) = match lexW pre'.length r' with | .error x => .error x | .ok l => .ok (⟨k, bs w, pre.length⟩ :: l) := by
            rw [lexW, if_neg (by rw [hnb]; decide)]
            simp only [hL]
            rw [← hpl, hlw]
            cases lexW pre'.length r' <;> rfl
          refine ih r' pre' (out ++ [(⟨k, bs w, pre.length⟩ : Tk)]) s3 n3 t3 H4 (by simp only [List.length_drop] at hrl; omega) h4 e4 hb4 hn3 (h4.own ho3) ?_ (fun v H5 hv h5 => ?_)
          · have hb' := size_bound e4
            have : r'.length ≤ r.length - (n - 1) := by simpa using hrl
            rw [List.length_append, List.length_singleton]
            omega
          · refine hq v H5 ?_ h5
            rw [hlw']
            cases hx : lexW pre'.length r' with
            | error x => rw [hx] at hv; exact hv
            | ok l => rw [hx] at hv; simpa using hv
  refine enter _ (tx s) [] H1 _ h1 rfl (fun H2 pre' r' e2 hlw hrl hb2 h2 => ?_)
  refine loop r'.length r' pre' [] 0 true .full H2 (Nat.le_refl _) (h2.tip (sz := 3) (n := 0) (tip := .full) trivial) e2 hb2 (.inl rfl) trivial (by simp) (fun v H3 hv h3 => ?_)
  refine hq v H3 ?_ h3
  have hlw : lexW 0 (tx s) = lexW pre'.length r' := hlw
  rw [hlw]
  cases hx : lexW pre'.length r' with
  | error x => rw [hx] at hv; exact hv
  | ok l => rw [hx] at hv; simpa using hv
/-! ### The reader -/
/-- a reader stands before what is left -/
def RS (b : Nat) (r : List Tk) (H : Heap) : Prop := ∃ (L : List Tk) (i : Nat) (s' : Nat) (n' : Bool) (t' : Tip), H.objs b = some (.cells [.sl s' n' t' (L.map encK), I i]) ∧ L.drop i = r ∧ L.length ≤ 1048576
theorem RS.mono {b : Nat} {r : List Tk} {H H' : Heap} (h : RS b r H) (he : HExt H H') : RS b r H' := by
  obtain ⟨L, i, s', n', t', h1, h2⟩ := h
  exact ⟨L, i, s', n', t', he.obj h1, h2⟩
def newV (v : AV) (H : Heap) (sz : Nat) : Except (Nat × Int) (List Tk) → Prop
  | .error (p, e) => v = .tup [.raw (.pointer none), I p, I e]
  | .ok l => ∃ b, v = .tup [Pt b, I sz, I 0] ∧ RS b l H
theorem lexW_len : ∀ (m p : Nat) (r : List UInt8), r.length ≤ m → ∀ l, lexW p r = .ok l → l.length ≤ r.length + 1 ∧ endsT l := by
  intro m
  induction m with
  | zero =>
    intro p r hr l h
    have : r = [] := List.eq_nil_of_length_eq_zero (by omega)
    subst this
    rw [lexW] at h; cases h; exact ⟨by simp, rfl⟩
  | succ m ih =>
    intro p r hr l h
    cases r with
    | nil => rw [lexW] at h; cases h; exact ⟨by simp, rfl⟩
    | cons c r =>
      rw [lexW] at h
      simp only [List.length_cons] at hr ⊢
      split at h
      · have := ih _ r (by omega) _ h; exact ⟨by omega, this.2⟩
      · split at h
        · cases h
        · rename_i k w n hL
          have hn := lex1_len hL
          split at h
          · cases h
          · rename_i l' hl'
            cases h
            have := ih _ (r.drop (n - 1)) (by simp; omega) _ hl'
            simp only [List.length_drop] at this
            refine ⟨by simp; omega, ?_⟩
            cases l' with
            | nil => exact this.2.elim
            | cons t l' => exact ⟨hn.2.2, this.2⟩
theorem lexA_len {s : ByteArray} {l : List Tk} (h : lexA s = .ok l) : l.length ≤ 8193 ∧ endsT l := by
  simp only [lexA] at h
  split at h
  · cases h
  · have hs : (tx s).length = s.size := size_list s
    have := lexW_len _ _ (tx s) (Nat.le_refl _) _ h
    exact ⟨by omega, this.2⟩
theorem lexW_bad : ∀ (m p : Nat) (r : List UInt8), r.length ≤ m → ∀ q e, lexW p r = .error (q, e) → q ≤ p + r.length ∧ e ≠ 0 := by
  intro m
  induction m with
  | zero =>
    intro p r hr l e h
    have : r = [] := List.eq_nil_of_length_eq_zero (by omega)
    subst this
    rw [lexW] at h; cases h
  | succ m ih =>
    intro p r hr q e h
    cases r with
    | nil => rw [lexW] at h; cases h
    | cons c r =>
      rw [lexW] at h
      simp only [List.length_cons] at hr ⊢
      split at h
      · have := ih _ r (by omega) _ _ h; exact ⟨by omega, this.2⟩
      · split at h
        · rename_i n e' hL
          cases h
          have := lex1_bad hL
          simp only [List.length_cons] at this
          exact ⟨by omega, this.2⟩
        · rename_i k w n hL
          have hn := lex1_len hL
          simp only [List.length_cons] at hn
          split at h
          · rename_i x hx
            cases h
            have := ih _ (r.drop (n - 1)) (by simp; omega) _ _ hx
            simp only [List.length_drop] at this
            exact ⟨by omega, this.2⟩
          · cases h
theorem lexA_bad {s : ByteArray} {q : Nat} {e : Int} (h : lexA s = .error (q, e)) : q ≤ s.size ∧ e ≠ 0 := by
  simp only [lexA] at h
  split at h
  · cases h; simp
  · have hs : (tx s).length = s.size := size_list s
    have := lexW_bad _ _ (tx s) (Nat.le_refl _) _ _ h
    exact ⟨by omega, this.2⟩
theorem c16 (s : ByteArray) (hsz : s.size ≤ 1099511627776) (H0 : Heap) (Q : Post) (hq : ∀ v H', newV v H' s.size (lexA s) → HExt H0 H' → (∀ b w, v = .tup [Pt b, w, I 0] → H0.fresh b) → Q v H') : E 16 [S s] H0 Q := by
  rw [f16_eq]
  refine c47 s hsz H0 _ (fun v H1 hv h1 => ?_)
  cases hl : lexA s with
  | error x =>
    obtain ⟨p, e⟩ := x
    rw [hl] at hv hq
    have hv : v = .tup [.sl 0 true .full [], I p, I e] := hv
    subst hv
    have hne : decide (e = 0) = false := decide_eq_false (lexA_bad hl).2
    simp only [x3_0, x3_1, x3_2, ob_some, i_neq, hne, Bool.not_false, cnd_t]
    exact hq _ H1 rfl h1 (fun b w h => by cases h)
  | ok l =>
    rw [hl] at hv hq
    obtain ⟨s', n', t', rfl, hn⟩ := hv
    have hne : (!decide ((0 : Int) = 0)) = false := rfl
    have hbd : bldA [(0, 1, .sl s' n' t' (l.map encK))] [.sl 0 true .full [], I 0] = some (.agg [.sl s' n' t' (l.map encK), I 0]) := rfl
    have hsd : sizedA 2 (.agg [.sl s' n' t' (l.map encK), I 0]) = some [.sl s' n' t' (l.map encK), I 0] := rfl
    simp only [x3_0, x3_1, x3_2, ob_some, i_neq, decide_true, Bool.not_true, cnd_f, hbd, hsd]
    intro b hb
    have := lexA_len hl
    refine hq _ _ ⟨b, rfl, l, 0, s', n', t', setObj_same _ _ _, rfl, by omega⟩ (h1.setObj (h1.fresh hb) _) (fun b' w h => ?_)
    have : b = b' := by
      have : Pt b = Pt b' := by injection h with h; injection h
      simpa [Pt] using this
    exact this ▸ h1.fresh hb
end Go.Hx
