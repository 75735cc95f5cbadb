/- Contracts of cond.Text and the law's own run. Own work. -/
import Derived.Test.YtancdapnpceogaaGreatS5AE
set_option maxRecDepth 20000
namespace Go.Hx
theorem takeW_all (p : UInt8 → Bool) (l : List UInt8) : (l.takeWhile p).all p = true := by
  induction l with
  | nil => rfl
  | cons c l ih =>
    rw [List.takeWhile_cons]
    split
    · rename_i h; rw [List.all_cons, h, ih]; rfl
    · rfl
theorem takeW_head {p : UInt8 → Bool} {c : UInt8} (h : p c = true) (l : List UInt8) : (c :: l).takeWhile p = c :: l.takeWhile p := by rw [List.takeWhile_cons, if_pos h]
theorem lex1_ok {c : UInt8} {r w : List UInt8} {k : Int} {n : Nat} (hl : (c :: r).length ≤ 1099511627775) (h : lex1 (c :: r) = .tok k w n) (p : Nat) : okTk ⟨k, bs w, p⟩ := by
  have hsz : ∀ l : List UInt8, (bs l).size = l.length := fun l => by rw [← size_list]
  simp only [lex1] at h
  split at h
  · split at h
    · rename_i hu
      cases h
      have := unq_len hu
      exact ⟨by show (bs w).size ≤ _; rw [hsz]; omega, fun hk => (by cases hk), fun _ => by show (bs w).size ≤ _; rw [hsz]; omega⟩
    · cases h
  · have tw : ∀ (p : UInt8 → Bool), (bs ((c :: r).takeWhile p)).size ≤ 1099511627775 := fun p => by have := tw_le p (c :: r); rw [hsz]; omega
    split at h
    · simp only [wordT] at h
      split at h
      · cases h
      · cases h; exact ⟨tw _, fun hk => (by cases hk), fun hk => (by cases hk)⟩
    · split at h
      · simp only [wordT] at h
        split at h
        · cases h
        · cases h; exact ⟨tw _, fun hk => (by cases hk), fun hk => (by cases hk)⟩
      · split at h
        · rename_i hd
          simp only [intT] at h
          split at h
          · cases h
          · rename_i hn
            cases h
            refine ⟨tw _, fun _ => ?_, fun hk => (by cases hk)⟩
            show DigL false (tx (bs _))
            rw [tx_bs]
            refine ⟨by rw [takeW_head hd]; simp, takeW_all _ _, ?_⟩
            rw [takeW_head hd] at hn ⊢
            have hn : ¬ (19 < (c :: r.takeWhile digB).length ∨ (1 < (c :: r.takeWhile digB).length ∧ some c.toNat = some 48)) := hn
            by_cases h48 : c.toNat = 48
            · right
              refine ⟨rfl, ?_⟩
              have h1 : ¬ 1 < (c :: r.takeWhile digB).length := fun h1 => hn (.inr ⟨h1, by rw [h48]⟩)
              simp only [List.length_cons] at h1 ⊢
              omega
            · left; simp [h48]
        · simp only [signF] at h
          split at h
          · cases h
          · rename_i w' hw
            cases h
            have hm := List.mem_of_find?_eq_some hw
            have : ∀ w ∈ signW, w.length ≤ 2 := by decide
            have := this _ hm
            exact ⟨by show (bs w).size ≤ _; rw [hsz]; omega, fun hk => (by cases hk), fun hk => (by cases hk)⟩
theorem lexW_ok : ∀ (m p : Nat) (r : List UInt8), r.length ≤ m → m ≤ 1099511627775 → ∀ l, lexW p r = .ok l → ∀ t ∈ l, okTk t := by
  have hend : ∀ p, okTk ⟨6, e0, p⟩ := fun p => ⟨by show 0 ≤ _; omega, fun hk => (by cases hk), fun hk => (by cases hk)⟩
  intro m
  induction m with
  | zero =>
    intro p r hr _ l h
    have : r = [] := List.eq_nil_of_length_eq_zero (by omega)
    subst this
    rw [lexW] at h; cases h
    intro t ht; simp at ht; subst ht; exact hend p
  | succ m ih =>
    intro p r hr hm l h
    cases r with
    | nil =>
      rw [lexW] at h; cases h
      intro t ht; simp at ht; subst ht; exact hend p
    | cons c r =>
      rw [lexW] at h
      simp only [List.length_cons] at hr
      split at h
      · exact ih _ r (by omega) (by omega) _ h
      · split at h
        · cases h
        · rename_i k w n hL
          have hn := lex1_len hL
          split at h
          · cases h
          · rename_i l' hl'
            cases h
            have := ih _ (r.drop (n - 1)) (by simp; omega) (by omega) _ hl'
            intro t ht
            rcases List.mem_cons.1 ht with rfl | ht
            · exact lex1_ok (by simp only [List.length_cons]; omega) hL p
            · exact this t ht
theorem lexA_ok {s : ByteArray} {l : List Tk} (h : lexA s = .ok l) : ∀ t ∈ l, okTk t := by
  simp only [lexA] at h
  split at h
  · cases h
  · have hs : (tx s).length = s.size := size_list s
    exact lexW_ok 8192 0 (tx s) (by omega) (by omega) _ h
theorem x3_0' (a b c : AV) : extractA (.tup [a, b, c]) 0 = some a := rfl
/-- what Text answers -/
def Res13 (H : Heap) (s : ByteArray) (Q : Post) : TR → Prop
  | .ok x => ∀ y H', HExt H H' → norm y = x → allX shX y → allX gX y → checkP x = 0 → sizeX y ≤ 100 → Q (.tup [encX y, I s.size, I 0]) H'
  | .bad p e => ∀ H', HExt H H' → Q (.tup [encX zX, I p, I e]) H'
theorem check_size {x : Ex} (h : checkP x = 0) (hs : sizeX x ≤ 1152921504606846975) : sizeX x ≤ 100 := by
  rw [checkP_eq x hs] at h
  split at h
  · cases h
  · omega
theorem c13 (s : ByteArray) (hsz : s.size ≤ 1099511627776) (H : Heap) (Q : Post) {R : TR} (hR : TextR s R) (hq : Res13 H s Q R) : E 13 [S s] H Q := by
  have nz : ∀ {e : Int}, e ≠ 0 → decide (e = 0) = false := fun h => decide_eq_false h
  rw [f13_eq]
  refine c16 s hsz H _ (fun v H1 hv h1 hfr => ?_)
  cases hl : lexA s with
  | error x =>
    obtain ⟨p, e⟩ := x
    rw [hl] at hv
    have hv : v = .tup [.raw (.pointer none), I p, I e] := hv
    subst hv
    have hne := nz (lexA_bad hl).2
    simp only [x3_0, x3_1, x3_2, ob_some, i_neq, hne, Bool.not_false, cnd_t, zX_b, szX, splX, partX]
    cases hR with
    | lex h => rw [hl] at h; cases h; exact hq H1 h1
    | bad h => rw [hl] at h; cases h
    | long h => rw [hl] at h; cases h
    | more h => rw [hl] at h; cases h
    | ok h => rw [hl] at h; cases h
  | ok L =>
    rw [hl] at hv
    obtain ⟨b, rfl, hb⟩ := hv
    have h0 : decide ((0 : Int) = 0) = true := rfl
    simp only [x3_0, x3_1, x3_2, ob_some, i_neq, h0, Bool.not_true, cnd_f]
    have hbf := hfr b _ rfl
    have rd : RD H (fun _ _ => False) b L H1 := ⟨h1, hbf, hb, fun _ _ h => h.elim⟩
    have hls := lexA_len hl
    have ho := lexA_ok hl
    cases hR with
    | lex h => rw [hl] at h; cases h
    | bad h hP =>
      rw [hl] at h; cases h
      refine c19 rd hls.2 ho hP (fun H' r1 _ h' => ?_)
      simp only [x3_0, x3_1, x3_2, ob_some, i_neq, nz (P_ne hP _ _ rfl), Bool.not_false, cnd_t, zX_b, szX, splX, partX]
      exact hq H' h'.ext
    | long h hP hc =>
      rw [hl] at h; cases h
      refine c19 rd hls.2 ho hP ⟨fun h0 => (hc h0).elim, fun _ H' h' => ?_⟩
      have h2 : decide ((2 : Int) = 0) = false := rfl
      simp only [x3_0, x3_1, x3_2, ob_some, i_neq, h2, Bool.not_false, cnd_t, zX_b, szX, splX, partX]
      exact hq H' h'.ext
    | @more L' x r1 h hP hc hk =>
      rw [hl] at h; cases h
      have hsuf : Suf _ _ := P_suf hP hls.2
      refine c19 rd hls.2 ho hP ⟨fun _ y H' hy hys hgy h' => ?_, fun h0 => (h0 hc).elim⟩
      cases r1 with
      | nil => exact hsuf.1.elim
      | cons t r2 =>
        have hk : decide (t.k = 6) = false := decide_eq_false hk
        simp only [x3_0, x3_1, x3_2, ob_some, h0, Bool.not_true, cnd_f, i_neq, Bool.not_false, cnd_t, zX_b, szX, splX, partX]
        rw [c44' h'.rd]
        simp only [fK0, ob_some, i_neq, hk, Bool.not_false, cnd_t]
        rw [c21 h'.rd (by simp)]
        exact hq H' h'.ext
    | @ok L' x r1 h hP hc hk =>
      rw [hl] at h; cases h
      have hsuf : Suf _ _ := P_suf hP hls.2
      have hsz : _ ≤ _ := P_size hP
      refine c19 rd hls.2 ho hP ⟨fun _ y H' hy hys hgy h' => ?_, fun h0 => (h0 hc).elim⟩
      cases r1 with
      | nil => exact hsuf.1.elim
      | cons t r2 =>
        have hk : decide (t.k = 6) = true := decide_eq_true hk
        simp only [x3_0, x3_1, x3_2, ob_some, h0, Bool.not_true, cnd_f, i_neq, szX, splX, partX, len_S]
        rw [c44' h'.rd]
        simp only [fK0, ob_some, i_neq, hk, Bool.not_true, cnd_f]
        exact hq y H' h'.ext hy hys hgy hc (by have := check_size hc (by omega); rw [← hy, norm_size] at this; exact this)
end Go.Hx
