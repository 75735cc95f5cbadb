/- EventBegins over the abstract machine. Own work (session 2). -/
import Derived.Test.YtopogilbllajcaaS2I
set_option maxRecDepth 20000
namespace Go.Hx
def srt : Int → List En → Prop
  | _, [] => True
  | t, e :: r => ¬ e.time < t ∧ srt e.time r
theorem goS_ok (bad : Bool) (cs : List Sc) : ∀ (es : List En) (last i : Int), (goS bad cs es last i).2 = 0 →
    (goS bad cs es last i).1 = i + es.length ∧ srt last es ∧ ∀ k, k ≤ es.length → goS bad cs (es.take k) last i = (i + k, 0) := by
  intro es
  induction es with
  | nil =>
    intro last i _
    refine ⟨by simp [goS], trivial, fun k hk => ?_⟩
    have : k = 0 := by simpa using hk
    simp [goS, this]
  | cons e r ih =>
    intro last i h
    rw [goS] at h
    by_cases h1 : bad = true
    · rw [if_pos h1] at h; exact absurd h (by show (1 : Int) ≠ 0; decide)
    rw [if_neg h1] at h
    by_cases h2 : chkE cs e ≠ 0
    · rw [if_pos h2] at h; exact absurd h h2
    rw [if_neg h2] at h
    by_cases h3 : e.time < last
    · rw [if_pos h3] at h; exact absurd h (by show (11 : Int) ≠ 0; decide)
    rw [if_neg h3] at h
    obtain ⟨a, b, c⟩ := ih e.time (i + 1) h
    have hg : ∀ r', goS bad cs (e :: r') last i = goS bad cs r' e.time (i + 1) := fun r' => by rw [goS, if_neg h1, if_neg h2, if_neg h3]
    refine ⟨?_, ⟨h3, b⟩, fun k hk => ?_⟩
    · rw [hg, a, List.length_cons]; omega
    · cases k with
      | zero => simp [goS]
      | succ k =>
        rw [List.take_succ_cons, hg, c k (by simpa using hk)]
        congr 1; omega
theorem goS_bad (bad : Bool) (cs : List Sc) : ∀ (es : List En) (last i : Int), (goS bad cs es last i).2 ≠ 0 →
    i ≤ (goS bad cs es last i).1 ∧ (goS bad cs es last i).1 < i + es.length ∧
    ∀ k : Nat, k ≤ es.length → ((goS bad cs (es.take k) last i).2 = 0 ↔ i + k ≤ (goS bad cs es last i).1) := by
  intro es
  induction es with
  | nil => intro last i h; exact absurd rfl h
  | cons e r ih =>
    intro last i h
    have stop : ∀ c : Int, c ≠ 0 → (∀ r', goS bad cs (e :: r') last i = (i, c)) → i ≤ (goS bad cs (e :: r) last i).1 ∧ (goS bad cs (e :: r) last i).1 < i + (e :: r).length ∧
        ∀ k : Nat, k ≤ (e :: r).length → ((goS bad cs ((e :: r).take k) last i).2 = 0 ↔ i + k ≤ (goS bad cs (e :: r) last i).1) := by
      intro c hc hg
      rw [hg]
      refine ⟨Int.le_refl i, ?_, fun k hk => ?_⟩
      · show i < i + ((r.length + 1 : Nat) : Int); omega
      · cases k with
        | zero => simp [goS]
        | succ k =>
          rw [List.take_succ_cons, hg]
          constructor
          · intro h; exact absurd h hc
          · intro h
            have : i + ((k + 1 : Nat) : Int) ≤ i := h
            omega
    by_cases h1 : bad = true
    · exact stop 1 (by decide) (fun r' => by rw [goS, if_pos h1])
    by_cases h2 : chkE cs e ≠ 0
    · exact stop _ h2 (fun r' => by rw [goS, if_neg h1, if_pos h2])
    by_cases h3 : e.time < last
    · exact stop 11 (by decide) (fun r' => by rw [goS, if_neg h1, if_neg h2, if_pos h3])
    have hg : ∀ r', goS bad cs (e :: r') last i = goS bad cs r' e.time (i + 1) := fun r' => by rw [goS, if_neg h1, if_neg h2, if_neg h3]
    rw [hg] at h ⊢
    obtain ⟨a, b, c⟩ := ih e.time (i + 1) h
    refine ⟨by omega, by simp only [List.length_cons]; omega, fun k hk => ?_⟩
    cases k with
    | zero =>
      simp only [List.take_zero, goS, true_iff]
      have : ((0 : Nat) : Int) = 0 := rfl
      omega
    | succ k =>
      rw [List.take_succ_cons, hg, c k (by simpa using hk)]
      constructor <;> intro h' <;> omega
theorem c4w (sz : Nat) (nil : Bool) (tip : Tip) (es : List En) (hes : es.length ≤ 200) (x7 x8 x10 x11 : AV) (H : Heap) (Q : Post)
    (hq : (ob (binA Pg .eql 40 true x11 (I 0)) fun r34 => cndA r34 (ob (binA Pg .eql 3 false x10 x7) fun r35 => f4_c13_7a (encEs sz nil tip es) x8 r35 H Q) (f4_c13_7b (encEs sz nil tip es) x8 H Q))) :
    ∀ (r pre : List En) (x : En), es = pre ++ x :: r → srt x.time r → f4_l28 (encEs sz nil tip es) x7 x8 x10 x11 (I ((pre.length + 1 : Nat) : Int)) H Q := by
  intro r
  induction r with
  | nil =>
    intro pre x e hs
    have : ((pre.length + 1 : Nat) : Int) = es.length := by rw [e]; simp
    rw [f4_l28_eq, lenE, ob_some, i_lss, ob_some, this]
    simp only [Int.lt_irrefl, decide_false, cnd_f]
    exact hq
  | cons y r ih =>
    intro pre x e hs
    have e2 : es = (pre ++ [x]) ++ y :: r := by simp [e]
    have hlt : pre.length + 1 < es.length := by rw [e]; simp
    have hlt' : decide (((pre.length + 1 : Nat) : Int) < es.length) = true := by simp; omega
    have h1 := ixE es sz nil tip (pre ++ [x]) r y e2
    rw [List.length_append, List.length_singleton] at h1
    have h2 := ixE es sz nil tip pre (y :: r) x e
    have hw : W64 (((pre.length + 1 : Nat) : Int) - 1) = (pre.length : Int) := by rw [w64_id (by omega) (by omega)]; omega
    rw [f4_l28_eq, lenE, ob_some, i_lss, ob_some, hlt', cnd_t, h1]
    simp only [ob_some, List.drop_succ_cons, List.drop_zero, part_f, List.getElem?_cons_zero, i_sub, hw, h2, i_lss]
    have hd : decide (y.time < x.time) = false := by simpa using hs.1
    rw [hd, cnd_f, i_add, ob_some, w64_succ hlt (by omega)]
    have := ih (pre ++ [x]) y e2 hs.2
    rw [List.length_append, List.length_singleton] at this
    exact this
theorem c4 (sz1 : Nat) (nil1 : Bool) (tip1 : Tip) (cs : List Sc) (hok : ∀ c ∈ cs, okSc c) (hn : cs.length ≤ 1099511627776) (sz : Nat) (nil : Bool) (tip : Tip) (es : List En) (hsz : nil = true ∨ sz = 3) (hv : ∀ e ∈ es, e.vs.length ≤ 1099511627776)
    (k : IntKind) (at' : Int) (h0 : 0 ≤ at') (h1 : at' ≤ 65535) (H : Heap) (Q : Post) (hq : ∀ H', Q (B true) H') : E 4 [encScs sz1 nil1 tip1 cs, encEs sz nil tip es, .raw (.int k at')] H Q := by
  have x0 : ∀ x y, extractA (.tup [x, y]) 0 = some x := fun _ _ => rfl
  have x1 : ∀ x y, extractA (.tup [x, y]) 1 = some y := fun _ _ => rfl
  have hu : Pg.underlying 4 = some .bool := by kernel_rfl
  have hnine : ∀ H, E 9 [] H Q := fun H => c9 H Q (fun H' _ => hq H')
  rw [f4_eq, lenE, ob_some, i_gtr, ob_some]
  refine cnd_intro (fun _ => hnine H) (fun a => ?_)
  have hes : es.length ≤ 200 := by simp at a; omega
  have hcv : cvtIA .i64 (.raw (.int k at')) = some (I at') := by
    show some (I (W64 at')) = _
    rw [w64_id (by omega) (by omega)]
  rw [hcv, ob_some, ob_some, i_add, ob_some]
  have hw : W64 ((es.length : Int) + 1) = ((es.length + 1 : Nat) : Int) := by rw [w64_id (by omega) (by omega)]; omega
  rw [hw, i_rem (h := by omega), ob_some]
  have hm : at'.tmod ((es.length + 1 : Nat) : Int) = ((at'.toNat % (es.length + 1) : Nat) : Int) := by
    rw [Int.tmod_eq_emod_of_nonneg h0, Int.natCast_emod, Int.toNat_of_nonneg h0]
  rw [hm]
  have hk : at'.toNat % (es.length + 1) ≤ es.length := by
    have := Nat.mod_lt at'.toNat (show 0 < es.length + 1 by omega)
    omega
  generalize at'.toNat % (es.length + 1) = n at hk ⊢
  refine c10 sz1 nil1 tip1 cs hok hn sz nil tip es hv H _ (fun H1 _ => ?_)
  rw [encSt, x0, ob_some, x1, ob_some]
  have hsl : sliceA 3 (encEs sz nil tip es) none (some (I n)) none = some (encEs sz nil .any (es.take n)) := by
    show (if nil = true ∨ sz = 3 then (if 0 ≤ (0 : Int) ∧ (0 : Int) ≤ n ∧ (n : Int) ≤ ((es.map encE).length : Nat) then some (AV.sl sz nil .any (((es.map encE).take n).drop 0)) else none) else none) = _
    rw [if_pos hsz, if_pos ⟨by omega, by omega, by simpa using hk⟩]
    simp [encEs, List.map_take]
  rw [hsl, ob_some]
  refine c10 sz1 nil1 tip1 cs hok hn sz nil .any (es.take n) (fun e h => hv e (List.mem_of_mem_take h)) H1 _ (fun H2 _ => ?_)
  rw [encSt, x0, ob_some, x1, ob_some, i_neq, ob_some]
  have p1 : streamP cs es = goS (decide (bookP cs ≠ 0)) cs es 0 0 := by rw [streamP, if_neg (by omega)]
  have p2 : streamP cs (es.take n) = goS (decide (bookP cs ≠ 0)) cs (es.take n) 0 0 := by rw [streamP, if_neg (by rw [List.length_take]; omega)]
  rw [p1, p2]
  refine cnd_intro (fun a1 => ?_) (fun a1 => ?_)
  · obtain ⟨g1, g2, g3⟩ := goS_bad (decide (bookP cs ≠ 0)) cs es 0 0 (by simpa using a1)
    have g3 := g3 n hk
    rw [i_geq, ob_some]
    have d1 : decide (0 ≤ (goS (decide (bookP cs ≠ 0)) cs es 0 0).1) = true := by simpa using g1
    have d2 : decide ((goS (decide (bookP cs ≠ 0)) cs es 0 0).1 < (es.length : Int)) = true := by simp only [decide_eq_true_eq]; omega
    rw [d1, cnd_t, ob_some, i_lss, ob_some, d2, f4_c7_8a_eq, cnd_t, i_eql, ob_some, i_leq, ob_some, b_eql (ht := hu), ob_some, f4_c7_16a_eq]
    have d3 : (decide ((goS (decide (bookP cs ≠ 0)) cs (es.take n) 0 0).2 = 0) == decide ((n : Int) ≤ (goS (decide (bookP cs ≠ 0)) cs es 0 0).1)) = true := by
      rw [beq_iff_eq, decide_eq_decide, g3]; omega
    rw [d3, cnd_t]
    refine c9 H2 _ (fun H3 _ => ?_)
    rw [f4_c7_19a_eq, f4_j22_eq]
    exact hq H3
  · obtain ⟨g1, g2, g3⟩ := goS_ok (decide (bookP cs ≠ 0)) cs es 0 0 (by simpa using a1)
    have g3 := g3 n hk
    rw [g3, g1]
    have last : (ob (binA Pg .eql 40 true (I 0) (I 0)) fun r34 => cndA r34 (ob (binA Pg .eql 3 false (I (0 + n)) (I n)) fun r35 => f4_c13_7a (encEs sz nil tip es) (I (0 + es.length)) r35 H2 Q) (f4_c13_7b (encEs sz nil tip es) (I (0 + es.length)) H2 Q)) := by
      simp only [i_eql, ob_some, decide_true, cnd_t, Int.zero_add, f4_c13_7a_eq, lenE, f4_c13_13a_eq]
      refine c9 H2 _ (fun H3 _ => ?_)
      rw [f4_c13_16a_eq, f4_j47_eq]
      exact hq H3
    cases hes' : es with
    | nil =>
      subst hes'
      rw [f4_l28_eq, lenE, ob_some, i_lss, ob_some]
      exact last
    | cons x r =>
      rw [← hes']
      rw [hes'] at g2
      exact c4w sz nil tip es hes _ _ _ _ H2 Q last r [] x hes' g2.2
end Go.Hx
