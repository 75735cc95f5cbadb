/- EvalSays over the abstract machine. Own work (session 2). -/
import Derived.Test.YthhghcekcgonnaaS3X
set_option maxRecDepth 20000
namespace Go.Hx
/-- a table -/
def tabA (s1 s2 s3 : Nat) (n1 n2 n3 : Bool) (t1 t2 t3 : Tip) (vars fields : List ByteArray) (l : List Vl) : List AV := [.sl s1 n1 t1 (vars.map S), .sl s2 n2 t2 (fields.map S), .sl s3 n3 t3 (l.map encV)]
section
variable (s1 s2 s3 : Nat) (n1 n2 n3 : Bool) (t1 t2 t3 : Tip) (vars fields : List ByteArray) (l : List Vl)
theorem c22_l (v f : ByteArray) (H : Heap) (Q : Post) (hl : vars.length ≤ 1099511627776) :
    ∀ (k i : Nat), i + k = min vars.length fields.length → f22_l6 (S v) (S f) (tabA s1 s2 s3 n1 n2 n3 t1 t2 t3 vars fields l) [I 0, I 0, S e0] (I i) H Q = Q (encT (tableL v f (vars.drop i) (fields.drop i) (l.drop i))) H := by
  have q0 : (tabA s1 s2 s3 n1 n2 n3 t1 t2 t3 vars fields l)[0]? = some (.sl s1 n1 t1 (vars.map S)) := rfl
  have q1 : (tabA s1 s2 s3 n1 n2 n3 t1 t2 t3 vars fields l)[1]? = some (.sl s2 n2 t2 (fields.map S)) := rfl
  have q2 : (tabA s1 s2 s3 n1 n2 n3 t1 t2 t3 vars fields l)[2]? = some (.sl s3 n3 t3 (l.map encV)) := rfl
  intro k
  induction k with
  | zero =>
    intro i hi
    have ht : tableL v f (vars.drop i) (fields.drop i) (l.drop i) = (nullV, false) := by
      rcases Nat.le_total vars.length fields.length with h | h
      · have hd : vars.drop i = [] := List.drop_eq_nil_of_le (by omega)
        rw [hd]; simp [tableL]
      · have hd : fields.drop i = [] := List.drop_eq_nil_of_le (by omega)
        rw [hd]; cases vars.drop i <;> simp [tableL]
    have hor : ¬ (i < vars.length) ∨ ¬ (i < fields.length) := by omega
    simp only [f22_l6_eq, f22_j10_eq, part_f, q0, q1, q2, ob_some, len_sl, List.length_map, i_lss, cnd_B, ht, bld0, sz3, spl3, part3]
    rcases hor with h | h
    · rw [if_neg (by simp; omega)]; rfl
    · by_cases h' : i < vars.length
      · rw [if_pos (by simp; omega), if_neg (by simp; omega)]; rfl
      · rw [if_neg (by simp; omega)]; rfl
  | succ k ih =>
    intro i hi
    have hv : i < vars.length := by omega
    have hf : i < fields.length := by omega
    have ih := ih (i + 1) (by omega)
    have x1 : ixaA 1 (.sl s1 n1 t1 (vars.map S)) (I i) = some [S vars[i]] := ix_mk 1 _ _ _ i (x := S vars[i]) (by simp [hv]) rfl
    have x2 : ixaA 1 (.sl s2 n2 t2 (fields.map S)) (I i) = some [S fields[i]] := ix_mk 1 _ _ _ i (x := S fields[i]) (by simp [hf]) rfl
    have hd1 : vars.drop i = vars[i] :: vars.drop (i + 1) := List.drop_eq_getElem_cons hv
    have hd2 : fields.drop i = fields[i] :: fields.drop (i + 1) := List.drop_eq_getElem_cons hf
    have ht : tableL v f (vars.drop i) (fields.drop i) (l.drop i) = if vars[i] = v ∧ fields[i] = f then (match l.drop i with | x :: _ => (x, true) | [] => (nullV, false)) else tableL v f (vars.drop (i + 1)) (fields.drop (i + 1)) (l.drop (i + 1)) := by
      rw [hd1, hd2]
      simp only [tableL, List.tail_drop]
      rfl
    have c1 : decide ((i : Int) < (vars.length : Int)) = true := by simp; omega
    have c2 : decide ((i : Int) < (fields.length : Int)) = true := by simp; omega
    have j17 : ∀ b : Bool, b = decide (vars[i] = v ∧ fields[i] = f) → f22_j17 (S v) (S f) (tabA s1 s2 s3 n1 n2 n3 t1 t2 t3 vars fields l) [I 0, I 0, S e0] (I i) (B b) H Q =
        Q (encT (tableL v f (vars.drop i) (fields.drop i) (l.drop i))) H := fun b hb => by
      rw [f22_j17_eq, part_f, q2]
      simp only [ob_some, len_sl, List.length_map, i_lss, i_add, w64_succ hv (by omega : vars.length ≤ 1152921504606846976), ih, ht, bld0, sz3, spl3, part3, cnd_B]
      by_cases hc : vars[i] = v ∧ fields[i] = f
      · have : b = true := by rw [hb]; simp [hc]
        rw [if_pos this, if_pos hc]
        by_cases hil : i < l.length
        · have x3 : ixaA 3 (.sl s3 n3 t3 (l.map encV)) (I i) = some [I l[i].k, I l[i].n, S l[i].s] := ix_mk 3 _ _ _ i (x := encV l[i]) (by simp [hil]) rfl
          have hd3 : l.drop i = l[i] :: l.drop (i + 1) := List.drop_eq_getElem_cons hil
          rw [if_pos (by simpa using hil), x3, hd3]
          simp only [ob_some, part3, sz3, spl3]
          rfl
        · rw [if_neg (by simpa using hil), List.drop_eq_nil_of_le (by omega)]
          rfl
      · have : ¬ b = true := by rw [hb]; simpa using hc
        rw [if_neg this, if_neg hc]
    rw [f22_l6_eq, part_f, q0, ob_some, len_sl, ob_some, List.length_map, i_lss, ob_some, c1, cnd_t, part_f, q1, ob_some, len_sl, ob_some, List.length_map, i_lss, ob_some, c2, f22_j10_eq, cnd_t, part_f, q0, ob_some, x1, ob_some]
    simp only [part_f, List.getElem?_cons_zero, ob_some, s_eql, q1, x2, cnd_B]
    split
    · rename_i h; exact j17 _ (by have : vars[i] = v := by simpa using h
                                  simp [this])
    · rename_i h; exact j17 false (by have : ¬ vars[i] = v := by simpa using h
                                      simp [this])
theorem tab_sz : sizedA 3 (.agg (tabA s1 s2 s3 n1 n2 n3 t1 t2 t3 vars fields l)) = some (tabA s1 s2 s3 n1 n2 n3 t1 t2 t3 vars fields l) := rfl
theorem tab_part : partA true 0 3 (tabA s1 s2 s3 n1 n2 n3 t1 t2 t3 vars fields l) = some (.agg (tabA s1 s2 s3 n1 n2 n3 t1 t2 t3 vars fields l)) := rfl
theorem c22 (v f : ByteArray) (H : Heap) (Q : Post) (hl : vars.length ≤ 1099511627776) : E 22 [.agg (tabA s1 s2 s3 n1 n2 n3 t1 t2 t3 vars fields l), S v, S f] H Q = Q (encT (tableL v f vars fields l)) H := by
  have := c22_l s1 s2 s3 n1 n2 n3 t1 t2 t3 vars fields l v f H Q hl (min vars.length fields.length) 0 (by omega)
  simp only [List.drop_zero] at this
  rw [f22_eq, tab_sz, ob_some]
  exact this
end
/-! ### Values are in range -/
theorem rng_reckon {k a b : Int} (ha : rng a) (hb : rng b) : rng (reckonN k a b).1 := by
  have z : rng 0 := ⟨by omega, by omega⟩
  simp only [reckonN, negN, addN, subN, mulN, divN, modN]
  repeat' split
  all_goals first
    | exact z
    | exact w64_rng _
    | skip
  have h : (a.tmod b).natAbs ≤ a.natAbs := by rw [Int.natAbs_tmod]; exact Nat.mod_le _ _
  obtain ⟨h1, h2⟩ := ha
  by_cases hs : 0 ≤ a
  · have := Int.tmod_nonneg b hs
    exact ⟨by omega, by omega⟩
  · exact ⟨by omega, by have := Int.tmod_nonneg b (show 0 ≤ -a by omega); rw [Int.neg_tmod] at this; omega⟩
theorem vr_bool (b : Bool) : vr (boolV b) := by cases b <;> exact ⟨by decide, by decide⟩
theorem vr_null : vr nullV := ⟨by decide, by decide⟩
theorem node_vr (t : Tl) (ht : ∀ v f, vr (t v f).1) (x : Ex) (hx : vX x) (vs : List Vl) (hv : ∀ v ∈ vs, vr v) : vr (nodeP t x vs).1 := by
  simp only [nodeP]
  split
  · exact hx
  · split
    · simp only [fieldP]
      repeat' split
      all_goals first | exact vr_null | exact ht _ _
    · split
      · simp only [logicP, logicR]
        repeat' split
        all_goals first | exact vr_null | exact vr_bool _
      · split
        · have hm : ∀ n ∈ vs.map (·.n), rng n := fun n hn => by
            obtain ⟨v, h1, rfl⟩ := List.mem_map.1 hn; exact hv v h1
          have h0 : rng ((vs.map (·.n)).headD 0) := by
            cases hvs : vs.map (·.n) with
            | nil => exact ⟨by decide, by decide⟩
            | cons a l => rw [List.headD_cons]; exact hm a (by rw [hvs]; simp)
          have h1 : rng ((vs.map (·.n)).getLastD 0) := by
            rw [List.getLastD_eq_getLast?]
            cases hg : (vs.map (·.n)).getLast? with
            | none => exact ⟨by decide, by decide⟩
            | some a => exact hm a (List.mem_of_getLast? hg)
          simp only [numberP, reckonL]
          split
          · exact vr_null
          · split
            · exact vr_null
            · split
              · exact rng_reckon h0 h1
              · exact vr_null
        · simp only [comparedP]
          repeat' split
          all_goals first | exact vr_null | exact vr_bool _
theorem say_vr (t : Tl) (ht : ∀ v f, vr (t v f).1) (x : Ex) : allX vX x → vr (sayP t x).1 := by
  induction x using Ex.ind with
  | h x ih =>
    intro hx
    rw [allX_eq] at hx
    have : ∀ (r : List Ex), (∀ y ∈ r, y ∈ x.l) → ∀ vs, saysP t r = .ok vs → ∀ v ∈ vs, vr v := by
      intro r
      induction r with
      | nil => intro _ vs h v hv; simp [saysP] at h; rw [h] at hv; cases hv
      | cons y r ihr =>
        intro hy vs h v hv
        simp only [saysP] at h
        split at h
        · split at h
          · rename_i us hu
            cases h
            rcases List.mem_cons.1 hv with rfl | hv
            · exact ih y (hy y (by simp)) (allXs_mem hx.2 (hy y (by simp)))
            · exact ihr (fun z hz => hy z (by simp [hz])) us hu v hv
          · cases h
        · cases h
    rw [sayP_eq]
    split
    · exact vr_null
    · rename_i vs hvs
      exact node_vr t ht x hx.1 vs (this x.l (fun _ h => h) vs hvs)
theorem tableL_mem (v f : ByteArray) : ∀ (vars fields : List ByteArray) (l : List Vl), (tableL v f vars fields l).1 = nullV ∨ (tableL v f vars fields l).1 ∈ l
  | [], _, _ => .inl rfl
  | _ :: _, [], _ => .inl rfl
  | a :: vs, b :: fs, l => by
    simp only [tableL]
    split
    · cases l with
      | nil => exact .inl rfl
      | cons x r => exact .inr (by simp)
    · rcases tableL_mem v f vs fs l.tail with h | h
      · exact .inl h
      · exact .inr (List.mem_of_mem_tail h)
end Go.Hx
