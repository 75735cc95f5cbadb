/- EvalKinds over the abstract machine: the law. Own work (session 2). -/
import Derived.Test.YthhghcekcgonnaaS3KW
import Derived.Test.YthhghcekcgonnaaS3M
set_option maxRecDepth 20000
namespace Go.Hx
theorem rowsAll_snoc (v : List Vl) (a : ByteArray) : ∀ (l : List ByteArray) (i : Nat), rowsAll v i (l ++ [a]) = rowsAll v i l ++ rowsOf v (i + l.length) a
  | [], i => by simp [rowsAll]
  | b :: l, i => by
    rw [List.cons_append, rowsAll, rowsAll_snoc v a l (i + 1), rowsAll, List.append_assoc, List.length_cons]
    congr 3; omega
theorem rowsAll_length (v : List Vl) : ∀ (l : List ByteArray) (i : Nat), (rowsAll v i l).length = 3 * l.length
  | [], i => rfl
  | b :: l, i => by
    rw [rowsAll, List.length_append, rowsAll_length v l (i + 1), rowsOf_eq, List.length_cons]
    simp only [List.length_cons, List.length_nil]; omega
theorem fieldN_zero (n : Nm) (v s : ByteArray) : (fieldN n v s).2 ≠ 0 → (fieldN n v s).1 = 0 := by
  unfold fieldN
  repeat' split
  all_goals first | (intro _; rfl) | (intro h; exact absurd rfl h)
theorem kindX_zero (n : Nm) (x : Ex) : (kindX (fieldN n) x).2 ≠ 0 → (kindX (fieldN n) x).1 = 0 := by
  rw [kindX_eq]
  cases kindsX (fieldN n) x.l with
  | error e => intro _; rfl
  | ok vs =>
    show (nodeK (fieldN n) x vs).2 ≠ 0 → (nodeK (fieldN n) x vs).1 = 0
    unfold nodeK
    split
    · intro h; exact absurd rfl h
    · split
      · exact fieldN_zero n _ _
      · split
        · intro h; exact absurd rfl h
        · intro _; rfl
theorem kindP_zero (n : Nm) (x : Ex) : (kindP n x).2 ≠ 0 → (kindP n x).1 = 0 := by
  unfold kindP
  split
  · exact kindX_zero n x
  · intro _; rfl
def tableR (rows : List Row) : Tl := fun v f => tableL v f (rows.map (·.1)) (rows.map (·.2.1)) (rows.map (·.2.2))
/-- what stands behind the table -/
theorem tail9 (n : Nm) (hc : n.cs = [scBuy]) (ht : n.types = List.replicate n.vars.length sBuy) (ok : n.Ok) (vl : List Vl) (x : Ex) (hx : XOk x) (V F L : SlS) (nT : Nat) (H0 : Heap) (T : SlS) (b : Nat) (m : Nm) (hl : m.like n) (H : Heap) (hP : IsP H b m) (okm : m.Ok)
    (hV : (V.n = true → (rowsAll vl 0 n.vars).length = 0) ∧ (V.n = true ∨ V.s = 1)) (hF : (F.n = true → (rowsAll vl 0 n.vars).length = 0) ∧ (F.n = true ∨ F.s = 1)) (hL : (L.n = true → (rowsAll vl 0 n.vars).length = 0) ∧ (L.n = true ∨ L.s = 3))
    (hlen : (rowsAll vl 0 n.vars).length ≤ 1099511627776) (Q : Post) (hq : ∀ H', Q (B true) H') : f9_j55 (encC x) (tabC V F L (rowsAll vl 0 n.vars)) (Pt b) (B false) H Q := by
  have haw : ∀ H' (K : Post), (∀ H', K (B true) H') → E 25 [] H' K := fun H' K hk => c25 H' K (fun H'' _ => hk H'')
  rw [f9_j55_eq, cnd_f, partX, ob_some]
  refine c10 hP okm x hx _ (fun H1 he1 => ?_)
  rw [kindP_like hl]
  simp only [encN2, xt0, xt1, ob_some, i_neq]
  refine cnd_intro (fun h0 => ?_) (fun h0 => ?_)
  · have h0 : (kindP n x).2 ≠ 0 := by simpa using h0
    rw [kindP_zero n x h0, i_eql, ob_some]
    show cndA (B true) _ _
    rw [cnd_t]
    refine haw H1 _ (fun H2 => ?_)
    rw [f9_j68_eq]; exact hq H2
  have h0 : (kindP n x).2 = 0 := by simpa using h0
  have hck : checkP x = 0 := by
    by_cases h : checkP x = 0
    · exact h
    · rw [kindP, if_neg h] at h0; exact absurd h0 (by show (1 : Int) ≠ 0; decide)
  have hkx : kindP n x = kindX (fieldN n) x := by rw [kindP, if_pos hck]
  rw [hkx] at h0 ⊢
  generalize hrows : rowsAll vl 0 n.vars = rows at hV hF hL hlen ⊢
  have q0 : partA false 0 1 (tabC V F L rows) = some (.sl V.s V.n V.t ((rows.map (·.1)).map S)) := by rw [List.map_map]; rfl
  have q1 : partA false 1 1 (tabC V F L rows) = some (.sl F.s F.n F.t ((rows.map (·.2.1)).map S)) := by rw [List.map_map]; rfl
  have q2 : partA false 2 1 (tabC V F L rows) = some (.sl L.s L.n L.t ((rows.map (·.2.2)).map encV)) := by rw [List.map_map]; rfl
  have hnil : ∀ {α : Type} (g : Row → α), rows.length = 0 → rows.map g = [] := fun g h => by rw [List.eq_nil_of_length_eq_zero h]; rfl
  rw [q0, ob_some, q1, ob_some, q2, ob_some]
  refine c19 V.s F.s L.s V.n F.n L.n V.t F.t L.t (rows.map (·.1)) (rows.map (·.2.1)) (rows.map (·.2.2)) (fun h => hnil _ (hV.1 h)) (fun h => hnil _ (hF.1 h)) (fun h => hnil _ (hL.1 h)) hV.2 hF.2 hL.2 (by simpa using hlen) (by simpa using hlen) (by simpa using hlen) H1 _ (fun b1 b2 b3 H2 he2 htl => ?_)
  refine c20 (tableR rows) 42 _ x hx.ok H2 _ htl (fun H3 he3 => ?_)
  rw [SayP_ok hck]
  have hfine : fine9 (sayP (tableR rows) x) (kindX (fieldN n) x).1 := kind_say (fieldN n) (tableR rows) (fun a f h => by
    have := field_table n hc ht vl a f h
    rw [hrows] at this; exact this) x (checkP_all hck) h0
  simp only [ext0, ext1, ob_some, sz3, spl3, i_neq]
  refine cnd_intro (fun hg => ?_) (fun hg => ?_)
  · have hg : (sayP (tableR rows) x).2 ≠ 0 := by simpa using hg
    have : (sayP (tableR rows) x).2 = 10 ∨ (sayP (tableR rows) x).2 = 1 := by
      rcases hfine with h | h | h
      · exact absurd h.1 hg
      · exact .inl h
      · exact .inr h
    rcases this with h | h
    · rw [h, i_eql, ob_some]
      show cndA (B true) _ _
      rw [cnd_t]
      refine haw H3 _ (fun H4 => ?_)
      rw [f9_j78_eq]; exact hq H4
    · rw [h, i_eql, ob_some]
      show cndA (B false) _ _
      rw [cnd_f, i_eql, ob_some]
      show cndA (B true) _ _
      rw [cnd_t]
      refine haw H3 _ (fun H4 => ?_)
      rw [f9_j78_eq]; exact hq H4
  · have hg : (sayP (tableR rows) x).2 = 0 := by simpa using hg
    have hk : ofK (sayP (tableR rows) x).1 (kindX (fieldN n) x).1 := by
      rcases hfine with h | h | h
      · exact h.2
      · omega
      · omega
    have last : f9_c26_13a (encC x) (tabC V F L rows) [I (sayP (tableR rows) x).1.k, I (sayP (tableR rows) x).1.n, S (sayP (tableR rows) x).1.s] H3 Q := by
      rw [f9_c26_13a_eq]
      refine haw H3 _ (fun H4 => ?_)
      rw [f9_c26_16a_eq, f9_j82_eq]; exact hq H4
    simp only [part_f, List.getElem?_cons_zero, ob_some, i_eql]
    refine cnd_intro (fun h => ?_) (fun h => ?_)
    · rw [f9_c26_9a_eq]; exact last
    · have h : ¬ (sayP (tableR rows) x).1.k = (kindX (fieldN n) x).1 := by simpa using h
      have h' : (sayP (tableR rows) x).1.k = 0 := by
        rcases hk with hk | hk
        · exact absurd hk h
        · exact hk
      rw [h', f9_c26_9b_eq]
      show cndA (B true) _ _
      rw [cnd_t]
      rw [h'] at last; exact last
theorem replS (m : Nat) : (List.replicate m sBuy).map S ++ [S sBuy] = (List.replicate (m + 1) sBuy).map S := by
  rw [List.replicate_succ', List.map_append]; rfl
theorem c9 (z2 : Nat) (n2 : Bool) (t2 : Tip) (vars : List ByteArray) (hn2 : n2 = true → vars = []) (hs2 : n2 = true ∨ z2 = 1) (hvars : vars.length ≤ 1099511627776) (n3 : Bool) (t3 : Tip) (vl : List Vl) (hvl : vl.length ≤ 1099511627776)
    (x : Ex) (hx : XOk x) (H : Heap) (Q : Post) (hq : ∀ H', Q (B true) H') : E 9 [encX x, encSs z2 n2 t2 vars, encVs n3 t3 vl] H Q := by
  have hb : bldA [] [(AV.sl 0 true .full []), (AV.sl 0 true .full []), (AV.sl 0 true .full [])] = some (.agg [.sl 0 true .full [], .sl 0 true .full [], .sl 0 true .full []]) := rfl
  have hsz : sizedA 3 (.agg [.sl 0 true .full [], .sl 0 true .full [], .sl 0 true .full []]) = some [.sl 0 true .full [], .sl 0 true .full [], .sl 0 true .full []] := rfl
  have hsp : spliceA 0 [AV.sl 0 true .full [], .sl 0 true .full [], .sl 0 true .full []] [.sl 0 true .full [], .sl 0 true .full [], .sl 0 true .full []] = some [.sl 0 true .full [], .sl 0 true .full [], .sl 0 true .full []] := rfl
  have loop : ∀ (d i : Nat) (H1 : Heap) (T V F L : SlS), i + d = min vars.length 8 → Bag H H1 T V F L i (3 * i) (3 * i) (3 * i) →
      f9_l10 (encSs z2 n2 t2 vars) (encVs n3 t3 vl) (encC x) (slA T ((List.replicate i sBuy).map S)) (tabC V F L (rowsAll vl 0 (vars.take i))) (I i) H1 Q := by
    intro d
    induction d with
    | zero =>
      intro i H1 T V F L hi hB
      have hi : i = min vars.length 8 := by omega
      have hlen : (vars.take i).length = i := by rw [List.length_take]; omega
      let n : Nm := ⟨2, false, .full, [scBuy], z2, n2, .any, vars.take i, T.s, T.n, T.t, List.replicate i sBuy⟩
      have hin : NIn n := by
        refine ⟨fun h => (by cases h), fun h => ?_, fun h => ?_, .inr rfl, hs2, hB.oT.sz, by show 1 ≤ _; omega, by show (vars.take i).length ≤ _; omega, by show (List.replicate i sBuy).length ≤ _; rw [List.length_replicate]; omega, fun c hc => ?_⟩
        · show vars.take i = []
          rw [hn2 h]; simp
        · show List.replicate i sBuy = []
          rw [hB.oT.nil h]; rfl
        · have : c = scBuy := by simpa [n] using hc
          rw [this]; exact okBuy
      have hnew : newE n.cs n.vars n.types = 0 := by
        have h1 : bookP [scBuy] = 0 := by kernel_rfl
        have h2 : allFound [scBuy] (List.replicate i sBuy) = true := by
          unfold allFound
          rw [List.all_eq_true]
          intro t ht
          rw [(List.mem_replicate.1 ht).2]; rfl
        show newE [scBuy] (vars.take i) (List.replicate i sBuy) = 0
        rw [newE, if_neg (by rw [h1, hlen, List.length_replicate]; simp), if_pos h2]
      have hty : n.types = List.replicate n.vars.length sBuy := by
        show List.replicate i sBuy = List.replicate (vars.take i).length sBuy
        rw [hlen]
      have hrl := rowsAll_length vl (vars.take i) 0
      rw [hlen] at hrl
      have j14 : f9_j14 (encSs z2 n2 t2 vars) (encVs n3 t3 vl) (encC x) (slA T ((List.replicate i sBuy).map S)) (tabC V F L (rowsAll vl 0 (vars.take i))) (I i) (B false) H1 Q := by
        have hsl : sliceA 1 (encSs z2 n2 t2 vars) none (some (I i)) none = some (encSs z2 n2 .any (vars.take i)) := by
          show (if n2 = true ∨ z2 = 1 then (if 0 ≤ (0 : Int) ∧ (0 : Int) ≤ i ∧ (i : Int) ≤ ((vars.map S).length : Nat) then some (AV.sl z2 n2 .any (((vars.map S).take i).drop 0)) else none) else none) = _
          rw [if_pos hs2, if_pos ⟨by omega, by omega, by rw [List.length_map]; omega⟩]
          simp [encSs, List.map_take]
        have hmin : min (vars.length : Int) 8 = (i : Int) := by omega
        rw [f9_j14_eq, cnd_f, lenSs, ob_some, min_I, ob_some, hmin, hsl, ob_some, c26]
        refine c13 n hin H1 _ (fun h => absurd hnew h) (fun _ H2 b m he hP hl => ?_)
        simp only [xt0, xt1, ob_some, p_nil, cnd_f, i_neq]
        have := tail9 n rfl hty (newE_ok hin hnew ⟨rfl, rfl, rfl⟩) vl x hx V F L i H T b m hl H2 hP (newE_ok hin hnew hl)
          ⟨fun h => (by have := hB.oV.nil h; show (rowsAll vl 0 (vars.take i)).length = 0; omega), hB.oV.sz⟩ ⟨fun h => (by have := hB.oF.nil h; show (rowsAll vl 0 (vars.take i)).length = 0; omega), hB.oF.sz⟩
          ⟨fun h => (by have := hB.oL.nil h; show (rowsAll vl 0 (vars.take i)).length = 0; omega), hB.oL.sz⟩ (by show (rowsAll vl 0 (vars.take i)).length ≤ _; omega) Q hq
        exact this
      rw [f9_l10_eq, lenSs, ob_some, i_lss, ob_some]
      refine cnd_intro (fun h => ?_) (fun h => ?_)
      · have h8 : decide ((i : Int) < 8) = false := by simp at h ⊢; omega
        rw [i_lss, ob_some, h8]; exact j14
      · exact j14
    | succ d ih =>
      intro i H1 T V F L hi hB
      have hlt : i < vars.length := by omega
      have hi8 : i < 8 := by omega
      have h1 : decide ((i : Int) < vars.length) = true := by simp; omega
      have h2 : decide ((i : Int) < 8) = true := by simp; omega
      have htk : (vars.take i).length = i := by rw [List.length_take]; omega
      obtain ⟨a, q, ha⟩ : ∃ a q, vars = vars.take i ++ a :: q := by
        refine ⟨vars[i], vars.drop (i + 1), ?_⟩
        rw [List.getElem_cons_drop]; simp
      have hrl := rowsAll_length vl (vars.take i) 0
      rw [htk] at hrl
      have r0 : ∀ k, k < 3 → (rowOf vl i a k).length = 1 := fun k hk => by
        match k, hk with
        | 0, _ => rfl
        | 1, _ => rfl
        | 2, _ => rfl
      rw [f9_l10_eq, lenSs, ob_some, i_lss, ob_some, h1, cnd_t, i_lss, ob_some, h2, f9_j14_eq, cnd_t, mk1 1 (S sBuy) (sz1_S _), ob_some]
      refine bag_T hB _ (by simp) (S sBuy) _ (by omega) (fun T' H2 hB2 => ?_)
      rw [replS]
      refine step9 H z2 n2 t2 vars n3 t3 vl hvl (encC x) Q i hi8 a (vars.take i) q ha htk T' V F L _ (i + 1) 0 (by omega) (rowsAll vl 0 (vars.take i)) (by omega) H2 (by rw [hrl]; exact hB2) (fun V1 F1 L1 H3 hB3 => ?_)
      refine step9 H z2 n2 t2 vars n3 t3 vl hvl (encC x) Q i hi8 a (vars.take i) q ha htk T' V1 F1 L1 _ (i + 1) 1 (by omega) _ (by rw [List.length_append, r0 0 (by omega)]; omega) H3 hB3 (fun V2 F2 L2 H4 hB4 => ?_)
      refine step9 H z2 n2 t2 vars n3 t3 vl hvl (encC x) Q i hi8 a (vars.take i) q ha htk T' V2 F2 L2 _ (i + 1) 2 (by omega) _ (by rw [List.length_append, List.length_append, r0 0 (by omega), r0 1 (by omega)]; omega) H4 hB4 (fun V3 F3 L3 H5 hB5 => ?_)
      have h3 : decide (((2 + 1 : Nat) : Int) < 3) = false := by decide
      rw [f9_l24_eq, i_lss, ob_some, h3, cnd_f, i_add, ob_some, w64_succ hi8 (by omega)]
      have hrows : rowsAll vl 0 (vars.take i) ++ rowOf vl i a 0 ++ rowOf vl i a 1 ++ rowOf vl i a 2 = rowsAll vl 0 (vars.take (i + 1)) := by
        have e : vars.take (i + 1) = vars.take i ++ [a] := by
          have h2 : vars[i]? = some a := by rw [ha, List.getElem?_append_right (by omega), htk]; simp
          rw [List.take_add_one, h2]; rfl
        rw [e, rowsAll_snoc, htk, Nat.zero_add, rowsOf]; simp only [List.append_assoc]
      rw [hrows] at hB5 ⊢
      have hrl2 := rowsAll_length vl (vars.take (i + 1)) 0
      have htk2 : (vars.take (i + 1)).length = i + 1 := by rw [List.length_take]; omega
      rw [hrl2, htk2] at hB5
      exact ih (i + 1) H5 T' V3 F3 L3 (by omega) hB5
  rw [f9_eq, szX, ob_some, hb, ob_some, hsz, ob_some, hsp, ob_some]
  have z0 : ∀ sz, Ow H H sz ⟨0, true, .full⟩ 0 := fun sz => ⟨trivial, .inl rfl, fun _ => rfl⟩
  have ap : TipsApart .full .full := fun b h => by cases h
  exact loop (min vars.length 8) 0 H ⟨0, true, .full⟩ ⟨0, true, .full⟩ ⟨0, true, .full⟩ ⟨0, true, .full⟩ (by omega) ⟨HExt.refl H, z0 1, z0 1, z0 1, z0 3, ap, ap, ap, ap, ap, ap⟩
end Go.Hx
