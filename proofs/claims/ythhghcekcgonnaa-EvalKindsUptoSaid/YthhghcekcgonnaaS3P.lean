/- Contracts of layer 10: names, kinds. Own work (session 2). -/
import Derived.Test.YthhghcekcgonnaaS3I
set_option maxRecDepth 20000
namespace Go.Hx
theorem xt0 (x y : AV) : extractA (.tup [x, y]) 0 = some x := rfl
theorem xt1 (x y : AV) : extractA (.tup [x, y]) 1 = some y := rfl
theorem xt30 (x y z : AV) : extractA (.tup [x, y, z]) 0 = some x := rfl
theorem xt31 (x y z : AV) : extractA (.tup [x, y, z]) 1 = some y := rfl
theorem xt32 (x y z : AV) : extractA (.tup [x, y, z]) 2 = some z := rfl
/-! ### Texts in a row, numbers in a row -/
def encSs (sz : Nat) (nil : Bool) (tip : Tip) (l : List ByteArray) : AV := .sl sz nil tip (l.map S)
theorem lenSs (sz : Nat) (nil : Bool) (tip : Tip) (l : List ByteArray) : lenA (encSs sz nil tip l) = some (I l.length) := by simp [encSs, len_sl]
theorem ixSs (l : List ByteArray) (sz : Nat) (nil : Bool) (tip : Tip) (pre r : List ByteArray) (x : ByteArray) (e : l = pre ++ x :: r) : ixaA 1 (encSs sz nil tip l) (I pre.length) = some [S x] :=
  ix_mk 1 nil tip _ pre.length (x := S x) (by rw [e]; exact get_mid S pre r x) rfl
def encIs (sz : Nat) (nil : Bool) (tip : Tip) (l : List Int) : AV := .sl sz nil tip (l.map I)
theorem lenIs (sz : Nat) (nil : Bool) (tip : Tip) (l : List Int) : lenA (encIs sz nil tip l) = some (I l.length) := by simp [encIs, len_sl]
theorem ixIs (l : List Int) (sz : Nat) (nil : Bool) (tip : Tip) (pre r : List Int) (x : Int) (e : l = pre ++ x :: r) : ixaA 1 (encIs sz nil tip l) (I pre.length) = some [I x] :=
  ix_mk 1 nil tip _ pre.length (x := I x) (by rw [e]; exact get_mid I pre r x) rfl
def eqS (v s : ByteArray) : Bool := decide (v = s)
theorem c31 (sz : Nat) (nil : Bool) (tip : Tip) (l : List ByteArray) (hn : l.length ≤ 1099511627776) (v : ByteArray) (H : Heap) (Q : Post) : E 31 [encSs sz nil tip l, S v] H Q = Q (I (ixF (eqS v) l 0)) H := by
  have key : ∀ (r pre : List ByteArray), l = pre ++ r → f31_l6 (encSs sz nil tip l) (S v) (I l.length) (I pre.length) H Q = Q (I (ixF (eqS v) r pre.length)) H := by
    intro r
    induction r with
    | nil =>
      intro pre e
      have : (pre.length : Int) = l.length := by rw [e]; simp
      rw [f31_l6_eq, i_lss, ob_some, this]
      simp only [Int.lt_irrefl, decide_false, cnd_f]
      rfl
    | cons c r ih =>
      intro pre e
      have hlt : pre.length < l.length := by rw [e]; simp
      have hlt' : decide ((pre.length : Int) < l.length) = true := by simp; omega
      have next := ih (pre ++ [c]) (by simp [e])
      rw [List.length_append, List.length_singleton] at next
      rw [f31_l6_eq, i_lss, ob_some, hlt', cnd_t, ixSs l sz nil tip pre r c e, ob_some, part_f, List.getElem?_cons_zero, ob_some, s_eql, ob_some, cnd_B, i_add, ob_some, w64_succ hlt (by omega), next, ixF]
      show (if eqS v c = true then _ else _) = _
      by_cases hc : eqS v c = true
      · rw [if_pos hc, if_pos hc]
      · rw [if_neg hc, if_neg hc]
  rw [f31_eq, lenSs, ob_some]
  exact key l [] rfl
/-! ### Names -/
structure Nm where
  z1 : Nat
  n1 : Bool
  t1 : Tip
  cs : List Sc
  z2 : Nat
  n2 : Bool
  t2 : Tip
  vars : List ByteArray
  z3 : Nat
  n3 : Bool
  t3 : Tip
  types : List ByteArray
def cellsN (n : Nm) : List AV := [encScs n.z1 n.n1 n.t1 n.cs, encSs n.z2 n.n2 n.t2 n.vars, encSs n.z3 n.n3 n.t3 n.types]
structure Nm.Ok (n : Nm) : Prop where
  cs : n.cs.length ≤ 1099511627776
  vars : n.vars.length ≤ 1099511627776
  len : n.vars.length = n.types.length
  all : ∀ t ∈ n.types, ∃ c, n.cs.find? (isSc t) = some c
  fs : ∀ c ∈ n.cs, c.fs.length ≤ 1099511627776
/-- the program's names, the document's names -/
def IsP (H : Heap) (b : Nat) (n : Nm) : Prop := H.objs b = some (.cells (cellsN n ++ [B true]))
def IsR (H : Heap) (b : Nat) (n : Nm) : Prop := H.objs b = some (.cells (cellsN n))
theorem nil_Pt (b : Nat) : nilA (Pt b) = some (Pt b) := rfl
theorem p_nil (b : Nat) : binA Pg .eql 27 true (Pt b) (.raw (.pointer none)) = some (B false) := by kernel_rfl
theorem addP (b o : Nat) : addPA (Pt b) o = some (.raw (.pointer (some ⟨b, o, none⟩))) := by simp [addPA, Pt]
theorem ldP0 {H : Heap} {b : Nat} {n : Nm} (h : IsP H b n) : ldH H false 1 (.raw (.pointer (some ⟨b, 0, none⟩))) = some (encScs n.z1 n.n1 n.t1 n.cs) := by rw [ld_off h]; rfl
theorem ldP1 {H : Heap} {b : Nat} {n : Nm} (h : IsP H b n) : ldH H false 1 (.raw (.pointer (some ⟨b, 1, none⟩))) = some (encSs n.z2 n.n2 n.t2 n.vars) := by rw [ld_off h]; rfl
theorem ldP2 {H : Heap} {b : Nat} {n : Nm} (h : IsP H b n) : ldH H false 1 (.raw (.pointer (some ⟨b, 2, none⟩))) = some (encSs n.z3 n.n3 n.t3 n.types) := by rw [ld_off h]; rfl
theorem ldP3 {H : Heap} {b : Nat} {n : Nm} (h : IsP H b n) : ldH H false 1 (.raw (.pointer (some ⟨b, 3, none⟩))) = some (B true) := by rw [ld_off h]; rfl
theorem ldR0 {H : Heap} {b : Nat} {n : Nm} (h : IsR H b n) : ldH H false 1 (.raw (.pointer (some ⟨b, 0, none⟩))) = some (encScs n.z1 n.n1 n.t1 n.cs) := by rw [ld_off h]; rfl
theorem ldR1 {H : Heap} {b : Nat} {n : Nm} (h : IsR H b n) : ldH H false 1 (.raw (.pointer (some ⟨b, 1, none⟩))) = some (encSs n.z2 n.n2 n.t2 n.vars) := by rw [ld_off h]; rfl
theorem ldR2 {H : Heap} {b : Nat} {n : Nm} (h : IsR H b n) : ldH H false 1 (.raw (.pointer (some ⟨b, 2, none⟩))) = some (encSs n.z3 n.n3 n.t3 n.types) := by rw [ld_off h]; rfl
theorem c27 {H : Heap} {b : Nat} {n : Nm} (h : IsP H b n) (Q : Post) : E 27 [Pt b] H Q = Q (B false) H := by
  rw [f27_eq, p_nil, ob_some, cnd_f, nil_Pt, ob_some, addP, ob_some, ldP3 h, ob_some, not_B, ob_some, f27_j4_eq]; rfl
/-! ### A Var's type -/
def typeP (v : ByteArray) : List ByteArray → List ByteArray → Option ByteArray
  | a :: vs, b :: ts => if v = a then some b else typeP v vs ts
  | _, _ => none
def typA : Option ByteArray → AV
  | none => .tup [S e0, B false]
  | some t => .tup [S t, B true]
theorem typeP_ix (v : ByteArray) : ∀ (vs ts : List ByteArray) (n : Nat), vs.length = ts.length → (ixF (eqS v) vs n = -1 ∧ typeP v vs ts = none) ∨ ∃ (i : Nat) (a : List ByteArray) (t : ByteArray) (b : List ByteArray), ixF (eqS v) vs n = (n + i : Nat) ∧ ts = a ++ t :: b ∧ a.length = i ∧ typeP v vs ts = some t
  | [], [], n, _ => .inl ⟨rfl, rfl⟩
  | a :: vs, b :: ts, n, h => by
    by_cases e : v = a
    · exact .inr ⟨0, [], b, ts, by simp [ixF, eqS, e], rfl, rfl, by simp [typeP, e]⟩
    · rcases typeP_ix v vs ts (n + 1) (by simpa using h) with ⟨h1, h2⟩ | ⟨i, p, t, q, h1, h2, h3, h4⟩
      · exact .inl ⟨by rw [ixF, if_neg (by simp [eqS, e]), h1], by rw [typeP, if_neg e, h2]⟩
      · exact .inr ⟨i + 1, b :: p, t, q, by rw [ixF, if_neg (by simp [eqS, e]), h1]; congr 1; omega, by rw [h2]; rfl, by simp [h3], by rw [typeP, if_neg e, h4]⟩
theorem c11 {H : Heap} {b : Nat} {n : Nm} (h : IsP H b n) (ok : n.Ok) (v : ByteArray) (Q : Post) : E 11 [Pt b, S v] H Q = Q (typA (typeP v n.vars n.types)) H := by
  rw [f11_eq, c27 h, cnd_f, nil_Pt, ob_some, addP, ob_some, ldP1 h, ob_some, c31 _ _ _ _ ok.vars]
  rcases typeP_ix v n.vars n.types 0 ok.len with ⟨h1, h2⟩ | ⟨i, p, t, q, h1, h2, h3, h4⟩
  · rw [h1, i_lss, ob_some, h2]; rfl
  · have hd : decide (((0 + i : Nat) : Int) < 0) = false := by simp
    have hx := ixSs n.types n.z3 n.n3 n.t3 p q t h2
    rw [h3, ← Nat.zero_add i] at hx
    rw [h1, i_lss, ob_some, hd, cnd_f]
    simp only [nil_Pt, ob_some, addP, ldP2 h, hx, h4]; rfl
theorem c17 {H : Heap} {b : Nat} {n : Nm} (h : IsR H b n) (ok : n.Ok) (v : ByteArray) (Q : Post) : E 17 [Pt b, S v] H Q = Q (typA (typeP v n.vars n.types)) H := by
  have key : ∀ (r pre r' pre' : List ByteArray), n.vars = pre ++ r → n.types = pre' ++ r' → pre.length = pre'.length → r.length = r'.length → f17_l6 (Pt b) (S v) (I pre.length) H Q = Q (typA (typeP v r r')) H := by
    intro r
    induction r with
    | nil =>
      intro pre r' pre' e e' hl hr
      have : (pre.length : Int) = n.vars.length := by rw [e]; simp
      have hr' : r' = [] := List.eq_nil_of_length_eq_zero (by simpa using hr.symm)
      subst hr'
      rw [f17_l6_eq, nil_Pt, ob_some, addP, ob_some, ldR1 h, ob_some, lenSs, ob_some, i_lss, ob_some, this]
      simp only [Int.lt_irrefl, decide_false, cnd_f, f17_j10_eq]
      rfl
    | cons a r ih =>
      intro pre r' pre' e e' hl hr
      cases r' with
      | nil => simp at hr
      | cons t r' =>
        have hlt : pre.length < n.vars.length := by rw [e]; simp
        have hlt' : decide ((pre.length : Int) < n.vars.length) = true := by simp; omega
        have hlt2 : decide ((pre.length : Int) < n.types.length) = true := by rw [← ok.len]; exact hlt'
        have hv := ok.vars
        have next := ih (pre ++ [a]) r' (pre' ++ [t]) (by simp [e]) (by simp [e']) (by simp [hl]) (by simpa using hr)
        rw [List.length_append, List.length_singleton] at next
        have hx := ixSs n.types n.z3 n.n3 n.t3 pre' r' t e'
        rw [← hl] at hx
        rw [f17_l6_eq]
        simp only [nil_Pt, ob_some, addP, ldR1 h, ldR2 h, lenSs, i_lss, hlt', hlt2, cnd_t, f17_j10_eq, ixSs n.vars n.z2 n.n2 n.t2 pre r a e, part_f, List.getElem?_cons_zero, s_eql, cnd_B, hx,
          i_add, w64_succ hlt (show n.vars.length ≤ 1152921504606846976 by omega), next, typeP]
        by_cases ha : v = a
        · simp [ha, typA]
        · have ha' : ¬ a = v := fun h => ha h.symm
          simp [ha, ha']
  rw [f17_eq]
  exact key n.vars [] n.types [] rfl rfl rfl ok.len
/-! ### A field's kind -/
def fieldN (n : Nm) (v name : ByteArray) : Int × Int :=
  match typeP v n.vars n.types with
  | none => (0, 6)
  | some t => match n.cs.find? (isSc t) with
    | none => (0, 6)
    | some c => match c.fs.find? (isF name) with
      | none => (0, 6)
      | some f => (f.k, 0)
theorem typeP_mem (v : ByteArray) : ∀ (vs ts : List ByteArray) (t : ByteArray), typeP v vs ts = some t → t ∈ ts
  | a :: vs, b :: ts, t, h => by
    rw [typeP] at h
    split at h
    · cases h; exact List.mem_cons_self
    · exact List.mem_cons_of_mem _ (typeP_mem v vs ts t h)
  | [], [], t, h => by cases h
  | [], _ :: _, t, h => by cases h
  | _ :: _, [], t, h => by cases h
/-- a schema that is there -/
theorem found_at {n : Nm} (ok : n.Ok) {t : ByteArray} (ht : t ∈ n.types) : ∃ (c : Sc) (a b : List Sc), n.cs.find? (isSc t) = some c ∧ n.cs = a ++ c :: b ∧ foundI (ixF (isSc t) n.cs 0) = .tup [I a.length, B true] ∧ c ∈ n.cs := by
  obtain ⟨c, hc⟩ := ok.all t ht
  rcases ixF_spec (isSc t) n.cs 0 with ⟨_, h2⟩ | ⟨i, a, x, b, h1, h2, h3, h4⟩
  · rw [hc] at h2; cases h2
  · rw [hc] at h4
    simp only [Option.some.injEq] at h4; subst h4
    refine ⟨c, a, b, hc, h2, ?_, by rw [h2]; simp⟩
    rw [h1, foundI, h3, Nat.zero_add]
    have e1 : max (i : Int) 0 = i := by omega
    have e2 : decide (0 ≤ (i : Int)) = true := by simp
    rw [e1, e2]
theorem c50 {H : Heap} {b : Nat} {n : Nm} (h : IsP H b n) (ok : n.Ok) (v name : ByteArray) (Q : Post) (hq : ∀ H', HExt H H' → Q (.tup [I (fieldN n v name).1, errA (fieldN n v name).2]) H') : E 50 [Pt b, S v, S name] H Q := by
  have hq0 := hq
  rw [fieldN] at hq0
  rw [f50_eq, c11 h ok]
  cases ht : typeP v n.vars n.types with
  | none =>
    rw [ht] at hq0
    simp only [typA, xt0, xt1, ob_some, not_B]
    show cndA (B true) _ _
    rw [cnd_t, c79]
    exact hq0 H (HExt.refl H)
  | some t =>
    rw [ht] at hq0
    obtain ⟨c, a, r, h1, h2, h3, h4⟩ := found_at ok (typeP_mem v _ _ t ht)
    simp only [h1] at hq0
    simp only [typA, xt0, xt1, ob_some, not_B]
    show cndA (B false) _ _
    rw [cnd_f, nil_Pt, ob_some, addP, ob_some, ldP0 h, ob_some]
    refine c33 _ _ _ n.cs ok.cs t H _ (fun H1 he => ?_)
    have hP : IsP H1 b n := he.obj h
    simp only [nil_Pt, ob_some, addP, h3, xt0, xt1, ldP0 hP, ixSc n.cs n.z1 n.n1 n.t1 a r c h2, partSc]
    refine c80 c (ok.fs c h4) name H1 _ (fun H2 he2 => ?_)
    have := hq0 H2 (he.trans he2)
    rw [kindF]
    cases hf : c.fs.find? (isF name) with
    | none =>
      rw [hf] at this
      simp only [xt30, xt31, xt32, ob_some, not_B]
      show cndA (B true) _ _
      rw [cnd_t, c79]; exact this
    | some f =>
      rw [hf] at this
      simp only [xt30, xt31, xt32, ob_some, not_B]
      exact this
theorem c61 {H : Heap} {b : Nat} {n : Nm} (h : IsR H b n) (ok : n.Ok) (v name : ByteArray) (Q : Post) : E 61 [Pt b, S v, S name] H Q = Q (.tup [I (fieldN n v name).1, I (fieldN n v name).2]) H := by
  rw [f61_eq, c17 h ok, fieldN]
  cases ht : typeP v n.vars n.types with
  | none =>
    simp only [typA, xt0, xt1, ob_some, not_B]
    rfl
  | some t =>
    obtain ⟨c, a, r, h1, h2, h3, h4⟩ := found_at ok (typeP_mem v _ _ t ht)
    simp only [typA, xt0, xt1, ob_some, not_B, h1]
    show cndA (B false) _ _ = _
    rw [cnd_f]
    simp only [nil_Pt, ob_some, addP, ldR0 h, c37 _ _ _ n.cs ok.cs, h3, xt0, xt1, ixSc n.cs n.z1 n.n1 n.t1 a r c h2, partSc, c89 c (ok.fs c h4), kindF]
    cases hf : c.fs.find? (isF name) with
    | none =>
      simp only [xt30, xt31, xt32, ob_some, not_B]
      rfl
    | some f =>
      simp only [xt30, xt31, xt32, ob_some, not_B]
      rfl
end Go.Hx
