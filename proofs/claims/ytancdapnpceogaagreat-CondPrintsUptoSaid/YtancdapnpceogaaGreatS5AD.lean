/- The program's parser reads what the grammar says. Own work. -/
import Derived.Test.YtancdapnpceogaaGreatS5AC
set_option maxRecDepth 20000
namespace Go.Hx
theorem splX2 (x y : Ex) : spliceA 0 (encC x) (encC y) = some (encC x) := by rw [encC_eq, encC_eq y]; rfl
def copyQ (Q : Post) : Post := fun r1 H => ob (sizedA 7 r1) fun b3 => ob (spliceA 0 b3 [I 0, I 0, I 0, S ⟨#[]⟩, S ⟨#[]⟩, S ⟨#[]⟩, AV.sl 0 true .full []]) fun b4 => ob (partA true 0 7 b4) fun r5 => Q r5 H
theorem copyX (Q : Post) (y : Ex) (H : Heap) : copyQ Q (encX y) H = Q (encX y) H := by simp only [copyQ, szX, splX, partX, ob_some]
def OwnT (T : Nat → Nat → Prop) : Tip → Prop
  | .tip c => ∀ n, ¬ T c n
  | _ => True
def T2 (T : Nat → Nat → Prop) (n : Nat) (t : Tip) : Nat → Nat → Prop := fun c m => T c m ∨ (t = .tip c ∧ m = n)
section
variable {H0 H : Heap} {T : Nat → Nat → Prop} {pb rb : Nat} {r : List Tk} {o e a : Int} {Q : Post}
theorem PS.up {sz n : Nat} {t : Tip} (h : PS H0 T pb rb r o e a H) (ho : OwnS H0 H sz n t) : PS H0 (T2 T (n * sz) t) pb rb r o e a H :=
  ⟨h.ext, h.fp, h.fr, h.ne, h.op, h.rd, fun c m hc => by
    rcases hc with hc | ⟨hc, rfl⟩
    · exact h.tp c m hc
    · subst hc; exact ho.1⟩
theorem PS.down {n : Nat} {t : Tip} (h : PS H0 (T2 T n t) pb rb r o e a H) : PS H0 T pb rb r o e a H := ⟨h.ext, h.fp, h.fr, h.ne, h.op, h.rd, fun c m hc => h.tp c m (.inl hc)⟩
theorem PS.own {H1 : Heap} {sz n : Nat} {t : Tip} (h : PS H0 (T2 T (n * sz) t) pb rb r o e a H) (ho : OwnS H0 H1 sz n t) : OwnS H0 H sz n t := by
  cases t with
  | any => exact ho
  | full => exact ho
  | tip d => exact ⟨h.tp d _ (.inr ⟨rfl, rfl⟩), ho.2⟩
theorem app_ps {ys : List Ex} {y : Ex} {s' : Nat} {n' : Bool} {t' : Tip} {K : Post} (h : PS H0 T pb rb r o e a H) (ho : OwnS H0 H 7 ys.length t') (ht : OwnT T t') (hn : n' = true ∨ s' = 7) (hl : ys.length ≤ 1099511627775)
    (hk : ∀ s2 n2 t2 H2, (n2 = true ∨ s2 = 7) → PS H0 T pb rb r o e a H2 → OwnS H0 H2 7 (ys ++ [y]).length t2 → OwnT T t2 → K (.sl s2 n2 t2 ((ys ++ [y]).map encX)) H2) :
    appA 7 96 (.sl s' n' t' (ys.map encX)) (.sl 7 false .full ([y].map encX)) H K := by
  have hta : tailA 7 (.sl 7 false .full ([y].map encX)) = some [encX y] := by simp [tailA]
  have ps : ∀ b m, H0.fresh b → (∀ n, ¬ T b n) → PS H0 T pb rb r o e a (H.setTip b m) := fun b m hb hT =>
    ⟨h.ext.setTip hb m, h.fp, h.fr, h.ne, h.op, h.rd, fun c n hc => by
      have hne : c ≠ b := fun e => hT n (e ▸ hc)
      simp only [Heap.setTip, if_neg hne]
      exact h.tp c n hc⟩
  unfold appA
  simp only [hta, List.length_map, List.length_singleton]
  refine ⟨hn, by omega, by omega, ?_⟩
  have hnew : ∀ b, H.fresh b → (∀ n, ¬ T b n) := fun b hb n hc => by have := h.tp b n hc; rw [hb.2] at this; cases this
  have fin : ∀ b, H0.fresh b → (∀ n, ¬ T b n) → K (.sl 7 false (.tip b) (ys.map encX ++ [encX y])) (H.setTip b ((ys.length + 1) * 7)) := fun b hb hT => by
    have := hk 7 false (.tip b) _ (.inr rfl) (ps b ((ys.length + 1) * 7) hb hT) ⟨by simp [Heap.setTip], hb⟩ hT
    simpa using this
  cases t' with
  | any => exact ho.elim
  | full => intro b hf; exact fin b (h.ext.fresh hf) (hnew b hf)
  | tip b0 =>
    refine ⟨by simpa using ho.1, fun b hf => ?_⟩
    rcases hf with rfl | hf
    · exact fin b ho.2 ht
    · exact fin b (h.ext.fresh hf) (hnew b hf)
end
def rowF (b : Bool) : Nat := if b = true then 109 else 187
def leftF (b : Bool) : Nat := if b = true then 301 else 306
def bnd : Gl → List Tk → Nat
  | .more _ l, r => 2 * r.length + sizeXs l
  | .lmore _ x, r => 2 * r.length + sizeX x
  | _, r => 2 * r.length + 1
def preG : Gl → List Tk → Prop
  | .more _ l, r => l ≠ [] ∧ sizeXs l + r.length ≤ 2097152
  | _, _ => True
/-- a goal, run -/
def Run (H0 : Heap) (T : Nat → Nat → Prop) (pb : Nat) : Gl → Heap → Post → Prop
  | .row b, H, Q => E (if b = true then 49 else 109) [Pt pb] H Q
  | .more b l, H, Q => ∀ (ys : List Ex) (s' : Nat) (n' : Bool) (t' : Tip), ys.map norm = l → (∀ y ∈ ys, allX shX y) → (n' = true ∨ s' = 7) → OwnS H0 H 7 ys.length t' → OwnT T t' →
      f108_l6 (Pt pb) (I (rowK b)) (S (rowW b)) (.fn (.func (rowF b)) [Pt pb] []) [I 0, I 0, I 0, S ⟨#[]⟩, S ⟨#[]⟩, S ⟨#[]⟩, AV.sl 0 true .full []] (.sl s' n' t' (ys.map encX)) H Q
  | .not, H, Q => E 187 [Pt pb] H Q
  | .cmp, H, Q => E 253 [Pt pb] H Q
  | .left b, H, Q => E (if b = true then 283 else 301) [Pt pb] H Q
  | .lmore b x, H, Q => ∀ y : Ex, norm y = x → allX shX y → f300_l6 (Pt pb) (I (leftLo b)) (I (leftHi b)) (.fn (.func (leftF b)) [Pt pb] []) [I 0, I 0, I 0, S ⟨#[]⟩, S ⟨#[]⟩, S ⟨#[]⟩, AV.sl 0 true .full []] (encC y) H Q
  | .neg, H, Q => E 306 [Pt pb] H Q
  | .last, H, Q => E 309 [Pt pb] H Q
theorem callR {H0 : Heap} {T : Nat → Nat → Prop} {pb : Nat} (b : Bool) {H : Heap} {Q : Post} (h : Run H0 T pb (rowP b) H Q) : callA (Ev Pg Hs) (.fn (.func (rowF b)) [Pt pb] []) [] H Q := by cases b <;> exact h
theorem callL {H0 : Heap} {T : Nat → Nat → Prop} {pb : Nat} (b : Bool) {H : Heap} {Q : Post} (h : Run H0 T pb (leftP b) H Q) : callA (Ev Pg Hs) (.fn (.func (leftF b)) [Pt pb] []) [] H Q := by cases b <;> exact h
theorem rowE {H0 : Heap} {T : Nat → Nat → Prop} {pb : Nat} (b : Bool) {H : Heap} {Q : Post} (h : Run H0 T pb (rowP b) H fun r1 H2 => ob (mkSlA 7 [r1]) fun r3 => f108_l6 (Pt pb) (I (rowK b)) (S (rowW b)) (.fn (.func (rowF b)) [Pt pb] []) [I 0, I 0, I 0, S ⟨#[]⟩, S ⟨#[]⟩, S ⟨#[]⟩, AV.sl 0 true .full []] r3 H2 (copyQ Q)) : Run H0 T pb (.row b) H Q := by
  cases b
  · show E 109 [Pt pb] H Q
    rw [f109_eq, f108_eq]
    exact h
  · show E 49 [Pt pb] H Q
    rw [f49_eq, f108_eq]
    exact h
theorem leftE {H0 : Heap} {T : Nat → Nat → Prop} {pb : Nat} (b : Bool) {H : Heap} {Q : Post} (h : Run H0 T pb (leftP b) H fun r1 H2 => ob (sizedA 7 r1) fun b3 => ob (spliceA 0 b3 [I 0, I 0, I 0, S ⟨#[]⟩, S ⟨#[]⟩, S ⟨#[]⟩, AV.sl 0 true .full []]) fun b4 => f300_l6 (Pt pb) (I (leftLo b)) (I (leftHi b)) (.fn (.func (leftF b)) [Pt pb] []) [I 0, I 0, I 0, S ⟨#[]⟩, S ⟨#[]⟩, S ⟨#[]⟩, AV.sl 0 true .full []] b4 H2 (copyQ Q)) : Run H0 T pb (.left b) H Q := by
  cases b
  · show E 301 [Pt pb] H Q
    rw [f301_eq, f300_eq]
    exact h
  · show E 283 [Pt pb] H Q
    rw [f283_eq, f300_eq]
    exact h
theorem bnd_row (b : Bool) (r : List Tk) : bnd (rowP b) r = 2 * r.length + 1 := by cases b <;> rfl
theorem bnd_left (b : Bool) (r : List Tk) : bnd (leftP b) r = 2 * r.length + 1 := by cases b <;> rfl
theorem pre_row (b : Bool) (r : List Tk) : preG (rowP b) r := by cases b <;> trivial
theorem pre_left (b : Bool) (r : List Tk) : preG (leftP b) r := by cases b <;> trivial
theorem size_row {b : Bool} {o : Nat} {r r1 : List Tk} {x : Ex} (h : P (rowP b) o r (.ok x r1)) : sizeX x + r1.length ≤ r.length := by have := P_size h; cases b <;> exact this
theorem size_left {b : Bool} {o : Nat} {r r1 : List Tk} {x : Ex} (h : P (leftP b) o r (.ok x r1)) : sizeX x + r1.length ≤ r.length := by have := P_size h; cases b <;> exact this
theorem sizeXs_norm (l : List Ex) : sizeXs (l.map norm) = sizeXs l := by
  induction l with
  | nil => rfl
  | cons x l ih => simp only [List.map_cons, sizeXs, norm_size, ih]
section
variable {H0 : Heap} {pb rb : Nat}
theorem PS.rlen {H : Heap} {T : Nat → Nat → Prop} {r : List Tk} {o e a : Int} (h : PS H0 T pb rb r o e a H) : r.length ≤ 1048576 := by
  obtain ⟨L, i, s', n', t', h1, h2, h3⟩ := h.rd
  rw [← h2, List.length_drop]; omega
/-- the parts are joined -/
theorem j10_end {H : Heap} {T : Nat → Nat → Prop} {r : List Tk} {o e a : Int} {Q : Post} (h : PS H0 T pb rb r o e a H) (b : Bool) (fv : AV) (ys : List Ex) (s' : Nat) (n' : Bool) (t' : Tip) (hsh : ∀ y ∈ ys, allX shX y) (hl : sizeXs ys ≤ 1099511627776)
    (hq : ∀ z H', norm z = joinE (rowK b) (ys.map norm) → allX shX z → PS H0 T pb rb r o e a H' → Q (encX z) H') :
    f108_j10 (Pt pb) (I (rowK b)) (S (rowW b)) fv [I 0, I 0, I 0, S ⟨#[]⟩, S ⟨#[]⟩, S ⟨#[]⟩, AV.sl 0 true .full []] (.sl s' n' t' (ys.map encX)) (B false) H Q := by
  rw [f108_j10_eq, cnd_f]
  refine c186 (rowK b) (by cases b; exact .inl rfl; exact .inr rfl) ys s' n' t' hsh hl H _ (fun z H' he hz hzs => ?_)
  simp only [szX, splX, partX, ob_some]
  exact hq z H' hz hzs (h.mono he)
/-- behind a fault: the parts are joined -/
theorem l6_bad {H : Heap} {T : Nat → Nat → Prop} {r : List Tk} {o e a : Int} {Q : Post} (h : PS H0 T pb rb r o e a H) (he : e ≠ 0) (b : Bool) (fv : AV) (ys : List Ex) (s' : Nat) (n' : Bool) (t' : Tip) (hsh : ∀ y ∈ ys, allX shX y) (hl : sizeXs ys ≤ 1099511627776)
    (hq : ∀ z H', norm z = joinE (rowK b) (ys.map norm) → allX shX z → PS H0 T pb rb r o e a H' → Q (encX z) H') :
    f108_l6 (Pt pb) (I (rowK b)) (S (rowW b)) fv [I 0, I 0, I 0, S ⟨#[]⟩, S ⟨#[]⟩, S ⟨#[]⟩, AV.sl 0 true .full []] (.sl s' n' t' (ys.map encX)) H Q := by
  rw [f108_l6_eq, nil_Pt, ob_some, add_Pt, ob_some, h.ld2, ob_some, i_eql, ob_some, decide_eq_false he, cnd_f]
  exact j10_end h b fv ys s' n' t' hsh hl hq
theorem join_size_le {k : Int} {z : Ex} {ys : List Ex} (h : norm z = joinE k (ys.map norm)) (hy : ys ≠ []) : sizeX z ≤ sizeXs ys + if ys.length ≤ 1 then 0 else 1 := by
  have := size_join k (ys.map norm) (by simpa using hy)
  rw [← h, norm_size, sizeXs_norm, List.length_map] at this; exact this
def negQ (Q : Post) : Post := fun r36 H37 => ob (sizedA 7 r36) fun b38 => ob (spliceA 0 b38 [I 0, I 0, I 0, S ⟨#[]⟩, S ⟨#[]⟩, S ⟨#[]⟩, AV.sl 0 true .full []]) fun b39 => ob (partA true 0 7 b39) fun r40 => ob (mkSlA 7 [r40]) fun r41 => ob (bldA [(0, 1, I 3), (6, 1, r41)] [I 0, I 0, I 0, S ⟨#[]⟩, S ⟨#[]⟩, S ⟨#[]⟩, AV.sl 0 true .full []]) fun r42 => ob (sizedA 7 r42) fun b43 => ob (spliceA 0 b43 [I 0, I 0, I 0, S ⟨#[]⟩, S ⟨#[]⟩, S ⟨#[]⟩, AV.sl 0 true .full []]) fun b44 => ob (partA true 0 7 b44) fun r45 => Q r45 H37
theorem negX (Q : Post) (y : Ex) (H : Heap) : negQ Q (encX y) H = Q (encX (.mk 3 nullV e0 e0 7 false .full [y])) H := by
  rw [negQ, szX, ob_some, splX, ob_some, partX, ob_some, mk1X, ob_some, rowb, ob_some, szX, ob_some, splX, ob_some, partX, ob_some]
theorem neg_pre {H : Heap} {T : Nat → Nat → Prop} {t : Tk} {r : List Tk} {o : Nat} {Q : Post} (hps : PS H0 T pb rb (t :: r) o 0 0 H) (hn : nextIs 5 wMinus (t :: r) = true) (hr : r ≠ [])
    (h3 : kindN r = 3 → ∀ H', PS H0 T pb rb r o 0 0 H' → E 311 [Pt pb, strT (if true = true then [45] else [])] H' (copyQ Q)) (h4 : kindN r ≠ 3 → ∀ H', PS H0 T pb rb (t :: r) o 0 0 H' → E 254 [Pt pb, .fn (.func 306) [Pt pb] []] H' (negQ Q)) : E 306 [Pt pb] H Q := by
  have hk := (nextIs_cons hn).1
  have hn : nextIs 5 ⟨#[45]⟩ (t :: r) = true := hn
  rw [f306_eq, c252 hps (by simp), hn, not_B, ob_some, Bool.not_true, cnd_f]
  simp only [nil_Pt, ob_some, add_Pt, hps.ld0]
  obtain ⟨L, i, hri, e⟩ := RS_RI.1 hps.rd
  rw [c310 hri (ne_of_drop e), hps.ld0, ob_some]
  refine c268 hri e (by omega) _ (fun o1 h2 => ?_)
  have e2 := (hri.get e).2.2
  have ps2 := hps.setr (RS_RI.2 ⟨L, i + 1, h2, e2⟩)
  cases r with
  | nil => exact (hr rfl).elim
  | cons u r2 =>
    rw [ps2.ld0, ob_some, c44 h2 e2, fK0, i_eql, ob_some]
    refine cnd_intro (fun h5 => ?_) (fun h5 => ?_)
    · exact h3 (by simpa [kindN] using h5) _ ps2
    · rw [ps2.ld0, ob_some]
      refine c312 h2 (ne_of_drop e) (by omega) _ (fun o2 h6 => ?_)
      exact h4 (by simpa [kindN] using h5) _ (ps2.setr (RS_RI.2 ⟨L, i, h6, e⟩))
theorem last_pre {H : Heap} {T : Nat → Nat → Prop} {r : List Tk} {o : Nat} {Q : Post} (hps : PS H0 T pb rb r o 0 0 H) (hn : nextIs 5 wOpen r = true) (h : E 254 [Pt pb, .fn (.func 318) [Pt pb] []] H (copyQ Q)) : E 309 [Pt pb] H Q := by
  obtain ⟨t, r1, rfl, hk, hs⟩ := nextIs_ne hn
  have hs : t.s = ⟨#[40]⟩ := hs
  have d3 : decide ((5 : Int) = 3) = false := rfl
  have d4 : decide ((5 : Int) = 4) = false := rfl
  have d2 : decide ((5 : Int) = 2) = false := rfl
  have d1 : decide ((5 : Int) = 1) = false := rfl
  have d5 : decide ((5 : Int) = 5) = true := rfl
  rw [f309_eq, nil_Pt, ob_some, add_Pt, ob_some, hps.ld0, ob_some, c44' hps.rd]
  simp only [encK_sz, encK_sp, ob_some, part_f, List.getElem?_cons_zero, List.getElem?_cons_succ]
  simp only [i_eql, hk, d3, d4, d2, d1, d5, cnd_f, cnd_t, s_eql, hs, ob_some]
  simp only [decide_true, cnd_t]
  exact h
/-- a part in parentheses -/
theorem c318 {H : Heap} {T : Nat → Nat → Prop} {r : List Tk} {o : Nat} {Q : Post} (h : E 49 [Pt pb] H fun r1 H2 => ob (sizedA 7 r1) fun b3 => ob (spliceA 0 b3 [I 0, I 0, I 0, S ⟨#[]⟩, S ⟨#[]⟩, S ⟨#[]⟩, AV.sl 0 true .full []]) fun b4 => ob (ldH H2 false 1 (Poff pb 2)) fun r7 => ob (binA Pg .eql 27 true r7 (I 0)) fun r8 => cndA r8 (ob (ldH H2 false 1 (Poff pb 0)) fun r11 => E 228 [r11, S wShut] H2 fun r12 H13 => ob (unA .not r12) fun r14 => f318_j7 (Pt pb) [I 0, I 0, I 0, S ⟨#[]⟩, S ⟨#[]⟩, S ⟨#[]⟩, AV.sl 0 true .full []] b4 r14 H13 Q) (f318_j7 (Pt pb) [I 0, I 0, I 0, S ⟨#[]⟩, S ⟨#[]⟩, S ⟨#[]⟩, AV.sl 0 true .full []] b4 (B false) H2 Q)) : E 318 [Pt pb] H Q := by
  rw [f318_eq]
  simp only [nil_Pt, ob_some, add_Pt]
  exact h
theorem atom_run {H : Heap} {T : Nat → Nat → Prop} {r : List Tk} {o : Nat} {Q : Post} {Bd : Nat} (hps : PS H0 T pb rb r o 0 0 H) (he : endsT r) (hok : ∀ t ∈ r, okTk t) (hn : nextIs 5 wOpen r = false) (hB : 1 ≤ Bd) (hq : Res H0 T pb rb o Bd Q (atomR r)) : E 309 [Pt pb] H Q := by
  cases r with
  | nil => exact he.elim
  | cons t r =>
    have ht := hok t (by simp)
    have hqc : ∀ R, Res H0 T pb rb o Bd Q R → Res H0 T pb rb o Bd (copyQ Q) R := fun R hR => by
      cases R with
      | ok z r2 => intro w H2 hw hws h2; rw [copyX]; exact hR w H2 hw hws h2
      | bad e p => intro w H2 r2 o' hws hsz hr2 h2; rw [copyX]; exact hR w H2 r2 o' hws hsz hr2 h2
    have fail : Res H0 T pb rb o Bd Q (.bad 4 t.p) → f309_j55 (Pt pb) [I 0, I 0, I 0, S ⟨#[]⟩, S ⟨#[]⟩, S ⟨#[]⟩, AV.sl 0 true .full []] H Q := fun hf => by
      rw [f309_j55_eq]
      refine c285 hps (by simp) 4 (fun H' h' => ?_)
      simp only [szX, splX, partX, ob_some]
      exact hf zX H' _ _ zX_sh (by rw [zX_size]; exact hB) (by simp) h'
    simp only [atomR] at hq
    rw [f309_eq, nil_Pt, ob_some, add_Pt, ob_some, hps.ld0, ob_some, c44' hps.rd]
    simp only [encK_sz, encK_sp, ob_some, part_f, List.getElem?_cons_zero, List.getElem?_cons_succ, i_eql]
    refine cnd_intro (fun h3 => ?_) (fun h3 => ?_)
    · have h3 : t.k = 3 := by simpa using h3
      rw [if_pos h3] at hq
      exact c311 false hps h3 ht hB (hqc _ hq)
    have h3 : t.k ≠ 3 := by simpa using h3
    rw [if_neg h3] at hq
    refine cnd_intro (fun h4 => ?_) (fun h4 => ?_)
    · have h4 : t.k = 4 := by simpa using h4
      rw [if_pos h4] at hq
      simp only [nil_Pt, ob_some, add_Pt, hps.ld0]
      refine c268' hps.rd (by omega) _ (fun o1 h1 => ?_)
      rw [c315 _ (ht.2.2 h4), constb, ob_some, szX, ob_some, splX, ob_some, partX, ob_some]
      exact hq _ _ (by rw [norm_mkl]; rfl) (constX_sh _) (hps.setr h1)
    have h4 : t.k ≠ 4 := by simpa using h4
    rw [if_neg h4] at hq
    refine cnd_intro (fun h2 => ?_) (fun h2 => ?_)
    · have h2 : t.k = 2 := by simpa using h2
      rw [if_pos h2] at hq
      simp only [nil_Pt, ob_some, add_Pt, hps.ld0]
      refine c268' hps.rd (by omega) _ (fun o1 h1 => ?_)
      exact c316 t.s (a := 0) (hps.setr h1) (endsT_tail he (by omega)) hB (hqc _ hq)
    have h2 : t.k ≠ 2 := by simpa using h2
    rw [if_neg h2] at hq
    refine cnd_intro (fun h1 => ?_) (fun h1 => ?_)
    · have h1 : t.k = 1 := by simpa using h1
      rw [if_pos h1] at hq
      have v1 : ∀ v : Vl, spliceA 0 [I v.k, I v.n, S v.s] [I 0, I 0, S ⟨#[]⟩] = some [I v.k, I v.n, S v.s] := fun v => rfl
      have v2 : ∀ v : Vl, partA true 0 3 [I v.k, I v.n, S v.s] = some (encV v) := fun v => rfl
      rw [c317]
      cases hw : wordV t.s with
      | none =>
        simp only [hw] at hq
        simp only [x20, x21, ob_some, sz3, v1, cnd_f]
        exact fail hq
      | some v =>
        simp only [hw] at hq
        simp only [x20, x21, ob_some, sz3, v1, cnd_t, nil_Pt, add_Pt, hps.ld0]
        refine c268' hps.rd (by omega) _ (fun o1 h1 => ?_)
        rw [v2, ob_some, constb, ob_some, szX, ob_some, splX, ob_some, partX, ob_some]
        exact hq _ _ (by rw [norm_mkl]; rfl) (constX_sh _) (hps.setr h1)
    have h1 : t.k ≠ 1 := by simpa using h1
    rw [if_neg h1] at hq
    refine cnd_intro (fun h5 => ?_) (fun h5 => ?_)
    · have h5 : t.k = 5 := by simpa using h5
      have hs : t.s ≠ ⟨#[40]⟩ := fun hs => by
        have : nextIs 5 wOpen (t :: r) = true := by simp [nextIs, h5, wOpen, hs]
        rw [hn] at this; cases this
      rw [s_eql, ob_some, decide_eq_false hs, cnd_f]
      exact fail hq
    · exact fail hq
theorem run_all {g : Gl} {o : Nat} {r : List Tk} {R : PR} (h : P g o r R) : ∀ (T : Nat → Nat → Prop) (H : Heap) (Q : Post), endsT r → (∀ t ∈ r, okTk t) → preG g r → PS H0 T pb rb r o 0 0 H → Res H0 T pb rb o (bnd g r) Q R → Run H0 T pb g H Q := by
  have tl : ∀ {k : Int} {s : ByteArray} {t : Tk} {r : List Tk}, k ≠ 6 → nextIs k s (t :: r) = true → endsT (t :: r) → endsT r := fun hk h he => endsT_tail he (by rw [(nextIs_cons h).1]; exact hk)
  have tl5 : ∀ {lo hi k : Int} {t : Tk} {r : List Tk}, opOf lo hi (t :: r) = some k → endsT (t :: r) → endsT r := fun h he => endsT_tail he (by rw [opOf_cons h]; decide)
  have tm : ∀ {t : Tk} {r : List Tk}, (∀ u ∈ t :: r, okTk u) → ∀ u ∈ r, okTk u := fun h u hu => h u (by simp [hu])
  have one : ∀ y : Ex, allX shX y → ∀ z ∈ [y], allX shX z := fun y hy z hz => by simp at hz; subst hz; exact hy
  have one7 : ∀ {k : Int} {y : Ex}, allX shX y → allX shX (.mk k nullV e0 e0 7 false .full [y]) := fun h => (allX_mk _ _ _ _ _ _ _ _).2 ⟨.inr rfl, h, trivial⟩
  have two7 : ∀ {k : Int} {x y : Ex}, allX shX x → allX shX y → allX shX (.mk k nullV e0 e0 7 false .full [x, y]) := fun h1 h2 => (allX_mk _ _ _ _ _ _ _ _).2 ⟨.inr rfl, h1, h2, trivial⟩
  have size1 : ∀ {k : Int} {y : Ex}, sizeX (.mk k nullV e0 e0 7 false .full [y]) = 1 + sizeX y := fun {k y} => by simp [sizeX, sizeXs]
  have size2 : ∀ {k : Int} {x y : Ex}, sizeX (.mk k nullV e0 e0 7 false .full [x, y]) = 1 + (sizeX x + sizeX y) := fun {k x y} => by simp [sizeX, sizeXs]
  induction h with
  | row_bad hp ih =>
    rename_i b o r e p
    intro T H Q he ht _ hps hq
    refine rowE b (ih T H _ he ht (pre_row b r) hps (fun y H' r1 o' hy hsz hr1 h' => ?_))
    have hr := hps.rlen
    rw [bnd_row] at hsz
    rw [mk1X, ob_some]
    refine l6_bad h' (P_ne hp _ _ rfl) b _ [y] 7 false .full (one y hy) (by simp only [sizeXs]; omega) (fun z H2 hz hzs h2 => ?_)
    rw [copyX]
    refine hq z H2 r1 o' hzs ?_ hr1 h2
    have := join_size_le hz (by simp)
    simp only [sizeXs, List.length_singleton, Nat.le_refl, if_true] at this
    show _ ≤ 2 * r.length + 1
    omega
  | row_ok hp hm ih1 ih2 =>
    rename_i b o r x r1 R
    intro T H Q he ht _ hps hq
    have hs : Suf _ _ := P_suf hp he
    have hsx := size_row hp
    have hr := hps.rlen
    refine rowE b (ih1 T H _ he ht (pre_row b r) hps (fun y H' hy hys h' => ?_))
    rw [mk1X, ob_some]
    refine ih2 T H' _ hs.1 (hs.mem ht) ⟨by simp, by simp only [sizeXs]; omega⟩ h' ?_ [y] 7 false .full (by simp [hy]) (one y hys) (.inr rfl) trivial trivial
    cases R with
    | ok z r2 => intro w H2 hw hws h2; rw [copyX]; exact hq w H2 hw hws h2
    | bad e p =>
      intro w H2 r2 o' hws hsz hr2 h2
      rw [copyX]
      refine hq w H2 r2 o' hws ?_ hr2 h2
      simp only [bnd, sizeXs] at hsz ⊢
      omega
  | more_no hn =>
    rename_i b l o r
    intro T H Q he ht hpre hps hq ys s' n' t' hyl hsh hns ho hT
    rw [f108_l6_eq, nil_Pt, ob_some, add_Pt, ob_some, hps.ld2, ob_some, i_eql, ob_some, show decide ((0 : Int) = 0) = true from rfl, cnd_t, ob_some, add_Pt, ob_some, hps.ld0, ob_some]
    refine c130 _ hps.rd (endsT_ne he) _ (fun _ => ?_) (fun t r1 ob1 e hn' h1 => by rw [hn] at hn'; cases hn')
    have hsl : sizeXs ys ≤ 2097152 := by rw [← sizeXs_norm, hyl]; have := hpre.2; omega
    refine j10_end hps b _ ys s' n' t' hsh (by omega) (fun z H' hz hzs h' => ?_)
    exact hq z H' (by rw [hz, hyl]) hzs h'
  | more_bad hn hp ih =>
    rename_i b l o t r e p
    intro T H Q he ht hpre hps hq ys s' n' t' hyl hsh hns ho hT
    rw [f108_l6_eq, nil_Pt, ob_some, add_Pt, ob_some, hps.ld2, ob_some, i_eql, ob_some, show decide ((0 : Int) = 0) = true from rfl, cnd_t, ob_some, add_Pt, ob_some, hps.ld0, ob_some]
    refine c130 _ hps.rd (endsT_ne he) _ (fun hn' => by rw [hn] at hn'; cases hn') (fun t0 r0 ob1 e' _ h1 => ?_)
    cases e'
    have h2 := hps.setr h1
    have hr := hps.rlen
    simp only [List.length_cons] at hr
    have hsl : sizeXs ys + (t :: r).length ≤ 2097152 := by rw [← sizeXs_norm, hyl]; exact hpre.2
    simp only [List.length_cons] at hsl
    have hll := len_sizeXs ys
    have ho2 : OwnS H0 (H.setObj rb ob1) 7 ys.length t' := by cases t' with
      | any => exact ho
      | full => exact ho
      | tip c => exact ho
    rw [f108_j10_eq, cnd_t]
    refine callR (H0 := H0) (T := T2 T (ys.length * 7) t') b (ih (T2 T (ys.length * 7) t') _ _ (tl (by decide) hn he) (tm ht) (pre_row b r) (h2.up ho2) (fun y H' r1 o' hy hsz hr1 h' => ?_))
    rw [bnd_row] at hsz
    rw [mk1X, ob_some]
    refine app_ps h'.down (h'.own ho2) hT hns (by omega) (fun s2 n2 t2 H3 hn2 h3 ho3 hT3 => ?_)
    refine l6_bad h3 (P_ne hp _ _ rfl) b _ (ys ++ [y]) s2 n2 t2 (fun z hz => by simp only [List.mem_append, List.mem_singleton] at hz; rcases hz with hz | hz; exact hsh z hz; subst hz; exact hy) (by rw [sizeXs_append]; simp only [sizeXs]; omega) (fun z H4 hz hzs h4 => ?_)
    refine hq z H4 r1 o' hzs ?_ hr1 h4
    have := join_size_le hz (by simp)
    rw [sizeXs_append] at this
    simp only [sizeXs] at this
    have hif : (if (ys ++ [y]).length ≤ 1 then 0 else 1) ≤ 1 := by split <;> omega
    have : sizeXs l = sizeXs ys := by rw [← hyl, sizeXs_norm]
    simp only [bnd, List.length_cons]
    omega
  | more_ok hn hp hm ih1 ih2 =>
    rename_i b l o t r x r1 R
    intro T H Q he ht hpre hps hq ys s' n' t' hyl hsh hns ho hT
    rw [f108_l6_eq, nil_Pt, ob_some, add_Pt, ob_some, hps.ld2, ob_some, i_eql, ob_some, show decide ((0 : Int) = 0) = true from rfl, cnd_t, ob_some, add_Pt, ob_some, hps.ld0, ob_some]
    refine c130 _ hps.rd (endsT_ne he) _ (fun hn' => by rw [hn] at hn'; cases hn') (fun t0 r0 ob1 e' _ h1 => ?_)
    cases e'
    have h2 := hps.setr h1
    have he' := tl (by decide) hn he
    have hs : Suf _ _ := P_suf hp he'
    have hsx := size_row hp
    have hr := hps.rlen
    simp only [List.length_cons] at hr
    have hsl : sizeXs ys + (t :: r).length ≤ 2097152 := by rw [← sizeXs_norm, hyl]; exact hpre.2
    simp only [List.length_cons] at hsl
    have hll := len_sizeXs ys
    have ho2 : OwnS H0 (H.setObj rb ob1) 7 ys.length t' := by cases t' with
      | any => exact ho
      | full => exact ho
      | tip c => exact ho
    have hsle : sizeXs l = sizeXs ys := by rw [← hyl, sizeXs_norm]
    rw [f108_j10_eq, cnd_t]
    refine callR (H0 := H0) (T := T2 T (ys.length * 7) t') b (ih1 (T2 T (ys.length * 7) t') _ _ he' (tm ht) (pre_row b r) (h2.up ho2) (fun y H' hy hys h' => ?_))
    rw [mk1X, ob_some]
    refine app_ps h'.down (h'.own ho2) hT hns (by omega) (fun s2 n2 t2 H3 hn2 h3 ho3 hT3 => ?_)
    refine ih2 T H3 _ hs.1 (hs.mem (tm ht)) ⟨by simp, by rw [sizeXs_append, hsle]; simp only [sizeXs]; omega⟩ h3 ?_ (ys ++ [y]) s2 n2 t2 (by rw [List.map_append, hyl]; simp [hy]) (fun z hz => by simp only [List.mem_append, List.mem_singleton] at hz; rcases hz with hz | hz; exact hsh z hz; subst hz; exact hys) hn2 ho3 hT3
    cases R with
    | ok z r2 => exact hq
    | bad e p =>
      intro w H2 r2 o' hws hsz hr2 h2
      refine hq w H2 r2 o' hws ?_ hr2 h2
      simp only [bnd] at hsz ⊢
      rw [sizeXs_append] at hsz
      simp only [sizeXs, List.length_cons] at hsz ⊢
      omega
  | not_no hn hp ih =>
    rename_i o r R
    intro T H Q he ht _ hps hq
    show E 187 [Pt pb] H Q
    have hn : nextIs 1 ⟨#[78, 79, 84]⟩ r = false := hn
    rw [f187_eq, c252 hps (endsT_ne he), hn, not_B, ob_some, Bool.not_false, cnd_t]
    refine ih T H (copyQ Q) he ht trivial hps ?_
    cases R with
    | ok z r2 => intro w H2 hw hws h2; rw [copyX]; exact hq w H2 hw hws h2
    | bad e p => intro w H2 r2 o' hws hsz hr2 h2; rw [copyX]; exact hq w H2 r2 o' hws hsz hr2 h2
  | not_long hn ho =>
    rename_i o r
    intro T H Q he ht _ hps hq
    show E 187 [Pt pb] H Q
    obtain ⟨t, r1, rfl, hk, _⟩ := nextIs_ne hn
    have hn : nextIs 1 ⟨#[78, 79, 84]⟩ (t :: r1) = true := hn
    rw [f187_eq, c252 hps (by simp), hn, not_B, ob_some, Bool.not_true, cnd_f]
    refine c254 hps (by omega) (fun _ H' h' => ?_) (fun ho' => by omega)
    rw [mk1X, ob_some, rowb, ob_some, szX, ob_some, splX, ob_some, partX, ob_some]
    exact hq _ H' _ _ (one7 zX_sh) (by rw [size1, zX_size]; simp only [bnd, List.length_cons]; omega) (by simp) h'
  | not_bad hn ho hp ih =>
    rename_i o t r e p
    intro T H Q he ht _ hps hq
    show E 187 [Pt pb] H Q
    have hk := (nextIs_cons hn).1
    have he' := tl (by decide) hn he
    have hn : nextIs 1 ⟨#[78, 79, 84]⟩ (t :: r) = true := hn
    rw [f187_eq, c252 hps (by simp), hn, not_B, ob_some, Bool.not_true, cnd_f]
    refine c254 hps (by omega) (fun h' => by omega) (fun _ H' h' K hK => ?_)
    refine ih T H' K he' (tm ht) trivial h' (fun y H2 r1 o' hy hsz hr1 h2 => ?_)
    refine hK y H2 r1 o' e p h2 (fun H3 h3 => ?_)
    rw [mk1X, ob_some, rowb, ob_some, szX, ob_some, splX, ob_some, partX, ob_some]
    exact hq _ H3 _ _ (one7 hy) (by rw [size1]; simp only [bnd, List.length_cons] at hsz ⊢; omega) hr1 h3
  | not_ok hn ho hp ih =>
    rename_i o t r x r1
    intro T H Q he ht _ hps hq
    show E 187 [Pt pb] H Q
    have hk := (nextIs_cons hn).1
    have he' := tl (by decide) hn he
    have hn : nextIs 1 ⟨#[78, 79, 84]⟩ (t :: r) = true := hn
    rw [f187_eq, c252 hps (by simp), hn, not_B, ob_some, Bool.not_true, cnd_f]
    refine c254 hps (by omega) (fun h' => by omega) (fun _ H' h' K hK => ?_)
    refine ih T H' K he' (tm ht) trivial h' (fun y H2 hy hys h2 => ?_)
    refine hK y H2 r1 _ 0 0 h2 (fun H3 h3 => ?_)
    have hw : W64 (((o + 1 : Nat) : Int) - 1) = (o : Int) := by rw [w64_id (by omega) (by omega)]; omega
    rw [hw] at h3
    rw [mk1X, ob_some, rowb, ob_some, szX, ob_some, splX, ob_some, partX, ob_some]
    exact hq _ H3 (by rw [norm_mkl]; simp [hy]) (one7 hys) h3
  | cmp_bad hp ih =>
    rename_i o r e p
    intro T H Q he ht _ hps hq
    show E 253 [Pt pb] H Q
    rw [f253_eq]
    refine ih T H _ he ht trivial hps (fun y H2 r1 o' hy hsz hr1 h2 => ?_)
    rw [szX, ob_some, splX, ob_some, nil_Pt, ob_some, add_Pt, ob_some, h2.ld2, ob_some, enc_err e (P_ne hp _ _ rfl), ob_some, cnd_t, partX, ob_some, szX, ob_some, splX, ob_some, partX, ob_some]
    exact hq y H2 r1 o' hy hsz hr1 h2
  | cmp_no hp hop ih =>
    rename_i o r x r1
    intro T H Q he ht _ hps hq
    show E 253 [Pt pb] H Q
    have hs : Suf _ _ := P_suf hp he
    rw [f253_eq]
    refine ih T H _ he ht trivial hps (fun y H2 hy hys h2 => ?_)
    rw [szX, ob_some, splX, ob_some, nil_Pt, ob_some, add_Pt, ob_some, h2.ld2, ob_some, enc_ok, ob_some, cnd_f]
    refine c284 h2 (endsT_ne hs.1) (fun _ H3 h3 => ?_) (fun t r2 k H3 e hk => by rw [hop] at hk; cases hk)
    rw [x20, ob_some, x21, ob_some, cnd_f, partX, ob_some, szX, ob_some, splX, ob_some, partX, ob_some]
    exact hq y H3 hy hys h3
  | cmp_bad2 hp hop hp2 ih1 ih2 =>
    rename_i o r x t r1 k e p
    intro T H Q he ht _ hps hq
    show E 253 [Pt pb] H Q
    have hs : Suf _ _ := P_suf hp he
    have hsx : _ ≤ _ := P_size hp
    rw [f253_eq]
    refine ih1 T H _ he ht trivial hps (fun y H2 hy hys h2 => ?_)
    rw [szX, ob_some, splX, ob_some, nil_Pt, ob_some, add_Pt, ob_some, h2.ld2, ob_some, enc_ok, ob_some, cnd_f]
    refine c284 h2 (endsT_ne hs.1) (fun hk => by rw [hop] at hk; cases hk) (fun t' r2 k' H3 e' hk h3 => ?_)
    cases e'
    rw [hop] at hk; cases hk
    rw [x20, ob_some, x21, ob_some, cnd_t, partX, ob_some]
    refine ih2 T H3 _ (tl5 hop hs.1) (tm (hs.mem ht)) trivial h3 (fun z H4 r3 o' hz hsz hr3 h4 => ?_)
    rw [mk2X, ob_some, rowb, ob_some, szX, ob_some, splX, ob_some, partX, ob_some]
    refine hq _ H4 r3 o' (two7 hys hz) ?_ hr3 h4
    rw [size2]
    have : sizeX y = sizeX x := by rw [← hy, norm_size]
    simp only [bnd, List.length_cons] at hsz hsx ⊢
    omega
  | cmp_ok hp hop hp2 ih1 ih2 =>
    rename_i o r x t r1 k z r2
    intro T H Q he ht _ hps hq
    show E 253 [Pt pb] H Q
    have hs : Suf _ _ := P_suf hp he
    rw [f253_eq]
    refine ih1 T H _ he ht trivial hps (fun y H2 hy hys h2 => ?_)
    rw [szX, ob_some, splX, ob_some, nil_Pt, ob_some, add_Pt, ob_some, h2.ld2, ob_some, enc_ok, ob_some, cnd_f]
    refine c284 h2 (endsT_ne hs.1) (fun hk => by rw [hop] at hk; cases hk) (fun t' r2 k' H3 e' hk h3 => ?_)
    cases e'
    rw [hop] at hk; cases hk
    rw [x20, ob_some, x21, ob_some, cnd_t, partX, ob_some]
    refine ih2 T H3 _ (tl5 hop hs.1) (tm (hs.mem ht)) trivial h3 (fun w H4 hw hws h4 => ?_)
    rw [mk2X, ob_some, rowb, ob_some, szX, ob_some, splX, ob_some, partX, ob_some]
    exact hq _ H4 (by rw [norm_mkl]; simp [hy, hw]) (two7 hys hws) h4
  | left_bad hp ih =>
    rename_i b o r e p
    intro T H Q he ht _ hps hq
    refine leftE b (ih T H _ he ht (pre_left b r) hps (fun y H' r1 o' hy hsz hr1 h' => ?_))
    rw [bnd_left] at hsz
    rw [szX, ob_some, splX, ob_some, f300_l6_eq, nil_Pt, ob_some, add_Pt, ob_some, h'.ld2, ob_some, i_eql, ob_some, decide_eq_false (P_ne hp _ _ rfl), cnd_f, partX, ob_some, szX, ob_some, splX, ob_some, partX, ob_some, copyX]
    exact hq y H' r1 o' hy hsz hr1 h'
  | left_ok hp hm ih1 ih2 =>
    rename_i b o r x r1 R
    intro T H Q he ht _ hps hq
    have hs : Suf _ _ := P_suf hp he
    have hsx := size_left hp
    refine leftE b (ih1 T H _ he ht (pre_left b r) hps (fun y H' hy hys h' => ?_))
    rw [szX, ob_some, splX, ob_some]
    refine ih2 T H' _ hs.1 (hs.mem ht) trivial h' ?_ y hy hys
    cases R with
    | ok z r2 => intro w H2 hw hws h2; rw [copyX]; exact hq w H2 hw hws h2
    | bad e p =>
      intro w H2 r2 o' hws hsz hr2 h2
      rw [copyX]
      refine hq w H2 r2 o' hws ?_ hr2 h2
      simp only [bnd] at hsz ⊢
      omega
  | lmore_no hop =>
    rename_i b x o r
    intro T H Q he ht _ hps hq y hy hys
    rw [f300_l6_eq, nil_Pt, ob_some, add_Pt, ob_some, hps.ld2, ob_some, i_eql, ob_some, show decide ((0 : Int) = 0) = true from rfl, cnd_t]
    refine c284 hps (endsT_ne he) (fun _ H3 h3 => ?_) (fun t r2 k H3 e hk => by rw [hop] at hk; cases hk)
    rw [x20, ob_some, x21, ob_some, not_B, ob_some, Bool.not_false, cnd_t, partX, ob_some, szX, ob_some, splX, ob_some, partX, ob_some]
    exact hq y H3 hy hys h3
  | lmore_bad hop hp ih =>
    rename_i b x o t r k e p
    intro T H Q he ht _ hps hq y hy hys
    rw [f300_l6_eq, nil_Pt, ob_some, add_Pt, ob_some, hps.ld2, ob_some, i_eql, ob_some, show decide ((0 : Int) = 0) = true from rfl, cnd_t]
    refine c284 hps (by simp) (fun hk => by rw [hop] at hk; cases hk) (fun t' r2 k' H3 e' hk h3 => ?_)
    cases e'
    rw [hop] at hk; cases hk
    rw [x20, ob_some, x21, ob_some, not_B, ob_some, Bool.not_true, cnd_f, partX, ob_some]
    refine callL (H0 := H0) (T := T) b (ih T H3 _ (tl5 hop he) (tm ht) (pre_left b r) h3 (fun z H4 r3 o' hz hsz hr3 h4 => ?_))
    rw [bnd_left] at hsz
    rw [mk2X, ob_some, rowb, ob_some, szX, ob_some, splX2, ob_some, f300_l6_eq, nil_Pt, ob_some, add_Pt, ob_some, h4.ld2, ob_some, i_eql, ob_some, decide_eq_false (P_ne hp _ _ rfl), cnd_f, partX, ob_some, szX, ob_some, splX, ob_some, partX, ob_some]
    refine hq _ H4 r3 o' (two7 hys hz) ?_ hr3 h4
    rw [size2]
    have : sizeX y = sizeX x := by rw [← hy, norm_size]
    simp only [bnd, List.length_cons]
    omega
  | lmore_ok hop hp hm ih1 ih2 =>
    rename_i b x o t r k z r1 R
    intro T H Q he ht _ hps hq y hy hys
    have he' := tl5 hop he
    have hs : Suf _ _ := P_suf hp he'
    have hsx := size_left hp
    rw [f300_l6_eq, nil_Pt, ob_some, add_Pt, ob_some, hps.ld2, ob_some, i_eql, ob_some, show decide ((0 : Int) = 0) = true from rfl, cnd_t]
    refine c284 hps (by simp) (fun hk => by rw [hop] at hk; cases hk) (fun t' r2 k' H3 e' hk h3 => ?_)
    cases e'
    rw [hop] at hk; cases hk
    rw [x20, ob_some, x21, ob_some, not_B, ob_some, Bool.not_true, cnd_f, partX, ob_some]
    refine callL (H0 := H0) (T := T) b (ih1 T H3 _ he' (tm ht) (pre_left b r) h3 (fun w H4 hw hws h4 => ?_))
    rw [mk2X, ob_some, rowb, ob_some, szX, ob_some, splX2, ob_some]
    refine ih2 T H4 _ hs.1 (hs.mem (tm ht)) trivial h4 ?_ _ (by rw [norm_mkl]; simp [hy, hw]) (two7 hys hws)
    cases R with
    | ok z r2 => exact hq
    | bad e p =>
      intro v H5 r2 o' hvs hsz hr2 h5
      refine hq v H5 r2 o' hvs ?_ hr2 h5
      simp only [bnd] at hsz ⊢
      rw [sizeX_nd] at hsz
      simp only [sizeXs, List.length_cons] at hsz ⊢
      omega
  | neg_no hn hp ih =>
    rename_i o r R
    intro T H Q he ht _ hps hq
    show E 306 [Pt pb] H Q
    have hn : nextIs 5 ⟨#[45]⟩ r = false := hn
    rw [f306_eq, c252 hps (endsT_ne he), hn, not_B, ob_some, Bool.not_false, cnd_t]
    refine ih T H (copyQ Q) he ht trivial hps ?_
    cases R with
    | ok z r2 => intro w H2 hw hws h2; rw [copyX]; exact hq w H2 hw hws h2
    | bad e p => intro w H2 r2 o' hws hsz hr2 h2; rw [copyX]; exact hq w H2 r2 o' hws hsz hr2 h2
  | neg_num hn hk3 =>
    rename_i o t r
    intro T H Q he ht _ hps hq
    show E 306 [Pt pb] H Q
    have he' := tl (by decide) hn he
    refine neg_pre hps hn (endsT_ne he') (fun _ H' h' => ?_) (fun hk' => (hk' hk3).elim)
    cases r with
    | nil => exact he'.elim
    | cons u r2 =>
      refine c311 true (Bd := bnd .neg (t :: u :: r2)) h' hk3 (ht u (by simp)) (by simp only [bnd]; omega) ?_
      revert hq
      cases numR true (u :: r2) with
      | ok z r2 => intro hq w H2 hw hws h2; rw [copyX]; exact hq w H2 hw hws h2
      | bad e p => intro hq w H2 r2 o' hws hsz hr2 h2; rw [copyX]; exact hq w H2 r2 o' hws hsz hr2 h2
  | neg_long hn hk3 ho =>
    rename_i o t r
    intro T H Q he ht _ hps hq
    show E 306 [Pt pb] H Q
    have he' := tl (by decide) hn he
    have hk := (nextIs_cons hn).1
    refine neg_pre hps hn (endsT_ne he') (fun hk' => (hk3 hk').elim) (fun _ H' h' => ?_)
    refine c254 h' (by omega) (fun _ H2 h2 => ?_) (fun ho' => by omega)
    rw [negX]
    exact hq _ H2 _ _ (one7 zX_sh) (by rw [size1, zX_size]; simp only [bnd, List.length_cons]; omega) (by simp) h2
  | neg_bad hn hk3 ho hp ih =>
    rename_i o t r e p
    intro T H Q he ht _ hps hq
    show E 306 [Pt pb] H Q
    have he' := tl (by decide) hn he
    have hk := (nextIs_cons hn).1
    refine neg_pre hps hn (endsT_ne he') (fun hk' => (hk3 hk').elim) (fun _ H' h' => ?_)
    refine c254 h' (by omega) (fun h' => by omega) (fun _ H2 h2 K hK => ?_)
    refine ih T H2 K he' (tm ht) trivial h2 (fun y H3 r1 o' hy hsz hr1 h3 => ?_)
    refine hK y H3 r1 o' e p h3 (fun H4 h4 => ?_)
    rw [negX]
    exact hq _ H4 _ _ (one7 hy) (by rw [size1]; simp only [bnd, List.length_cons] at hsz ⊢; omega) hr1 h4
  | neg_ok hn hk3 ho hp ih =>
    rename_i o t r x r1
    intro T H Q he ht _ hps hq
    show E 306 [Pt pb] H Q
    have he' := tl (by decide) hn he
    have hk := (nextIs_cons hn).1
    refine neg_pre hps hn (endsT_ne he') (fun hk' => (hk3 hk').elim) (fun _ H' h' => ?_)
    refine c254 h' (by omega) (fun h' => by omega) (fun _ H2 h2 K hK => ?_)
    refine ih T H2 K he' (tm ht) trivial h2 (fun y H3 hy hys h3 => ?_)
    refine hK y H3 r1 _ 0 0 h3 (fun H4 h4 => ?_)
    have hw : W64 (((o + 1 : Nat) : Int) - 1) = (o : Int) := by rw [w64_id (by omega) (by omega)]; omega
    rw [hw] at h4
    rw [negX]
    exact hq _ H4 (by rw [norm_mkl]; simp [hy]) (one7 hys) h4
  | last_atom hn =>
    rename_i o r
    intro T H Q he ht _ hps hq
    exact atom_run hps he ht hn (by simp only [bnd]; omega) hq
  | last_long hn ho =>
    rename_i o r
    intro T H Q he ht _ hps hq
    show E 309 [Pt pb] H Q
    refine last_pre hps hn ?_
    obtain ⟨t, r1, rfl, hk, _⟩ := nextIs_ne hn
    refine c254 hps (by omega) (fun _ H2 h2 => ?_) (fun ho' => by omega)
    rw [copyX]
    exact hq zX H2 _ _ zX_sh (by rw [zX_size]; simp only [bnd]; omega) (by simp) h2
  | last_bad hn ho hp ih =>
    rename_i o t r e p
    intro T H Q he ht _ hps hq
    show E 309 [Pt pb] H Q
    have he' := tl (by decide) hn he
    have hk := (nextIs_cons hn).1
    refine last_pre hps hn ?_
    refine c254 hps (by omega) (fun h' => by omega) (fun _ H2 h2 K hK => ?_)
    show E 318 [Pt pb] H2 K
    refine c318 (T := T) (r := r) (o := o) (ih T H2 _ he' (tm ht) trivial h2 (fun y H3 r1 o' hy hsz hr1 h3 => ?_))
    rw [szX, ob_some, splX, ob_some, h3.ld2, ob_some, i_eql, ob_some, decide_eq_false (P_ne hp _ _ rfl), cnd_f, f318_j7_eq, cnd_f, partX, ob_some, szX, ob_some, splX, ob_some, partX, ob_some]
    refine hK y H3 r1 o' e p h3 (fun H4 h4 => ?_)
    rw [copyX]
    exact hq _ H4 _ _ hy (by simp only [bnd, List.length_cons] at hsz ⊢; omega) hr1 h4
  | last_open hn ho hp hs ih =>
    rename_i o t r x r1
    intro T H Q he ht _ hps hq
    show E 309 [Pt pb] H Q
    have he' := tl (by decide) hn he
    have hk := (nextIs_cons hn).1
    have hsf : Suf _ _ := P_suf hp he'
    refine last_pre hps hn ?_
    refine c254 hps (by omega) (fun h' => by omega) (fun _ H2 h2 K hK => ?_)
    show E 318 [Pt pb] H2 K
    refine c318 (T := T) (r := r) (o := o) (ih T H2 _ he' (tm ht) trivial h2 (fun y H3 hy hys h3 => ?_))
    rw [szX, ob_some, splX, ob_some, h3.ld2, ob_some, i_eql, ob_some, show decide ((0 : Int) = 0) = true from rfl, cnd_t, h3.ld0, ob_some]
    refine c228 _ h3.rd (endsT_ne hsf.1) _ (fun _ => ?_) (fun u r2 o1 e' hs' _ => by rw [hs] at hs'; cases hs')
    rw [not_B, ob_some, Bool.not_false, f318_j7_eq, cnd_t]
    refine c285 h3 (endsT_ne hsf.1) 4 (fun H4 h4 => ?_)
    rw [szX, ob_some, splX, ob_some, partX, ob_some]
    refine hK zX H4 r1 _ 4 _ h4 (fun H5 h5 => ?_)
    rw [copyX]
    exact hq zX H5 _ _ zX_sh (by rw [zX_size]; simp only [bnd]; omega) (endsT_ne hsf.1) h5
  | last_ok hn ho hp hs ih =>
    rename_i o t r x u r1
    intro T H Q he ht _ hps hq
    show E 309 [Pt pb] H Q
    have he' := tl (by decide) hn he
    have hk := (nextIs_cons hn).1
    refine last_pre hps hn ?_
    refine c254 hps (by omega) (fun h' => by omega) (fun _ H2 h2 K hK => ?_)
    show E 318 [Pt pb] H2 K
    refine c318 (T := T) (r := r) (o := o) (ih T H2 _ he' (tm ht) trivial h2 (fun y H3 hy hys h3 => ?_))
    rw [szX, ob_some, splX, ob_some, h3.ld2, ob_some, i_eql, ob_some, show decide ((0 : Int) = 0) = true from rfl, cnd_t, h3.ld0, ob_some]
    refine c228 _ h3.rd (by simp) _ (fun hs' => by rw [hs] at hs'; cases hs') (fun u' r2 o1 e' _ hr2 => ?_)
    cases e'
    rw [not_B, ob_some, Bool.not_true, f318_j7_eq, cnd_f, partX, ob_some, szX, ob_some, splX, ob_some, partX, ob_some]
    have h4 := h3.setr hr2
    refine hK y _ r1 _ 0 0 h4 (fun H5 h5 => ?_)
    have hw : W64 (((o + 1 : Nat) : Int) - 1) = (o : Int) := by rw [w64_id (by omega) (by omega)]; omega
    rw [hw] at h5
    rw [copyX]
    exact hq y H5 hy hys h5
end
end Go.Hx
