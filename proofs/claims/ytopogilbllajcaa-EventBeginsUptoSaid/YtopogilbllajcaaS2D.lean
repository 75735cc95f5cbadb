/- RunAdds over the abstract machine. Own work (session 2). -/
import Derived.Test.YtopogilbllajcaaS2C
set_option maxRecDepth 20000
namespace Go.Hx
def nodeC (x : Pa) : List AV := encPC x ++ [I 1]
theorem nodeC_eq (x : Pa) : nodeC x = [I x.k, S x.var, S x.ty, I x.lo, I x.hi, encPs x.sz x.nil x.tip x.l, I 1] := by rw [nodeC, encPC_eq]; rfl
theorem c54one {y : AV} (x : Pa) (hl : x.l = []) (b2 b4 : Nat) (H : Heap) (Q : Post) (G : Heap → Prop) (h2 : H.objs b2 = some (.cells [y]))
    (hcall : ∀ K, (∀ H2, G H2 → K (B true) H2) → callA (Ev Pg Hs) y [.agg (nodeC x)] H K) (hq : ∀ H2, G H2 → Q (B true) H2) : E 54 [.agg (nodeC x), Pt b2, Pt b4] H Q := by
  have s7 : sizedA 7 (.agg (nodeC x)) = some (nodeC x) := by rw [nodeC_eq]; rfl
  have p7 : partA true 0 7 (nodeC x) = some (.agg (nodeC x)) := by rw [nodeC_eq]; rfl
  have p5 : (nodeC x)[5]? = some (encPs x.sz x.nil x.tip []) := by rw [nodeC_eq, hl]; rfl
  rw [f54_eq, s7, ob_some, ld_Pt h2, p7]
  simp only [part_f, List.getElem?_cons_zero, ob_some]
  refine hcall _ (fun H2 hg => ?_)
  rw [not_B, ob_some, Bool.not_true, cnd_f, p5, ob_some, lenP, ob_some, f54_l14_eq]
  have : binA Pg .lss 3 false (I 0) (I (([] : List Pa).length : Int)) = some (B false) := rfl
  rw [this, ob_some, cnd_f]
  exact hq H2 hg
theorem c53one {y : AV} (hy : sizedA 1 y = some [y]) (x : Pa) (hl : x.l = []) (b1 : Nat) (H : Heap) (Q : Post) (G : Heap → Prop) (h1 : H.objs b1 = some (.cells (encPC x)))
    (hcall : ∀ H1 K, HExt H H1 → (∀ H2, G H2 → K (B true) H2) → callA (Ev Pg Hs) y [.agg (nodeC x)] H1 K) (hq : ∀ H2, G H2 → Q (.tup []) H2) : E 53 [y, Pt b1] H Q := by
  rw [f53_eq, hy, ob_some]
  intro b2 f2
  simp only [Pt_def]
  have e1 : HExt H (H.setObj b2 (.cells [y])) := (HExt.refl H).setObj f2 _
  have o2 := setObj_same H b2 (.cells [y])
  generalize H.setObj b2 (.cells [y]) = H1 at e1 o2 ⊢
  intro b4 f4
  simp only [Pt_def]
  have o4 := setObj_same H1 b4 (.cells [.raw .nilFunc])
  have e2 : HExt H1 (H1.setObj b4 (.cells [.raw .nilFunc])) := (HExt.refl H1).setObj f4 _
  rw [st_Pt o4 (sz1_fn _ _ _), ob_some]
  have e3 : HExt H1 ((H1.setObj b4 (.cells [.raw .nilFunc])).setObj b4 (.cells [.fn (.func 54) [] [Pt b2, Pt b4]])) := e2.setObj f4 _
  have o4 := setObj_same (H1.setObj b4 (.cells [.raw .nilFunc])) b4 (.cells [.fn (.func 54) [] [Pt b2, Pt b4]])
  generalize (H1.setObj b4 (.cells [.raw .nilFunc])).setObj b4 (.cells [.fn (.func 54) [] [Pt b2, Pt b4]]) = H2 at e3 o4 ⊢
  have hb : bldA [(0, 6, encP x), (6, 1, I 1)] [I 0, S e0, S e0, I 0, I 0, .sl 0 true .full [], I 0] = some (.agg (nodeC x)) := by rw [nodeC_eq, encP, encPC_eq]; rfl
  rw [ld_Pt o4, ld_Pt (e3.obj (e1.obj h1)), partP]
  simp only [part_f, List.getElem?_cons_zero, ob_some, hb]
  show E 54 [.agg (nodeC x), Pt b2, Pt b4] H2 _
  exact c54one x hl b2 b4 H2 _ G (e3.obj o2) (fun K hk => hcall H2 K (e1.trans e3) hk) hq
theorem c50 (x : Pa) (H : Heap) (Q : Post) (hq : ∀ b, H.fresh b → Q (.fn (.func 53) [] [Pt b]) (H.setObj b (.cells (encPC x)))) : E 50 [encP x] H Q := by
  rw [f50_eq, szP, ob_some]
  intro b hb
  exact hq b hb
theorem c40one (x : Pa) (hl : x.l = []) (H : Heap) (Q : Post) (hq : ∀ H', HExt H H' → Q (I 1) H') : E 40 [encP x] H Q := by
  rw [f40_eq, szP, ob_some]
  intro bn hn
  simp only [Pt_def]
  have e1 : HExt H (H.setObj bn (.cells [I 0])) := (HExt.refl H).setObj hn _
  have o1 := setObj_same H bn (.cells [I 0])
  rw [st_Pt o1 (sz1_I _), ob_some, partP, ob_some]
  have e2 : HExt H ((H.setObj bn (.cells [I 0])).setObj bn (.cells [I 0])) := e1.setObj hn _
  have o1 := setObj_same (H.setObj bn (.cells [I 0])) bn (.cells [I 0])
  generalize (H.setObj bn (.cells [I 0])).setObj bn (.cells [I 0]) = H4 at e2 o1 ⊢
  refine c50 x H4 _ (fun b1 hb => ?_)
  have e5 : HExt H4 (H4.setObj b1 (.cells (encPC x))) := (HExt.refl H4).setObj hb _
  have ox := setObj_same H4 b1 (.cells (encPC x))
  generalize H4.setObj b1 (.cells (encPC x)) = H5 at e5 ox ⊢
  have o1 := e5.obj o1
  refine ⟨trivial, ?_⟩
  intro l hl'
  have n2 := fresh_ne o1 hl'
  have e6 : HExt H5 (H5.setObj l (.loop (f40_L8 (Pt bn)) .ready)) := (HExt.refl H5).setObj hl' _
  have o3 := setObj_same H5 l (.loop (f40_L8 (Pt bn)) .ready)
  generalize H5.setObj l (.loop (f40_L8 (Pt bn)) .ready) = H6 at e6 o3 ⊢
  have hlf : H.fresh l := (e2.trans e5).fresh hl'
  have o1 := e6.obj o1
  show E 53 [.fn (.yield l) [] [], Pt b1] H6 _
  refine c53one rfl x hl b1 H6 _ (fun H2 => H2.objs bn = some (.cells [I 1]) ∧ H2.objs l = some (.loop (f40_L8 (Pt bn)) .ready) ∧ HExt H H2) (e6.obj ox) (fun H7 K e7 hk => ?_) (fun H2 hg => ?_)
  · have o3 := e7.obj o3
    have o1 := e7.obj o1
    show Ev Pg Hs (.yield l) [.agg (nodeC x)] H7 K
    rw [Ev_yield o3, f40_y8_eq]
    unfold beginA
    rw [o3]
    simp only
    have t1 : (H7.setObj l (.loop (f40_L8 (Pt bn)) .busy)).objs bn = some (.cells [I 0]) := (setObj_ne H7 _ n2).trans o1
    have t3 := setObj_same H7 l (.loop (f40_L8 (Pt bn)) .busy)
    have te : HExt H (H7.setObj l (.loop (f40_L8 (Pt bn)) .busy)) := ((e2.trans e5).trans (e6.trans e7)).setObj hlf _
    generalize H7.setObj l (.loop (f40_L8 (Pt bn)) .busy) = H8 at t1 t3 te ⊢
    rw [ld_Pt t1]
    simp only [part_f, List.getElem?_cons_zero, ob_some, i_add]
    rw [st_Pt t1 (sz1_I _), ob_some]
    unfold endA
    have u1 := setObj_same H8 bn (.cells [I (W64 (0 + 1))])
    have u3 : (H8.setObj bn (.cells [I (W64 (0 + 1))])).objs l = some (.loop (f40_L8 (Pt bn)) .busy) := (setObj_ne H8 _ (Ne.symm n2)).trans t3
    rw [u3]
    simp only
    exact hk _ ⟨(setObj_ne _ _ n2).trans u1, setObj_same _ _ _, (te.setObj hn _).setObj hlf _⟩
  · obtain ⟨g1, g2, g3⟩ := hg
    unfold overA
    rw [g2]
    simp only
    rw [f40_j12_eq, ld_Pt ((setObj_ne _ _ n2).trans g1)]
    simp only [part_f, List.getElem?_cons_zero, ob_some]
    exact hq _ (g3.setObj hlf _)
theorem c41one (x : Pa) (hl : x.l = []) (H : Heap) (Q : Post) (hq : ∀ H', HExt H H' → Q (I 1) H') : E 41 [encP x] H Q := by
  have s7 : sizedA 7 (.agg (nodeC x)) = some (nodeC x) := by rw [nodeC_eq]; rfl
  have p7 : spliceA 0 (nodeC x) [I 0, S e0, S e0, I 0, I 0, .sl 0 true .full [], I 0] = some (nodeC x) := by rw [nodeC_eq]; rfl
  have p6 : (nodeC x)[6]? = some (I 1) := by rw [nodeC_eq]; rfl
  rw [f41_eq, szP, ob_some]
  intro bn hn
  simp only [Pt_def]
  have e1 : HExt H (H.setObj bn (.cells [I 0])) := (HExt.refl H).setObj hn _
  have o1 := setObj_same H bn (.cells [I 0])
  rw [st_Pt o1 (sz1_I _), ob_some, partP, ob_some]
  have e2 : HExt H ((H.setObj bn (.cells [I 0])).setObj bn (.cells [I 0])) := e1.setObj hn _
  have o1 := setObj_same (H.setObj bn (.cells [I 0])) bn (.cells [I 0])
  generalize (H.setObj bn (.cells [I 0])).setObj bn (.cells [I 0]) = H4 at e2 o1 ⊢
  refine c50 x H4 _ (fun b1 hb => ?_)
  have e5 : HExt H4 (H4.setObj b1 (.cells (encPC x))) := (HExt.refl H4).setObj hb _
  have ox := setObj_same H4 b1 (.cells (encPC x))
  generalize H4.setObj b1 (.cells (encPC x)) = H5 at e5 ox ⊢
  have o1 := e5.obj o1
  refine ⟨trivial, ?_⟩
  intro l hl'
  have n2 := fresh_ne o1 hl'
  have e6 : HExt H5 (H5.setObj l (.loop (f41_L8 (Pt bn)) .ready)) := (HExt.refl H5).setObj hl' _
  have o3 := setObj_same H5 l (.loop (f41_L8 (Pt bn)) .ready)
  generalize H5.setObj l (.loop (f41_L8 (Pt bn)) .ready) = H6 at e6 o3 ⊢
  have hlf : H.fresh l := (e2.trans e5).fresh hl'
  have o1 := e6.obj o1
  show E 53 [.fn (.yield l) [] [], Pt b1] H6 _
  refine c53one rfl x hl b1 H6 _ (fun H2 => H2.objs bn = some (.cells [I 1]) ∧ H2.objs l = some (.loop (f41_L8 (Pt bn)) .ready) ∧ HExt H H2) (e6.obj ox) (fun H7 K e7 hk => ?_) (fun H2 hg => ?_)
  · have o3 := e7.obj o3
    have o1 := e7.obj o1
    show Ev Pg Hs (.yield l) [.agg (nodeC x)] H7 K
    rw [Ev_yield o3, f41_y8_eq, s7, ob_some, p7, ob_some]
    unfold beginA
    rw [o3]
    simp only
    have t1 : (H7.setObj l (.loop (f41_L8 (Pt bn)) .busy)).objs bn = some (.cells [I 0]) := (setObj_ne H7 _ n2).trans o1
    have t3 := setObj_same H7 l (.loop (f41_L8 (Pt bn)) .busy)
    have te : HExt H (H7.setObj l (.loop (f41_L8 (Pt bn)) .busy)) := ((e2.trans e5).trans (e6.trans e7)).setObj hlf _
    generalize H7.setObj l (.loop (f41_L8 (Pt bn)) .busy) = H8 at t1 t3 te ⊢
    rw [ld_Pt t1]
    simp only [part_f, List.getElem?_cons_zero, ob_some, p6, max_I]
    rw [st_Pt t1 (sz1_I _), ob_some]
    unfold endA
    have hm : max (0 : Int) 1 = 1 := rfl
    rw [hm]
    have u1 := setObj_same H8 bn (.cells [I 1])
    have u3 : (H8.setObj bn (.cells [I 1])).objs l = some (.loop (f41_L8 (Pt bn)) .busy) := (setObj_ne H8 _ (Ne.symm n2)).trans t3
    rw [u3]
    simp only
    exact hk _ ⟨(setObj_ne _ _ n2).trans u1, setObj_same _ _ _, (te.setObj hn _).setObj hlf _⟩
  · obtain ⟨g1, g2, g3⟩ := hg
    unfold overA
    rw [g2]
    simp only
    rw [f41_j12_eq, ld_Pt ((setObj_ne _ _ n2).trans g1)]
    simp only [part_f, List.getElem?_cons_zero, ob_some]
    exact hq _ (g3.setObj hlf _)
/-- a pattern of one node has no tail -/
theorem c19one (x : Pa) (hl : x.l = []) (hk : x.k = 1) (H : Heap) (Q : Post) (hq : ∀ H', HExt H H' → Q (encP x) H') : E 19 [encP x] H Q := by
  have z6 : bldA [] [I 0, S e0, S e0, I 0, I 0, .sl 0 true .full []] = some (.agg [I 0, S e0, S e0, I 0, I 0, .sl 0 true .full []]) := rfl
  have z7 : sizedA 6 (.agg [I 0, S e0, S e0, I 0, I 0, .sl 0 true .full []]) = some [I 0, S e0, S e0, I 0, I 0, .sl 0 true .full []] := rfl
  have z8 : spliceA 0 [I 0, S e0, S e0, I 0, I 0, .sl 0 true .full []] [I 0, S e0, S e0, I 0, I 0, .sl 0 true .full []] = some [I 0, S e0, S e0, I 0, I 0, .sl 0 true .full []] := rfl
  have z9 : partA true 0 6 [I 0, S e0, S e0, I 0, I 0, .sl 0 true .full []] = some (.agg [I 0, S e0, S e0, I 0, I 0, .sl 0 true .full []]) := rfl
  have y0 : ∀ x y, extractA (.tup [x, y]) 0 = some x := fun _ _ => rfl
  have y1 : ∀ x y, extractA (.tup [x, y]) 1 = some y := fun _ _ => rfl
  have hk2 : (!decide (x.k = 2)) = true := by rw [hk]; rfl
  rw [f19_eq, szP, ob_some, partP, ob_some, f29_eq, szP, ob_some, part_f, q0, ob_some, i_neq, ob_some, hk2, cnd_t, f29_j5_eq, cnd_t, z6, ob_some, z7, ob_some, z8, ob_some, z9, ob_some, y0, ob_some, y1, ob_some, z7, ob_some, z8, ob_some, ob_some, f30_eq, szP, ob_some, partP, ob_some]
  refine c40one x hl H _ (fun H1 e1 => ?_)
  have g64 : binA Pg .gtr 3 true (I 1) (I 64) = some (B false) := rfl
  have g8 : binA Pg .gtr 3 true (I 1) (I 8) = some (B false) := rfl
  rw [g64, ob_some, cnd_f, ob_some]
  refine c41one x hl H1 _ (fun H2 e2 => ?_)
  rw [g8, ob_some, f30_j4_eq, cnd_f, not_B, ob_some, Bool.not_false, f19_j7_eq, cnd_t, partP, ob_some, szP, ob_some, splP, ob_some, partP, ob_some]
  exact hq H2 (e1.trans e2)
def atomP : Pa := .mk 1 ⟨#[97]⟩ ⟨#[98, 117, 121]⟩ 0 0 0 true .full []
abbrev nilS : AV := .sl 0 true .full []
abbrev patL : List AV := [I 1, S ⟨#[97]⟩, S ⟨#[98, 117, 121]⟩, I 0, I 0, nilS]
abbrev qryL : List AV := [I 1, S ⟨#[97]⟩, S ⟨#[98, 117, 121]⟩, I 0, I 0, nilS, nilS, S e0, I 0, I 0, nilS]
def fxA : AV := .sl 2 false .full [.agg [S ⟨#[120]⟩, I 2], .agg [S ⟨#[107]⟩, I 3], .agg [S ⟨#[98]⟩, I 1]]
def bkA : AV := .sl 2 false .full [.agg [S ⟨#[98, 117, 121]⟩, fxA], .agg [S ⟨#[115, 101, 108, 108]⟩, fxA], .agg [S ⟨#[116, 105, 99, 107]⟩, .sl 2 false .full [.agg [S ⟨#[107]⟩, I 3], .agg [S ⟨#[120]⟩, I 2]]]]
theorem c20 (H : Heap) (Q : Post) : E 20 [] H Q = Q bkA H := (f20_eq () H Q).trans (by kernel_rfl)
def grL : List AV := [bkA, nilS, I 1, S ⟨#[97]⟩, S ⟨#[98, 117, 121]⟩, I 0, I 0, nilS, nilS, S e0, I 0, I 0, nilS]
theorem c12 (H : Heap) (Q : Post) : E 12 [nilS, .agg qryL] H Q = Q (.agg grL) H := by
  have h1 : sizedA 11 (.agg qryL) = some qryL := rfl
  have h2 : partA true 0 11 qryL = some (.agg qryL) := rfl
  have h3 : bldA [(0, 1, bkA), (1, 1, nilS), (2, 11, .agg qryL)] [nilS, nilS, I 0, S e0, S e0, I 0, I 0, nilS, nilS, S e0, I 0, I 0, nilS] = some (.agg grL) := by kernel_rfl
  have h4 : sizedA 13 (.agg grL) = some grL := by kernel_rfl
  have h5 : spliceA 0 grL [nilS, nilS, I 0, S e0, S e0, I 0, I 0, nilS, nilS, S e0, I 0, I 0, nilS] = some grL := by kernel_rfl
  have h6 : partA true 0 13 grL = some (.agg grL) := by kernel_rfl
  rw [f12_eq, h1, ob_some, h2, ob_some, c20, h3, ob_some, h4, ob_some, h5, ob_some, h6, ob_some]
def awR : Rn := ⟨atomP, 0, true, .full, []⟩
theorem c11 (H : Heap) (Q : Post) (hq : ∀ H', HExt H H' → Q (encR awR) H') : E 11 [.agg grL] H Q := by
  have h1 : sizedA 13 (.agg grL) = some grL := by kernel_rfl
  have h2 : partA true 2 6 grL = some (encP atomP) := by kernel_rfl
  have h3 : bldA [(0, 6, encP atomP)] [I 0, S e0, S e0, I 0, I 0, nilS, nilS] = some (encR awR) := by kernel_rfl
  rw [f11_eq, h1, ob_some, h2, ob_some]
  refine c19one atomP rfl rfl H _ (fun H1 e1 => ?_)
  rw [h3, ob_some, szR, ob_some, splR, ob_some, partR, ob_some]
  exact hq H1 e1
theorem c6 (H : Heap) (Q : Post) (hq : ∀ H', Q (B true) H') : E 6 [] H Q := by
  have b1 : bldA [(0, 1, I 1), (1, 1, S ⟨#[97]⟩), (2, 1, S ⟨#[98, 117, 121]⟩)] [I 0, S e0, S e0, I 0, I 0, nilS] = some (.agg patL) := rfl
  have b2 : bldA [(0, 6, AV.agg patL)] [I 0, S e0, S e0, I 0, I 0, nilS, nilS, S e0, I 0, I 0, nilS] = some (.agg qryL) := rfl
  have k1 : binA Pg .eql 3 true (I atomP.k) (I 1) = some (B true) := rfl
  have ok : okR awR := ⟨by rw [allP_eq]; exact ⟨by simp [okP, awR, atomP, Pa.l], trivial⟩, by simp [awR]⟩
  rw [f6_eq (), b1, ob_some, b2, ob_some, c12]
  refine c11 H _ (fun H1 e1 => ?_)
  rw [szR, ob_some, splR, ob_some, part_f, r0, ob_some]
  show ob (binA Pg .eql 3 true (I atomP.k) (I 1)) _
  rw [k1, ob_some, cnd_t, partR, ob_some, ob_some, c7 awR awR ok, sameR_refl, f6_j6_eq]
  exact hq H1
/-! ### The law -/
theorem ixI (l : List Int) (sz : Nat) (nil : Bool) (tip : Tip) (pre r : List Int) (x : Int) (e : l = pre ++ x :: r) : ixaA 1 (.sl sz nil tip (l.map I)) (I pre.length) = some [I x] :=
  ix_mk 1 nil tip _ pre.length (x := I x) (by rw [e]; exact get_mid I pre r x) rfl
def newR (p : Pa) (n : Int) : Rn := ⟨p, 2, false, .full, [⟨n, ⟨#[97]⟩⟩]⟩
theorem c3_l (s0 : Nat) (n0 : Bool) (t0 : Tip) (ps : List Pa) (s1 : Nat) (n1 : Bool) (t1 : Tip) (ns : List Int) (hp : ∀ p ∈ ps, allP okP p ∧ sizeP p ≤ 1048576) (Q : Post) (hq : ∀ H', Q (B true) H') :
    ∀ (r pre : List Pa) (rs : List Rn) (s : Nat) (nil : Bool) (tip : Tip) (H : Heap), ps = pre ++ r → (nil = true ∨ s = 7) → rs.length ≤ pre.length → (∀ x ∈ rs, okR x) →
    f3_l8 (encPs s0 n0 t0 ps) (.sl s1 n1 t1 (ns.map I)) (encRs s nil tip rs) (I pre.length) H Q := by
  intro r
  induction r with
  | nil =>
    intro pre rs s nil tip H e hs hlen hok
    have : (pre.length : Int) = ps.length := by rw [e]; simp
    rw [f3_l8_eq, lenP, ob_some, i_lss, ob_some, this]
    simp only [Int.lt_irrefl, decide_false, cnd_f, f3_j12_eq]
    exact c6 H _ hq
  | cons p r ih =>
    intro pre rs s nil tip H e hs hlen hok
    have hlt : pre.length < ps.length := by rw [e]; simp
    have hlt' : decide ((pre.length : Int) < ps.length) = true := by simp; omega
    rw [f3_l8_eq, lenP, ob_some, i_lss, ob_some, hlt', cnd_t, len_sl, ob_some, List.length_map, i_lss, ob_some]
    have stop : f3_j12 (encPs s0 n0 t0 ps) (.sl s1 n1 t1 (ns.map I)) (encRs s nil tip rs) (I pre.length) (B false) H Q := by
      rw [f3_j12_eq, cnd_f]
      exact c6 H _ hq
    refine cnd_intro (fun hn => ?_) (fun _ => stop)
    rw [i_lss, ob_some]
    have hn : pre.length < ns.length := by have : (pre.length : Int) < ns.length := by simpa using hn
                                           omega
    cases h20 : decide ((pre.length : Int) < 20) with
    | false => exact stop
    | true =>
      have h20 : pre.length < 20 := by have : (pre.length : Int) < 20 := by simpa using h20
                                       omega
      obtain ⟨okp, szp⟩ := hp p (by rw [e]; simp)
      have en : ns = ns.take pre.length ++ ns[pre.length] :: ns.drop (pre.length + 1) := by
        rw [← List.drop_eq_getElem_cons hn, List.take_append_drop]
      have ixn : ixaA 1 (.sl s1 n1 t1 (ns.map I)) (I pre.length) = some [I ns[pre.length]] := ix_mk 1 n1 t1 _ pre.length (x := I ns[pre.length]) (by simp [hn]) rfl
      rw [f3_j12_eq, cnd_t, ixP ps s0 n0 t0 pre r p e, ob_some, partP, ob_some, c5 p (by omega), i_gtr, ob_some]
      refine cnd_intro (fun _ => c6 H _ hq) (fun _ => ?_)
      have bb : bldA [(0, 1, I ns[pre.length]), (1, 1, S ⟨#[97]⟩)] [I 0, S e0] = some (encB ⟨ns[pre.length], ⟨#[97]⟩⟩) := rfl
      have mb : mkSlA 2 [encB ⟨ns[pre.length], ⟨#[97]⟩⟩] = some (.sl 2 false .full [encB ⟨ns[pre.length], ⟨#[97]⟩⟩]) := mk1 2 _ (szBd _)
      have br : bldA [(0, 6, encP p), (6, 1, AV.sl 2 false .full [encB ⟨ns[pre.length], ⟨#[97]⟩⟩])] [I 0, S e0, S e0, I 0, I 0, nilS, nilS] = some (encR (newR p ns[pre.length])) := by
        rw [encP, encPC_eq, encR, encRC_eq]; rfl
      rw [ob_some, ixn]
      simp only [part_f, List.getElem?_cons_zero, ob_some]
      rw [partP, ob_some, bb, ob_some, mb, ob_some, br, ob_some, szR, ob_some, splR, ob_some, lenR, ob_some]
      generalize hx : newR p ns[pre.length] = x
      have okx : okR x := by rw [← hx]; exact ⟨okp, by simp [newR]⟩
      -- had it been there
      have loop : ∀ (rr pp : List Rn) (had : Bool), rs = pp ++ rr → had = pp.any (fun y => sameR y x) →
          f3_l35 (encPs s0 n0 t0 ps) (.sl s1 n1 t1 (ns.map I)) (encRs s nil tip rs) (I pre.length) (encRC x) (I rs.length) (B had) (I pp.length) H Q := by
        intro rr
        induction rr with
        | nil =>
          intro pp had e2 hh
          have h1 : (pp.length : Int) = rs.length := by rw [e2]; simp
          have h2 : pp = rs := by rw [e2]; simp
          have hany : rs.any (sameR x) = had := by
            rw [hh, h2]; congr 1; funext y; exact sameR_symm x y
          rw [f3_l35_eq, i_lss, ob_some, h1]
          simp only [Int.lt_irrefl, decide_false, cnd_f]
          rw [partR, ob_some]
          have w1 : W64 ((rs.length : Int) + 1) = ((rs.length + 1 : Nat) : Int) := by rw [w64_id (by omega) (by omega)]; omega
          have w2 : W64 ((pre.length : Int) + 1) = ((pre.length + 1 : Nat) : Int) := by rw [w64_id (by omega) (by omega)]; omega
          have go : ∀ (rs' : List Rn) (s' : Nat) (nil' : Bool) (tip' : Tip) (H' : Heap), (nil' = true ∨ s' = 7) → rs'.length ≤ pre.length + 1 → (∀ z ∈ rs', okR z) →
              f3_j50 (encPs s0 n0 t0 ps) (.sl s1 n1 t1 (ns.map I)) (encRs s' nil' tip' rs') (I pre.length) (B false) H' Q := fun rs' s' nil' tip' H' a1 a2 a3 => by
            rw [f3_j50_eq, cnd_f, i_add, ob_some, w2]
            have := ih (pre ++ [p]) rs' s' nil' tip' H' (by simp [e]) a1 (by simpa using a2) a3
            rw [List.length_append, List.length_singleton] at this
            exact this
          refine c8 x okx s nil tip rs hs (by omega) H _ (fun ha H' => ?_) (fun ha tip' H' => ?_)
          · have hhad : had = true := by rw [← hany]; exact ha
            rw [hhad]
            simp only [cnd_t, lenR, ob_some, i_neq, decide_true, Bool.not_true, f3_c15_7a_eq, cnd_f, not_B, f3_c15_25d_eq, f3_c15_26d_eq]
            exact go rs s nil tip H' hs (by omega) hok
          · have hhad : had = false := by rw [← hany]; exact ha
            have hl1 : ((rs ++ [x]).length : Int) = ((rs.length + 1 : Nat) : Int) := by simp
            rw [hhad]
            simp only [cnd_f, f3_c15_7b_eq, not_B, Bool.not_false, ob_some, cnd_t, lenR, i_add, w1, i_neq, hl1, decide_true, Bool.not_true]
            rw [ixR (rs ++ [x]) 7 false tip' rs [] x rfl, ob_some, partR, ob_some, ob_some, c7 x x okx, sameR_refl, not_B, ob_some, Bool.not_true, f3_c15_25c_eq, f3_c15_26c_eq]
            exact go (rs ++ [x]) 7 false tip' H' (.inr rfl) (by simp; omega) (fun z hz => by
              rcases List.mem_append.1 hz with hz | hz
              · exact hok z hz
              · rw [List.mem_singleton.1 hz]; exact okx)
        | cons y rr ihr =>
          intro pp had e2 hh
          have hlt2 : pp.length < rs.length := by rw [e2]; simp
          have hlt2' : decide ((pp.length : Int) < rs.length) = true := by simp; omega
          have oky : okR y := hok y (by rw [e2]; simp)
          have nx : ∀ b : Bool, b = (had || sameR y x) → f3_j45 (encPs s0 n0 t0 ps) (.sl s1 n1 t1 (ns.map I)) (encRs s nil tip rs) (I pre.length) (encRC x) (I rs.length) (B b) (I pp.length) H Q := fun b hb => by
            rw [f3_j45_eq, i_add, ob_some, w64_succ hlt2 (by omega)]
            have := ihr (pp ++ [y]) b (by simp [e2]) (by rw [hb, hh]; simp)
            rw [List.length_append, List.length_singleton] at this
            exact this
          rw [f3_l35_eq, i_lss, ob_some, hlt2', cnd_t]
          refine cnd_intro (fun h => nx true (by simp [h])) (fun h => ?_)
          rw [ixR rs s nil tip pp rr y e2, ob_some, partR, ob_some, partR, ob_some, c7 y x oky]
          exact nx _ (by simp [h])
      exact loop rs [] false rfl rfl
theorem cRunAdds (s0 : Nat) (n0 : Bool) (t0 : Tip) (ps : List Pa) (s1 : Nat) (n1 : Bool) (t1 : Tip) (ns : List Int) (hp : ∀ p ∈ ps, allP okP p ∧ sizeP p ≤ 1048576) (H : Heap) (Q : Post) (hq : ∀ H', Q (B true) H') :
    E 3 [encPs s0 n0 t0 ps, .sl s1 n1 t1 (ns.map I)] H Q := by
  rw [f3_eq]
  exact c3_l s0 n0 t0 ps s1 n1 t1 ns hp Q hq ps [] [] 0 true .full H rfl (.inl rfl) (by simp) (fun _ h => by cases h)
end Go.Hx
