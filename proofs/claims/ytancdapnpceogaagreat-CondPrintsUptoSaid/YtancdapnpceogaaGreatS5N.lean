/- Contracts of strings.Builder and of what prints into one. Own work. -/
import Derived.Test.YtancdapnpceogaaGreatS5G
set_option maxRecDepth 20000
namespace Go.Hx
theorem u90 : Pg.underlying 90 = some (.pointer 93) := by kernel_rfl
theorem u253 : Pg.underlying 253 = some .unsafePointer := by kernel_rfl
theorem u161 : Pg.underlying 161 = some (.pointer 5) := by kernel_rfl
theorem cells5 : Pg.cellsOf 5 = 1 := by kernel_rfl
theorem size93 : Pg.cellsOf 93 = 2 := by kernel_rfl
theorem info93 : (Pg.info? 93).isSome = true := by kernel_rfl
/-- a struct that begins with a builder -/
def Holds93 (e : TypeId) : Prop := liesAt Pg Pg.depth e (2 / Pg.cellsOf e) 0 93 1 = true
theorem lies95 : Holds93 95 := by unfold Holds93; kernel_rfl
theorem lies128 : Holds93 128 := by unfold Holds93; kernel_rfl
theorem lies140 : Holds93 140 := by unfold Holds93; kernel_rfl
theorem conv1 (w : World) (b : Nat) (vs : Array Value) (e : TypeId) (fr : Nat × Nat) (h : w.heap[b]? = some (.cells vs e fr)) (hs : vs.size = 2) :
    (convert 90 253 (.pointer (some ⟨b, 0, none⟩))).run Pg w = .ok (.pointer (some ⟨b, 0, none⟩)) w := by
  obtain ⟨i, hi⟩ := Option.isSome_iff_exists.1 info93
  have hsh : w.shape? b = some (e, 2) := by simp [World.shape?, h, hs]
  simp [convert, run_underlying u90, run_underlying u253, Conv.unsafePointer, Conv.seenAt, viewAt, cellsIn, hsh]
theorem conv2 (w : World) (b : Nat) (vs : Array Value) (e : TypeId) (fr : Nat × Nat) (he : Holds93 e) (h : w.heap[b]? = some (.cells vs e fr)) (hs : vs.size = 2) :
    (convert 253 90 (.pointer (some ⟨b, 0, none⟩))).run Pg w = .ok (.pointer (some ⟨b, 0, none⟩)) w := by
  unfold Holds93 at he
  have hsh : w.shape? b = some (e, 2) := by simp [World.shape?, h, hs]
  simp [convert, run_underlying u90, run_underlying u253, Conv.unsafePointer, Conv.seenAt, viewAt, cellsIn, hsh, variablesAt, he]
theorem x_noEscape (w : World) (p : Option Addr) : (callFunc 262 #[.pointer p]).run Pg w = .ok (.value (.pointer p)) w := by kernel_rfl
theorem p_nil : binA Pg .eql 90 true (.raw (.pointer none)) (.raw (.pointer none)) = some (B true) := by kernel_rfl
theorem p_some (b : Nat) : binA Pg .eql 90 true (Pt b) (.raw (.pointer none)) = some (B false) := by kernel_rfl
theorem p_neq (b : Nat) : binA Pg .neq 90 false (Pt b) (Pt b) = some (B false) := by
  obtain ⟨i, hi⟩ := Option.isSome_iff_exists.1 info93
  simp [binA, Pt, eqOK, eqT, u90, ptrSame, hi, B]
abbrev Poff (b o : Nat) : AV := .raw (.pointer (some ⟨b, o, none⟩))
theorem nil_Pt (b : Nat) : nilA (Pt b) = some (Pt b) := rfl
theorem add_Pt (b o : Nat) : addPA (Pt b) o = some (Poff b o) := by simp [addPA, Pt, Poff]
theorem add0_Pt (b : Nat) : addPA (Pt b) 0 = some (Pt b) := rfl
/-! ### The state of a builder -/
def BufOK (H0 H : Heap) (b sz : Nat) (nil : Bool) (tip : Tip) (t : List UInt8) : Prop :=
  (nil = true ∧ sz = 0 ∧ tip = .full ∧ t = []) ∨ (sz = 1 ∧ nil = false ∧ t ≠ [] ∧ ∃ c, tip = .tip c ∧ c ≠ b ∧ H0.fresh c ∧ H.tips c = some t.length ∧ H.tys c = some 5)
theorem BufOK.mono {H0 H H' : Heap} {b sz : Nat} {nil : Bool} {tip : Tip} {t : List UInt8} (h : BufOK H0 H b sz nil tip t) (he : HExt H H') : BufOK H0 H' b sz nil tip t := by
  rcases h with h | ⟨h1, h2, h3, c, h4, h5, h6, h7, h8⟩
  · exact .inl h
  · have := he c (fun hf => by rw [hf.2] at h7; cases h7)
    exact .inr ⟨h1, h2, h3, c, h4, h5, h6, this.2.1.trans h7, this.2.2.trans h8⟩
theorem app_buf {H0 H : Heap} {b sz : Nat} {nil : Bool} {tip : Tip} {t ys : List UInt8} {x : AV} {K : Post} (he : HExt H0 H) (hb : ∃ o, H.objs b = some o) (h : BufOK H0 H b sz nil tip t) (ht : tailA 1 x = some (ys.map byteA))
    (hl : t.length + ys.length ≤ 140737488355328)
    (hk : ∀ sz' nil' tip' H', BufOK H0 H' b sz' nil' tip' (t ++ ys) → HExt H0 H' → H'.objs = H.objs → H'.tys b = H.tys b → K (.sl sz' nil' tip' ((t ++ ys).map byteA)) H') :
    appB 5 (.sl sz nil tip (t.map byteA)) x H K := by
  unfold appB
  simp only [ht]
  cases ys with
  | nil =>
    have := hk sz nil tip H (by simpa using h) he rfl rfl
    simpa using this
  | cons y ys =>
    have hnew : ∀ c, H.fresh c → K (.sl 1 false (.tip c) ((t ++ y :: ys).map byteA)) ((H.setTip c (t.length + (y :: ys).length)).setTy c 5) := fun c hc => by
      obtain ⟨o, ho⟩ := hb
      have hne : c ≠ b := Ne.symm (fresh_ne ho hc)
      refine hk 1 false _ _ (.inr ⟨rfl, rfl, by simp, c, rfl, hne, he.fresh hc, by simp [Heap.setTip, Heap.setTy], by simp [Heap.setTy]⟩) ((he.setTip (he.fresh hc) _).setTy (he.fresh hc) _) rfl (by simp [Heap.setTy, Heap.setTip, Ne.symm hne])
    have e1 : t.map byteA ++ (y :: ys).map byteA = (t ++ y :: ys).map byteA := by simp
    have e2 : (t.map byteA).length = t.length := by simp
    have e3 : ((y :: ys).map byteA).length = (y :: ys).length := by simp
    simp only [List.map_cons] at e1 e3 ⊢
    simp only [e2, e3, e1]
    rcases h with ⟨h1, h2, h3, h4⟩ | ⟨h1, h2, h3, c, h4, h5, h6, h7, h8⟩
    · subst h3
      exact ⟨.inl h1, hl, hnew, trivial⟩
    · subst h4
      refine ⟨.inr h1, hl, hnew, h7, ?_⟩
      refine hk 1 false _ _ (.inr ⟨rfl, rfl, by simp, c, rfl, h5, h6, by simp [Heap.setTip], by simpa [Heap.setTip] using h8⟩) (he.setTip h6 _) rfl rfl
structure Bld (H0 : Heap) (b : Nat) (t : List UInt8) (H : Heap) : Prop where
  ext : HExt H0 H
  fr : H0.fresh b
  ty : ∃ e, H.tys b = some e ∧ Holds93 e
  obj : ∃ a sz nil tip, H.objs b = some (.cells [a, .sl sz nil tip (t.map byteA)]) ∧ (a = .raw (.pointer none) ∨ a = Pt b) ∧ BufOK H0 H b sz nil tip t
theorem Bld.mono {H0 H H' : Heap} {b : Nat} {t : List UInt8} (h : Bld H0 b t H) (he : HExt H H') : Bld H0 b t H' := by
  obtain ⟨h1, h2, ⟨e, h3, h4⟩, a, sz, nil, tip, h5, h6, h7⟩ := h
  exact ⟨h1.trans he, h2, ⟨e, he.ty (not_fresh h5) h3, h4⟩, a, sz, nil, tip, he.obj h5, h6, h7.mono he⟩
/-- a new one -/
theorem bld_new {H0 H : Heap} (e : TypeId) (he : Holds93 e) (hx : HExt H0 H) {K : AV → Heap → Prop} (hk : ∀ b H', Bld H0 b [] H' → K (Pt b) H') : newT H e [.raw (.pointer none), .sl 0 true .full []] K := by
  intro b hb
  have hf := hx.fresh hb
  refine hk b _ ⟨(hx.setObj hf _).setTy hf _, hf, ⟨e, by simp [Heap.setTy], he⟩, .raw (.pointer none), 0, true, .full, ?_, .inl rfl, .inl ⟨rfl, rfl, rfl, rfl⟩⟩
  simp [Heap.setTy, Heap.setObj]
theorem c196 (b : Nat) (H0 H : Heap) (t : List UInt8) (Q : Post) (h : Bld H0 b t H) (hq : ∀ H', Bld H0 b t H' → Q (.tup []) H') : E 196 [Pt b] H Q := by
  obtain ⟨h1, h2, ⟨e, h3, h4⟩, a, sz, nil, tip, h5, h6, h7⟩ := h
  rw [f196_eq]
  simp only [nil_Pt, ob_some, add0_Pt, ld_Pt h5, part_f, List.getElem?_cons_zero]
  rcases h6 with rfl | rfl
  · rw [p_nil, ob_some, cnd_t]
    have cp : ∀ (s d : TypeId) (K : AV → Prop), (∀ (w : World) (vs : Array Value) fr, w.heap[b]? = some (.cells vs e fr) → vs.size = 2 → (convert s d (.pointer (some ⟨b, 0, none⟩))).run Pg w = .ok (.pointer (some ⟨b, 0, none⟩)) w) → K (Pt b) → convP Pg s d (Pt b) H K := fun s d K hc hk => by
      simp only [convP, Pt, h3, h5]
      exact ⟨fun w vs fr hw hs => hc w vs fr hw (by simpa using hs), hk⟩
    refine cp _ _ _ (fun w vs fr hw hs => conv1 w b vs e fr hw hs) ?_
    refine ⟨fun w => x_noEscape w _, ?_⟩
    refine cp _ _ _ (fun w vs fr hw hs => conv2 w b vs e fr h4 hw hs) ?_
    have hst : stH H 1 (Pt b) (Pt b) = some (H.setObj b (.cells [Pt b, .sl sz nil tip (t.map byteA)])) := by
      simp [stH, Pt, h5, sizedA, cellsA, spliceA]
    simp only [nil_Pt, ob_some, add0_Pt, hst]
    refine hq _ ⟨h1.setObj h2 _, h2, ⟨e, h3, h4⟩, Pt b, sz, nil, tip, setObj_same _ _ _, .inr rfl, ?_⟩
    rcases h7 with h7 | ⟨g1, g2, g3, c, g4, g5, g6, g7, g8⟩
    · exact .inl h7
    · exact .inr ⟨g1, g2, g3, c, g4, g5, g6, g7, g8⟩
  · rw [p_some, ob_some, cnd_f, p_neq, ob_some, cnd_f]
    exact hq H ⟨h1, h2, ⟨e, h3, h4⟩, Pt b, sz, nil, tip, h5, .inr rfl, h7⟩
/-- bytes are put into one -/
theorem bld_app {b : Nat} {H0 H : Heap} {t ys : List UInt8} {x : AV} (h : Bld H0 b t H) (ht : tailA 1 x = some (ys.map byteA)) (hl : t.length + ys.length ≤ 140737488355328) (K : Heap → Prop) (hk : ∀ H', Bld H0 b (t ++ ys) H' → K H') :
    ob (ldH H false 1 (Poff b 1)) fun r5 => appB 5 r5 x H fun r6 H7 => ob (stH H7 1 (Poff b 1) r6) fun H10 => K H10 := by
  obtain ⟨h1, h2, ⟨e, h3, h4⟩, a, sz, nil, tip, h5, h6, h7⟩ := h
  rw [ld_off h5]
  simp only [part_f, List.getElem?_cons_succ, List.getElem?_cons_zero, ob_some]
  refine app_buf h1 ⟨_, h5⟩ h7 ht hl (fun sz' nil' tip' H' g1 g2 g3 g4 => ?_)
  have h5' : H'.objs b = some (.cells [a, .sl sz nil tip (t.map byteA)]) := by rw [g3]; exact h5
  have hst : stH H' 1 (Poff b 1) (.sl sz' nil' tip' ((t ++ ys).map byteA)) = some (H'.setObj b (.cells [a, .sl sz' nil' tip' ((t ++ ys).map byteA)])) := by
    simp [stH, h5', sizedA, cellsA, spliceA]
  rw [hst, ob_some]
  refine hk _ ⟨g2.setObj h2 _, h2, ⟨e, g4.trans h3, h4⟩, a, sz', nil', tip', setObj_same _ _ _, h6, ?_⟩
  rcases g1 with g1 | ⟨k1, k2, k3, c, k4, k5, k6, k7, k8⟩
  · exact .inl g1
  · exact .inr ⟨k1, k2, k3, c, k4, k5, k6, k7, k8⟩
abbrev tx (s : ByteArray) : List UInt8 := s.data.toList
theorem c118 (b : Nat) (s : ByteArray) (H0 H : Heap) (t : List UInt8) (Q : Post) (h : Bld H0 b t H) (hl : t.length + (tx s).length ≤ 140737488355328) (hq : ∀ v H', Bld H0 b (t ++ tx s) H' → Q v H') : E 118 [Pt b, S s] H Q := by
  rw [f118_eq]
  refine c196 b H0 H t _ h (fun H1 h1 => ?_)
  simp only [nil_Pt, ob_some, add_Pt]
  refine bld_app h1 (ys := tx s) (by simp [tailA, S, byteA]) hl _ (fun H2 h2 => ?_)
  rw [len_S, ob_some]
  exact hq _ H2 h2
theorem c114 (b : Nat) (c : UInt8) (H0 H : Heap) (t : List UInt8) (Q : Post) (h : Bld H0 b t H) (hl : t.length + 1 ≤ 140737488355328) (hq : ∀ v H', Bld H0 b (t ++ [c]) H' → Q v H') : E 114 [Pt b, U8 c.toNat] H Q := by
  rw [f114_eq]
  refine c196 b H0 H t _ h (fun H1 h1 => ?_)
  have hm : mkSlA 1 [U8 c.toNat] = some (.sl 1 false .full [U8 c.toNat]) := rfl
  simp only [nil_Pt, ob_some, add_Pt, hm]
  exact bld_app h1 (ys := [c]) (by simp [tailA, byteA]) (by simpa using hl) _ (fun H2 h2 => hq _ H2 h2)
theorem c53 (b : Nat) (H0 H : Heap) (t : List UInt8) (Q : Post) (h : Bld H0 b t H) (hl : t.length ≤ 140737488355328) (hq : ∀ H', HExt H0 H' → Q (S ⟨t.toArray⟩) H') : E 53 [Pt b] H Q := by
  obtain ⟨h1, h2, _, a, sz, nil, tip, h5, h6, h7⟩ := h
  rw [f53_eq]
  simp only [nil_Pt, ob_some, add_Pt, ld_off h5, part_f, List.getElem?_cons_succ, List.getElem?_cons_zero, len_sl]
  rcases h7 with ⟨g1, g2, g3, g4⟩ | ⟨g1, g2, g3, c, g4, g5, g6, g7, g8⟩
  · subst g1 g2 g3 g4
    exact hq H h1
  · subst g1 g2 g4
    cases t with
    | nil => exact (g3 rfl).elim
    | cons x xs =>
      simp only [List.map_cons, datA, ob_some]
      refine ⟨5, x :: xs, u161, cells5, g8, rfl, by simp, by omega, g7, ?_⟩
      exact hq _ (h1.dropTip g6)
end Go.Hx
