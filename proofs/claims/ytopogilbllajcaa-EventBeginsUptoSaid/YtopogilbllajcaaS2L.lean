/- What came in, for the rows of this seat. Own work (session 2). -/
import Derived.Test.YtopogilbllajcaaS2D
set_option maxRecDepth 20000
namespace Go.Hx
theorem map_of {α : Type} {f : α → AV} : ∀ (xs : List AV), (∀ x ∈ xs, ∃ y, x = f y) → ∃ l : List α, xs = l.map f
  | [], _ => ⟨[], rfl⟩
  | x :: xs, h => by
    obtain ⟨y, rfl⟩ := h x (by simp)
    obtain ⟨l, rfl⟩ := map_of xs (fun z hz => h z (by simp [hz]))
    exact ⟨y :: l, rfl⟩
def conjF : List Field → (Field → Prop) → Prop
  | [], _ => True
  | f :: r, p => p f ∧ conjF r p
theorem conjF_of : ∀ (l : List Field) (p : Field → Prop), (∀ f ∈ l, p f) → conjF l p
  | [], _, _ => trivial
  | f :: r, p, h => ⟨h f (by simp), conjF_of r p (fun g hg => h g (by simp [hg]))⟩
def StrT (P : Program) (n : Nat) (t : TypeId) (cs : List AV) : Prop :=
  match P.underlying t with
  | some (.struct fs) => cs.length = P.cellsOf t ∧ conjF fs.toList fun f => HasT P n f.type ((cs.drop f.offset).take (P.cellsOf f.type))
  | _ => True
theorem HasT.str {P : Program} {n : Nat} {t : TypeId} {cs : List AV} (h : HasT P (n + 1) t cs) : StrT P n t cs := by
  unfold StrT
  split
  · rename_i fs hu
    simp only [HasT, hu] at h
    exact ⟨h.1, conjF_of _ _ h.2⟩
  · trivial
theorem map_of2 {α : Type} {f : α → AV} {p : α → Prop} : ∀ (xs : List AV), (∀ x ∈ xs, ∃ y, x = f y ∧ p y) → ∃ l : List α, xs = l.map f ∧ ∀ y ∈ l, p y
  | [], _ => ⟨[], rfl, fun _ h => by cases h⟩
  | x :: xs, h => by
    obtain ⟨y, rfl, hy⟩ := h x (by simp)
    obtain ⟨l, rfl, hl⟩ := map_of2 xs (fun z hz => h z (by simp [hz]))
    exact ⟨y :: l, rfl, fun z hz => by
      rcases List.mem_cons.1 hz with rfl | hz
      · exact hy
      · exact hl z hz⟩
theorem has_int {n : Nat} {cs : List AV} (h : HasT Pg n 3 cs) : ∃ i, cs = [I i] := by
  cases n with
  | zero => exact h.elim
  | succ n =>
    have e : HasT Pg (n + 1) 3 cs = ∃ i, cs = [.raw (.int .i64 i)] ∧ (Lit.int .i64 i).wf = true := by kernel_rfl
    rw [e] at h; obtain ⟨i, h, _⟩ := h; exact ⟨i, h⟩
theorem has_S {n : Nat} {cs : List AV} (h : HasT Pg n 9 cs) : ∃ s, cs = [S s] := by
  cases n with
  | zero => exact h.elim
  | succ n =>
    have e : HasT Pg (n + 1) 9 cs = ∃ s : ByteArray, cs = [S s] ∧ s.size ≤ maxLen := by kernel_rfl
    rw [e] at h; obtain ⟨s, h, _⟩ := h; exact ⟨s, h⟩
theorem has_Is {n : Nat} {cs : List AV} (h : HasT Pg n 23 cs) : ∃ (nil : Bool) (tip : Tip) (l : List Int), cs = [.sl 1 nil tip (l.map I)] := by
  cases n with
  | zero => exact h.elim
  | succ n =>
    have e : HasT Pg (n + 1) 23 cs = (cs = [.sl 1 true .full []] ∨ ∃ xs : List AV, cs = [.sl 1 false .any xs] ∧ ∀ x ∈ xs, ∃ c, x = packA Pg 3 c ∧ HasT Pg n 3 c) := by kernel_rfl
    rw [e] at h
    rcases h with rfl | ⟨xs, rfl, h⟩
    · exact ⟨true, .full, [], rfl⟩
    · obtain ⟨l, rfl⟩ := map_of (f := I) xs (fun x hx => by
        obtain ⟨c, rfl, hc⟩ := h x hx
        obtain ⟨s, rfl⟩ := has_int hc
        exact ⟨s, by kernel_rfl⟩)
      exact ⟨false, .any, l, rfl⟩
theorem has_P : ∀ (n : Nat) {cs : List AV}, HasT Pg n 27 cs → ∃ x : Pa, cs = encPC x := by
  intro n
  induction n using Nat.strongRecOn with
  | _ n ih =>
    intro cs h
    cases n with
    | zero => exact h.elim
    | succ n =>
      have h := h.str
      have e : StrT Pg n 27 cs = (cs.length = 6 ∧ (HasT Pg n 3 ((cs.drop 0).take 1) ∧ (HasT Pg n 9 ((cs.drop 1).take 1) ∧ (HasT Pg n 9 ((cs.drop 2).take 1) ∧ (HasT Pg n 3 ((cs.drop 3).take 1) ∧ (HasT Pg n 3 ((cs.drop 4).take 1) ∧ (HasT Pg n 22 ((cs.drop 5).take 1) ∧ True))))))) := by kernel_rfl
      rw [e] at h
      obtain ⟨hl, h1, h2, h3, h4, h5, h6, _⟩ := h
      match cs, hl with
      | [a, b, c, d, e, f], _ =>
        obtain ⟨i1, g1⟩ := has_int h1
        obtain ⟨i2, g2⟩ := has_S h2
        obtain ⟨i3, g3⟩ := has_S h3
        obtain ⟨i4, g4⟩ := has_int h4
        obtain ⟨i5, g5⟩ := has_int h5
        simp at g1 g2 g3 g4 g5 h6
        subst g1 g2 g3 g4 g5
        cases n with
        | zero => exact h6.elim
        | succ m =>
          have e : HasT Pg (m + 1) 22 [f] = ([f] = [AV.sl 6 true .full []] ∨ ∃ xs : List AV, [f] = [AV.sl 6 false .any xs] ∧ ∀ x ∈ xs, ∃ c, x = packA Pg 27 c ∧ HasT Pg m 27 c) := by kernel_rfl
          rw [e] at h6
          rcases h6 with hg | ⟨xs, hg, hall⟩
          · simp at hg; subst hg
            exact ⟨.mk i1 i2 i3 i4 i5 6 true .full [], by simp [encPC, encPCs]⟩
          · simp at hg; subst hg
            obtain ⟨l, rfl⟩ := map_of (f := encP) xs (fun x hx => by
              obtain ⟨c, rfl, hc⟩ := hall x hx
              obtain ⟨y, rfl⟩ := ih m (by omega) hc
              exact ⟨y, by kernel_rfl⟩)
            exact ⟨.mk i1 i2 i3 i4 i5 6 false .any l, by simp [encPC, encPCs_map]⟩
theorem has_Ps {n : Nat} {cs : List AV} (h : HasT Pg n 22 cs) : ∃ nil tip l, cs = [encPs 6 nil tip l] := by
  cases n with
  | zero => exact h.elim
  | succ n =>
    have e : HasT Pg (n + 1) 22 cs = (cs = [.sl 6 true .full []] ∨ ∃ xs : List AV, cs = [.sl 6 false .any xs] ∧ ∀ x ∈ xs, ∃ c, x = packA Pg 27 c ∧ HasT Pg n 27 c) := by kernel_rfl
    rw [e] at h
    rcases h with rfl | ⟨xs, rfl, h⟩
    · exact ⟨true, .full, [], rfl⟩
    · obtain ⟨l, rfl⟩ := map_of (f := encP) xs (fun x hx => by
        obtain ⟨c, rfl, hc⟩ := h x hx
        obtain ⟨y, rfl⟩ := has_P n hc
        exact ⟨y, by kernel_rfl⟩)
      exact ⟨false, .any, l, rfl⟩
theorem sz_P (x : Pa) : sizeP x ≤ szL (encPC x) ∧ (szL (encPC x) ≤ 1048576 → allP okP x) := by
  induction x using Pa.ind with
  | h x ih =>
    have hs : ∀ (l : List Pa), (∀ y ∈ l, y ∈ x.l) → sizePs l ≤ szL (l.map encP) ∧ (szL (l.map encP) ≤ 1048576 → allPs okP l) := by
      intro l
      induction l with
      | nil => intro _; simp [sizePs, szL, allPs]
      | cons y r ihr =>
        intro hy
        obtain ⟨a1, a2⟩ := ihr (fun z hz => hy z (by simp [hz]))
        obtain ⟨b1, b2⟩ := ih y (hy y (by simp))
        simp only [sizePs, List.map_cons, szL, encP, szA, allPs]
        exact ⟨by omega, fun h => ⟨b2 (by omega), a2 (by omega)⟩⟩
    obtain ⟨h1, h2⟩ := hs x.l (fun _ h => h)
    rw [sizeP_eq, allP_eq, encPC_eq]
    have hl := length_le_szL (x.l.map encP)
    rw [List.length_map] at hl
    simp only [szL, szA, I, S, encPs]
    refine ⟨by omega, fun h => ⟨?_, h2 (by omega)⟩⟩
    simp only [okP]; omega
theorem sz_Ps (l : List Pa) (h : szL (l.map encP) ≤ 1048576) : ∀ p ∈ l, allP okP p ∧ sizeP p ≤ 1048576 := fun p hp => by
  have h1 : szA (encP p) ≤ szL (l.map encP) := szA_le_szL (List.mem_map_of_mem hp)
  simp only [encP, szA] at h1
  obtain ⟨a, b⟩ := sz_P p
  exact ⟨b (by omega), by omega⟩
end Go.Hx
