/- What comes in, of this seat's types: conditions. Own work (turned from S4X). -/
import Derived.Test.YtancdapnpceogaaGreatS5T
import Derived.Test.YtancdapnpceogaaGreatS5AG
set_option maxRecDepth 20000
namespace Go.Hx
theorem wf_rng {n : Int} (h : (Lit.int .i64 n).wf = true) : rng n := by
  have : -9223372036854775808 ≤ n ∧ n ≤ 9223372036854775807 := by simpa [Lit.wf, IntKind.min, IntKind.max, IntKind.signed, IntKind.bits] using h
  exact this
theorem map_of2 {α : Type} {f : α → AV} {p : α → Prop} : ∀ (xs : List AV), (∀ x ∈ xs, ∃ y, x = f y ∧ p y) → ∃ l : List α, xs = l.map f ∧ ∀ y ∈ l, p y
  | [], _ => ⟨[], rfl, fun _ h => by cases h⟩
  | x :: xs, h => by
    obtain ⟨y, rfl, hy⟩ := h x (by simp)
    obtain ⟨l, rfl, hl⟩ := map_of2 xs (fun z hz => h z (by simp [hz]))
    exact ⟨y :: l, rfl, fun z hz => by
      rcases List.mem_cons.1 hz with rfl | hz
      · exact hy
      · exact hl z hz⟩
def conjF : List Field → (Field → Prop) → Prop
  | [], _ => True
  | f :: r, p => p f ∧ conjF r p
theorem conjF_of : ∀ (l : List Field) (p : Field → Prop), (∀ f ∈ l, p f) → conjF l p
  | [], _, _ => trivial
  | f :: r, p, h => ⟨h f (by simp), conjF_of r p (fun g hg => h g (by simp [hg]))⟩
def StrT (P : Program) (n : Nat) (t : TypeId) (cs : List AV) : Prop :=
  match P.underlying t with
  | some (.struct fs) => cs.length = P.cellsOf t ∧ conjF fs.toList fun f => HasT P n f.type ((cs.drop f.offset).take (P.cellsOf f.type))
  | _ => True
theorem HasT.str {P : Program} {n : Nat} {t : TypeId} {cs : List AV} (h : HasT P (n + 1) t cs) : StrT P n t cs := by
  unfold StrT
  split
  · rename_i fs hu
    simp only [HasT, hu] at h
    exact ⟨h.1, conjF_of _ _ h.2⟩
  · trivial
theorem has_int {n : Nat} {cs : List AV} (t : TypeId) (ht : t = 3 ∨ t = 2) (h : HasT Pg n t cs) : ∃ i, cs = [I i] ∧ rng i := by
  cases n with
  | zero => exact h.elim
  | succ n =>
    have e : HasT Pg (n + 1) t cs = ∃ i, cs = [.raw (.int .i64 i)] ∧ (Lit.int .i64 i).wf = true := by rcases ht with rfl | rfl <;> kernel_rfl
    rw [e] at h
    obtain ⟨i, h1, h2⟩ := h
    exact ⟨i, h1, wf_rng h2⟩
theorem has_S {n : Nat} {cs : List AV} (h : HasT Pg n 9 cs) : ∃ s, cs = [S s] := by
  cases n with
  | zero => exact h.elim
  | succ n =>
    have e : HasT Pg (n + 1) 9 cs = ∃ s : ByteArray, cs = [S s] ∧ s.size ≤ maxLen := by kernel_rfl
    rw [e] at h; obtain ⟨s, h, _⟩ := h; exact ⟨s, h⟩
theorem has_V {n : Nat} {cs : List AV} (h : HasT Pg n 23 cs) : ∃ v : Vl, cs = [I v.k, I v.n, S v.s] ∧ vr v := by
  cases n with
  | zero => exact h.elim
  | succ n =>
    have h := h.str
    have e : StrT Pg n 23 cs = (cs.length = 3 ∧ (HasT Pg n 3 ((cs.drop 0).take 1) ∧ (HasT Pg n 2 ((cs.drop 1).take 1) ∧ (HasT Pg n 9 ((cs.drop 2).take 1) ∧ True)))) := by kernel_rfl
    rw [e] at h
    obtain ⟨hl, h1, h2, h3, _⟩ := h
    match cs, hl with
    | [a, b, c], _ =>
      obtain ⟨i, hi, wi⟩ := has_int 3 (.inl rfl) h1
      obtain ⟨j, hj, wj⟩ := has_int 2 (.inr rfl) h2
      obtain ⟨s, hs⟩ := has_S h3
      simp at hi hj hs
      exact ⟨⟨i, j, s⟩, by simp [hi, hj, hs], wj⟩
theorem has_X : ∀ (n : Nat) {cs : List AV}, HasT Pg n 26 cs → ∃ x : Ex, cs = encC x ∧ allX vX x := by
  intro n
  induction n using Nat.strongRecOn with
  | _ n ih =>
    intro cs h
    cases n with
    | zero => exact h.elim
    | succ n =>
      have h := h.str
      have e : StrT Pg n 26 cs = (cs.length = 7 ∧ (HasT Pg n 3 ((cs.drop 0).take 1) ∧ (HasT Pg n 23 ((cs.drop 1).take 3) ∧ (HasT Pg n 9 ((cs.drop 4).take 1) ∧ (HasT Pg n 9 ((cs.drop 5).take 1) ∧ (HasT Pg n 24 ((cs.drop 6).take 1) ∧ True)))))) := by kernel_rfl
      rw [e] at h
      obtain ⟨hl, h1, h2, h3, h4, h5, _⟩ := h
      match cs, hl with
      | [a, b, c, d, e, f, g], _ =>
        obtain ⟨i, hi, wi⟩ := has_int 3 (.inl rfl) h1
        obtain ⟨v, hv, wv⟩ := has_V h2
        obtain ⟨s, hs⟩ := has_S h3
        obtain ⟨s', hs'⟩ := has_S h4
        simp at hi hv hs hs' h5
        obtain ⟨rfl, rfl, rfl⟩ := hv
        subst hi hs hs'
        cases n with
        | zero => exact h5.elim
        | succ m =>
          have e : HasT Pg (m + 1) 24 [g] = ([g] = [AV.sl 7 true .full []] ∨ ∃ xs : List AV, [g] = [AV.sl 7 false .any xs] ∧ ∀ x ∈ xs, ∃ c, x = packA Pg 26 c ∧ HasT Pg m 26 c) := by kernel_rfl
          rw [e] at h5
          rcases h5 with hg | ⟨xs, hg, hall⟩
          · simp at hg; subst hg
            exact ⟨.mk i v s s' 7 true .full [], by simp [encC, encCs], by rw [allX_eq]; exact ⟨wv, trivial⟩⟩
          · simp at hg; subst hg
            obtain ⟨l, rfl, hlv⟩ := map_of2 (f := encX) (p := allX vX) xs (fun x hx => by
              obtain ⟨c, rfl, hc⟩ := hall x hx
              obtain ⟨y, rfl, hy⟩ := ih m (by omega) hc
              exact ⟨y, by kernel_rfl, hy⟩)
            exact ⟨.mk i v s s' 7 false .any l, by simp [encC, encCs_map], by rw [allX_eq]; exact ⟨wv, allXs_of hlv⟩⟩
theorem has_Xs {n : Nat} {cs : List AV} (h : HasT Pg n 24 cs) : ∃ nil tip l, cs = [encXs 7 nil tip l] ∧ ∀ x ∈ l, allX vX x := by
  cases n with
  | zero => exact h.elim
  | succ n =>
    have e : HasT Pg (n + 1) 24 cs = (cs = [.sl 7 true .full []] ∨ ∃ xs : List AV, cs = [.sl 7 false .any xs] ∧ ∀ x ∈ xs, ∃ c, x = packA Pg 26 c ∧ HasT Pg n 26 c) := by kernel_rfl
    rw [e] at h
    rcases h with rfl | ⟨xs, rfl, h⟩
    · exact ⟨true, .full, [], rfl, fun x hx => by cases hx⟩
    · obtain ⟨l, rfl, hl⟩ := map_of2 (f := encX) (p := allX vX) xs (fun x hx => by
        obtain ⟨c, rfl, hc⟩ := h x hx
        obtain ⟨y, rfl, hy⟩ := has_X n hc
        exact ⟨y, by kernel_rfl, hy⟩)
      exact ⟨false, .any, l, rfl, hl⟩
/-! ### Small enough by its size -/
theorem sz_X (x : Ex) : sizeX x ≤ szL (encC x) ∧ (szL (encC x) ≤ 1048576 → allX okX x) := by
  induction x using Ex.ind with
  | h x ih =>
    have hs : ∀ (l : List Ex), (∀ y ∈ l, y ∈ x.l) → sizeXs l ≤ szL (l.map encX) ∧ (szL (l.map encX) ≤ 1048576 → allXs okX l) := by
      intro l
      induction l with
      | nil => intro _; simp [sizeXs, szL, allXs]
      | cons y r ihr =>
        intro hy
        obtain ⟨a1, a2⟩ := ihr (fun z hz => hy z (by simp [hz]))
        obtain ⟨b1, b2⟩ := ih y (hy y (by simp))
        simp only [sizeXs, List.map_cons, szL, encX, szA, allXs]
        exact ⟨by omega, fun h => ⟨b2 (by omega), a2 (by omega)⟩⟩
    obtain ⟨h1, h2⟩ := hs x.l (fun _ h => h)
    rw [sizeX_eq, allX_eq, encC_eq]
    have hl := length_le_szL (x.l.map encX)
    rw [List.length_map] at hl
    simp only [szL, szA, I, S, encXs]
    refine ⟨by omega, fun h => ⟨⟨by omega, by omega, by omega⟩, h2 (by omega)⟩⟩
theorem sz_Xs (l : List Ex) : sizeXs l ≤ szL (l.map encX) ∧ (szL (l.map encX) ≤ 1048576 → ∀ x ∈ l, allX okX x) := by
  induction l with
  | nil => simp [sizeXs, szL]
  | cons y r ih =>
    obtain ⟨b1, b2⟩ := sz_X y
    simp only [sizeXs, List.map_cons, szL, encX, szA]
    refine ⟨by omega, fun h x hx => ?_⟩
    rcases List.mem_cons.1 hx with rfl | hx
    · exact b2 (by omega)
    · exact ih.2 (by omega) x hx
end Go.Hx
