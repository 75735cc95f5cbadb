/- Laws of what is read: what is left, how large it is. Own work. -/
import Derived.Test.YtancdapnpceogaaGreatS5Y2
set_option maxRecDepth 20000
namespace Go.Hx
theorem numR_bad {m : Bool} {r : List Tk} {e : Int} {p : Nat} (h : numR m r = .bad e p) : e = 4 := by
  cases r with
  | nil => cases h; rfl
  | cons t r =>
    simp only [numR] at h
    split at h <;> cases h
    rfl
theorem atomR_bad {r : List Tk} {e : Int} {p : Nat} (h : atomR r = .bad e p) : e = 4 := by
  cases r with
  | nil => cases h; rfl
  | cons t r =>
    simp only [atomR] at h
    split at h
    · exact numR_bad h
    · split at h
      · cases h
      · split at h
        · simp only [fieldR] at h
          split at h
          · split at h
            · cases h; rfl
            · split at h
              · cases h
              · cases h; rfl
          · cases h; rfl
        · split at h
          · split at h
            · cases h
            · cases h; rfl
          · cases h; rfl
theorem P_ne {g : Gl} {o : Nat} {r : List Tk} {R : PR} (h : P g o r R) : ∀ e p, R = .bad e p → e ≠ 0 := by
  induction h with
  | neg_num h1 h2 => intro e p h; rw [numR_bad h]; decide
  | last_atom h1 => intro e p h; rw [atomR_bad h]; decide
  | row_bad _ ih => exact ih
  | row_ok _ _ _ ih => exact ih
  | more_no => intro e p h; cases h
  | more_bad _ _ ih => exact ih
  | more_ok _ _ _ _ ih => exact ih
  | not_no _ _ ih => exact ih
  | not_long => intro e p h; cases h; decide
  | not_bad _ _ _ ih => exact ih
  | not_ok => intro e p h; cases h
  | cmp_bad _ ih => exact ih
  | cmp_no => intro e p h; cases h
  | cmp_bad2 _ _ _ _ ih => exact ih
  | cmp_ok => intro e p h; cases h
  | left_bad _ ih => exact ih
  | left_ok _ _ _ ih => exact ih
  | lmore_no => intro e p h; cases h
  | lmore_bad _ _ ih => exact ih
  | lmore_ok _ _ _ _ ih => exact ih
  | neg_no _ _ ih => exact ih
  | neg_long => intro e p h; cases h; decide
  | neg_bad _ _ _ _ ih => exact ih
  | neg_ok => intro e p h; cases h
  | last_long => intro e p h; cases h; decide
  | last_bad _ _ _ ih => exact ih
  | last_open => intro e p h; cases h; decide
  | last_ok => intro e p h; cases h
/-- what is left ends what there was -/
def Suf (r r1 : List Tk) : Prop := endsT r1 ∧ ∃ pre, r = pre ++ r1
theorem Suf.refl {r : List Tk} (h : endsT r) : Suf r r := ⟨h, [], rfl⟩
theorem Suf.trans {r r1 r2 : List Tk} (h : Suf r r1) (h' : Suf r1 r2) : Suf r r2 := by
  obtain ⟨_, p1, rfl⟩ := h
  obtain ⟨h2, p2, rfl⟩ := h'
  exact ⟨h2, p1 ++ p2, by simp⟩
theorem Suf.cons {t : Tk} {r r1 : List Tk} (h : Suf r r1) : Suf (t :: r) r1 := by
  obtain ⟨h1, p, rfl⟩ := h
  exact ⟨h1, t :: p, rfl⟩
theorem Suf.len {r r1 : List Tk} (h : Suf r r1) : r1.length ≤ r.length := by
  obtain ⟨_, p, rfl⟩ := h
  simp
theorem Suf.mem {r r1 : List Tk} (h : Suf r r1) {p : Tk → Prop} (hp : ∀ t ∈ r, p t) : ∀ t ∈ r1, p t := by
  obtain ⟨_, q, rfl⟩ := h
  exact fun t ht => hp t (by simp [ht])
def SufR (r : List Tk) : PR → Prop
  | .ok _ r1 => Suf r r1
  | .bad _ _ => True
theorem numR_suf {m : Bool} {r : List Tk} (h : endsT r) (hk : kindN r = 3) : SufR r (numR m r) := by
  cases r with
  | nil => exact h.elim
  | cons t r =>
    simp only [numR]
    split
    · trivial
    · exact (Suf.refl (endsT_tail h (by simp only [kindN] at hk; omega))).cons
theorem atomR_suf {r : List Tk} (h : endsT r) : SufR r (atomR r) := by
  cases r with
  | nil => exact h.elim
  | cons t r =>
    simp only [atomR]
    split
    · exact numR_suf h (by simpa [kindN])
    · rename_i h3
      split
      · rename_i h4; exact (Suf.refl (endsT_tail h (by omega))).cons
      · split
        · rename_i h2
          have ht := endsT_tail h (by omega : t.k ≠ 6)
          simp only [fieldR]
          split
          · rename_i hn
            obtain ⟨u, r1, rfl, hu, _⟩ := nextIs_ne hn
            have ht1 := endsT_tail ht (by omega : u.k ≠ 6)
            simp only [List.tail_cons]
            split
            · trivial
            · rename_i v r2
              split
              · exact (Suf.refl (endsT_tail ht1 (by omega))).cons.cons.cons
              · trivial
          · trivial
        · split
          · split
            · exact (Suf.refl (endsT_tail h (by omega))).cons
            · trivial
          · trivial
theorem nextIs_cons {k : Int} {s : ByteArray} {t : Tk} {r : List Tk} (h : nextIs k s (t :: r) = true) : t.k = k ∧ t.s = s := by
  simp only [nextIs, Bool.and_eq_true, decide_eq_true_eq] at h; exact h
theorem opOf_cons {lo hi k : Int} {t : Tk} {r : List Tk} (h : opOf lo hi (t :: r) = some k) : t.k = 5 := by
  obtain ⟨u, r1, e, hu⟩ := opOf_ne h
  cases e; exact hu
theorem P_suf {g : Gl} {o : Nat} {r : List Tk} {R : PR} (h : P g o r R) : endsT r → SufR r R := by
  have tl : ∀ {k : Int} {s : ByteArray} {t : Tk} {r : List Tk}, k ≠ 6 → nextIs k s (t :: r) = true → endsT (t :: r) → endsT r := fun hk h he => endsT_tail he (by rw [(nextIs_cons h).1]; exact hk)
  have tl5 : ∀ {lo hi k : Int} {t : Tk} {r : List Tk}, opOf lo hi (t :: r) = some k → endsT (t :: r) → endsT r := fun h he => endsT_tail he (by rw [opOf_cons h]; decide)
  have up : ∀ {r r1 : List Tk} {R : PR}, Suf r r1 → SufR r1 R → SufR r R := fun {r r1 R} h1 h2 => by
    cases R with
    | ok => exact h1.trans h2
    | bad => trivial
  have upc : ∀ {t : Tk} {r : List Tk} {R : PR}, SufR r R → SufR (t :: r) R := fun {t r R} h2 => by
    cases R with
    | ok => exact Suf.cons h2
    | bad => trivial
  induction h with
  | neg_num h1 h2 => intro he; exact upc (numR_suf (tl (by decide) h1 he) h2)
  | last_atom h1 => intro he; exact atomR_suf he
  | row_bad _ ih => exact fun _ => trivial
  | row_ok _ _ ih1 ih2 => intro he; have h1 := ih1 he; exact up h1 (ih2 h1.1)
  | more_no => intro he; exact Suf.refl he
  | more_bad => exact fun _ => trivial
  | more_ok hn _ _ ih1 ih2 => intro he; have h1 := ih1 (tl (by decide) hn he); exact upc (up h1 (ih2 h1.1))
  | not_no _ _ ih => exact ih
  | not_long => exact fun _ => trivial
  | not_bad => exact fun _ => trivial
  | not_ok hn _ _ ih => intro he; exact Suf.cons (ih (tl (by decide) hn he))
  | cmp_bad => exact fun _ => trivial
  | cmp_no _ _ ih => exact ih
  | cmp_bad2 => exact fun _ => trivial
  | cmp_ok _ hk _ ih1 ih2 => intro he; have h1 := ih1 he; exact h1.trans (Suf.cons (ih2 (tl5 hk h1.1)))
  | left_bad => exact fun _ => trivial
  | left_ok _ _ ih1 ih2 => intro he; have h1 := ih1 he; exact up h1 (ih2 h1.1)
  | lmore_no => intro he; exact Suf.refl he
  | lmore_bad => exact fun _ => trivial
  | lmore_ok hk _ _ ih1 ih2 => intro he; have h1 := ih1 (tl5 hk he); exact upc (up h1 (ih2 h1.1))
  | neg_no _ _ ih => exact ih
  | neg_long => exact fun _ => trivial
  | neg_bad => exact fun _ => trivial
  | neg_ok hn _ _ _ ih => intro he; exact Suf.cons (ih (tl (by decide) hn he))
  | last_long => exact fun _ => trivial
  | last_bad => exact fun _ => trivial
  | last_open => exact fun _ => trivial
  | last_ok hn _ _ hs ih => intro he; have h1 := ih (tl (by decide) hn he); exact Suf.cons (Suf.trans h1 ((Suf.refl (tl (by decide) hs h1.1)).cons))
/-! ### How large it is -/
theorem sizeX_nd (k : Int) (v : Vl) (a b : ByteArray) (l : List Ex) : sizeX (nd k v a b l) = 1 + sizeXs l := by simp [nd, sizeX]
theorem sizeXs_parts (k : Int) (l : List Ex) : sizeXs (partsJ k l) ≤ sizeXs l := by
  induction l with
  | nil => simp [partsJ, sizeXs]
  | cons x l ih =>
    have e : partsJ k (x :: l) = (if x.k = k then x.l else [x]) ++ partsJ k l := by simp [partsJ]
    rw [e, sizeXs_append]
    have := sizeX_eq x
    simp only [sizeXs]
    split
    · omega
    · simp only [sizeXs]; omega
theorem size_join (k : Int) (l : List Ex) (hl : l ≠ []) : sizeX (joinE k l) ≤ sizeXs l + if l.length ≤ 1 then 0 else 1 := by
  have hp := sizeXs_parts k l
  have h1 := len_sizeXs l
  have hl' : 1 ≤ l.length := List.length_pos_iff.2 hl
  simp only [joinE]
  split
  · rw [sizeX_nd]; simp only [sizeXs]; omega
  · rename_i x hx; rw [hx] at hp; simp only [sizeXs] at hp; omega
  · rename_i hne hns
    rw [sizeX_nd]
    split
    · rename_i h1
      obtain ⟨x, rfl⟩ := List.length_eq_one_iff.1 (by omega : l.length = 1)
      have e : partsJ k [x] = if x.k = k then x.l else [x] := by simp [partsJ]
      rw [e] at hns ⊢
      by_cases hk : x.k = k
      · rw [if_pos hk]; have := sizeX_eq x; simp only [sizeXs]; omega
      · rw [if_neg hk] at hns; exact (hns x rfl).elim
    · omega
def SizeR (g : Gl) (r : List Tk) : PR → Prop
  | .bad _ _ => True
  | .ok x r1 => match g with
    | .more _ l => l ≠ [] → sizeX x + r1.length ≤ r.length + sizeXs l + if l.length ≤ 1 then 0 else 1
    | .lmore _ y => sizeX x + r1.length ≤ r.length + sizeX y
    | _ => sizeX x + r1.length ≤ r.length
theorem numR_size {m : Bool} {r : List Tk} {x : Ex} {r1 : List Tk} (h : numR m r = .ok x r1) : sizeX x + r1.length ≤ r.length := by
  cases r with
  | nil => cases h
  | cons t r =>
    simp only [numR] at h
    split at h <;> cases h
    rw [sizeX_nd]; simp [sizeXs]; omega
theorem atomR_size {r : List Tk} {x : Ex} {r1 : List Tk} (h : atomR r = .ok x r1) : sizeX x + r1.length ≤ r.length := by
  cases r with
  | nil => cases h
  | cons t r =>
    simp only [atomR] at h
    split at h
    · exact numR_size h
    · split at h
      · cases h; rw [sizeX_nd]; simp [sizeXs]; omega
      · split at h
        · simp only [fieldR] at h
          split at h
          · rename_i hn
            obtain ⟨u, r2, rfl, hu, _⟩ := nextIs_ne hn
            simp only [List.tail_cons] at h
            split at h
            · cases h
            · split at h
              · cases h; rw [sizeX_nd]; simp [sizeXs]; omega
              · cases h
          · cases h
        · split at h
          · split at h
            · cases h; rw [sizeX_nd]; simp [sizeXs]; omega
            · cases h
          · cases h
theorem P_size {g : Gl} {o : Nat} {r : List Tk} {R : PR} (h : P g o r R) : SizeR g r R := by
  have gp : ∀ (b : Bool) {r : List Tk} {x : Ex} {r1 : List Tk}, SizeR (rowP b) r (.ok x r1) → sizeX x + r1.length ≤ r.length := fun b => by cases b <;> exact id
  have gl : ∀ (b : Bool) {r : List Tk} {x : Ex} {r1 : List Tk}, SizeR (leftP b) r (.ok x r1) → sizeX x + r1.length ≤ r.length := fun b => by cases b <;> exact id
  induction h with
  | neg_num h1 h2 =>
    rename_i o t r
    cases hr : numR true r with
    | bad => trivial
    | ok x r1 => have := numR_size hr; show _ ≤ _; simp; omega
  | last_atom h1 =>
    rename_i o r
    cases hr : atomR r with
    | bad => trivial
    | ok x r1 => exact atomR_size hr
  | row_bad => trivial
  | row_ok _ _ ih1 ih2 =>
    rename_i b o r x r1 R _ _
    cases R with
    | bad => trivial
    | ok y r2 =>
      have h1 := gp b ih1
      have h2 := ih2 (by simp)
      simp only [sizeXs, List.length_singleton, Nat.le_refl, if_true] at h2
      show _ ≤ _
      omega
  | more_no =>
    rename_i b l o r hn
    intro hl
    have := size_join (rowK b) l hl
    omega
  | more_bad => trivial
  | more_ok hn _ _ ih1 ih2 =>
    rename_i b l o t r x r1 R _ _
    cases R with
    | bad => trivial
    | ok y r2 =>
      intro hl
      have h1 := gp b ih1
      have h2 := ih2 (by simp)
      rw [sizeXs_append] at h2
      have hl' : 1 ≤ l.length := List.length_pos_iff.2 hl
      simp only [sizeXs, List.length_append, List.length_singleton] at h2
      rw [if_neg (by omega)] at h2
      simp only [List.length_cons]
      omega
  | not_no _ _ ih =>
    rename_i R _ _
    cases R with
    | bad => trivial
    | ok => exact ih
  | not_long => trivial
  | not_bad => trivial
  | not_ok hn _ _ ih =>
    have h1 : _ ≤ _ := ih
    show _ ≤ _
    rw [sizeX_nd]; simp only [sizeXs, List.length_cons]; omega
  | cmp_bad => trivial
  | cmp_no _ _ ih => exact ih
  | cmp_bad2 => trivial
  | cmp_ok _ hk _ ih1 ih2 =>
    have h1 : _ ≤ _ := ih1
    have h2 : _ ≤ _ := ih2
    show _ ≤ _
    simp only [List.length_cons] at h1
    rw [sizeX_nd]; simp only [sizeXs]; omega
  | left_bad => trivial
  | left_ok _ _ ih1 ih2 =>
    rename_i b o r x r1 R _ _
    cases R with
    | bad => trivial
    | ok y r2 =>
      have h1 := gl b ih1
      have h2 : _ ≤ _ := ih2
      show _ ≤ _
      omega
  | lmore_no => show _ ≤ _; omega
  | lmore_bad => trivial
  | lmore_ok hk _ _ ih1 ih2 =>
    rename_i b x o t r k y r1 R _ _
    cases R with
    | bad => trivial
    | ok z r2 =>
      have h1 := gl b ih1
      have h2 : _ ≤ _ := ih2
      rw [sizeX_nd] at h2
      simp only [sizeXs] at h2
      show _ ≤ _
      simp only [List.length_cons]; omega
  | neg_no _ _ ih =>
    rename_i R _ _
    cases R with
    | bad => trivial
    | ok => exact ih
  | neg_long => trivial
  | neg_bad => trivial
  | neg_ok hn _ _ _ ih =>
    have h1 : _ ≤ _ := ih
    show _ ≤ _
    rw [sizeX_nd]; simp only [sizeXs, List.length_cons]; omega
  | last_long => trivial
  | last_bad => trivial
  | last_open => trivial
  | last_ok hn _ _ hs ih =>
    have h1 : _ ≤ _ := ih
    show _ ≤ _
    simp only [List.length_cons] at h1 ⊢; omega
/-! ### Tokens as texts have them -/
def okTk (t : Tk) : Prop := t.s.size ≤ 1099511627775 ∧ (t.k = 3 → DigL false (tx t.s)) ∧ (t.k = 4 → t.s.size ≤ 256)
def gX (x : Ex) : Prop := x.var.size ≤ 1099511627776 ∧ x.fld.size ≤ 1099511627776 ∧ vr x.v
theorem allX_nd {p : Ex → Prop} (k : Int) (v : Vl) (a b : ByteArray) (l : List Ex) : allX p (nd k v a b l) ↔ p (nd k v a b l) ∧ allXs p l := by simp [nd, allX]
theorem allXs_of {p : Ex → Prop} {l : List Ex} (h : ∀ x ∈ l, allX p x) : allXs p l := by
  induction l with
  | nil => trivial
  | cons x l ih => exact ⟨h x (by simp), ih fun y hy => h y (by simp [hy])⟩
theorem gX_nd {k : Int} {v : Vl} (hv : vr v) (l : List Ex) : gX (nd k v e0 e0 l) := ⟨by show 0 ≤ _; omega, by show 0 ≤ _; omega, hv⟩
theorem vr_null : vr nullV := ⟨by show _ ≤ (0 : Int); omega, by show (0 : Int) ≤ _; omega⟩
def GoodR : PR → Prop
  | .bad _ _ => True
  | .ok x _ => allX gX x
theorem numOf_rng {m : Bool} {s : ByteArray} {n : Int} (h : numOf m s = some n) : rng n := by
  simp only [numOf] at h
  split at h
  · split at h
    · cases h; exact ⟨by omega, by omega⟩
    · cases h
  · split at h
    · cases h; exact ⟨by omega, by omega⟩
    · cases h
theorem numR_good {m : Bool} {r : List Tk} : GoodR (numR m r) := by
  cases r with
  | nil => trivial
  | cons t r =>
    simp only [numR]
    split
    · trivial
    · rename_i n hn
      exact (allX_nd _ _ _ _ _).2 ⟨gX_nd (numOf_rng hn) _, trivial⟩
theorem atomR_good {r : List Tk} (h : ∀ t ∈ r, okTk t) : GoodR (atomR r) := by
  cases r with
  | nil => trivial
  | cons t r =>
    simp only [atomR]
    have z : rng 0 := ⟨by omega, by omega⟩
    have o : rng 1 := ⟨by omega, by omega⟩
    split
    · exact numR_good
    · split
      · exact (allX_nd _ _ _ _ _).2 ⟨gX_nd (show vr (textV t.s) from z) _, trivial⟩
      · split
        · simp only [fieldR]
          split
          · rename_i hn
            obtain ⟨u, r2, rfl, hu, _⟩ := nextIs_ne hn
            simp only [List.tail_cons]
            split
            · trivial
            · rename_i v r3
              split
              · have h1 := (h t (by simp)).1
                have h2 := (h v (by simp)).1
                exact (allX_nd _ _ _ _ _).2 ⟨⟨by show t.s.size ≤ _; omega, by show v.s.size ≤ _; omega, vr_null⟩, trivial⟩
              · trivial
          · trivial
        · split
          · split
            · rename_i v hv
              refine (allX_nd _ _ _ _ _).2 ⟨gX_nd ?_ _, trivial⟩
              simp only [wordV] at hv
              split at hv
              · cases hv; exact o
              · split at hv
                · cases hv; exact z
                · split at hv
                  · cases hv; exact z
                  · cases hv
            · trivial
          · trivial
theorem good_join {k : Int} {l : List Ex} (h : ∀ x ∈ l, allX gX x) : allX gX (joinE k l) := by
  have hp : ∀ x ∈ partsJ k l, allX gX x := fun x hx => by
    simp only [partsJ, List.mem_flatMap] at hx
    obtain ⟨y, hy, hx⟩ := hx
    split at hx
    · exact allXs_mem ((allX_eq _ _).1 (h y hy)).2 hx
    · simp at hx; subst hx; exact h _ hy
  simp only [joinE]
  split
  · refine (allX_nd _ _ _ _ _).2 ⟨gX_nd ?_ _, trivial⟩
    by_cases hk : k = 16 <;> simp [hk, boolV, vr, rng]
  · rename_i x hx; exact hp x (by rw [hx]; simp)
  · exact (allX_nd _ _ _ _ _).2 ⟨gX_nd vr_null _, allXs_of hp⟩
theorem P_good {g : Gl} {o : Nat} {r : List Tk} {R : PR} (h : P g o r R) : (∀ t ∈ r, okTk t) → endsT r → (∀ b l, g = .more b l → ∀ x ∈ l, allX gX x) → (∀ b x, g = .lmore b x → allX gX x) → GoodR R := by
  have tl : ∀ {k : Int} {s : ByteArray} {t : Tk} {r : List Tk}, k ≠ 6 → nextIs k s (t :: r) = true → endsT (t :: r) → endsT r := fun hk h he => endsT_tail he (by rw [(nextIs_cons h).1]; exact hk)
  have tl5 : ∀ {lo hi k : Int} {t : Tk} {r : List Tk}, opOf lo hi (t :: r) = some k → endsT (t :: r) → endsT r := fun h he => endsT_tail he (by rw [opOf_cons h]; decide)
  have tm : ∀ {t : Tk} {r : List Tk}, (∀ u ∈ t :: r, okTk u) → ∀ u ∈ r, okTk u := fun h u hu => h u (by simp [hu])
  have bin : ∀ {k : Int} {x y : Ex}, allX gX x → allX gX y → allX gX (nd k nullV e0 e0 [x, y]) := fun h1 h2 => (allX_nd _ _ _ _ _).2 ⟨gX_nd vr_null _, h1, h2, trivial⟩
  have un : ∀ {k : Int} {x : Ex}, allX gX x → allX gX (nd k nullV e0 e0 [x]) := fun h1 => (allX_nd _ _ _ _ _).2 ⟨gX_nd vr_null _, h1, trivial⟩
  have rp : ∀ b b' l, rowP b ≠ .more b' l := fun b b' l h => by cases b <;> cases h
  have rp' : ∀ b b' l, rowP b ≠ .lmore b' l := fun b b' l h => by cases b <;> cases h
  have lp : ∀ b b' l, leftP b ≠ .more b' l := fun b b' l h => by cases b <;> cases h
  have lp' : ∀ b b' l, leftP b ≠ .lmore b' l := fun b b' l h => by cases b <;> cases h
  induction h with
  | neg_num h1 h2 => intros; exact numR_good
  | last_atom h1 => intro ht _ _ _; exact atomR_good ht
  | row_bad => intros; trivial
  | row_ok h1 _ ih1 ih2 =>
    intro ht he _ _
    have hs : Suf _ _ := P_suf h1 he
    have g1 : allX gX _ := ih1 ht he (fun _ _ h => (rp _ _ _ h).elim) (fun _ _ h => (rp' _ _ _ h).elim)
    exact ih2 (hs.mem ht) hs.1 (fun _ _ h x hx => by cases h; simp at hx; subst hx; exact g1) (fun _ _ h => by cases h)
  | more_no => intro ht he hl _; exact good_join (hl _ _ rfl)
  | more_bad => intros; trivial
  | more_ok hn h1 _ ih1 ih2 =>
    intro ht he hl _
    have he' := tl (by decide) hn he
    have hs : Suf _ _ := P_suf h1 he'
    have g1 : allX gX _ := ih1 (tm ht) he' (fun _ _ h => (rp _ _ _ h).elim) (fun _ _ h => (rp' _ _ _ h).elim)
    refine ih2 (hs.mem (tm ht)) hs.1 (fun _ _ h x hx => ?_) (fun _ _ h => by cases h)
    cases h
    simp only [List.mem_append, List.mem_singleton] at hx
    rcases hx with hx | hx
    · exact hl _ _ rfl x hx
    · subst hx; exact g1
  | not_no _ _ ih => intro ht he _ _; exact ih ht he (fun _ _ h => by cases h) (fun _ _ h => by cases h)
  | not_long => intros; trivial
  | not_bad => intros; trivial
  | not_ok hn _ _ ih => intro ht he _ _; exact un (ih (tm ht) (tl (by decide) hn he) (fun _ _ h => by cases h) (fun _ _ h => by cases h))
  | cmp_bad => intros; trivial
  | cmp_no _ _ ih => intro ht he _ _; exact ih ht he (fun _ _ h => by cases h) (fun _ _ h => by cases h)
  | cmp_bad2 => intros; trivial
  | cmp_ok h1 hk _ ih1 ih2 =>
    intro ht he _ _
    have hs : Suf _ _ := P_suf h1 he
    exact bin (ih1 ht he (fun _ _ h => by cases h) (fun _ _ h => by cases h)) (ih2 (tm (hs.mem ht)) (tl5 hk hs.1) (fun _ _ h => by cases h) (fun _ _ h => by cases h))
  | left_bad => intros; trivial
  | left_ok h1 _ ih1 ih2 =>
    intro ht he _ _
    have hs : Suf _ _ := P_suf h1 he
    have g1 : allX gX _ := ih1 ht he (fun _ _ h => (lp _ _ _ h).elim) (fun _ _ h => (lp' _ _ _ h).elim)
    exact ih2 (hs.mem ht) hs.1 (fun _ _ h => by cases h) (fun _ _ h => by cases h; exact g1)
  | lmore_no => intro ht he _ hx; exact hx _ _ rfl
  | lmore_bad => intros; trivial
  | lmore_ok hk h1 _ ih1 ih2 =>
    intro ht he _ hx
    have he' := tl5 hk he
    have hs : Suf _ _ := P_suf h1 he'
    have g1 : allX gX _ := ih1 (tm ht) he' (fun _ _ h => (lp _ _ _ h).elim) (fun _ _ h => (lp' _ _ _ h).elim)
    exact ih2 (hs.mem (tm ht)) hs.1 (fun _ _ h => by cases h) (fun _ _ h => by cases h; exact bin (hx _ _ rfl) g1)
  | neg_no _ _ ih => intro ht he _ _; exact ih ht he (fun _ _ h => by cases h) (fun _ _ h => by cases h)
  | neg_long => intros; trivial
  | neg_bad => intros; trivial
  | neg_ok hn _ _ _ ih => intro ht he _ _; exact un (ih (tm ht) (tl (by decide) hn he) (fun _ _ h => by cases h) (fun _ _ h => by cases h))
  | last_long => intros; trivial
  | last_bad => intros; trivial
  | last_open => intros; trivial
  | last_ok hn _ _ hs ih => intro ht he _ _; exact ih (tm ht) (tl (by decide) hn he) (fun _ _ h => by cases h) (fun _ _ h => by cases h)
/-! ### How slices lie -/
theorem norm_k (x : Ex) : (norm x).k = x.k := by rw [norm_eq]; rfl
theorem norm_v (x : Ex) : (norm x).v = x.v := by rw [norm_eq]; rfl
theorem norm_var (x : Ex) : (norm x).var = x.var := by rw [norm_eq]; rfl
theorem norm_fld (x : Ex) : (norm x).fld = x.fld := by rw [norm_eq]; rfl
theorem norm_l (x : Ex) : (norm x).l = x.l.map norm := by rw [norm_eq]; rfl
theorem norm_size (x : Ex) : sizeX (norm x) = sizeX x := by
  induction x using Ex.ind with
  | h x ih =>
    rw [sizeX_eq, sizeX_eq x, norm_l]
    have : ∀ l : List Ex, (∀ y ∈ l, y ∈ x.l) → sizeXs (l.map norm) = sizeXs l := by
      intro l
      induction l with
      | nil => intro _; rfl
      | cons y l ihl => intro h; simp only [List.map_cons, sizeXs, ih y (h y (by simp)), ihl fun z hz => h z (by simp [hz])]
    rw [this x.l fun _ h => h]
theorem norm_right (x : Ex) : rightP (norm x) = rightP x := by
  have hb : bareP (norm x) = bareP x := by simp only [bareP, norm_v, norm_var, norm_fld]
  have ha : (norm x).l.any (fun y => decide (y.k = (norm x).k)) = x.l.any fun y => decide (y.k = x.k) := by
    rw [norm_l, List.any_map, norm_k]
    congr 1
    funext y
    simp only [Function.comp, norm_k]
  simp only [rightP, hb, norm_k, norm_v, norm_var, norm_fld, norm_l, List.length_map]
  rw [norm_l, norm_k] at ha
  simp only [ha]
theorem norm_allR (x : Ex) : allR (norm x) = allR x := by
  induction x using Ex.ind with
  | h x ih =>
    rw [allR_eq, allR_eq x, norm_right, norm_l]
    have : ∀ l : List Ex, (∀ y ∈ l, y ∈ x.l) → allRs (l.map norm) = allRs l := by
      intro l
      induction l with
      | nil => intro _; rfl
      | cons y l ihl => intro h; simp only [List.map_cons, allRs, ih y (h y (by simp)), ihl fun z hz => h z (by simp [hz])]
    rw [this x.l fun _ h => h]
theorem norm_gX (x : Ex) : allX gX (norm x) ↔ allX gX x := by
  induction x using Ex.ind with
  | h x ih =>
    rw [allX_eq, allX_eq gX x, norm_l]
    have : ∀ l : List Ex, (∀ y ∈ l, y ∈ x.l) → (allXs gX (l.map norm) ↔ allXs gX l) := by
      intro l
      induction l with
      | nil => intro _; exact Iff.rfl
      | cons y l ihl => intro h; simp only [List.map_cons, allXs, ih y (h y (by simp)), ihl fun z hz => h z (by simp [hz])]
    rw [this x.l fun _ h => h]
    simp only [gX, norm_var, norm_fld, norm_v]
theorem gX_ok {x : Ex} (h : allX gX x) (hs : sizeX x ≤ 1099511627776) : allX okX x ∧ allX vX x := by
  induction x using Ex.ind with
  | h x ih =>
    have h' := (allX_eq _ _).1 h
    have hs' := sizeX_eq x
    have hl := len_sizeXs x.l
    have : ∀ l : List Ex, (∀ y ∈ l, y ∈ x.l) → sizeXs l ≤ 1099511627776 → allXs okX l ∧ allXs vX l := by
      intro l
      induction l with
      | nil => intro _ _; exact ⟨trivial, trivial⟩
      | cons y l ihl =>
        intro hy hl
        simp only [sizeXs] at hl
        have h1 := ih y (hy y (by simp)) (allXs_mem h'.2 (hy y (by simp))) (by omega)
        have h2 := ihl (fun z hz => hy z (by simp [hz])) (by omega)
        exact ⟨⟨h1.1, h2.1⟩, h1.2, h2.2⟩
    have := this x.l (fun _ h => h) (by omega)
    exact ⟨(allX_eq _ _).2 ⟨⟨by omega, h'.1.1, h'.1.2.1⟩, this.1⟩, (allX_eq _ _).2 ⟨h'.1.2.2, this.2⟩⟩
end Go.Hx
