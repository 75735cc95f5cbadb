/- Contracts of the program's quotes, read; of all tokens. Own work. -/
import Derived.Test.YtancdapnpceogaaGreatS5V
set_option maxRecDepth 20000
namespace Go.Hx
/-! ### Digits of base 16 -/
def idxH (n : Nat) : Nat → Nat → Int
  | 0, _ => -1
  | k + 1, j => if (hexD j).toNat = n then j else idxH n k (j + 1)
def hexI (n : Nat) : Int := match hexN n with
  | some a => a
  | none => -1
theorem idxH_eq : ∀ n : Fin 256, idxH n.1 16 0 = hexI n.1 := by decide +kernel
theorem c308 (c : UInt8) (H : Heap) (Q : Post) (hq : ∀ H', HExt H H' → Q (I (hexI c.toNat)) H') : E 308 [byteA c] H Q := by
  have loop : ∀ (k j : Nat) (H : Heap), j + k = 16 → f308_l6 (byteA c) (.agg hexC) (I j) H Q = Q (I (idxH c.toNat k j)) H := by
    intro k
    induction k with
    | zero =>
      intro j H e
      have : decide ((j : Int) < 16) = false := by simp; omega
      rw [f308_l6_eq, i_lss, ob_some, this, cnd_f, idxH]
    | succ k ih =>
      intro j H e
      have h1 : decide ((j : Int) < 16) = true := by simp; omega
      have hix : ixAgg 16 false 1 (.agg hexC) (I j) = some (byteA (hexD j)) := by
        have h0 : (0 : Int) ≤ (j : Int) ∧ (j : Int) < ((16 : Nat) : Int) := by omega
        simp only [ixAgg, I, if_pos h0, Int.toNat_natCast, part_f, Nat.mul_one, hex_get (by omega : j < 16)]
      rw [f308_l6_eq, i_lss, ob_some, h1, cnd_t, hix, ob_some]
      have hbe : binA Pg .eql 5 false (byteA (hexD j)) (byteA c) = some (B (decide ((hexD j).toNat = c.toNat))) := b_eq39 (hexD j) c.toNat 5 false
      rw [hbe, ob_some, cnd_B, i_add, ob_some, w64_succ (n := 16) (by omega) (by omega), ih (j + 1) H (by omega), idxH]
      simp only [decide_eq_true_eq]
      split <;> rfl
  rw [f308_eq]
  refine c289 H _ (fun H1 e1 => ?_)
  have := loop 16 0 H1 rfl
  refine this.mpr ?_
  rw [idxH_eq ⟨c.toNat, byte_lt c⟩]
  exact hq H1 e1
theorem shl4 : ∀ a : Fin 16, binA Pg .shl 3 true (I (a.1 : Int)) (U64 4) = some (I ((16 * a.1 : Nat) : Int)) := by
  intro a
  have : ∀ a : Fin 16, IntKind.i64.wrap ((a.1 : Int) * 16) = ((16 * a.1 : Nat) : Int) := by decide +kernel
  rw [← this a]; rfl
theorem or4 : ∀ a b : Fin 16, bitsI .or .i64 ((16 * a.1 : Nat) : Int) (b.1 : Int) = ((16 * a.1 + b.1 : Nat) : Int) := by decide +kernel
theorem i_or (t : TypeId) (l : Bool) (a b : Int) : binA Pg .or t l (I a) (I b) = some (I (bitsI .or .i64 a b)) := rfl
theorem hexN_lt {n a : Nat} (h : hexN n = some a) : a < 16 := by
  simp only [hexN] at h
  split at h
  · cases h; omega
  · split at h
    · cases h; omega
    · cases h
def resE (K : Bool → UInt8 → Nat → Prop) : ER → Prop
  | .ok c n => K true c n
  | .bad q => K false 0 q
section
variable {T : Nat → Option Nat} {H0 H : Heap} {b : Nat} {s : ByteArray} {pre r : List UInt8} {Q : Post}
theorem c298 {p : Nat} (h : Sc H0 T b s p H) : E 298 [Pt b] H Q = Q (B (decide (s.size ≤ p))) H := by
  rw [f298_eq]
  simp only [nil_Pt, ob_some, add_Pt, h.ld0, h.ld1, len_S, i_geq]
  have : decide ((s.size : Int) ≤ (p : Int)) = decide (s.size ≤ p) := by simp
  rw [this]
theorem done_nil (e : tx s = pre ++ []) : decide (s.size ≤ pre.length) = true := by have := size_bound e; simp at this ⊢; omega
theorem done_cons {c : UInt8} (e : tx s = pre ++ c :: r) : decide (s.size ≤ pre.length) = false := by have := size_bound e; simp at this ⊢; omega
theorem step1 {c : UInt8} (h : Sc H0 T b s pre.length H) (e : tx s = pre ++ c :: r) (hsz : s.size ≤ 1099511627776) (K : Heap → Prop) (hk : ∀ H', Sc H0 T b s (pre ++ [c]).length H' → tx s = (pre ++ [c]) ++ r → (pre ++ [c]).length = pre.length + 1 → K H') :
    (ob (binA Pg .add 3 true (I pre.length) (I 1)) fun r19 => ob (stH H 1 (Poff b 1) r19) fun H22 => K H22) := by
  have hb := size_bound e
  simp only [List.length_cons] at hb
  rw [i_add, ob_some, w64_succ (n := s.size) (by omega) (by omega), h.st1, ob_some]
  exact hk _ (by rw [List.length_append]; exact h.set _) (by simp [e]) (by simp)
theorem c305 (h : Sc H0 T b s pre.length H) (e : tx s = pre ++ r) (hsz : s.size ≤ 1099511627776)
    (hok : ∀ c n H', hexR pre.length r = .ok c n → Sc H0 T b s (pre.length + n) H' → Q (.tup [byteA c, B true]) H')
    (hbad : ∀ q H', hexR pre.length r = .bad q → Sc H0 T b s q H' → Q (.tup [U8 0, B false]) H') : E 305 [Pt b] H Q := by
  have l0 : decide ((0 : Int) < 2) = true := rfl
  have l1 : decide ((1 : Int) < 2) = true := rfl
  have l2 : decide ((2 : Int) < 2) = false := rfl
  rw [f305_eq, f305_l8_eq, i_lss, l0, ob_some, cnd_t, c298 h]
  cases r with
  | nil => rw [done_nil e, cnd_t]; exact hbad _ H rfl h
  | cons x r =>
    rw [done_cons e, cnd_f]
    simp only [nil_Pt, ob_some, add_Pt, h.ld0, h.ld1, ixS s pre r x e]
    refine c308 x H _ (fun H1 e1 => ?_)
    have h1 := h.mono e1
    cases hx : hexV x with
    | none =>
      have hi : hexI x.toNat = -1 := by rw [hexV] at hx; simp [hexI, hx]
      have : decide ((-1 : Int) < 0) = true := rfl
      rw [hi, i_lss, ob_some, this, cnd_t]
      exact hbad _ H1 (by simp [hexR, hx]) h1
    | some a =>
      have hi : hexI x.toNat = (a : Int) := by rw [hexV] at hx; simp [hexI, hx]
      have ha : a < 16 := hexN_lt hx
      have hn : decide ((a : Int) < 0) = false := by simp
      have s0 : binA Pg .shl 3 true (I 0) (AV.raw (.int .u64 4)) = some (I 0) := shl4 ⟨0, by omega⟩
      have o0 : bitsI .or .i64 0 (a : Int) = (a : Int) := by have := or4 ⟨0, by omega⟩ ⟨a, ha⟩; simpa using this
      rw [hi, i_lss, ob_some, hn, cnd_f, s0, ob_some, i_or, o0, ob_some]
      simp only [nil_Pt, ob_some, add_Pt, h1.ld1]
      refine step1 h1 e hsz _ (fun H2 h2 e2 hl2 => ?_)
      have a1 : W64 (0 + 1) = 1 := rfl
      rw [i_add, a1, ob_some, f305_l8_eq, i_lss, l1, ob_some, cnd_t, c298 h2]
      cases r with
      | nil => rw [done_nil e2, cnd_t]; exact hbad (pre.length + 1) H2 (by simp [hexR, hx]) (by rw [hl2] at h2; exact h2)
      | cons y r =>
        rw [done_cons e2, cnd_f]
        simp only [nil_Pt, ob_some, add_Pt, h2.ld0, h2.ld1, ixS s _ r y e2]
        refine c308 y H2 _ (fun H3 e3 => ?_)
        have h3 := h2.mono e3
        cases hy : hexV y with
        | none =>
          have hi : hexI y.toNat = -1 := by rw [hexV] at hy; simp [hexI, hy]
          have : decide ((-1 : Int) < 0) = true := rfl
          rw [hi, i_lss, ob_some, this, cnd_t]
          exact hbad (pre.length + 1) H3 (by simp [hexR, hx, hy]) (by rw [hl2] at h3; exact h3)
        | some d =>
          have hi : hexI y.toNat = (d : Int) := by rw [hexV] at hy; simp [hexI, hy]
          have hd : d < 16 := hexN_lt hy
          have hn : decide ((d : Int) < 0) = false := by simp
          have s1 : binA Pg .shl 3 true (I (a : Int)) (AV.raw (.int .u64 4)) = some (I ((16 * a : Nat) : Int)) := shl4 ⟨a, ha⟩
          have o1 : bitsI .or .i64 ((16 * a : Nat) : Int) (d : Int) = ((16 * a + d : Nat) : Int) := or4 ⟨a, ha⟩ ⟨d, hd⟩
          rw [hi, i_lss, ob_some, hn, cnd_f, s1, ob_some, i_or, o1, ob_some]
          simp only [nil_Pt, ob_some, add_Pt, h3.ld1]
          refine step1 h3 e2 hsz _ (fun H4 h4 e4 hl4 => ?_)
          have a2 : W64 (1 + 1) = 2 := rfl
          have cv : cvtIA .u8 (I ((16 * a + d : Nat) : Int)) = some (byteA (UInt8.ofNat (16 * a + d))) := by
            have hw : IntKind.u8.wrap ((16 * a + d : Nat) : Int) = ((16 * a + d : Nat) : Int) := by
              have : ∀ a b : Fin 16, IntKind.u8.wrap ((16 * a.1 + b.1 : Nat) : Int) = ((16 * a.1 + b.1 : Nat) : Int) := by decide +kernel
              exact this ⟨a, ha⟩ ⟨d, hd⟩
            have hm : (UInt8.ofNat (16 * a + d)).toNat = 16 * a + d := by simp; omega
            show some (AV.raw (.int .u8 (IntKind.u8.wrap _))) = _
            rw [hw, byteA, hm]
          rw [i_add, a2, ob_some, f305_l8_eq, i_lss, l2, ob_some, cnd_f, cv, ob_some]
          exact hok _ 2 H4 (by simp [hexR, hx, hy]) (by rw [hl4, hl2] at h4; exact h4)
theorem at_len {p : Nat} (h : Sc H0 T b s p H) (hp : p = pre.length) : Sc H0 T b s pre.length H := hp ▸ h
theorem c299 {p : Nat} (hp : pre.length = p + 1) (h : Sc H0 T b s pre.length H) (e : tx s = pre ++ r) (hsz : s.size ≤ 1099511627776)
    (hok : ∀ c n H', escR p r = .ok c n → Sc H0 T b s (p + n) H' → Q (.tup [byteA c, B true]) H')
    (hbad : ∀ q H', escR p r = .bad q → Sc H0 T b s q H' → Q (.tup [U8 0, B false]) H') : E 299 [Pt b] H Q := by
  have hb := size_bound e
  have hs : W64 ((pre.length : Int) - 1) = (p : Int) := by rw [w64_id (by omega) (by omega)]; omega
  rw [f299_eq]
  simp only [nil_Pt, ob_some, add_Pt, h.ld1, i_sub, hs]
  rw [c298 h]
  cases r with
  | nil => rw [done_nil e, cnd_t]; exact hbad (p + 1) H rfl (hp ▸ h)
  | cons d r =>
    rw [done_cons e, cnd_f]
    simp only [h.ld0, h.ld1, ixS s pre r d e, ob_some]
    have j : ∀ x : Bool, x = decide (d.toNat = 39 ∨ d.toNat = 92) → f299_j17 (Pt b) (I p) (U8 d.toNat) (B x) H Q := fun x hx => by
      rw [f299_j17_eq]
      simp only [nil_Pt, ob_some, add_Pt, h.ld1]
      refine cnd_intro (fun h1 => ?_) (fun h1 => ?_)
      · have h1 : d.toNat = 39 ∨ d.toNat = 92 := by rw [h1] at hx; simpa using hx.symm
        refine step1 h e hsz _ (fun H2 h2 e2 hl2 => ?_)
        exact hok d 2 H2 (by simp [escR, h1]) (by rw [hl2, hp] at h2; exact h2)
      · have h1 : ¬ (d.toNat = 39 ∨ d.toNat = 92) := by rw [h1] at hx; simpa using hx.symm
        have hne : binA Pg .neq 5 true (U8 d.toNat) (AV.raw (.int .u8 120)) = some (B (!decide (d.toNat = 120))) := by
          rw [k_neq]
          have : decide ((d.toNat : Int) = 120) = decide (d.toNat = 120) := by simp; omega
          rw [this]
        rw [hne, ob_some]
        refine cnd_intro (fun h2 => ?_) (fun h2 => ?_)
        · have h2 : d.toNat ≠ 120 := by simpa using h2
          exact hbad (p + 1) H (by simp [escR, h1, h2]) (hp ▸ h)
        · have h2 : d.toNat = 120 := by simpa using h2
          refine step1 h e hsz _ (fun H2 h3 e2 hl2 => ?_)
          have hl : (pre ++ [d]).length = p + 2 := by omega
          refine c305 h3 e2 hsz (fun c n H' hc h4 => ?_) (fun q H' hc h4 => ?_)
          · rw [hl] at hc h4
            have hn := (hexR_len hc).1
            subst hn
            simp only [x20, x21, ob_some, cnd_t]
            rw [c290]
            rw [f299_j39_eq]
            simp only [nil_Pt, ob_some, add_Pt, h4.st1]
            refine cnd_intro (fun h5 => ?_) (fun h5 => ?_)
            · exact hbad p _ (by simp [escR, h1, h2, hc, h5]) (h4.set p)
            · exact hok c 4 H' (by simp [escR, h1, h2, hc, h5]) h4
          · rw [hl] at hc
            simp only [x20, x21, ob_some, cnd_f]
            rw [f299_j39_eq, cnd_f]
            exact hbad q H' (by simp [escR, h1, h2, hc]) h4
    have e39 : binA Pg .eql 5 true (U8 d.toNat) (AV.raw (.int .u8 39)) = some (B (decide (d.toNat = 39))) := b_eq39 d 39 5 true
    have e92 : binA Pg .eql 5 true (U8 d.toNat) (AV.raw (.int .u8 92)) = some (B (decide (d.toNat = 92))) := b_eq39 d 92 5 true
    rw [e39, ob_some]
    refine cnd_intro (fun h1 => j true (by simp at h1; simp [h1])) (fun h1 => ?_)
    rw [e92, ob_some]
    exact j _ (by simp at h1; simp [h1])
/-- what one step of reading a quoted text says -/
theorem c281 (h : Sc H0 T b s pre.length H) (e : tx s = pre ++ r) (hsz : s.size ≤ 1099511627776)
    (hend : ∀ c r1 H', r = c :: r1 → c.toNat = 39 → Sc H0 T b s (pre.length + 1) H' → Q (.tup [U8 0, B false, B true]) H')
    (hesc : ∀ c r1 d n H', r = c :: r1 → c.toNat = 92 → escR pre.length r1 = .ok d n → Sc H0 T b s (pre.length + n) H' → Q (.tup [byteA d, B true, B false]) H')
    (hpl : ∀ c r1 H', r = c :: r1 → c.toNat ≠ 39 → c.toNat ≠ 92 → plainB c = true → Sc H0 T b s (pre.length + 1) H' → Q (.tup [byteA c, B true, B false]) H')
    (hbad : ∀ q H', (r = [] ∧ q = pre.length ∨ (∃ c r1, r = c :: r1 ∧ c.toNat = 92 ∧ escR pre.length r1 = .bad q) ∨ (∃ c r1, r = c :: r1 ∧ c.toNat ≠ 39 ∧ c.toNat ≠ 92 ∧ plainB c = false ∧ q = pre.length)) → Sc H0 T b s q H' → Q (.tup [U8 0, B false, B false]) H') :
    E 281 [Pt b] H Q := by
  rw [f281_eq, c298 h]
  cases r with
  | nil => rw [done_nil e, cnd_t]; exact hbad _ H (.inl ⟨rfl, rfl⟩) h
  | cons c r =>
    have e39 : binA Pg .eql 5 true (U8 c.toNat) (AV.raw (.int .u8 39)) = some (B (decide (c.toNat = 39))) := b_eq39 c 39 5 true
    have e92 : binA Pg .eql 5 true (U8 c.toNat) (AV.raw (.int .u8 92)) = some (B (decide (c.toNat = 92))) := b_eq39 c 92 5 true
    rw [done_cons e, cnd_f]
    simp only [nil_Pt, ob_some, add_Pt, h.ld0, h.ld1, ixS s pre r c e, e39, e92]
    refine cnd_intro (fun h1 => ?_) (fun h1 => ?_)
    · refine step1 h e hsz _ (fun H2 h2 e2 hl2 => ?_)
      exact hend c r H2 rfl (by simpa using h1) (hl2 ▸ h2)
    · have h1 : c.toNat ≠ 39 := by simpa using h1
      refine cnd_intro (fun h3 => ?_) (fun h3 => ?_)
      · have h3 : c.toNat = 92 := by simpa using h3
        refine step1 h e hsz _ (fun H2 h2 e2 hl2 => ?_)
        refine c299 hl2 h2 e2 hsz (fun d n H' hd h4 => ?_) (fun q H' hd h4 => ?_)
        · rw [x20, ob_some, x21, ob_some]
          exact hesc c r d n H' rfl h3 hd h4
        · rw [x20, ob_some, x21, ob_some]
          exact hbad q H' (.inr (.inl ⟨c, r, rfl, h3, hd⟩)) h4
      · have h3 : c.toNat ≠ 92 := by simpa using h3
        have cp : ∀ K : Post, E 290 [U8 c.toNat] H K = K (B (plainB c)) H := fun K => c290 c H K
        rw [cp]
        cases hp : plainB c with
        | true =>
          rw [cnd_t, h.ld1, ob_some]
          refine step1 h e hsz _ (fun H2 h2 e2 hl2 => ?_)
          exact hpl c r H2 rfl h1 h3 hp (hl2 ▸ h2)
        | false =>
          rw [cnd_f]
          exact hbad _ H (.inr (.inr ⟨c, r, rfl, h1, h3, hp, rfl⟩)) h
def uqV : UQ → AV
  | .ok s n => .tup [S (bs s), I n, I 0]
  | .bad n e => .tup [S e0, I n, I e]
theorem c241 (l : List UInt8) (hl : l.length ≤ 1099511627776) (H0 : Heap) (Q : Post) (hq : ∀ H', HExt H0 H' → Q (uqV (unq l)) H') : E 241 [S (bs l)] H0 Q := by
  have loop : ∀ (m : Nat) (r pre out : List UInt8) (sz : Nat) (nil : Bool) (tip : Tip) (b : Nat) (H : Heap) (T : Nat → Option Nat), r.length ≤ m → l = pre ++ r → Sc H0 T b (bs l) pre.length H → (nil = true ∨ sz = 1) → OwnS H0 H 1 out.length tip → out.length ≤ pre.length →
      (∀ H', HExt H0 H' → Q (uqV (unqF pre.length out r)) H') → f241_l15 (Pt b) (.sl sz nil tip (out.map byteA)) H Q := by
    intro m
    induction m with
    | zero =>
      intro r pre out sz nil tip b H T hm e h hn ho hol hq
      have hr : r = [] := List.eq_nil_of_length_eq_zero (by omega)
      subst hr
      rw [f241_l15_eq]
      have e' : tx (bs l) = pre ++ [] := by rw [tx_bs]; exact e
      refine c281 h e' (by rw [bs_size]; exact hl) (fun c r1 H' hc => by cases hc) (fun c r1 d n H' hc => by cases hc) (fun c r1 H' hc => by cases hc) (fun q H' hc h' => ?_)
      simp only [x3_0, x3_1, x3_2, ob_some, cnd_f]
      rcases hc with ⟨_, rfl⟩ | ⟨c, r1, hc, _⟩ | ⟨c, r1, hc, _⟩
      · rw [f241_j23_eq, cnd_f, cnd_f, not_B, ob_some]
        simp only [Bool.not_false, cnd_t, nil_Pt, ob_some, add_Pt, h'.ld1]
        have := hq H' h'.ext
        rw [unqF] at this; exact this
      · cases hc
      · cases hc
    | succ m ih =>
      intro r pre out sz nil tip b H T hm e h hn ho hol hq
      have e' : tx (bs l) = pre ++ r := by rw [tx_bs]; exact e
      have hsz : (bs l).size ≤ 1099511627776 := by rw [bs_size]; exact hl
      have hpl : pre.length ≤ l.length := by rw [e]; simp
      have bad : ∀ (q : Nat) (x : AV) (H' : Heap), Sc H0 (tipT (out.length * 1) tip) b (bs l) q H' → (∀ H', HExt H0 H' → Q (.tup [S e0, I q, I 4]) H') → f241_j23 (Pt b) (.sl sz nil tip (out.map byteA)) x (B false) (B false) (B false) H' Q := fun q x H' h' hq => by
        rw [f241_j23_eq, cnd_f, cnd_f, not_B, ob_some]
        simp only [Bool.not_false, cnd_t, nil_Pt, ob_some, add_Pt, h'.ld1]
        exact hq H' h'.ext
      have push : ∀ (c : UInt8) (r2 : List UInt8) (n : Nat) (H' : Heap), 1 ≤ n → r = (r.take n) ++ r2 → n ≤ r.length → Sc H0 (tipT (out.length * 1) tip) b (bs l) (pre.length + n) H' → (∀ H', HExt H0 H' → Q (uqV (unqF (pre.length + n) (out ++ [c]) r2)) H') →
          f241_j23 (Pt b) (.sl sz nil tip (out.map byteA)) (byteA c) (B true) (B false) (B false) H' Q := fun c r2 n H' hn1 hr2 hnr h' hq => by
        have hm1 : mkSlA 1 [byteA c] = _ := lit_bytes [c]
        rw [f241_j23_eq, cnd_f, cnd_f, not_B, ob_some, Bool.not_true, cnd_f, hm1, ob_some]
        refine app_b h'.ext (h'.own ho) hn (ys := [c]) (by simp [tailA]) (by simp; omega) (fun s2 n2 t2 H2 hn2 ho2 he2 hobj => ?_)
        have hl2 : (pre ++ r.take n).length = pre.length + n := by simp; omega
        refine ih r2 (pre ++ r.take n) (out ++ [c]) s2 n2 t2 b H2 (fun _ => none) ?_ (by rw [List.append_assoc, ← hr2]; exact e) ⟨he2, h'.fr, by rw [hobj, hl2]; exact h'.obj, fun _ _ h => by cases h⟩ hn2 ho2 (by rw [hl2]; simp; omega) (by rw [hl2]; exact hq)
        have := congrArg List.length hr2
        rw [List.length_append, List.length_take] at this; omega
      rw [f241_l15_eq]
      refine c281 (h.tip ho) e' hsz (fun c r1 H' hc h1 h' => ?_) (fun c r1 d n H' hc h1 hd h' => ?_) (fun c r1 H' hc h1 h3 hp h' => ?_) (fun q H' hc h' => ?_)
      · simp only [x3_0, x3_1, x3_2, ob_some, cnd_t, len_sl, List.length_map, i_gtr]
        rw [f241_j23_eq]
        refine cnd_intro (fun h2 => ?_) (fun h2 => ?_)
        · have := hq H' h'.ext
          rw [hc, unqF.eq_def] at this
          simp only [h1, if_true] at this
          rw [if_pos (by simp at h2; omega)] at this
          exact this
        · simp only [cnd_t, nil_Pt, ob_some, add_Pt, h'.ld1, apL]
          have := hq H' h'.ext
          rw [hc, unqF.eq_def] at this
          simp only [h1, if_true] at this
          rw [if_neg (by simp at h2; omega)] at this
          exact ⟨hn, out, rfl, this⟩
      · simp only [x3_0, x3_1, x3_2, ob_some, cnd_f]
        have hn2 := escR_len hd
        have hr1 : r.length = r1.length + 1 := by rw [hc]; rfl
        refine push d (r1.drop (n - 1)) n H' (by omega) ?_ (by omega) h' (fun H2 h2 => ?_)
        · rw [hc]
          obtain ⟨k, rfl⟩ : ∃ k, n = k + 1 := ⟨n - 1, by omega⟩
          simp
        · have := hq H2 h2
          rw [hc, unqF.eq_def] at this
          simp only [h1, hd] at this
          simpa using this
      · simp only [x3_0, x3_1, x3_2, ob_some, cnd_f]
        refine push c r1 1 H' (by omega) (by rw [hc]; rfl) (by rw [hc]; simp) h' (fun H2 h2 => ?_)
        · have := hq H2 h2
          rw [hc, unqF.eq_def] at this
          simp only [if_neg h1, if_neg h3, hp, if_true] at this
          exact this
      · simp only [x3_0, x3_1, x3_2, ob_some, cnd_f]
        refine bad q _ H' h' (fun H2 h2 => ?_)
        have := hq H2 h2
        rcases hc with ⟨hc, rfl⟩ | ⟨c, r1, hc, h1, hd⟩ | ⟨c, r1, hc, h1, h3, hp, rfl⟩
        · rw [hc, unqF] at this; exact this
        · rw [hc, unqF.eq_def] at this
          simp only [h1, hd] at this
          exact this
        · rw [hc, unqF.eq_def] at this
          simp only [if_neg h1, if_neg h3, hp] at this
          exact this
  have nb : ∀ x : Bool, x = !(decide (l.head?.map (·.toNat) = some 39)) → f241_j5 (S (bs l)) (B x) H0 Q := fun x hx => by
    rw [f241_j5_eq]
    refine cnd_intro (fun h1 => ?_) (fun h1 => ?_)
    · have := hq H0 (HExt.refl H0)
      cases l with
      | nil => exact this
      | cons c r =>
        have hc : c.toNat ≠ 39 := by rw [h1] at hx; simpa using hx.symm
        simp only [unq, if_neg hc] at this
        exact this
    · cases l with
      | nil => rw [h1] at hx; simp at hx
      | cons c r =>
        have hc : c.toNat = 39 := by rw [h1] at hx; simpa using hx.symm
        have hbd : bldA [(0, 1, S (bs (c :: r))), (1, 1, I 1)] [S ⟨#[]⟩, I 0] = some (.agg [S (bs (c :: r)), I 1]) := rfl
        have hsd : sizedA 2 (.agg [S (bs (c :: r)), I 1]) = some [S (bs (c :: r)), I 1] := rfl
        rw [hbd, ob_some, hsd, ob_some]
        refine sc_new 1 (HExt.refl H0) (fun b H' h' => ?_)
        refine loop r.length r [c] [] 0 true .full b H' (fun _ => none) (Nat.le_refl _) rfl h' (.inl rfl) trivial (by simp) (fun H2 h2 => ?_)
        have := hq H2 h2
        simp only [unq, if_pos hc] at this
        exact this
  rw [f241_eq, s_eql, ob_some]
  refine cnd_intro (fun h1 => ?_) (fun h1 => ?_)
  · have : l = [] := by have : bs l = bs [] := by simpa using h1
                        exact bs_inj.1 this
    subst this
    exact nb true rfl
  · cases l with
    | nil => simp at h1
    | cons c r =>
      have i0 : ixA (S (bs (c :: r))) (I 0) = some (U8 c.toNat) := ixS (bs (c :: r)) [] r c (by rw [← tx_bs (c :: r)]; simp)
      have hne : binA Pg .neq 5 true (U8 c.toNat) (AV.raw (.int .u8 39)) = some (B (!decide (c.toNat = 39))) := by
        rw [k_neq]
        have : decide ((c.toNat : Int) = 39) = decide (c.toNat = 39) := by simp; omega
        rw [this]
      rw [i0, ob_some, hne, ob_some]
      exact nb _ (by simp)
end
end Go.Hx
