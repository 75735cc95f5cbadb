/- Contracts of texts in quotes, and of values as texts. Own work. -/
import Derived.Test.YtancdapnpceogaaGreatS5O
set_option maxRecDepth 20000
namespace Go.Hx
/-- a hexadecimal digit -/
def hexD (d : Nat) : UInt8 := UInt8.ofNat (if d < 10 then 48 + d else 87 + d)
def escB (c : UInt8) : List UInt8 :=
  if c.toNat = 39 ∨ c.toNat = 92 then [92, c] else if 32 ≤ c.toNat ∧ c.toNat ≤ 126 then [c] else [92, 120, hexD (c.toNat / 16), hexD (c.toNat % 16)]
def escT (l : List UInt8) : List UInt8 := (l.map escB).flatten
def quoteT (l : List UInt8) : List UInt8 := 39 :: (escT l ++ [39])
theorem escB_len (c : UInt8) : (escB c).length ≤ 4 := by
  simp only [escB]
  split
  · simp
  · split <;> simp
theorem escT_len (l : List UInt8) : (escT l).length ≤ 4 * l.length := by
  induction l with
  | nil => simp [escT]
  | cons c r ih =>
    have := escB_len c
    simp only [escT, List.map_cons, List.flatten_cons, List.length_append, List.length_cons] at ih ⊢
    omega
theorem quoteT_len (l : List UInt8) : (quoteT l).length ≤ 4 * l.length + 2 := by
  have := escT_len l
  simp only [quoteT, List.length_cons, List.length_append, List.length_singleton, List.length_nil]
  omega
def hexC : List AV := [U8 48, U8 49, U8 50, U8 51, U8 52, U8 53, U8 54, U8 55, U8 56, U8 57, U8 97, U8 98, U8 99, U8 100, U8 101, U8 102]
theorem hex_get {d : Nat} (h : d < 16) : hexC[d]? = some (byteA (hexD d)) := by
  match d, h with
  | 0, _ | 1, _ | 2, _ | 3, _ | 4, _ | 5, _ | 6, _ | 7, _ | 8, _ | 9, _ | 10, _ | 11, _ | 12, _ | 13, _ | 14, _ | 15, _ => rfl
  | n + 16, h => exact absurd h (by omega)
def hexS : ByteArray := ⟨#[48, 49, 50, 51, 52, 53, 54, 55, 56, 57, 97, 98, 99, 100, 101, 102]⟩
theorem hexs_get {d : Nat} (h : d < 16) : ixA (S hexS) (U8 d) = some (byteA (hexD d)) := by
  match d, h with
  | 0, _ | 1, _ | 2, _ | 3, _ | 4, _ | 5, _ | 6, _ | 7, _ | 8, _ | 9, _ | 10, _ | 11, _ | 12, _ | 13, _ | 14, _ | 15, _ => rfl
  | n + 16, h => exact absurd h (by omega)
theorem byte_lt (c : UInt8) : c.toNat < 256 := c.toNat_lt
theorem u8_quo (c : Nat) (h : c < 256) (t : TypeId) (l : Bool) : binA Pg .quo t l (U8 c) (U8 16) = some (U8 ((c / 16 : Nat) : Int)) := by
  have h1 : binA Pg .quo t l (U8 c) (U8 16) = some (U8 (IntKind.u8.wrap ((c : Int).tdiv 16))) := rfl
  have h2 : (c : Int).tdiv 16 = ((c / 16 : Nat) : Int) := rfl
  rw [h1, h2, wrap_u8 (by omega) (by omega)]
theorem u8_rem (c : Nat) (t : TypeId) (l : Bool) : binA Pg .rem t l (U8 c) (U8 16) = some (U8 ((c % 16 : Nat) : Int)) := by
  rw [k_rem _ _ _ _ _ (by omega)]
  congr 3
theorem u8_shr (c : Nat) (t : TypeId) (l : Bool) : binA Pg .shr t l (U8 c) (U64 4) = some (U8 ((c / 16 : Nat) : Int)) := by
  have h1 : binA Pg .shr t l (U8 c) (U64 4) = some (U8 ((c : Int).fdiv 16)) := rfl
  have h2 : (c : Int).fdiv 16 = ((c / 16 : Nat) : Int) := by
    rw [Int.fdiv_eq_ediv_of_nonneg _ (by omega)]; rfl
  rw [h1, h2]
theorem and15 : ∀ c : Fin 256, bitsI .and .u8 (c.val : Int) 15 = ((c.val % 16 : Nat) : Int) := by decide
theorem u8_and (c : Nat) (h : c < 256) (t : TypeId) (l : Bool) : binA Pg .and t l (U8 c) (U8 15) = some (U8 ((c % 16 : Nat) : Int)) := by
  have h1 : binA Pg .and t l (U8 c) (U8 15) = some (U8 (bitsI .and .u8 c 15)) := rfl
  rw [h1, and15 ⟨c, h⟩]
def plainB (c : UInt8) : Bool := decide (32 ≤ c.toNat) && decide (c.toNat ≤ 126)
theorem c290 (c : UInt8) (H : Heap) (Q : Post) : E 290 [byteA c] H Q = Q (B (plainB c)) H := by
  simp only [f290_eq, f290_j4_eq, byteA, k_geq, k_leq, ob_some, cnd_B, plainB]
  by_cases h : 32 ≤ c.toNat
  · have : (32 : Int) ≤ c.toNat := by omega
    simp only [h, this, decide_true, if_true, Bool.true_and]
    congr 2
    rw [Bool.eq_iff_iff]; simp; omega
  · have : ¬ (32 : Int) ≤ c.toNat := by omega
    simp [h, this]
theorem c248 (c : UInt8) (H : Heap) (Q : Post) : E 248 [byteA c] H Q = Q (B (plainB c)) H := by
  simp only [f248_eq, f248_j4_eq, byteA, k_geq, k_leq, ob_some, cnd_B, plainB]
  by_cases h : 32 ≤ c.toNat
  · have : (32 : Int) ≤ c.toNat := by omega
    simp only [h, this, decide_true, if_true, Bool.true_and]
    congr 2
    rw [Bool.eq_iff_iff]; simp; omega
  · have : ¬ (32 : Int) ≤ c.toNat := by omega
    simp [h, this]
theorem lit_bytes (l : List UInt8) : mkSlA 1 (l.map byteA) = some (.sl 1 false .full (l.map byteA)) := by
  have : ((l.map byteA).all fun x => (sizedA 1 x).isSome) = true := by
    rw [List.all_eq_true]
    intro x hx
    obtain ⟨c, _, rfl⟩ := List.mem_map.1 hx
    rfl
  simp only [mkSlA, this]
theorem b_eq39 (c : UInt8) (n : Nat) (t : TypeId) (l : Bool) : binA Pg .eql t l (byteA c) (U8 n) = some (B (decide (c.toNat = n))) := by
  simp only [byteA, k_eql]
  congr 2
  rw [Bool.eq_iff_iff]; simp only [decide_eq_true_eq, B]; omega
/-! ### The document's -/
theorem c263 (c : UInt8) (H : Heap) (Q : Post) (hq : Q (strT (escB c)) H) : E 263 [byteA c] H Q := by
  have h39 := b_eq39 c 39 5 true
  have h92 := b_eq39 c 92 5 true
  have hc := byte_lt c
  have j5 : ∀ b : Bool, b = decide (c.toNat = 39 ∨ c.toNat = 92) → f263_j5 (byteA c) (B b) H Q := fun b hb => by
    rw [f263_j5_eq]
    refine cnd_intro (fun h => ?_) (fun h => ?_)
    · have h : c.toNat = 39 ∨ c.toNat = 92 := by rw [h] at hb; simpa using hb.symm
      rw [escB, if_pos h] at hq
      have hm : mkSlA 1 [U8 92, byteA c] = _ := lit_bytes [92, c]
      rw [hm, ob_some]
      exact bs_lit [92, c] _ _ _ hq
    · have h : ¬ (c.toNat = 39 ∨ c.toNat = 92) := by rw [h] at hb; simpa using hb.symm
      rw [escB, if_neg h] at hq
      rw [c248]
      refine cnd_intro (fun h1 => ?_) (fun h1 => ?_)
      · rw [if_pos (by simpa [plainB] using h1)] at hq
        have hm : mkSlA 1 [byteA c] = _ := lit_bytes [c]
        rw [hm, ob_some]
        exact bs_lit [c] _ _ _ hq
      · rw [if_neg (by intro h2; simp [plainB, h2] at h1)] at hq
        have e1 := u8_quo c.toNat hc 5 true
        have e2 := u8_rem c.toNat 5 true
        have e3 := hexs_get (d := c.toNat / 16) (by omega)
        have e4 := hexs_get (d := c.toNat % 16) (by omega)
        have hm : mkSlA 1 [U8 92, U8 120, byteA (hexD (c.toNat / 16)), byteA (hexD (c.toNat % 16))] = _ := lit_bytes [92, 120, hexD (c.toNat / 16), hexD (c.toNat % 16)]
        refine (?_ : ob (binA Pg .quo 5 true (U8 c.toNat) (U8 16)) fun r9 => ob (ixA (S hexS) r9) fun r10 => ob (binA Pg .rem 5 true (U8 c.toNat) (U8 16)) fun r11 => ob (ixA (S hexS) r11) fun r12 => ob (mkSlA 1 [U8 92, U8 120, r10, r12]) fun r13 => bsA r13 fun r14 => Q r14 H)
        rw [e1, ob_some, e3, ob_some, e2, ob_some, e4, ob_some, hm, ob_some]
        exact bs_lit _ _ _ _ hq
  rw [f263_eq]
  refine (?_ : ob (binA Pg .eql 5 true (byteA c) (U8 (39 : Nat))) fun r1 => cndA r1 (f263_j5 (byteA c) (B true) H Q) (ob (binA Pg .eql 5 true (byteA c) (U8 (92 : Nat))) fun r2 => f263_j5 (byteA c) r2 H Q))
  rw [h39, ob_some]
  refine cnd_intro (fun h => j5 true (by simp at h; simp [h])) (fun h => ?_)
  rw [h92, ob_some]
  exact j5 _ (by simp at h; simp [h])
theorem ix_str (s : ByteArray) (pre r : List UInt8) (c : UInt8) (e : tx s = pre ++ c :: r) : ixA (S s) (I pre.length) = some (byteA c) := ixS s pre r c e
/-- a text in quotes, or too long -/
def quoteP (s : ByteArray) : AV := if 256 < s.size then .tup [S e0, I 2] else .tup [strT (quoteT (tx s)), I 0]
theorem c198 (s : ByteArray) (H : Heap) (Q : Post) (hq : Q (quoteP s) H) : E 198 [S s] H Q := by
  rw [f198_eq, len_S, ob_some, i_gtr, ob_some]
  have hsz : (tx s).length = s.size := size_list s
  refine cnd_intro (fun h => ?_) (fun h => ?_)
  · rw [quoteP, if_pos (by simp at h; omega)] at hq; exact hq
  · have h : s.size ≤ 256 := by simp at h; omega
    rw [quoteP, if_neg (by omega)] at hq
    have loop : ∀ (r pre acc : List UInt8), tx s = pre ++ r → acc.length ≤ 1 + 4 * pre.length → Q (.tup [strT (acc ++ (escT r ++ [39])), I 0]) H → f198_l16 (S s) (strT acc) (I pre.length) H Q := by
      intro r
      induction r with
      | nil =>
        intro pre acc e ha hq
        have h1 : pre.length = s.size := by rw [← hsz, e]; simp
        rw [f198_l16_eq, len_S, ob_some, i_lss, ob_some, cnd_B, h1]
        simp only [Int.lt_irrefl, decide_false, Bool.false_eq_true, if_false]
        have h39 : S ⟨#[39]⟩ = strT [39] := rfl
        rw [h39, s_add _ _ _ _ (by simp; omega), ob_some]
        simpa [escT] using hq
      | cons c r ih =>
        intro pre acc e ha hq
        have hlt : pre.length < s.size := by rw [← hsz, e]; simp
        have hlt' : (pre.length : Int) < s.size := by omega
        have hel := escB_len c
        rw [f198_l16_eq, len_S, ob_some, i_lss, ob_some, cnd_B, if_pos (by simpa using hlt'), ix_str s pre r c e, ob_some]
        refine c263 c H _ ?_
        rw [s_add _ _ _ _ (by omega), ob_some, i_add, ob_some, w64_succ hlt (by omega)]
        have := ih (pre ++ [c]) (acc ++ escB c) (by simp [e]) (by simp only [List.length_append, List.length_singleton]; omega) (by simpa [escT] using hq)
        rw [List.length_append, List.length_singleton] at this
        exact this
    have h39 : S ⟨#[39]⟩ = strT [39] := rfl
    rw [h39]
    exact loop (tx s) [] [39] rfl (by simp) (by simpa [quoteT] using hq)
/-! ### The program's -/
theorem app_b {H0 H : Heap} {sz : Nat} {nil : Bool} {tip : Tip} {t ys : List UInt8} {x : AV} {K : Post} (he : HExt H0 H) (ho : OwnS H0 H 1 t.length tip) (hs : nil = true ∨ sz = 1) (ht : tailA 1 x = some (ys.map byteA))
    (hl : t.length + ys.length ≤ 140737488355328)
    (hk : ∀ sz' nil' tip' H', (nil' = true ∨ sz' = 1) → OwnS H0 H' 1 (t ++ ys).length tip' → HExt H0 H' → H'.objs = H.objs → K (.sl sz' nil' tip' ((t ++ ys).map byteA)) H') :
    appB 5 (.sl sz nil tip (t.map byteA)) x H K := by
  unfold appB
  simp only [ht]
  cases ys with
  | nil =>
    have := hk sz nil tip H hs (by simpa using ho) he rfl
    simpa using this
  | cons y ys =>
    have hnew : ∀ c, H.fresh c → K (.sl 1 false (.tip c) ((t ++ y :: ys).map byteA)) ((H.setTip c (t.length + (y :: ys).length)).setTy c 5) := fun c hc => by
      refine hk 1 false _ _ (.inr rfl) ⟨by simp [Heap.setTip, Heap.setTy], he.fresh hc⟩ ((he.setTip (he.fresh hc) _).setTy (he.fresh hc) _) rfl
    have e1 : t.map byteA ++ (y :: ys).map byteA = (t ++ y :: ys).map byteA := by simp
    have e2 : (t.map byteA).length = t.length := by simp
    have e3 : ((y :: ys).map byteA).length = (y :: ys).length := by simp
    simp only [List.map_cons] at e1 e3 ⊢
    simp only [e2, e3, e1]
    refine ⟨hs, hl, hnew, ?_⟩
    cases tip with
    | any => exact ho.elim
    | full => trivial
    | tip c =>
      obtain ⟨h1, h2⟩ := ho
      refine ⟨by simpa using h1, ?_⟩
      exact hk 1 false _ _ (.inr rfl) ⟨by simp [Heap.setTip], h2⟩ (he.setTip h2 _) rfl
theorem c289 (H : Heap) (Q : Post) (hq : ∀ H', HExt H H' → Q (.agg hexC) H') : E 289 [] H Q := by
  rw [f289_eq]
  intro b hb
  have e1 : HExt H (H.setObj b (.cells (zero8 16))) := (HExt.refl H).setObj hb _
  have o1 : (H.setObj b (.cells (zero8 16))).objs b = some (.cells (zero8 16)) := setObj_same _ _ _
  have hb' : bldA [(0, 1, U8 48), (1, 1, U8 49), (2, 1, U8 50), (3, 1, U8 51), (4, 1, U8 52), (5, 1, U8 53), (6, 1, U8 54), (7, 1, U8 55), (8, 1, U8 56), (9, 1, U8 57), (10, 1, U8 97), (11, 1, U8 98), (12, 1, U8 99), (13, 1, U8 100), (14, 1, U8 101), (15, 1, U8 102)]
    [U8 0, U8 0, U8 0, U8 0, U8 0, U8 0, U8 0, U8 0, U8 0, U8 0, U8 0, U8 0, U8 0, U8 0, U8 0, U8 0] = some (.agg hexC) := rfl
  rw [hb', ob_some]
  have hs := st_agg o1 (xs := hexC) rfl 16 rfl
  refine (?_ : ob (stH (H.setObj b (.cells (zero8 16))) 16 (Pt b) (.agg hexC)) fun H4 => ob (ldH H4 true 16 (Pt b)) fun r5 => Q r5 H4)
  rw [hs, ob_some, ld_agg (setObj_same _ _ _) 16 rfl, ob_some]
  exact hq _ (e1.setObj hb _)
theorem c260 (s : ByteArray) (H0 : Heap) (Q : Post) (hq : ∀ H', HExt H0 H' → Q (quoteP s) H') : E 260 [S s] H0 Q := by
  rw [f260_eq, len_S, ob_some, i_gtr, ob_some]
  have hsz : (tx s).length = s.size := size_list s
  refine cnd_intro (fun h => ?_) (fun h => ?_)
  · have := hq H0 (HExt.refl H0)
    rw [quoteP, if_pos (by simp at h; omega)] at this; exact this
  have h : s.size ≤ 256 := by simp at h; omega
  have hq : ∀ H', HExt H0 H' → Q (.tup [strT (quoteT (tx s)), I 0]) H' := fun H' h' => by
    have := hq H' h'
    rw [quoteP, if_neg (by omega)] at this; exact this
  refine c289 H0 _ (fun H1 e1 => ?_)
  intro b hb
  have e2 : HExt H0 (H1.setObj b (.cells (zero8 16))) := e1.setObj (e1.fresh hb) _
  have o1 : (H1.setObj b (.cells (zero8 16))).objs b = some (.cells (zero8 16)) := setObj_same _ _ _
  have hm : mkSlA 1 [U8 39] = _ := lit_bytes [39]
  refine (?_ : ob (stH (H1.setObj b (.cells (zero8 16))) 16 (Pt b) (.agg hexC)) fun H7 => ob (mkSlA 1 [U8 39]) fun r8 => sbA (S s) fun r9 => ob (lenA r9) fun r10 => f260_l18 (Pt b) r8 r9 r10 (I 0) H7 Q)
  rw [st_agg o1 (xs := hexC) rfl 16 rfl, ob_some, hm, ob_some]
  have e3 : HExt H0 ((H1.setObj b (.cells (zero8 16))).setObj b (.cells hexC)) := e2.setObj (e1.fresh hb) _
  have o3 := setObj_same (H1.setObj b (.cells (zero8 16))) b (.cells hexC)
  generalize (H1.setObj b (.cells (zero8 16))).setObj b (.cells hexC) = H2 at e3 o3 ⊢
  show ob (lenA (.sl 1 false .any ((tx s).map byteA))) fun r10 => f260_l18 (Pt b) (.sl 1 false .full ([39].map byteA)) (.sl 1 false .any ((tx s).map byteA)) r10 (I 0) H2 Q
  rw [len_sl, ob_some, List.length_map]
  have loop : ∀ (r pre acc : List UInt8) (sz : Nat) (nil : Bool) (tip : Tip) (H : Heap), tx s = pre ++ r → acc.length ≤ 1 + 4 * pre.length → HExt H0 H → H.objs b = some (.cells hexC) → (nil = true ∨ sz = 1) → OwnS H0 H 1 acc.length tip →
      (∀ H', HExt H0 H' → Q (.tup [strT (acc ++ (escT r ++ [39])), I 0]) H') → f260_l18 (Pt b) (.sl sz nil tip (acc.map byteA)) (.sl 1 false .any ((tx s).map byteA)) (I (tx s).length) (I pre.length) H Q := by
    intro r
    induction r with
    | nil =>
      intro pre acc sz nil tip H e ha he ho hn hw hq
      have h1 : (pre.length : Int) = (tx s).length := by rw [e]; simp
      have hm : mkSlA 1 [U8 39] = _ := lit_bytes [39]
      rw [f260_l18_eq, i_lss, ob_some, cnd_B, h1]
      simp only [Int.lt_irrefl, decide_false, Bool.false_eq_true, if_false]
      rw [hm, ob_some]
      have h256 : pre.length ≤ 256 := by omega
      refine app_b he hw hn (ys := [39]) rfl (by simp; omega) (fun sz' nil' tip' H' hn' _ he' _ => ?_)
      rcases hn' with rfl | rfl
      · exact ⟨.inl rfl, acc ++ [39], rfl, (by have := hq H' he'; simp only [escT, List.map_nil, List.flatten_nil, List.nil_append] at this; exact this)⟩
      · exact ⟨.inr rfl, acc ++ [39], rfl, (by have := hq H' he'; simp only [escT, List.map_nil, List.flatten_nil, List.nil_append] at this; exact this)⟩
    | cons c r ih =>
      intro pre acc sz nil tip H e ha he ho hn hw hq
      have hlt : pre.length < (tx s).length := by rw [e]; simp
      have hlt' : (pre.length : Int) < (tx s).length := by omega
      have hcl := byte_lt c
      have i1 : ixaA 1 (.sl 1 false .any ((tx s).map byteA)) (I pre.length) = some [byteA c] := ix_mk 1 false .any _ pre.length (x := byteA c) (by rw [e]; exact get_mid byteA pre r c) rfl
      have step : ∀ (ys : List UInt8) (x : AV), ys = escB c → tailA 1 x = some (ys.map byteA) → appB 5 (.sl sz nil tip (acc.map byteA)) x H fun r21 H22 => ob (binA Pg .add 3 true (I pre.length) (I 1)) fun r23 => f260_l18 (Pt b) r21 (.sl 1 false .any ((tx s).map byteA)) (I (tx s).length) r23 H22 Q := fun ys x hy ht => by
        have hel := escB_len c
        rw [← hy] at hel
        refine app_b he hw hn ht (by omega) (fun sz' nil' tip' H' hn' hw' he' ho' => ?_)
        rw [i_add, ob_some, w64_succ hlt (by omega)]
        have := ih (pre ++ [c]) (acc ++ ys) sz' nil' tip' H' (by simp [e]) (by simp only [List.length_append, List.length_singleton]; omega) he' (by rw [ho']; exact ho) hn' hw' (by rw [hy]; simpa [escT] using hq)
        rw [List.length_append, List.length_singleton] at this
        exact this
      have tl : ∀ ys : List UInt8, tailA 1 (.sl 1 false .full (ys.map byteA)) = some (ys.map byteA) := fun ys => by simp [tailA]
      have j32 : ∀ d : Bool, d = decide (c.toNat = 39 ∨ c.toNat = 92) → f260_j32 (Pt b) (.sl sz nil tip (acc.map byteA)) (byteA c) (.sl 1 false .any ((tx s).map byteA)) (I (tx s).length) (I pre.length) (B d) H Q := fun d hd => by
        rw [f260_j32_eq]
        refine cnd_intro (fun h => ?_) (fun h => ?_)
        · have h : c.toNat = 39 ∨ c.toNat = 92 := by rw [h] at hd; simpa using hd.symm
          have hm : mkSlA 1 [U8 92, byteA c] = _ := lit_bytes [92, c]
          rw [hm, ob_some]
          exact step [92, c] _ (by rw [escB, if_pos h]) (tl _)
        · have h : ¬ (c.toNat = 39 ∨ c.toNat = 92) := by rw [h] at hd; simpa using hd.symm
          rw [c290]
          refine cnd_intro (fun h1 => ?_) (fun h1 => ?_)
          · have hm : mkSlA 1 [byteA c] = _ := lit_bytes [c]
            rw [hm, ob_some]
            exact step [c] _ (by rw [escB, if_neg h, if_pos (by simpa [plainB] using h1)]) (tl _)
          · have e1 := u8_shr c.toNat 5 true
            have e2 := u8_and c.toNat hcl 5 true
            have ix : ∀ k : Nat, k < 16 → ixPA 16 1 (Pt b) (U8 k) = some (Poff b k) := fun k hk => by
              simp only [ixPA, Pt]
              rw [if_pos (by omega), Int.toNat_natCast]
              simp
            have hm : mkSlA 1 [U8 92, U8 120, byteA (hexD (c.toNat / 16)), byteA (hexD (c.toNat % 16))] = _ := lit_bytes [92, 120, hexD (c.toNat / 16), hexD (c.toNat % 16)]
            refine (?_ : ob (binA Pg .shr 5 true (U8 c.toNat) (U64 4)) fun r30 => ob (ixPA 16 1 (Pt b) r30) fun r31 => ob (ldH H false 1 r31) fun r32 => ob (binA Pg .and 5 true (U8 c.toNat) (U8 15)) fun r33 => ob (ixPA 16 1 (Pt b) r33) fun r34 => ob (ldH H false 1 r34) fun r35 => ob (mkSlA 1 [U8 92, U8 120, r32, r35]) fun r36 => appB 5 (.sl sz nil tip (acc.map byteA)) r36 H fun r37 H38 => ob (binA Pg .add 3 true (I pre.length) (I 1)) fun r39 => f260_l18 (Pt b) r37 (.sl 1 false .any ((tx s).map byteA)) (I (tx s).length) r39 H38 Q)
            rw [e1, ob_some, ix _ (by omega), ob_some, ld_off ho, part_f, hex_get (by omega), ob_some, e2, ob_some, ix _ (by omega), ob_some, ld_off ho, part_f, hex_get (by omega), ob_some, hm, ob_some]
            exact step _ _ (by rw [escB, if_neg h, if_neg (by intro h2; simp [plainB, h2] at h1)]) (tl _)
      rw [f260_l18_eq, i_lss, ob_some, cnd_B, if_pos (by simpa using hlt'), i1, ob_some, part_f, List.getElem?_cons_zero, ob_some]
      refine (?_ : ob (binA Pg .eql 5 true (byteA c) (U8 (39 : Nat))) fun r14 => cndA r14 (f260_j32 (Pt b) (.sl sz nil tip (acc.map byteA)) (byteA c) (.sl 1 false .any ((tx s).map byteA)) (I (tx s).length) (I pre.length) (B true) H Q)
        (ob (binA Pg .eql 5 true (byteA c) (U8 (92 : Nat))) fun r15 => f260_j32 (Pt b) (.sl sz nil tip (acc.map byteA)) (byteA c) (.sl 1 false .any ((tx s).map byteA)) (I (tx s).length) (I pre.length) r15 H Q))
      rw [b_eq39, ob_some]
      refine cnd_intro (fun h => j32 true (by simp at h; simp [h])) (fun h => ?_)
      rw [b_eq39, ob_some]
      exact j32 _ (by simp at h; simp [h])
  exact loop (tx s) [] [39] 1 false .full H2 rfl (by simp) e3 o3 (.inr rfl) trivial (by simpa [quoteT] using hq)
/-! ### Values -/
def valT (v : Vl) : List UInt8 :=
  if v.k = 0 then [78, 85, 76, 76] else if v.k = 1 then (if v.n = 1 then [84, 82, 85, 69] else [70, 65, 76, 83, 69]) else if v.k = 2 then numT v.n else quoteT (tx v.s)
theorem valT_len {v : Vl} (hv : vr v) (hr : rightV v = true) : (valT v).length ≤ 1026 := by
  simp only [valT]
  split
  · simp
  · split
    · split <;> simp
    · split
      · have := numT_len hv; omega
      · rename_i h0 h1 h2
        have := quoteT_len (tx v.s)
        have hs : (tx v.s).length = v.s.size := size_list v.s
        rw [rightV_eq hv, if_neg h0, if_neg h1, if_neg h2] at hr
        split at hr
        · simp at hr; omega
        · cases hr
theorem x20 (a b : AV) : extractA (.tup [a, b]) 0 = some a := rfl
theorem x21 (a b : AV) : extractA (.tup [a, b]) 1 = some b := rfl
theorem c116 (v : Vl) (hv : vr v) (hr : rightV v = true) (H : Heap) (Q : Post) (hq : Q (.tup [strT (valT v), I 0]) H) : E 116 [encV v] H Q := by
  have h1 : partA true 0 3 [I v.k, I v.n, S v.s] = some (encV v) := rfl
  rw [f116_eq, sz3, ob_some, h1, ob_some, c190 v hv, hr, not_B, ob_some]
  simp only [Bool.not_true, cnd_f, part_f, List.getElem?_cons_zero, List.getElem?_cons_succ, ob_some, i_eql]
  simp only [valT] at hq
  refine cnd_intro (fun g => ?_) (fun g => ?_)
  · rw [if_pos (by simpa using g)] at hq; exact hq
  have g : ¬ v.k = 0 := by simpa using g
  rw [if_neg g] at hq
  refine cnd_intro (fun g1 => ?_) (fun g1 => ?_)
  · rw [if_pos (by simpa using g1)] at hq
    refine cnd_intro (fun g2 => ?_) (fun g2 => ?_)
    · rw [if_pos (by simpa using g2)] at hq; exact hq
    · rw [if_neg (by simpa using g2)] at hq; exact hq
  have g1 : ¬ v.k = 1 := by simpa using g1
  rw [if_neg g1] at hq
  refine cnd_intro (fun g2 => ?_) (fun g2 => ?_)
  · rw [if_pos (by simpa using g2)] at hq
    exact c197 _ v.n rfl hv H _ hq
  · have g2 : ¬ v.k = 2 := by simpa using g2
    rw [if_neg g2] at hq
    have hs : v.s.size ≤ 256 := by
      rw [rightV_eq hv, if_neg g, if_neg g1, if_neg g2] at hr
      split at hr
      · simp at hr; omega
      · cases hr
    refine c198 v.s H _ ?_
    rw [quoteP, if_neg (by omega)]
    simp only [x20, x21, ob_some]
    exact hq
theorem c193 (v : Vl) (hv : vr v) (hr : rightV v = true) (H : Heap) (Q : Post) (hq : ∀ H', HExt H H' → Q (.tup [strT (valT v), I 0]) H') : E 193 [encV v] H Q := by
  have h1 : partA true 0 3 [I v.k, I v.n, S v.s] = some (encV v) := rfl
  have hr' := hr
  rw [rightV_eq hv] at hr'
  rw [f193_eq, sz3, ob_some, h1, ob_some, c121, hr, not_B, ob_some]
  simp only [Bool.not_true, cnd_f, h1, part_f, List.getElem?_cons_zero, List.getElem?_cons_succ, ob_some, c259, c251, v_eql, i_eql]
  simp only [valT] at hq
  refine cnd_intro (fun g => ?_) (fun g => ?_)
  · have g : v = nullV := by simpa using g
    have := hq H (HExt.refl H)
    rw [if_pos (by rw [g]; rfl)] at this; exact this
  have g : ¬ v = nullV := by simpa using g
  have k0 : ¬ v.k = 0 := fun h => by
    rw [if_pos h] at hr'
    simp only [Bool.and_eq_true, decide_eq_true_eq] at hr'
    apply g
    cases v with | mk k n s =>
    simp only at h hr'
    rw [h, hr'.1, hr'.2]; rfl
  simp only [if_neg k0] at hq hr'
  refine cnd_intro (fun g1 => ?_) (fun g1 => ?_)
  · have g1 : v = boolV true := by simpa using g1
    have := hq H (HExt.refl H)
    rw [if_pos (by rw [g1]; rfl), if_pos (by rw [g1]; rfl)] at this; exact this
  have g1 : ¬ v = boolV true := by simpa using g1
  refine cnd_intro (fun g2 => ?_) (fun g2 => ?_)
  · have g2 : v = boolV false := by simpa using g2
    have := hq H (HExt.refl H)
    rw [if_pos (by rw [g2]; rfl), if_neg (by rw [g2]; decide)] at this; exact this
  have g2 : ¬ v = boolV false := by simpa using g2
  have k1 : ¬ v.k = 1 := fun h => by
    rw [if_pos h] at hr'
    simp only [Bool.and_eq_true, Bool.or_eq_true, decide_eq_true_eq] at hr'
    cases v with | mk k n s =>
    simp only at h hr'
    rcases hr'.1 with hn | hn
    · exact g2 (by rw [h, hn, hr'.2]; rfl)
    · exact g1 (by rw [h, hn, hr'.2]; rfl)
  simp only [if_neg k1] at hq hr'
  refine cnd_intro (fun g3 => ?_) (fun g3 => ?_)
  · rw [if_pos (by simpa using g3)] at hq
    exact c232 v.n hv H _ hq
  · have g3 : ¬ v.k = 2 := by simpa using g3
    rw [if_neg g3] at hq hr'
    have hs : v.s.size ≤ 256 := by
      split at hr'
      · simp at hr'; omega
      · cases hr'
    refine c260 v.s H _ (fun H1 e1 => ?_)
    rw [quoteP, if_neg (by omega)]
    simp only [x20, x21, ob_some]
    exact hq H1 e1
end Go.Hx
