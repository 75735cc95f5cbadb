/- Contracts of numbers as texts. Own work. -/
import Derived.Test.YtancdapnpceogaaGreatS5N
set_option maxRecDepth 20000
namespace Go.Hx
abbrev U64 (n : Int) : AV := .raw (.int .u64 n)
theorem wrap_u64 {n : Int} (h0 : 0 ≤ n) (h1 : n < 18446744073709551616) : IntKind.u64.wrap n = n := by
  have hb : IntKind.u64.bits = 64 := rfl
  have hs : IntKind.u64.signed = false := rfl
  simp only [IntKind.wrap, hb, hs, Bool.false_and]
  simp; omega
theorem wrap_u8 {n : Int} (h0 : 0 ≤ n) (h1 : n < 256) : IntKind.u8.wrap n = n := by
  have hb : IntKind.u8.bits = 8 := rfl
  have hs : IntKind.u8.signed = false := rfl
  simp only [IntKind.wrap, hb, hs, Bool.false_and]
  simp; omega
theorem wrap_u64_neg {n : Int} (h0 : -9223372036854775808 ≤ n) (h1 : n < 0) : IntKind.u64.wrap n = n + 18446744073709551616 := by
  have hb : IntKind.u64.bits = 64 := rfl
  have hs : IntKind.u64.signed = false := rfl
  simp only [IntKind.wrap, hb, hs, Bool.false_and]
  simp; omega
theorem u64_rem (m : Nat) (t : TypeId) (l : Bool) : binA Pg .rem t l (U64 m) (U64 10) = some (U64 ((m % 10 : Nat) : Int)) := by
  rw [k_rem _ _ _ _ _ (by omega)]
  congr 3
theorem u64_quo (m : Nat) (h : m < 18446744073709551616) (t : TypeId) (l : Bool) : binA Pg .quo t l (U64 m) (U64 10) = some (U64 ((m / 10 : Nat) : Int)) := by
  have h1 : binA Pg .quo t l (U64 m) (U64 10) = some (U64 (IntKind.u64.wrap ((m : Int).tdiv 10))) := rfl
  have h2 : (m : Int).tdiv 10 = ((m / 10 : Nat) : Int) := rfl
  rw [h1, h2, wrap_u64 (by omega) (by omega)]
/-- a digit -/
def dig (d : Nat) : UInt8 := UInt8.ofNat (48 + d)
theorem dig_nat {d : Nat} (h : d < 10) : (dig d).toNat = 48 + d := by
  simp only [dig, UInt8.toNat_ofNat']
  omega
theorem byte_dig {d : Nat} (h : d < 10) : byteA (dig d) = U8 (48 + d) := by
  simp only [byteA, dig_nat h, U8]; rfl
def digitsN (n : Nat) : List UInt8 := if n < 10 then [dig n] else digitsN (n / 10) ++ [dig (n % 10)]
termination_by n
decreasing_by omega
theorem digits_len : ∀ (k n : Nat), 1 ≤ k → n < 10 ^ k → (digitsN n).length ≤ k := by
  intro k
  induction k with
  | zero => intro n h; omega
  | succ k ih =>
    intro n _ hn
    rw [digitsN]
    split
    · simp
    · rename_i h
      rcases Nat.eq_zero_or_pos k with rfl | hk
      · omega
      · have := ih (n / 10) hk (by rw [Nat.pow_succ] at hn; omega)
        rw [List.length_append]; simp; omega
theorem digits_len20 (n : Nat) (h : n ≤ 9223372036854775808) : (digitsN n).length ≤ 19 := digits_len 19 n (by omega) (by omega)
def numT (n : Int) : List UInt8 := (if n < 0 then [45] else []) ++ digitsN n.natAbs
theorem numT_len {n : Int} (h : rng n) : (numT n).length ≤ 20 := by
  have := digits_len20 n.natAbs (by have := h.1; have := h.2; omega)
  simp only [numT, List.length_append]
  split <;> simp <;> omega
def strT (l : List UInt8) : AV := S ⟨l.toArray⟩
theorem tx_str (l : List UInt8) : tx ⟨l.toArray⟩ = l := rfl
theorem s_add (l r : List UInt8) (t : TypeId) (b : Bool) (h : l.length + r.length ≤ 9223372036854775807) : binA Pg .add t b (strT l) (strT r) = some (strT (l ++ r)) := by
  have h1 : binA Pg .add t b (strT l) (strT r) = strBin .add ⟨l.toArray⟩ ⟨r.toArray⟩ := rfl
  have h2 : (ByteArray.mk l.toArray).size = l.length := by simp [ByteArray.size]
  have h3 : (ByteArray.mk r.toArray).size = r.length := by simp [ByteArray.size]
  rw [h1]
  simp only [strBin, h2, h3]
  rw [if_pos (by omega)]
  simp only [strT, S, Option.some.injEq, AV.raw.injEq, Value.string.injEq]
  ext1
  simp
theorem bs_lit (l : List UInt8) (nil : Bool) (tip : Tip) (K : AV → Prop) (hk : K (strT l)) : bsA (.sl 1 nil tip (l.map byteA)) K := ⟨.inr rfl, l, rfl, hk⟩
/-! ### The document's -/
theorem c197 : ∀ (m : Nat) (n : Int), n.natAbs = m → rng n → ∀ (H : Heap) (Q : Post), Q (strT (numT n)) H → E 197 [I n] H Q := by
  intro m
  induction m using Nat.strongRecOn with
  | ind m ih =>
    intro n hm hr H Q hq
    obtain ⟨hr1, hr2⟩ := hr
    have one : ∀ (d : Nat), d < 10 → ∀ (K : AV → Prop), K (strT [dig d]) → ob (cvtIA .u8 (I (48 + d))) fun r6 => ob (mkSlA 1 [r6]) fun r7 => bsA r7 K := fun d hd K hk => by
      have e1 : cvtIA .u8 (I (48 + d)) = some (U8 (48 + d)) := by
        simp only [cvtIA, I, wrap_u8 (show (0 : Int) ≤ 48 + (d : Int) by omega) (show (48 : Int) + (d : Int) < 256 by omega)]
      have e2 : mkSlA 1 [U8 (48 + d)] = some (.sl 1 false .full [U8 (48 + d)]) := rfl
      rw [e1, ob_some, e2, ob_some, ← byte_dig hd]
      exact bs_lit [dig d] _ _ K hk
    have hrem : binA Pg .rem 2 true (I n) (I 10) = some (I (n.tmod 10)) := i_rem 2 true n 10 (by omega)
    have hqr : rng (n.tdiv 10) := by
      by_cases h : n < 0
      · have e : n.tdiv 10 = -((m / 10 : Nat) : Int) := by rw [show n = -(m : Int) by omega, Int.neg_tdiv]; rfl
        rw [e]; exact ⟨by omega, by omega⟩
      · have e : n.tdiv 10 = ((m / 10 : Nat) : Int) := by rw [show n = (m : Int) by omega]; rfl
        rw [e]; exact ⟨by omega, by omega⟩
    have hquo : binA Pg .quo 2 true (I n) (I 10) = some (I (n.tdiv 10)) := by rw [i_quo 2 true n 10 (by omega), w64_id hqr.1 hqr.2]
    rw [f197_eq, i_lss, ob_some]
    have hmin : strT [45] = S ⟨#[45]⟩ := rfl
    refine cnd_intro (fun h => ?_) (fun h => ?_)
    · have hneg : n < 0 := by simpa using h
      have hnm : n = -(m : Int) := by omega
      have hd : n.tmod 10 = -((m % 10 : Nat) : Int) := by rw [hnm, Int.neg_tmod]; rfl
      have hqd : n.tdiv 10 = -((m / 10 : Nat) : Int) := by rw [hnm, Int.neg_tdiv]; rfl
      rw [hquo, ob_some, hrem, ob_some, i_sub, ob_some, hd, w64_id (by omega) (by omega)]
      have e48 : (48 : Int) - -((m % 10 : Nat) : Int) = 48 + ((m % 10 : Nat) : Int) := by omega
      rw [e48]
      refine one (m % 10) (by omega) _ ?_
      rw [i_eql, ob_some, hqd]
      have hnum : numT n = 45 :: digitsN m := by simp only [numT, hneg, if_true, hm]; rfl
      rw [hnum] at hq
      refine cnd_intro (fun h0 => ?_) (fun h0 => ?_)
      · have h0 : m / 10 = 0 := by have := of_decide_eq_true h0; omega
        rw [← hmin, s_add [45] _ _ _ (by simp), ob_some]
        rw [digitsN, if_pos (by omega)] at hq
        have : m % 10 = m := by omega
        rw [this]; exact hq
      · have h0 : ¬ m / 10 = 0 := by have := of_decide_eq_false h0; omega
        rw [digitsN, if_neg (by omega)] at hq
        have hr3 : rng (-((m / 10 : Nat) : Int)) := ⟨by omega, by omega⟩
        have hl := numT_len hr3
        refine ih (m / 10) (by omega) (-((m / 10 : Nat) : Int)) (by omega) hr3 H _ ?_
        rw [s_add _ _ _ _ (by simp only [List.length_singleton]; omega), ob_some]
        have : numT (-((m / 10 : Nat) : Int)) = 45 :: digitsN (m / 10) := by
          simp only [numT]
          rw [if_pos (by omega)]
          have : (-((m / 10 : Nat) : Int)).natAbs = m / 10 := by omega
          rw [this]; rfl
        rw [this]; exact hq
    · have hpos : ¬ n < 0 := by simpa using h
      have hnm : n = (m : Int) := by omega
      have hd : n.tmod 10 = ((m % 10 : Nat) : Int) := by rw [hnm]; rfl
      have hqd : n.tdiv 10 = ((m / 10 : Nat) : Int) := by rw [hnm]; rfl
      have hnum : numT n = digitsN m := by simp only [numT, hpos, if_false, hm]; rfl
      rw [hnum] at hq
      rw [hrem, ob_some, i_add, ob_some, hd, w64_id (by omega) (by omega)]
      refine one (m % 10) (by omega) _ ?_
      rw [i_geq, ob_some]
      refine cnd_intro (fun h0 => ?_) (fun h0 => ?_)
      · have h0 : 10 ≤ n := by simpa using h0
        rw [hquo, ob_some, hqd]
        rw [digitsN, if_neg (by omega)] at hq
        have hr3 : rng ((m / 10 : Nat) : Int) := ⟨by omega, by omega⟩
        have hl := numT_len hr3
        refine ih (m / 10) (by omega) ((m / 10 : Nat) : Int) (by omega) hr3 H _ ?_
        rw [s_add _ _ _ _ (by simp only [List.length_singleton]; omega), ob_some]
        have : numT ((m / 10 : Nat) : Int) = digitsN (m / 10) := by
          simp only [numT]
          rw [if_neg (by omega)]
          rfl
        rw [this]; exact hq
      · have h0 : ¬ 10 ≤ n := by simpa using h0
        rw [digitsN, if_pos (by omega)] at hq
        have : m % 10 = m := by omega
        rw [this]; exact hq
def tabC : List AV := [U8 48, U8 49, U8 50, U8 51, U8 52, U8 53, U8 54, U8 55, U8 56, U8 57]
theorem tab_get {d : Nat} (h : d < 10) : tabC[d]? = some (byteA (dig d)) := by
  rw [byte_dig h]
  match d, h with
  | 0, _ | 1, _ | 2, _ | 3, _ | 4, _ | 5, _ | 6, _ | 7, _ | 8, _ | 9, _ => rfl
def zero8 (n : Nat) : List AV := List.replicate n (U8 0)
theorem st_agg {H : Heap} {b : Nat} {cs xs : List AV} (h : H.objs b = some (.cells cs)) (hl : xs.length = cs.length) (n : Nat) (hn : xs.length = n) : stH H n (Pt b) (.agg xs) = some (H.setObj b (.cells xs)) := by
  have h1 : sizedA n (.agg xs) = some xs := by simp [sizedA, cellsA, hn]
  have h2 : spliceA 0 xs cs = some xs := by simp [spliceA, hl]
  simp [stH, Pt, h, h1, h2]
theorem ld_agg {H : Heap} {b : Nat} {cs : List AV} (h : H.objs b = some (.cells cs)) (n : Nat) (hn : cs.length = n) : ldH H true n (Pt b) = some (.agg cs) := by
  rw [ld_Pt h]
  simp [partA, ← hn]
theorem c279 (H : Heap) (Q : Post) (hq : ∀ H', HExt H H' → Q (.agg tabC) H') : E 279 [] H Q := by
  rw [f279_eq]
  intro b hb
  have e1 : HExt H (H.setObj b (.cells (zero8 10))) := (HExt.refl H).setObj hb _
  have o1 : (H.setObj b (.cells (zero8 10))).objs b = some (.cells (zero8 10)) := setObj_same _ _ _
  show ob (bldA _ _) _
  have hb' : bldA [(0, 1, U8 48), (1, 1, U8 49), (2, 1, U8 50), (3, 1, U8 51), (4, 1, U8 52), (5, 1, U8 53), (6, 1, U8 54), (7, 1, U8 55), (8, 1, U8 56), (9, 1, U8 57)] [U8 0, U8 0, U8 0, U8 0, U8 0, U8 0, U8 0, U8 0, U8 0, U8 0] = some (.agg tabC) := rfl
  rw [hb', ob_some]
  have hs := st_agg o1 (xs := tabC) rfl 10 rfl
  refine (?_ : ob (stH (H.setObj b (.cells (zero8 10))) 10 (Pt b) (.agg tabC)) fun H4 => ob (ldH H4 true 10 (Pt b)) fun r5 => Q r5 H4)
  rw [hs, ob_some, ld_agg (setObj_same _ _ _) 10 rfl, ob_some]
  exact hq _ (e1.setObj hb _)
theorem HExt.dropObj {H H' : Heap} (h : HExt H H') {b : Nat} (hb : H.fresh b) : HExt H (H'.dropObj b) := fun c hc => by
  have hne : c ≠ b := fun e => hc (e ▸ hb)
  have := h c hc
  simp only [Heap.dropObj, if_neg hne]
  exact this
theorem splice1 {cs : List AV} {k : Nat} (h : k < cs.length) (v : AV) : spliceA k [v] cs = some (cs.take k ++ [v] ++ cs.drop (k + 1)) := by
  simp only [spliceA, List.length_singleton]
  rw [if_pos (by omega)]
theorem st_at {H : Heap} {b k : Nat} {cs : List AV} (h : H.objs b = some (.cells cs)) (hk : k < cs.length) (c : UInt8) : stH H 1 (Poff b k) (byteA c) = some (H.setObj b (.cells (cs.take k ++ [byteA c] ++ cs.drop (k + 1)))) := by
  have h1 : sizedA 1 (byteA c) = some [byteA c] := rfl
  simp [stH, h, h1, splice1 hk]
theorem drop_set {cs : List AV} {k : Nat} (h : k < cs.length) (v : AV) : (cs.take k ++ [v] ++ cs.drop (k + 1)).drop k = v :: cs.drop (k + 1) := by
  rw [List.append_assoc, List.drop_append_of_le_length (by simp; omega)]
  simp
theorem len_set {cs : List AV} {k : Nat} (h : k < cs.length) (v : AV) : (cs.take k ++ [v] ++ cs.drop (k + 1)).length = cs.length := by
  simp; omega
theorem c232 (n : Int) (hr : rng n) (H0 : Heap) (Q : Post) (hq : ∀ H', HExt H0 H' → Q (strT (numT n)) H') : E 232 [I n] H0 Q := by
  obtain ⟨hr1, hr2⟩ := hr
  have loop : ∀ (m : Nat) (i : Nat) (suf : List UInt8) (b3 b5 : Nat) (cs : List AV) (H : Heap), m < 18446744073709551616 → H0.fresh b5 → b3 ≠ b5 → HExt H0 H → H.objs b3 = some (.cells tabC) → H.objs b5 = some (.cells cs) → cs.length = 20 → cs.drop i = suf.map byteA →
      (digitsN m).length + 1 ≤ i → i ≤ 20 → (∀ H', HExt H0 H' → Q (strT ((if n < 0 then [45] else []) ++ (digitsN m ++ suf))) H') → f232_l18 (I n) (Pt b3) (U64 m) (Pt b5) (I i) H Q := by
    intro m
    induction m using Nat.strongRecOn with
    | ind m ih =>
      intro i suf b3 b5 cs H hm hf hne he ho3 ho5 hcl hd hi hi2 hq
      have hi1 : 1 ≤ i := by omega
      have hk : i - 1 < cs.length := by omega
      have es : W64 ((i : Int) - 1) = ((i - 1 : Nat) : Int) := by rw [w64_id (by omega) (by omega)]; omega
      have ix3 : ixPA 10 1 (Pt b3) (U64 ((m % 10 : Nat) : Int)) = some (Poff b3 (m % 10)) := by
        simp only [ixPA, Pt]
        rw [if_pos (by omega), Int.toNat_natCast]
        simp
      have ix5 : ∀ k : Nat, k < 20 → ixPA 20 1 (Pt b5) (I k) = some (Poff b5 k) := fun k hk => by
        simp only [ixPA, Pt, I]
        rw [if_pos (by omega)]
        simp
      rw [f232_l18_eq, i_sub, ob_some, es, u64_rem, ob_some, ix3, ob_some, ld_off ho3, part_f, tab_get (by omega), ob_some, ix5 _ (by omega), ob_some, st_at ho5 hk, ob_some]
      have o5 := setObj_same H b5 (.cells (cs.take (i - 1) ++ [byteA (dig (m % 10))] ++ cs.drop (i - 1 + 1)))
      have o3 : (H.setObj b5 (.cells (cs.take (i - 1) ++ [byteA (dig (m % 10))] ++ cs.drop (i - 1 + 1)))).objs b3 = some (.cells tabC) := (setObj_ne H _ hne).trans ho3
      have e1 : HExt H0 (H.setObj b5 (.cells (cs.take (i - 1) ++ [byteA (dig (m % 10))] ++ cs.drop (i - 1 + 1)))) := he.setObj hf _
      have d1 := drop_set hk (byteA (dig (m % 10)))
      have l1 := len_set hk (byteA (dig (m % 10)))
      generalize H.setObj b5 (.cells (cs.take (i - 1) ++ [byteA (dig (m % 10))] ++ cs.drop (i - 1 + 1))) = H1 at o5 o3 e1 ⊢
      generalize cs.take (i - 1) ++ [byteA (dig (m % 10))] ++ cs.drop (i - 1 + 1) = cs1 at o5 d1 l1
      have hsuf : cs1.drop (i - 1) = (dig (m % 10) :: suf).map byteA := by
        rw [d1, show i - 1 + 1 = i by omega, hd]; rfl
      rw [u64_quo m hm, ob_some, k_eql, ob_some]
      have fin : ∀ (k : Nat) (l : List UInt8) (cs2 : List AV) (H2 : Heap), k ≤ 20 → HExt H0 H2 → H2.objs b5 = some (.cells cs2) → cs2.length = 20 → cs2.drop k = l.map byteA → (∀ H', HExt H0 H' → Q (strT l) H') → f232_j39 (Pt b5) (I k) H2 Q := fun k l cs2 H2 hk2 he2 ho2 hl2 hd2 hq2 => by
        rw [f232_j39_eq]
        simp only [slArr, Pt, I, ho2]
        refine ⟨hl2, by omega, by omega, ?_⟩
        rw [show ((k : Int)).toNat = k by omega, hd2]
        exact bs_lit l _ _ _ (hq2 _ (he2.dropObj hf))
      refine cnd_intro (fun h0 => ?_) (fun h0 => ?_)
      · have h0 : m / 10 = 0 := by have := of_decide_eq_true h0; omega
        have hdm : digitsN m = [dig (m % 10)] := by rw [digitsN, if_pos (by omega), show m % 10 = m by omega]
        rw [hdm] at hq hi
        rw [i_lss, ob_some]
        refine cnd_intro (fun hn => ?_) (fun hn => ?_)
        · have hn : n < 0 := by simpa using hn
          simp only [if_pos hn] at hq
          have hi3 : 2 ≤ i := by simpa using hi
          have es2 : W64 (((i - 1 : Nat) : Int) - 1) = ((i - 2 : Nat) : Int) := by rw [w64_id (by omega) (by omega)]; omega
          have hk2 : i - 2 < cs1.length := by omega
          rw [i_sub, ob_some, es2, ix5 _ (by omega), ob_some]
          have h45 : AV.raw (.int .u8 45) = byteA 45 := rfl
          rw [h45, st_at o5 hk2, ob_some]
          refine fin (i - 2) (45 :: dig (m % 10) :: suf) _ _ (by omega) (e1.setObj hf _) (setObj_same _ _ _) (by rw [len_set hk2]; omega) ?_ (fun H' h' => by simpa using hq H' h')
          rw [drop_set hk2, show i - 2 + 1 = i - 1 by omega, hsuf]
          rfl
        · have hn : ¬ n < 0 := by simpa using hn
          simp only [if_neg hn] at hq
          exact fin (i - 1) (dig (m % 10) :: suf) cs1 H1 (by omega) e1 o5 (by omega) hsuf (fun H' h' => by simpa using hq H' h')
      · have h0 : ¬ m / 10 = 0 := by have := of_decide_eq_false h0; omega
        have hdm : digitsN m = digitsN (m / 10) ++ [dig (m % 10)] := by rw [digitsN, if_neg (by omega)]
        rw [hdm] at hq hi
        simp only [List.length_append, List.length_singleton] at hi
        exact ih (m / 10) (by omega) (i - 1) (dig (m % 10) :: suf) b3 b5 cs1 H1 (by omega) hf hne e1 o3 o5 (by omega) hsuf (by omega) (by omega) (by simpa using hq)
  have hlen := digits_len20 n.natAbs (by omega)
  have j12 : ∀ (b3 : Nat) (H : Heap), HExt H0 H → H.objs b3 = some (.cells tabC) → f232_j12 (I n) (Pt b3) (U64 n.natAbs) H Q := fun b3 H he ho3 => by
    rw [f232_j12_eq]
    intro b5 hb5
    have hne : b3 ≠ b5 := fresh_ne ho3 hb5
    have o3 := (setObj_ne H (.cells (zero8 20)) hne).trans ho3
    have o5 := setObj_same H b5 (.cells (zero8 20))
    have e1 : HExt H0 (H.setObj b5 (.cells (zero8 20))) := he.setObj (he.fresh hb5) _
    exact loop n.natAbs 20 [] b3 b5 (zero8 20) _ (by omega) (he.fresh hb5) hne e1 o3 o5 rfl (by simp [zero8]) (by omega) (by omega) (fun H' h' => by simpa [numT] using hq H' h')
  rw [f232_eq]
  refine c279 H0 _ (fun H1 e1 => ?_)
  intro b3 hb3
  have e2 : HExt H0 (H1.setObj b3 (.cells (zero8 10))) := e1.setObj (e1.fresh hb3) _
  have o3 : (H1.setObj b3 (.cells (zero8 10))).objs b3 = some (.cells (zero8 10)) := setObj_same _ _ _
  refine (?_ : ob (stH (H1.setObj b3 (.cells (zero8 10))) 10 (Pt b3) (.agg tabC)) fun H5 => ob (cvtIA .u64 (I n)) fun r7 => ob (binA Pg .lss 2 true (I n) (I 0)) fun r8 => cndA r8 (ob (unA .neg r7) fun r9 => f232_j12 (I n) (Pt b3) r9 H5 Q) (f232_j12 (I n) (Pt b3) r7 H5 Q))
  rw [st_agg o3 (xs := tabC) rfl 10 rfl, ob_some]
  have e3 : HExt H0 ((H1.setObj b3 (.cells (zero8 10))).setObj b3 (.cells tabC)) := e2.setObj (e1.fresh hb3) _
  have o3 := setObj_same (H1.setObj b3 (.cells (zero8 10))) b3 (.cells tabC)
  have hc : cvtIA .u64 (I n) = some (U64 (IntKind.u64.wrap n)) := rfl
  rw [hc, ob_some, i_lss, ob_some]
  refine cnd_intro (fun hn => ?_) (fun hn => ?_)
  · have hn : n < 0 := by simpa using hn
    have hu : unA .neg (U64 (IntKind.u64.wrap n)) = some (U64 n.natAbs) := by
      simp only [unA, wrap_u64_neg hr1 hn]
      have : IntKind.u64.wrap (0 - (n + 18446744073709551616)) = (n.natAbs : Int) := by
        have hb : IntKind.u64.bits = 64 := rfl
        have hs : IntKind.u64.signed = false := rfl
        simp only [IntKind.wrap, hb, hs, Bool.false_and]
        simp; omega
      rw [this]
    rw [hu, ob_some]
    exact j12 b3 _ e3 o3
  · have hn : ¬ n < 0 := by simpa using hn
    have hw : IntKind.u64.wrap n = (n.natAbs : Int) := by rw [wrap_u64 (by omega) (by omega)]; omega
    rw [hw]
    exact j12 b3 _ e3 o3
end Go.Hx
