/- Contracts of the program's words and tokens. Own work. -/
import Derived.Test.YtancdapnpceogaaGreatS5U
set_option maxRecDepth 20000
namespace Go.Hx
/-! ### Texts, cut -/
theorem bs_tx (s : ByteArray) : bs (tx s) = s := by cases s; simp [tx]
theorem tx_bs (l : List UInt8) : tx (bs l) = l := by simp [tx]
theorem extract_bs (s : ByteArray) (i j : Nat) : s.extract i j = bs (((tx s).take j).drop i) := by
  have h : (s.extract i j).data = s.data.extract i j := by simp
  have : tx (s.extract i j) = ((tx s).take j).drop i := by
    show (s.extract i j).data.toList = _
    rw [h, Array.toList_extract, List.extract_eq_take_drop, List.take_drop]
    rcases Nat.le_total i j with hij | hij
    · rw [Nat.add_sub_cancel' hij]
    · have : i + (j - i) = i := by omega
      rw [this, List.drop_eq_nil_of_le (by simp; omega), List.drop_eq_nil_of_le (by simp; omega)]
  rw [← this, bs_tx]
theorem slS_from {s : ByteArray} {pre r : List UInt8} (e : tx s = pre ++ r) : sliceSA (S s) (some (I pre.length)) none = some (S (bs r)) := by
  have hs : (tx s).length = s.size := size_list s
  have hl : pre.length ≤ s.size := by rw [← hs, e]; simp
  have h0 : (0 : Int) ≤ pre.length ∧ (pre.length : Int) ≤ (s.size : Int) ∧ (s.size : Int) ≤ s.size := by omega
  simp only [sliceSA, S, intOfA, I, if_pos h0, Int.toNat_natCast, extract_bs]
  rw [← hs, List.take_length, e, List.drop_left]
theorem slS_mid {s : ByteArray} {pre r : List UInt8} (e : tx s = pre ++ r) {n : Nat} (hn : n ≤ r.length) : sliceSA (S s) (some (I pre.length)) (some (I ((pre.length + n : Nat) : Int))) = some (S (bs (r.take n))) := by
  have hs : (tx s).length = s.size := size_list s
  have hl : pre.length + n ≤ s.size := by rw [← hs, e, List.length_append]; omega
  have h0 : (0 : Int) ≤ pre.length ∧ (pre.length : Int) ≤ ((pre.length + n : Nat) : Int) ∧ ((pre.length + n : Nat) : Int) ≤ s.size := by omega
  simp only [sliceSA, S, intOfA, I, if_pos h0, Int.toNat_natCast, extract_bs]
  rw [e, List.take_append, List.take_of_length_le (by omega), List.drop_left, Nat.add_sub_cancel_left]
theorem slS_to {s : ByteArray} {n : Nat} (hn : n ≤ s.size) : sliceSA (S s) none (some (I n)) = some (S (bs ((tx s).take n))) := by
  have h0 : (0 : Int) ≤ 0 ∧ (0 : Int) ≤ (n : Int) ∧ (n : Int) ≤ s.size := by omega
  simp only [sliceSA, S, intOfA, I, if_pos h0, Int.toNat_natCast, extract_bs]
  rfl
theorem w64_nat {n : Nat} (h : n ≤ 1152921504606846976) : W64 (n : Int) = (n : Int) := w64_id (by omega) (by omega)
theorem w64_add {m n : Nat} (h : m + n ≤ 1152921504606846976) : W64 ((m : Int) + (n : Int)) = ((m + n : Nat) : Int) := by
  rw [w64_id (by omega) (by omega)]; omega
/-! ### Something that is read, up to a place -/
structure Sc (H0 : Heap) (T : Nat → Option Nat) (b : Nat) (s : ByteArray) (p : Nat) (H : Heap) : Prop where
  ext : HExt H0 H
  fr : H0.fresh b
  obj : H.objs b = some (.cells [S s, I p])
  tp : ∀ c n, T c = some n → H.tips c = some n
variable {T : Nat → Option Nat}
theorem Sc.mono {H0 H H' : Heap} {b p : Nat} {s : ByteArray} (h : Sc H0 T b s p H) (he : HExt H H') : Sc H0 T b s p H' :=
  ⟨h.ext.trans he, h.fr, he.obj h.obj, fun c n hc => by have := h.tp c n hc; rw [(he c (fun hf => by rw [hf.2] at this; cases this)).2.1]; exact this⟩
theorem Sc.set {H0 H : Heap} {b p : Nat} {s : ByteArray} (h : Sc H0 T b s p H) (q : Nat) : Sc H0 T b s q (H.setObj b (.cells [S s, I q])) := ⟨h.ext.setObj h.fr _, h.fr, setObj_same _ _ _, h.tp⟩
theorem Sc.ld0 {H0 H : Heap} {b p : Nat} {s : ByteArray} (h : Sc H0 T b s p H) : ldH H false 1 (Poff b 0) = some (S s) := by rw [ld_off h.obj]; rfl
theorem Sc.ld1 {H0 H : Heap} {b p : Nat} {s : ByteArray} (h : Sc H0 T b s p H) : ldH H false 1 (Poff b 1) = some (I p) := by rw [ld_off h.obj]; rfl
theorem Sc.st1 {H0 H : Heap} {b p : Nat} {s : ByteArray} (h : Sc H0 T b s p H) (q : Int) : stH H 1 (Poff b 1) (I q) = some (H.setObj b (.cells [S s, I q])) := by
  simp [stH, h.obj, sizedA, cellsA, spliceA, I]
/-- what a tip says -/
def tipT (n : Nat) : Tip → Nat → Option Nat
  | .tip c => fun x => if x = c then some n else none
  | _ => fun _ => none
theorem Sc.tip {H0 H : Heap} {b p : Nat} {s : ByteArray} {sz n : Nat} {tip : Tip} (h : Sc H0 T b s p H) (ho : OwnS H0 H sz n tip) : Sc H0 (tipT (n * sz) tip) b s p H :=
  ⟨h.ext, h.fr, h.obj, fun c m hc => by
    cases tip with
    | any => cases hc
    | full => cases hc
    | tip d =>
      simp only [tipT] at hc
      split at hc
      · rename_i e; subst e; cases hc; exact ho.1
      · cases hc⟩
theorem Sc.own {H0 H1 H : Heap} {b p : Nat} {s : ByteArray} {sz n : Nat} {tip : Tip} (h : Sc H0 (tipT (n * sz) tip) b s p H) (ho : OwnS H0 H1 sz n tip) : OwnS H0 H sz n tip := by
  cases tip with
  | any => exact ho
  | full => exact ho
  | tip d => exact ⟨h.tp d _ (by simp [tipT]), ho.2⟩
theorem sc_new {H0 H : Heap} {s : ByteArray} (q : Nat) (he : HExt H0 H) {K : AV → Heap → Prop} (hk : ∀ b H', Sc H0 (fun _ => none) b s q H' → K (Pt b) H') : newH H [S s, I q] K := by
  intro b hb
  exact hk b _ ⟨he.setObj (he.fresh hb) _, he.fresh hb, setObj_same _ _ _, fun _ _ h => by cases h⟩
/-! ### Kinds of runes -/
theorem c175 (r : Int) (H : Heap) (Q : Post) : E 175 [R32 r] H Q = Q (B (uppI r)) H := by
  simp only [f175_eq, f175_j4_eq, k_geq, k_leq, ob_some, cnd_B, decide_eq_true_eq, uppI]
  split <;> rename_i h <;> simp only [h, decide_true, decide_false, Bool.true_and, Bool.false_and]
theorem c176 (r : Int) (H : Heap) (Q : Post) : E 176 [R32 r] H Q = Q (B (lowI r)) H := by
  simp only [f176_eq, f176_j4_eq, k_geq, k_leq, ob_some, cnd_B, decide_eq_true_eq, lowI]
  split <;> rename_i h <;> simp only [h, decide_true, decide_false, Bool.true_and, Bool.false_and]
theorem c177 (r : Int) (H : Heap) (Q : Post) : E 177 [R32 r] H Q = Q (B (digI r)) H := by
  simp only [f177_eq, f177_j4_eq, k_geq, k_leq, ob_some, cnd_B, decide_eq_true_eq, digI]
  split <;> rename_i h <;> simp only [h, decide_true, decide_false, Bool.true_and, Bool.false_and]
theorem c244 (r : Int) (H : Heap) (Q : Post) : E 244 [R32 r] H Q = Q (B (signI r)) H := by
  simp only [f244_eq, f244_j4_eq, c176, c177, k_eql, ob_some, cnd_B, signI]
  repeat' split
  all_goals simp_all
theorem c173 (c : UInt8) (H : Heap) (Q : Post) : E 173 [U8 c.toNat] H Q = Q (B (blankB c)) H := by
  simp only [f173_eq, f173_j4_eq, k_eql, ob_some, cnd_B, decide_eq_true_eq, blankB, blankI]
  repeat' split
  all_goals simp_all
/-! ### Runs of a kind -/
theorem tw_bad {p : UInt8 → Bool} {pre r : List UInt8} {c : UInt8} (h : pre.all p = true) (hc : p c = false) : ((pre ++ c :: r).takeWhile p).length = pre.length := by
  rw [List.takeWhile_append_of_pos (fun a ha => List.all_eq_true.1 h a ha)]; simp [hc]
theorem tw_all {p : UInt8 → Bool} {pre : List UInt8} (h : pre.all p = true) : (pre.takeWhile p).length = pre.length := by
  have := List.takeWhile_append_of_pos (l₂ := []) (fun a ha => List.all_eq_true.1 h a ha)
  simp only [List.append_nil, List.takeWhile_nil] at this
  rw [this]
theorem c243_l (g : AV) (pI : Int → Bool) (hg : ∀ (r : Int) (H : Heap) (K : Post), K (B (pI r)) H → callA (Ev Pg Hs) g [R32 r] H K) (hp : ∀ x : Int, 128 ≤ x → pI x = false)
    (H0 : Heap) (s : ByteArray) (b : Nat) (hb : H0.fresh b) (Q : Post) (hq : ∀ H', HExt H0 H' → Q (I ((tx s).takeWhile fun c => pI c.toNat).length) H') : ∀ (r pre : List UInt8) (H : Heap), tx s = pre ++ r → HExt H0 H →
    H.objs b = some (.siter s pre.length) → pre.all (fun c => pI c.toNat) = true → f243_l6 (S s) g (Pt b) H Q := by
  intro r
  induction r with
  | nil =>
    intro pre H e he hobj hall
    have hs : (tx s).length = s.size := size_list s
    have hlen : pre.length = s.size := by rw [← hs, e]; simp
    have hn : nextA (Pt b) H = fun K => K (.tup [B false]) H := by
      funext K; simp [nextA, Pt, hobj, hlen]
    have x0 : extractA (.tup [B false]) 0 = some (B false) := rfl
    rw [f243_l6_eq, hn]
    simp only [x0, ob_some, cnd_B, Bool.false_eq_true, if_false, len_S]
    have := hq H he
    rw [e, List.append_nil, tw_all hall, hlen] at this
    exact this
  | cons c r ih =>
    intro pre H e he hobj hall
    have hs : (tx s).length = s.size := size_list s
    have hlt : pre.length < s.size := by rw [← hs, e]; simp
    have hc : s[pre.length]'hlt = c := by
      have h1 : (tx s)[pre.length]? = some c := by rw [e]; simp
      have h2 : (tx s)[pre.length]? = some (s[pre.length]'hlt) := by
        rw [List.getElem?_eq_getElem (by rw [size_list]; exact hlt)]; rfl
      rw [h1] at h2; exact (Option.some.inj h2).symm
    have hn : nextA (Pt b) H = fun K => K (.tup [B true, I pre.length, R32 (Utf8.decode s pre.length).1]) (H.setObj b (.siter s (pre.length + (Utf8.decode s pre.length).2))) := by
      funext K; simp [nextA, Pt, hobj, hlt]
    have he' : HExt H0 (H.setObj b (.siter s (pre.length + (Utf8.decode s pre.length).2))) := he.setObj hb _
    have x0 : ∀ x y z, extractA (.tup [x, y, z]) 0 = some x := fun _ _ _ => rfl
    have x1 : ∀ x y z, extractA (.tup [x, y, z]) 1 = some y := fun _ _ _ => rfl
    have x2 : ∀ x y z, extractA (.tup [x, y, z]) 2 = some z := fun _ _ _ => rfl
    have hbad : ∀ H', HExt H0 H' → pI c.toNat = false → Q (I pre.length) H' := fun H' hx hcs => by
      have := hq H' hx
      rw [e, tw_bad hall hcs] at this
      exact this
    rw [f243_l6_eq, hn]
    simp only [x0, x1, x2, ob_some, cnd_t]
    rcases Nat.lt_or_ge c.toNat 128 with ha | ha
    · have hd := decode_ascii s pre.length hlt (by rw [hc]; exact ha)
      rw [hc] at hd
      simp only [hd]
      rw [hd] at he'
      refine hg _ _ _ ?_
      rw [not_B, ob_some]
      refine cnd_intro (fun h => hbad _ he' (by simpa using h)) (fun h => ?_)
      exact ih (pre ++ [c]) _ (by simp [e]) he' (by simp [setObj_same]) (by simp only [List.all_append, hall, Bool.true_and, List.all_cons, List.all_nil, Bool.and_true]; simpa using h)
    · have hd := decode_high s pre.length hlt (by rw [hc]; exact ha)
      refine hg _ _ _ ?_
      rw [not_B, ob_some, hp _ (by omega)]
      exact hbad _ he' (hp _ (by omega))
theorem c243 (g : AV) (pI : Int → Bool) (hg : ∀ (r : Int) (H : Heap) (K : Post), K (B (pI r)) H → callA (Ev Pg Hs) g [R32 r] H K) (hp : ∀ x : Int, 128 ≤ x → pI x = false)
    (s : ByteArray) (H : Heap) (Q : Post) (hq : ∀ H', HExt H H' → Q (I ((tx s).takeWhile fun c => pI c.toNat).length) H') : E 243 [S s, g] H Q := by
  rw [f243_eq]
  intro b hb
  exact c243_l g pI hg hp H s b hb Q hq (tx s) [] _ rfl ((HExt.refl H).setObj hb _) (by simp [setObj_same]) rfl
theorem run_upp (s : ByteArray) (H : Heap) (Q : Post) (hq : ∀ H', HExt H H' → Q (I ((tx s).takeWhile uppB).length) H') : E 243 [S s, .fn (.func 175) [] []] H Q :=
  c243 _ uppI (fun r H K hk => by show E 175 [R32 r] H K; rw [c175]; exact hk) (fun x hx => by simp only [uppI, Bool.and_eq_false_iff, decide_eq_false_iff_not]; omega) s H Q hq
theorem run_sign (s : ByteArray) (H : Heap) (Q : Post) (hq : ∀ H', HExt H H' → Q (I ((tx s).takeWhile signB).length) H') : E 243 [S s, .fn (.func 244) [] []] H Q :=
  c243 _ signI (fun r H K hk => by show E 244 [R32 r] H K; rw [c244]; exact hk) (fun x hx => by simp only [signI, lowI, digI, Bool.or_eq_false_iff, Bool.and_eq_false_iff, decide_eq_false_iff_not]; omega) s H Q hq
theorem run_dig (s : ByteArray) (H : Heap) (Q : Post) (hq : ∀ H', HExt H H' → Q (I ((tx s).takeWhile digB).length) H') : E 243 [S s, .fn (.func 177) [] []] H Q :=
  c243 _ digI (fun r H K hk => by show E 177 [R32 r] H K; rw [c177]; exact hk) (fun x hx => by simp only [digI, Bool.and_eq_false_iff, decide_eq_false_iff_not]; omega) s H Q hq
/-! ### Tokens -/
section
variable {H0 H : Heap} {b : Nat} {s : ByteArray} {pre r : List UInt8} {Q : Post}
theorem c242 (h : Sc H0 T b s pre.length H) (e : tx s = pre ++ r) (hq : Q (S (bs r)) H) : E 242 [Pt b] H Q := by
  rw [f242_eq]
  simp only [nil_Pt, ob_some, add_Pt, h.ld0, h.ld1, slS_from e]
  exact hq
theorem size_bound (e : tx s = pre ++ r) : pre.length + r.length = s.size := by
  have : (tx s).length = s.size := size_list s
  rw [← this, e, List.length_append]
theorem c245 (h : Sc H0 T b s pre.length H) (e : tx s = pre ++ r) (hsz : s.size ≤ 1099511627776) (k : Int) {n : Nat} (hn : n ≤ r.length)
    (hq : ∀ H', Sc H0 T b s (pre.length + n) H' → Q (encK ⟨k, bs (r.take n), pre.length⟩) H') : E 245 [Pt b, I k, I n] H Q := by
  have hb := size_bound e
  have hw : W64 ((pre.length : Int) + (n : Int)) = ((pre.length + n : Nat) : Int) := w64_add (by omega)
  have hbd : bldA [(0, 1, I k), (1, 1, S (bs (r.take n))), (2, 1, I pre.length)] [I 0, S ⟨#[]⟩, I 0] = some (encK ⟨k, bs (r.take n), pre.length⟩) := rfl
  have hs : sizedA 3 (encK ⟨k, bs (r.take n), pre.length⟩) = some [I k, S (bs (r.take n)), I pre.length] := rfl
  have hsp : spliceA 0 [I k, S (bs (r.take n)), I pre.length] [I 0, S ⟨#[]⟩, I 0] = some [I k, S (bs (r.take n)), I pre.length] := rfl
  have hp : partA true 0 3 [I k, S (bs (r.take n)), I pre.length] = some (encK ⟨k, bs (r.take n), pre.length⟩) := rfl
  rw [f245_eq]
  simp only [nil_Pt, ob_some, add_Pt, h.ld0, h.ld1, i_add, hw, slS_mid e hn, hbd, hs, hsp, h.st1, hp]
  exact hq _ (h.set _)
def zeroK : AV := .agg [I 0, S e0, I 0]
def resV (p : Nat) : L1 → AV
  | .tok k w _ => .tup [encK ⟨k, bs w, p⟩, B true]
  | .bad _ _ => .tup [zeroK, B false]
def resN : L1 → Nat
  | .tok _ _ n => n
  | .bad _ _ => 0
theorem tw_take (p : UInt8 → Bool) (l : List UInt8) : l.take (l.takeWhile p).length = l.takeWhile p := by
  induction l with
  | nil => rfl
  | cons a l ih =>
    rw [List.takeWhile_cons]
    split
    · simp [ih]
    · rfl
theorem tw_le (p : UInt8 → Bool) (l : List UInt8) : (l.takeWhile p).length ≤ l.length := by
  have := congrArg List.length (tw_take p l)
  rw [List.length_take] at this; omega
theorem j41 (h : Sc H0 T b s pre.length H) (e : tx s = pre ++ r) (hsz : s.size ≤ 1099511627776) (k : Int) {n : Nat} (hn : n ≤ r.length)
    (hq : ∀ H', Sc H0 T b s (pre.length + n) H' → Q (.tup [encK ⟨k, bs (r.take n), pre.length⟩, B true]) H') : f178_j41 (Pt b) (I k) [I 0, S ⟨#[]⟩, I 0] (I n) H Q := by
  rw [f178_j41_eq]
  refine c245 h e hsz k hn (fun H' h' => ?_)
  have hs : sizedA 3 (encK ⟨k, bs (r.take n), pre.length⟩) = some [I k, S (bs (r.take n)), I pre.length] := rfl
  have hsp : spliceA 0 [I k, S (bs (r.take n)), I pre.length] [I 0, S ⟨#[]⟩, I 0] = some [I k, S (bs (r.take n)), I pre.length] := rfl
  have hp : partA true 0 3 [I k, S (bs (r.take n)), I pre.length] = some (encK ⟨k, bs (r.take n), pre.length⟩) := rfl
  rw [hs, ob_some, hsp, ob_some, hp, ob_some]
  exact hq H' h'
/-- words, names -/
theorem c178_w (h : Sc H0 T b s pre.length H) (e : tx s = pre ++ r) (hsz : s.size ≤ 1099511627776) (k : Int) (hk : k = 1 ∨ k = 2)
    (hq : ∀ H', Sc H0 T b s (pre.length + resN (wordT k (if k = 1 then uppB else signB) r)) H' → Q (resV pre.length (wordT k (if k = 1 then uppB else signB) r)) H') : E 178 [Pt b, I k] H Q := by
  have hz : bldA [] [I 0, S ⟨#[]⟩, I 0] = some zeroK := rfl
  have hzs : sizedA 3 zeroK = some [I 0, S ⟨#[]⟩, I 0] := rfl
  have hzp : spliceA 0 [I 0, S ⟨#[]⟩, I 0] [I 0, S ⟨#[]⟩, I 0] = some [I 0, S ⟨#[]⟩, I 0] := rfl
  have hzt : partA true 0 3 [I 0, S ⟨#[]⟩, I 0] = some zeroK := rfl
  have go : ∀ (p : UInt8 → Bool) (H' : Heap), HExt H H' → (p = if k = 1 then uppB else signB) → ob (binA Pg .gtr 3 true (I (r.takeWhile p).length) (I 32)) (fun r6 => cndA r6 (Q (.tup [zeroK, B false]) H') (f178_j41 (Pt b) (I k) [I 0, S ⟨#[]⟩, I 0] (I (r.takeWhile p).length) H' Q)) := fun p H' he hp => by
    subst hp
    rw [i_gtr, ob_some]
    refine cnd_intro (fun h1 => ?_) (fun h1 => ?_)
    · have := hq H'
      rw [wordT, if_pos (by simp at h1; omega)] at this
      exact this (h.mono he)
    · refine j41 (h.mono he) e hsz k (tw_le _ _) (fun H2 h2 => ?_)
      have := hq H2
      rw [wordT, if_neg (by simp at h1; omega)] at this
      rw [tw_take]; exact this h2
  rw [f178_eq]
  rcases hk with rfl | rfl
  · simp only [i_eql, decide_true, ob_some, cnd_t]
    refine c242 h e ?_
    refine run_upp _ _ _ (fun H' he => ?_)
    simp only [hz, hzs, hzp, hzt, ob_some, tx_bs]
    exact go uppB H' he rfl
  · have : decide ((2 : Int) = 1) = false := rfl
    simp only [i_eql, this, ob_some, cnd_f, decide_true, cnd_t]
    refine c242 h e ?_
    refine run_sign _ _ _ (fun H' he => ?_)
    simp only [hz, hzs, hzp, hzt, ob_some, tx_bs]
    exact go signB H' he rfl
/-- numbers -/
theorem c178_n (h : Sc H0 T b s pre.length H) (e : tx s = pre ++ r) (hsz : s.size ≤ 1099511627776) (hr : r ≠ [])
    (hq : ∀ H', Sc H0 T b s (pre.length + resN (intT r)) H' → Q (resV pre.length (intT r)) H') : E 178 [Pt b, I 3] H Q := by
  have hz : bldA [] [I 0, S ⟨#[]⟩, I 0] = some zeroK := rfl
  have hzs : sizedA 3 zeroK = some [I 0, S ⟨#[]⟩, I 0] := rfl
  have hzp : spliceA 0 [I 0, S ⟨#[]⟩, I 0] [I 0, S ⟨#[]⟩, I 0] = some [I 0, S ⟨#[]⟩, I 0] := rfl
  have hzt : partA true 0 3 [I 0, S ⟨#[]⟩, I 0] = some zeroK := rfl
  have d1 : decide ((3 : Int) = 1) = false := rfl
  have d2 : decide ((3 : Int) = 2) = false := rfl
  rw [f178_eq]
  simp only [i_eql, d1, d2, ob_some, cnd_f]
  refine c242 h e ?_
  refine run_dig _ _ _ (fun H' he => ?_)
  simp only [tx_bs, i_gtr, ob_some]
  have h' := h.mono he
  have jb : (19 < (r.takeWhile digB).length ∨ (1 < (r.takeWhile digB).length ∧ r.head?.map (·.toNat) = some 48)) → ∀ d, d = true → f178_j36 (Pt b) (I 3) [I 0, S ⟨#[]⟩, I 0] (I (r.takeWhile digB).length) (B d) H' Q := fun hc d hd => by
    subst hd
    rw [f178_j36_eq]
    simp only [cnd_t, hz, hzs, hzp, hzt, ob_some]
    have := hq H'
    rw [intT, if_pos hc] at this
    exact this h'
  have jg : ¬ (19 < (r.takeWhile digB).length ∨ (1 < (r.takeWhile digB).length ∧ r.head?.map (·.toNat) = some 48)) → ∀ d, d = false → f178_j36 (Pt b) (I 3) [I 0, S ⟨#[]⟩, I 0] (I (r.takeWhile digB).length) (B d) H' Q := fun hc d hd => by
    subst hd
    rw [f178_j36_eq, cnd_f]
    refine j41 h' e hsz 3 (tw_le _ _) (fun H2 h2 => ?_)
    have := hq H2
    rw [intT, if_neg hc] at this
    rw [tw_take]; exact this h2
  refine cnd_intro (fun h1 => ?_) (fun h1 => ?_)
  · exact jb (.inl (by simp at h1; omega)) _ rfl
  · have h19 : ¬ 19 < (r.takeWhile digB).length := by simp at h1; omega
    refine cnd_intro (fun h2 => ?_) (fun h2 => ?_)
    · have h2 : 1 < (r.takeWhile digB).length := by simp at h2; omega
      cases r with
      | nil => exact (hr rfl).elim
      | cons c r =>
        simp only [nil_Pt, ob_some, add_Pt, h'.ld0, h'.ld1, ixS s pre r c e, k_eql]
        rcases Decidable.em (c.toNat = 48) with h3 | h3
        · exact jb (.inr ⟨h2, by simp [h3]⟩) _ (by simp [h3])
        · exact jg (by intro hc; rcases hc with hc | hc; exact h19 hc; simp at hc; exact h3 hc.2) _ (decide_eq_false (by omega))
    · exact jg (by intro hc; rcases hc with hc | hc; exact h19 hc; simp at h2; omega) _ rfl
/-! ### Signs -/
theorem bs_size (l : List UInt8) : (bs l).size = l.length := by show l.toArray.size = _; simp
theorem bs_inj {a b : List UInt8} : bs a = bs b ↔ a = b := ⟨fun h => by have := congrArg tx h; rwa [tx_bs, tx_bs] at this, fun h => by rw [h]⟩
theorem c247 (r w : List UInt8) (H : Heap) (Q : Post) : E 247 [S (bs r), S (bs w)] H Q = Q (B (pre? r w)) H := by
  rw [f247_eq]
  simp only [len_S, ob_some, i_geq, bs_size, cnd_B, decide_eq_true_eq, f247_j4_eq]
  rcases Nat.lt_or_ge r.length w.length with h | h
  · rw [if_neg (by omega)]
    have : pre? r w = false := by simp [pre?]; omega
    rw [this]
  · rw [if_pos (by omega), slS_to (by rw [bs_size]; exact h), ob_some, s_eql, ob_some]
    have : decide (bs ((tx (bs r)).take w.length) = bs w) = pre? r w := by
      rw [tx_bs, pre?, decide_eq_true h, Bool.true_and]; simp only [bs_inj]
    rw [this]
def signA : List AV := signW.map fun w => S (bs w)
theorem c246 (H : Heap) (Q : Post) (hq : ∀ H', HExt H H' → Q (.agg signA) H') : E 246 [] H Q := by
  rw [f246_eq]
  intro b hb
  have e1 : HExt H (H.setObj b (.cells (List.replicate 22 (S e0)))) := (HExt.refl H).setObj hb _
  have o1 : (H.setObj b (.cells (List.replicate 22 (S e0)))).objs b = some (.cells (List.replicate 22 (S e0))) := setObj_same _ _ _
  have hb' : bldA [(0, 1, (S ⟨#[60, 61]⟩)), (1, 1, (S ⟨#[62, 61]⟩)), (2, 1, (S ⟨#[60, 62]⟩)), (3, 1, (S ⟨#[45, 62]⟩)), (4, 1, (S ⟨#[40]⟩)), (5, 1, (S ⟨#[41]⟩)), (6, 1, (S ⟨#[44]⟩)), (7, 1, (S ⟨#[46]⟩)), (8, 1, (S ⟨#[43]⟩)), (9, 1, (S ⟨#[45]⟩)), (10, 1, (S ⟨#[42]⟩)), (11, 1, (S ⟨#[47]⟩)), (12, 1, (S ⟨#[37]⟩)), (13, 1, (S ⟨#[61]⟩)), (14, 1, (S ⟨#[60]⟩)), (15, 1, (S ⟨#[62]⟩)), (16, 1, (S ⟨#[33]⟩)), (17, 1, (S ⟨#[124]⟩)), (18, 1, (S ⟨#[123]⟩)), (19, 1, (S ⟨#[125]⟩)), (20, 1, (S ⟨#[91]⟩)), (21, 1, (S ⟨#[93]⟩))]
    [(S ⟨#[]⟩), (S ⟨#[]⟩), (S ⟨#[]⟩), (S ⟨#[]⟩), (S ⟨#[]⟩), (S ⟨#[]⟩), (S ⟨#[]⟩), (S ⟨#[]⟩), (S ⟨#[]⟩), (S ⟨#[]⟩), (S ⟨#[]⟩), (S ⟨#[]⟩), (S ⟨#[]⟩), (S ⟨#[]⟩), (S ⟨#[]⟩), (S ⟨#[]⟩), (S ⟨#[]⟩), (S ⟨#[]⟩), (S ⟨#[]⟩), (S ⟨#[]⟩), (S ⟨#[]⟩), (S ⟨#[]⟩)] = some (.agg signA) := rfl
  rw [hb', ob_some]
  refine (?_ : ob (stH (H.setObj b (.cells (List.replicate 22 (S e0)))) 22 (Pt b) (.agg signA)) fun H4 => ob (ldH H4 true 22 (Pt b)) fun r5 => Q r5 H4)
  rw [st_agg o1 (xs := signA) rfl 22 rfl, ob_some, ld_agg (setObj_same _ _ _) 22 rfl, ob_some]
  exact hq _ (e1.setObj hb _)
theorem c179 (h : Sc H0 T b s pre.length H) (e : tx s = pre ++ r) (hsz : s.size ≤ 1099511627776)
    (hq : ∀ H', Sc H0 T b s (pre.length + resN (signF r)) H' → Q (resV pre.length (signF r)) H') : E 179 [Pt b] H Q := by
  have hz : bldA [] [I 0, S ⟨#[]⟩, I 0] = some zeroK := rfl
  have hzs : sizedA 3 zeroK = some [I 0, S ⟨#[]⟩, I 0] := rfl
  have hzp : spliceA 0 [I 0, S ⟨#[]⟩, I 0] [I 0, S ⟨#[]⟩, I 0] = some [I 0, S ⟨#[]⟩, I 0] := rfl
  have hzt : partA true 0 3 [I 0, S ⟨#[]⟩, I 0] = some zeroK := rfl
  have loop : ∀ (ws done : List (List UInt8)) (H : Heap), signW = done ++ ws → Sc H0 T b s pre.length H →
      (∀ L, L = (match ws.find? (pre? r) with | none => L1.bad 0 4 | some w => .tok 5 w w.length) → ∀ H', Sc H0 T b s (pre.length + resN L) H' → Q (resV pre.length L) H') →
      f179_l6 (Pt b) [I 0, S ⟨#[]⟩, I 0] (.agg signA) (I done.length) H Q := by
    intro ws
    induction ws with
    | nil =>
      intro done H ed h hq
      have hd : done.length = 22 := by rw [List.append_nil] at ed; rw [← ed]; rfl
      have : decide (((done.length : Nat) : Int) < 22) = false := by rw [hd]; rfl
      rw [f179_l6_eq, i_lss, ob_some, this, cnd_f]
      simp only [hz, hzs, hzp, hzt, ob_some]
      exact hq _ rfl H h
    | cons w ws ih =>
      intro done H ed h hq
      have h22 : done.length + (w :: ws).length = 22 := by rw [← List.length_append, ← ed]; rfl
      simp only [List.length_cons] at h22
      have hlt : decide (((done.length : Nat) : Int) < 22) = true := by simp; omega
      have hix : ixAgg 22 false 1 (.agg signA) (I done.length) = some (S (bs w)) := by
        have h0 : (0 : Int) ≤ (done.length : Int) ∧ (done.length : Int) < ((22 : Nat) : Int) := by omega
        have : signA[done.length]? = some (S (bs w)) := by rw [signA, ed]; exact get_mid (fun w => S (bs w)) done ws w
        simp only [ixAgg, I, if_pos h0, Int.toNat_natCast, part_f, Nat.mul_one, this]
      rw [f179_l6_eq, i_lss, ob_some, hlt, cnd_t, hix, ob_some]
      refine c242 h e ?_
      rw [c247]
      cases hp : pre? r w with
      | true =>
        have hp' := hp
        simp only [pre?, Bool.and_eq_true, decide_eq_true_eq] at hp
        rw [cnd_t, len_S, bs_size, ob_some]
        refine c245 h e hsz 5 hp.1 (fun H' h' => ?_)
        rw [hp.2]
        have hs : sizedA 3 (encK ⟨5, bs w, pre.length⟩) = some [I 5, S (bs w), I pre.length] := rfl
        have hsp : spliceA 0 [I 5, S (bs w), I pre.length] [I 0, S ⟨#[]⟩, I 0] = some [I 5, S (bs w), I pre.length] := rfl
        have hpt : partA true 0 3 [I 5, S (bs w), I pre.length] = some (encK ⟨5, bs w, pre.length⟩) := rfl
        simp only [hs, hsp, hpt, ob_some]
        exact hq (.tok 5 w w.length) (by simp [List.find?, hp']) H' h'
      | false =>
        rw [cnd_f, i_add, ob_some, w64_succ (n := 22) (by omega) (by omega)]
        have := ih (done ++ [w]) H (by simp [ed]) h (fun L hL => hq L (by simp only [List.find?, hp]; exact hL))
        rw [List.length_append, List.length_singleton] at this
        exact this
  rw [f179_eq]
  refine c246 H _ (fun H1 e1 => ?_)
  exact loop signW [] H1 rfl (h.mono e1) (fun L hL H' h' => by
    have : L = signF r := hL
    subst this
    exact hq H' h')
end
end Go.Hx
