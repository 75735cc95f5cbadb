/- Contracts of layer 5 in this seat: names. Own work (session 3; turned from S3D). -/
import Derived.Test.YtancdapnpceogaaGreatS5A
import Derived.Laws.RangeAny
set_option maxRecDepth 20000
namespace Go.Hx
/-! ### Names -/
def lowI (r : Int) : Bool := decide (97 ≤ r) && decide (r ≤ 122)
def digI (r : Int) : Bool := decide (48 ≤ r) && decide (r ≤ 57)
def signI (r : Int) : Bool := lowI r || (digI r || decide (r = 95))
abbrev R32 (r : Int) : AV := .raw (.int .i32 r)
abbrev U8 (r : Int) : AV := .raw (.int .u8 r)
theorem c200 (r : Int) (H : Heap) (Q : Post) : E 200 [R32 r] H Q = Q (B (lowI r)) H := by
  simp only [f200_eq, f200_j4_eq, k_geq, k_leq, ob_some, cnd_B, decide_eq_true_eq, lowI]
  split <;> rename_i h <;> simp only [h, decide_true, decide_false, Bool.true_and, Bool.false_and]
theorem c264 (r : Int) (H : Heap) (Q : Post) : E 264 [R32 r] H Q = Q (B (digI r)) H := by
  simp only [f264_eq, f264_j4_eq, k_geq, k_leq, ob_some, cnd_B, decide_eq_true_eq, digI]
  split <;> rename_i h <;> simp only [h, decide_true, decide_false, Bool.true_and, Bool.false_and]
theorem c199 (r : Int) (H : Heap) (Q : Post) : E 199 [R32 r] H Q = Q (B (signI r)) H := by
  simp only [f199_eq, f199_j4_eq, c200, c264, k_eql, ob_some, cnd_B, signI]
  repeat' split
  all_goals simp_all
def lowB (c : UInt8) : Bool := lowI c.toNat
def signB (c : UInt8) : Bool := signI c.toNat
def nameL : List UInt8 → Bool
  | [] => false
  | c :: r => lowB c && ((c :: r).all signB && decide (((c :: r).length : Int) ≤ 32))
theorem nameL_bad (pre r : List UInt8) (c : UInt8) (h : signB c = false ∨ (pre = [] ∧ lowB c = false)) : nameL (pre ++ c :: r) = false := by
  cases pre with
  | nil =>
    rcases h with h | h
    · simp [nameL, h]
    · simp [nameL, h.2]
  | cons p pre =>
    rcases h with h | h
    · simp [nameL, h]
    · exact absurd h.1 (by simp)
theorem size_list (s : ByteArray) : s.data.toList.length = s.size := by rw [Array.length_toList]; rfl
theorem c122_l (H0 : Heap) (s : ByteArray) (b : Nat) (hb : H0.fresh b) (hsz : s.size ≤ 1099511627776) (Q : Post) (hq : ∀ H', HExt H0 H' → Q (B (nameL s.data.toList)) H') : ∀ (r pre : List UInt8) (H : Heap), s.data.toList = pre ++ r → HExt H0 H → H.objs b = some (.siter s pre.length) →
    pre.all signB = true → (∀ c r, pre = c :: r → lowB c = true) → f122_l6 (S s) (Pt b) H Q := by
  intro r
  induction r with
  | nil =>
    intro pre H e he hobj hall hlow
    have hlen : pre.length = s.size := by rw [← size_list s, e]; simp
    have hn : nextA (Pt b) H = fun K => K (.tup [B false]) H := by
      funext K; simp [nextA, Pt, hobj, hlen]
    have x0 : extractA (.tup [B false]) 0 = some (B false) := rfl
    rw [f122_l6_eq, hn]
    simp only [x0, ob_some, cnd_B, Bool.false_eq_true, if_false, s_neq, len_S, i_leq, f122_j25_eq]
    have hres : nameL s.data.toList = if (!decide (s = e0)) = true then decide ((s.size : Int) ≤ 32) else false := by
      rw [e, List.append_nil]
      cases pre with
      | nil =>
        have : s = e0 := by
          have h0 : s.data.toList = [] := by simpa using e
          cases s with | mk d => simp at h0; simp [h0]
        simp [this, nameL]
      | cons c p =>
        have hne : s ≠ e0 := fun h => by rw [h] at e; simp at e
        have := hlow c p rfl
        simp only [nameL, this, hall, Bool.true_and, hlen]
        simp [hne]
    have := hq H he
    rw [hres] at this
    split
    · rename_i h; rw [if_pos h] at this; exact this
    · rename_i h; rw [if_neg h] at this; exact this
  | cons c r ih =>
    intro pre H e he hobj hall hlow
    have hlt : pre.length < s.size := by rw [← size_list s, e]; simp
    have hc : s[pre.length]'hlt = c := by
      have h1 : s.data.toList[pre.length]? = some c := by rw [e]; simp
      have h2 : s.data.toList[pre.length]? = some (s[pre.length]'hlt) := by
        rw [List.getElem?_eq_getElem (by rw [size_list]; exact hlt)]; rfl
      rw [h1] at h2; exact (Option.some.inj h2).symm
    have hn : nextA (Pt b) H = fun K => K (.tup [B true, I pre.length, R32 (Utf8.decode s pre.length).1]) (H.setObj b (.siter s (pre.length + (Utf8.decode s pre.length).2))) := by
      funext K; simp [nextA, Pt, hobj, hlt]
    have he' : HExt H0 (H.setObj b (.siter s (pre.length + (Utf8.decode s pre.length).2))) := he.setObj hb _
    have x0 : ∀ x y z, extractA (.tup [x, y, z]) 0 = some x := fun _ _ _ => rfl
    have x1 : ∀ x y z, extractA (.tup [x, y, z]) 1 = some y := fun _ _ _ => rfl
    have x2 : ∀ x y z, extractA (.tup [x, y, z]) 2 = some z := fun _ _ _ => rfl
    rw [f122_l6_eq, hn]
    simp only [x0, x1, x2, ob_some, cnd_B, if_true, c199, c200, not_B, i_eql, f122_j18_eq]
    have hbad : ∀ H', HExt H0 H' → (signB c = false ∨ (pre = [] ∧ lowB c = false)) → Q (B false) H' := fun H' hx hcs => by
      have := hq H' hx
      rw [e, nameL_bad pre r c hcs] at this
      exact this
    rcases Nat.lt_or_ge c.toNat 128 with ha | ha
    · have hd := decode_ascii s pre.length hlt (by rw [hc]; exact ha)
      rw [hc] at hd
      simp only [hd]
      rw [hd] at he'
      have hs : signI ((c.toNat : Nat) : Int) = signB c := rfl
      have hl : lowI ((c.toNat : Nat) : Int) = lowB c := rfl
      rw [hs, hl]
      split
      · rename_i h
        exact hbad _ he' (.inl (by simpa using h))
      · rename_i h
        have hsig : signB c = true := by simpa using h
        have hgo : (pre = [] → lowB c = true) → f122_l6 (S s) (Pt b) (H.setObj b (.siter s (pre.length + 1))) Q := fun hf =>
          ih (pre ++ [c]) _ (by simp [e]) he' (by simp [setObj_same]) (by simp [hall, hsig]) (fun c' r' h' => by
            cases pre with
            | nil => simp at h'; rw [← h'.1]; exact hf rfl
            | cons p pre => simp at h'; exact hlow c' pre (by rw [h'.1]))
        split
        · rename_i h0
          have hp : pre = [] := by
            have : (pre.length : Int) = 0 := by simpa using h0
            exact List.eq_nil_of_length_eq_zero (by omega)
          split
          · rename_i h1; exact hbad _ he' (.inr ⟨hp, by simpa using h1⟩)
          · rename_i h1; exact hgo (fun _ => by simpa using h1)
        · rename_i h0
          simp only [Bool.false_eq_true, if_false]
          exact hgo (fun hp => absurd (by subst hp; simp) h0)
    · have hd := decode_high s pre.length hlt (by rw [hc]; exact ha)
      have hsf : ∀ x : Int, 128 ≤ x → signI x = false := fun x hx => by
        simp only [signI, lowI, digI, Bool.or_eq_false_iff, Bool.and_eq_false_iff, decide_eq_false_iff_not]
        omega
      have h1 : signI ((Utf8.decode s pre.length).1 : Int) = false := hsf _ (by omega)
      have h2 : signB c = false := hsf _ (by omega)
      rw [h1]
      simp only [Bool.not_false, if_true]
      exact hbad _ he' (.inl h2)
theorem c122 (s : ByteArray) (hsz : s.size ≤ 1099511627776) (H : Heap) (Q : Post) (hq : ∀ H', HExt H H' → Q (B (nameL s.data.toList)) H') : E 122 [S s] H Q := by
  rw [f122_eq]
  intro b hb
  exact c122_l H s b hb hsz Q hq s.data.toList [] _ rfl ((HExt.refl H).setObj hb _) (by simp [setObj_same]) rfl (fun _ _ h => by cases h)
/-! ### The document's names -/
theorem c258 (r : Int) (H : Heap) (Q : Post) : E 258 [U8 r] H Q = Q (B (lowI r)) H := by
  simp only [f258_eq, f258_j4_eq, k_geq, k_leq, ob_some, cnd_B, decide_eq_true_eq, lowI]
  split <;> rename_i h <;> simp only [h, decide_true, decide_false, Bool.true_and, Bool.false_and]
theorem c282 (r : Int) (H : Heap) (Q : Post) : E 282 [U8 r] H Q = Q (B (digI r)) H := by
  simp only [f282_eq, f282_j4_eq, k_geq, k_leq, ob_some, cnd_B, decide_eq_true_eq, digI]
  split <;> rename_i h <;> simp only [h, decide_true, decide_false, Bool.true_and, Bool.false_and]
theorem c250 (r : Int) (H : Heap) (Q : Post) : E 250 [U8 r] H Q = Q (B (signI r)) H := by
  simp only [f250_eq, f250_j4_eq, c258, c282, k_eql, ob_some, cnd_B, signI]
  repeat' split
  all_goals simp_all
theorem ixS (s : ByteArray) (pre r : List UInt8) (c : UInt8) (e : s.data.toList = pre ++ c :: r) : ixA (S s) (I pre.length) = some (U8 c.toNat) := by
  have hlt : pre.length < s.size := by rw [← size_list s, e]; simp
  have hc : s[pre.length]'hlt = c := by
    have h1 : s.data.toList[pre.length]? = some c := by rw [e]; simp
    have h2 : s.data.toList[pre.length]? = some (s[pre.length]'hlt) := by
      rw [List.getElem?_eq_getElem (by rw [size_list]; exact hlt)]; rfl
    rw [h1] at h2; exact (Option.some.inj h2).symm
  simp [ixA, S, I, hlt, hc]
theorem c191_l (s : ByteArray) (hsz : s.size ≤ 1099511627776) (H : Heap) (Q : Post) : ∀ (r pre : List UInt8), s.data.toList = pre ++ r → pre.all signB = true → f191_l6 (S s) (I pre.length) H Q = Q (B (nameL s.data.toList)) H := by
  intro r
  induction r with
  | nil =>
    intro pre e hall
    have hlen : pre.length = s.size := by rw [← size_list s, e]; simp
    rw [f191_l6_eq, len_S, ob_some, i_lss, ob_some, cnd_B, hlen]
    simp only [Int.lt_irrefl, decide_false, Bool.false_eq_true, if_false, i_geq, i_leq, ob_some, f191_j25_eq, cnd_B, decide_eq_true_eq]
    rw [List.append_nil] at e
    cases pre with
    | nil =>
      have h0 : s.size = 0 := by rw [← hlen]; rfl
      rw [if_neg (by omega), e]; rfl
    | cons c p =>
      have h1 : s.size = p.length + 1 := by rw [← hlen]; rfl
      have i0 : ixA (S s) (I 0) = some (U8 c.toNat) := ixS s [] p c e
      have hn : nameL s.data.toList = (lowB c && decide ((s.size : Int) ≤ 32)) := by
        rw [e, nameL, hall, Bool.true_and]
        have : ((c :: p).length : Int) = (s.size : Int) := by rw [h1]; rfl
        rw [this]
      rw [if_pos (by omega), i0, ob_some, c258, hn]
      have hl : lowI ((c.toNat : Nat) : Int) = lowB c := rfl
      rw [hl]
      split
      · rename_i h; simp only [h, decide_true, Bool.and_true]
      · rename_i h; simp only [h, decide_false, Bool.and_false]
  | cons c r ih =>
    intro pre e hall
    have hlt : pre.length < s.size := by rw [← size_list s, e]; simp
    have hlt' : (pre.length : Int) < s.size := by omega
    rw [f191_l6_eq, len_S, ob_some, i_lss, ob_some, cnd_B, if_pos (by simpa using hlt'), ixS s pre r c e, ob_some, c250, not_B, ob_some, cnd_B, i_add, ob_some, w64_succ hlt (by omega)]
    have hl : signI ((c.toNat : Nat) : Int) = signB c := rfl
    rw [hl]
    split
    · rename_i h
      rw [e, nameL_bad pre r c (.inl (by simpa using h))]
    · rename_i h
      have := ih (pre ++ [c]) (by simp [e]) (by simp only [List.all_append, hall, Bool.true_and, List.all_cons, List.all_nil, Bool.and_true]; simpa using h)
      rw [List.length_append, List.length_singleton] at this
      exact this
theorem c191 (s : ByteArray) (hsz : s.size ≤ 1099511627776) (H : Heap) (Q : Post) : E 191 [S s] H Q = Q (B (nameL s.data.toList)) H := by
  rw [f191_eq]
  exact c191_l s hsz H Q s.data.toList [] rfl rfl
end Go.Hx
