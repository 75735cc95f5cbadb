/- Contracts of layer 6 in this seat. Own work (session 3; turned from S3C). And what builds on it. -/
import Derived.Test.YtancdapnpceogaaS6F
import Derived.Test.YtancdapnpceogaaHxSimp
import Derived.Laws.RangeAny
set_option maxRecDepth 20000
namespace Go.Hx
abbrev e0 : ByteArray := ⟨#[]⟩
structure Vl where
  k : Int
  n : Int
  s : ByteArray
  deriving DecidableEq
def encV (v : Vl) : AV := .agg [I v.k, I v.n, S v.s]
def nullV : Vl := ⟨0, 0, e0⟩
def boolV (b : Bool) : Vl := ⟨1, if b then 1 else 0, e0⟩
def intV (n : Int) : Vl := ⟨2, n, e0⟩
theorem u4 : Pg.underlying 4 = some .bool := by kernel_rfl
theorem v_ok (t : Bool) (v w : Vl) : eqOK Pg t 23 (encV v) (encV w) = true := by kernel_rfl
theorem v_eqlT (v w : Vl) : eqT Pg 4 23 (encV v) (encV w) =
    (match v.k == w.k with
     | true => match v.n == w.n with
       | true => match v.s == w.s with
         | true => some true
         | false => some false
       | false => some false
     | false => some false) := by kernel_rfl
theorem v_eql0 (t : Bool) (v w : Vl) : binA Pg .eql 23 t (encV v) (encV w) = (eqT Pg 4 23 (encV v) (encV w)).map B := by
  have := v_ok t v w
  simp only [encV] at this ⊢
  simp only [binA, this]; rfl
theorem v_eql (t : Bool) (v w : Vl) : binA Pg .eql 23 t (encV v) (encV w) = some (B (decide (v = w))) := by
  rw [v_eql0, v_eqlT]
  cases v; cases w
  simp only [Vl.mk.injEq]
  split
  · split
    · split
      · simp_all [ba_beq]
      · simp_all [ba_beq]
    · simp_all
  · simp_all
theorem c91 (H : Heap) (Q : Post) : E 91 [] H Q = Q (encV nullV) H := f91_eq () H Q
theorem c56 (b : Bool) (H : Heap) (Q : Post) : E 56 [B b] H Q = Q (encV (boolV b)) H := by
  cases b <;> simp [f56_eq, f56_j10_eq, ob_some, cnd_t, cnd_f, bldA, sizedA, spliceA, partA, cellsA, I, encV, boolV]
theorem c90 (n : Int) (H : Heap) (Q : Post) : E 90 [I n] H Q = Q (encV (intV n)) H := f90_eq _ H Q
def rightV (v : Vl) : Bool :=
  if v.k = 0 then decide (v = nullV) else if v.k = 1 then decide (v.s = e0) && decide (bitsI .andNot .i64 v.n 1 = 0) else if v.k = 2 then decide (v.s = e0)
  else if v.k = 3 then decide (v.n = 0) && decide ((v.s.size : Int) ≤ 256) else false
theorem enc_null : AV.agg [I 0, I 0, S e0] = encV nullV := rfl
theorem c39 (v : Vl) (H : Heap) (Q : Post) : E 39 [encV v] H Q = Q (B (rightV v)) H := by
  have hb : bldA [] [I 0, I 0, S e0] = some (encV nullV) := rfl
  have h0 : sizedA 3 (encV v) = some [I v.k, I v.n, S v.s] := rfl
  have h1 : partA true 0 3 [I v.k, I v.n, S v.s] = some (encV v) := rfl
  simp only [f39_eq, h0, h1, hb, part_f, ob_some, i_eql, cnd_B, v_eql, s_eql, i_andNot, len_S, i_leq, f39_j17_eq, f39_j29_eq, List.getElem?_cons_zero, List.getElem?_cons_succ, decide_eq_true_eq, rightV]
  split
  · rfl
  · split
    · split <;> simp_all
    · split
      · rfl
      · split
        · split <;> simp_all
        · rfl
end Go.Hx
namespace Go.Hx
/-! ### Names -/
def lowI (r : Int) : Bool := decide (97 ≤ r) && decide (r ≤ 122)
def digI (r : Int) : Bool := decide (48 ≤ r) && decide (r ≤ 57)
def signI (r : Int) : Bool := lowI r || (digI r || decide (r = 95))
abbrev R32 (r : Int) : AV := .raw (.int .i32 r)
abbrev U8 (r : Int) : AV := .raw (.int .u8 r)
theorem c61 (r : Int) (H : Heap) (Q : Post) : E 61 [R32 r] H Q = Q (B (lowI r)) H := by
  simp only [f61_eq, f61_j4_eq, k_geq, k_leq, ob_some, cnd_B, decide_eq_true_eq, lowI]
  split <;> rename_i h <;> simp only [h, decide_true, decide_false, Bool.true_and, Bool.false_and]
theorem c69 (r : Int) (H : Heap) (Q : Post) : E 69 [R32 r] H Q = Q (B (digI r)) H := by
  simp only [f69_eq, f69_j4_eq, k_geq, k_leq, ob_some, cnd_B, decide_eq_true_eq, digI]
  split <;> rename_i h <;> simp only [h, decide_true, decide_false, Bool.true_and, Bool.false_and]
theorem c60 (r : Int) (H : Heap) (Q : Post) : E 60 [R32 r] H Q = Q (B (signI r)) H := by
  simp only [f60_eq, f60_j4_eq, c61, c69, k_eql, ob_some, cnd_B, signI]
  repeat' split
  all_goals simp_all
def lowB (c : UInt8) : Bool := lowI c.toNat
def signB (c : UInt8) : Bool := signI c.toNat
def nameL : List UInt8 → Bool
  | [] => false
  | c :: r => lowB c && ((c :: r).all signB && decide (((c :: r).length : Int) ≤ 32))
theorem nameL_bad (pre r : List UInt8) (c : UInt8) (h : signB c = false ∨ (pre = [] ∧ lowB c = false)) : nameL (pre ++ c :: r) = false := by
  cases pre with
  | nil =>
    rcases h with h | h
    · simp [nameL, h]
    · simp [nameL, h.2]
  | cons p pre =>
    rcases h with h | h
    · simp [nameL, h]
    · exact absurd h.1 (by simp)
theorem size_list (s : ByteArray) : s.data.toList.length = s.size := by rw [Array.length_toList]; rfl
theorem c40_l (H0 : Heap) (s : ByteArray) (b : Nat) (hb : H0.fresh b) (hsz : s.size ≤ 1099511627776) (Q : Post) (hq : ∀ H', HExt H0 H' → Q (B (nameL s.data.toList)) H') : ∀ (r pre : List UInt8) (H : Heap), s.data.toList = pre ++ r → HExt H0 H → H.objs b = some (.siter s pre.length) →
    pre.all signB = true → (∀ c r, pre = c :: r → lowB c = true) → f40_l6 (S s) (Pt b) H Q := by
  intro r
  induction r with
  | nil =>
    intro pre H e he hobj hall hlow
    have hlen : pre.length = s.size := by rw [← size_list s, e]; simp
    have hn : nextA (Pt b) H = fun K => K (.tup [B false]) H := by
      funext K; simp [nextA, Pt, hobj, hlen]
    have x0 : extractA (.tup [B false]) 0 = some (B false) := rfl
    rw [f40_l6_eq, hn]
    simp only [x0, ob_some, cnd_B, Bool.false_eq_true, if_false, s_neq, len_S, i_leq, f40_j25_eq]
    have hres : nameL s.data.toList = if (!decide (s = e0)) = true then decide ((s.size : Int) ≤ 32) else false := by
      rw [e, List.append_nil]
      cases pre with
      | nil =>
        have : s = e0 := by
          have h0 : s.data.toList = [] := by simpa using e
          cases s with | mk d => simp at h0; simp [h0]
        simp [this, nameL]
      | cons c p =>
        have hne : s ≠ e0 := fun h => by rw [h] at e; simp at e
        have := hlow c p rfl
        simp only [nameL, this, hall, Bool.true_and, hlen]
        simp [hne]
    have := hq H he
    rw [hres] at this
    split
    · rename_i h; rw [if_pos h] at this; exact this
    · rename_i h; rw [if_neg h] at this; exact this
  | cons c r ih =>
    intro pre H e he hobj hall hlow
    have hlt : pre.length < s.size := by rw [← size_list s, e]; simp
    have hc : s[pre.length]'hlt = c := by
      have h1 : s.data.toList[pre.length]? = some c := by rw [e]; simp
      have h2 : s.data.toList[pre.length]? = some (s[pre.length]'hlt) := by
        rw [List.getElem?_eq_getElem (by rw [size_list]; exact hlt)]; rfl
      rw [h1] at h2; exact (Option.some.inj h2).symm
    have hn : nextA (Pt b) H = fun K => K (.tup [B true, I pre.length, R32 (Utf8.decode s pre.length).1]) (H.setObj b (.siter s (pre.length + (Utf8.decode s pre.length).2))) := by
      funext K; simp [nextA, Pt, hobj, hlt]
    have he' : HExt H0 (H.setObj b (.siter s (pre.length + (Utf8.decode s pre.length).2))) := he.setObj hb _
    have x0 : ∀ x y z, extractA (.tup [x, y, z]) 0 = some x := fun _ _ _ => rfl
    have x1 : ∀ x y z, extractA (.tup [x, y, z]) 1 = some y := fun _ _ _ => rfl
    have x2 : ∀ x y z, extractA (.tup [x, y, z]) 2 = some z := fun _ _ _ => rfl
    rw [f40_l6_eq, hn]
    simp only [x0, x1, x2, ob_some, cnd_B, if_true, c60, c61, not_B, i_eql, f40_j18_eq]
    have hbad : ∀ H', HExt H0 H' → (signB c = false ∨ (pre = [] ∧ lowB c = false)) → Q (B false) H' := fun H' hx hcs => by
      have := hq H' hx
      rw [e, nameL_bad pre r c hcs] at this
      exact this
    rcases Nat.lt_or_ge c.toNat 128 with ha | ha
    · have hd := decode_ascii s pre.length hlt (by rw [hc]; exact ha)
      rw [hc] at hd
      simp only [hd]
      rw [hd] at he'
      have hs : signI ((c.toNat : Nat) : Int) = signB c := rfl
      have hl : lowI ((c.toNat : Nat) : Int) = lowB c := rfl
      rw [hs, hl]
      split
      · rename_i h
        exact hbad _ he' (.inl (by simpa using h))
      · rename_i h
        have hsig : signB c = true := by simpa using h
        have hgo : (pre = [] → lowB c = true) → f40_l6 (S s) (Pt b) (H.setObj b (.siter s (pre.length + 1))) Q := fun hf =>
          ih (pre ++ [c]) _ (by simp [e]) he' (by simp [setObj_same]) (by simp [hall, hsig]) (fun c' r' h' => by
            cases pre with
            | nil => simp at h'; rw [← h'.1]; exact hf rfl
            | cons p pre => simp at h'; exact hlow c' pre (by rw [h'.1]))
        split
        · rename_i h0
          have hp : pre = [] := by
            have : (pre.length : Int) = 0 := by simpa using h0
            exact List.eq_nil_of_length_eq_zero (by omega)
          split
          · rename_i h1; exact hbad _ he' (.inr ⟨hp, by simpa using h1⟩)
          · rename_i h1; exact hgo (fun _ => by simpa using h1)
        · rename_i h0
          simp only [Bool.false_eq_true, if_false]
          exact hgo (fun hp => absurd (by subst hp; simp) h0)
    · have hd := decode_high s pre.length hlt (by rw [hc]; exact ha)
      have hsf : ∀ x : Int, 128 ≤ x → signI x = false := fun x hx => by
        simp only [signI, lowI, digI, Bool.or_eq_false_iff, Bool.and_eq_false_iff, decide_eq_false_iff_not]
        omega
      have h1 : signI ((Utf8.decode s pre.length).1 : Int) = false := hsf _ (by omega)
      have h2 : signB c = false := hsf _ (by omega)
      rw [h1]
      simp only [Bool.not_false, if_true]
      exact hbad _ he' (.inl h2)
theorem c40 (s : ByteArray) (hsz : s.size ≤ 1099511627776) (H : Heap) (Q : Post) (hq : ∀ H', HExt H H' → Q (B (nameL s.data.toList)) H') : E 40 [S s] H Q := by
  rw [f40_eq]
  intro b hb
  exact c40_l H s b hb hsz Q hq s.data.toList [] _ rfl ((HExt.refl H).setObj hb _) (by simp [setObj_same]) rfl (fun _ _ h => by cases h)
/-! ### The document's names -/
theorem ixS (s : ByteArray) (pre r : List UInt8) (c : UInt8) (e : s.data.toList = pre ++ c :: r) : ixA (S s) (I pre.length) = some (U8 c.toNat) := by
  have hlt : pre.length < s.size := by rw [← size_list s, e]; simp
  have hc : s[pre.length]'hlt = c := by
    have h1 : s.data.toList[pre.length]? = some c := by rw [e]; simp
    have h2 : s.data.toList[pre.length]? = some (s[pre.length]'hlt) := by
      rw [List.getElem?_eq_getElem (by rw [size_list]; exact hlt)]; rfl
    rw [h1] at h2; exact (Option.some.inj h2).symm
  simp [ixA, S, I, hlt, hc]
end Go.Hx
namespace Go.Hx
inductive Ex where
  | mk (k : Int) (v : Vl) (var fld : ByteArray) (sz : Nat) (nil : Bool) (tip : Tip) (l : List Ex)
namespace Ex
def k : Ex → Int | mk k _ _ _ _ _ _ _ => k
def v : Ex → Vl | mk _ v _ _ _ _ _ _ => v
def var : Ex → ByteArray | mk _ _ v _ _ _ _ _ => v
def fld : Ex → ByteArray | mk _ _ _ f _ _ _ _ => f
def sz : Ex → Nat | mk _ _ _ _ s _ _ _ => s
def nil : Ex → Bool | mk _ _ _ _ _ n _ _ => n
def tip : Ex → Tip | mk _ _ _ _ _ _ t _ => t
def l : Ex → List Ex | mk _ _ _ _ _ _ _ l => l
end Ex
theorem Ex.ind {p : Ex → Prop} (h : ∀ x, (∀ y ∈ x.l, p y) → p x) (x : Ex) : p x :=
  Ex.rec (motive_1 := p) (motive_2 := fun l => ∀ y ∈ l, p y) (fun _ _ _ _ _ _ _ _ ih => h _ ih) (fun _ hy => by cases hy)
    (fun _ _ hz hr y hy => by
      cases hy with
      | head => exact hz
      | tail _ hy => exact hr y hy) x
mutual
def encC : Ex → List AV
  | .mk k v var fld sz nil tip l => [I k, I v.k, I v.n, S v.s, S var, S fld, .sl sz nil tip (encCs l)]
def encCs : List Ex → List AV
  | [] => []
  | x :: r => .agg (encC x) :: encCs r
end
def encX (x : Ex) : AV := .agg (encC x)
theorem encCs_map (l : List Ex) : encCs l = l.map encX := by
  induction l with
  | nil => simp [encCs]
  | cons x r ih => simp [encCs, ih, encX]
def encXs (sz : Nat) (nil : Bool) (tip : Tip) (l : List Ex) : AV := .sl sz nil tip (l.map encX)
theorem encC_eq (x : Ex) : encC x = [I x.k, I x.v.k, I x.v.n, S x.v.s, S x.var, S x.fld, encXs x.sz x.nil x.tip x.l] := by
  cases x; simp [encC, encXs, encCs_map, Ex.k, Ex.v, Ex.var, Ex.fld, Ex.sz, Ex.nil, Ex.tip, Ex.l]
mutual
def sizeX : Ex → Nat
  | .mk _ _ _ _ _ _ _ l => 1 + sizeXs l
def sizeXs : List Ex → Nat
  | [] => 0
  | x :: r => sizeX x + sizeXs r
end
/-- cells of a node -/
theorem szX (x : Ex) : sizedA 7 (encX x) = some (encC x) := by
  have : (encC x).length = 7 := by rw [encC_eq]; rfl
  simp [encX, sizedA, cellsA, this]
theorem partX (x : Ex) : partA true 0 7 (encC x) = some (encX x) := by
  have : encC x = (encC x) := rfl
  rw [encC_eq]
  show some (AV.agg [I x.k, I x.v.k, I x.v.n, S x.v.s, S x.var, S x.fld, encXs x.sz x.nil x.tip x.l]) = _
  rw [encX, encC_eq]
theorem splX (x : Ex) : spliceA 0 (encC x) [I 0, I 0, I 0, S e0, S e0, S e0, AV.sl 0 true .full []] = some (encC x) := by
  rw [encC_eq]; rfl
theorem partXV (x : Ex) : partA true 1 3 (encC x) = some (encV x.v) := by rw [encC_eq]; rfl
theorem ixX (l : List Ex) (sz : Nat) (nil : Bool) (tip : Tip) (pre r : List Ex) (x : Ex) (e : l = pre ++ x :: r) : ixaA 7 (encXs sz nil tip l) (I pre.length) = some (encC x) :=
  ix_mk 7 nil tip _ pre.length (x := encX x) (by rw [e]; exact get_mid encX pre r x) (szX x)
theorem lenX (sz : Nat) (nil : Bool) (tip : Tip) (l : List Ex) : lenA (encXs sz nil tip l) = some (I l.length) := by simp [encXs, len_sl]

def isRowP (k : Int) : Bool := decide (k = 16) || decide (k = 17)
theorem c43 (k : Int) (H : Heap) (Q : Post) : E 43 [I k] H Q = Q (B (isRowP k)) H := by
  simp only [f43_eq, f43_j4_eq, i_eql, ob_some, cnd_B, decide_eq_true_eq, isRowP]
  split <;> rename_i h <;> simp only [h, decide_true, decide_false, Bool.true_or, Bool.false_or]
def bareP (x : Ex) : Bool := decide (x.v = nullV) && (decide (x.var = e0) && decide (x.fld = e0))
theorem c41 (x : Ex) (H : Heap) (Q : Post) : E 41 [encX x] H Q = Q (B (bareP x)) H := by
  have hb : bldA [] [I 0, I 0, S e0] = some (encV nullV) := rfl
  simp only [f41_eq, f41_j4_eq, szX, partXV, hb, v_eql, ob_some, part_f]
  simp only [encC_eq, List.getElem?_cons_zero, List.getElem?_cons_succ, ob_some, s_eql, cnd_B, decide_eq_true_eq, bareP]
  repeat' split
  all_goals simp_all
theorem c42 (x y : Ex) (b : Nat) (H : Heap) (Q : Post) (hb : H.objs b = some (.cells (encC x))) : E 42 [encX y, Pt b] H Q = Q (B (decide (y.k = x.k))) H := by
  have h0 : addPA (Pt b) 0 = some (Pt b) := rfl
  rw [f42_eq]
  simp only [szX, ob_some, part_f, h0, ld_Pt hb]
  simp only [encC_eq, List.getElem?_cons_zero, ob_some, i_eql]
def ownIx (k : Int) : Nat → List Ex → Int
  | _, [] => -1
  | i, y :: r => if y.k = k then i else ownIx k (i + 1) r
theorem c62_l (x : Ex) (b : Nat) (H : Heap) (hb : H.objs b = some (.cells (encC x))) (sz : Nat) (nil : Bool) (tip : Tip) (l : List Ex) (hn : l.length ≤ 1099511627776) (Q : Post) : ∀ (r pre : List Ex), l = pre ++ r →
    f62_l6 (encXs sz nil tip l) (.fn (.func 42) [] [Pt b]) (I l.length) (I pre.length) H Q = Q (I (ownIx x.k pre.length r)) H := by
  intro r
  induction r with
  | nil =>
    intro pre e
    have : (pre.length : Int) = l.length := by rw [e]; simp
    rw [f62_l6_eq, i_lss, ob_some, cnd_B, this]
    simp [ownIx]
  | cons y r ih =>
    intro pre e
    have hlt : pre.length < l.length := by rw [e]; simp
    have hlt' : (pre.length : Int) < l.length := by omega
    have ih := ih (pre ++ [y]) (by simp [e])
    rw [f62_l6_eq, i_lss, ob_some, cnd_B, if_pos (by simpa using hlt'), ixX l sz nil tip pre r y e, ob_some, partX, ob_some]
    show E 42 [encX y, Pt b] H _ = _
    rw [c42 x y b H _ hb, cnd_B, i_add, ob_some, w64_succ hlt (by omega)]
    rw [List.length_append, List.length_singleton] at ih
    rw [ih]
    simp only [ownIx, decide_eq_true_eq]
    split <;> rfl
theorem ownIx_ge (k : Int) (i : Nat) (l : List Ex) : decide (0 ≤ ownIx k i l) = l.any fun y => decide (y.k = k) := by
  induction l generalizing i with
  | nil => simp [ownIx]
  | cons v r ih =>
    simp only [ownIx, List.any_cons]
    split
    · rename_i h; simp [h]
    · rename_i h; simp only [h, decide_false, Bool.false_or]; exact ih (i + 1)
theorem c44 (x : Ex) (b : Nat) (H : Heap) (hb : H.objs b = some (.cells (encC x))) (sz : Nat) (nil : Bool) (tip : Tip) (l : List Ex) (hn : l.length ≤ 1099511627776) (Q : Post) :
    E 44 [encXs sz nil tip l, .fn (.func 42) [] [Pt b]] H Q = Q (B (l.any fun y => decide (y.k = x.k))) H := by
  have := fun K => c62_l x b H hb sz nil tip l hn K l [] rfl
  rw [f44_eq, f62_eq, lenX, ob_some]
  refine (this _).trans ?_
  rw [i_geq, ob_some, ownIx_ge]

/-- may a node be -/
def rightP (x : Ex) : Bool :=
  if x.k = 1 then decide (x.l.length = 0) && (rightV x.v && (decide (x.var = e0) && decide (x.fld = e0)))
  else if x.k = 2 then decide (x.l.length = 0) && (decide (x.v = nullV) && (nameL x.var.data.toList && nameL x.fld.data.toList))
  else if bareP x = false then false
  else if x.k = 3 ∨ x.k = 15 then decide (x.l.length = 1)
  else if 4 ≤ x.k ∧ x.k ≤ 14 then decide (x.l.length = 2)
  else isRowP x.k && (decide (2 ≤ x.l.length) && !(x.l.any fun y => decide (y.k = x.k)))
theorem len0 (n : Nat) : decide ((n : Int) = 0) = decide (n = 0) := by rw [Bool.eq_iff_iff]; simp
theorem len1 (n : Nat) : decide ((n : Int) = 1) = decide (n = 1) := by rw [Bool.eq_iff_iff]; simp; omega
theorem len2 (n : Nat) : decide ((n : Int) = 2) = decide (n = 2) := by rw [Bool.eq_iff_iff]; simp; omega
theorem len2' (n : Nat) : decide (2 ≤ (n : Int)) = decide (2 ≤ n) := by rw [Bool.eq_iff_iff]; simp; omega
theorem c22 (x : Ex) (hl : x.l.length ≤ 1099511627776) (hv : x.var.size ≤ 1099511627776) (hf : x.fld.size ≤ 1099511627776) (H : Heap) (Q : Post) (hq : ∀ H', HExt H H' → Q (B (rightP x)) H') : E 22 [encX x] H Q := by
  have p6 : (encC x)[6]? = some (encXs x.sz x.nil x.tip x.l) := by rw [encC_eq]; rfl
  have p0 : (encC x)[0]? = some (I x.k) := by rw [encC_eq]; rfl
  have p4 : (encC x)[4]? = some (S x.var) := by rw [encC_eq]; rfl
  have p5 : (encC x)[5]? = some (S x.fld) := by rw [encC_eq]; rfl
  have hb : bldA [] [I 0, I 0, S e0] = some (encV nullV) := rfl
  have q0 := fun H' hx => hq H' hx
  simp only [rightP] at q0
  have t12 : ∀ {b : Bool} {H'}, Q (B b) H' → f22_c3_12a (encC x) (B b) H' Q → True := fun _ _ => trivial
  simp only [f22_eq, szX, ob_some, part_f, p6, p0, lenX, i_eql, len0]
  refine cnd_intro (fun h1 => ?_) (fun h1 => ?_)
  · have h1 : x.k = 1 := by simpa using h1
    simp only [h1, if_true] at q0
    have hF : ∀ H', HExt H H' → (decide (x.l.length = 0) && (rightV x.v && (decide (x.var = e0) && decide (x.fld = e0)))) = false → f22_j11 (B false) H' Q := fun H' hx hr => by
      rw [f22_j11_eq]; have := q0 H' hx; rw [hr] at this; exact this
    simp only [f22_c3_7a_eq, f22_c3_7b_eq, f22_c3_12a_eq, f22_c3_12b_eq, f22_c3_17a_eq, f22_c3_17b_eq, partXV, ob_some, c39, p4, p5, part_f, s_eql]
    refine cnd_intro (fun h2 => cnd_intro (fun h3 => cnd_intro (fun h4 => ?_) (fun h4 => ?_)) (fun h3 => ?_)) (fun h2 => ?_)
    · rw [f22_j11_eq]
      have := q0 H (HExt.refl H)
      simp only [h2, h3, h4, Bool.true_and] at this
      exact this
    · exact hF H (HExt.refl H) (by simp only [h4, Bool.false_and, Bool.and_false])
    · exact hF H (HExt.refl H) (by simp only [h3, Bool.false_and, Bool.and_false])
    · exact hF H (HExt.refl H) (by simp only [h2, Bool.false_and])
  have h1 : ¬ x.k = 1 := by simpa using h1
  simp only [h1, if_false] at q0
  refine cnd_intro (fun h2 => ?_) (fun h2 => ?_)
  · have h2 : x.k = 2 := by simpa using h2
    simp only [h2, if_true] at q0
    have hF : ∀ H', HExt H H' → (decide (x.l.length = 0) && (decide (x.v = nullV) && (nameL x.var.data.toList && nameL x.fld.data.toList))) = false → f22_j17 (B false) H' Q := fun H' hx hr => by
      rw [f22_j17_eq]; have := q0 H' hx; rw [hr] at this; exact this
    simp only [f22_c5_8a_eq, f22_c5_8b_eq, f22_c5_13a_eq, f22_c5_13b_eq, f22_c5_18a_eq, f22_c5_18b_eq, partXV, hb, ob_some, v_eql, p4, p5, part_f, s_eql]
    refine cnd_intro (fun h3 => cnd_intro (fun h4 => ?_) (fun h4 => ?_)) (fun h3 => ?_)
    · refine c40 _ hv _ _ (fun H1 e1 => cnd_intro (fun h5 => ?_) (fun h5 => ?_))
      · refine c40 _ hf _ _ (fun H2 e2 => ?_)
        rw [f22_j17_eq]
        have := q0 H2 (e1.trans e2)
        simp only [h3, h4, h5, Bool.true_and] at this
        exact this
      · exact hF H1 e1 (by simp only [h5, Bool.false_and, Bool.and_false])
    · exact hF H (HExt.refl H) (by simp only [h4, Bool.false_and, Bool.and_false])
    · exact hF H (HExt.refl H) (by simp only [h3, Bool.false_and])
  have h2 : ¬ x.k = 2 := by simpa using h2
  simp only [h2, if_false] at q0
  simp only [partX, ob_some, c41, not_B]
  refine cnd_intro (fun h3 => ?_) (fun h3 => ?_)
  · have h3 : bareP x = false := by simpa using h3
    have := q0 H (HExt.refl H)
    simp only [h3, if_true] at this
    exact this
  have h3 : bareP x = true := by simpa using h3
  simp only [h3, Bool.true_eq_false, if_false] at q0
  have j30 : ∀ b : Bool, b = decide (x.k = 3 ∨ x.k = 15) → f22_j30 (encC x) (I x.l.length) (B b) H Q := fun b hbb => by
    simp only [f22_j30_eq, f22_j36_eq, i_eql, i_geq, i_leq, part_f, p0, ob_some, len1, len2, len2']
    refine cnd_intro (fun h4 => ?_) (fun h4 => ?_)
    · have := q0 H (HExt.refl H)
      rw [if_pos (by simpa [hbb] using h4)] at this
      exact this
    have h4 : ¬ (x.k = 3 ∨ x.k = 15) := by simpa [hbb] using h4
    simp only [if_neg h4] at q0
    have fin : ¬ (4 ≤ x.k ∧ x.k ≤ 14) → newH H (encC x) (fun r40 H41 => ob (addPA r40 0) fun r42 => ob (ldH H41 false 1 r42) fun r43 => E 43 [r43] H41 fun r44 H45 => cndA r44
        (cndA (B (decide (2 ≤ x.l.length))) (ob (addPA r40 6) fun r47 => ob (ldH H45 false 1 r47) fun r48 => E 44 [r48, AV.fn (.func 42) [] [r40]] H45 fun r49 H50 => ob (unA .not r49) fun r51 => f22_j45 r51 H50 Q) (f22_j45 (B false) H45 Q))
        (f22_j45 (B false) H45 Q)) := fun h5 b hf => by
      have hob := setObj_same H b (.cells (encC x))
      have he : HExt H (H.setObj b (.cells (encC x))) := (HExt.refl H).setObj hf _
      simp only [Pt_def]
      generalize H.setObj b (.cells (encC x)) = H1 at hob he ⊢
      have a0 : addPA (Pt b) 0 = some (Pt b) := rfl
      have a6 : addPA (Pt b) 6 = some (.raw (.pointer (some ⟨b, 6, none⟩))) := by simp [addPA, Pt]
      simp only [a0, a6, ob_some, ld_Pt hob, ld_off hob, part_f, p0, p6, c43, c44 x b H1 hob x.sz x.nil x.tip x.l hl, not_B, f22_j45_eq]
      have := q0 H1 he
      simp only [if_neg h5] at this
      refine cnd_intro (fun h6 => cnd_intro (fun h7 => ?_) (fun h7 => ?_)) (fun h6 => ?_)
      · simp only [h6, h7, Bool.true_and] at this; exact this
      · simp only [h7, Bool.false_and, Bool.and_false] at this; exact this
      · simp only [h6, Bool.false_and] at this; exact this
    refine cnd_intro (fun h5 => cnd_intro (fun h6 => ?_) (fun h6 => ?_)) (fun h5 => ?_)
    · have := q0 H (HExt.refl H)
      rw [if_pos (by simp at h5 h6; omega)] at this
      exact this
    · exact fin (by simp at h5 h6; omega)
    · exact fin (by simp at h5; omega)
  refine cnd_intro (fun h4 => ?_) (fun h4 => ?_)
  · rw [h4]; exact j30 true (by simp at h4; simp [h4])
  · have h4 : ¬ x.k = 3 := by simpa using h4
    exact j30 _ (by simp [h4])

/-! ### Over all nodes -/
/-- a function that is called for each node: what it keeps, how it steps -/
structure Step (σ : Type) (y : AV) (St : σ → Heap → Prop) (f : σ → Int → Ex → σ) (ok : Ex → Prop) : Prop where
  call : ∀ (s : σ) (H : Heap) (d : Int) (x : Ex) (K : Post), ok x → St s H → (∀ H', St (f s d x) H' → K (B true) H') → callA (Ev Pg Hs) y [I d, encX x] H K
mutual
def foldX {σ : Type} (f : σ → Int → Ex → σ) : σ → Int → Ex → σ
  | s, d, .mk k v var fld sz nil tip l => foldXs f (f s d (.mk k v var fld sz nil tip l)) (W64 (d + 1)) l
def foldXs {σ : Type} (f : σ → Int → Ex → σ) : σ → Int → List Ex → σ
  | s, _, [] => s
  | s, d, x :: r => foldXs f (foldX f s d x) d r
end
mutual
/-- of all nodes -/
def allX (p : Ex → Prop) : Ex → Prop
  | .mk k v var fld sz nil tip l => p (.mk k v var fld sz nil tip l) ∧ allXs p l
def allXs (p : Ex → Prop) : List Ex → Prop
  | [] => True
  | x :: r => allX p x ∧ allXs p r
end
theorem foldX_eq {σ : Type} (f : σ → Int → Ex → σ) (s : σ) (d : Int) (x : Ex) : foldX f s d x = foldXs f (f s d x) (W64 (d + 1)) x.l := by
  cases x; simp [foldX, Ex.l]
theorem allX_eq (p : Ex → Prop) (x : Ex) : allX p x ↔ p x ∧ allXs p x.l := by
  cases x; simp [allX, Ex.l]
theorem allXs_mem {p : Ex → Prop} {l : List Ex} (h : allXs p l) {x : Ex} (hx : x ∈ l) : allX p x := by
  induction l with
  | nil => cases hx
  | cons y r ih =>
    simp only [allXs] at h
    cases hx with
    | head => exact h.1
    | tail _ hx => exact ih h.2 hx
/-- small enough to be gone over -/
def okX (x : Ex) : Prop := x.l.length ≤ 1099511627776 ∧ x.var.size ≤ 1099511627776 ∧ x.fld.size ≤ 1099511627776
section walk
variable {σ : Type} {y : AV} {St : σ → Heap → Prop} {f : σ → Int → Ex → σ} {b2 b4 : Nat}
theorem c38_l (hy : Step σ y St f okX) (h2 : ∀ s H, St s H → H.objs b2 = some (.cells [y]) ∧ H.objs b4 = some (.cells [.fn (.func 38) [] [Pt b2, Pt b4]])) (d : Int) (Q : Post) (sz : Nat) (nil : Bool) (tip : Tip) (l : List Ex) (hn : l.length ≤ 1099511627776)
    (ih : ∀ x ∈ l, ∀ (s : σ) (H : Heap) (d : Int) (K : Post), St s H → (∀ H', St (foldX f s d x) H' → K (B true) H') → E 38 [I d, encX x, Pt b2, Pt b4] H K) : ∀ (r pre : List Ex) (s : σ) (H : Heap), l = pre ++ r → St s H →
    (∀ H', St (foldXs f s (W64 (d + 1)) r) H' → Q (B true) H') → f38_l14 (I d) (Pt b4) (encXs sz nil tip l) (I l.length) (I pre.length) H Q := by
  intro r
  induction r with
  | nil =>
    intro pre s H e hs hq
    have : (pre.length : Int) = l.length := by rw [e]; simp
    rw [f38_l14_eq, i_lss, ob_some, cnd_B, this]
    simp only [Int.lt_irrefl, decide_false, Bool.false_eq_true, if_false]
    exact hq H (by simpa [foldXs] using hs)
  | cons x r ihr =>
    intro pre s H e hs hq
    have hlt : pre.length < l.length := by rw [e]; simp
    have hlt' : (pre.length : Int) < l.length := by omega
    obtain ⟨g1, g2⟩ := h2 s H hs
    rw [f38_l14_eq, i_lss, ob_some, cnd_B, if_pos (by simpa using hlt'), ixX l sz nil tip pre r x e, ob_some, partX, ob_some, szX, ob_some, splX, ob_some, ld_Pt g2]
    simp only [part_f, List.getElem?_cons_zero, ob_some, i_add, partX]
    show E 38 [I (W64 (d + 1)), encX x, Pt b2, Pt b4] H _
    refine ih x (by rw [e]; simp) s H _ _ hs (fun H' hs' => ?_)
    rw [not_B, ob_some, cnd_B]
    simp only [Bool.not_true, Bool.false_eq_true, if_false, ob_some]
    rw [w64_succ hlt (by omega)]
    have := ihr (pre ++ [x]) _ H' (by simp [e]) hs' (fun H'' hs'' => hq H'' (by simpa [foldXs] using hs''))
    rw [List.length_append, List.length_singleton] at this
    exact this
theorem c38 (hy : Step σ y St f okX) (h2 : ∀ s H, St s H → H.objs b2 = some (.cells [y]) ∧ H.objs b4 = some (.cells [.fn (.func 38) [] [Pt b2, Pt b4]])) : ∀ (x : Ex), allX okX x → ∀ (s : σ) (H : Heap) (d : Int) (Q : Post), St s H → (∀ H', St (foldX f s d x) H' → Q (B true) H') → E 38 [I d, encX x, Pt b2, Pt b4] H Q := by
  intro x
  induction x using Ex.ind with
  | h x ih =>
    intro hok s H d Q hs hq
    rw [allX_eq] at hok
    obtain ⟨g1, g2⟩ := h2 s H hs
    rw [f38_eq, szX, ob_some, ld_Pt g1]
    simp only [part_f, List.getElem?_cons_zero, ob_some, partX]
    refine hy.call s H d _ _ hok.1 hs (fun H' hs' => ?_)
    rw [not_B, ob_some, cnd_B]
    simp only [Bool.not_true, Bool.false_eq_true, if_false]
    have p6 : (encC x)[6]? = some (encXs x.sz x.nil x.tip x.l) := by rw [encC_eq]; rfl
    rw [p6, ob_some, lenX, ob_some]
    exact c38_l hy h2 d Q x.sz x.nil x.tip x.l hok.1.1 (fun y hy' s H d K => ih y hy' (allXs_mem hok.2 hy') s H d K) x.l [] _ H' rfl hs' (fun H'' hs'' => hq H'' (by rw [foldX_eq]; exact hs''))
end walk
end Go.Hx
namespace Go.Hx
/-- but for some blocks, the heap only grows -/
def HExc (own : Nat → Prop) (H H' : Heap) : Prop := ∀ b, ¬ H.fresh b → ¬ own b → H'.objs b = H.objs b ∧ H'.tips b = H.tips b ∧ H'.tys b = H.tys b
theorem HExc.refl (own : Nat → Prop) (H : Heap) : HExc own H H := fun _ _ _ => ⟨rfl, rfl, rfl⟩
theorem HExt.exc {own : Nat → Prop} {H H' : Heap} (h : HExt H H') : HExc own H H' := fun b hb _ => h b hb
theorem HExc.trans {own : Nat → Prop} {H H' H'' : Heap} (h : HExc own H H') (h' : HExc own H' H'') : HExc own H H'' := fun b hb ho =>
  have h1 := h b hb ho
  have h2 := h' b (fun hf => hb ⟨h1.1 ▸ hf.1, h1.2.1 ▸ hf.2⟩) ho
  ⟨h2.1.trans h1.1, h2.2.1.trans h1.2.1, h2.2.2.trans h1.2.2⟩
theorem HExc.mono {o1 o2 : Nat → Prop} {H H' : Heap} (h : HExc o1 H H') (ho : ∀ b, ¬ H.fresh b → o1 b → o2 b) : HExc o2 H H' := fun b hb hn =>
  h b hb (fun h1 => hn (ho b hb h1))
theorem HExc.obj {own : Nat → Prop} {H H' : Heap} (h : HExc own H H') {b : Nat} {o : AObj} (hb : H.objs b = some o) (ho : ¬ own b) : H'.objs b = some o :=
  ((h b (not_fresh hb) ho).1).trans hb
theorem HExc.setObj {own : Nat → Prop} {H H' : Heap} (h : HExc own H H') {b : Nat} (hb : own b ∨ H.fresh b) (o : AObj) : HExc own H (H'.setObj b o) := fun c hc hoc => by
  have hne : c ≠ b := fun e => by
    subst e
    rcases hb with hb | hb
    · exact hoc hb
    · exact hc hb
  have := h c hc hoc
  simp only [Heap.setObj, if_neg hne]
  exact this
/-- as HExc, where what is owned was new -/
theorem HExc.ext {own : Nat → Prop} {H0 H H' : Heap} (h0 : HExt H0 H) (h : HExc own H H') (ho : ∀ b, own b → H0.fresh b) : HExt H0 H' := fun b hb => by
  have h1 := h0 b hb
  have h2 := h b (fun hf => hb (h0.fresh hf)) (fun hob => hb (ho b hob))
  exact ⟨h2.1.trans h1.1, h2.2.1.trans h1.2.1, h2.2.2.trans h1.2.2⟩
structure Visit (σ : Type) (y : AV) (own : Nat → Prop) (St : σ → Heap → Prop) (f : σ → Int → Ex → σ) : Prop where
  one : sizedA 1 y = some [y]
  stab : ∀ s H H', St s H → HExt H H' → St s H'
  old : ∀ s H b, St s H → own b → ¬ H.fresh b
  call : ∀ (s : σ) (H : Heap) (d : Int) (x : Ex) (K : Post), okX x → St s H → (∀ H', St (f s d x) H' → HExc own H H' → K (B true) H') → callA (Ev Pg Hs) y [I d, encX x] H K
theorem c37 {σ : Type} {y : AV} {own : Nat → Prop} {St : σ → Heap → Prop} {f : σ → Int → Ex → σ} (hv : Visit σ y own St f) (x : Ex) (hok : allX okX x) (b1 : Nat) (s : σ) (H : Heap) (Q : Post) (h1 : H.objs b1 = some (.cells (encC x))) (hs : St s H)
    (hq : ∀ H', St (foldX f s 1 x) H' → HExc own H H' → Q (.tup []) H') : E 37 [y, Pt b1] H Q := by
  rw [f37_eq, hv.one, ob_some]
  intro b2 f2
  simp only [Pt_def]
  have e1 : HExt H (H.setObj b2 (.cells [y])) := (HExt.refl H).setObj f2 _
  have o2 := setObj_same H b2 (.cells [y])
  generalize H.setObj b2 (.cells [y]) = H1 at e1 o2 ⊢
  intro b4 f4
  simp only [Pt_def]
  have hne : b2 ≠ b4 := fresh_ne o2 f4
  have hne1 : b1 ≠ b4 := fresh_ne (e1.obj h1) f4
  have o4 := setObj_same H1 b4 (.cells [.raw .nilFunc])
  have e2 : HExt H1 (H1.setObj b4 (.cells [.raw .nilFunc])) := (HExt.refl H1).setObj f4 _
  have o4' : ∀ o, ((H1.setObj b4 (.cells [.raw .nilFunc])).setObj b4 o).objs b4 = some o := fun o => setObj_same _ _ _
  rw [st_Pt o4 (sz1_fn _ _ _), ob_some]
  have e3 : HExt H1 ((H1.setObj b4 (.cells [.raw .nilFunc])).setObj b4 (.cells [.fn (.func 38) [] [Pt b2, Pt b4]])) := e2.setObj f4 _
  have o4 := o4' (.cells [.fn (.func 38) [] [Pt b2, Pt b4]])
  generalize (H1.setObj b4 (.cells [.raw .nilFunc])).setObj b4 (.cells [.fn (.func 38) [] [Pt b2, Pt b4]]) = H2 at e3 o4 ⊢
  have o2 := e3.obj o2
  have h1 := e3.obj (e1.obj h1)
  have hs2 := hv.stab _ _ _ hs (e1.trans e3)
  rw [ld_Pt o4, ld_Pt h1, partX]
  simp only [part_f, List.getElem?_cons_zero, ob_some]
  show E 38 [I 1, encX x, Pt b2, Pt b4] H2 _
  have n2 : ¬ own b2 := fun h => hv.old _ _ _ hs h f2
  have n4 : ¬ own b4 := fun h => hv.old _ _ _ (hv.stab _ _ _ hs e1) h f4
  refine c38 (St := fun s H' => St s H' ∧ H'.objs b2 = some (.cells [y]) ∧ H'.objs b4 = some (.cells [.fn (.func 38) [] [Pt b2, Pt b4]]) ∧ HExc own H2 H') (f := f)
    ⟨fun s H' d x K hx hs' hk => hv.call s H' d x K hx hs'.1 (fun H'' hs'' he => hk H'' ⟨hs'', he.obj hs'.2.1 n2, he.obj hs'.2.2.1 n4, hs'.2.2.2.trans he⟩)⟩
    (fun s H' hs' => ⟨hs'.2.1, hs'.2.2.1⟩) x hok s H2 1 _ ⟨hs2, o2, o4, HExc.refl _ _⟩ (fun H' hs' => ?_)
  exact hq H' hs'.1 ((e1.trans e3).exc.trans hs'.2.2.2)

/-! ### May a condition be -/
def stepC (s : Int × Bool) (_ : Int) (x : Ex) : Int × Bool := (W64 (s.1 + 1), s.2 && rightP x)
def checkP (x : Ex) : Int :=
  if 100 < (foldX stepC (0, true) 1 x).1 then 2 else if (foldX stepC (0, true) 1 x).2 = false then 1 else 0
theorem c21 (x : Ex) (H : Heap) (Q : Post) (hq : ∀ b, H.fresh b → Q (.fn (.func 37) [] [Pt b]) (H.setObj b (.cells (encC x)))) : E 21 [encX x] H Q := by
  rw [f21_eq, szX, ob_some]
  intro b hb
  exact hq b hb
theorem visitC (H0 : Heap) (bn bf l : Nat) (n1 : bn ≠ bf) (n2 : bn ≠ l) (n3 : bf ≠ l) (L : LoopInfo) (hL : L = f14_L8 (Pt bn) (Pt bf)) :
    Visit (Int × Bool) (.fn (.yield l) [] []) (fun b => b = bn ∨ b = bf ∨ b = l)
      (fun s H => H.objs bn = some (.cells [I s.1]) ∧ H.objs bf = some (.cells [B s.2]) ∧ H.objs l = some (.loop L .ready)) stepC := by
  refine ⟨rfl, fun s H H' hs he => ⟨he.obj hs.1, he.obj hs.2.1, he.obj hs.2.2⟩, fun s H b hs hb => ?_, fun s H d x K hx hs hk => ?_⟩
  · rcases hb with rfl | rfl | rfl
    · exact not_fresh hs.1
    · exact not_fresh hs.2.1
    · exact not_fresh hs.2.2
  obtain ⟨s1, s2, s3⟩ := hs
  show Ev Pg Hs (.yield l) [I d, encX x] H K
  rw [Ev_yield s3, hL, f14_y8_eq, szX, ob_some, splX, ob_some]
  unfold beginA
  rw [s3]
  simp only
  have t1 : (H.setObj l (.loop L .busy)).objs bn = some (.cells [I s.1]) := (setObj_ne H _ n2).trans s1
  have t2 : (H.setObj l (.loop L .busy)).objs bf = some (.cells [B s.2]) := (setObj_ne H _ n3).trans s2
  have t3 := setObj_same H l (.loop L .busy)
  have te : HExc (fun b => b = bn ∨ b = bf ∨ b = l) H (H.setObj l (.loop L .busy)) := (HExc.refl _ H).setObj (.inl (.inr (.inr rfl))) _
  generalize H.setObj l (.loop L .busy) = H1 at t1 t2 t3 te ⊢
  rw [ld_Pt t1]
  simp only [part_f, List.getElem?_cons_zero, ob_some, i_add]
  rw [st_Pt t1 (sz1_I _), ob_some]
  have u1 := setObj_same H1 bn (.cells [I (W64 (s.1 + 1))])
  have u2 : (H1.setObj bn (.cells [I (W64 (s.1 + 1))])).objs bf = some (.cells [B s.2]) := (setObj_ne H1 _ (Ne.symm n1)).trans t2
  have u3 : (H1.setObj bn (.cells [I (W64 (s.1 + 1))])).objs l = some (.loop L .busy) := (setObj_ne H1 _ (Ne.symm n2)).trans t3
  have ue : HExc (fun b => b = bn ∨ b = bf ∨ b = l) H (H1.setObj bn (.cells [I (W64 (s.1 + 1))])) := te.setObj (.inl (.inl rfl)) _
  generalize H1.setObj bn (.cells [I (W64 (s.1 + 1))]) = H2 at u1 u2 u3 ue ⊢
  rw [ld_Pt u2]
  simp only [part_f, List.getElem?_cons_zero, ob_some]
  have fin : ∀ (c : Bool) (H3 : Heap), c = (s.2 && rightP x) → HExt H2 H3 → ob (stH H3 1 (Pt bf) (B c)) fun H30 => endA l H30 true .ready K := fun c H3 hc he => by
    rw [st_Pt (he.obj u2) (sz1_B _), ob_some]
    unfold endA
    have v1 := setObj_same H3 bf (.cells [B c])
    have v2 : (H3.setObj bf (.cells [B c])).objs bn = some (.cells [I (W64 (s.1 + 1))]) := (setObj_ne H3 _ n1).trans (he.obj u1)
    have v3 : (H3.setObj bf (.cells [B c])).objs l = some (.loop L .busy) := (setObj_ne H3 _ (Ne.symm n3)).trans (he.obj u3)
    have ve : HExc (fun b => b = bn ∨ b = bf ∨ b = l) H (H3.setObj bf (.cells [B c])) := (ue.trans he.exc).setObj (.inl (.inr (.inl rfl))) _
    rw [v3]
    simp only
    refine hk _ ⟨?_, ?_, setObj_same _ _ _⟩ (ve.setObj (.inl (.inr (.inr rfl))) _)
    · rw [setObj_ne _ _ n2, v2]; rfl
    · rw [setObj_ne _ _ n3, v1, hc]; rfl
  refine cnd_intro (fun h => ?_) (fun h => ?_)
  · rw [partX, ob_some]
    refine c22 x hx.1 hx.2.1 hx.2.2 H2 _ (fun H3 he => ?_)
    exact fin _ H3 (by rw [h, Bool.true_and]) he
  · exact fin false H2 (by rw [h, Bool.false_and]) (HExt.refl _)
theorem c14 (x : Ex) (hok : allX okX x) (H : Heap) (Q : Post) (hq : ∀ H', HExt H H' → Q (I (checkP x)) H') : E 14 [encX x] H Q := by
  rw [f14_eq, szX, ob_some]
  intro bn hn
  simp only [Pt_def]
  have e1 : HExt H (H.setObj bn (.cells [I 0])) := (HExt.refl H).setObj hn _
  have o1 := setObj_same H bn (.cells [I 0])
  generalize H.setObj bn (.cells [I 0]) = H1 at e1 o1 ⊢
  intro bf hf
  simp only [Pt_def]
  have n1 : bn ≠ bf := fresh_ne o1 hf
  have e2 : HExt H (H1.setObj bf (.cells [B false])) := e1.setObj (e1.fresh hf) _
  have o2 := setObj_same H1 bf (.cells [B false])
  have o1 : (H1.setObj bf (.cells [B false])).objs bn = some (.cells [I 0]) := (setObj_ne H1 _ n1).trans o1
  have hf' := e1.fresh hf
  generalize H1.setObj bf (.cells [B false]) = H2 at e2 o1 o2 ⊢
  rw [st_Pt o1 (sz1_I _), ob_some]
  have e3 : HExt H (H2.setObj bn (.cells [I 0])) := e2.setObj hn _
  have o2 : (H2.setObj bn (.cells [I 0])).objs bf = some (.cells [B false]) := (setObj_ne H2 _ (Ne.symm n1)).trans o2
  have o1 := setObj_same H2 bn (.cells [I 0])
  generalize H2.setObj bn (.cells [I 0]) = H3 at e3 o1 o2 ⊢
  rw [st_Pt o2 (sz1_B _), ob_some, partX, ob_some]
  have e4 : HExt H (H3.setObj bf (.cells [B true])) := e3.setObj hf' _
  have o1 : (H3.setObj bf (.cells [B true])).objs bn = some (.cells [I 0]) := (setObj_ne H3 _ n1).trans o1
  have o2 := setObj_same H3 bf (.cells [B true])
  generalize H3.setObj bf (.cells [B true]) = H4 at e4 o1 o2 ⊢
  refine c21 x H4 _ (fun b1 hb => ?_)
  have e5 : HExt H4 (H4.setObj b1 (.cells (encC x))) := (HExt.refl H4).setObj hb _
  have ox := setObj_same H4 b1 (.cells (encC x))
  generalize H4.setObj b1 (.cells (encC x)) = H5 at e5 ox ⊢
  have o1 := e5.obj o1
  have o2 := e5.obj o2
  refine ⟨trivial, ?_⟩
  intro l hl
  have n2 := fresh_ne o1 hl
  have n3 := fresh_ne o2 hl
  have e6 : HExt H5 (H5.setObj l (.loop (f14_L8 (Pt bn) (Pt bf)) .ready)) := (HExt.refl H5).setObj hl _
  have o3 := setObj_same H5 l (.loop (f14_L8 (Pt bn) (Pt bf)) .ready)
  generalize H5.setObj l (.loop (f14_L8 (Pt bn) (Pt bf)) .ready) = H6 at e6 o3 ⊢
  show E 37 [.fn (.yield l) [] [], Pt b1] H6 _
  refine c37 (visitC H bn bf l n1 n2 n3 _ rfl) x hok b1 (0, true) H6 _ (e6.obj ox) ⟨e6.obj o1, e6.obj o2, o3⟩ (fun H7 hs he => ?_)
  obtain ⟨s1, s2, s3⟩ := hs
  have hE : HExt H H7 := he.ext ((e4.trans e5).trans e6) (fun b hb => by
    rcases hb with rfl | rfl | rfl
    · exact hn
    · exact hf'
    · exact (e4.trans e5).fresh hl)
  unfold overA
  rw [s3]
  simp only
  have t1 : (H7.setObj l (.loop (f14_L8 (Pt bn) (Pt bf)) .over)).objs bn = _ := (setObj_ne H7 _ n2).trans s1
  have t2 : (H7.setObj l (.loop (f14_L8 (Pt bn) (Pt bf)) .over)).objs bf = _ := (setObj_ne H7 _ n3).trans s2
  have hE' : HExt H (H7.setObj l (.loop (f14_L8 (Pt bn) (Pt bf)) .over)) := hE.setObj ((e4.trans e5).fresh hl) _
  generalize H7.setObj l (.loop (f14_L8 (Pt bn) (Pt bf)) .over) = H8 at t1 t2 hE' ⊢
  rw [f14_j14_eq, ld_Pt t1]
  simp only [part_f, List.getElem?_cons_zero, ob_some, i_gtr, ld_Pt t2, not_B]
  have := hq H8 hE'
  simp only [checkP] at this
  refine cnd_intro (fun h => ?_) (fun h => cnd_intro (fun h' => ?_) (fun h' => ?_))
  · rw [if_pos (by simpa using h)] at this; exact this
  · rw [if_neg (by simpa using h), if_pos (by simpa using h')] at this; exact this
  · rw [if_neg (by simpa using h), if_neg (by simpa using h')] at this; exact this
end Go.Hx
namespace Go.Hx
def rng (n : Int) : Prop := -9223372036854775808 ≤ n ∧ n ≤ 9223372036854775807
theorem w64_rng (n : Int) : rng (W64 n) := by
  have hb : IntKind.i64.bits = 64 := rfl
  have hs : IntKind.i64.signed = true := rfl
  simp only [W64, IntKind.wrap, hb, hs, Bool.true_and, decide_eq_true_eq, rng]
  split <;> omega
/-- a wrapped number is another one by so many rounds -/
theorem w64_mod (n : Int) : ∃ k : Int, W64 n = n + k * 18446744073709551616 := by
  have hb : IntKind.i64.bits = 64 := rfl
  have hs : IntKind.i64.signed = true := rfl
  simp only [W64, IntKind.wrap, hb, hs, Bool.true_and, decide_eq_true_eq]
  split
  · exact ⟨-(n / 18446744073709551616) - 1, by omega⟩
  · exact ⟨-(n / 18446744073709551616), by omega⟩
theorem toInt_of {n : Int} (h : rng n) : (BitVec.ofInt 64 n).toInt = n := by
  obtain ⟨h1, h2⟩ := h
  rw [BitVec.toInt_ofInt]
  exact Int.bmod_eq_of_le (by omega) (by omega)
theorem wrap_bv (x : BitVec 64) : W64 (x.toNat : Int) = x.toInt := by
  have hb : IntKind.i64.bits = 64 := rfl
  have hs : IntKind.i64.signed = true := rfl
  have hx := x.isLt
  simp only [W64, IntKind.wrap, hb, hs, Bool.true_and, decide_eq_true_eq]
  rw [BitVec.toInt_eq_toNat_cond]
  split <;> split <;> omega
theorem and_not1 {n : Int} (h : rng n) : bitsI .andNot .i64 n 1 = 0 ↔ (n = 0 ∨ n = 1) := by
  have e : bitsI .andNot .i64 n 1 = (BitVec.ofInt 64 n &&& ~~~BitVec.ofInt 64 1).toInt := wrap_bv _
  rw [e]
  constructor
  · intro h0
    have h1 : BitVec.ofInt 64 n &&& ~~~BitVec.ofInt 64 1 = 0#64 := BitVec.eq_of_toInt_eq (by rw [h0]; rfl)
    have hx : BitVec.ofInt 64 n = 0#64 ∨ BitVec.ofInt 64 n = 1#64 := by
      generalize BitVec.ofInt 64 n = x at h1
      have hi : ∀ i, 0 < i → x.getLsbD i = false := fun i hi => by
        rcases Nat.lt_or_ge i 64 with hlt | hge
        · have := congrArg (fun y => y.getLsbD i) h1
          have o1 : (BitVec.ofInt 64 1).getLsbD i = false := by
            show (1#64).getLsbD i = false
            rw [BitVec.getLsbD_one]; simp; omega
          simp only [BitVec.getLsbD_and, BitVec.getLsbD_not, o1, hlt, decide_true, Bool.true_and, Bool.not_false, Bool.and_true, BitVec.getLsbD_zero] at this
          exact this
        · exact BitVec.getLsbD_of_ge _ _ hge
      cases h0 : x.getLsbD 0 with
      | false =>
        left
        apply BitVec.eq_of_getLsbD_eq
        intro i _
        rw [BitVec.getLsbD_zero]
        cases i with
        | zero => exact h0
        | succ i => exact hi _ (by omega)
      | true =>
        right
        apply BitVec.eq_of_getLsbD_eq
        intro i _
        rw [BitVec.getLsbD_one]
        cases i with
        | zero => rw [h0]; rfl
        | succ i => rw [hi _ (by omega)]; simp
    have ht := toInt_of h
    rcases hx with hx | hx
    · left; rw [hx] at ht; exact ht.symm
    · right; rw [hx] at ht; exact ht.symm
  · rintro (rfl | rfl) <;> decide
theorem sz3 (v : Vl) : sizedA 3 (encV v) = some [I v.k, I v.n, S v.s] := rfl
mutual
/-- may all nodes be -/
def allR : Ex → Bool
  | .mk k v var fld sz nil tip l => rightP (.mk k v var fld sz nil tip l) && allRs l
def allRs : List Ex → Bool
  | [] => true
  | x :: r => allR x && allRs r
end
theorem allR_eq (x : Ex) : allR x = (rightP x && allRs x.l) := by cases x; simp [allR, Ex.l]
theorem allRs_mem {l : List Ex} (h : allRs l = true) {x : Ex} (hx : x ∈ l) : allR x = true := by
  induction l with
  | nil => cases hx
  | cons y r ih =>
    simp only [allRs, Bool.and_eq_true] at h
    cases hx with
    | head => exact h.1
    | tail _ hx => exact ih h.2 hx
/-- of a node that may be and has parts -/
theorem rightP_len {x : Ex} (h : rightP x = true) (h1 : x.k ≠ 1) (h2 : x.k ≠ 2) : (x.k = 3 ∧ x.l.length = 1) ∨ (x.k = 15 ∧ x.l.length = 1) ∨ (4 ≤ x.k ∧ x.k ≤ 14 ∧ x.l.length = 2) ∨ ((x.k = 16 ∨ x.k = 17) ∧ 2 ≤ x.l.length) := by
  simp only [rightP, if_neg h1, if_neg h2] at h
  split at h
  · cases h
  · split at h
    · rename_i h3; simp at h; omega
    · split at h
      · rename_i h3; simp at h; omega
      · simp [isRowP] at h; omega
theorem stepC_all (x : Ex) : ∀ (s : Int × Bool) (d : Int), (foldX stepC s d x).2 = (s.2 && allR x) := by
  induction x using Ex.ind with
  | h x ih =>
    intro s d
    rw [foldX_eq, allR_eq]
    have : ∀ (r : List Ex), (∀ y ∈ r, y ∈ x.l) → ∀ (s : Int × Bool) (d : Int), (foldXs stepC s d r).2 = (s.2 && allRs r) := by
      intro r
      induction r with
      | nil => intro _ s d; simp [foldXs, allRs]
      | cons y r ihr =>
        intro hy s d
        simp only [foldXs, allRs]
        rw [ihr (fun z hz => hy z (by simp [hz])), ih y (hy y (by simp)), Bool.and_assoc]
    rw [this x.l (fun _ h => h)]
    simp only [stepC, Bool.and_assoc]
theorem sizeX_eq (x : Ex) : sizeX x = 1 + sizeXs x.l := by cases x; simp [sizeX, Ex.l]
theorem stepC_size (x : Ex) : ∀ (n : Nat) (b : Bool) (d : Int), n + sizeX x ≤ 1152921504606846976 → (foldX stepC ((n : Int), b) d x).1 = ((n + sizeX x : Nat) : Int) := by
  induction x using Ex.ind with
  | h x ih =>
    intro n b d hn
    rw [sizeX_eq] at hn
    have : ∀ (r : List Ex), (∀ y ∈ r, y ∈ x.l) → ∀ (n : Nat) (b : Bool) (d : Int), n + sizeXs r ≤ 1152921504606846976 → (foldXs stepC ((n : Int), b) d r).1 = ((n + sizeXs r : Nat) : Int) := by
      intro r
      induction r with
      | nil => intro _ n b d _; simp [foldXs, sizeXs]
      | cons y r ihr =>
        intro hy n b d hn
        simp only [foldXs, sizeXs] at hn ⊢
        have h1 := ih y (hy y (by simp)) n b d (by omega)
        have h2 : foldX stepC ((n : Int), b) d y = (((n + sizeX y : Nat) : Int), (foldX stepC ((n : Int), b) d y).2) := by rw [← h1]
        rw [h2, ihr (fun z hz => hy z (by simp [hz])) _ _ _ (by omega)]
        congr 1; omega
    rw [foldX_eq, sizeX_eq]
    have h3 : stepC ((n : Int), b) d x = (((n + 1 : Nat) : Int), b && rightP x) := by
      simp only [stepC]
      rw [w64_id (by omega) (by omega)]; rfl
    rw [h3, this x.l (fun _ h => h) _ _ _ (by omega)]
    congr 1; omega
theorem checkP_eq (x : Ex) (h : sizeX x ≤ 1152921504606846975) : checkP x = if 100 < sizeX x then 2 else if allR x = false then 1 else 0 := by
  have h1 := stepC_size x 0 true 1 (by omega)
  have h2 := stepC_all x (0, true) 1
  simp only [Bool.true_and] at h2
  simp only [checkP, h2]
  have : (foldX stepC (0, true) 1 x).1 = ((sizeX x : Nat) : Int) := by simpa using h1
  rw [this]
  by_cases h3 : 100 < sizeX x
  · rw [if_pos (by omega), if_pos h3]
  · rw [if_neg (by omega), if_neg h3]
theorem checkP_all {x : Ex} (h : checkP x = 0) : allR x = true := by
  have h2 := stepC_all x (0, true) 1
  simp only [Bool.true_and] at h2
  simp only [checkP, h2] at h
  split at h
  · cases h
  · split at h
    · cases h
    · rename_i h3; simpa using h3
/-- a value's number is one -/
def vr (v : Vl) : Prop := rng v.n
theorem rightV_eq {v : Vl} (h : vr v) : rightV v = (if v.k = 0 then decide (v.n = 0) && decide (v.s = e0) else if v.k = 1 then (decide (v.n = 0) || decide (v.n = 1)) && decide (v.s = e0) else if v.k = 2 then decide (v.s = e0)
    else if v.k = 3 then decide (v.n = 0) && decide ((v.s.size : Int) ≤ 256) else false) := by
  simp only [rightV]
  split
  · rename_i hk
    cases v with | mk k n s =>
    simp only at hk
    subst hk
    rw [Bool.eq_iff_iff]; simp [nullV]
  · split
    · rw [Bool.eq_iff_iff]
      simp only [Bool.and_eq_true, decide_eq_true_eq, Bool.or_eq_true, and_not1 h]
      exact and_comm
    · rfl
theorem bld0 : bldA [] [I 0, I 0, S e0] = some (encV nullV) := rfl
theorem v_neq (t : Bool) (v w : Vl) : binA Pg .neq 23 t (encV v) (encV w) = some (B (!decide (v = w))) := by
  have h0 : binA Pg .neq 23 t (encV v) (encV w) = (eqT Pg 4 23 (encV v) (encV w)).map fun r => .raw (.bool (!r)) := by
    have := v_ok t v w
    simp only [encV] at this ⊢
    simp only [binA, this]
  have h1 := v_eql t v w
  rw [v_eql0] at h1
  rw [h0]
  cases hr : eqT Pg 4 23 (encV v) (encV w) with
  | none => rw [hr] at h1; cases h1
  | some r =>
    rw [hr] at h1
    simp only [Option.map_some, Option.some.injEq, B, AV.raw.injEq, Value.bool.injEq] at h1
    simp only [Option.map_some, h1]
    rfl
theorem p0X (x : Ex) : (encC x)[0]? = some (I x.k) := by rw [encC_eq]; rfl
theorem p4X (x : Ex) : (encC x)[4]? = some (S x.var) := by rw [encC_eq]; rfl
theorem p5X (x : Ex) : (encC x)[5]? = some (S x.fld) := by rw [encC_eq]; rfl
theorem p6X (x : Ex) : (encC x)[6]? = some (encXs x.sz x.nil x.tip x.l) := by rw [encC_eq]; rfl
/-! ### Size -/
theorem sizeXs_append (l r : List Ex) : sizeXs (l ++ r) = sizeXs l + sizeXs r := by
  induction l with
  | nil => simp [sizeXs]
  | cons x l ih => simp only [List.cons_append, sizeXs, ih]; omega
theorem one_le_sizeX (x : Ex) : 1 ≤ sizeX x := by rw [sizeX_eq]; omega
theorem len_sizeXs (l : List Ex) : l.length ≤ sizeXs l := by
  induction l with
  | nil => simp [sizeXs]
  | cons x l ih => have := one_le_sizeX x; simp only [List.length_cons, sizeXs]; omega
/-! ### right -/
def partOK (k : Int) (y : Ex) : Bool := allR y && !(isRowP k && decide (y.k = k))
theorem all_part (k : Int) (l : List Ex) : l.all (partOK k) = (allRs l && !(isRowP k && l.any fun y => decide (y.k = k))) := by
  induction l with
  | nil => simp [allRs]
  | cons y r ih =>
    simp only [List.all_cons, List.any_cons, allRs, ih, partOK]
    cases allR y <;> cases allRs r <;> cases isRowP k <;> cases decide (y.k = k) <;> cases (r.any fun y => decide (y.k = k)) <;> rfl
def restR (x : Ex) : Bool :=
  if x.k = 1 then decide (x.l.length = 0) && rightV x.v
  else if x.k = 2 then decide (x.l.length = 0) && (nameL x.var.data.toList && nameL x.fld.data.toList)
  else if x.k = 3 ∨ x.k = 15 then decide (x.l.length = 1) && x.l.all (partOK x.k)
  else if 4 ≤ x.k ∧ x.k ≤ 14 then decide (x.l.length = 2) && x.l.all (partOK x.k)
  else if x.k = 16 ∨ x.k = 17 then decide (2 ≤ x.l.length) && x.l.all (partOK x.k)
  else false
theorem restR_eq (x : Ex) : (if (x.k ≠ 1 ∧ x.v ≠ nullV) ∨ (x.k ≠ 2 ∧ (x.var ≠ e0 ∨ x.fld ≠ e0)) then false else restR x) = allR x := by
  rw [allR_eq]
  simp only [restR, rightP, all_part, bareP]
  have hnil : x.l.length = 0 → allRs x.l = true := fun h => by rw [List.eq_nil_of_length_eq_zero h]; rfl
  by_cases h1 : x.k = 1
  · simp only [h1]
    by_cases hv : x.var = e0 <;> by_cases hf : x.fld = e0 <;> by_cases hl : x.l.length = 0 <;> simp [hv, hf, hl, hnil]
  · by_cases h2 : x.k = 2
    · simp only [h2]
      by_cases hv : x.v = nullV <;> by_cases hl : x.l.length = 0 <;> simp [hv, hl, hnil]
    · by_cases hb : x.v = nullV ∧ x.var = e0 ∧ x.fld = e0
      · have hc : ¬ ((x.k ≠ 1 ∧ x.v ≠ nullV) ∨ (x.k ≠ 2 ∧ (x.var ≠ e0 ∨ x.fld ≠ e0))) := by simp [hb]
        rw [if_neg hc]
        simp only [h1, h2, if_false, hb.1, hb.2.1, hb.2.2, decide_true, Bool.and_self, Bool.true_eq_false]
        by_cases h3 : x.k = 3 ∨ x.k = 15
        · have hr : isRowP x.k = false := by rcases h3 with h | h <;> simp [isRowP, h]
          simp [h3, hr]
        · by_cases h4 : 4 ≤ x.k ∧ x.k ≤ 14
          · have hr : isRowP x.k = false := by simp [isRowP]; omega
            simp [h3, h4, hr]
          · by_cases h5 : x.k = 16 ∨ x.k = 17
            · have hr : isRowP x.k = true := by rcases h5 with h | h <;> simp [isRowP, h]
              simp only [h3, h4, h5, hr, if_true, if_false, Bool.true_and]
              cases allRs x.l <;> cases (x.l.any fun y => decide (y.k = x.k)) <;> cases decide (2 ≤ x.l.length) <;> rfl
            · have hr : isRowP x.k = false := by simp [isRowP]; omega
              simp [h3, h4, h5, hr]
      · have hc : (x.k ≠ 1 ∧ x.v ≠ nullV) ∨ (x.k ≠ 2 ∧ (x.var ≠ e0 ∨ x.fld ≠ e0)) := by
          by_cases hv : x.v = nullV
          · by_cases hx : x.var = e0
            · by_cases hf : x.fld = e0
              · exact absurd ⟨hv, hx, hf⟩ hb
              · exact .inr ⟨h2, .inr hf⟩
            · exact .inr ⟨h2, .inl hx⟩
          · exact .inl ⟨h1, hv⟩
        rw [if_pos hc]
        have : (decide (x.v = nullV) && (decide (x.var = e0) && decide (x.fld = e0))) = false := by
          rw [Bool.eq_false_iff]; simp only [ne_eq, Bool.and_eq_true, decide_eq_true_eq]; exact hb
        simp [h1, h2, this]
def vX (x : Ex) : Prop := vr x.v
end Go.Hx
namespace Go.Hx
theorem OwnS.ext {H0 H H' : Heap} {sz n : Nat} {tip : Tip} (h : OwnS H0 H sz n tip) (he : HExt H H') : OwnS H0 H' sz n tip := by
  cases tip with
  | any => exact h
  | full => exact h
  | tip b =>
    refine ⟨?_, h.2⟩
    have h1 := h.1
    rw [(he b (fun hf => by rw [hf.2] at h1; cases h1)).2.1]; exact h1
theorem app_many {H0 H : Heap} {sz sz' bytes s2 : Nat} {nil nil2 : Bool} {tip tip2 : Tip} {xs ys : List AV} {K : Post} (he : HExt H0 H) (ho : OwnS H0 H sz xs.length tip) (hs : nil = true ∨ sz' = sz) (hs2 : nil2 = true ∨ s2 = sz) (h1 : 1 ≤ sz)
    (hb : (xs.length + ys.length) * bytes ≤ 140737488355328) (hk : ∀ s' n' tip' H', (n' = true ∨ s' = sz) → HExt H0 H' → OwnS H0 H' sz (xs ++ ys).length tip' → K (.sl s' n' tip' (xs ++ ys)) H') :
    appA sz bytes (.sl sz' nil tip xs) (.sl s2 nil2 tip2 ys) H K := by
  have ht : tailA sz (.sl s2 nil2 tip2 ys) = some ys := by simp [tailA, hs2]
  unfold appA
  simp only [ht]
  cases ys with
  | nil => have := hk sz' nil tip H hs he (by simpa using ho); simpa using this
  | cons y ys =>
    refine ⟨hs, h1, hb, ?_⟩
    cases tip with
    | any => exact ho.elim
    | full =>
      intro b hf
      exact hk sz false _ _ (.inr rfl) (he.setTip (he.fresh hf) _) ⟨by simp [Heap.setTip], he.fresh hf⟩
    | tip b0 =>
      refine ⟨ho.1, fun b hf => ?_⟩
      have hf0 : H0.fresh b := by
        rcases hf with rfl | hf
        · exact ho.2
        · exact he.fresh hf
      exact hk sz false _ _ (.inr rfl) (he.setTip hf0 _) ⟨by simp [Heap.setTip], hf0⟩
theorem x3_0 (a b c : AV) : extractA (.tup [a, b, c]) 0 = some a := rfl
theorem x3_1 (a b c : AV) : extractA (.tup [a, b, c]) 1 = some b := rfl
theorem x3_2 (a b c : AV) : extractA (.tup [a, b, c]) 2 = some c := rfl
theorem x2_0 (a b : AV) : extractA (.tup [a, b]) 0 = some a := rfl
theorem x2_1 (a b : AV) : extractA (.tup [a, b]) 1 = some b := rfl
end Go.Hx
namespace Go.Hx
theorem cells5 : Pg.cellsOf 5 = 1 := by kernel_rfl
abbrev Poff (b o : Nat) : AV := .raw (.pointer (some ⟨b, o, none⟩))
theorem nil_Pt (b : Nat) : nilA (Pt b) = some (Pt b) := rfl
theorem add_Pt (b o : Nat) : addPA (Pt b) o = some (Poff b o) := by simp [addPA, Pt, Poff]
theorem add0_Pt (b : Nat) : addPA (Pt b) 0 = some (Pt b) := rfl
/-! ### The state of a builder -/
def BufOK (H0 H : Heap) (b sz : Nat) (nil : Bool) (tip : Tip) (t : List UInt8) : Prop :=
  (nil = true ∧ sz = 0 ∧ tip = .full ∧ t = []) ∨ (sz = 1 ∧ nil = false ∧ t ≠ [] ∧ ∃ c, tip = .tip c ∧ c ≠ b ∧ H0.fresh c ∧ H.tips c = some t.length ∧ H.tys c = some 5)
theorem BufOK.mono {H0 H H' : Heap} {b sz : Nat} {nil : Bool} {tip : Tip} {t : List UInt8} (h : BufOK H0 H b sz nil tip t) (he : HExt H H') : BufOK H0 H' b sz nil tip t := by
  rcases h with h | ⟨h1, h2, h3, c, h4, h5, h6, h7, h8⟩
  · exact .inl h
  · have := he c (fun hf => by rw [hf.2] at h7; cases h7)
    exact .inr ⟨h1, h2, h3, c, h4, h5, h6, this.2.1.trans h7, this.2.2.trans h8⟩
theorem app_buf {H0 H : Heap} {b sz : Nat} {nil : Bool} {tip : Tip} {t ys : List UInt8} {x : AV} {K : Post} (he : HExt H0 H) (hb : ∃ o, H.objs b = some o) (h : BufOK H0 H b sz nil tip t) (ht : tailA 1 x = some (ys.map byteA))
    (hl : t.length + ys.length ≤ 140737488355328)
    (hk : ∀ sz' nil' tip' H', BufOK H0 H' b sz' nil' tip' (t ++ ys) → HExt H0 H' → H'.objs = H.objs → H'.tys b = H.tys b → K (.sl sz' nil' tip' ((t ++ ys).map byteA)) H') :
    appB 5 (.sl sz nil tip (t.map byteA)) x H K := by
  unfold appB
  simp only [ht]
  cases ys with
  | nil =>
    have := hk sz nil tip H (by simpa using h) he rfl rfl
    simpa using this
  | cons y ys =>
    have hnew : ∀ c, H.fresh c → K (.sl 1 false (.tip c) ((t ++ y :: ys).map byteA)) ((H.setTip c (t.length + (y :: ys).length)).setTy c 5) := fun c hc => by
      obtain ⟨o, ho⟩ := hb
      have hne : c ≠ b := Ne.symm (fresh_ne ho hc)
      refine hk 1 false _ _ (.inr ⟨rfl, rfl, by simp, c, rfl, hne, he.fresh hc, by simp [Heap.setTip, Heap.setTy], by simp [Heap.setTy]⟩) ((he.setTip (he.fresh hc) _).setTy (he.fresh hc) _) rfl (by simp [Heap.setTy, Heap.setTip, Ne.symm hne])
    have e1 : t.map byteA ++ (y :: ys).map byteA = (t ++ y :: ys).map byteA := by simp
    have e2 : (t.map byteA).length = t.length := by simp
    have e3 : ((y :: ys).map byteA).length = (y :: ys).length := by simp
    simp only [List.map_cons] at e1 e3 ⊢
    simp only [e2, e3, e1]
    rcases h with ⟨h1, h2, h3, h4⟩ | ⟨h1, h2, h3, c, h4, h5, h6, h7, h8⟩
    · subst h3
      exact ⟨.inl h1, hl, hnew, trivial⟩
    · subst h4
      refine ⟨.inr h1, hl, hnew, h7, ?_⟩
      refine hk 1 false _ _ (.inr ⟨rfl, rfl, by simp, c, rfl, h5, h6, by simp [Heap.setTip], by simpa [Heap.setTip] using h8⟩) (he.setTip h6 _) rfl rfl
abbrev tx (s : ByteArray) : List UInt8 := s.data.toList
end Go.Hx
namespace Go.Hx
abbrev U64 (n : Int) : AV := .raw (.int .u64 n)
theorem wrap_u64 {n : Int} (h0 : 0 ≤ n) (h1 : n < 18446744073709551616) : IntKind.u64.wrap n = n := by
  have hb : IntKind.u64.bits = 64 := rfl
  have hs : IntKind.u64.signed = false := rfl
  simp only [IntKind.wrap, hb, hs, Bool.false_and]
  simp; omega
theorem wrap_u8 {n : Int} (h0 : 0 ≤ n) (h1 : n < 256) : IntKind.u8.wrap n = n := by
  have hb : IntKind.u8.bits = 8 := rfl
  have hs : IntKind.u8.signed = false := rfl
  simp only [IntKind.wrap, hb, hs, Bool.false_and]
  simp; omega
theorem wrap_u64_neg {n : Int} (h0 : -9223372036854775808 ≤ n) (h1 : n < 0) : IntKind.u64.wrap n = n + 18446744073709551616 := by
  have hb : IntKind.u64.bits = 64 := rfl
  have hs : IntKind.u64.signed = false := rfl
  simp only [IntKind.wrap, hb, hs, Bool.false_and]
  simp; omega
theorem u64_rem (m : Nat) (t : TypeId) (l : Bool) : binA Pg .rem t l (U64 m) (U64 10) = some (U64 ((m % 10 : Nat) : Int)) := by
  rw [k_rem _ _ _ _ _ (by omega)]
  congr 3
theorem u64_quo (m : Nat) (h : m < 18446744073709551616) (t : TypeId) (l : Bool) : binA Pg .quo t l (U64 m) (U64 10) = some (U64 ((m / 10 : Nat) : Int)) := by
  have h1 : binA Pg .quo t l (U64 m) (U64 10) = some (U64 (IntKind.u64.wrap ((m : Int).tdiv 10))) := rfl
  have h2 : (m : Int).tdiv 10 = ((m / 10 : Nat) : Int) := rfl
  rw [h1, h2, wrap_u64 (by omega) (by omega)]
/-- a digit -/
def dig (d : Nat) : UInt8 := UInt8.ofNat (48 + d)
theorem dig_nat {d : Nat} (h : d < 10) : (dig d).toNat = 48 + d := by
  simp only [dig, UInt8.toNat_ofNat']
  omega
theorem byte_dig {d : Nat} (h : d < 10) : byteA (dig d) = U8 (48 + d) := by
  simp only [byteA, dig_nat h, U8]; rfl
def digitsN (n : Nat) : List UInt8 := if n < 10 then [dig n] else digitsN (n / 10) ++ [dig (n % 10)]
termination_by n
decreasing_by omega
theorem digits_len : ∀ (k n : Nat), 1 ≤ k → n < 10 ^ k → (digitsN n).length ≤ k := by
  intro k
  induction k with
  | zero => intro n h; omega
  | succ k ih =>
    intro n _ hn
    rw [digitsN]
    split
    · simp
    · rename_i h
      rcases Nat.eq_zero_or_pos k with rfl | hk
      · omega
      · have := ih (n / 10) hk (by rw [Nat.pow_succ] at hn; omega)
        rw [List.length_append]; simp; omega
theorem digits_len20 (n : Nat) (h : n ≤ 9223372036854775808) : (digitsN n).length ≤ 19 := digits_len 19 n (by omega) (by omega)
def numT (n : Int) : List UInt8 := (if n < 0 then [45] else []) ++ digitsN n.natAbs
theorem numT_len {n : Int} (h : rng n) : (numT n).length ≤ 20 := by
  have := digits_len20 n.natAbs (by have := h.1; have := h.2; omega)
  simp only [numT, List.length_append]
  split <;> simp <;> omega
def strT (l : List UInt8) : AV := S ⟨l.toArray⟩
theorem tx_str (l : List UInt8) : tx ⟨l.toArray⟩ = l := rfl
theorem s_add (l r : List UInt8) (t : TypeId) (b : Bool) (h : l.length + r.length ≤ 9223372036854775807) : binA Pg .add t b (strT l) (strT r) = some (strT (l ++ r)) := by
  have h1 : binA Pg .add t b (strT l) (strT r) = strBin .add ⟨l.toArray⟩ ⟨r.toArray⟩ := rfl
  have h2 : (ByteArray.mk l.toArray).size = l.length := by simp [ByteArray.size]
  have h3 : (ByteArray.mk r.toArray).size = r.length := by simp [ByteArray.size]
  rw [h1]
  simp only [strBin, h2, h3]
  rw [if_pos (by omega)]
  simp only [strT, S, Option.some.injEq, AV.raw.injEq, Value.string.injEq]
  ext1
  simp
theorem bs_lit (l : List UInt8) (nil : Bool) (tip : Tip) (K : AV → Prop) (hk : K (strT l)) : bsA (.sl 1 nil tip (l.map byteA)) K := ⟨.inr rfl, l, rfl, hk⟩
/-! ### The document's -/
def tabC : List AV := [U8 48, U8 49, U8 50, U8 51, U8 52, U8 53, U8 54, U8 55, U8 56, U8 57]
theorem tab_get {d : Nat} (h : d < 10) : tabC[d]? = some (byteA (dig d)) := by
  rw [byte_dig h]
  match d, h with
  | 0, _ | 1, _ | 2, _ | 3, _ | 4, _ | 5, _ | 6, _ | 7, _ | 8, _ | 9, _ => rfl
def zero8 (n : Nat) : List AV := List.replicate n (U8 0)
theorem st_agg {H : Heap} {b : Nat} {cs xs : List AV} (h : H.objs b = some (.cells cs)) (hl : xs.length = cs.length) (n : Nat) (hn : xs.length = n) : stH H n (Pt b) (.agg xs) = some (H.setObj b (.cells xs)) := by
  have h1 : sizedA n (.agg xs) = some xs := by simp [sizedA, cellsA, hn]
  have h2 : spliceA 0 xs cs = some xs := by simp [spliceA, hl]
  simp [stH, Pt, h, h1, h2]
theorem ld_agg {H : Heap} {b : Nat} {cs : List AV} (h : H.objs b = some (.cells cs)) (n : Nat) (hn : cs.length = n) : ldH H true n (Pt b) = some (.agg cs) := by
  rw [ld_Pt h]
  simp [partA, ← hn]
theorem HExt.dropObj {H H' : Heap} (h : HExt H H') {b : Nat} (hb : H.fresh b) : HExt H (H'.dropObj b) := fun c hc => by
  have hne : c ≠ b := fun e => hc (e ▸ hb)
  have := h c hc
  simp only [Heap.dropObj, if_neg hne]
  exact this
theorem splice1 {cs : List AV} {k : Nat} (h : k < cs.length) (v : AV) : spliceA k [v] cs = some (cs.take k ++ [v] ++ cs.drop (k + 1)) := by
  simp only [spliceA, List.length_singleton]
  rw [if_pos (by omega)]
theorem st_at {H : Heap} {b k : Nat} {cs : List AV} (h : H.objs b = some (.cells cs)) (hk : k < cs.length) (c : UInt8) : stH H 1 (Poff b k) (byteA c) = some (H.setObj b (.cells (cs.take k ++ [byteA c] ++ cs.drop (k + 1)))) := by
  have h1 : sizedA 1 (byteA c) = some [byteA c] := rfl
  simp [stH, h, h1, splice1 hk]
theorem drop_set {cs : List AV} {k : Nat} (h : k < cs.length) (v : AV) : (cs.take k ++ [v] ++ cs.drop (k + 1)).drop k = v :: cs.drop (k + 1) := by
  rw [List.append_assoc, List.drop_append_of_le_length (by simp; omega)]
  simp
theorem len_set {cs : List AV} {k : Nat} (h : k < cs.length) (v : AV) : (cs.take k ++ [v] ++ cs.drop (k + 1)).length = cs.length := by
  simp; omega
end Go.Hx
namespace Go.Hx
/-- a hexadecimal digit -/
def hexD (d : Nat) : UInt8 := UInt8.ofNat (if d < 10 then 48 + d else 87 + d)
def escB (c : UInt8) : List UInt8 :=
  if c.toNat = 39 ∨ c.toNat = 92 then [92, c] else if 32 ≤ c.toNat ∧ c.toNat ≤ 126 then [c] else [92, 120, hexD (c.toNat / 16), hexD (c.toNat % 16)]
def escT (l : List UInt8) : List UInt8 := (l.map escB).flatten
def quoteT (l : List UInt8) : List UInt8 := 39 :: (escT l ++ [39])
theorem escB_len (c : UInt8) : (escB c).length ≤ 4 := by
  simp only [escB]
  split
  · simp
  · split <;> simp
theorem escT_len (l : List UInt8) : (escT l).length ≤ 4 * l.length := by
  induction l with
  | nil => simp [escT]
  | cons c r ih =>
    have := escB_len c
    simp only [escT, List.map_cons, List.flatten_cons, List.length_append, List.length_cons] at ih ⊢
    omega
theorem quoteT_len (l : List UInt8) : (quoteT l).length ≤ 4 * l.length + 2 := by
  have := escT_len l
  simp only [quoteT, List.length_cons, List.length_append, List.length_singleton, List.length_nil]
  omega
def hexC : List AV := [U8 48, U8 49, U8 50, U8 51, U8 52, U8 53, U8 54, U8 55, U8 56, U8 57, U8 97, U8 98, U8 99, U8 100, U8 101, U8 102]
theorem hex_get {d : Nat} (h : d < 16) : hexC[d]? = some (byteA (hexD d)) := by
  match d, h with
  | 0, _ | 1, _ | 2, _ | 3, _ | 4, _ | 5, _ | 6, _ | 7, _ | 8, _ | 9, _ | 10, _ | 11, _ | 12, _ | 13, _ | 14, _ | 15, _ => rfl
  | n + 16, h => exact absurd h (by omega)
def hexS : ByteArray := ⟨#[48, 49, 50, 51, 52, 53, 54, 55, 56, 57, 97, 98, 99, 100, 101, 102]⟩
theorem hexs_get {d : Nat} (h : d < 16) : ixA (S hexS) (U8 d) = some (byteA (hexD d)) := by
  match d, h with
  | 0, _ | 1, _ | 2, _ | 3, _ | 4, _ | 5, _ | 6, _ | 7, _ | 8, _ | 9, _ | 10, _ | 11, _ | 12, _ | 13, _ | 14, _ | 15, _ => rfl
  | n + 16, h => exact absurd h (by omega)
theorem byte_lt (c : UInt8) : c.toNat < 256 := c.toNat_lt
theorem u8_quo (c : Nat) (h : c < 256) (t : TypeId) (l : Bool) : binA Pg .quo t l (U8 c) (U8 16) = some (U8 ((c / 16 : Nat) : Int)) := by
  have h1 : binA Pg .quo t l (U8 c) (U8 16) = some (U8 (IntKind.u8.wrap ((c : Int).tdiv 16))) := rfl
  have h2 : (c : Int).tdiv 16 = ((c / 16 : Nat) : Int) := rfl
  rw [h1, h2, wrap_u8 (by omega) (by omega)]
theorem u8_rem (c : Nat) (t : TypeId) (l : Bool) : binA Pg .rem t l (U8 c) (U8 16) = some (U8 ((c % 16 : Nat) : Int)) := by
  rw [k_rem _ _ _ _ _ (by omega)]
  congr 3
theorem u8_shr (c : Nat) (t : TypeId) (l : Bool) : binA Pg .shr t l (U8 c) (U64 4) = some (U8 ((c / 16 : Nat) : Int)) := by
  have h1 : binA Pg .shr t l (U8 c) (U64 4) = some (U8 ((c : Int).fdiv 16)) := rfl
  have h2 : (c : Int).fdiv 16 = ((c / 16 : Nat) : Int) := by
    rw [Int.fdiv_eq_ediv_of_nonneg _ (by omega)]; rfl
  rw [h1, h2]
theorem and15 : ∀ c : Fin 256, bitsI .and .u8 (c.val : Int) 15 = ((c.val % 16 : Nat) : Int) := by decide
theorem u8_and (c : Nat) (h : c < 256) (t : TypeId) (l : Bool) : binA Pg .and t l (U8 c) (U8 15) = some (U8 ((c % 16 : Nat) : Int)) := by
  have h1 : binA Pg .and t l (U8 c) (U8 15) = some (U8 (bitsI .and .u8 c 15)) := rfl
  rw [h1, and15 ⟨c, h⟩]
def plainB (c : UInt8) : Bool := decide (32 ≤ c.toNat) && decide (c.toNat ≤ 126)
theorem c72 (c : UInt8) (H : Heap) (Q : Post) : E 72 [byteA c] H Q = Q (B (plainB c)) H := by
  simp only [f72_eq, f72_j4_eq, byteA, k_geq, k_leq, ob_some, cnd_B, plainB]
  by_cases h : 32 ≤ c.toNat
  · have : (32 : Int) ≤ c.toNat := by omega
    simp only [h, this, decide_true, if_true, Bool.true_and]
    congr 2
    rw [Bool.eq_iff_iff]; simp; omega
  · have : ¬ (32 : Int) ≤ c.toNat := by omega
    simp [h, this]
theorem lit_bytes (l : List UInt8) : mkSlA 1 (l.map byteA) = some (.sl 1 false .full (l.map byteA)) := by
  have : ((l.map byteA).all fun x => (sizedA 1 x).isSome) = true := by
    rw [List.all_eq_true]
    intro x hx
    obtain ⟨c, _, rfl⟩ := List.mem_map.1 hx
    rfl
  simp only [mkSlA, this]
theorem b_eq39 (c : UInt8) (n : Nat) (t : TypeId) (l : Bool) : binA Pg .eql t l (byteA c) (U8 n) = some (B (decide (c.toNat = n))) := by
  simp only [byteA, k_eql]
  congr 2
  rw [Bool.eq_iff_iff]; simp only [decide_eq_true_eq, B]; omega
/-! ### The document's -/
theorem ix_str (s : ByteArray) (pre r : List UInt8) (c : UInt8) (e : tx s = pre ++ c :: r) : ixA (S s) (I pre.length) = some (byteA c) := ixS s pre r c e
/-- a text in quotes, or too long -/
def quoteP (s : ByteArray) : AV := if 256 < s.size then .tup [S e0, I 2] else .tup [strT (quoteT (tx s)), I 0]
/-! ### The program's -/
theorem app_b {H0 H : Heap} {sz : Nat} {nil : Bool} {tip : Tip} {t ys : List UInt8} {x : AV} {K : Post} (he : HExt H0 H) (ho : OwnS H0 H 1 t.length tip) (hs : nil = true ∨ sz = 1) (ht : tailA 1 x = some (ys.map byteA))
    (hl : t.length + ys.length ≤ 140737488355328)
    (hk : ∀ sz' nil' tip' H', (nil' = true ∨ sz' = 1) → OwnS H0 H' 1 (t ++ ys).length tip' → HExt H0 H' → H'.objs = H.objs → K (.sl sz' nil' tip' ((t ++ ys).map byteA)) H') :
    appB 5 (.sl sz nil tip (t.map byteA)) x H K := by
  unfold appB
  simp only [ht]
  cases ys with
  | nil =>
    have := hk sz nil tip H hs (by simpa using ho) he rfl
    simpa using this
  | cons y ys =>
    have hnew : ∀ c, H.fresh c → K (.sl 1 false (.tip c) ((t ++ y :: ys).map byteA)) ((H.setTip c (t.length + (y :: ys).length)).setTy c 5) := fun c hc => by
      refine hk 1 false _ _ (.inr rfl) ⟨by simp [Heap.setTip, Heap.setTy], he.fresh hc⟩ ((he.setTip (he.fresh hc) _).setTy (he.fresh hc) _) rfl
    have e1 : t.map byteA ++ (y :: ys).map byteA = (t ++ y :: ys).map byteA := by simp
    have e2 : (t.map byteA).length = t.length := by simp
    have e3 : ((y :: ys).map byteA).length = (y :: ys).length := by simp
    simp only [List.map_cons] at e1 e3 ⊢
    simp only [e2, e3, e1]
    refine ⟨hs, hl, hnew, ?_⟩
    cases tip with
    | any => exact ho.elim
    | full => trivial
    | tip c =>
      obtain ⟨h1, h2⟩ := ho
      refine ⟨by simpa using h1, ?_⟩
      exact hk 1 false _ _ (.inr rfl) ⟨by simp [Heap.setTip], h2⟩ (he.setTip h2 _) rfl
theorem c84 (H : Heap) (Q : Post) (hq : ∀ H', HExt H H' → Q (.agg hexC) H') : E 84 [] H Q := by
  rw [f84_eq]
  intro b hb
  have e1 : HExt H (H.setObj b (.cells (zero8 16))) := (HExt.refl H).setObj hb _
  have o1 : (H.setObj b (.cells (zero8 16))).objs b = some (.cells (zero8 16)) := setObj_same _ _ _
  have hb' : bldA [(0, 1, U8 48), (1, 1, U8 49), (2, 1, U8 50), (3, 1, U8 51), (4, 1, U8 52), (5, 1, U8 53), (6, 1, U8 54), (7, 1, U8 55), (8, 1, U8 56), (9, 1, U8 57), (10, 1, U8 97), (11, 1, U8 98), (12, 1, U8 99), (13, 1, U8 100), (14, 1, U8 101), (15, 1, U8 102)]
    [U8 0, U8 0, U8 0, U8 0, U8 0, U8 0, U8 0, U8 0, U8 0, U8 0, U8 0, U8 0, U8 0, U8 0, U8 0, U8 0] = some (.agg hexC) := rfl
  rw [hb', ob_some]
  have hs := st_agg o1 (xs := hexC) rfl 16 rfl
  refine (?_ : ob (stH (H.setObj b (.cells (zero8 16))) 16 (Pt b) (.agg hexC)) fun H4 => ob (ldH H4 true 16 (Pt b)) fun r5 => Q r5 H4)
  rw [hs, ob_some, ld_agg (setObj_same _ _ _) 16 rfl, ob_some]
  exact hq _ (e1.setObj hb _)
/-! ### Values -/
def valT (v : Vl) : List UInt8 :=
  if v.k = 0 then [78, 85, 76, 76] else if v.k = 1 then (if v.n = 1 then [84, 82, 85, 69] else [70, 65, 76, 83, 69]) else if v.k = 2 then numT v.n else quoteT (tx v.s)
theorem valT_len {v : Vl} (hv : vr v) (hr : rightV v = true) : (valT v).length ≤ 1026 := by
  simp only [valT]
  split
  · simp
  · split
    · split <;> simp
    · split
      · have := numT_len hv; omega
      · rename_i h0 h1 h2
        have := quoteT_len (tx v.s)
        have hs : (tx v.s).length = v.s.size := size_list v.s
        rw [rightV_eq hv, if_neg h0, if_neg h1, if_neg h2] at hr
        split at hr
        · simp at hr; omega
        · cases hr
theorem x20 (a b : AV) : extractA (.tup [a, b]) 0 = some a := rfl
theorem x21 (a b : AV) : extractA (.tup [a, b]) 1 = some b := rfl
end Go.Hx
namespace Go.Hx
/-- how loose a condition is -/
def numK (x : Ex) : Bool := decide (x.k = 1) && decide (x.v.k = 2)
def levelX (x : Ex) : Int :=
  if x.k = 17 then 1 else if x.k = 16 then 2 else if x.k = 15 then 3 else if 9 ≤ x.k then 4 else if 6 ≤ x.k then 6 else if 4 ≤ x.k then 5 else if x.k = 3 then 7
  else if numK x && decide (x.v.n < 0) then 7 else 8
def parT (x : Ex) (t : List UInt8) (need : Int) : List UInt8 := if need ≤ levelX x then t else 40 :: (t ++ [41])
def joinR (sep : List UInt8) (need : Int) : List (Ex × List UInt8) → List UInt8
  | [] => []
  | p :: r => sep ++ (parT p.1 p.2 need ++ joinR sep need r)
def joinT (sep : List UInt8) (need : Int) : List (Ex × List UInt8) → List UInt8
  | [] => []
  | p :: r => parT p.1 p.2 need ++ joinR sep need r
def signL : List ByteArray := [⟨#[43]⟩, ⟨#[45]⟩, ⟨#[42]⟩, ⟨#[47]⟩, ⟨#[37]⟩, ⟨#[61]⟩, ⟨#[60, 62]⟩, ⟨#[60]⟩, ⟨#[60, 61]⟩, ⟨#[62]⟩, ⟨#[62, 61]⟩]
def opS (j : Nat) : ByteArray := signL.getD j e0
def sOR : List UInt8 := [32, 79, 82, 32]
def sAND : List UInt8 := [32, 65, 78, 68, 32]
def sNOT : List UInt8 := [78, 79, 84, 32]
def numP (y : Ex) : Bool := numK y && decide (0 ≤ y.v.n)
def need1 (k : Int) : Int := if 9 ≤ k then 5 else if 6 ≤ k then 6 else 5
def need2 (k : Int) : Int := if 9 ≤ k then 5 else if 6 ≤ k then 7 else 6
def bodyT (k : Int) (v : Vl) (var fld : ByteArray) (ps : List (Ex × List UInt8)) : List UInt8 :=
  if k = 1 then valT v else if k = 2 then tx var ++ (46 :: tx fld)
  else if k = 3 then (match ps with
    | p :: _ => 45 :: (if numP p.1 = true then 40 :: (parT p.1 p.2 1 ++ [41]) else parT p.1 p.2 7)
    | [] => [])
  else if k = 17 then joinT sOR 2 ps
  else if k = 16 then joinT sAND 3 ps
  else if k = 15 then (match ps with
    | p :: _ => sNOT ++ parT p.1 p.2 3
    | [] => [])
  else (match ps with
    | p :: q :: _ => parT p.1 p.2 (need1 k) ++ ((32 :: (tx (opS (k - 4).toNat) ++ [32])) ++ parT q.1 q.2 (need2 k))
    | _ => [])
mutual
def bareT : Ex → List UInt8
  | .mk k v var fld _ _ _ l => bodyT k v var fld (bareTs l)
def bareTs : List Ex → List (Ex × List UInt8)
  | [] => []
  | x :: r => (x, bareT x) :: bareTs r
end
theorem bareT_eq (x : Ex) : bareT x = bodyT x.k x.v x.var x.fld (bareTs x.l) := by cases x; simp [bareT, Ex.k, Ex.v, Ex.var, Ex.fld, Ex.l]
theorem bareTs_map (l : List Ex) : bareTs l = l.map fun y => (y, bareT y) := by
  induction l with
  | nil => simp [bareTs]
  | cons x r ih => simp [bareTs, ih]
def exprT (x : Ex) (need : Int) : List UInt8 := parT x (bareT x) need
theorem parT_len (x : Ex) (t : List UInt8) (need : Int) : (parT x t need).length ≤ t.length + 2 := by
  simp only [parT]
  split <;> simp
theorem sign_len (j : Nat) : (tx (opS j)).length ≤ 2 := by
  match j with
  | 0 | 1 | 2 | 3 | 4 | 5 | 6 | 7 | 8 | 9 | 10 => simp [opS, signL, tx]
  | n + 11 => simp [opS, signL, tx]
theorem name_len {s : ByteArray} (h : nameL s.data.toList = true) : (tx s).length ≤ 32 := by
  cases hs : s.data.toList with
  | nil => rw [hs] at h; cases h
  | cons c r =>
    rw [hs] at h
    simp only [nameL, Bool.and_eq_true, decide_eq_true_eq] at h
    simp only [tx, hs]; omega
theorem bare_len (x : Ex) (hv : allX vX x) (hr : allR x = true) : (bareT x).length + 10 ≤ 1100 * sizeX x := by
  induction x using Ex.ind with
  | h x ih =>
    rw [allX_eq] at hv
    rw [allR_eq, Bool.and_eq_true] at hr
    have hch : ∀ y ∈ x.l, (bareT y).length + 10 ≤ 1100 * sizeX y := fun y hy => ih y hy (allXs_mem hv.2 hy) (allRs_mem hr.2 hy)
    have hsum : ∀ (r : List Ex) (sep : List UInt8) (need : Int), sep.length ≤ 5 → (∀ y ∈ r, y ∈ x.l) → (joinR sep need (bareTs r)).length ≤ 1100 * sizeXs r := by
      intro r sep need hsep
      induction r with
      | nil => intro _; simp [bareTs, joinR]
      | cons y r ihr =>
        intro hy
        have h1 := hch y (hy y (by simp))
        have h2 := ihr (fun z hz => hy z (by simp [hz]))
        have h3 := parT_len y (bareT y) need
        simp only [bareTs, joinR, sizeXs, List.length_append]
        omega
    have hjoin : ∀ (sep : List UInt8) (need : Int), sep.length ≤ 5 → (joinT sep need (bareTs x.l)).length ≤ 1100 * sizeXs x.l + 10 := by
      intro sep need hsep
      cases hl : x.l with
      | nil => simp [bareTs, joinT]
      | cons y r =>
        have h1 := hch y (by rw [hl]; simp)
        have h2 := hsum r sep need hsep (fun z hz => by rw [hl]; simp [hz])
        have h3 := parT_len y (bareT y) need
        simp only [bareTs, joinT, sizeXs, List.length_append]
        omega
    rw [bareT_eq, sizeX_eq]
    unfold bodyT
    split
    · rename_i hk
      have : rightV x.v = true := by
        have := hr.1
        simp only [rightP, hk, if_true, Bool.and_eq_true] at this
        exact this.2.1
      have := valT_len hv.1 this
      omega
    · split
      · rename_i h1 hk
        have hn : nameL x.var.data.toList = true ∧ nameL x.fld.data.toList = true := by
          have := hr.1
          simp only [rightP, h1, hk, if_false, if_true, Bool.and_eq_true] at this
          have h' := this
          simp only [show ¬ ((2 : Int) = 1) by omega, if_false, Bool.and_eq_true] at h'
          exact h'.2.2
        have a1 := name_len hn.1
        have a2 := name_len hn.2
        simp only [List.length_append, List.length_cons]
        omega
      · split
        · cases hl : x.l with
          | nil => simp [bareTs, sizeXs]
          | cons y r =>
            have h1 := hch y (by rw [hl]; simp)
            have h3 := parT_len y (bareT y) 1
            have h4 := parT_len y (bareT y) 7
            simp only [bareTs, sizeXs]
            split <;> simp only [List.length_cons, List.length_append, List.length_nil] <;> omega
        · split
          · have := hjoin sOR 2 (by simp [sOR]); omega
          · split
            · have := hjoin sAND 3 (by simp [sAND]); omega
            · split
              · cases hl : x.l with
                | nil => simp [bareTs, sizeXs]
                | cons y r =>
                  have h1 := hch y (by rw [hl]; simp)
                  have h3 := parT_len y (bareT y) 3
                  simp only [bareTs, sizeXs, sNOT, List.length_cons, List.length_append, List.length_nil]; omega
              · cases hl : x.l with
                | nil => simp [bareTs, sizeXs]
                | cons y r =>
                  cases hr2 : r with
                  | nil => simp [bareTs, sizeXs]; omega
                  | cons z r2 =>
                    have h1 := hch y (by rw [hl]; simp)
                    have h2 := hch z (by rw [hl, hr2]; simp)
                    have h3 := parT_len y (bareT y) (need1 x.k)
                    have h4 := parT_len z (bareT z) (need2 x.k)
                    have h5 := sign_len (x.k - 4).toNat
                    simp only [bareTs, sizeXs, List.length_cons, List.length_append, List.length_nil]; omega
theorem expr_len (x : Ex) (hv : allX vX x) (hr : allR x = true) (need : Int) : (exprT x need).length + 8 ≤ 1100 * sizeX x := by
  have h1 := bare_len x hv hr
  have h2 := parT_len x (bareT x) need
  simp only [exprT]; omega
/-! ### Levels -/
theorem partV1 (x : Ex) : (encC x)[1]? = some (I x.v.k) := by rw [encC_eq]; rfl
theorem partV2 (x : Ex) : (encC x)[2]? = some (I x.v.n) := by rw [encC_eq]; rfl
/-- a node that may be is of one of these kinds -/
theorem right_k {x : Ex} (h : rightP x = true) : 1 ≤ x.k ∧ x.k ≤ 17 := by
  simp only [rightP] at h
  split at h
  · omega
  · split at h
    · omega
    · split at h
      · cases h
      · split at h
        · omega
        · split at h
          · omega
          · simp [isRowP] at h; omega
theorem strT_tx (s : ByteArray) : S s = strT (tx s) := rfl
end Go.Hx
namespace Go.Hx
/-! ### Tokens -/
def uppI (r : Int) : Bool := decide (65 ≤ r) && decide (r ≤ 90)
def uppB (c : UInt8) : Bool := uppI c.toNat
def digB (c : UInt8) : Bool := digI c.toNat
def blankI (r : Int) : Bool := decide (r = 32) || (decide (r = 9) || decide (r = 10))
def blankB (c : UInt8) : Bool := blankI c.toNat
abbrev bs (l : List UInt8) : ByteArray := ⟨l.toArray⟩
structure Tk where
  k : Int
  s : ByteArray
  p : Nat
def encK (t : Tk) : AV := .agg [I t.k, S t.s, I t.p]
/-- what a digit of base 16 is worth -/
def hexN (n : Nat) : Option Nat := if 48 ≤ n ∧ n ≤ 57 then some (n - 48) else if 97 ≤ n ∧ n ≤ 102 then some (n - 87) else none
def hexV (c : UInt8) : Option Nat := hexN c.toNat
inductive UQ where
  | ok (s : List UInt8) (n : Nat)
  | bad (n : Nat) (e : Int)
inductive ER where
  | ok (c : UInt8) (n : Nat)
  | bad (q : Nat)
/-- two digits of base 16 -/
def hexR (p : Nat) : List UInt8 → ER
  | [] => .bad p
  | x :: r => match hexV x with
    | none => .bad p
    | some a => match r with
      | [] => .bad (p + 1)
      | y :: _ => match hexV y with
        | none => .bad (p + 1)
        | some b => .ok (UInt8.ofNat (16 * a + b)) 2
/-- what an escape says: its sign stands at a place -/
def escR (p : Nat) : List UInt8 → ER
  | [] => .bad (p + 1)
  | d :: r =>
    if d.toNat = 39 ∨ d.toNat = 92 then .ok d 2
    else if d.toNat ≠ 120 then .bad (p + 1)
    else match hexR (p + 2) r with
      | .bad q => .bad q
      | .ok c _ => if plainB c = true then .bad p else .ok c 4
/-- what is quoted, from a place on -/
def unqF (p : Nat) (out : List UInt8) : List UInt8 → UQ
  | [] => .bad p 4
  | c :: r =>
    if c.toNat = 39 then (if 256 < out.length then .bad 0 2 else .ok out (p + 1))
    else if c.toNat = 92 then match escR p r with
      | .bad q => .bad q 4
      | .ok d n => unqF (p + n) (out ++ [d]) (r.drop (n - 1))
    else if plainB c = true then unqF (p + 1) (out ++ [c]) r
    else .bad p 4
termination_by r => r.length
decreasing_by all_goals (simp_wf; try omega)
def unq : List UInt8 → UQ
  | [] => .bad 0 4
  | c :: r => if c.toNat = 39 then unqF 1 [] r else .bad 0 4
def signW : List (List UInt8) := [[60, 61], [62, 61], [60, 62], [45, 62], [40], [41], [44], [46], [43], [45], [42], [47], [37], [61], [60], [62], [33], [124], [123], [125], [91], [93]]
def pre? (r w : List UInt8) : Bool := decide (w.length ≤ r.length) && decide (r.take w.length = w)
inductive L1 where
  | tok (k : Int) (s : List UInt8) (n : Nat)
  | bad (n : Nat) (e : Int)
def wordT (k : Int) (p : UInt8 → Bool) (r : List UInt8) : L1 :=
  if 32 < (r.takeWhile p).length then .bad 0 4 else .tok k (r.takeWhile p) (r.takeWhile p).length
def intT (r : List UInt8) : L1 :=
  if 19 < (r.takeWhile digB).length ∨ (1 < (r.takeWhile digB).length ∧ r.head?.map (·.toNat) = some 48) then .bad 0 4 else .tok 3 (r.takeWhile digB) (r.takeWhile digB).length
def signF (r : List UInt8) : L1 :=
  match signW.find? (pre? r) with
  | none => .bad 0 4
  | some w => .tok 5 w w.length
/-- the token that begins a text -/
def lex1 (r : List UInt8) : L1 :=
  match r with
  | [] => .bad 0 4
  | c :: _ =>
    if c.toNat = 39 then match unq r with
      | .ok s n => .tok 4 s n
      | .bad n e => .bad n e
    else if uppB c = true then wordT 1 uppB r
    else if lowB c = true then wordT 2 signB r
    else if digB c = true then intT r
    else signF r
/-- all tokens from a place on -/
def lexW (p : Nat) : List UInt8 → Except (Nat × Int) (List Tk)
  | [] => .ok [⟨6, e0, p⟩]
  | c :: r =>
    if blankB c = true then lexW (p + 1) r
    else match lex1 (c :: r) with
      | .bad n e => .error (p + n, e)
      | .tok k w n => match lexW (p + n) (r.drop (n - 1)) with
        | .error e => .error e
        | .ok l => .ok (⟨k, bs w, p⟩ :: l)
termination_by r => r.length
decreasing_by all_goals (simp_wf; try omega)
def lexA (s : ByteArray) : Except (Nat × Int) (List Tk) := if 8192 < s.size then .error (0, 2) else lexW 0 (tx s)
/-- tokens end with an end -/
def endsT : List Tk → Prop
  | [] => False
  | [t] => t.k = 6
  | t :: r => t.k ≠ 6 ∧ endsT r
theorem endsT_cons {t u : Tk} {r : List Tk} : endsT (t :: u :: r) ↔ t.k ≠ 6 ∧ endsT (u :: r) := Iff.rfl
theorem endsT_ne {r : List Tk} (h : endsT r) : r ≠ [] := fun e => by subst e; exact h
/-- behind what is no end, more comes -/
theorem endsT_tail {t : Tk} {r : List Tk} (h : endsT (t :: r)) (hk : t.k ≠ 6) : endsT r := by
  cases r with
  | nil => exact (hk h).elim
  | cons u r => exact h.2
theorem hexR_len {p : Nat} {r : List UInt8} {c : UInt8} {n : Nat} (h : hexR p r = .ok c n) : n = 2 ∧ 2 ≤ r.length := by
  cases r with
  | nil => cases h
  | cons x r =>
    simp only [hexR] at h
    split at h
    · cases h
    · cases r with
      | nil => cases h
      | cons y r =>
        simp only at h
        split at h
        · cases h
        · cases h; exact ⟨rfl, by simp⟩
theorem escR_len {p : Nat} {r : List UInt8} {c : UInt8} {n : Nat} (h : escR p r = .ok c n) : 2 ≤ n ∧ n ≤ r.length + 1 := by
  cases r with
  | nil => cases h
  | cons d r =>
    simp only [escR] at h
    split at h
    · cases h; exact ⟨by omega, by simp⟩
    · split at h
      · cases h
      · split at h
        · cases h
        · rename_i h1
          split at h
          · cases h
          · cases h
            have := hexR_len h1
            exact ⟨by omega, by simp; omega⟩
theorem unqF_len : ∀ (m p : Nat) (out r : List UInt8), r.length ≤ m → ∀ s n, unqF p out r = .ok s n → s.length ≤ 256 ∧ p < n ∧ n ≤ p + r.length := by
  intro m
  induction m with
  | zero =>
    intro p out r hr s n h
    cases r with
    | nil => rw [unqF] at h; cases h
    | cons c r => simp at hr
  | succ m ih =>
    intro p out r hr s n h
    cases r with
    | nil => rw [unqF] at h; cases h
    | cons c r =>
      rw [unqF.eq_def] at h
      simp only [List.length_cons] at hr h ⊢
      split at h
      · split at h
        · cases h
        · rename_i h1; cases h; omega
      · split at h
        · split at h
          · cases h
          · rename_i d k hd
            have h1 := escR_len hd
            have := ih _ _ (r.drop (k - 1)) (by simp; omega) _ _ h
            simp only [List.length_drop] at this; omega
        · split at h
          · have := ih _ _ r (by omega) _ _ h; omega
          · cases h
/-! ### Conditions -/
def nextIs (k : Int) (s : ByteArray) : List Tk → Bool
  | [] => false
  | t :: _ => decide (t.k = k) && decide (t.s = s)
def posn : List Tk → Nat
  | [] => 0
  | t :: _ => t.p
def kindN : List Tk → Int
  | [] => 6
  | t :: _ => t.k
def nd (k : Int) (v : Vl) (var fld : ByteArray) (l : List Ex) : Ex := .mk k v var fld 0 true .any l
mutual
/-- a node, but for how its slices lie -/
def norm : Ex → Ex
  | .mk k v var fld _ _ _ l => nd k v var fld (norms l)
def norms : List Ex → List Ex
  | [] => []
  | x :: r => norm x :: norms r
end
theorem norms_map (l : List Ex) : norms l = l.map norm := by
  induction l with
  | nil => simp [norms]
  | cons x r ih => simp [norms, ih]
theorem norm_eq (x : Ex) : norm x = nd x.k x.v x.var x.fld (x.l.map norm) := by
  cases x; simp [norm, norms_map, Ex.k, Ex.v, Ex.var, Ex.fld, Ex.l]
theorem norm_mk (k : Int) (v : Vl) (var fld : ByteArray) (sz : Nat) (nil : Bool) (tip : Tip) (l : List Ex) : norm (.mk k v var fld sz nil tip l) = nd k v var fld (l.map norm) := norm_eq _
def partsJ (k : Int) (l : List Ex) : List Ex := l.flatMap fun x => if x.k = k then x.l else [x]
def joinE (k : Int) (l : List Ex) : Ex :=
  match partsJ k l with
  | [] => nd 1 (boolV (decide (k = 16))) e0 e0 []
  | [x] => x
  | out => nd k nullV e0 e0 out
def opI (lo hi : Int) (s : ByteArray) : Nat → Nat → Option Int
  | 0, _ => none
  | m + 1, j => if lo ≤ (j : Int) + 4 ∧ (j : Int) + 4 ≤ hi ∧ s = opS j then some ((j : Int) + 4) else opI lo hi s m (j + 1)
/-- the kind of the sign that is next, if it is from one to another -/
def opOf (lo hi : Int) : List Tk → Option Int
  | [] => none
  | t :: _ => if t.k = 5 then opI lo hi t.s 11 0 else none
/-- what digits are worth -/
def valD (l : List UInt8) : Nat := l.foldl (fun n c => 10 * n + (c.toNat - 48)) 0
def numOf (minus : Bool) (s : ByteArray) : Option Int :=
  if minus = true then (if valD (tx s) ≤ 9223372036854775808 then some (-(valD (tx s) : Int)) else none)
  else if valD (tx s) ≤ 9223372036854775807 then some (valD (tx s) : Int) else none
inductive PR where
  | ok (x : Ex) (r : List Tk)
  | bad (e : Int) (p : Nat)
def numR (minus : Bool) : List Tk → PR
  | [] => .bad 4 0
  | t :: r => match numOf minus t.s with
    | none => .bad 4 t.p
    | some n => .ok (nd 1 (intV n) e0 e0 []) r
def textV (s : ByteArray) : Vl := ⟨3, 0, s⟩
def fieldR (v : ByteArray) (r : List Tk) : PR :=
  if nextIs 5 ⟨#[46]⟩ r = true then match r.tail with
    | [] => .bad 4 0
    | t :: r2 => if t.k = 2 then .ok (nd 2 nullV v t.s []) r2 else .bad 4 t.p
  else .bad 4 (posn r)
def sTRUE : ByteArray := ⟨#[84, 82, 85, 69]⟩
def sFALSE : ByteArray := ⟨#[70, 65, 76, 83, 69]⟩
def sNULL : ByteArray := ⟨#[78, 85, 76, 76]⟩
def wordV (s : ByteArray) : Option Vl := if s = sTRUE then some (boolV true) else if s = sFALSE then some (boolV false) else if s = sNULL then some nullV else none
/-- what is no part in parentheses -/
def atomR : List Tk → PR
  | [] => .bad 4 0
  | t :: r =>
    if t.k = 3 then numR false (t :: r)
    else if t.k = 4 then .ok (nd 1 (textV t.s) e0 e0 []) r
    else if t.k = 2 then fieldR t.s r
    else if t.k = 1 then match wordV t.s with
      | some v => .ok (nd 1 v e0 e0 []) r
      | none => .bad 4 t.p
    else .bad 4 t.p
inductive Gl where
  | row (b : Bool)
  | more (b : Bool) (l : List Ex)
  | not
  | cmp
  | left (b : Bool)
  | lmore (b : Bool) (x : Ex)
  | neg
  | last
def rowK (b : Bool) : Int := if b = true then 17 else 16
def rowW (b : Bool) : ByteArray := if b = true then ⟨#[79, 82]⟩ else ⟨#[65, 78, 68]⟩
def rowP (b : Bool) : Gl := if b = true then .row false else .not
def leftP (b : Bool) : Gl := if b = true then .left false else .neg
def leftLo (b : Bool) : Int := if b = true then 4 else 6
def leftHi (b : Bool) : Int := if b = true then 5 else 8
def wNOT : ByteArray := ⟨#[78, 79, 84]⟩
def wMinus : ByteArray := ⟨#[45]⟩
def wOpen : ByteArray := ⟨#[40]⟩
def wShut : ByteArray := ⟨#[41]⟩
/-- what is read: so many are open, so much is left -/
inductive P : Gl → Nat → List Tk → PR → Prop
  | row_bad {b o r e p} : P (rowP b) o r (.bad e p) → P (.row b) o r (.bad e p)
  | row_ok {b o r x r1 R} : P (rowP b) o r (.ok x r1) → P (.more b [x]) o r1 R → P (.row b) o r R
  | more_no {b l o r} : nextIs 1 (rowW b) r = false → P (.more b l) o r (.ok (joinE (rowK b) l) r)
  | more_bad {b l o t r e p} : nextIs 1 (rowW b) (t :: r) = true → P (rowP b) o r (.bad e p) → P (.more b l) o (t :: r) (.bad e p)
  | more_ok {b l o t r x r1 R} : nextIs 1 (rowW b) (t :: r) = true → P (rowP b) o r (.ok x r1) → P (.more b (l ++ [x])) o r1 R → P (.more b l) o (t :: r) R
  | not_no {o r R} : nextIs 1 wNOT r = false → P .cmp o r R → P .not o r R
  | not_long {o r} : nextIs 1 wNOT r = true → 200 ≤ o → P .not o r (.bad 2 (posn r))
  | not_bad {o t r e p} : nextIs 1 wNOT (t :: r) = true → o < 200 → P .not (o + 1) r (.bad e p) → P .not o (t :: r) (.bad e p)
  | not_ok {o t r x r1} : nextIs 1 wNOT (t :: r) = true → o < 200 → P .not (o + 1) r (.ok x r1) → P .not o (t :: r) (.ok (nd 15 nullV e0 e0 [x]) r1)
  | cmp_bad {o r e p} : P (.left true) o r (.bad e p) → P .cmp o r (.bad e p)
  | cmp_no {o r x r1} : P (.left true) o r (.ok x r1) → opOf 9 14 r1 = none → P .cmp o r (.ok x r1)
  | cmp_bad2 {o r x t r1 k e p} : P (.left true) o r (.ok x (t :: r1)) → opOf 9 14 (t :: r1) = some k → P (.left true) o r1 (.bad e p) → P .cmp o r (.bad e p)
  | cmp_ok {o r x t r1 k y r2} : P (.left true) o r (.ok x (t :: r1)) → opOf 9 14 (t :: r1) = some k → P (.left true) o r1 (.ok y r2) → P .cmp o r (.ok (nd k nullV e0 e0 [x, y]) r2)
  | left_bad {b o r e p} : P (leftP b) o r (.bad e p) → P (.left b) o r (.bad e p)
  | left_ok {b o r x r1 R} : P (leftP b) o r (.ok x r1) → P (.lmore b x) o r1 R → P (.left b) o r R
  | lmore_no {b x o r} : opOf (leftLo b) (leftHi b) r = none → P (.lmore b x) o r (.ok x r)
  | lmore_bad {b x o t r k e p} : opOf (leftLo b) (leftHi b) (t :: r) = some k → P (leftP b) o r (.bad e p) → P (.lmore b x) o (t :: r) (.bad e p)
  | lmore_ok {b x o t r k y r1 R} : opOf (leftLo b) (leftHi b) (t :: r) = some k → P (leftP b) o r (.ok y r1) → P (.lmore b (nd k nullV e0 e0 [x, y])) o r1 R → P (.lmore b x) o (t :: r) R
  | neg_no {o r R} : nextIs 5 wMinus r = false → P .last o r R → P .neg o r R
  | neg_num {o t r} : nextIs 5 wMinus (t :: r) = true → kindN r = 3 → P .neg o (t :: r) (numR true r)
  | neg_long {o t r} : nextIs 5 wMinus (t :: r) = true → kindN r ≠ 3 → 200 ≤ o → P .neg o (t :: r) (.bad 2 t.p)
  | neg_bad {o t r e p} : nextIs 5 wMinus (t :: r) = true → kindN r ≠ 3 → o < 200 → P .neg (o + 1) r (.bad e p) → P .neg o (t :: r) (.bad e p)
  | neg_ok {o t r x r1} : nextIs 5 wMinus (t :: r) = true → kindN r ≠ 3 → o < 200 → P .neg (o + 1) r (.ok x r1) → P .neg o (t :: r) (.ok (nd 3 nullV e0 e0 [x]) r1)
  | last_atom {o r} : nextIs 5 wOpen r = false → P .last o r (atomR r)
  | last_long {o r} : nextIs 5 wOpen r = true → 200 ≤ o → P .last o r (.bad 2 (posn r))
  | last_bad {o t r e p} : nextIs 5 wOpen (t :: r) = true → o < 200 → P (.row true) (o + 1) r (.bad e p) → P .last o (t :: r) (.bad e p)
  | last_open {o t r x r1} : nextIs 5 wOpen (t :: r) = true → o < 200 → P (.row true) (o + 1) r (.ok x r1) → nextIs 5 wShut r1 = false → P .last o (t :: r) (.bad 4 (posn r1))
  | last_ok {o t r x u r1} : nextIs 5 wOpen (t :: r) = true → o < 200 → P (.row true) (o + 1) r (.ok x (u :: r1)) → nextIs 5 wShut (u :: r1) = true → P .last o (t :: r) (.ok x r1)
def rank : Gl → Nat
  | .row true => 9
  | .row false => 8
  | .not => 7
  | .cmp => 6
  | .left true => 5
  | .left false => 4
  | .neg => 3
  | .last => 2
  | _ => 1
theorem nextIs_ne {k : Int} {s : ByteArray} {r : List Tk} (h : nextIs k s r = true) : ∃ t r1, r = t :: r1 ∧ t.k = k ∧ t.s = s := by
  cases r with
  | nil => simp [nextIs] at h
  | cons t r => simp only [nextIs, Bool.and_eq_true, decide_eq_true_eq] at h; exact ⟨t, r, rfl, h.1, h.2⟩
theorem opOf_ne {lo hi k : Int} {r : List Tk} (h : opOf lo hi r = some k) : ∃ t r1, r = t :: r1 ∧ t.k = 5 := by
  cases r with
  | nil => simp [opOf] at h
  | cons t r =>
    simp only [opOf] at h
    split at h
    · exact ⟨t, r, rfl, by assumption⟩
    · cases h
/-- what is left of something read -/
def Left (r : List Tk) : PR → Prop
  | .ok _ r1 => endsT r1 ∧ r1.length ≤ r.length
  | .bad _ _ => True
theorem numR_left {m : Bool} {r : List Tk} (h : endsT r) (hk : kindN r = 3) : Left r (numR m r) := by
  cases r with
  | nil => exact h.elim
  | cons t r =>
    simp only [numR]
    split
    · trivial
    · exact ⟨endsT_tail h (by simp only [kindN] at hk; omega), by simp⟩
theorem atomR_left {r : List Tk} (h : endsT r) : Left r (atomR r) := by
  cases r with
  | nil => exact h.elim
  | cons t r =>
    simp only [atomR]
    split
    · exact numR_left h (by simpa [kindN])
    · rename_i h3
      split
      · rename_i h4; exact ⟨endsT_tail h (by omega), by simp⟩
      · split
        · rename_i h2
          have ht := endsT_tail h (by omega : t.k ≠ 6)
          simp only [fieldR]
          split
          · rename_i hn
            obtain ⟨u, r1, rfl, hu, _⟩ := nextIs_ne hn
            have ht1 := endsT_tail ht (by omega : u.k ≠ 6)
            simp only [List.tail_cons]
            split
            · trivial
            · rename_i v r2
              split
              · exact ⟨endsT_tail ht1 (by omega), by simp; omega⟩
              · trivial
          · trivial
        · split
          · split
            · exact ⟨endsT_tail h (by omega), by simp⟩
            · trivial
          · trivial
/-- something is read of all tokens -/
theorem P_total : ∀ (n : Nat) (g : Gl) (o : Nat) (r : List Tk), 20 * r.length + rank g ≤ n → endsT r → ∃ R, P g o r R ∧ Left r R := by
  intro n
  induction n with
  | zero => intro g o r hn; cases g <;> simp [rank] at hn <;> (try split at hn) <;> omega
  | succ n ih =>
    intro g o r hn hr
    have step : ∀ (g' : Gl) (o' : Nat) (r' : List Tk), endsT r' → 20 * r'.length + rank g' < 20 * r.length + rank g → ∃ R, P g' o' r' R ∧ Left r' R := fun g' o' r' h1 h2 => ih g' o' r' (by omega) h1
    have rk : ∀ g, 1 ≤ rank g ∧ rank g ≤ 9 := fun g => by cases g <;> simp [rank] <;> split <;> omega
    have low : ∀ (g' : Gl) (o' : Nat) (r' : List Tk), endsT r' → r'.length < r.length → ∃ R, P g' o' r' R ∧ Left r' R := fun g' o' r' h1 h2 => step g' o' r' h1 (by have := rk g'; have := rk g; omega)
    cases g with
    | row b =>
      have hlt : rank (rowP b) < rank (.row b) := by cases b <;> simp [rowP, rank]
      have hm : ∀ l, rank (.more b l) < rank (.row b) := by intro l; cases b <;> simp [rank]
      obtain ⟨R, h1, h2⟩ := step (rowP b) o r hr (by omega)
      cases R with
      | bad e p => exact ⟨_, .row_bad h1, trivial⟩
      | ok x r1 =>
        obtain ⟨R, h3, h4⟩ := step (.more b [x]) o r1 h2.1 (by have := hm [x]; have := h2.2; omega)
        refine ⟨R, .row_ok h1 h3, ?_⟩
        cases R with
        | bad => trivial
        | ok => exact ⟨h4.1, Nat.le_trans h4.2 h2.2⟩
    | more b l =>
      cases hx : nextIs 1 (rowW b) r with
      | false => exact ⟨_, .more_no hx, hr, Nat.le_refl _⟩
      | true =>
        obtain ⟨t, r1, rfl, hk, _⟩ := nextIs_ne hx
        have ht := endsT_tail hr (by omega : t.k ≠ 6)
        obtain ⟨R, h1, h2⟩ := low (rowP b) o r1 ht (by simp)
        cases R with
        | bad e p => exact ⟨_, .more_bad hx h1, trivial⟩
        | ok x r2 =>
          have := h2.2
          obtain ⟨R, h3, h4⟩ := low (.more b (l ++ [x])) o r2 h2.1 (by simp; omega)
          refine ⟨R, .more_ok hx h1 h3, ?_⟩
          cases R with
          | bad => trivial
          | ok => exact ⟨h4.1, by have := h4.2; simp; omega⟩
    | not =>
      cases hx : nextIs 1 wNOT r with
      | false =>
        obtain ⟨R, h1, h2⟩ := step .cmp o r hr (by simp [rank])
        exact ⟨R, .not_no hx h1, h2⟩
      | true =>
        rcases Nat.lt_or_ge o 200 with ho | ho
        · obtain ⟨t, r1, rfl, hk, _⟩ := nextIs_ne hx
          have ht := endsT_tail hr (by omega : t.k ≠ 6)
          obtain ⟨R, h1, h2⟩ := low .not (o + 1) r1 ht (by simp)
          cases R with
          | bad e p => exact ⟨_, .not_bad hx ho h1, trivial⟩
          | ok x r2 => exact ⟨_, .not_ok hx ho h1, h2.1, by have := h2.2; simp; omega⟩
        · exact ⟨_, .not_long hx ho, trivial⟩
    | cmp =>
      obtain ⟨R, h1, h2⟩ := step (.left true) o r hr (by simp [rank])
      cases R with
      | bad e p => exact ⟨_, .cmp_bad h1, trivial⟩
      | ok x r1 =>
        cases hx : opOf 9 14 r1 with
        | none => exact ⟨_, .cmp_no h1 hx, h2⟩
        | some k =>
          obtain ⟨t, r2, rfl, hk⟩ := opOf_ne hx
          have ht := endsT_tail h2.1 (by omega : t.k ≠ 6)
          have := h2.2
          simp only [List.length_cons] at this
          obtain ⟨R, h3, h4⟩ := low (.left true) o r2 ht (by omega)
          cases R with
          | bad e p => exact ⟨_, .cmp_bad2 h1 hx h3, trivial⟩
          | ok y r3 => exact ⟨_, .cmp_ok h1 hx h3, h4.1, by have := h4.2; omega⟩
    | left b =>
      have hlt : rank (leftP b) < rank (.left b) := by cases b <;> simp [leftP, rank]
      have hm : ∀ x, rank (.lmore b x) < rank (.left b) := by intro l; cases b <;> simp [rank]
      obtain ⟨R, h1, h2⟩ := step (leftP b) o r hr (by omega)
      cases R with
      | bad e p => exact ⟨_, .left_bad h1, trivial⟩
      | ok x r1 =>
        obtain ⟨R, h3, h4⟩ := step (.lmore b x) o r1 h2.1 (by have := hm x; have := h2.2; omega)
        refine ⟨R, .left_ok h1 h3, ?_⟩
        cases R with
        | bad => trivial
        | ok => exact ⟨h4.1, Nat.le_trans h4.2 h2.2⟩
    | lmore b x =>
      cases hx : opOf (leftLo b) (leftHi b) r with
      | none => exact ⟨_, .lmore_no hx, hr, Nat.le_refl _⟩
      | some k =>
        obtain ⟨t, r1, rfl, hk⟩ := opOf_ne hx
        have ht := endsT_tail hr (by omega : t.k ≠ 6)
        obtain ⟨R, h1, h2⟩ := low (leftP b) o r1 ht (by simp)
        cases R with
        | bad e p => exact ⟨_, .lmore_bad hx h1, trivial⟩
        | ok y r2 =>
          have := h2.2
          obtain ⟨R, h3, h4⟩ := low (.lmore b (nd k nullV e0 e0 [x, y])) o r2 h2.1 (by simp; omega)
          refine ⟨R, .lmore_ok hx h1 h3, ?_⟩
          cases R with
          | bad => trivial
          | ok => exact ⟨h4.1, by have := h4.2; simp; omega⟩
    | neg =>
      cases hx : nextIs 5 wMinus r with
      | false =>
        obtain ⟨R, h1, h2⟩ := step .last o r hr (by simp [rank])
        exact ⟨R, .neg_no hx h1, h2⟩
      | true =>
        obtain ⟨t, r1, rfl, hk, _⟩ := nextIs_ne hx
        have ht := endsT_tail hr (by omega : t.k ≠ 6)
        rcases Decidable.em (kindN r1 = 3) with h3 | h3
        · refine ⟨_, .neg_num hx h3, ?_⟩
          have := numR_left (m := true) ht h3
          revert this
          cases numR true r1 with
          | bad => exact fun _ => trivial
          | ok => exact fun h => ⟨h.1, by have := h.2; simp; omega⟩
        · rcases Nat.lt_or_ge o 200 with ho | ho
          · obtain ⟨R, h1, h2⟩ := low .neg (o + 1) r1 ht (by simp)
            cases R with
            | bad e p => exact ⟨_, .neg_bad hx h3 ho h1, trivial⟩
            | ok x r2 => exact ⟨_, .neg_ok hx h3 ho h1, h2.1, by have := h2.2; simp; omega⟩
          · exact ⟨_, .neg_long hx h3 ho, trivial⟩
    | last =>
      cases hx : nextIs 5 wOpen r with
      | false => exact ⟨_, .last_atom hx, atomR_left hr⟩
      | true =>
        rcases Nat.lt_or_ge o 200 with ho | ho
        · obtain ⟨t, r1, rfl, hk, _⟩ := nextIs_ne hx
          have ht := endsT_tail hr (by omega : t.k ≠ 6)
          obtain ⟨R, h1, h2⟩ := low (.row true) (o + 1) r1 ht (by simp)
          cases R with
          | bad e p => exact ⟨_, .last_bad hx ho h1, trivial⟩
          | ok x r2 =>
            cases hy : nextIs 5 wShut r2 with
            | false => exact ⟨_, .last_open hx ho h1 hy, trivial⟩
            | true =>
              obtain ⟨u, r3, rfl, hu, _⟩ := nextIs_ne hy
              exact ⟨_, .last_ok hx ho h1 hy, endsT_tail h2.1 (by omega), by have := h2.2; simp at this; simp; omega⟩
        · exact ⟨_, .last_long hx ho, trivial⟩
end Go.Hx
namespace Go.Hx
/-! ### Texts, cut -/
theorem bs_tx (s : ByteArray) : bs (tx s) = s := by cases s; simp [tx]
theorem tx_bs (l : List UInt8) : tx (bs l) = l := by simp [tx]
theorem extract_bs (s : ByteArray) (i j : Nat) : s.extract i j = bs (((tx s).take j).drop i) := by
  have h : (s.extract i j).data = s.data.extract i j := by simp
  have : tx (s.extract i j) = ((tx s).take j).drop i := by
    show (s.extract i j).data.toList = _
    rw [h, Array.toList_extract, List.extract_eq_take_drop, List.take_drop]
    rcases Nat.le_total i j with hij | hij
    · rw [Nat.add_sub_cancel' hij]
    · have : i + (j - i) = i := by omega
      rw [this, List.drop_eq_nil_of_le (by simp; omega), List.drop_eq_nil_of_le (by simp; omega)]
  rw [← this, bs_tx]
theorem slS_from {s : ByteArray} {pre r : List UInt8} (e : tx s = pre ++ r) : sliceSA (S s) (some (I pre.length)) none = some (S (bs r)) := by
  have hs : (tx s).length = s.size := size_list s
  have hl : pre.length ≤ s.size := by rw [← hs, e]; simp
  have h0 : (0 : Int) ≤ pre.length ∧ (pre.length : Int) ≤ (s.size : Int) ∧ (s.size : Int) ≤ s.size := by omega
  simp only [sliceSA, S, intOfA, I, if_pos h0, Int.toNat_natCast, extract_bs]
  rw [← hs, List.take_length, e, List.drop_left]
theorem slS_mid {s : ByteArray} {pre r : List UInt8} (e : tx s = pre ++ r) {n : Nat} (hn : n ≤ r.length) : sliceSA (S s) (some (I pre.length)) (some (I ((pre.length + n : Nat) : Int))) = some (S (bs (r.take n))) := by
  have hs : (tx s).length = s.size := size_list s
  have hl : pre.length + n ≤ s.size := by rw [← hs, e, List.length_append]; omega
  have h0 : (0 : Int) ≤ pre.length ∧ (pre.length : Int) ≤ ((pre.length + n : Nat) : Int) ∧ ((pre.length + n : Nat) : Int) ≤ s.size := by omega
  simp only [sliceSA, S, intOfA, I, if_pos h0, Int.toNat_natCast, extract_bs]
  rw [e, List.take_append, List.take_of_length_le (by omega), List.drop_left, Nat.add_sub_cancel_left]
theorem slS_to {s : ByteArray} {n : Nat} (hn : n ≤ s.size) : sliceSA (S s) none (some (I n)) = some (S (bs ((tx s).take n))) := by
  have h0 : (0 : Int) ≤ 0 ∧ (0 : Int) ≤ (n : Int) ∧ (n : Int) ≤ s.size := by omega
  simp only [sliceSA, S, intOfA, I, if_pos h0, Int.toNat_natCast, extract_bs]
  rfl
theorem w64_nat {n : Nat} (h : n ≤ 1152921504606846976) : W64 (n : Int) = (n : Int) := w64_id (by omega) (by omega)
theorem w64_add {m n : Nat} (h : m + n ≤ 1152921504606846976) : W64 ((m : Int) + (n : Int)) = ((m + n : Nat) : Int) := by
  rw [w64_id (by omega) (by omega)]; omega
/-! ### Something that is read, up to a place -/
structure Sc (H0 : Heap) (T : Nat → Option Nat) (b : Nat) (s : ByteArray) (p : Nat) (H : Heap) : Prop where
  ext : HExt H0 H
  fr : H0.fresh b
  obj : H.objs b = some (.cells [S s, I p])
  tp : ∀ c n, T c = some n → H.tips c = some n
variable {T : Nat → Option Nat}
theorem Sc.mono {H0 H H' : Heap} {b p : Nat} {s : ByteArray} (h : Sc H0 T b s p H) (he : HExt H H') : Sc H0 T b s p H' :=
  ⟨h.ext.trans he, h.fr, he.obj h.obj, fun c n hc => by have := h.tp c n hc; rw [(he c (fun hf => by rw [hf.2] at this; cases this)).2.1]; exact this⟩
theorem Sc.set {H0 H : Heap} {b p : Nat} {s : ByteArray} (h : Sc H0 T b s p H) (q : Nat) : Sc H0 T b s q (H.setObj b (.cells [S s, I q])) := ⟨h.ext.setObj h.fr _, h.fr, setObj_same _ _ _, h.tp⟩
theorem Sc.ld0 {H0 H : Heap} {b p : Nat} {s : ByteArray} (h : Sc H0 T b s p H) : ldH H false 1 (Poff b 0) = some (S s) := by rw [ld_off h.obj]; rfl
theorem Sc.ld1 {H0 H : Heap} {b p : Nat} {s : ByteArray} (h : Sc H0 T b s p H) : ldH H false 1 (Poff b 1) = some (I p) := by rw [ld_off h.obj]; rfl
theorem Sc.st1 {H0 H : Heap} {b p : Nat} {s : ByteArray} (h : Sc H0 T b s p H) (q : Int) : stH H 1 (Poff b 1) (I q) = some (H.setObj b (.cells [S s, I q])) := by
  simp [stH, h.obj, sizedA, cellsA, spliceA, I]
/-- what a tip says -/
def tipT (n : Nat) : Tip → Nat → Option Nat
  | .tip c => fun x => if x = c then some n else none
  | _ => fun _ => none
theorem Sc.tip {H0 H : Heap} {b p : Nat} {s : ByteArray} {sz n : Nat} {tip : Tip} (h : Sc H0 T b s p H) (ho : OwnS H0 H sz n tip) : Sc H0 (tipT (n * sz) tip) b s p H :=
  ⟨h.ext, h.fr, h.obj, fun c m hc => by
    cases tip with
    | any => cases hc
    | full => cases hc
    | tip d =>
      simp only [tipT] at hc
      split at hc
      · rename_i e; subst e; cases hc; exact ho.1
      · cases hc⟩
theorem Sc.own {H0 H1 H : Heap} {b p : Nat} {s : ByteArray} {sz n : Nat} {tip : Tip} (h : Sc H0 (tipT (n * sz) tip) b s p H) (ho : OwnS H0 H1 sz n tip) : OwnS H0 H sz n tip := by
  cases tip with
  | any => exact ho
  | full => exact ho
  | tip d => exact ⟨h.tp d _ (by simp [tipT]), ho.2⟩
theorem sc_new {H0 H : Heap} {s : ByteArray} (q : Nat) (he : HExt H0 H) {K : AV → Heap → Prop} (hk : ∀ b H', Sc H0 (fun _ => none) b s q H' → K (Pt b) H') : newH H [S s, I q] K := by
  intro b hb
  exact hk b _ ⟨he.setObj (he.fresh hb) _, he.fresh hb, setObj_same _ _ _, fun _ _ h => by cases h⟩
/-! ### Kinds of runes -/
theorem c29 (r : Int) (H : Heap) (Q : Post) : E 29 [R32 r] H Q = Q (B (uppI r)) H := by
  simp only [f29_eq, f29_j4_eq, k_geq, k_leq, ob_some, cnd_B, decide_eq_true_eq, uppI]
  split <;> rename_i h <;> simp only [h, decide_true, decide_false, Bool.true_and, Bool.false_and]
theorem c30 (r : Int) (H : Heap) (Q : Post) : E 30 [R32 r] H Q = Q (B (lowI r)) H := by
  simp only [f30_eq, f30_j4_eq, k_geq, k_leq, ob_some, cnd_B, decide_eq_true_eq, lowI]
  split <;> rename_i h <;> simp only [h, decide_true, decide_false, Bool.true_and, Bool.false_and]
theorem c31 (r : Int) (H : Heap) (Q : Post) : E 31 [R32 r] H Q = Q (B (digI r)) H := by
  simp only [f31_eq, f31_j4_eq, k_geq, k_leq, ob_some, cnd_B, decide_eq_true_eq, digI]
  split <;> rename_i h <;> simp only [h, decide_true, decide_false, Bool.true_and, Bool.false_and]
theorem c51 (r : Int) (H : Heap) (Q : Post) : E 51 [R32 r] H Q = Q (B (signI r)) H := by
  simp only [f51_eq, f51_j4_eq, c30, c31, k_eql, ob_some, cnd_B, signI]
  repeat' split
  all_goals simp_all
theorem c27 (c : UInt8) (H : Heap) (Q : Post) : E 27 [U8 c.toNat] H Q = Q (B (blankB c)) H := by
  simp only [f27_eq, f27_j4_eq, k_eql, ob_some, cnd_B, decide_eq_true_eq, blankB, blankI]
  repeat' split
  all_goals simp_all
/-! ### Runs of a kind -/
theorem tw_bad {p : UInt8 → Bool} {pre r : List UInt8} {c : UInt8} (h : pre.all p = true) (hc : p c = false) : ((pre ++ c :: r).takeWhile p).length = pre.length := by
  rw [List.takeWhile_append_of_pos (fun a ha => List.all_eq_true.1 h a ha)]; simp [hc]
theorem tw_all {p : UInt8 → Bool} {pre : List UInt8} (h : pre.all p = true) : (pre.takeWhile p).length = pre.length := by
  have := List.takeWhile_append_of_pos (l₂ := []) (fun a ha => List.all_eq_true.1 h a ha)
  simp only [List.append_nil, List.takeWhile_nil] at this
  rw [this]
theorem c50_l (g : AV) (pI : Int → Bool) (hg : ∀ (r : Int) (H : Heap) (K : Post), K (B (pI r)) H → callA (Ev Pg Hs) g [R32 r] H K) (hp : ∀ x : Int, 128 ≤ x → pI x = false)
    (H0 : Heap) (s : ByteArray) (b : Nat) (hb : H0.fresh b) (Q : Post) (hq : ∀ H', HExt H0 H' → Q (I ((tx s).takeWhile fun c => pI c.toNat).length) H') : ∀ (r pre : List UInt8) (H : Heap), tx s = pre ++ r → HExt H0 H →
    H.objs b = some (.siter s pre.length) → pre.all (fun c => pI c.toNat) = true → f50_l6 (S s) g (Pt b) H Q := by
  intro r
  induction r with
  | nil =>
    intro pre H e he hobj hall
    have hs : (tx s).length = s.size := size_list s
    have hlen : pre.length = s.size := by rw [← hs, e]; simp
    have hn : nextA (Pt b) H = fun K => K (.tup [B false]) H := by
      funext K; simp [nextA, Pt, hobj, hlen]
    have x0 : extractA (.tup [B false]) 0 = some (B false) := rfl
    rw [f50_l6_eq, hn]
    simp only [x0, ob_some, cnd_B, Bool.false_eq_true, if_false, len_S]
    have := hq H he
    rw [e, List.append_nil, tw_all hall, hlen] at this
    exact this
  | cons c r ih =>
    intro pre H e he hobj hall
    have hs : (tx s).length = s.size := size_list s
    have hlt : pre.length < s.size := by rw [← hs, e]; simp
    have hc : s[pre.length]'hlt = c := by
      have h1 : (tx s)[pre.length]? = some c := by rw [e]; simp
      have h2 : (tx s)[pre.length]? = some (s[pre.length]'hlt) := by
        rw [List.getElem?_eq_getElem (by rw [size_list]; exact hlt)]; rfl
      rw [h1] at h2; exact (Option.some.inj h2).symm
    have hn : nextA (Pt b) H = fun K => K (.tup [B true, I pre.length, R32 (Utf8.decode s pre.length).1]) (H.setObj b (.siter s (pre.length + (Utf8.decode s pre.length).2))) := by
      funext K; simp [nextA, Pt, hobj, hlt]
    have he' : HExt H0 (H.setObj b (.siter s (pre.length + (Utf8.decode s pre.length).2))) := he.setObj hb _
    have x0 : ∀ x y z, extractA (.tup [x, y, z]) 0 = some x := fun _ _ _ => rfl
    have x1 : ∀ x y z, extractA (.tup [x, y, z]) 1 = some y := fun _ _ _ => rfl
    have x2 : ∀ x y z, extractA (.tup [x, y, z]) 2 = some z := fun _ _ _ => rfl
    have hbad : ∀ H', HExt H0 H' → pI c.toNat = false → Q (I pre.length) H' := fun H' hx hcs => by
      have := hq H' hx
      rw [e, tw_bad hall hcs] at this
      exact this
    rw [f50_l6_eq, hn]
    simp only [x0, x1, x2, ob_some, cnd_t]
    rcases Nat.lt_or_ge c.toNat 128 with ha | ha
    · have hd := decode_ascii s pre.length hlt (by rw [hc]; exact ha)
      rw [hc] at hd
      simp only [hd]
      rw [hd] at he'
      refine hg _ _ _ ?_
      rw [not_B, ob_some]
      refine cnd_intro (fun h => hbad _ he' (by simpa using h)) (fun h => ?_)
      exact ih (pre ++ [c]) _ (by simp [e]) he' (by simp [setObj_same]) (by simp only [List.all_append, hall, Bool.true_and, List.all_cons, List.all_nil, Bool.and_true]; simpa using h)
    · have hd := decode_high s pre.length hlt (by rw [hc]; exact ha)
      refine hg _ _ _ ?_
      rw [not_B, ob_some, hp _ (by omega)]
      exact hbad _ he' (hp _ (by omega))
theorem c50 (g : AV) (pI : Int → Bool) (hg : ∀ (r : Int) (H : Heap) (K : Post), K (B (pI r)) H → callA (Ev Pg Hs) g [R32 r] H K) (hp : ∀ x : Int, 128 ≤ x → pI x = false)
    (s : ByteArray) (H : Heap) (Q : Post) (hq : ∀ H', HExt H H' → Q (I ((tx s).takeWhile fun c => pI c.toNat).length) H') : E 50 [S s, g] H Q := by
  rw [f50_eq]
  intro b hb
  exact c50_l g pI hg hp H s b hb Q hq (tx s) [] _ rfl ((HExt.refl H).setObj hb _) (by simp [setObj_same]) rfl
theorem run_upp (s : ByteArray) (H : Heap) (Q : Post) (hq : ∀ H', HExt H H' → Q (I ((tx s).takeWhile uppB).length) H') : E 50 [S s, .fn (.func 29) [] []] H Q :=
  c50 _ uppI (fun r H K hk => by show E 29 [R32 r] H K; rw [c29]; exact hk) (fun x hx => by simp only [uppI, Bool.and_eq_false_iff, decide_eq_false_iff_not]; omega) s H Q hq
theorem run_sign (s : ByteArray) (H : Heap) (Q : Post) (hq : ∀ H', HExt H H' → Q (I ((tx s).takeWhile signB).length) H') : E 50 [S s, .fn (.func 51) [] []] H Q :=
  c50 _ signI (fun r H K hk => by show E 51 [R32 r] H K; rw [c51]; exact hk) (fun x hx => by simp only [signI, lowI, digI, Bool.or_eq_false_iff, Bool.and_eq_false_iff, decide_eq_false_iff_not]; omega) s H Q hq
theorem run_dig (s : ByteArray) (H : Heap) (Q : Post) (hq : ∀ H', HExt H H' → Q (I ((tx s).takeWhile digB).length) H') : E 50 [S s, .fn (.func 31) [] []] H Q :=
  c50 _ digI (fun r H K hk => by show E 31 [R32 r] H K; rw [c31]; exact hk) (fun x hx => by simp only [digI, Bool.and_eq_false_iff, decide_eq_false_iff_not]; omega) s H Q hq
/-! ### Tokens -/
section
variable {H0 H : Heap} {b : Nat} {s : ByteArray} {pre r : List UInt8} {Q : Post}
theorem c49 (h : Sc H0 T b s pre.length H) (e : tx s = pre ++ r) (hq : Q (S (bs r)) H) : E 49 [Pt b] H Q := by
  rw [f49_eq]
  simp only [nil_Pt, ob_some, add_Pt, h.ld0, h.ld1, slS_from e]
  exact hq
theorem size_bound (e : tx s = pre ++ r) : pre.length + r.length = s.size := by
  have : (tx s).length = s.size := size_list s
  rw [← this, e, List.length_append]
theorem c52 (h : Sc H0 T b s pre.length H) (e : tx s = pre ++ r) (hsz : s.size ≤ 1099511627776) (k : Int) {n : Nat} (hn : n ≤ r.length)
    (hq : ∀ H', Sc H0 T b s (pre.length + n) H' → Q (encK ⟨k, bs (r.take n), pre.length⟩) H') : E 52 [Pt b, I k, I n] H Q := by
  have hb := size_bound e
  have hw : W64 ((pre.length : Int) + (n : Int)) = ((pre.length + n : Nat) : Int) := w64_add (by omega)
  have hbd : bldA [(0, 1, I k), (1, 1, S (bs (r.take n))), (2, 1, I pre.length)] [I 0, S ⟨#[]⟩, I 0] = some (encK ⟨k, bs (r.take n), pre.length⟩) := rfl
  have hs : sizedA 3 (encK ⟨k, bs (r.take n), pre.length⟩) = some [I k, S (bs (r.take n)), I pre.length] := rfl
  have hsp : spliceA 0 [I k, S (bs (r.take n)), I pre.length] [I 0, S ⟨#[]⟩, I 0] = some [I k, S (bs (r.take n)), I pre.length] := rfl
  have hp : partA true 0 3 [I k, S (bs (r.take n)), I pre.length] = some (encK ⟨k, bs (r.take n), pre.length⟩) := rfl
  rw [f52_eq]
  simp only [nil_Pt, ob_some, add_Pt, h.ld0, h.ld1, i_add, hw, slS_mid e hn, hbd, hs, hsp, h.st1, hp]
  exact hq _ (h.set _)
def zeroK : AV := .agg [I 0, S e0, I 0]
def resV (p : Nat) : L1 → AV
  | .tok k w _ => .tup [encK ⟨k, bs w, p⟩, B true]
  | .bad _ _ => .tup [zeroK, B false]
def resN : L1 → Nat
  | .tok _ _ n => n
  | .bad _ _ => 0
theorem tw_take (p : UInt8 → Bool) (l : List UInt8) : l.take (l.takeWhile p).length = l.takeWhile p := by
  induction l with
  | nil => rfl
  | cons a l ih =>
    rw [List.takeWhile_cons]
    split
    · simp [ih]
    · rfl
theorem tw_le (p : UInt8 → Bool) (l : List UInt8) : (l.takeWhile p).length ≤ l.length := by
  have := congrArg List.length (tw_take p l)
  rw [List.length_take] at this; omega
theorem j41 (h : Sc H0 T b s pre.length H) (e : tx s = pre ++ r) (hsz : s.size ≤ 1099511627776) (k : Int) {n : Nat} (hn : n ≤ r.length)
    (hq : ∀ H', Sc H0 T b s (pre.length + n) H' → Q (.tup [encK ⟨k, bs (r.take n), pre.length⟩, B true]) H') : f32_j41 (Pt b) (I k) [I 0, S ⟨#[]⟩, I 0] (I n) H Q := by
  rw [f32_j41_eq]
  refine c52 h e hsz k hn (fun H' h' => ?_)
  have hs : sizedA 3 (encK ⟨k, bs (r.take n), pre.length⟩) = some [I k, S (bs (r.take n)), I pre.length] := rfl
  have hsp : spliceA 0 [I k, S (bs (r.take n)), I pre.length] [I 0, S ⟨#[]⟩, I 0] = some [I k, S (bs (r.take n)), I pre.length] := rfl
  have hp : partA true 0 3 [I k, S (bs (r.take n)), I pre.length] = some (encK ⟨k, bs (r.take n), pre.length⟩) := rfl
  rw [hs, ob_some, hsp, ob_some, hp, ob_some]
  exact hq H' h'
/-- words, names -/
theorem c32_w (h : Sc H0 T b s pre.length H) (e : tx s = pre ++ r) (hsz : s.size ≤ 1099511627776) (k : Int) (hk : k = 1 ∨ k = 2)
    (hq : ∀ H', Sc H0 T b s (pre.length + resN (wordT k (if k = 1 then uppB else signB) r)) H' → Q (resV pre.length (wordT k (if k = 1 then uppB else signB) r)) H') : E 32 [Pt b, I k] H Q := by
  have hz : bldA [] [I 0, S ⟨#[]⟩, I 0] = some zeroK := rfl
  have hzs : sizedA 3 zeroK = some [I 0, S ⟨#[]⟩, I 0] := rfl
  have hzp : spliceA 0 [I 0, S ⟨#[]⟩, I 0] [I 0, S ⟨#[]⟩, I 0] = some [I 0, S ⟨#[]⟩, I 0] := rfl
  have hzt : partA true 0 3 [I 0, S ⟨#[]⟩, I 0] = some zeroK := rfl
  have go : ∀ (p : UInt8 → Bool) (H' : Heap), HExt H H' → (p = if k = 1 then uppB else signB) → ob (binA Pg .gtr 3 true (I (r.takeWhile p).length) (I 32)) (fun r6 => cndA r6 (Q (.tup [zeroK, B false]) H') (f32_j41 (Pt b) (I k) [I 0, S ⟨#[]⟩, I 0] (I (r.takeWhile p).length) H' Q)) := fun p H' he hp => by
    subst hp
    rw [i_gtr, ob_some]
    refine cnd_intro (fun h1 => ?_) (fun h1 => ?_)
    · have := hq H'
      rw [wordT, if_pos (by simp at h1; omega)] at this
      exact this (h.mono he)
    · refine j41 (h.mono he) e hsz k (tw_le _ _) (fun H2 h2 => ?_)
      have := hq H2
      rw [wordT, if_neg (by simp at h1; omega)] at this
      rw [tw_take]; exact this h2
  rw [f32_eq]
  rcases hk with rfl | rfl
  · simp only [i_eql, decide_true, ob_some, cnd_t]
    refine c49 h e ?_
    refine run_upp _ _ _ (fun H' he => ?_)
    simp only [hz, hzs, hzp, hzt, ob_some, tx_bs]
    exact go uppB H' he rfl
  · have : decide ((2 : Int) = 1) = false := rfl
    simp only [i_eql, this, ob_some, cnd_f, decide_true, cnd_t]
    refine c49 h e ?_
    refine run_sign _ _ _ (fun H' he => ?_)
    simp only [hz, hzs, hzp, hzt, ob_some, tx_bs]
    exact go signB H' he rfl
/-- numbers -/
theorem c32_n (h : Sc H0 T b s pre.length H) (e : tx s = pre ++ r) (hsz : s.size ≤ 1099511627776) (hr : r ≠ [])
    (hq : ∀ H', Sc H0 T b s (pre.length + resN (intT r)) H' → Q (resV pre.length (intT r)) H') : E 32 [Pt b, I 3] H Q := by
  have hz : bldA [] [I 0, S ⟨#[]⟩, I 0] = some zeroK := rfl
  have hzs : sizedA 3 zeroK = some [I 0, S ⟨#[]⟩, I 0] := rfl
  have hzp : spliceA 0 [I 0, S ⟨#[]⟩, I 0] [I 0, S ⟨#[]⟩, I 0] = some [I 0, S ⟨#[]⟩, I 0] := rfl
  have hzt : partA true 0 3 [I 0, S ⟨#[]⟩, I 0] = some zeroK := rfl
  have d1 : decide ((3 : Int) = 1) = false := rfl
  have d2 : decide ((3 : Int) = 2) = false := rfl
  rw [f32_eq]
  simp only [i_eql, d1, d2, ob_some, cnd_f]
  refine c49 h e ?_
  refine run_dig _ _ _ (fun H' he => ?_)
  simp only [tx_bs, i_gtr, ob_some]
  have h' := h.mono he
  have jb : (19 < (r.takeWhile digB).length ∨ (1 < (r.takeWhile digB).length ∧ r.head?.map (·.toNat) = some 48)) → ∀ d, d = true → f32_j36 (Pt b) (I 3) [I 0, S ⟨#[]⟩, I 0] (I (r.takeWhile digB).length) (B d) H' Q := fun hc d hd => by
    subst hd
    rw [f32_j36_eq]
    simp only [cnd_t, hz, hzs, hzp, hzt, ob_some]
    have := hq H'
    rw [intT, if_pos hc] at this
    exact this h'
  have jg : ¬ (19 < (r.takeWhile digB).length ∨ (1 < (r.takeWhile digB).length ∧ r.head?.map (·.toNat) = some 48)) → ∀ d, d = false → f32_j36 (Pt b) (I 3) [I 0, S ⟨#[]⟩, I 0] (I (r.takeWhile digB).length) (B d) H' Q := fun hc d hd => by
    subst hd
    rw [f32_j36_eq, cnd_f]
    refine j41 h' e hsz 3 (tw_le _ _) (fun H2 h2 => ?_)
    have := hq H2
    rw [intT, if_neg hc] at this
    rw [tw_take]; exact this h2
  refine cnd_intro (fun h1 => ?_) (fun h1 => ?_)
  · exact jb (.inl (by simp at h1; omega)) _ rfl
  · have h19 : ¬ 19 < (r.takeWhile digB).length := by simp at h1; omega
    refine cnd_intro (fun h2 => ?_) (fun h2 => ?_)
    · have h2 : 1 < (r.takeWhile digB).length := by simp at h2; omega
      cases r with
      | nil => exact (hr rfl).elim
      | cons c r =>
        simp only [nil_Pt, ob_some, add_Pt, h'.ld0, h'.ld1, ixS s pre r c e, k_eql]
        rcases Decidable.em (c.toNat = 48) with h3 | h3
        · exact jb (.inr ⟨h2, by simp [h3]⟩) _ (by simp [h3])
        · exact jg (by intro hc; rcases hc with hc | hc; exact h19 hc; simp at hc; exact h3 hc.2) _ (decide_eq_false (by omega))
    · exact jg (by intro hc; rcases hc with hc | hc; exact h19 hc; simp at h2; omega) _ rfl
/-! ### Signs -/
theorem bs_size (l : List UInt8) : (bs l).size = l.length := by show l.toArray.size = _; simp
theorem bs_inj {a b : List UInt8} : bs a = bs b ↔ a = b := ⟨fun h => by have := congrArg tx h; rwa [tx_bs, tx_bs] at this, fun h => by rw [h]⟩
theorem c54 (r w : List UInt8) (H : Heap) (Q : Post) : E 54 [S (bs r), S (bs w)] H Q = Q (B (pre? r w)) H := by
  rw [f54_eq]
  simp only [len_S, ob_some, i_geq, bs_size, cnd_B, decide_eq_true_eq, f54_j4_eq]
  rcases Nat.lt_or_ge r.length w.length with h | h
  · rw [if_neg (by omega)]
    have : pre? r w = false := by simp [pre?]; omega
    rw [this]
  · rw [if_pos (by omega), slS_to (by rw [bs_size]; exact h), ob_some, s_eql, ob_some]
    have : decide (bs ((tx (bs r)).take w.length) = bs w) = pre? r w := by
      rw [tx_bs, pre?, decide_eq_true h, Bool.true_and]; simp only [bs_inj]
    rw [this]
def signA : List AV := signW.map fun w => S (bs w)
theorem c53 (H : Heap) (Q : Post) (hq : ∀ H', HExt H H' → Q (.agg signA) H') : E 53 [] H Q := by
  rw [f53_eq]
  intro b hb
  have e1 : HExt H (H.setObj b (.cells (List.replicate 22 (S e0)))) := (HExt.refl H).setObj hb _
  have o1 : (H.setObj b (.cells (List.replicate 22 (S e0)))).objs b = some (.cells (List.replicate 22 (S e0))) := setObj_same _ _ _
  have hb' : bldA [(0, 1, (S ⟨#[60, 61]⟩)), (1, 1, (S ⟨#[62, 61]⟩)), (2, 1, (S ⟨#[60, 62]⟩)), (3, 1, (S ⟨#[45, 62]⟩)), (4, 1, (S ⟨#[40]⟩)), (5, 1, (S ⟨#[41]⟩)), (6, 1, (S ⟨#[44]⟩)), (7, 1, (S ⟨#[46]⟩)), (8, 1, (S ⟨#[43]⟩)), (9, 1, (S ⟨#[45]⟩)), (10, 1, (S ⟨#[42]⟩)), (11, 1, (S ⟨#[47]⟩)), (12, 1, (S ⟨#[37]⟩)), (13, 1, (S ⟨#[61]⟩)), (14, 1, (S ⟨#[60]⟩)), (15, 1, (S ⟨#[62]⟩)), (16, 1, (S ⟨#[33]⟩)), (17, 1, (S ⟨#[124]⟩)), (18, 1, (S ⟨#[123]⟩)), (19, 1, (S ⟨#[125]⟩)), (20, 1, (S ⟨#[91]⟩)), (21, 1, (S ⟨#[93]⟩))]
    [(S ⟨#[]⟩), (S ⟨#[]⟩), (S ⟨#[]⟩), (S ⟨#[]⟩), (S ⟨#[]⟩), (S ⟨#[]⟩), (S ⟨#[]⟩), (S ⟨#[]⟩), (S ⟨#[]⟩), (S ⟨#[]⟩), (S ⟨#[]⟩), (S ⟨#[]⟩), (S ⟨#[]⟩), (S ⟨#[]⟩), (S ⟨#[]⟩), (S ⟨#[]⟩), (S ⟨#[]⟩), (S ⟨#[]⟩), (S ⟨#[]⟩), (S ⟨#[]⟩), (S ⟨#[]⟩), (S ⟨#[]⟩)] = some (.agg signA) := rfl
  rw [hb', ob_some]
  refine (?_ : ob (stH (H.setObj b (.cells (List.replicate 22 (S e0)))) 22 (Pt b) (.agg signA)) fun H4 => ob (ldH H4 true 22 (Pt b)) fun r5 => Q r5 H4)
  rw [st_agg o1 (xs := signA) rfl 22 rfl, ob_some, ld_agg (setObj_same _ _ _) 22 rfl, ob_some]
  exact hq _ (e1.setObj hb _)
theorem c33 (h : Sc H0 T b s pre.length H) (e : tx s = pre ++ r) (hsz : s.size ≤ 1099511627776)
    (hq : ∀ H', Sc H0 T b s (pre.length + resN (signF r)) H' → Q (resV pre.length (signF r)) H') : E 33 [Pt b] H Q := by
  have hz : bldA [] [I 0, S ⟨#[]⟩, I 0] = some zeroK := rfl
  have hzs : sizedA 3 zeroK = some [I 0, S ⟨#[]⟩, I 0] := rfl
  have hzp : spliceA 0 [I 0, S ⟨#[]⟩, I 0] [I 0, S ⟨#[]⟩, I 0] = some [I 0, S ⟨#[]⟩, I 0] := rfl
  have hzt : partA true 0 3 [I 0, S ⟨#[]⟩, I 0] = some zeroK := rfl
  have loop : ∀ (ws done : List (List UInt8)) (H : Heap), signW = done ++ ws → Sc H0 T b s pre.length H →
      (∀ L, L = (match ws.find? (pre? r) with | none => L1.bad 0 4 | some w => .tok 5 w w.length) → ∀ H', Sc H0 T b s (pre.length + resN L) H' → Q (resV pre.length L) H') →
      f33_l6 (Pt b) [I 0, S ⟨#[]⟩, I 0] (.agg signA) (I done.length) H Q := by
    intro ws
    induction ws with
    | nil =>
      intro done H ed h hq
      have hd : done.length = 22 := by rw [List.append_nil] at ed; rw [← ed]; rfl
      have : decide (((done.length : Nat) : Int) < 22) = false := by rw [hd]; rfl
      rw [f33_l6_eq, i_lss, ob_some, this, cnd_f]
      simp only [hz, hzs, hzp, hzt, ob_some]
      exact hq _ rfl H h
    | cons w ws ih =>
      intro done H ed h hq
      have h22 : done.length + (w :: ws).length = 22 := by rw [← List.length_append, ← ed]; rfl
      simp only [List.length_cons] at h22
      have hlt : decide (((done.length : Nat) : Int) < 22) = true := by simp; omega
      have hix : ixAgg 22 false 1 (.agg signA) (I done.length) = some (S (bs w)) := by
        have h0 : (0 : Int) ≤ (done.length : Int) ∧ (done.length : Int) < ((22 : Nat) : Int) := by omega
        have : signA[done.length]? = some (S (bs w)) := by rw [signA, ed]; exact get_mid (fun w => S (bs w)) done ws w
        simp only [ixAgg, I, if_pos h0, Int.toNat_natCast, part_f, Nat.mul_one, this]
      rw [f33_l6_eq, i_lss, ob_some, hlt, cnd_t, hix, ob_some]
      refine c49 h e ?_
      rw [c54]
      cases hp : pre? r w with
      | true =>
        have hp' := hp
        simp only [pre?, Bool.and_eq_true, decide_eq_true_eq] at hp
        rw [cnd_t, len_S, bs_size, ob_some]
        refine c52 h e hsz 5 hp.1 (fun H' h' => ?_)
        rw [hp.2]
        have hs : sizedA 3 (encK ⟨5, bs w, pre.length⟩) = some [I 5, S (bs w), I pre.length] := rfl
        have hsp : spliceA 0 [I 5, S (bs w), I pre.length] [I 0, S ⟨#[]⟩, I 0] = some [I 5, S (bs w), I pre.length] := rfl
        have hpt : partA true 0 3 [I 5, S (bs w), I pre.length] = some (encK ⟨5, bs w, pre.length⟩) := rfl
        simp only [hs, hsp, hpt, ob_some]
        exact hq (.tok 5 w w.length) (by simp [List.find?, hp']) H' h'
      | false =>
        rw [cnd_f, i_add, ob_some, w64_succ (n := 22) (by omega) (by omega)]
        have := ih (done ++ [w]) H (by simp [ed]) h (fun L hL => hq L (by simp only [List.find?, hp]; exact hL))
        rw [List.length_append, List.length_singleton] at this
        exact this
  rw [f33_eq]
  refine c53 H _ (fun H1 e1 => ?_)
  exact loop signW [] H1 rfl (h.mono e1) (fun L hL H' h' => by
    have : L = signF r := hL
    subst this
    exact hq H' h')
end
end Go.Hx
namespace Go.Hx
/-! ### Digits of base 16 -/
def idxH (n : Nat) : Nat → Nat → Int
  | 0, _ => -1
  | k + 1, j => if (hexD j).toNat = n then j else idxH n k (j + 1)
def hexI (n : Nat) : Int := match hexN n with
  | some a => a
  | none => -1
theorem idxH_eq : ∀ n : Fin 256, idxH n.1 16 0 = hexI n.1 := by decide +kernel
theorem c79 (c : UInt8) (H : Heap) (Q : Post) (hq : ∀ H', HExt H H' → Q (I (hexI c.toNat)) H') : E 79 [byteA c] H Q := by
  have loop : ∀ (k j : Nat) (H : Heap), j + k = 16 → f79_l6 (byteA c) (.agg hexC) (I j) H Q = Q (I (idxH c.toNat k j)) H := by
    intro k
    induction k with
    | zero =>
      intro j H e
      have : decide ((j : Int) < 16) = false := by simp; omega
      rw [f79_l6_eq, i_lss, ob_some, this, cnd_f, idxH]
    | succ k ih =>
      intro j H e
      have h1 : decide ((j : Int) < 16) = true := by simp; omega
      have hix : ixAgg 16 false 1 (.agg hexC) (I j) = some (byteA (hexD j)) := by
        have h0 : (0 : Int) ≤ (j : Int) ∧ (j : Int) < ((16 : Nat) : Int) := by omega
        simp only [ixAgg, I, if_pos h0, Int.toNat_natCast, part_f, Nat.mul_one, hex_get (by omega : j < 16)]
      rw [f79_l6_eq, i_lss, ob_some, h1, cnd_t, hix, ob_some]
      have hbe : binA Pg .eql 5 false (byteA (hexD j)) (byteA c) = some (B (decide ((hexD j).toNat = c.toNat))) := b_eq39 (hexD j) c.toNat 5 false
      rw [hbe, ob_some, cnd_B, i_add, ob_some, w64_succ (n := 16) (by omega) (by omega), ih (j + 1) H (by omega), idxH]
      simp only [decide_eq_true_eq]
      split <;> rfl
  rw [f79_eq]
  refine c84 H _ (fun H1 e1 => ?_)
  have := loop 16 0 H1 rfl
  refine this.mpr ?_
  rw [idxH_eq ⟨c.toNat, byte_lt c⟩]
  exact hq H1 e1
theorem shl4 : ∀ a : Fin 16, binA Pg .shl 3 true (I (a.1 : Int)) (U64 4) = some (I ((16 * a.1 : Nat) : Int)) := by
  intro a
  have : ∀ a : Fin 16, IntKind.i64.wrap ((a.1 : Int) * 16) = ((16 * a.1 : Nat) : Int) := by decide +kernel
  rw [← this a]; rfl
theorem or4 : ∀ a b : Fin 16, bitsI .or .i64 ((16 * a.1 : Nat) : Int) (b.1 : Int) = ((16 * a.1 + b.1 : Nat) : Int) := by decide +kernel
theorem i_or (t : TypeId) (l : Bool) (a b : Int) : binA Pg .or t l (I a) (I b) = some (I (bitsI .or .i64 a b)) := rfl
theorem hexN_lt {n a : Nat} (h : hexN n = some a) : a < 16 := by
  simp only [hexN] at h
  split at h
  · cases h; omega
  · split at h
    · cases h; omega
    · cases h
def resE (K : Bool → UInt8 → Nat → Prop) : ER → Prop
  | .ok c n => K true c n
  | .bad q => K false 0 q
section
variable {T : Nat → Option Nat} {H0 H : Heap} {b : Nat} {s : ByteArray} {pre r : List UInt8} {Q : Post}
theorem c70 {p : Nat} (h : Sc H0 T b s p H) : E 70 [Pt b] H Q = Q (B (decide (s.size ≤ p))) H := by
  rw [f70_eq]
  simp only [nil_Pt, ob_some, add_Pt, h.ld0, h.ld1, len_S, i_geq]
  have : decide ((s.size : Int) ≤ (p : Int)) = decide (s.size ≤ p) := by simp
  rw [this]
theorem done_nil (e : tx s = pre ++ []) : decide (s.size ≤ pre.length) = true := by have := size_bound e; simp at this ⊢; omega
theorem done_cons {c : UInt8} (e : tx s = pre ++ c :: r) : decide (s.size ≤ pre.length) = false := by have := size_bound e; simp at this ⊢; omega
theorem step1 {c : UInt8} (h : Sc H0 T b s pre.length H) (e : tx s = pre ++ c :: r) (hsz : s.size ≤ 1099511627776) (K : Heap → Prop) (hk : ∀ H', Sc H0 T b s (pre ++ [c]).length H' → tx s = (pre ++ [c]) ++ r → (pre ++ [c]).length = pre.length + 1 → K H') :
    (ob (binA Pg .add 3 true (I pre.length) (I 1)) fun r19 => ob (stH H 1 (Poff b 1) r19) fun H22 => K H22) := by
  have hb := size_bound e
  simp only [List.length_cons] at hb
  rw [i_add, ob_some, w64_succ (n := s.size) (by omega) (by omega), h.st1, ob_some]
  exact hk _ (by rw [List.length_append]; exact h.set _) (by simp [e]) (by simp)
theorem c77 (h : Sc H0 T b s pre.length H) (e : tx s = pre ++ r) (hsz : s.size ≤ 1099511627776)
    (hok : ∀ c n H', hexR pre.length r = .ok c n → Sc H0 T b s (pre.length + n) H' → Q (.tup [byteA c, B true]) H')
    (hbad : ∀ q H', hexR pre.length r = .bad q → Sc H0 T b s q H' → Q (.tup [U8 0, B false]) H') : E 77 [Pt b] H Q := by
  have l0 : decide ((0 : Int) < 2) = true := rfl
  have l1 : decide ((1 : Int) < 2) = true := rfl
  have l2 : decide ((2 : Int) < 2) = false := rfl
  rw [f77_eq, f77_l8_eq, i_lss, l0, ob_some, cnd_t, c70 h]
  cases r with
  | nil => rw [done_nil e, cnd_t]; exact hbad _ H rfl h
  | cons x r =>
    rw [done_cons e, cnd_f]
    simp only [nil_Pt, ob_some, add_Pt, h.ld0, h.ld1, ixS s pre r x e]
    refine c79 x H _ (fun H1 e1 => ?_)
    have h1 := h.mono e1
    cases hx : hexV x with
    | none =>
      have hi : hexI x.toNat = -1 := by rw [hexV] at hx; simp [hexI, hx]
      have : decide ((-1 : Int) < 0) = true := rfl
      rw [hi, i_lss, ob_some, this, cnd_t]
      exact hbad _ H1 (by simp [hexR, hx]) h1
    | some a =>
      have hi : hexI x.toNat = (a : Int) := by rw [hexV] at hx; simp [hexI, hx]
      have ha : a < 16 := hexN_lt hx
      have hn : decide ((a : Int) < 0) = false := by simp
      have s0 : binA Pg .shl 3 true (I 0) (AV.raw (.int .u64 4)) = some (I 0) := shl4 ⟨0, by omega⟩
      have o0 : bitsI .or .i64 0 (a : Int) = (a : Int) := by have := or4 ⟨0, by omega⟩ ⟨a, ha⟩; simpa using this
      rw [hi, i_lss, ob_some, hn, cnd_f, s0, ob_some, i_or, o0, ob_some]
      simp only [nil_Pt, ob_some, add_Pt, h1.ld1]
      refine step1 h1 e hsz _ (fun H2 h2 e2 hl2 => ?_)
      have a1 : W64 (0 + 1) = 1 := rfl
      rw [i_add, a1, ob_some, f77_l8_eq, i_lss, l1, ob_some, cnd_t, c70 h2]
      cases r with
      | nil => rw [done_nil e2, cnd_t]; exact hbad (pre.length + 1) H2 (by simp [hexR, hx]) (by rw [hl2] at h2; exact h2)
      | cons y r =>
        rw [done_cons e2, cnd_f]
        simp only [nil_Pt, ob_some, add_Pt, h2.ld0, h2.ld1, ixS s _ r y e2]
        refine c79 y H2 _ (fun H3 e3 => ?_)
        have h3 := h2.mono e3
        cases hy : hexV y with
        | none =>
          have hi : hexI y.toNat = -1 := by rw [hexV] at hy; simp [hexI, hy]
          have : decide ((-1 : Int) < 0) = true := rfl
          rw [hi, i_lss, ob_some, this, cnd_t]
          exact hbad (pre.length + 1) H3 (by simp [hexR, hx, hy]) (by rw [hl2] at h3; exact h3)
        | some d =>
          have hi : hexI y.toNat = (d : Int) := by rw [hexV] at hy; simp [hexI, hy]
          have hd : d < 16 := hexN_lt hy
          have hn : decide ((d : Int) < 0) = false := by simp
          have s1 : binA Pg .shl 3 true (I (a : Int)) (AV.raw (.int .u64 4)) = some (I ((16 * a : Nat) : Int)) := shl4 ⟨a, ha⟩
          have o1 : bitsI .or .i64 ((16 * a : Nat) : Int) (d : Int) = ((16 * a + d : Nat) : Int) := or4 ⟨a, ha⟩ ⟨d, hd⟩
          rw [hi, i_lss, ob_some, hn, cnd_f, s1, ob_some, i_or, o1, ob_some]
          simp only [nil_Pt, ob_some, add_Pt, h3.ld1]
          refine step1 h3 e2 hsz _ (fun H4 h4 e4 hl4 => ?_)
          have a2 : W64 (1 + 1) = 2 := rfl
          have cv : cvtIA .u8 (I ((16 * a + d : Nat) : Int)) = some (byteA (UInt8.ofNat (16 * a + d))) := by
            have hw : IntKind.u8.wrap ((16 * a + d : Nat) : Int) = ((16 * a + d : Nat) : Int) := by
              have : ∀ a b : Fin 16, IntKind.u8.wrap ((16 * a.1 + b.1 : Nat) : Int) = ((16 * a.1 + b.1 : Nat) : Int) := by decide +kernel
              exact this ⟨a, ha⟩ ⟨d, hd⟩
            have hm : (UInt8.ofNat (16 * a + d)).toNat = 16 * a + d := by simp; omega
            show some (AV.raw (.int .u8 (IntKind.u8.wrap _))) = _
            rw [hw, byteA, hm]
          rw [i_add, a2, ob_some, f77_l8_eq, i_lss, l2, ob_some, cnd_f, cv, ob_some]
          exact hok _ 2 H4 (by simp [hexR, hx, hy]) (by rw [hl4, hl2] at h4; exact h4)
theorem at_len {p : Nat} (h : Sc H0 T b s p H) (hp : p = pre.length) : Sc H0 T b s pre.length H := hp ▸ h
theorem c71 {p : Nat} (hp : pre.length = p + 1) (h : Sc H0 T b s pre.length H) (e : tx s = pre ++ r) (hsz : s.size ≤ 1099511627776)
    (hok : ∀ c n H', escR p r = .ok c n → Sc H0 T b s (p + n) H' → Q (.tup [byteA c, B true]) H')
    (hbad : ∀ q H', escR p r = .bad q → Sc H0 T b s q H' → Q (.tup [U8 0, B false]) H') : E 71 [Pt b] H Q := by
  have hb := size_bound e
  have hs : W64 ((pre.length : Int) - 1) = (p : Int) := by rw [w64_id (by omega) (by omega)]; omega
  rw [f71_eq]
  simp only [nil_Pt, ob_some, add_Pt, h.ld1, i_sub, hs]
  rw [c70 h]
  cases r with
  | nil => rw [done_nil e, cnd_t]; exact hbad (p + 1) H rfl (hp ▸ h)
  | cons d r =>
    rw [done_cons e, cnd_f]
    simp only [h.ld0, h.ld1, ixS s pre r d e, ob_some]
    have j : ∀ x : Bool, x = decide (d.toNat = 39 ∨ d.toNat = 92) → f71_j17 (Pt b) (I p) (U8 d.toNat) (B x) H Q := fun x hx => by
      rw [f71_j17_eq]
      simp only [nil_Pt, ob_some, add_Pt, h.ld1]
      refine cnd_intro (fun h1 => ?_) (fun h1 => ?_)
      · have h1 : d.toNat = 39 ∨ d.toNat = 92 := by rw [h1] at hx; simpa using hx.symm
        refine step1 h e hsz _ (fun H2 h2 e2 hl2 => ?_)
        exact hok d 2 H2 (by simp [escR, h1]) (by rw [hl2, hp] at h2; exact h2)
      · have h1 : ¬ (d.toNat = 39 ∨ d.toNat = 92) := by rw [h1] at hx; simpa using hx.symm
        have hne : binA Pg .neq 5 true (U8 d.toNat) (AV.raw (.int .u8 120)) = some (B (!decide (d.toNat = 120))) := by
          rw [k_neq]
          have : decide ((d.toNat : Int) = 120) = decide (d.toNat = 120) := by simp; omega
          rw [this]
        rw [hne, ob_some]
        refine cnd_intro (fun h2 => ?_) (fun h2 => ?_)
        · have h2 : d.toNat ≠ 120 := by simpa using h2
          exact hbad (p + 1) H (by simp [escR, h1, h2]) (hp ▸ h)
        · have h2 : d.toNat = 120 := by simpa using h2
          refine step1 h e hsz _ (fun H2 h3 e2 hl2 => ?_)
          have hl : (pre ++ [d]).length = p + 2 := by omega
          refine c77 h3 e2 hsz (fun c n H' hc h4 => ?_) (fun q H' hc h4 => ?_)
          · rw [hl] at hc h4
            have hn := (hexR_len hc).1
            subst hn
            simp only [x20, x21, ob_some, cnd_t]
            rw [c72]
            rw [f71_j39_eq]
            simp only [nil_Pt, ob_some, add_Pt, h4.st1]
            refine cnd_intro (fun h5 => ?_) (fun h5 => ?_)
            · exact hbad p _ (by simp [escR, h1, h2, hc, h5]) (h4.set p)
            · exact hok c 4 H' (by simp [escR, h1, h2, hc, h5]) h4
          · rw [hl] at hc
            simp only [x20, x21, ob_some, cnd_f]
            rw [f71_j39_eq, cnd_f]
            exact hbad q H' (by simp [escR, h1, h2, hc]) h4
    have e39 : binA Pg .eql 5 true (U8 d.toNat) (AV.raw (.int .u8 39)) = some (B (decide (d.toNat = 39))) := b_eq39 d 39 5 true
    have e92 : binA Pg .eql 5 true (U8 d.toNat) (AV.raw (.int .u8 92)) = some (B (decide (d.toNat = 92))) := b_eq39 d 92 5 true
    rw [e39, ob_some]
    refine cnd_intro (fun h1 => j true (by simp at h1; simp [h1])) (fun h1 => ?_)
    rw [e92, ob_some]
    exact j _ (by simp at h1; simp [h1])
/-- what one step of reading a quoted text says -/
theorem c64 (h : Sc H0 T b s pre.length H) (e : tx s = pre ++ r) (hsz : s.size ≤ 1099511627776)
    (hend : ∀ c r1 H', r = c :: r1 → c.toNat = 39 → Sc H0 T b s (pre.length + 1) H' → Q (.tup [U8 0, B false, B true]) H')
    (hesc : ∀ c r1 d n H', r = c :: r1 → c.toNat = 92 → escR pre.length r1 = .ok d n → Sc H0 T b s (pre.length + n) H' → Q (.tup [byteA d, B true, B false]) H')
    (hpl : ∀ c r1 H', r = c :: r1 → c.toNat ≠ 39 → c.toNat ≠ 92 → plainB c = true → Sc H0 T b s (pre.length + 1) H' → Q (.tup [byteA c, B true, B false]) H')
    (hbad : ∀ q H', (r = [] ∧ q = pre.length ∨ (∃ c r1, r = c :: r1 ∧ c.toNat = 92 ∧ escR pre.length r1 = .bad q) ∨ (∃ c r1, r = c :: r1 ∧ c.toNat ≠ 39 ∧ c.toNat ≠ 92 ∧ plainB c = false ∧ q = pre.length)) → Sc H0 T b s q H' → Q (.tup [U8 0, B false, B false]) H') :
    E 64 [Pt b] H Q := by
  rw [f64_eq, c70 h]
  cases r with
  | nil => rw [done_nil e, cnd_t]; exact hbad _ H (.inl ⟨rfl, rfl⟩) h
  | cons c r =>
    have e39 : binA Pg .eql 5 true (U8 c.toNat) (AV.raw (.int .u8 39)) = some (B (decide (c.toNat = 39))) := b_eq39 c 39 5 true
    have e92 : binA Pg .eql 5 true (U8 c.toNat) (AV.raw (.int .u8 92)) = some (B (decide (c.toNat = 92))) := b_eq39 c 92 5 true
    rw [done_cons e, cnd_f]
    simp only [nil_Pt, ob_some, add_Pt, h.ld0, h.ld1, ixS s pre r c e, e39, e92]
    refine cnd_intro (fun h1 => ?_) (fun h1 => ?_)
    · refine step1 h e hsz _ (fun H2 h2 e2 hl2 => ?_)
      exact hend c r H2 rfl (by simpa using h1) (hl2 ▸ h2)
    · have h1 : c.toNat ≠ 39 := by simpa using h1
      refine cnd_intro (fun h3 => ?_) (fun h3 => ?_)
      · have h3 : c.toNat = 92 := by simpa using h3
        refine step1 h e hsz _ (fun H2 h2 e2 hl2 => ?_)
        refine c71 hl2 h2 e2 hsz (fun d n H' hd h4 => ?_) (fun q H' hd h4 => ?_)
        · rw [x20, ob_some, x21, ob_some]
          exact hesc c r d n H' rfl h3 hd h4
        · rw [x20, ob_some, x21, ob_some]
          exact hbad q H' (.inr (.inl ⟨c, r, rfl, h3, hd⟩)) h4
      · have h3 : c.toNat ≠ 92 := by simpa using h3
        have cp : ∀ K : Post, E 72 [U8 c.toNat] H K = K (B (plainB c)) H := fun K => c72 c H K
        rw [cp]
        cases hp : plainB c with
        | true =>
          rw [cnd_t, h.ld1, ob_some]
          refine step1 h e hsz _ (fun H2 h2 e2 hl2 => ?_)
          exact hpl c r H2 rfl h1 h3 hp (hl2 ▸ h2)
        | false =>
          rw [cnd_f]
          exact hbad _ H (.inr (.inr ⟨c, r, rfl, h1, h3, hp, rfl⟩)) h
def uqV : UQ → AV
  | .ok s n => .tup [S (bs s), I n, I 0]
  | .bad n e => .tup [S e0, I n, I e]
theorem c48 (l : List UInt8) (hl : l.length ≤ 1099511627776) (H0 : Heap) (Q : Post) (hq : ∀ H', HExt H0 H' → Q (uqV (unq l)) H') : E 48 [S (bs l)] H0 Q := by
  have loop : ∀ (m : Nat) (r pre out : List UInt8) (sz : Nat) (nil : Bool) (tip : Tip) (b : Nat) (H : Heap) (T : Nat → Option Nat), r.length ≤ m → l = pre ++ r → Sc H0 T b (bs l) pre.length H → (nil = true ∨ sz = 1) → OwnS H0 H 1 out.length tip → out.length ≤ pre.length →
      (∀ H', HExt H0 H' → Q (uqV (unqF pre.length out r)) H') → f48_l15 (Pt b) (.sl sz nil tip (out.map byteA)) H Q := by
    intro m
    induction m with
    | zero =>
      intro r pre out sz nil tip b H T hm e h hn ho hol hq
      have hr : r = [] := List.eq_nil_of_length_eq_zero (by omega)
      subst hr
      rw [f48_l15_eq]
      have e' : tx (bs l) = pre ++ [] := by rw [tx_bs]; exact e
      refine c64 h e' (by rw [bs_size]; exact hl) (fun c r1 H' hc => by cases hc) (fun c r1 d n H' hc => by cases hc) (fun c r1 H' hc => by cases hc) (fun q H' hc h' => ?_)
      simp only [x3_0, x3_1, x3_2, ob_some, cnd_f]
      rcases hc with ⟨_, rfl⟩ | ⟨c, r1, hc, _⟩ | ⟨c, r1, hc, _⟩
      · rw [f48_j23_eq, cnd_f, cnd_f, not_B, ob_some]
        simp only [Bool.not_false, cnd_t, nil_Pt, ob_some, add_Pt, h'.ld1]
        have := hq H' h'.ext
        rw [unqF] at this; exact this
      · cases hc
      · cases hc
    | succ m ih =>
      intro r pre out sz nil tip b H T hm e h hn ho hol hq
      have e' : tx (bs l) = pre ++ r := by rw [tx_bs]; exact e
      have hsz : (bs l).size ≤ 1099511627776 := by rw [bs_size]; exact hl
      have hpl : pre.length ≤ l.length := by rw [e]; simp
      have bad : ∀ (q : Nat) (x : AV) (H' : Heap), Sc H0 (tipT (out.length * 1) tip) b (bs l) q H' → (∀ H', HExt H0 H' → Q (.tup [S e0, I q, I 4]) H') → f48_j23 (Pt b) (.sl sz nil tip (out.map byteA)) x (B false) (B false) (B false) H' Q := fun q x H' h' hq => by
        rw [f48_j23_eq, cnd_f, cnd_f, not_B, ob_some]
        simp only [Bool.not_false, cnd_t, nil_Pt, ob_some, add_Pt, h'.ld1]
        exact hq H' h'.ext
      have push : ∀ (c : UInt8) (r2 : List UInt8) (n : Nat) (H' : Heap), 1 ≤ n → r = (r.take n) ++ r2 → n ≤ r.length → Sc H0 (tipT (out.length * 1) tip) b (bs l) (pre.length + n) H' → (∀ H', HExt H0 H' → Q (uqV (unqF (pre.length + n) (out ++ [c]) r2)) H') →
          f48_j23 (Pt b) (.sl sz nil tip (out.map byteA)) (byteA c) (B true) (B false) (B false) H' Q := fun c r2 n H' hn1 hr2 hnr h' hq => by
        have hm1 : mkSlA 1 [byteA c] = _ := lit_bytes [c]
        rw [f48_j23_eq, cnd_f, cnd_f, not_B, ob_some, Bool.not_true, cnd_f, hm1, ob_some]
        refine app_b h'.ext (h'.own ho) hn (ys := [c]) (by simp [tailA]) (by simp; omega) (fun s2 n2 t2 H2 hn2 ho2 he2 hobj => ?_)
        have hl2 : (pre ++ r.take n).length = pre.length + n := by simp; omega
        refine ih r2 (pre ++ r.take n) (out ++ [c]) s2 n2 t2 b H2 (fun _ => none) ?_ (by rw [List.append_assoc, ← hr2]; exact e) ⟨he2, h'.fr, by rw [hobj, hl2]; exact h'.obj, fun _ _ h => by cases h⟩ hn2 ho2 (by rw [hl2]; simp; omega) (by rw [hl2]; exact hq)
        have := congrArg List.length hr2
        rw [List.length_append, List.length_take] at this; omega
      rw [f48_l15_eq]
      refine c64 (h.tip ho) e' hsz (fun c r1 H' hc h1 h' => ?_) (fun c r1 d n H' hc h1 hd h' => ?_) (fun c r1 H' hc h1 h3 hp h' => ?_) (fun q H' hc h' => ?_)
      · simp only [x3_0, x3_1, x3_2, ob_some, cnd_t, len_sl, List.length_map, i_gtr]
        rw [f48_j23_eq]
        refine cnd_intro (fun h2 => ?_) (fun h2 => ?_)
        · have := hq H' h'.ext
          rw [hc, unqF.eq_def] at this
          simp only [h1, if_true] at this
          rw [if_pos (by simp at h2; omega)] at this
          exact this
        · simp only [cnd_t, nil_Pt, ob_some, add_Pt, h'.ld1, apL]
          have := hq H' h'.ext
          rw [hc, unqF.eq_def] at this
          simp only [h1, if_true] at this
          rw [if_neg (by simp at h2; omega)] at this
          exact ⟨hn, out, rfl, this⟩
      · simp only [x3_0, x3_1, x3_2, ob_some, cnd_f]
        have hn2 := escR_len hd
        have hr1 : r.length = r1.length + 1 := by rw [hc]; rfl
        refine push d (r1.drop (n - 1)) n H' (by omega) ?_ (by omega) h' (fun H2 h2 => ?_)
        · rw [hc]
          obtain ⟨k, rfl⟩ : ∃ k, n = k + 1 := ⟨n - 1, by omega⟩
          simp
        · have := hq H2 h2
          rw [hc, unqF.eq_def] at this
          simp only [h1, hd] at this
          simpa using this
      · simp only [x3_0, x3_1, x3_2, ob_some, cnd_f]
        refine push c r1 1 H' (by omega) (by rw [hc]; rfl) (by rw [hc]; simp) h' (fun H2 h2 => ?_)
        · have := hq H2 h2
          rw [hc, unqF.eq_def] at this
          simp only [if_neg h1, if_neg h3, hp, if_true] at this
          exact this
      · simp only [x3_0, x3_1, x3_2, ob_some, cnd_f]
        refine bad q _ H' h' (fun H2 h2 => ?_)
        have := hq H2 h2
        rcases hc with ⟨hc, rfl⟩ | ⟨c, r1, hc, h1, hd⟩ | ⟨c, r1, hc, h1, h3, hp, rfl⟩
        · rw [hc, unqF] at this; exact this
        · rw [hc, unqF.eq_def] at this
          simp only [h1, hd] at this
          exact this
        · rw [hc, unqF.eq_def] at this
          simp only [if_neg h1, if_neg h3, hp] at this
          exact this
  have nb : ∀ x : Bool, x = !(decide (l.head?.map (·.toNat) = some 39)) → f48_j5 (S (bs l)) (B x) H0 Q := fun x hx => by
    rw [f48_j5_eq]
    refine cnd_intro (fun h1 => ?_) (fun h1 => ?_)
    · have := hq H0 (HExt.refl H0)
      cases l with
      | nil => exact this
      | cons c r =>
        have hc : c.toNat ≠ 39 := by rw [h1] at hx; simpa using hx.symm
        simp only [unq, if_neg hc] at this
        exact this
    · cases l with
      | nil => rw [h1] at hx; simp at hx
      | cons c r =>
        have hc : c.toNat = 39 := by rw [h1] at hx; simpa using hx.symm
        have hbd : bldA [(0, 1, S (bs (c :: r))), (1, 1, I 1)] [S ⟨#[]⟩, I 0] = some (.agg [S (bs (c :: r)), I 1]) := rfl
        have hsd : sizedA 2 (.agg [S (bs (c :: r)), I 1]) = some [S (bs (c :: r)), I 1] := rfl
        rw [hbd, ob_some, hsd, ob_some]
        refine sc_new 1 (HExt.refl H0) (fun b H' h' => ?_)
        refine loop r.length r [c] [] 0 true .full b H' (fun _ => none) (Nat.le_refl _) rfl h' (.inl rfl) trivial (by simp) (fun H2 h2 => ?_)
        have := hq H2 h2
        simp only [unq, if_pos hc] at this
        exact this
  rw [f48_eq, s_eql, ob_some]
  refine cnd_intro (fun h1 => ?_) (fun h1 => ?_)
  · have : l = [] := by have : bs l = bs [] := by simpa using h1
                        exact bs_inj.1 this
    subst this
    exact nb true rfl
  · cases l with
    | nil => simp at h1
    | cons c r =>
      have i0 : ixA (S (bs (c :: r))) (I 0) = some (U8 c.toNat) := ixS (bs (c :: r)) [] r c (by rw [← tx_bs (c :: r)]; simp)
      have hne : binA Pg .neq 5 true (U8 c.toNat) (AV.raw (.int .u8 39)) = some (B (!decide (c.toNat = 39))) := by
        rw [k_neq]
        have : decide ((c.toNat : Int) = 39) = decide (c.toNat = 39) := by simp; omega
        rw [this]
      rw [i0, ob_some, hne, ob_some]
      exact nb _ (by simp)
end
end Go.Hx
namespace Go.Hx
def nextV (p : Nat) : L1 → AV
  | .tok k w n => .tup [encK ⟨k, bs w, p⟩, I ((p + n : Nat) : Int), I 0]
  | .bad n e => .tup [zeroK, I ((p + n : Nat) : Int), I e]
theorem encK_sz (t : Tk) : sizedA 3 (encK t) = some [I t.k, S t.s, I t.p] := rfl
theorem encK_sp (t : Tk) : spliceA 0 [I t.k, S t.s, I t.p] [I 0, S ⟨#[]⟩, I 0] = some [I t.k, S t.s, I t.p] := rfl
theorem encK_pt (t : Tk) : partA true 0 3 [I t.k, S t.s, I t.p] = some (encK t) := rfl
theorem zK_b : bldA [] [I 0, S ⟨#[]⟩, I 0] = some zeroK := rfl
theorem zK_sz : sizedA 3 zeroK = some [I 0, S ⟨#[]⟩, I 0] := rfl
theorem zK_sp : spliceA 0 [I 0, S ⟨#[]⟩, I 0] [I 0, S ⟨#[]⟩, I 0] = some [I 0, S ⟨#[]⟩, I 0] := rfl
theorem zK_pt : partA true 0 3 [I 0, S ⟨#[]⟩, I 0] = some zeroK := rfl
section
variable {T : Nat → Option Nat} {H0 H : Heap} {b : Nat} {s : ByteArray} {pre r : List UInt8} {Q : Post}
def textL (r : List UInt8) : L1 := match unq r with
  | .ok s n => .tok 4 s n
  | .bad n e => .bad n e
theorem unq_len {r s : List UInt8} {n : Nat} (h : unq r = .ok s n) : s.length ≤ 256 ∧ 1 ≤ n ∧ n ≤ r.length := by
  cases r with
  | nil => cases h
  | cons c r =>
    simp only [unq] at h
    split at h
    · have := unqF_len _ _ _ r (Nat.le_refl _) _ _ h
      simp only [List.length_cons]; omega
    · cases h
theorem unq_bad : ∀ (m p : Nat) (out r : List UInt8), r.length ≤ m → ∀ n e, unqF p out r = .bad n e → n ≤ p + r.length ∧ e ≠ 0 := by
  intro m
  induction m with
  | zero =>
    intro p out r hr n e h
    cases r with
    | nil => rw [unqF] at h; cases h; simp
    | cons c r => simp at hr
  | succ m ih =>
    intro p out r hr n e h
    cases r with
    | nil => rw [unqF] at h; cases h; simp
    | cons c r =>
      rw [unqF.eq_def] at h
      simp only [List.length_cons] at hr h ⊢
      split at h
      · split at h
        · cases h; simp
        · cases h
      · split at h
        · split at h
          · rename_i q hq
            cases h
            refine ⟨?_, by simp⟩
            cases r with
            | nil => simp only [escR] at hq; cases hq; simp
            | cons d r =>
              simp only [escR] at hq
              split at hq
              · cases hq
              · split at hq
                · cases hq; simp
                · split at hq
                  · rename_i q' hq'
                    cases hq
                    cases r with
                    | nil => simp only [hexR] at hq'; cases hq'; simp
                    | cons x r =>
                      simp only [hexR] at hq'
                      split at hq'
                      · cases hq'; simp
                      · cases r with
                        | nil => simp only at hq'; cases hq'; simp
                        | cons y r =>
                          simp only at hq'
                          split at hq'
                          · cases hq'; simp; omega
                          · cases hq'
                  · split at hq
                    · cases hq; omega
                    · cases hq
          · rename_i d k hd
            have h1 := escR_len hd
            have := ih _ _ (r.drop (k - 1)) (by simp; omega) _ _ h
            simp only [List.length_drop] at this; omega
        · split at h
          · have := ih _ _ r (by omega) _ _ h; omega
          · cases h; simp
theorem unq_bad' {r : List UInt8} {n : Nat} {e : Int} (h : unq r = .bad n e) : n ≤ r.length ∧ e ≠ 0 := by
  cases r with
  | nil => cases h; simp
  | cons c r =>
    simp only [unq] at h
    split at h
    · have := unq_bad _ _ _ r (Nat.le_refl _) _ _ h
      simp only [List.length_cons]; omega
    · cases h; simp
theorem c28 (h : Sc H0 T b s pre.length H) (e : tx s = pre ++ r) (hsz : s.size ≤ 1099511627776)
    (hq : ∀ H' p, Sc H0 T b s p H' → (∀ k w n, textL r = .tok k w n → p = pre.length + n) → Q (nextV pre.length (textL r)) H') : E 28 [Pt b] H Q := by
  have hb := size_bound e
  rw [f28_eq]
  refine c49 h e ?_
  refine c48 r (by omega) H _ (fun H1 e1 => ?_)
  have h1 := h.mono e1
  cases hu : unq r with
  | bad n er =>
    have hn := unq_bad' hu
    have hne : decide (er = 0) = false := decide_eq_false hn.2
    have hw : W64 ((pre.length : Int) + (n : Int)) = ((pre.length + n : Nat) : Int) := w64_add (by omega)
    simp only [uqV, x3_0, x3_1, x3_2, ob_some, i_neq, hne, Bool.not_false, cnd_t, nil_Pt, add_Pt, apL, h1.ld1, i_add, hw, zK_b, zK_sz, zK_sp, zK_pt]
    have := hq H1 pre.length h1
    simp only [textL, hu] at this
    exact this (fun _ _ _ h => by cases h)
  | ok w n =>
    have hn := unq_len hu
    have hw : W64 ((pre.length : Int) + (n : Int)) = ((pre.length + n : Nat) : Int) := w64_add (by omega)
    have hbd : bldA [(0, 1, I 4), (1, 1, S (bs w)), (2, 1, I pre.length)] [I 0, S ⟨#[]⟩, I 0] = some (encK ⟨4, bs w, pre.length⟩) := rfl
    have hne : (!decide ((0 : Int) = 0)) = false := rfl
    have es := encK_sz ⟨4, bs w, pre.length⟩
    have ep := encK_sp ⟨4, bs w, pre.length⟩
    have et := encK_pt ⟨4, bs w, pre.length⟩
    have h2 := h1.set (pre.length + n)
    simp only [uqV, x3_0, x3_1, x3_2, ob_some, i_neq, hne, cnd_f, nil_Pt, add_Pt, apL, h1.ld1, i_add, hw, hbd, es, ep, et, h1.st1, h2.ld1]
    have := hq _ _ h2
    simp only [textL, hu] at this
    exact this (fun _ _ _ h => by cases h; rfl)
theorem cv32 (c : UInt8) : cvtIA .i32 (U8 c.toNat) = some (R32 c.toNat) := by
  have : ∀ n : Fin 256, IntKind.i32.wrap (n.1 : Int) = (n.1 : Int) := by decide +kernel
  have := this ⟨c.toNat, byte_lt c⟩
  show some (AV.raw (.int .i32 (IntKind.i32.wrap _))) = _
  rw [this]
/-- behind what tells whether there is a token -/
theorem lexN {L : L1} {p : Nat} {H' : Heap} (h' : Sc H0 T b s (p + resN L) H') (hL : ∀ n e, L = .bad n e → n = 0 ∧ e = 4) (hq : ∀ p', Sc H0 T b s p' H' → (∀ k w n, L = .tok k w n → p' = p + n) → Q (nextV p L) H') :
    ob (extractA (resV p L) 0) fun r29 => ob (extractA (resV p L) 1) fun r31 => ob (sizedA 3 r29) fun b33 => ob (spliceA 0 b33 [I 0, S ⟨#[]⟩, I 0]) fun b34 => ob (unA .not r31) fun r35 => cndA r35 (ob (bldA [] [I 0, S ⟨#[]⟩, I 0]) fun r36 => ob (sizedA 3 r36) fun b37 => ob (spliceA 0 b37 [I 0, S ⟨#[]⟩, I 0]) fun b38 => ob (partA true 0 3 b38) fun r39 => Q (.tup [r39, I p, I 4]) H')
      (ob (partA true 0 3 b34) fun r40 => ob (nilA (Pt b)) fun r41 => ob (addPA r41 1) fun r42 => apL r42 [] (ob (ldH H' false 1 r42) fun r43 => ob (sizedA 3 r40) fun b44 => ob (spliceA 0 b44 [I 0, S ⟨#[]⟩, I 0]) fun b45 => ob (partA true 0 3 b45) fun r46 => Q (.tup [r46, r43, I 0]) H')) := by
  cases L with
  | bad n e =>
    obtain ⟨rfl, rfl⟩ := hL n e rfl
    have : unA .not (B false) = some (B true) := rfl
    simp only [resV, x20, x21, ob_some, zK_b, zK_sz, zK_sp, zK_pt, this, cnd_t]
    exact hq _ h' (fun _ _ _ h => by cases h)
  | tok k w n =>
    have : unA .not (B true) = some (B false) := rfl
    have es := encK_sz ⟨k, bs w, p⟩
    have ep := encK_sp ⟨k, bs w, p⟩
    have et := encK_pt ⟨k, bs w, p⟩
    simp only [resN] at h'
    simp only [resV, x20, x21, ob_some, es, ep, et, this, cnd_f, nil_Pt, add_Pt, apL, h'.ld1]
    exact hq _ h' (fun _ _ _ h => by cases h; rfl)
theorem wordT_bad {k : Int} {p : UInt8 → Bool} {r : List UInt8} : ∀ n e, wordT k p r = .bad n e → n = 0 ∧ e = 4 := by
  intro n e h; simp only [wordT] at h; split at h <;> cases h; exact ⟨rfl, rfl⟩
theorem intT_bad {r : List UInt8} : ∀ n e, intT r = .bad n e → n = 0 ∧ e = 4 := by
  intro n e h; simp only [intT] at h; split at h <;> cases h; exact ⟨rfl, rfl⟩
theorem signF_bad {r : List UInt8} : ∀ n e, signF r = .bad n e → n = 0 ∧ e = 4 := by
  intro n e h; simp only [signF] at h; split at h <;> cases h; exact ⟨rfl, rfl⟩
/-- the next token -/
theorem c18 {c : UInt8} (h : Sc H0 T b s pre.length H) (e : tx s = pre ++ c :: r) (hsz : s.size ≤ 1099511627776)
    (hq : ∀ H' p, Sc H0 T b s p H' → (∀ k w n, lex1 (c :: r) = .tok k w n → p = pre.length + n) → Q (nextV pre.length (lex1 (c :: r))) H') : E 18 [Pt b] H Q := by
  have z : ([I 0, S ⟨#[]⟩, I 0] : List AV) = [I 0, S ⟨#[]⟩, I 0] := rfl
  rw [f18_eq]
  simp only [nil_Pt, ob_some, add_Pt, h.ld0, h.ld1, ixS s pre r c e, cv32]
  have e39 : binA Pg .eql 21 true (R32 c.toNat) (AV.raw (.int .i32 39)) = some (B (decide (c.toNat = 39))) := by
    rw [k_eql]
    have : decide ((c.toNat : Int) = 39) = decide (c.toNat = 39) := by simp; omega
    rw [this]
  rw [e39, ob_some]
  refine cnd_intro (fun h1 => ?_) (fun h1 => ?_)
  · have h1 : c.toNat = 39 := by simpa using h1
    refine c28 h e hsz (fun H' p h' hp => ?_)
    have hl : lex1 (c :: r) = textL (c :: r) := by simp only [lex1, textL, if_pos h1] <;> cases unq (c :: r) <;> rfl
    have := hq H' p h' (by rw [hl]; exact hp)
    rw [hl] at this
    cases hL : textL (c :: r) with
    | bad n er =>
      rw [hL] at this
      simp only [nextV, x3_0, x3_1, x3_2, ob_some, zK_sz, zK_sp, zK_pt]; exact this
    | tok k w n =>
      have es := encK_sz ⟨k, bs w, pre.length⟩
      have ep := encK_sp ⟨k, bs w, pre.length⟩
      have et := encK_pt ⟨k, bs w, pre.length⟩
      rw [hL] at this
      simp only [nextV, x3_0, x3_1, x3_2, ob_some, es, ep, et]; exact this
  · have h1 : c.toNat ≠ 39 := by simpa using h1
    have u : uppI (c.toNat : Nat) = uppB c := rfl
    have l : lowI (c.toNat : Nat) = lowB c := rfl
    have d : digI (c.toNat : Nat) = digB c := rfl
    have j55 : ∀ (k : Int) (x : Bool), (x = true → k = 2 ∨ k = 3) → (∀ L, L = (if x = true then (if k = 2 then wordT 2 signB (c :: r) else intT (c :: r)) else signF (c :: r)) → ∀ H' p, Sc H0 T b s p H' → (∀ k w n, L = .tok k w n → p = pre.length + n) → Q (nextV pre.length L) H') →
        f18_j55 (Pt b) [I 0, S ⟨#[]⟩, I 0] (I k) (I pre.length) [I 0, S ⟨#[]⟩, I 0] (B x) H Q := fun k x hk hq => by
      rw [f18_j55_eq]
      refine cnd_intro (fun h2 => ?_) (fun h2 => ?_)
      · subst h2
        rcases hk rfl with rfl | rfl
        · refine c32_w h e hsz 2 (.inr rfl) (fun H' h' => ?_)
          have e2 : (if (2 : Int) = 1 then uppB else signB) = signB := rfl
          rw [e2] at h' ⊢
          exact lexN h' wordT_bad (fun p' h2 h3 => hq _ rfl H' p' h2 h3)
        · refine c32_n h e hsz (by simp) (fun H' h' => ?_)
          exact lexN h' intT_bad (fun p' h2 h3 => hq _ rfl H' p' h2 h3)
      · subst h2
        refine c33 h e hsz (fun H' h' => ?_)
        exact lexN h' signF_bad (fun p' h2 h3 => hq _ rfl H' p' h2 h3)
    have k1 : decide ((1 : Int) = 1) = true := rfl
    have k21 : decide ((2 : Int) = 1) = false := rfl
    have k31 : decide ((3 : Int) = 1) = false := rfl
    have k51 : decide ((5 : Int) = 1) = false := rfl
    have k22 : decide ((2 : Int) = 2) = true := rfl
    have k32 : decide ((3 : Int) = 2) = false := rfl
    have k52 : decide ((5 : Int) = 2) = false := rfl
    have k33 : decide ((3 : Int) = 3) = true := rfl
    have k53 : decide ((5 : Int) = 3) = false := rfl
    rw [c29, u]
    refine cnd_intro (fun h2 => ?_) (fun h2 => ?_)
    · rw [f18_j27_eq]
      simp only [nil_Pt, ob_some, add_Pt, h.ld1, i_eql, k1, cnd_t]
      refine c32_w h e hsz 1 (.inl rfl) (fun H' h' => ?_)
      have e2 : (if (1 : Int) = 1 then uppB else signB) = uppB := rfl
      rw [e2] at h' ⊢
      have hl : lex1 (c :: r) = wordT 1 uppB (c :: r) := by simp only [lex1, if_neg h1, if_pos h2]
      exact lexN h' wordT_bad (fun p' h2 h3 => by rw [← hl]; exact hq H' p' h2 (by rw [hl]; exact h3))
    · rw [c30, l]
      refine cnd_intro (fun h3 => ?_) (fun h3 => ?_)
      · rw [f18_j27_eq]
        simp only [nil_Pt, ob_some, add_Pt, h.ld1, i_eql, k21, cnd_f, k22, cnd_t]
        have hl : lex1 (c :: r) = wordT 2 signB (c :: r) := by simp only [lex1, if_neg h1, h2, h3, if_true]; rfl
        exact j55 2 true (fun _ => .inl rfl) (fun L hL H' p h' hp => by
          have : L = lex1 (c :: r) := by rw [hl, hL]; rfl
          subst this; exact hq H' p h' hp)
      · rw [c31, d]
        refine cnd_intro (fun h4 => ?_) (fun h4 => ?_)
        · rw [f18_j27_eq]
          simp only [nil_Pt, ob_some, add_Pt, h.ld1, i_eql, k31, cnd_f, k32, k33]
          have hl : lex1 (c :: r) = intT (c :: r) := by simp only [lex1, if_neg h1, h2, h3, h4, if_true]; rfl
          exact j55 3 true (fun _ => .inr rfl) (fun L hL H' p h' hp => by
            have : L = lex1 (c :: r) := by rw [hl, hL]; rfl
            subst this; exact hq H' p h' hp)
        · rw [f18_j27_eq]
          simp only [nil_Pt, ob_some, add_Pt, h.ld1, i_eql, k51, cnd_f, k52, k53]
          have hl : lex1 (c :: r) = signF (c :: r) := by simp only [lex1, if_neg h1, h2, h3, h4]; rfl
          exact j55 5 false (fun h => by cases h) (fun L hL H' p h' hp => by
            have : L = lex1 (c :: r) := by rw [hl, hL]; rfl
            subst this; exact hq H' p h' hp)
/-- what is blank is passed -/
theorem c17 (hsz : s.size ≤ 1099511627776) : ∀ (r pre : List UInt8) (H : Heap) (Q : Post), Sc H0 T b s pre.length H → tx s = pre ++ r →
    (∀ H' w r1, r = w ++ r1 → w.all blankB = true → (∀ c r2, r1 = c :: r2 → blankB c = false) → Sc H0 T b s (pre ++ w).length H' → Q (.tup []) H') → f17_l1 (Pt b) H Q := by
  intro r
  induction r with
  | nil =>
    intro pre H Q h e hq
    have hb := size_bound e
    rw [f17_l1_eq]
    have hlt : decide ((pre.length : Int) < (s.size : Int)) = false := by simp at hb ⊢; omega
    simp only [nil_Pt, ob_some, add_Pt, h.ld0, h.ld1, len_S, i_lss, hlt, cnd_f]
    rw [f17_j5_eq, cnd_f]
    exact hq H [] [] rfl rfl (fun _ _ h => by cases h) (by simpa using h)
  | cons c r ih =>
    intro pre H Q h e hq
    have hb := size_bound e
    simp only [List.length_cons] at hb
    rw [f17_l1_eq]
    have hlt : decide ((pre.length : Int) < (s.size : Int)) = true := by simp; omega
    simp only [nil_Pt, ob_some, add_Pt, h.ld0, h.ld1, len_S, i_lss, hlt, cnd_t, ixS s pre r c e]
    rw [c27, f17_j5_eq]
    refine cnd_intro (fun h1 => ?_) (fun h1 => ?_)
    · simp only [nil_Pt, ob_some, add_Pt, h.ld1]
      refine step1 h e hsz _ (fun H2 h2 e2 hl2 => ?_)
      refine ih (pre ++ [c]) H2 Q h2 e2 (fun H' w r1 hr hw hb h' => ?_)
      exact hq H' (c :: w) r1 (by rw [hr]; rfl) (by simp [h1, hw]) hb (by rw [List.append_assoc] at h'; exact h')
    · exact hq H [] (c :: r) rfl rfl (fun c' r2 h => by cases h; exact h1) (by simpa using h)
end
theorem lexW_blank : ∀ (w : List UInt8) (p : Nat) (r : List UInt8), w.all blankB = true → lexW p (w ++ r) = lexW (p + w.length) r := by
  intro w
  induction w with
  | nil => intro p r _; rfl
  | cons c w ih =>
    intro p r h
    simp only [List.all_cons, Bool.and_eq_true] at h
    rw [List.cons_append, lexW, if_pos h.1, ih _ _ h.2, List.length_cons]
    congr 1; omega
def allV (sz : Nat) (v : AV) : Except (Nat × Int) (List Tk) → Prop
  | .error (p, e) => v = .tup [.sl 0 true .full [], I p, I e]
  | .ok l => ∃ s' n' t', v = .tup [.sl s' n' t' (l.map encK), I sz, I 0] ∧ (n' = true ∨ s' = 3)
theorem lex1_len {c : UInt8} {r w : List UInt8} {k : Int} {n : Nat} (h : lex1 (c :: r) = .tok k w n) : 1 ≤ n ∧ n ≤ (c :: r).length ∧ k ≠ 6 := by
  simp only [lex1] at h
  split at h
  · split at h
    · rename_i hu; cases h; have := unq_len hu; exact ⟨this.2.1, this.2.2, by decide⟩
    · cases h
  · have tw : ∀ (p : UInt8 → Bool), p c = true → 1 ≤ ((c :: r).takeWhile p).length := fun p hp => by simp [List.takeWhile_cons, hp]
    split at h
    · rename_i hu
      simp only [wordT] at h
      split at h
      · cases h
      · cases h; exact ⟨tw _ hu, tw_le _ _, by decide⟩
    · split at h
      · rename_i hu
        simp only [wordT] at h
        split at h
        · cases h
        · cases h; exact ⟨tw _ (by show signI _ = true; simp only [signI]; rw [show lowI (c.toNat : Nat) = lowB c from rfl, hu]; rfl), tw_le _ _, by decide⟩
      · split at h
        · rename_i hu
          simp only [intT] at h
          split at h
          · cases h
          · cases h; exact ⟨tw _ hu, tw_le _ _, by decide⟩
        · simp only [signF] at h
          split at h
          · cases h
          · rename_i w' hw
            cases h
            have hp := List.find?_some hw
            have hm := List.mem_of_find?_eq_some hw
            simp only [pre?, Bool.and_eq_true, decide_eq_true_eq] at hp
            refine ⟨?_, hp.1, by decide⟩
            have : ∀ w ∈ signW, 1 ≤ w.length := by decide
            exact this _ hm
theorem lex1_bad {c : UInt8} {r : List UInt8} {n : Nat} {e : Int} (h : lex1 (c :: r) = .bad n e) : n ≤ (c :: r).length ∧ e ≠ 0 := by
  simp only [lex1] at h
  split at h
  · split at h
    · cases h
    · rename_i hu; cases h; exact unq_bad' hu
  · split at h
    · have := wordT_bad _ _ h; simp [this]
    · split at h
      · have := wordT_bad _ _ h; simp [this]
      · split at h
        · have := intT_bad _ _ h; simp [this]
        · have := signF_bad _ _ h; simp [this]
theorem app_obj {H0 H : Heap} {sz sz' bytes : Nat} {nil nil2 : Bool} {tip tip2 : Tip} {xs ys : List AV} {K : Post} (he : HExt H0 H) (ho : OwnS H0 H sz xs.length tip) (hs : nil = true ∨ sz' = sz) (h1 : 1 ≤ sz)
    (hb : (xs.length + ys.length) * bytes ≤ 140737488355328) (hk : ∀ s' n' tip' H', (n' = true ∨ s' = sz) → HExt H0 H' → H'.objs = H.objs → OwnS H0 H' sz (xs ++ ys).length tip' → K (.sl s' n' tip' (xs ++ ys)) H') :
    appA sz bytes (.sl sz' nil tip xs) (.sl sz nil2 tip2 ys) H K := by
  have ht : tailA sz (.sl sz nil2 tip2 ys) = some ys := by simp [tailA]
  unfold appA
  simp only [ht]
  cases ys with
  | nil => have := hk sz' nil tip H hs he rfl (by simpa using ho); simpa using this
  | cons y ys =>
    refine ⟨hs, h1, hb, ?_⟩
    cases tip with
    | any => exact ho.elim
    | full =>
      intro b hf
      exact hk sz false _ _ (.inr rfl) (he.setTip (he.fresh hf) _) rfl ⟨by simp [Heap.setTip], he.fresh hf⟩
    | tip b0 =>
      refine ⟨ho.1, fun b hf => ?_⟩
      have hf0 : H0.fresh b := by
        rcases hf with rfl | hf
        · exact ho.2
        · exact he.fresh hf
      exact hk sz false _ _ (.inr rfl) (he.setTip hf0 _) rfl ⟨by simp [Heap.setTip], hf0⟩
theorem c12 (s : ByteArray) (hsz : s.size ≤ 1099511627776) (H0 : Heap) (Q : Post) (hq : ∀ v H', allV s.size v (lexA s) → HExt H0 H' → Q v H') : E 12 [S s] H0 Q := by
  rw [f12_eq, len_S, ob_some, i_gtr, ob_some]
  refine cnd_intro (fun h1 => ?_) (fun h1 => ?_)
  · refine hq _ H0 ?_ (HExt.refl H0)
    rw [lexA, if_pos (by simp at h1; omega)]; rfl
  have hsz2 : s.size ≤ 8192 := by simp at h1; omega
  have hq : ∀ v H', allV s.size v (lexW 0 (tx s)) → HExt H0 H' → Q v H' := by rw [lexA, if_neg (by omega)] at hq; exact hq
  have hbd : bldA [(0, 1, S s)] [S ⟨#[]⟩, I 0] = some (.agg [S s, I 0]) := rfl
  have hsd : sizedA 2 (.agg [S s, I 0]) = some [S s, I 0] := rfl
  rw [hbd, ob_some, hsd, ob_some]
  refine sc_new 0 (HExt.refl H0) (fun b H1 h1 => ?_)
  have enter : ∀ (T : Nat → Option Nat) (r pre : List UInt8) (H : Heap) (K : Heap → Prop), Sc H0 T b s pre.length H → tx s = pre ++ r → (∀ H' pre' r', tx s = pre' ++ r' → lexW pre.length r = lexW pre'.length r' → r'.length ≤ r.length → (∀ c r2, r' = c :: r2 → blankB c = false) → Sc H0 T b s pre'.length H' → K H') → E 17 [Pt b] H (fun _ H => K H) := fun T r pre H K h e hk => by
    rw [f17_eq]
    refine c17 hsz r pre H _ h e (fun H' w r1 hr hw hb h' => ?_)
    refine hk H' (pre ++ w) r1 (by rw [e, hr, List.append_assoc]) (by rw [hr, lexW_blank w _ _ hw, List.length_append]) (by rw [hr]; simp) hb h'
  have loop : ∀ (m : Nat) (r pre : List UInt8) (out : List Tk) (s' : Nat) (n' : Bool) (t' : Tip) (H : Heap), r.length ≤ m → Sc H0 (tipT (out.length * 3) t') b s pre.length H → tx s = pre ++ r → (∀ c r2, r = c :: r2 → blankB c = false) → (n' = true ∨ s' = 3) → OwnS H0 H 3 out.length t' → out.length ≤ pre.length →
      (∀ v H', allV s.size v (match lexW pre.length r with | .error x => .error x | .ok l => .ok (out ++ l)) → HExt H0 H' → Q v H') → f12_l18 (S s) (Pt b) (.sl s' n' t' (out.map encK)) H Q := by
    intro m
    induction m with
    | zero =>
      intro r pre out s' n' t' H hm h e hbl hn ho hol hq
      have hr : r = [] := List.eq_nil_of_length_eq_zero (by omega)
      subst hr
      have hb := size_bound e
      have hlt : decide ((pre.length : Int) < (s.size : Int)) = false := by simp at hb ⊢; omega
      have hbd : bldA [(0, 1, I 6), (2, 1, I s.size)] [I 0, S ⟨#[]⟩, I 0] = some (encK ⟨6, e0, s.size⟩) := rfl
      have hmk : mkSlA 3 [encK ⟨6, e0, s.size⟩] = some (.sl 3 false .full [encK ⟨6, e0, s.size⟩]) := rfl
      have hp : pre.length = s.size := by simpa using hb
      rw [f12_l18_eq]
      simp only [nil_Pt, ob_some, add_Pt, h.ld1, len_S, i_lss, hlt, cnd_f, hbd, hmk]
      refine app_obj (bytes := 32) (xs := out.map encK) (ys := [encK ⟨6, e0, s.size⟩]) h.ext (by rw [List.length_map]; exact ho) hn (by omega) (by simp only [List.length_map, List.length_singleton]; omega) (fun s2 n2 t2 H2 hn2 e2 _ ho2 => ?_)
      refine hq _ H2 ?_ e2
      rw [lexW, hp]
      exact ⟨s2, n2, t2, by simp, hn2⟩
    | succ m ih =>
      intro r pre out s' n' t' H hm h e hbl hn ho hol hq
      cases r with
      | nil => exact ih [] pre out s' n' t' H (by simp) h e (fun _ _ h => by cases h) hn ho hol hq
      | cons c r =>
        have hb := size_bound e
        simp only [List.length_cons] at hb hm
        have hlt : decide ((pre.length : Int) < (s.size : Int)) = true := by simp; omega
        have hnb : blankB c = false := hbl c r rfl
        rw [f12_l18_eq]
        simp only [nil_Pt, ob_some, add_Pt, h.ld1, len_S, i_lss, hlt, cnd_t]
        refine c18 h e hsz (fun H2 p h2 hp => ?_)
        cases hL : lex1 (c :: r) with
        | bad n er =>
          have hn := lex1_bad hL
          have hne : decide (er = 0) = false := decide_eq_false hn.2
          simp only [nextV, x3_0, x3_1, x3_2, ob_some, zK_sz, zK_sp, i_neq, hne, Bool.not_false, cnd_t]
          refine hq _ H2 ?_ h2.ext
          rw [lexW, if_neg (by rw [hnb]; decide)]
          simp only [hL]
          rfl
        | tok k w n =>
          have hn1 := lex1_len hL
          have hp := hp k w n hL
          subst hp
          have hne : (!decide ((0 : Int) = 0)) = false := rfl
          have es := encK_sz ⟨k, bs w, pre.length⟩
          have ep := encK_sp ⟨k, bs w, pre.length⟩
          have et := encK_pt ⟨k, bs w, pre.length⟩
          have hmk : mkSlA 3 [encK ⟨k, bs w, pre.length⟩] = some (.sl 3 false .full [encK ⟨k, bs w, pre.length⟩]) := rfl
          simp only [nextV, x3_0, x3_1, x3_2, ob_some, es, ep, i_neq, decide_true, Bool.not_true, cnd_f, et, hmk]
          have ho2 := h2.own ho
          refine app_obj (bytes := 32) (xs := out.map encK) (ys := [encK ⟨k, bs w, pre.length⟩]) h2.ext (by rw [List.length_map]; exact ho2) hn (by omega) (by simp only [List.length_map, List.length_singleton]; omega) (fun s3 n3 t3 H3 hn3 e3 hobj ho3 => ?_)
          have hxs : out.map encK ++ [encK ⟨k, bs w, pre.length⟩] = (out ++ [(⟨k, bs w, pre.length⟩ : Tk)]).map encK := by simp
          rw [hxs] at ho3 ⊢
          rw [List.length_map] at ho3
          have hdr : (c :: r).drop n = r.drop (n - 1) := by
            obtain ⟨j, rfl⟩ : ∃ j, n = j + 1 := ⟨n - 1, by omega⟩
            simp
          have hsp : c :: r = (c :: r).take n ++ r.drop (n - 1) := by rw [← hdr, List.take_append_drop]
          have hpl : (pre ++ (c :: r).take n).length = pre.length + n := by rw [List.length_append, List.length_take]; omega
          have h3 : Sc H0 (fun _ => none) b s (pre ++ (c :: r).take n).length H3 := ⟨e3, h2.fr, by rw [hobj, hpl]; exact h2.obj, fun _ _ h => by cases h⟩
          refine enter _ (r.drop (n - 1)) (pre ++ (c :: r).take n) H3 _ (h3.tip ho3) (by rw [List.append_assoc, ← hsp]; exact e) (fun H4 pre' r' e4 hlw hrl hb4 h4 => ?_)
          have hlw' : lexW pre.length (c :: r) = match lexW pre'.length r' with | .error x => .error x | .ok l => .ok (⟨k, bs w, pre.length⟩ :: l) := by
            rw [lexW, if_neg (by rw [hnb]; decide)]
            simp only [hL]
            rw [← hpl, hlw] <;> cases lexW pre'.length r' <;> rfl
          refine ih r' pre' (out ++ [(⟨k, bs w, pre.length⟩ : Tk)]) s3 n3 t3 H4 (by simp only [List.length_drop] at hrl; omega) h4 e4 hb4 hn3 (h4.own ho3) ?_ (fun v H5 hv h5 => ?_)
          · have hb' := size_bound e4
            have : r'.length ≤ r.length - (n - 1) := by simpa using hrl
            rw [List.length_append, List.length_singleton]
            omega
          · refine hq v H5 ?_ h5
            rw [hlw']
            cases hx : lexW pre'.length r' with
            | error x => rw [hx] at hv; exact hv
            | ok l => rw [hx] at hv; simpa using hv
  refine enter _ (tx s) [] H1 _ h1 rfl (fun H2 pre' r' e2 hlw hrl hb2 h2 => ?_)
  refine loop r'.length r' pre' [] 0 true .full H2 (Nat.le_refl _) (h2.tip (sz := 3) (n := 0) (tip := .full) trivial) e2 hb2 (.inl rfl) trivial (by simp) (fun v H3 hv h3 => ?_)
  refine hq v H3 ?_ h3
  have hlw : lexW 0 (tx s) = lexW pre'.length r' := hlw
  rw [hlw]
  cases hx : lexW pre'.length r' with
  | error x => rw [hx] at hv; exact hv
  | ok l => rw [hx] at hv; simpa using hv
/-! ### The reader -/
/-- a reader stands before what is left -/
def RS (b : Nat) (r : List Tk) (H : Heap) : Prop := ∃ (L : List Tk) (i : Nat) (s' : Nat) (n' : Bool) (t' : Tip), H.objs b = some (.cells [.sl s' n' t' (L.map encK), I i]) ∧ L.drop i = r ∧ L.length ≤ 1048576
theorem RS.mono {b : Nat} {r : List Tk} {H H' : Heap} (h : RS b r H) (he : HExt H H') : RS b r H' := by
  obtain ⟨L, i, s', n', t', h1, h2⟩ := h
  exact ⟨L, i, s', n', t', he.obj h1, h2⟩
def newV (v : AV) (H : Heap) (sz : Nat) : Except (Nat × Int) (List Tk) → Prop
  | .error (p, e) => v = .tup [.raw (.pointer none), I p, I e]
  | .ok l => ∃ b, v = .tup [Pt b, I sz, I 0] ∧ RS b l H
theorem lexW_len : ∀ (m p : Nat) (r : List UInt8), r.length ≤ m → ∀ l, lexW p r = .ok l → l.length ≤ r.length + 1 ∧ endsT l := by
  intro m
  induction m with
  | zero =>
    intro p r hr l h
    have : r = [] := List.eq_nil_of_length_eq_zero (by omega)
    subst this
    rw [lexW] at h; cases h; exact ⟨by simp, rfl⟩
  | succ m ih =>
    intro p r hr l h
    cases r with
    | nil => rw [lexW] at h; cases h; exact ⟨by simp, rfl⟩
    | cons c r =>
      rw [lexW] at h
      simp only [List.length_cons] at hr ⊢
      split at h
      · have := ih _ r (by omega) _ h; exact ⟨by omega, this.2⟩
      · split at h
        · cases h
        · rename_i k w n hL
          have hn := lex1_len hL
          split at h
          · cases h
          · rename_i l' hl'
            cases h
            have := ih _ (r.drop (n - 1)) (by simp; omega) _ hl'
            simp only [List.length_drop] at this
            refine ⟨by simp; omega, ?_⟩
            cases l' with
            | nil => exact this.2.elim
            | cons t l' => exact ⟨hn.2.2, this.2⟩
theorem lexA_len {s : ByteArray} {l : List Tk} (h : lexA s = .ok l) : l.length ≤ 8193 ∧ endsT l := by
  simp only [lexA] at h
  split at h
  · cases h
  · have hs : (tx s).length = s.size := size_list s
    have := lexW_len _ _ (tx s) (Nat.le_refl _) _ h
    exact ⟨by omega, this.2⟩
theorem lexW_bad : ∀ (m p : Nat) (r : List UInt8), r.length ≤ m → ∀ q e, lexW p r = .error (q, e) → q ≤ p + r.length ∧ e ≠ 0 := by
  intro m
  induction m with
  | zero =>
    intro p r hr l e h
    have : r = [] := List.eq_nil_of_length_eq_zero (by omega)
    subst this
    rw [lexW] at h; cases h
  | succ m ih =>
    intro p r hr q e h
    cases r with
    | nil => rw [lexW] at h; cases h
    | cons c r =>
      rw [lexW] at h
      simp only [List.length_cons] at hr ⊢
      split at h
      · have := ih _ r (by omega) _ _ h; exact ⟨by omega, this.2⟩
      · split at h
        · rename_i n e' hL
          cases h
          have := lex1_bad hL
          simp only [List.length_cons] at this
          exact ⟨by omega, this.2⟩
        · rename_i k w n hL
          have hn := lex1_len hL
          simp only [List.length_cons] at hn
          split at h
          · rename_i x hx
            cases h
            have := ih _ (r.drop (n - 1)) (by simp; omega) _ _ hx
            simp only [List.length_drop] at this
            exact ⟨by omega, this.2⟩
          · cases h
theorem lexA_bad {s : ByteArray} {q : Nat} {e : Int} (h : lexA s = .error (q, e)) : q ≤ s.size ∧ e ≠ 0 := by
  simp only [lexA] at h
  split at h
  · cases h; simp
  · have hs : (tx s).length = s.size := size_list s
    have := lexW_bad _ _ (tx s) (Nat.le_refl _) _ _ h
    exact ⟨by omega, this.2⟩
theorem c7 (s : ByteArray) (hsz : s.size ≤ 1099511627776) (H0 : Heap) (Q : Post) (hq : ∀ v H', newV v H' s.size (lexA s) → HExt H0 H' → (∀ b w, v = .tup [Pt b, w, I 0] → H0.fresh b) → Q v H') : E 7 [S s] H0 Q := by
  rw [f7_eq]
  refine c12 s hsz H0 _ (fun v H1 hv h1 => ?_)
  cases hl : lexA s with
  | error x =>
    obtain ⟨p, e⟩ := x
    rw [hl] at hv hq
    have hv : v = .tup [.sl 0 true .full [], I p, I e] := hv
    subst hv
    have hne : decide (e = 0) = false := decide_eq_false (lexA_bad hl).2
    simp only [x3_0, x3_1, x3_2, ob_some, i_neq, hne, Bool.not_false, cnd_t]
    exact hq _ H1 rfl h1 (fun b w h => by cases h)
  | ok l =>
    rw [hl] at hv hq
    obtain ⟨s', n', t', rfl, hn⟩ := hv
    have hne : (!decide ((0 : Int) = 0)) = false := rfl
    have hbd : bldA [(0, 1, .sl s' n' t' (l.map encK))] [.sl 0 true .full [], I 0] = some (.agg [.sl s' n' t' (l.map encK), I 0]) := rfl
    have hsd : sizedA 2 (.agg [.sl s' n' t' (l.map encK), I 0]) = some [.sl s' n' t' (l.map encK), I 0] := rfl
    simp only [x3_0, x3_1, x3_2, ob_some, i_neq, decide_true, Bool.not_true, cnd_f, hbd, hsd]
    intro b hb
    have := lexA_len hl
    refine hq _ _ ⟨b, rfl, l, 0, s', n', t', setObj_same _ _ _, rfl, by omega⟩ (h1.setObj (h1.fresh hb) _) (fun b' w h => ?_)
    have : b = b' := by
      have : Pt b = Pt b' := by injection h with h; injection h
      simpa [Pt] using this
    exact this ▸ h1.fresh hb
end Go.Hx
namespace Go.Hx
def negN (a : Int) : Int × Int := if a = -9223372036854775808 then (0, 10) else (W64 (0 - a), 0)
def subN (a b : Int) : Int × Int := if bitsI .xor .i64 a b < 0 ∧ bitsI .xor .i64 a (W64 (a - b)) < 0 then (0, 10) else (W64 (a - b), 0)
def signN (a : Int) : Int := if a < 0 then -1 else if 0 < a then 1 else 0
def mulN (a b : Int) : Int × Int :=
  if W64 (signN a * signN b) = 1 then
    (if (0 < a ∧ W64 ((9223372036854775807 : Int).tdiv a) < b) ∨ (a < 0 ∧ b < W64 ((9223372036854775807 : Int).tdiv a)) then (0, 10) else (W64 (a * b), 0))
  else if W64 (signN a * signN b) = -1 then
    (if (0 < a ∧ b < W64 ((-9223372036854775808 : Int).tdiv a)) ∨ (0 < b ∧ a < W64 ((-9223372036854775808 : Int).tdiv b)) then (0, 10) else (W64 (a * b), 0))
  else (0, 0)
def encN (p : Int × Int) : AV := .tup [I p.1, I p.2]
theorem c96 (a : Int) (H : Heap) (Q : Post) : E 96 [I a] H Q = Q (encN (negN a)) H := by
  simp only [f96_eq, i_eql, ob_some, cnd_B, decide_eq_true_eq, neg_I, negN]
  split <;> rfl
theorem c95 (a b : Int) (H : Heap) (Q : Post) : E 95 [I a, I b] H Q = Q (encN (subN a b)) H := by
  simp only [f95_eq, f95_j7_eq, i_sub, i_xor, i_lss, ob_some, cnd_B, decide_eq_true_eq, subN]
  repeat' split
  all_goals first | rfl | (simp_all; done) | (exfalso; simp_all; done) | (simp_all; omega)
theorem c97 (a : Int) (H : Heap) (Q : Post) : E 97 [I a] H Q = Q (I (signN a)) H := by
  simp only [f97_eq, i_lss, i_gtr, ob_some, cnd_B, decide_eq_true_eq, signN]
  split
  · rfl
  · split <;> rfl
theorem c94 (a b : Int) (H : Heap) (Q : Post) : E 94 [I a, I b] H Q = Q (encN (mulN a b)) H := by
  by_cases ha : a = 0
  · subst ha
    have h : W64 (signN 0 * signN b) = 0 := by simp [signN]; rfl
    simp [f94_eq, c97, i_mul, ob_some, i_eql, cnd_B, h, mulN, f94_j50_eq, encN]
  by_cases hb : b = 0
  · subst hb
    have h : W64 (signN a * signN 0) = 0 := by simp [signN]; rfl
    simp [f94_eq, c97, i_mul, ob_some, i_eql, cnd_B, h, mulN, f94_j50_eq, encN]
  have q1 := fun x => i_quo (P := Pg) 2 true x a ha
  have q2 := fun x => i_quo (P := Pg) 2 true x b hb
  simp only [f94_eq, f94_c5_8a_eq, f94_c5_8b_eq, f94_c7_8a_eq, f94_c7_8b_eq, f94_j50_eq, f94_c5_17a_eq, f94_c5_17b_eq, f94_c5_17c_eq, f94_c7_17a_eq, f94_c7_17b_eq, f94_c7_17c_eq, f94_j35_eq, f94_j44_eq,
    c97, i_mul, i_eql, i_gtr, i_lss, q1, q2, ob_some, cnd_B, decide_eq_true_eq, mulN, Bool.false_eq_true, if_false, if_true]
  repeat' split
  all_goals first | rfl | (simp_all; done) | (exfalso; simp_all; done) | (exfalso; simp_all; omega) | (exfalso; omega)
theorem xor_neg {a b : Int} (ha : rng a) (hb : rng b) : bitsI .xor .i64 a b < 0 ↔ ((a < 0) ↔ ¬ (b < 0)) := by
  have h : bitsI .xor .i64 a b = (BitVec.ofInt 64 a ^^^ BitVec.ofInt 64 b).toInt := wrap_bv _
  have hm : ∀ x : BitVec 64, x.toInt < 0 ↔ x.msb = true := fun x => by rw [BitVec.msb_eq_toInt]; simp
  rw [h, hm, BitVec.msb_xor, BitVec.msb_eq_toInt, BitVec.msb_eq_toInt, toInt_of ha, toInt_of hb]
  by_cases h1 : a < 0 <;> by_cases h2 : b < 0 <;> simp [h1, h2]
def inOr (n : Int) : Int × Int := if -9223372036854775808 ≤ n ∧ n ≤ 9223372036854775807 then (n, 0) else (0, 10)
theorem subN_eq {a b : Int} (ha : rng a) (hb : rng b) : subN a b = inOr (a - b) := by
  have hw := w64_rng (a - b)
  obtain ⟨k, hk⟩ := w64_mod (a - b)
  simp only [subN, xor_neg ha hb, xor_neg ha hw, inOr]
  obtain ⟨a1, a2⟩ := ha
  obtain ⟨b1, b2⟩ := hb
  obtain ⟨w1, w2⟩ := hw
  have hk1 : k = 0 ∨ k = 1 ∨ k = -1 := by omega
  rcases hk1 with rfl | rfl | rfl
  · rw [if_neg (by omega), if_pos (by omega)]
    congr 1; omega
  · rw [if_pos (by omega), if_neg (by omega)]
  · rw [if_pos (by omega), if_neg (by omega)]
def addR (a b : Int) : Int × Int :=
  if (0 < b ∧ W64 (9223372036854775807 - b) < a) ∨ (b < 0 ∧ a < W64 (-9223372036854775808 - b)) then (0, 10) else (W64 (a + b), 0)
theorem addR_eq {a b : Int} (ha : rng a) (hb : rng b) : addR a b = inOr (a + b) := by
  obtain ⟨a1, a2⟩ := ha
  obtain ⟨b1, b2⟩ := hb
  simp only [addR, inOr]
  by_cases h1 : 0 < b
  · rw [w64_id (n := 9223372036854775807 - b) (by omega) (by omega)]
    by_cases h2 : 9223372036854775807 - b < a
    · rw [if_pos (.inl ⟨h1, h2⟩), if_neg (by omega)]
    · rw [if_neg (by omega), if_pos (by omega), w64_id (by omega) (by omega)]
  · by_cases h3 : b < 0
    · rw [w64_id (n := -9223372036854775808 - b) (by omega) (by omega)]
      by_cases h2 : a < -9223372036854775808 - b
      · rw [if_pos (.inr ⟨h3, h2⟩), if_neg (by omega)]
      · rw [if_neg (by omega), if_pos (by omega), w64_id (by omega) (by omega)]
    · rw [if_neg (by omega), if_pos (by omega), w64_id (by omega) (by omega)]
def subR (a b : Int) : Int × Int :=
  if b = -9223372036854775808 then (if 0 ≤ a then (0, 10) else (W64 (a - b), 0)) else addR a (W64 (0 - b))
theorem subR_eq {a b : Int} (ha : rng a) (hb : rng b) : subR a b = inOr (a - b) := by
  simp only [subR]
  by_cases h : b = -9223372036854775808
  · rw [if_pos h]
    obtain ⟨a1, a2⟩ := ha
    simp only [inOr]
    by_cases h2 : 0 ≤ a
    · rw [if_pos h2, if_neg (by omega)]
    · rw [if_neg h2, if_pos (by omega), w64_id (by omega) (by omega)]
  · rw [if_neg h]
    obtain ⟨b1, b2⟩ := id hb
    rw [w64_id (n := 0 - b) (by omega) (by omega), addR_eq ha ⟨by omega, by omega⟩]
    congr 1; omega


/-- a quotient tells whether a product is beyond -/
theorem gt_div {m a b : Int} (ha : 0 < a) : m / a < b ↔ m < a * b := by
  rw [Int.ediv_lt_iff_lt_mul ha, Int.mul_comm]
theorem div_rng {m a : Int} (hm : 0 ≤ m) (ha : 0 < a) : 0 ≤ m / a ∧ m / a ≤ m := ⟨Int.ediv_nonneg hm (by omega), Int.ediv_le_self _ hm⟩
theorem mulN_eq {a b : Int} (ha : rng a) (hb : rng b) : mulN a b = inOr (a * b) := by
  obtain ⟨a1, a2⟩ := ha
  obtain ⟨b1, b2⟩ := hb
  have w1 : W64 (1 : Int) = 1 := rfl
  have wm : W64 (-1 : Int) = -1 := rfl
  have w0 : W64 (0 : Int) = 0 := rfl
  simp only [mulN, inOr]
  rcases Int.lt_trichotomy a 0 with h | rfl | h
  · have sa : signN a = -1 := by simp [signN, h]
    rcases Int.lt_trichotomy b 0 with g | rfl | g
    · have sb : signN b = -1 := by simp [signN, g]
      have hp : 0 < a * b := Int.mul_pos_of_neg_of_neg h g
      have hd : (9223372036854775807 : Int).tdiv a = -(9223372036854775807 / (-a)) := by
        rw [← Int.tdiv_eq_ediv_of_nonneg (by omega), Int.tdiv_neg, Int.neg_neg]
      obtain ⟨d1, d2⟩ := div_rng (m := 9223372036854775807) (a := -a) (by omega) (by omega)
      have hg := gt_div (m := 9223372036854775807) (a := -a) (b := -b) (by omega)
      rw [Int.neg_mul_neg] at hg
      rw [sa, sb, show (-1 : Int) * -1 = 1 from rfl, w1, if_pos rfl, hd, w64_id (n := -(9223372036854775807 / (-a))) (by omega) (by omega)]
      by_cases hc : 9223372036854775807 < a * b
      · rw [if_pos (.inr ⟨h, by have := hg.2 hc; omega⟩), if_neg (by omega)]
      · have : ¬ 9223372036854775807 / (-a) < -b := fun x => hc (hg.1 x)
        rw [if_neg (by omega), if_pos (by omega), w64_id (by omega) (by omega)]
    · simp [signN, w0]
    · have sb : signN b = 1 := by have : ¬ b < 0 := by omega
                                  simp [signN, g, this]
      have hp : a * b < 0 := Int.mul_neg_of_neg_of_pos h g
      have hd : (-9223372036854775808 : Int).tdiv b = -(9223372036854775808 / b) := by
        rw [← Int.tdiv_eq_ediv_of_nonneg (by omega), ← Int.neg_tdiv]
      obtain ⟨d1, d2⟩ := div_rng (m := 9223372036854775808) (a := b) (by omega) g
      have hg := gt_div (m := 9223372036854775808) (a := b) (b := -a) g
      rw [Int.mul_neg, Int.mul_comm b a] at hg
      rw [sa, sb, show (-1 : Int) * 1 = -1 from rfl, wm, if_neg (by decide), if_pos rfl, hd, w64_id (n := -(9223372036854775808 / b)) (by omega) (by omega)]
      by_cases hc : a * b < -9223372036854775808
      · rw [if_pos (.inr ⟨g, by have := hg.2 (by omega); omega⟩), if_neg (by omega)]
      · have : ¬ 9223372036854775808 / b < -a := fun x => hc (by have := hg.1 x; omega)
        rw [if_neg (by omega), if_pos (by omega), w64_id (by omega) (by omega)]
  · simp [signN, w0]
  · have sa : signN a = 1 := by have : ¬ a < 0 := by omega
                                simp [signN, h, this]
    rcases Int.lt_trichotomy b 0 with g | rfl | g
    · have sb : signN b = -1 := by simp [signN, g]
      have hp : a * b < 0 := Int.mul_neg_of_pos_of_neg h g
      have hd : (-9223372036854775808 : Int).tdiv a = -(9223372036854775808 / a) := by
        rw [← Int.tdiv_eq_ediv_of_nonneg (by omega), ← Int.neg_tdiv]
      obtain ⟨d1, d2⟩ := div_rng (m := 9223372036854775808) (a := a) (by omega) h
      have hg := gt_div (m := 9223372036854775808) (a := a) (b := -b) h
      rw [Int.mul_neg] at hg
      rw [sa, sb, show (1 : Int) * -1 = -1 from rfl, wm, if_neg (by decide), if_pos rfl, hd, w64_id (n := -(9223372036854775808 / a)) (by omega) (by omega)]
      by_cases hc : a * b < -9223372036854775808
      · rw [if_pos (.inl ⟨h, by have := hg.2 (by omega); omega⟩), if_neg (by omega)]
      · have : ¬ 9223372036854775808 / a < -b := fun x => hc (by have := hg.1 x; omega)
        rw [if_neg (by omega), if_pos (by omega), w64_id (by omega) (by omega)]
    · simp [signN, w0]
    · have sb : signN b = 1 := by have : ¬ b < 0 := by omega
                                  simp [signN, g, this]
      have hp : 0 < a * b := Int.mul_pos h g
      have hd : (9223372036854775807 : Int).tdiv a = 9223372036854775807 / a := Int.tdiv_eq_ediv_of_nonneg (by omega)
      obtain ⟨d1, d2⟩ := div_rng (m := 9223372036854775807) (a := a) (by omega) h
      have hg := gt_div (m := 9223372036854775807) (a := a) (b := b) h
      rw [sa, sb, show (1 : Int) * 1 = 1 from rfl, w1, if_pos rfl, hd, w64_id (n := 9223372036854775807 / a) (by omega) (by omega)]
      by_cases hc : 9223372036854775807 < a * b
      · rw [if_pos (.inl ⟨h, hg.2 hc⟩), if_neg (by omega)]
      · have : ¬ 9223372036854775807 / a < b := fun x => hc (hg.1 x)
        rw [if_neg (by omega), if_pos (by omega), w64_id (by omega) (by omega)]
def mulR (a b : Int) : Int × Int :=
  if a = 0 ∨ b = 0 then (0, 0)
  else if (a = -9223372036854775808 ∧ b = -1) ∨ (b = -9223372036854775808 ∧ a = -1) then (0, 10)
  else if W64 ((W64 (a * b)).tdiv b) ≠ a ∨ (a = -9223372036854775808 ∧ b ≠ 1 ∧ W64 ((W64 (a * b)).tdiv a) ≠ b) then (0, 10)
  else (W64 (a * b), 0)
theorem mulR_eq {a b : Int} (ha : rng a) (hb : rng b) : mulR a b = inOr (a * b) := by
  obtain ⟨a1, a2⟩ := id ha
  obtain ⟨b1, b2⟩ := id hb
  simp only [mulR]
  by_cases h0 : a = 0 ∨ b = 0
  · rw [if_pos h0]
    rcases h0 with rfl | rfl <;> simp [inOr]
  · rw [if_neg h0]
    have ha0 : a ≠ 0 := fun e => h0 (.inl e)
    have hb0 : b ≠ 0 := fun e => h0 (.inr e)
    by_cases h1 : (a = -9223372036854775808 ∧ b = -1) ∨ (b = -9223372036854775808 ∧ a = -1)
    · rw [if_pos h1]
      rcases h1 with ⟨rfl, rfl⟩ | ⟨rfl, rfl⟩ <;> rfl
    · rw [if_neg h1]
      by_cases hin : -9223372036854775808 ≤ a * b ∧ a * b ≤ 9223372036854775807
      · rw [w64_id hin.1 hin.2, Int.mul_tdiv_cancel a hb0, Int.mul_tdiv_cancel_left b ha0, w64_id a1 a2, w64_id b1 b2, if_neg (by simp), inOr, if_pos hin]
      · have hne : W64 ((W64 (a * b)).tdiv b) ≠ a := by
          intro hq
          obtain ⟨c1, c2⟩ := w64_rng (a * b)
          obtain ⟨k, hk⟩ := w64_mod (a * b)
          generalize W64 (a * b) = c at hq c1 c2 hk
          have e1 := Int.mul_tdiv_add_tmod c b
          have e2 : (c.tmod b).natAbs < b.natAbs := by rw [Int.natAbs_tmod]; exact Nat.mod_lt _ (by omega)
          have e3 := Int.natAbs_tdiv_le_natAbs c b
          generalize c.tmod b = r at e1 e2
          generalize c.tdiv b = q at hq e1 e3
          by_cases hq2 : q = 9223372036854775808
          · subst hq2
            have hcl : c = -9223372036854775808 := by omega
            have hb1 : b = -1 := by omega
            subst hb1
            have : a * -1 = -a := by omega
            rw [this] at hin
            omega
          · rw [w64_id (by omega) (by omega)] at hq
            subst hq
            rw [Int.mul_comm] at hk
            have : r = k * 18446744073709551616 := by omega
            have hk0 : k = 0 := by omega
            subst hk0
            rw [Int.mul_comm] at hin
            omega
        rw [inOr, if_neg hin, if_pos (.inl hne)]
theorem extN0 (p : Int × Int) : extractA (encN p) 0 = some (I p.1) := rfl
theorem extN1 (p : Int × Int) : extractA (encN p) 1 = some (I p.2) := rfl
end Go.Hx
namespace Go.Hx
def valF (acc : Nat) (l : List UInt8) : Nat := l.foldl (fun n c => 10 * n + (c.toNat - 48)) acc
theorem valD_eq (l : List UInt8) : valD l = valF 0 l := rfl
theorem valF_ge : ∀ (l : List UInt8) (a : Nat), a ≤ valF a l := by
  intro l
  induction l with
  | nil => intro a; exact Nat.le_refl a
  | cons c l ih => intro a; have := ih (10 * a + (c.toNat - 48)); simp only [valF, List.foldl_cons] at this ⊢; omega
def numV (m : Bool) (d : ByteArray) : Int × Int := match numOf m d with
  | some n => (n, 0)
  | none => (0, 10)
/-- digits as a number's text has them -/
def DigL (m : Bool) (d : List UInt8) : Prop := d ≠ [] ∧ d.all digB = true ∧ (d.head?.map (·.toNat) ≠ some 48 ∨ (m = false ∧ d.length = 1))
def numB (m : Bool) (d : List UInt8) : List UInt8 := (if m = true then [45] else []) ++ d
theorem digB_iff {c : UInt8} : digB c = true ↔ 48 ≤ c.toNat ∧ c.toNat ≤ 57 := by
  show digI (c.toNat : Nat) = true ↔ _
  simp only [digI, Bool.and_eq_true, decide_eq_true_eq]; omega
theorem sub48 {c : UInt8} (h : digB c = true) : binA Pg .sub 5 true (byteA c) (AV.raw (.int .u8 48)) = some (U8 ((c.toNat - 48 : Nat) : Int)) := by
  have h := digB_iff.1 h
  have : ∀ n : Fin 10, IntKind.u8.wrap (((48 + n.1 : Nat) : Int) - 48) = (n.1 : Int) := by decide +kernel
  have := this ⟨c.toNat - 48, by omega⟩
  show some (AV.raw (.int .u8 (IntKind.u8.wrap ((c.toNat : Int) - 48)))) = _
  have e : ((c.toNat : Nat) : Int) = ((48 + (c.toNat - 48) : Nat) : Int) := by omega
  rw [e, this]
theorem cv64 (n : Nat) (h : n < 10) : cvtIA .i64 (U8 (n : Int)) = some (I (n : Int)) := by
  show some (AV.raw (.int .i64 (W64 (n : Int)))) = _
  rw [w64_nat (by omega)]; rfl
theorem mul10 {a : Nat} (h : a ≤ 9223372036854775808) : mulN (-(a : Int)) 10 = inOr (-((10 * a : Nat) : Int)) := by
  rw [mulN_eq ⟨by omega, by omega⟩ ⟨by omega, by omega⟩]; congr 1; omega
theorem mul10R {a : Nat} (h : a ≤ 9223372036854775808) : mulR (-(a : Int)) 10 = inOr (-((10 * a : Nat) : Int)) := by
  rw [mulR_eq ⟨by omega, by omega⟩ ⟨by omega, by omega⟩]; congr 1; omega
theorem inOr_ok {a : Nat} (h : a ≤ 9223372036854775808) : inOr (-(a : Int)) = (-(a : Int), 0) := by simp only [inOr]; rw [if_pos (by omega)]
theorem inOr_no {a : Nat} (h : 9223372036854775808 < a) : inOr (-(a : Int)) = (0, 10) := by simp only [inOr]; rw [if_neg (by omega)]
theorem sub_dig {a d : Nat} (h : a ≤ 9223372036854775808) (hd : d < 10) : subN (-(a : Int)) (d : Int) = inOr (-((a + d : Nat) : Int)) := by
  rw [subN_eq ⟨by omega, by omega⟩ ⟨by omega, by omega⟩]; congr 1; omega
theorem sub_digR {a d : Nat} (h : a ≤ 9223372036854775808) (hd : d < 10) : subR (-(a : Int)) (d : Int) = inOr (-((a + d : Nat) : Int)) := by
  rw [subR_eq ⟨by omega, by omega⟩ ⟨by omega, by omega⟩]; congr 1; omega
theorem numV_over {m : Bool} {d : List UInt8} (h : 9223372036854775808 < valD d) : numV m (bs d) = (0, 10) := by
  simp only [numV, numOf, tx_bs]
  rw [if_neg (by omega : ¬ valD d ≤ 9223372036854775808), if_neg (by omega : ¬ valD d ≤ 9223372036854775807)]
  cases m <;> rfl
theorem enc_err (e : Int) (he : e ≠ 0) (t : TypeId) : binA Pg .neq t true (I e) (I 0) = some (B true) := by rw [i_neq, decide_eq_false he]; rfl
theorem enc_ok (t : TypeId) : binA Pg .neq t true (I 0) (I 0) = some (B false) := rfl
theorem neg_num (m : Bool) (d : List UInt8) (h : valD d ≤ 9223372036854775808) : (if m = true then ((-(valD d : Int), 0) : Int × Int) else negN (-(valD d : Int))) = numV m (bs d) := by
  simp only [numV, numOf, tx_bs]
  cases m with
  | true => simp only [if_true, if_pos h]
  | false =>
    simp only [Bool.false_eq_true, if_false, negN]
    by_cases h1 : valD d ≤ 9223372036854775807
    · rw [if_pos h1, if_neg (by omega), w64_id (by omega) (by omega)]
      congr 1; omega
    · rw [if_neg h1, if_pos (by omega)]
theorem ixb (nil : Bool) (tip : Tip) (l pre r : List UInt8) (c : UInt8) (e : l = pre ++ c :: r) : ixaA 1 (.sl 1 nil tip (l.map byteA)) (I pre.length) = some [byteA c] :=
  ix_mk 1 nil tip _ pre.length (x := byteA c) (by rw [e]; exact get_mid byteA pre r c) rfl
theorem c89_l (m : Bool) (d : List UInt8) (hl : d.length ≤ 1099511627776) (hd : d.all digB = true) (H : Heap) (Q : Post) : ∀ (r pre : List UInt8) (a : Nat), d = pre ++ r → a ≤ 9223372036854775808 → valF a r = valD d →
    f89_l18 (B m) (I (-(a : Int))) (.sl 1 false .any (d.map byteA)) (I d.length) (I pre.length) H Q = Q (encN (numV m (bs d))) H := by
  intro r
  induction r with
  | nil =>
    intro pre a e ha hv
    have h1 : (pre.length : Int) = d.length := by rw [e]; simp
    have hv : a = valD d := hv
    rw [f89_l18_eq, i_lss, ob_some, cnd_B, h1]
    simp only [Int.lt_irrefl, decide_false, Bool.false_eq_true, if_false]
    rw [← neg_num m d (by omega), ← hv]
    cases m with
    | true => rw [cnd_t]; rfl
    | false => rw [cnd_f, c96, extN0, ob_some, extN1, ob_some]; rfl
  | cons c r ih =>
    intro pre a e ha hv
    have hlt : pre.length < d.length := by rw [e]; simp
    have hlt' : (pre.length : Int) < d.length := by omega
    have hc : digB c = true := List.all_eq_true.1 hd c (by rw [e]; simp)
    have hcd := digB_iff.1 hc
    have hv' : valF (10 * a + (c.toNat - 48)) r = valD d := hv
    have hge := valF_ge r (10 * a + (c.toNat - 48))
    rw [f89_l18_eq, i_lss, ob_some, cnd_B, if_pos (by simpa using hlt'), ixb false .any d pre r c e, ob_some, part_f, List.getElem?_cons_zero, ob_some, c94, mul10 ha, extN0, ob_some, extN1, ob_some]
    by_cases h1 : 10 * a ≤ 9223372036854775808
    · rw [inOr_ok h1]
      simp only [enc_ok, ob_some, cnd_f, sub48 hc, cv64 (c.toNat - 48) (by omega)]
      rw [c95, sub_dig h1 (by omega), extN0, ob_some, extN1, ob_some]
      by_cases h2 : 10 * a + (c.toNat - 48) ≤ 9223372036854775808
      · rw [inOr_ok h2]
        simp only [enc_ok, ob_some, cnd_f]
        rw [i_add, ob_some, w64_succ hlt (by omega)]
        have := ih (pre ++ [c]) (10 * a + (c.toNat - 48)) (by simp [e]) h2 hv'
        rw [List.length_append, List.length_singleton] at this
        exact this
      · rw [inOr_no (by omega)]
        simp only [enc_err 10 (by decide), ob_some, cnd_t]
        rw [numV_over (by omega)]; rfl
    · rw [inOr_no (by omega)]
      simp only [enc_err 10 (by decide), ob_some, cnd_t]
      rw [numV_over (by omega)]; rfl
theorem c93_l (m : Bool) (d : List UInt8) (hl : d.length ≤ 1099511627776) (hd : d.all digB = true) (H : Heap) (Q : Post) : ∀ (r pre : List UInt8), d = pre ++ r →
    f93_l22 (S (bs d)) (B m) (.sl 1 false .any (d.map byteA)) (I d.length) (I pre.length) H Q = Q (.tup [S (bs d), B m, B true]) H := by
  intro r
  induction r with
  | nil =>
    intro pre e
    have h1 : (pre.length : Int) = d.length := by rw [e]; simp
    rw [f93_l22_eq, i_lss, ob_some, cnd_B, h1]
    simp only [Int.lt_irrefl, decide_false, Bool.false_eq_true, if_false]
  | cons c r ih =>
    intro pre e
    have hlt : pre.length < d.length := by rw [e]; simp
    have hlt' : (pre.length : Int) < d.length := by omega
    have hc : digB c = true := List.all_eq_true.1 hd c (by rw [e]; simp)
    have hcd := digB_iff.1 hc
    have l1 : binA Pg .lss 5 true (byteA c) (AV.raw (.int .u8 48)) = some (B false) := by rw [byteA, k_lss, decide_eq_false (by omega)]
    have l2 : binA Pg .gtr 5 true (byteA c) (AV.raw (.int .u8 57)) = some (B false) := by rw [byteA, k_gtr, decide_eq_false (by omega)]
    rw [f93_l22_eq, i_lss, ob_some, cnd_B, if_pos (by simpa using hlt'), ixb false .any d pre r c e, ob_some, part_f, List.getElem?_cons_zero, ob_some, l1, ob_some, cnd_f, l2, ob_some, f93_j35_eq, cnd_f, i_add, ob_some, w64_succ hlt (by omega)]
    have := ih (pre ++ [c]) (by simp [e])
    rw [List.length_append, List.length_singleton] at this
    exact this
theorem e45 (c : UInt8) : binA Pg .eql 5 true (U8 c.toNat) (AV.raw (.int .u8 45)) = some (B (decide (c.toNat = 45))) := b_eq39 c 45 5 true
theorem e48 (c : UInt8) : binA Pg .eql 5 true (U8 c.toNat) (AV.raw (.int .u8 48)) = some (B (decide (c.toNat = 48))) := b_eq39 c 48 5 true
theorem ix0 (c : UInt8) (r : List UInt8) : ixA (S (bs (c :: r))) (I 0) = some (U8 c.toNat) := ixS (bs (c :: r)) [] r c (by rw [← tx_bs (c :: r)]; simp)
theorem s_ne {c : UInt8} {r : List UInt8} (t : TypeId) (l : Bool) : binA Pg .eql t l (S (bs (c :: r))) (S ⟨#[]⟩) = some (B false) := by
  rw [s_eql, decide_eq_false]
  intro h
  have : bs (c :: r) = bs [] := h
  have := bs_inj.1 this
  cases this
theorem c93 (m : Bool) (d : List UInt8) (hl : d.length ≤ 1099511627775) (hd : DigL m d) (H : Heap) (Q : Post) : E 93 [S (bs (numB m d))] H Q = Q (.tup [S (bs d), B m, B true]) H := by
  obtain ⟨hne, hall, hz⟩ := hd
  cases d with
  | nil => exact (hne rfl).elim
  | cons c r =>
    have hc : digB c = true := List.all_eq_true.1 hall c (by simp)
    have hcd := digB_iff.1 hc
    have fin : ∀ K : Prop, f93_j13 (S (bs (c :: r))) (B m) (B false) H Q = Q (.tup [S (bs (c :: r)), B m, B true]) H := fun _ => by
      rw [f93_j13_eq, cnd_f]
      show ob (lenA (.sl 1 false .any ((tx (bs (c :: r))).map byteA))) (fun r17 => f93_l22 (S (bs (c :: r))) (B m) (.sl 1 false .any ((tx (bs (c :: r))).map byteA)) r17 (I 0) H Q) = _
      rw [tx_bs, len_sl, ob_some, List.length_map]
      exact c93_l m (c :: r) (by omega) hall H Q (c :: r) [] rfl
    have hs0 : binA Pg .gtr 3 true (I ((numB m (c :: r)).length : Nat)) (I 0) = some (B true) := by
      rw [i_gtr, decide_eq_true]; simp [numB]; omega
    rw [f93_eq, len_S, ob_some, bs_size, hs0, ob_some, cnd_t]
    cases m with
    | true =>
      have hz : c.toNat ≠ 48 := by rcases hz with hz | hz <;> simp at hz; exact hz
      have e0 : numB true (c :: r) = 45 :: c :: r := rfl
      rw [e0, ix0, ob_some, e45, ob_some]
      have : decide ((45 : UInt8).toNat = 45) = true := rfl
      have sl : sliceSA (S (bs (45 :: c :: r))) (some (I 1)) none = some (S (bs (c :: r))) := slS_from (pre := [45]) (by rw [tx_bs]; rfl)
      rw [this, f93_j7_eq, cnd_t, sl, ob_some, s_ne, ob_some, cnd_f, ix0, ob_some, e48, ob_some, decide_eq_false hz, cnd_f]
      exact fin True
    | false =>
      have e0 : numB false (c :: r) = c :: r := rfl
      rw [e0, ix0, ob_some, e45, ob_some, decide_eq_false (by omega), f93_j7_eq, cnd_f, s_ne, ob_some, cnd_f, ix0, ob_some, e48, ob_some]
      by_cases h48 : c.toNat = 48
      · have h1 : r = [] := by
          rcases hz with hz | hz
          · simp [h48] at hz
          · simpa using hz.2
        subst h1
        rw [decide_eq_true h48, cnd_t, len_S, ob_some]
        exact fin True
      · rw [decide_eq_false h48, cnd_f]; exact fin True
theorem c89 (m : Bool) (d : List UInt8) (hl : d.length ≤ 1099511627775) (hd : DigL m d) (H : Heap) (Q : Post) : E 89 [S (bs (numB m d))] H Q = Q (encN (numV m (bs d))) H := by
  rw [f89_eq, c93 m d hl hd]
  simp only [x3_0, x3_1, x3_2, ob_some, not_B, Bool.not_true, cnd_f]
  show ob (lenA (.sl 1 false .any ((tx (bs d)).map byteA))) (fun r8 => f89_l18 (B m) (I 0) (.sl 1 false .any ((tx (bs d)).map byteA)) r8 (I 0) H Q) = _
  rw [tx_bs, len_sl, ob_some, List.length_map]
  exact c89_l m d (by omega) hd.2.1 H Q d [] 0 rfl (by omega) rfl
/-! ### The document's -/
end Go.Hx
namespace Go.Hx
theorem numR_bad {m : Bool} {r : List Tk} {e : Int} {p : Nat} (h : numR m r = .bad e p) : e = 4 := by
  cases r with
  | nil => cases h; rfl
  | cons t r =>
    simp only [numR] at h
    split at h <;> cases h
    rfl
theorem atomR_bad {r : List Tk} {e : Int} {p : Nat} (h : atomR r = .bad e p) : e = 4 := by
  cases r with
  | nil => cases h; rfl
  | cons t r =>
    simp only [atomR] at h
    split at h
    · exact numR_bad h
    · split at h
      · cases h
      · split at h
        · simp only [fieldR] at h
          split at h
          · split at h
            · cases h; rfl
            · split at h
              · cases h
              · cases h; rfl
          · cases h; rfl
        · split at h
          · split at h
            · cases h
            · cases h; rfl
          · cases h; rfl
theorem P_ne {g : Gl} {o : Nat} {r : List Tk} {R : PR} (h : P g o r R) : ∀ e p, R = .bad e p → e ≠ 0 := by
  induction h with
  | neg_num h1 h2 => intro e p h; rw [numR_bad h]; decide
  | last_atom h1 => intro e p h; rw [atomR_bad h]; decide
  | row_bad _ ih => exact ih
  | row_ok _ _ _ ih => exact ih
  | more_no => intro e p h; cases h
  | more_bad _ _ ih => exact ih
  | more_ok _ _ _ _ ih => exact ih
  | not_no _ _ ih => exact ih
  | not_long => intro e p h; cases h; decide
  | not_bad _ _ _ ih => exact ih
  | not_ok => intro e p h; cases h
  | cmp_bad _ ih => exact ih
  | cmp_no => intro e p h; cases h
  | cmp_bad2 _ _ _ _ ih => exact ih
  | cmp_ok => intro e p h; cases h
  | left_bad _ ih => exact ih
  | left_ok _ _ _ ih => exact ih
  | lmore_no => intro e p h; cases h
  | lmore_bad _ _ ih => exact ih
  | lmore_ok _ _ _ _ ih => exact ih
  | neg_no _ _ ih => exact ih
  | neg_long => intro e p h; cases h; decide
  | neg_bad _ _ _ _ ih => exact ih
  | neg_ok => intro e p h; cases h
  | last_long => intro e p h; cases h; decide
  | last_bad _ _ _ ih => exact ih
  | last_open => intro e p h; cases h; decide
  | last_ok => intro e p h; cases h
/-- what is left ends what there was -/
def Suf (r r1 : List Tk) : Prop := endsT r1 ∧ ∃ pre, r = pre ++ r1
theorem Suf.refl {r : List Tk} (h : endsT r) : Suf r r := ⟨h, [], rfl⟩
theorem Suf.trans {r r1 r2 : List Tk} (h : Suf r r1) (h' : Suf r1 r2) : Suf r r2 := by
  obtain ⟨_, p1, rfl⟩ := h
  obtain ⟨h2, p2, rfl⟩ := h'
  exact ⟨h2, p1 ++ p2, by simp⟩
theorem Suf.cons {t : Tk} {r r1 : List Tk} (h : Suf r r1) : Suf (t :: r) r1 := by
  obtain ⟨h1, p, rfl⟩ := h
  exact ⟨h1, t :: p, rfl⟩
theorem Suf.len {r r1 : List Tk} (h : Suf r r1) : r1.length ≤ r.length := by
  obtain ⟨_, p, rfl⟩ := h
  simp
theorem Suf.mem {r r1 : List Tk} (h : Suf r r1) {p : Tk → Prop} (hp : ∀ t ∈ r, p t) : ∀ t ∈ r1, p t := by
  obtain ⟨_, q, rfl⟩ := h
  exact fun t ht => hp t (by simp [ht])
def SufR (r : List Tk) : PR → Prop
  | .ok _ r1 => Suf r r1
  | .bad _ _ => True
theorem numR_suf {m : Bool} {r : List Tk} (h : endsT r) (hk : kindN r = 3) : SufR r (numR m r) := by
  cases r with
  | nil => exact h.elim
  | cons t r =>
    simp only [numR]
    split
    · trivial
    · exact (Suf.refl (endsT_tail h (by simp only [kindN] at hk; omega))).cons
theorem atomR_suf {r : List Tk} (h : endsT r) : SufR r (atomR r) := by
  cases r with
  | nil => exact h.elim
  | cons t r =>
    simp only [atomR]
    split
    · exact numR_suf h (by simpa [kindN])
    · rename_i h3
      split
      · rename_i h4; exact (Suf.refl (endsT_tail h (by omega))).cons
      · split
        · rename_i h2
          have ht := endsT_tail h (by omega : t.k ≠ 6)
          simp only [fieldR]
          split
          · rename_i hn
            obtain ⟨u, r1, rfl, hu, _⟩ := nextIs_ne hn
            have ht1 := endsT_tail ht (by omega : u.k ≠ 6)
            simp only [List.tail_cons]
            split
            · trivial
            · rename_i v r2
              split
              · exact (Suf.refl (endsT_tail ht1 (by omega))).cons.cons.cons
              · trivial
          · trivial
        · split
          · split
            · exact (Suf.refl (endsT_tail h (by omega))).cons
            · trivial
          · trivial
theorem nextIs_cons {k : Int} {s : ByteArray} {t : Tk} {r : List Tk} (h : nextIs k s (t :: r) = true) : t.k = k ∧ t.s = s := by
  simp only [nextIs, Bool.and_eq_true, decide_eq_true_eq] at h; exact h
theorem opOf_cons {lo hi k : Int} {t : Tk} {r : List Tk} (h : opOf lo hi (t :: r) = some k) : t.k = 5 := by
  obtain ⟨u, r1, e, hu⟩ := opOf_ne h
  cases e; exact hu
theorem P_suf {g : Gl} {o : Nat} {r : List Tk} {R : PR} (h : P g o r R) : endsT r → SufR r R := by
  have tl : ∀ {k : Int} {s : ByteArray} {t : Tk} {r : List Tk}, k ≠ 6 → nextIs k s (t :: r) = true → endsT (t :: r) → endsT r := fun hk h he => endsT_tail he (by rw [(nextIs_cons h).1]; exact hk)
  have tl5 : ∀ {lo hi k : Int} {t : Tk} {r : List Tk}, opOf lo hi (t :: r) = some k → endsT (t :: r) → endsT r := fun h he => endsT_tail he (by rw [opOf_cons h]; decide)
  have up : ∀ {r r1 : List Tk} {R : PR}, Suf r r1 → SufR r1 R → SufR r R := fun {r r1 R} h1 h2 => by
    cases R with
    | ok => exact h1.trans h2
    | bad => trivial
  have upc : ∀ {t : Tk} {r : List Tk} {R : PR}, SufR r R → SufR (t :: r) R := fun {t r R} h2 => by
    cases R with
    | ok => exact Suf.cons h2
    | bad => trivial
  induction h with
  | neg_num h1 h2 => intro he; exact upc (numR_suf (tl (by decide) h1 he) h2)
  | last_atom h1 => intro he; exact atomR_suf he
  | row_bad _ ih => exact fun _ => trivial
  | row_ok _ _ ih1 ih2 => intro he; have h1 := ih1 he; exact up h1 (ih2 h1.1)
  | more_no => intro he; exact Suf.refl he
  | more_bad => exact fun _ => trivial
  | more_ok hn _ _ ih1 ih2 => intro he; have h1 := ih1 (tl (by decide) hn he); exact upc (up h1 (ih2 h1.1))
  | not_no _ _ ih => exact ih
  | not_long => exact fun _ => trivial
  | not_bad => exact fun _ => trivial
  | not_ok hn _ _ ih => intro he; exact Suf.cons (ih (tl (by decide) hn he))
  | cmp_bad => exact fun _ => trivial
  | cmp_no _ _ ih => exact ih
  | cmp_bad2 => exact fun _ => trivial
  | cmp_ok _ hk _ ih1 ih2 => intro he; have h1 := ih1 he; exact h1.trans (Suf.cons (ih2 (tl5 hk h1.1)))
  | left_bad => exact fun _ => trivial
  | left_ok _ _ ih1 ih2 => intro he; have h1 := ih1 he; exact up h1 (ih2 h1.1)
  | lmore_no => intro he; exact Suf.refl he
  | lmore_bad => exact fun _ => trivial
  | lmore_ok hk _ _ ih1 ih2 => intro he; have h1 := ih1 (tl5 hk he); exact upc (up h1 (ih2 h1.1))
  | neg_no _ _ ih => exact ih
  | neg_long => exact fun _ => trivial
  | neg_bad => exact fun _ => trivial
  | neg_ok hn _ _ _ ih => intro he; exact Suf.cons (ih (tl (by decide) hn he))
  | last_long => exact fun _ => trivial
  | last_bad => exact fun _ => trivial
  | last_open => exact fun _ => trivial
  | last_ok hn _ _ hs ih => intro he; have h1 := ih (tl (by decide) hn he); exact Suf.cons (Suf.trans h1 ((Suf.refl (tl (by decide) hs h1.1)).cons))
/-! ### How large it is -/
theorem sizeX_nd (k : Int) (v : Vl) (a b : ByteArray) (l : List Ex) : sizeX (nd k v a b l) = 1 + sizeXs l := by simp [nd, sizeX]
theorem sizeXs_parts (k : Int) (l : List Ex) : sizeXs (partsJ k l) ≤ sizeXs l := by
  induction l with
  | nil => simp [partsJ, sizeXs]
  | cons x l ih =>
    have e : partsJ k (x :: l) = (if x.k = k then x.l else [x]) ++ partsJ k l := by simp [partsJ]
    rw [e, sizeXs_append]
    have := sizeX_eq x
    simp only [sizeXs]
    split
    · omega
    · simp only [sizeXs]; omega
theorem size_join (k : Int) (l : List Ex) (hl : l ≠ []) : sizeX (joinE k l) ≤ sizeXs l + if l.length ≤ 1 then 0 else 1 := by
  have hp := sizeXs_parts k l
  have h1 := len_sizeXs l
  have hl' : 1 ≤ l.length := List.length_pos_iff.2 hl
  simp only [joinE]
  split
  · rw [sizeX_nd]; simp only [sizeXs]; omega
  · rename_i x hx; rw [hx] at hp; simp only [sizeXs] at hp; omega
  · rename_i hne hns
    rw [sizeX_nd]
    split
    · rename_i h1
      obtain ⟨x, rfl⟩ := List.length_eq_one_iff.1 (by omega : l.length = 1)
      have e : partsJ k [x] = if x.k = k then x.l else [x] := by simp [partsJ]
      rw [e] at hns ⊢
      by_cases hk : x.k = k
      · rw [if_pos hk]; have := sizeX_eq x; simp only [sizeXs]; omega
      · rw [if_neg hk] at hns; exact (hns x rfl).elim
    · omega
def SizeR (g : Gl) (r : List Tk) : PR → Prop
  | .bad _ _ => True
  | .ok x r1 => match g with
    | .more _ l => l ≠ [] → sizeX x + r1.length ≤ r.length + sizeXs l + if l.length ≤ 1 then 0 else 1
    | .lmore _ y => sizeX x + r1.length ≤ r.length + sizeX y
    | _ => sizeX x + r1.length ≤ r.length
theorem numR_size {m : Bool} {r : List Tk} {x : Ex} {r1 : List Tk} (h : numR m r = .ok x r1) : sizeX x + r1.length ≤ r.length := by
  cases r with
  | nil => cases h
  | cons t r =>
    simp only [numR] at h
    split at h <;> cases h
    rw [sizeX_nd]; simp [sizeXs]; omega
theorem atomR_size {r : List Tk} {x : Ex} {r1 : List Tk} (h : atomR r = .ok x r1) : sizeX x + r1.length ≤ r.length := by
  cases r with
  | nil => cases h
  | cons t r =>
    simp only [atomR] at h
    split at h
    · exact numR_size h
    · split at h
      · cases h; rw [sizeX_nd]; simp [sizeXs]; omega
      · split at h
        · simp only [fieldR] at h
          split at h
          · rename_i hn
            obtain ⟨u, r2, rfl, hu, _⟩ := nextIs_ne hn
            simp only [List.tail_cons] at h
            split at h
            · cases h
            · split at h
              · cases h; rw [sizeX_nd]; simp [sizeXs]; omega
              · cases h
          · cases h
        · split at h
          · split at h
            · cases h; rw [sizeX_nd]; simp [sizeXs]; omega
            · cases h
          · cases h
theorem P_size {g : Gl} {o : Nat} {r : List Tk} {R : PR} (h : P g o r R) : SizeR g r R := by
  have gp : ∀ (b : Bool) {r : List Tk} {x : Ex} {r1 : List Tk}, SizeR (rowP b) r (.ok x r1) → sizeX x + r1.length ≤ r.length := fun b => by cases b <;> exact id
  have gl : ∀ (b : Bool) {r : List Tk} {x : Ex} {r1 : List Tk}, SizeR (leftP b) r (.ok x r1) → sizeX x + r1.length ≤ r.length := fun b => by cases b <;> exact id
  induction h with
  | neg_num h1 h2 =>
    rename_i o t r
    cases hr : numR true r with
    | bad => trivial
    | ok x r1 => have := numR_size hr; show _ ≤ _; simp; omega
  | last_atom h1 =>
    rename_i o r
    cases hr : atomR r with
    | bad => trivial
    | ok x r1 => exact atomR_size hr
  | row_bad => trivial
  | row_ok _ _ ih1 ih2 =>
    rename_i b o r x r1 R _ _
    cases R with
    | bad => trivial
    | ok y r2 =>
      have h1 := gp b ih1
      have h2 := ih2 (by simp)
      simp only [sizeXs, List.length_singleton, Nat.le_refl, if_true] at h2
      show _ ≤ _
      omega
  | more_no =>
    rename_i b l o r hn
    intro hl
    have := size_join (rowK b) l hl
    omega
  | more_bad => trivial
  | more_ok hn _ _ ih1 ih2 =>
    rename_i b l o t r x r1 R _ _
    cases R with
    | bad => trivial
    | ok y r2 =>
      intro hl
      have h1 := gp b ih1
      have h2 := ih2 (by simp)
      rw [sizeXs_append] at h2
      have hl' : 1 ≤ l.length := List.length_pos_iff.2 hl
      simp only [sizeXs, List.length_append, List.length_singleton] at h2
      rw [if_neg (by omega)] at h2
      simp only [List.length_cons]
      omega
  | not_no _ _ ih =>
    rename_i R _ _
    cases R with
    | bad => trivial
    | ok => exact ih
  | not_long => trivial
  | not_bad => trivial
  | not_ok hn _ _ ih =>
    have h1 : _ ≤ _ := ih
    show _ ≤ _
    rw [sizeX_nd]; simp only [sizeXs, List.length_cons]; omega
  | cmp_bad => trivial
  | cmp_no _ _ ih => exact ih
  | cmp_bad2 => trivial
  | cmp_ok _ hk _ ih1 ih2 =>
    have h1 : _ ≤ _ := ih1
    have h2 : _ ≤ _ := ih2
    show _ ≤ _
    simp only [List.length_cons] at h1
    rw [sizeX_nd]; simp only [sizeXs]; omega
  | left_bad => trivial
  | left_ok _ _ ih1 ih2 =>
    rename_i b o r x r1 R _ _
    cases R with
    | bad => trivial
    | ok y r2 =>
      have h1 := gl b ih1
      have h2 : _ ≤ _ := ih2
      show _ ≤ _
      omega
  | lmore_no => show _ ≤ _; omega
  | lmore_bad => trivial
  | lmore_ok hk _ _ ih1 ih2 =>
    rename_i b x o t r k y r1 R _ _
    cases R with
    | bad => trivial
    | ok z r2 =>
      have h1 := gl b ih1
      have h2 : _ ≤ _ := ih2
      rw [sizeX_nd] at h2
      simp only [sizeXs] at h2
      show _ ≤ _
      simp only [List.length_cons]; omega
  | neg_no _ _ ih =>
    rename_i R _ _
    cases R with
    | bad => trivial
    | ok => exact ih
  | neg_long => trivial
  | neg_bad => trivial
  | neg_ok hn _ _ _ ih =>
    have h1 : _ ≤ _ := ih
    show _ ≤ _
    rw [sizeX_nd]; simp only [sizeXs, List.length_cons]; omega
  | last_long => trivial
  | last_bad => trivial
  | last_open => trivial
  | last_ok hn _ _ hs ih =>
    have h1 : _ ≤ _ := ih
    show _ ≤ _
    simp only [List.length_cons] at h1 ⊢; omega
/-! ### Tokens as texts have them -/
def okTk (t : Tk) : Prop := t.s.size ≤ 1099511627775 ∧ (t.k = 3 → DigL false (tx t.s)) ∧ (t.k = 4 → t.s.size ≤ 256)
def gX (x : Ex) : Prop := x.var.size ≤ 1099511627776 ∧ x.fld.size ≤ 1099511627776 ∧ vr x.v
theorem allX_nd {p : Ex → Prop} (k : Int) (v : Vl) (a b : ByteArray) (l : List Ex) : allX p (nd k v a b l) ↔ p (nd k v a b l) ∧ allXs p l := by simp [nd, allX]
theorem allXs_of {p : Ex → Prop} {l : List Ex} (h : ∀ x ∈ l, allX p x) : allXs p l := by
  induction l with
  | nil => trivial
  | cons x l ih => exact ⟨h x (by simp), ih fun y hy => h y (by simp [hy])⟩
theorem gX_nd {k : Int} {v : Vl} (hv : vr v) (l : List Ex) : gX (nd k v e0 e0 l) := ⟨by show 0 ≤ _; omega, by show 0 ≤ _; omega, hv⟩
theorem vr_null : vr nullV := ⟨by show _ ≤ (0 : Int); omega, by show (0 : Int) ≤ _; omega⟩
def GoodR : PR → Prop
  | .bad _ _ => True
  | .ok x _ => allX gX x
theorem numOf_rng {m : Bool} {s : ByteArray} {n : Int} (h : numOf m s = some n) : rng n := by
  simp only [numOf] at h
  split at h
  · split at h
    · cases h; exact ⟨by omega, by omega⟩
    · cases h
  · split at h
    · cases h; exact ⟨by omega, by omega⟩
    · cases h
theorem numR_good {m : Bool} {r : List Tk} : GoodR (numR m r) := by
  cases r with
  | nil => trivial
  | cons t r =>
    simp only [numR]
    split
    · trivial
    · rename_i n hn
      exact (allX_nd _ _ _ _ _).2 ⟨gX_nd (numOf_rng hn) _, trivial⟩
theorem atomR_good {r : List Tk} (h : ∀ t ∈ r, okTk t) : GoodR (atomR r) := by
  cases r with
  | nil => trivial
  | cons t r =>
    simp only [atomR]
    have z : rng 0 := ⟨by omega, by omega⟩
    have o : rng 1 := ⟨by omega, by omega⟩
    split
    · exact numR_good
    · split
      · exact (allX_nd _ _ _ _ _).2 ⟨gX_nd (show vr (textV t.s) from z) _, trivial⟩
      · split
        · simp only [fieldR]
          split
          · rename_i hn
            obtain ⟨u, r2, rfl, hu, _⟩ := nextIs_ne hn
            simp only [List.tail_cons]
            split
            · trivial
            · rename_i v r3
              split
              · have h1 := (h t (by simp)).1
                have h2 := (h v (by simp)).1
                exact (allX_nd _ _ _ _ _).2 ⟨⟨by show t.s.size ≤ _; omega, by show v.s.size ≤ _; omega, vr_null⟩, trivial⟩
              · trivial
          · trivial
        · split
          · split
            · rename_i v hv
              refine (allX_nd _ _ _ _ _).2 ⟨gX_nd ?_ _, trivial⟩
              simp only [wordV] at hv
              split at hv
              · cases hv; exact o
              · split at hv
                · cases hv; exact z
                · split at hv
                  · cases hv; exact z
                  · cases hv
            · trivial
          · trivial
theorem good_join {k : Int} {l : List Ex} (h : ∀ x ∈ l, allX gX x) : allX gX (joinE k l) := by
  have hp : ∀ x ∈ partsJ k l, allX gX x := fun x hx => by
    simp only [partsJ, List.mem_flatMap] at hx
    obtain ⟨y, hy, hx⟩ := hx
    split at hx
    · exact allXs_mem ((allX_eq _ _).1 (h y hy)).2 hx
    · simp at hx; subst hx; exact h _ hy
  simp only [joinE]
  split
  · refine (allX_nd _ _ _ _ _).2 ⟨gX_nd ?_ _, trivial⟩
    by_cases hk : k = 16 <;> simp [hk, boolV, vr, rng]
  · rename_i x hx; exact hp x (by rw [hx]; simp)
  · exact (allX_nd _ _ _ _ _).2 ⟨gX_nd vr_null _, allXs_of hp⟩
theorem P_good {g : Gl} {o : Nat} {r : List Tk} {R : PR} (h : P g o r R) : (∀ t ∈ r, okTk t) → endsT r → (∀ b l, g = .more b l → ∀ x ∈ l, allX gX x) → (∀ b x, g = .lmore b x → allX gX x) → GoodR R := by
  have tl : ∀ {k : Int} {s : ByteArray} {t : Tk} {r : List Tk}, k ≠ 6 → nextIs k s (t :: r) = true → endsT (t :: r) → endsT r := fun hk h he => endsT_tail he (by rw [(nextIs_cons h).1]; exact hk)
  have tl5 : ∀ {lo hi k : Int} {t : Tk} {r : List Tk}, opOf lo hi (t :: r) = some k → endsT (t :: r) → endsT r := fun h he => endsT_tail he (by rw [opOf_cons h]; decide)
  have tm : ∀ {t : Tk} {r : List Tk}, (∀ u ∈ t :: r, okTk u) → ∀ u ∈ r, okTk u := fun h u hu => h u (by simp [hu])
  have bin : ∀ {k : Int} {x y : Ex}, allX gX x → allX gX y → allX gX (nd k nullV e0 e0 [x, y]) := fun h1 h2 => (allX_nd _ _ _ _ _).2 ⟨gX_nd vr_null _, h1, h2, trivial⟩
  have un : ∀ {k : Int} {x : Ex}, allX gX x → allX gX (nd k nullV e0 e0 [x]) := fun h1 => (allX_nd _ _ _ _ _).2 ⟨gX_nd vr_null _, h1, trivial⟩
  have rp : ∀ b b' l, rowP b ≠ .more b' l := fun b b' l h => by cases b <;> cases h
  have rp' : ∀ b b' l, rowP b ≠ .lmore b' l := fun b b' l h => by cases b <;> cases h
  have lp : ∀ b b' l, leftP b ≠ .more b' l := fun b b' l h => by cases b <;> cases h
  have lp' : ∀ b b' l, leftP b ≠ .lmore b' l := fun b b' l h => by cases b <;> cases h
  induction h with
  | neg_num h1 h2 => intros; exact numR_good
  | last_atom h1 => intro ht _ _ _; exact atomR_good ht
  | row_bad => intros; trivial
  | row_ok h1 _ ih1 ih2 =>
    intro ht he _ _
    have hs : Suf _ _ := P_suf h1 he
    have g1 : allX gX _ := ih1 ht he (fun _ _ h => (rp _ _ _ h).elim) (fun _ _ h => (rp' _ _ _ h).elim)
    exact ih2 (hs.mem ht) hs.1 (fun _ _ h x hx => by cases h; simp at hx; subst hx; exact g1) (fun _ _ h => by cases h)
  | more_no => intro ht he hl _; exact good_join (hl _ _ rfl)
  | more_bad => intros; trivial
  | more_ok hn h1 _ ih1 ih2 =>
    intro ht he hl _
    have he' := tl (by decide) hn he
    have hs : Suf _ _ := P_suf h1 he'
    have g1 : allX gX _ := ih1 (tm ht) he' (fun _ _ h => (rp _ _ _ h).elim) (fun _ _ h => (rp' _ _ _ h).elim)
    refine ih2 (hs.mem (tm ht)) hs.1 (fun _ _ h x hx => ?_) (fun _ _ h => by cases h)
    cases h
    simp only [List.mem_append, List.mem_singleton] at hx
    rcases hx with hx | hx
    · exact hl _ _ rfl x hx
    · subst hx; exact g1
  | not_no _ _ ih => intro ht he _ _; exact ih ht he (fun _ _ h => by cases h) (fun _ _ h => by cases h)
  | not_long => intros; trivial
  | not_bad => intros; trivial
  | not_ok hn _ _ ih => intro ht he _ _; exact un (ih (tm ht) (tl (by decide) hn he) (fun _ _ h => by cases h) (fun _ _ h => by cases h))
  | cmp_bad => intros; trivial
  | cmp_no _ _ ih => intro ht he _ _; exact ih ht he (fun _ _ h => by cases h) (fun _ _ h => by cases h)
  | cmp_bad2 => intros; trivial
  | cmp_ok h1 hk _ ih1 ih2 =>
    intro ht he _ _
    have hs : Suf _ _ := P_suf h1 he
    exact bin (ih1 ht he (fun _ _ h => by cases h) (fun _ _ h => by cases h)) (ih2 (tm (hs.mem ht)) (tl5 hk hs.1) (fun _ _ h => by cases h) (fun _ _ h => by cases h))
  | left_bad => intros; trivial
  | left_ok h1 _ ih1 ih2 =>
    intro ht he _ _
    have hs : Suf _ _ := P_suf h1 he
    have g1 : allX gX _ := ih1 ht he (fun _ _ h => (lp _ _ _ h).elim) (fun _ _ h => (lp' _ _ _ h).elim)
    exact ih2 (hs.mem ht) hs.1 (fun _ _ h => by cases h) (fun _ _ h => by cases h; exact g1)
  | lmore_no => intro ht he _ hx; exact hx _ _ rfl
  | lmore_bad => intros; trivial
  | lmore_ok hk h1 _ ih1 ih2 =>
    intro ht he _ hx
    have he' := tl5 hk he
    have hs : Suf _ _ := P_suf h1 he'
    have g1 : allX gX _ := ih1 (tm ht) he' (fun _ _ h => (lp _ _ _ h).elim) (fun _ _ h => (lp' _ _ _ h).elim)
    exact ih2 (hs.mem (tm ht)) hs.1 (fun _ _ h => by cases h) (fun _ _ h => by cases h; exact bin (hx _ _ rfl) g1)
  | neg_no _ _ ih => intro ht he _ _; exact ih ht he (fun _ _ h => by cases h) (fun _ _ h => by cases h)
  | neg_long => intros; trivial
  | neg_bad => intros; trivial
  | neg_ok hn _ _ _ ih => intro ht he _ _; exact un (ih (tm ht) (tl (by decide) hn he) (fun _ _ h => by cases h) (fun _ _ h => by cases h))
  | last_long => intros; trivial
  | last_bad => intros; trivial
  | last_open => intros; trivial
  | last_ok hn _ _ hs ih => intro ht he _ _; exact ih (tm ht) (tl (by decide) hn he) (fun _ _ h => by cases h) (fun _ _ h => by cases h)
/-! ### How slices lie -/
theorem norm_k (x : Ex) : (norm x).k = x.k := by rw [norm_eq]; rfl
theorem norm_v (x : Ex) : (norm x).v = x.v := by rw [norm_eq]; rfl
theorem norm_var (x : Ex) : (norm x).var = x.var := by rw [norm_eq]; rfl
theorem norm_fld (x : Ex) : (norm x).fld = x.fld := by rw [norm_eq]; rfl
theorem norm_l (x : Ex) : (norm x).l = x.l.map norm := by rw [norm_eq]; rfl
theorem norm_size (x : Ex) : sizeX (norm x) = sizeX x := by
  induction x using Ex.ind with
  | h x ih =>
    rw [sizeX_eq, sizeX_eq x, norm_l]
    have : ∀ l : List Ex, (∀ y ∈ l, y ∈ x.l) → sizeXs (l.map norm) = sizeXs l := by
      intro l
      induction l with
      | nil => intro _; rfl
      | cons y l ihl => intro h; simp only [List.map_cons, sizeXs, ih y (h y (by simp)), ihl fun z hz => h z (by simp [hz])]
    rw [this x.l fun _ h => h]
theorem norm_right (x : Ex) : rightP (norm x) = rightP x := by
  have hb : bareP (norm x) = bareP x := by simp only [bareP, norm_v, norm_var, norm_fld]
  have ha : (norm x).l.any (fun y => decide (y.k = (norm x).k)) = x.l.any fun y => decide (y.k = x.k) := by
    rw [norm_l, List.any_map, norm_k]
    congr 1
    funext y
    simp only [Function.comp, norm_k]
  simp only [rightP, hb, norm_k, norm_v, norm_var, norm_fld, norm_l, List.length_map]
  rw [norm_l, norm_k] at ha
  simp only [ha]
theorem norm_allR (x : Ex) : allR (norm x) = allR x := by
  induction x using Ex.ind with
  | h x ih =>
    rw [allR_eq, allR_eq x, norm_right, norm_l]
    have : ∀ l : List Ex, (∀ y ∈ l, y ∈ x.l) → allRs (l.map norm) = allRs l := by
      intro l
      induction l with
      | nil => intro _; rfl
      | cons y l ihl => intro h; simp only [List.map_cons, allRs, ih y (h y (by simp)), ihl fun z hz => h z (by simp [hz])]
    rw [this x.l fun _ h => h]
theorem norm_gX (x : Ex) : allX gX (norm x) ↔ allX gX x := by
  induction x using Ex.ind with
  | h x ih =>
    rw [allX_eq, allX_eq gX x, norm_l]
    have : ∀ l : List Ex, (∀ y ∈ l, y ∈ x.l) → (allXs gX (l.map norm) ↔ allXs gX l) := by
      intro l
      induction l with
      | nil => intro _; exact Iff.rfl
      | cons y l ihl => intro h; simp only [List.map_cons, allXs, ih y (h y (by simp)), ihl fun z hz => h z (by simp [hz])]
    rw [this x.l fun _ h => h]
    simp only [gX, norm_var, norm_fld, norm_v]
theorem gX_ok {x : Ex} (h : allX gX x) (hs : sizeX x ≤ 1099511627776) : allX okX x ∧ allX vX x := by
  induction x using Ex.ind with
  | h x ih =>
    have h' := (allX_eq _ _).1 h
    have hs' := sizeX_eq x
    have hl := len_sizeXs x.l
    have : ∀ l : List Ex, (∀ y ∈ l, y ∈ x.l) → sizeXs l ≤ 1099511627776 → allXs okX l ∧ allXs vX l := by
      intro l
      induction l with
      | nil => intro _ _; exact ⟨trivial, trivial⟩
      | cons y l ihl =>
        intro hy hl
        simp only [sizeXs] at hl
        have h1 := ih y (hy y (by simp)) (allXs_mem h'.2 (hy y (by simp))) (by omega)
        have h2 := ihl (fun z hz => hy z (by simp [hz])) (by omega)
        exact ⟨⟨h1.1, h2.1⟩, h1.2, h2.2⟩
    have := this x.l (fun _ h => h) (by omega)
    exact ⟨(allX_eq _ _).2 ⟨⟨by omega, h'.1.1, h'.1.2.1⟩, this.1⟩, (allX_eq _ _).2 ⟨h'.1.2.2, this.2⟩⟩
end Go.Hx
