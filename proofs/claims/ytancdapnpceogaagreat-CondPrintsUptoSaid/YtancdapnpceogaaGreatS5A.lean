/- Contracts of layer 6 in this seat. Own work (session 3; turned from S3C). -/
import Derived.Test.YtancdapnpceogaaGreatS5F
import Derived.Test.YtancdapnpceogaaGreatHxSimp
namespace Go.Hx
abbrev e0 : ByteArray := ⟨#[]⟩
structure Vl where
  k : Int
  n : Int
  s : ByteArray
  deriving DecidableEq
def encV (v : Vl) : AV := .agg [I v.k, I v.n, S v.s]
def nullV : Vl := ⟨0, 0, e0⟩
def boolV (b : Bool) : Vl := ⟨1, if b then 1 else 0, e0⟩
def intV (n : Int) : Vl := ⟨2, n, e0⟩
theorem u4 : Pg.underlying 4 = some .bool := by kernel_rfl
theorem v_ok (t : Bool) (v w : Vl) : eqOK Pg t 23 (encV v) (encV w) = true := by kernel_rfl
theorem v_eqlT (v w : Vl) : eqT Pg 4 23 (encV v) (encV w) =
    (match v.k == w.k with
     | true => match v.n == w.n with
       | true => match v.s == w.s with
         | true => some true
         | false => some false
       | false => some false
     | false => some false) := by kernel_rfl
theorem v_eql0 (t : Bool) (v w : Vl) : binA Pg .eql 23 t (encV v) (encV w) = (eqT Pg 4 23 (encV v) (encV w)).map B := by
  have := v_ok t v w
  simp only [encV] at this ⊢
  simp only [binA, this]; rfl
theorem v_eql (t : Bool) (v w : Vl) : binA Pg .eql 23 t (encV v) (encV w) = some (B (decide (v = w))) := by
  rw [v_eql0, v_eqlT]
  cases v; cases w
  simp only [Vl.mk.injEq]
  split
  · split
    · split
      · simp_all [ba_beq]
      · simp_all [ba_beq]
    · simp_all
  · simp_all
theorem c259 (H : Heap) (Q : Post) : E 259 [] H Q = Q (encV nullV) H := f259_eq () H Q
theorem c251 (b : Bool) (H : Heap) (Q : Post) : E 251 [B b] H Q = Q (encV (boolV b)) H := by
  cases b <;> simp [f251_eq, f251_j10_eq, ob_some, cnd_t, cnd_f, bldA, sizedA, spliceA, partA, cellsA, I, encV, boolV]
theorem c319 (n : Int) (H : Heap) (Q : Post) : E 319 [I n] H Q = Q (encV (intV n)) H := f319_eq _ H Q
def rightV (v : Vl) : Bool :=
  if v.k = 0 then decide (v = nullV) else if v.k = 1 then decide (v.s = e0) && decide (bitsI .andNot .i64 v.n 1 = 0) else if v.k = 2 then decide (v.s = e0)
  else if v.k = 3 then decide (v.n = 0) && decide ((v.s.size : Int) ≤ 256) else false
theorem enc_null : AV.agg [I 0, I 0, S e0] = encV nullV := rfl
theorem c121 (v : Vl) (H : Heap) (Q : Post) : E 121 [encV v] H Q = Q (B (rightV v)) H := by
  have hb : bldA [] [I 0, I 0, S e0] = some (encV nullV) := rfl
  have h0 : sizedA 3 (encV v) = some [I v.k, I v.n, S v.s] := rfl
  have h1 : partA true 0 3 [I v.k, I v.n, S v.s] = some (encV v) := rfl
  simp only [f121_eq, h0, h1, hb, part_f, ob_some, i_eql, cnd_B, v_eql, s_eql, i_andNot, len_S, i_leq, f121_j17_eq, f121_j29_eq, List.getElem?_cons_zero, List.getElem?_cons_succ, decide_eq_true_eq, rightV]
  split
  · rfl
  · split
    · split <;> simp_all
    · split
      · rfl
      · split
        · split <;> simp_all
        · rfl
end Go.Hx
