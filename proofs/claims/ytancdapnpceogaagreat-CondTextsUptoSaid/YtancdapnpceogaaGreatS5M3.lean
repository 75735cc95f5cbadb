/- Printed texts of conditions, as tokens. Own work. And what builds on it. -/
import Derived.Test.YtancdapnpceogaaGreatS5M2
import Derived.Test.YtancdapnpceogaaGreatS5M1
import Derived.Test.YtancdapnpceogaaGreatRows
import Derived.WalkKit
import Derived.ProofKit
import Derived.OpenShut
import Derived.JoinedCond
set_option maxRecDepth 20000
namespace Go.Hx
abbrev KT := Int × ByteArray
def kt (t : Tk) : KT := (t.k, t.s)
/-- no letter, digit or _ comes; no = or > comes -/
def calm (r : List UInt8) : Prop := ∀ c r', r = c :: r' → signB c = false ∧ uppB c = false ∧ c.toNat ≠ 61 ∧ c.toNat ≠ 62
def mild (r : List UInt8) : Prop := ∀ c r', r = c :: r' → c.toNat ≠ 61 ∧ c.toNat ≠ 62
def anyR (_ : List UInt8) : Prop := True
theorem calm_mild {r : List UInt8} (h : calm r) : mild r := fun c r' e => (h c r' e).2.2
theorem calm_nil : calm [] := fun _ _ h => by cases h
theorem calm_cons {c : UInt8} (r : List UInt8) (h1 : signB c = false) (h2 : uppB c = false) (h3 : c.toNat ≠ 61) (h4 : c.toNat ≠ 62) : calm (c :: r) := fun _ _ h => by cases h; exact ⟨h1, h2, h3, h4⟩
theorem calm32 (r : List UInt8) : calm (32 :: r) := calm_cons r (by decide) (by decide) (by decide) (by decide)
theorem calm41 (r : List UInt8) : calm (41 :: r) := calm_cons r (by decide) (by decide) (by decide) (by decide)
def LX (C : List UInt8 → Prop) (t : List UInt8) (ks : List KT) : Prop := ∀ p r l, C r → lexW (p + t.length) r = .ok l → ∃ l1, lexW p (t ++ r) = .ok (l1 ++ l) ∧ l1.map kt = ks
theorem LX.nil {C : List UInt8 → Prop} : LX C [] [] := fun p r l _ h => ⟨[], by simpa using h, rfl⟩
theorem LX.weak {C C' : List UInt8 → Prop} {t : List UInt8} {ks : List KT} (h : LX C t ks) (hc : ∀ r, C' r → C r) : LX C' t ks := fun p r l hr => h p r l (hc r hr)
theorem LX.append {C1 C2 : List UInt8 → Prop} {t1 t2 : List UInt8} {k1 k2 : List KT} (h1 : LX C1 t1 k1) (h2 : LX C2 t2 k2) (hc : ∀ r, C2 r → C1 (t2 ++ r)) : LX C2 (t1 ++ t2) (k1 ++ k2) := fun p r l hr hl => by
  obtain ⟨l2, e2, m2⟩ := h2 (p + t1.length) r l hr (by rw [List.length_append, ← Nat.add_assoc] at hl; exact hl)
  obtain ⟨l1, e1, m1⟩ := h1 p (t2 ++ r) _ (hc r hr) e2
  exact ⟨l1 ++ l2, by rw [List.append_assoc, e1, List.append_assoc], by rw [List.map_append, m1, m2]⟩
theorem LX.blank {C : List UInt8 → Prop} : LX C [32] [] := fun p r l _ h => ⟨[], by rw [List.singleton_append, lexW, if_pos (by rfl)]; exact h, rfl⟩
theorem LX.tok {C : List UInt8 → Prop} {c : UInt8} {t w : List UInt8} {k : Int} (hb : blankB c = false) (h : ∀ r, C r → lex1 (c :: (t ++ r)) = .tok k w (t.length + 1)) : LX C (c :: t) [(k, bs w)] := fun p r l hr hl => by
  refine ⟨[⟨k, bs w, p⟩], ?_, rfl⟩
  rw [List.cons_append, lexW, if_neg (by rw [hb]; decide)]
  have : (t ++ r).drop (t.length + 1 - 1) = r := by simp
  have hl' : lexW (p + (t.length + 1)) r = .ok l := by simpa using hl
  simp only [h r hr, this, hl']
  rfl
theorem takeW_stop {p : UInt8 → Bool} {w r : List UInt8} (h : w.all p = true) (hr : ∀ c r', r = c :: r' → p c = false) : (w ++ r).takeWhile p = w := by
  induction w with
  | nil =>
    cases r with
    | nil => rfl
    | cons c r => rw [List.nil_append, List.takeWhile_cons, hr c r rfl]; rfl
  | cons c w ih =>
    simp only [List.all_cons, Bool.and_eq_true] at h
    rw [List.cons_append, List.takeWhile_cons, if_pos h.1, ih h.2]
theorem upp_iff {c : UInt8} : uppB c = true ↔ 65 ≤ c.toNat ∧ c.toNat ≤ 90 := by
  show uppI (c.toNat : Nat) = true ↔ _
  simp only [uppI, Bool.and_eq_true, decide_eq_true_eq]; omega
theorem low_iff {c : UInt8} : lowB c = true ↔ 97 ≤ c.toNat ∧ c.toNat ≤ 122 := by
  show lowI (c.toNat : Nat) = true ↔ _
  simp only [lowI, Bool.and_eq_true, decide_eq_true_eq]; omega
theorem sign_iff {c : UInt8} : signB c = true ↔ lowB c = true ∨ digB c = true ∨ c.toNat = 95 := by
  show signI (c.toNat : Nat) = true ↔ lowI (c.toNat : Nat) = true ∨ digI (c.toNat : Nat) = true ∨ _
  simp only [signI, Bool.or_eq_true, decide_eq_true_eq]
  exact or_congr Iff.rfl (or_congr Iff.rfl (by omega))
theorem blank_iff {c : UInt8} : blankB c = true ↔ c.toNat = 32 ∨ c.toNat = 9 ∨ c.toNat = 10 := by
  show blankI (c.toNat : Nat) = true ↔ _
  simp only [blankI, Bool.or_eq_true, decide_eq_true_eq]; omega
theorem nf {b : Bool} {p : Prop} (h : b = true ↔ p) (hp : ¬ p) : b = false := by cases b; rfl; exact (hp (h.1 rfl)).elim
/-- a word in capitals -/
theorem lx_word {c : UInt8} {w : List UInt8} (h : (c :: w).all uppB = true) (hl : (c :: w).length ≤ 32) : LX calm (c :: w) [(1, bs (c :: w))] := by
  have hc : uppB c = true := by simp only [List.all_cons, Bool.and_eq_true] at h; exact h.1
  have hu := upp_iff.1 hc
  refine LX.tok (nf blank_iff (by omega)) (fun r hr => ?_)
  have ht : (c :: (w ++ r)).takeWhile uppB = c :: w := takeW_stop (w := c :: w) h (fun c r' e => (hr c r' e).2.1)
  simp only [lex1, if_neg (by omega : ¬ c.toNat = 39), hc, if_true, wordT, ht]
  rw [if_neg (by omega)]; rfl
/-- a name -/
theorem lx_name {s : ByteArray} (h : nameL (tx s) = true) : LX calm (tx s) [(2, s)] := by
  have hs : bs (tx s) = s := bs_tx s
  rw [← hs]
  generalize tx s = w at h
  cases w with
  | nil => cases h
  | cons c w =>
    simp only [nameL, Bool.and_eq_true, decide_eq_true_eq] at h
    obtain ⟨hc, ha, hl⟩ := h
    have hu := low_iff.1 hc
    refine LX.tok (nf blank_iff (by omega)) (fun r hr => ?_)
    have ht : (c :: (w ++ r)).takeWhile signB = c :: w := takeW_stop (w := c :: w) ha (fun c r' e => (hr c r' e).1)
    simp only [lex1, if_neg (by omega : ¬ c.toNat = 39), nf (upp_iff (c := c)) (by omega), Bool.false_eq_true, if_false, hc, if_true, wordT, ht]
    rw [if_neg (by omega)]; rfl
/-- a number -/
theorem lx_int {d : List UInt8} (h : DigL false d) (hl : d.length ≤ 19) : LX calm d [(3, bs d)] := by
  obtain ⟨hne, ha, h0⟩ := h
  cases d with
  | nil => exact (hne rfl).elim
  | cons c w =>
    have hc : digB c = true := by simp only [List.all_cons, Bool.and_eq_true] at ha; exact ha.1
    have hu := digB_iff.1 hc
    refine LX.tok (nf blank_iff (by omega)) (fun r hr => ?_)
    have ht : (c :: (w ++ r)).takeWhile digB = c :: w := takeW_stop (w := c :: w) ha (fun c r' e => by
      have := (hr c r' e).1
      cases hd : digB c with
      | false => rfl
      | true => rw [sign_iff.2 (.inr (.inl hd))] at this; cases this)
    simp only [lex1, if_neg (by omega : ¬ c.toNat = 39), nf (upp_iff (c := c)) (by omega), nf (low_iff (c := c)) (by omega), Bool.false_eq_true, if_false, hc, if_true, intT, ht]
    rw [if_neg (fun hh => ?_)]; rfl
    rcases hh with hh | ⟨hh, h48⟩
    · omega
    · rcases h0 with h0 | ⟨_, h0⟩
      · exact h0 (by simpa using h48)
      · omega
/-! ### Signs -/
theorem find_congr {α : Type} {p q : α → Bool} : ∀ {l : List α}, (∀ x ∈ l, p x = q x) → l.find? p = l.find? q
  | [], _ => rfl
  | x :: l, h => by rw [List.find?_cons, List.find?_cons, h x (by simp), find_congr fun y hy => h y (by simp [hy])]
theorem sign_two (c d : UInt8) (r : List UInt8) : signF (c :: d :: r) = signF [c, d] := by
  have : ∀ w ∈ signW, pre? (c :: d :: r) w = pre? [c, d] w := fun w hw => by
    have hl : w.length = 1 ∨ w.length = 2 := by
      have : ∀ w ∈ signW, w.length = 1 ∨ w.length = 2 := by decide
      exact this w hw
    rcases hl with hl | hl
    · simp [pre?, hl]
    · simp [pre?, hl]
  have h : signW.find? (pre? (c :: d :: r)) = signW.find? (pre? [c, d]) := find_congr this
  simp only [signF, h]
theorem sign_one (c d : UInt8) (h1 : d.toNat ≠ 61) (h2 : d.toNat ≠ 62) : signF [c, d] = signF [c] := by
  have e1 : d ≠ 61 := fun e => h1 (by rw [e]; rfl)
  have e2 : d ≠ 62 := fun e => h2 (by rw [e]; rfl)
  have : ∀ w ∈ signW, pre? [c, d] w = pre? [c] w := fun w hw => by
    simp only [signW, List.mem_cons, List.not_mem_nil, or_false] at hw
    rcases hw with rfl | rfl | rfl | rfl | rfl | rfl | rfl | rfl | rfl | rfl | rfl | rfl | rfl | rfl | rfl | rfl | rfl | rfl | rfl | rfl | rfl | rfl <;> simp [pre?, e1, e2]
  have h : signW.find? (pre? [c, d]) = signW.find? (pre? [c]) := find_congr this
  simp only [signF, h]
def sgn (c : UInt8) : Bool := decide (c.toNat ≠ 39) && (!uppB c && (!lowB c && (!digB c && !blankB c)))
theorem lex1_sign {c : UInt8} (h : sgn c = true) (r : List UInt8) : lex1 (c :: r) = signF (c :: r) := by
  simp only [sgn, Bool.and_eq_true, decide_eq_true_eq, Bool.not_eq_true'] at h
  obtain ⟨h1, h2, h3, h4, _⟩ := h
  simp only [lex1, if_neg h1, h2, h3, h4, Bool.false_eq_true, if_false]
theorem lx_sign {c : UInt8} (h : sgn c = true) (hf : signF [c] = .tok 5 [c] 1) : LX mild [c] [(5, bs [c])] := by
  have hb : blankB c = false := by
    simp only [sgn, Bool.and_eq_true, Bool.not_eq_true'] at h
    exact h.2.2.2.2
  refine LX.tok hb (fun r hr => ?_)
  rw [List.nil_append, lex1_sign h]
  cases r with
  | nil => exact hf
  | cons d r =>
    have := hr d r rfl
    rw [sign_two, sign_one c d this.1 this.2]; exact hf
theorem lx_sign2 {c d : UInt8} (h : sgn c = true) (hf : signF [c, d] = .tok 5 [c, d] 2) : LX anyR [c, d] [(5, bs [c, d])] := by
  have hb : blankB c = false := by
    simp only [sgn, Bool.and_eq_true, Bool.not_eq_true'] at h
    exact h.2.2.2.2
  refine LX.tok hb (fun r hr => ?_)
  rw [List.singleton_append, lex1_sign h, sign_two]; exact hf
theorem lx_open : LX mild [40] [(5, wOpen)] := lx_sign (by decide) (by kernel_rfl)
theorem lx_shut : LX mild [41] [(5, wShut)] := lx_sign (by decide) (by kernel_rfl)
theorem lx_minus : LX mild [45] [(5, wMinus)] := lx_sign (by decide) (by kernel_rfl)
theorem lx_dot : LX mild [46] [(5, ⟨#[46]⟩)] := lx_sign (by decide) (by kernel_rfl)
theorem mild32 (r : List UInt8) : mild (32 :: r) := calm_mild (calm32 r)
/-- a sign between blanks -/
theorem lx_op (j : Nat) (hj : j < 11) : LX anyR (32 :: (tx (opS j) ++ [32])) [(5, opS j)] := by
  have one : ∀ {c : UInt8}, sgn c = true → signF [c] = .tok 5 [c] 1 → LX anyR (32 :: ([c] ++ [32])) [(5, bs [c])] := fun h hf =>
    LX.append (t1 := [32]) LX.blank (LX.append (lx_sign h hf) LX.blank (C2 := anyR) (fun r _ => mild32 r)) (C1 := anyR) (fun _ _ => trivial)
  have two : ∀ {c d : UInt8}, sgn c = true → signF [c, d] = .tok 5 [c, d] 2 → LX anyR (32 :: ([c, d] ++ [32])) [(5, bs [c, d])] := fun h hf =>
    LX.append (t1 := [32]) LX.blank (LX.append (lx_sign2 h hf) LX.blank (C2 := anyR) (fun r _ => trivial)) (C1 := anyR) (fun _ _ => trivial)
  match j, hj with
  | 0, _ | 1, _ | 2, _ | 3, _ | 4, _ | 5, _ | 7, _ | 9, _ => exact one (by decide) (by kernel_rfl)
  | 6, _ | 8, _ | 10, _ => exact two (by decide) (by kernel_rfl)
  | n + 11, h => exact absurd h (by omega)
/-! ### Numbers -/
theorem digits_all (n : Nat) : (digitsN n).all digB = true := by
  induction n using digitsN.induct with
  | case1 n h =>
    rw [digitsN, if_pos h]
    simp only [List.all_cons, List.all_nil, Bool.and_true, digB_iff, dig_nat h]; omega
  | case2 n h ih =>
    rw [digitsN, if_neg h]
    have : n % 10 < 10 := by omega
    simp only [List.all_append, ih, List.all_cons, List.all_nil, Bool.and_true, Bool.true_and, digB_iff, dig_nat this]; omega
theorem digits_ne (n : Nat) : digitsN n ≠ [] := by
  rw [digitsN]; split <;> simp
theorem digits_head (n : Nat) : (digitsN n).head?.map (·.toNat) ≠ some 48 ∨ n = 0 := by
  induction n using digitsN.induct with
  | case1 n h =>
    rw [digitsN, if_pos h]
    rcases Nat.eq_zero_or_pos n with rfl | hp
    · exact .inr rfl
    · left
      simp only [List.head?_cons, Option.map_some, dig_nat h]
      intro hh; simp at hh; omega
  | case2 n h ih =>
    rw [digitsN, if_neg h]
    rcases ih with ih | ih
    · left
      cases hd : digitsN (n / 10) with
      | nil => exact (digits_ne _ hd).elim
      | cons c r => rw [hd] at ih; simpa using ih
    · omega
theorem digits_DigL (n : Nat) : DigL false (digitsN n) := by
  refine ⟨digits_ne n, digits_all n, ?_⟩
  rcases digits_head n with h | rfl
  · exact .inl h
  · exact .inr ⟨rfl, by rw [digitsN]; rfl⟩
theorem valD_append (l : List UInt8) (c : UInt8) : valD (l ++ [c]) = 10 * valD l + (c.toNat - 48) := by simp [valD]
theorem digits_val (n : Nat) : valD (digitsN n) = n := by
  induction n using digitsN.induct with
  | case1 n h =>
    rw [digitsN, if_pos h]
    simp only [valD, List.foldl_cons, List.foldl_nil, dig_nat h]; omega
  | case2 n h ih =>
    have : n % 10 < 10 := by omega
    rw [digitsN, if_neg h, valD_append, ih, dig_nat this]; omega
/-! ### Quotes -/
theorem hexV_D {d : Nat} (h : d < 16) : hexV (hexD d) = some d := by
  have : ∀ d : Fin 16, hexV (hexD d.val) = some d.val := by decide
  exact this ⟨d, h⟩
theorem esc_read (p : Nat) (c : UInt8) (out r : List UInt8) : unqF p out (escB c ++ r) = unqF (p + (escB c).length) (out ++ [c]) r := by
  have hc := byte_lt c
  by_cases h1 : c.toNat = 39 ∨ c.toNat = 92
  · simp only [escB, if_pos h1, List.cons_append, List.nil_append, List.length_cons, List.length_nil]
    rw [unqF]
    have h92 : (92 : UInt8).toNat = 92 := rfl
    simp only [h92, if_neg (by decide : ¬ (92 : Nat) = 39), if_true, escR, if_pos h1]
    rfl
  · by_cases h2 : 32 ≤ c.toNat ∧ c.toNat ≤ 126
    · simp only [escB, if_neg h1, if_pos h2, List.cons_append, List.nil_append, List.length_cons, List.length_nil]
      have hp : plainB c = true := by simp only [plainB, Bool.and_eq_true, decide_eq_true_eq]; exact h2
      rw [unqF, if_neg (fun h => h1 (.inl h)), if_neg (fun h => h1 (.inr h)), if_pos hp]
    · simp only [escB, if_neg h1, if_neg h2, List.cons_append, List.nil_append, List.length_cons, List.length_nil]
      have hp : plainB c = false := by
        cases hp : plainB c with
        | false => rfl
        | true => simp only [plainB, Bool.and_eq_true, decide_eq_true_eq] at hp; exact (h2 hp).elim
      have e1 : hexV (hexD (c.toNat / 16)) = some (c.toNat / 16) := hexV_D (by omega)
      have e2 : hexV (hexD (c.toNat % 16)) = some (c.toNat % 16) := hexV_D (by omega)
      have e3 : UInt8.ofNat (16 * (c.toNat / 16) + c.toNat % 16) = c := by
        rw [Nat.div_add_mod]; simp
      rw [unqF]
      have h92 : (92 : UInt8).toNat = 92 := rfl
      have h120 : (120 : UInt8).toNat = 120 := rfl
      simp only [h92, h120, if_neg (by decide : ¬ (92 : Nat) = 39), if_true, escR, hexR, e1, e2, e3, hp, Bool.false_eq_true, if_false, if_neg (by decide : ¬ ((120 : Nat) = 39 ∨ (120 : Nat) = 92)), if_neg (by decide : ¬ (120 : Nat) ≠ 120)]
      rfl
theorem quote_read : ∀ (l : List UInt8) (p : Nat) (out r : List UInt8), out.length + l.length ≤ 256 → unqF p out (escT l ++ 39 :: r) = .ok (out ++ l) (p + (escT l).length + 1) := by
  intro l
  induction l with
  | nil =>
    intro p out r h
    have h39 : (39 : UInt8).toNat = 39 := rfl
    simp only [escT, List.map_nil, List.flatten_nil, List.nil_append, List.length_nil, List.append_nil] at h ⊢
    rw [unqF, if_pos h39, if_neg (by omega)]
  | cons c l ih =>
    intro p out r h
    simp only [List.length_cons] at h
    have e : escT (c :: l) = escB c ++ escT l := by simp [escT]
    rw [e, List.append_assoc, esc_read, ih _ _ _ (by simp; omega), List.length_append]
    simp [Nat.add_assoc]
theorem lx_text {s : ByteArray} (h : s.size ≤ 256) : LX anyR (quoteT (tx s)) [(4, s)] := by
  have hs : bs (tx s) = s := bs_tx s
  have hl : (tx s).length = s.size := size_list s
  rw [← hs, tx_bs]
  generalize tx s = w at hl
  refine LX.tok (by decide) (fun r _ => ?_)
  have h39 : (39 : UInt8).toNat = 39 := rfl
  have hq : unqF 1 [] (escT w ++ [39] ++ r) = .ok ([] ++ w) (1 + (escT w).length + 1) := by
    rw [List.append_assoc]; exact quote_read w 1 [] r (by simp; omega)
  simp only [lex1, unq, h39, if_true, hq]
  simp [Nat.add_comm]
end Go.Hx
namespace Go.Hx
def kPar (x : Ex) (k : List KT) (need : Int) : List KT := if need ≤ levelX x then k else (5, wOpen) :: (k ++ [(5, wShut)])
def kJoinR (w : ByteArray) (need : Int) : List (Ex × List KT) → List KT
  | [] => []
  | p :: r => (1, w) :: (kPar p.1 p.2 need ++ kJoinR w need r)
def kJoinT (w : ByteArray) (need : Int) : List (Ex × List KT) → List KT
  | [] => []
  | p :: r => kPar p.1 p.2 need ++ kJoinR w need r
def valK (v : Vl) : List KT :=
  if v.k = 0 then [(1, sNULL)] else if v.k = 1 then [(1, if v.n = 1 then sTRUE else sFALSE)]
  else if v.k = 2 then (if v.n < 0 then [(5, wMinus)] else []) ++ [(3, bs (digitsN v.n.natAbs))] else [(4, v.s)]
def bodyK (k : Int) (v : Vl) (var fld : ByteArray) (ps : List (Ex × List KT)) : List KT :=
  if k = 1 then valK v else if k = 2 then [(2, var), (5, ⟨#[46]⟩), (2, fld)]
  else if k = 3 then (match ps with
    | p :: _ => (5, wMinus) :: (if numP p.1 = true then (5, wOpen) :: (kPar p.1 p.2 1 ++ [(5, wShut)]) else kPar p.1 p.2 7)
    | [] => [])
  else if k = 17 then kJoinT (rowW true) 2 ps
  else if k = 16 then kJoinT (rowW false) 3 ps
  else if k = 15 then (match ps with
    | p :: _ => (1, wNOT) :: kPar p.1 p.2 3
    | [] => [])
  else (match ps with
    | p :: q :: _ => kPar p.1 p.2 (need1 k) ++ ((5, opS (k - 4).toNat) :: kPar q.1 q.2 (need2 k))
    | _ => [])
mutual
def bareK : Ex → List KT
  | .mk k v var fld _ _ _ l => bodyK k v var fld (bareKs l)
def bareKs : List Ex → List (Ex × List KT)
  | [] => []
  | x :: r => (x, bareK x) :: bareKs r
end
theorem bareK_eq (x : Ex) : bareK x = bodyK x.k x.v x.var x.fld (bareKs x.l) := by cases x; simp [bareK, Ex.k, Ex.v, Ex.var, Ex.fld, Ex.l]
def exprK (x : Ex) (need : Int) : List KT := kPar x (bareK x) need
/-- it begins with what is no = and no > -/
def begM (t : List UInt8) : Prop := ∃ c r, t = c :: r ∧ c.toNat ≠ 61 ∧ c.toNat ≠ 62
theorem begM.mild {t : List UInt8} (h : begM t) (r : List UInt8) : mild (t ++ r) := by
  obtain ⟨c, t', rfl, h1, h2⟩ := h
  intro d r' e
  cases e; exact ⟨h1, h2⟩
theorem begM.append {t : List UInt8} (h : begM t) (r : List UInt8) : begM (t ++ r) := by
  obtain ⟨c, t', rfl, h1, h2⟩ := h
  exact ⟨c, t' ++ r, rfl, h1, h2⟩
structure LB (t : List UInt8) (ks : List KT) : Prop where
  lx : LX calm t ks
  beg : begM t
theorem lb_paren {t : List UInt8} {ks : List KT} (h : LB t ks) : LB (40 :: (t ++ [41])) ((5, wOpen) :: (ks ++ [(5, wShut)])) :=
  ⟨LX.append (t1 := [40]) lx_open (LX.append h.lx (lx_shut.weak (C' := calm) fun _ hr => calm_mild hr) (fun r _ => calm41 r)) (fun r _ => by show mild ((t ++ [41]) ++ r); rw [List.append_assoc]; exact h.beg.mild _), ⟨40, _, rfl, by decide, by decide⟩⟩
theorem lb_par {x : Ex} {t : List UInt8} {ks : List KT} (need : Int) (h : LB t ks) : LB (parT x t need) (kPar x ks need) := by
  simp only [parT, kPar]
  split
  · exact h
  · exact lb_paren h
theorem lx_sep {w : List UInt8} (hw : w ≠ []) (h : w.all uppB = true) (hl : w.length ≤ 32) : LX anyR (32 :: (w ++ [32])) [(1, bs w)] := by
  cases w with
  | nil => exact (hw rfl).elim
  | cons c w =>
    exact LX.append (t1 := [32]) LX.blank (LX.append (lx_word h hl) LX.blank (C2 := anyR) (fun r _ => calm32 r)) (C1 := anyR) (fun _ _ => trivial)
theorem lx_OR : LX anyR sOR [(1, rowW true)] := lx_sep (w := [79, 82]) (by decide) (by decide) (by decide)
theorem lx_AND : LX anyR sAND [(1, rowW false)] := lx_sep (w := [65, 78, 68]) (by decide) (by decide) (by decide)
theorem lx_NOT : LX anyR sNOT [(1, wNOT)] := LX.append (t2 := [32]) (lx_word (c := 78) (w := [79, 84]) (by decide) (by decide)) LX.blank (C2 := anyR) (fun r _ => calm32 r)
theorem lb_join {sep : List UInt8} {w : ByteArray} (hs : LX anyR sep [(1, w)]) (h32 : ∃ s, sep = 32 :: s) (need : Int) (l : List Ex) (h : ∀ x ∈ l, LB (bareT x) (bareK x)) (hne : l ≠ []) : LB (joinT sep need (bareTs l)) (kJoinT w need (bareKs l)) := by
  obtain ⟨s0, rfl⟩ := h32
  have hR : ∀ r : List Ex, (∀ x ∈ r, LB (bareT x) (bareK x)) → LX calm (joinR (32 :: s0) need (bareTs r)) (kJoinR w need (bareKs r)) ∧ (∀ r', calm r' → calm (joinR (32 :: s0) need (bareTs r) ++ r')) := by
    intro r
    induction r with
    | nil => intro _; exact ⟨by simp only [bareTs, bareKs, joinR, kJoinR]; exact LX.nil, fun r' hr => by simpa [bareTs, joinR] using hr⟩
    | cons y r ih =>
      intro hy
      obtain ⟨i1, i2⟩ := ih (fun z hz => hy z (by simp [hz]))
      have hp := lb_par (x := y) need (hy y (by simp))
      simp only [bareTs, bareKs, joinR, kJoinR]
      refine ⟨?_, fun r' hr => by rw [List.cons_append]; exact calm32 _⟩
      exact LX.append (k1 := [(1, w)]) hs (LX.append hp.lx i1 i2) (fun _ _ => trivial)
  cases l with
  | nil => exact (hne rfl).elim
  | cons y r =>
    obtain ⟨i1, i2⟩ := hR r (fun z hz => h z (by simp [hz]))
    have hp := lb_par (x := y) need (h y (by simp))
    simp only [bareTs, bareKs, joinT, kJoinT]
    exact ⟨LX.append hp.lx i1 i2, hp.beg.append _⟩
theorem lb_val {v : Vl} (hv : vr v) (hr : rightV v = true) : LB (valT v) (valK v) := by
  rw [rightV_eq hv] at hr
  simp only [valT, valK]
  by_cases h0 : v.k = 0
  · rw [if_pos h0, if_pos h0]
    exact ⟨lx_word (c := 78) (w := [85, 76, 76]) (by decide) (by decide), ⟨78, _, rfl, by decide, by decide⟩⟩
  rw [if_neg h0, if_neg h0]
  by_cases h1 : v.k = 1
  · rw [if_pos h1, if_pos h1]
    split
    · exact ⟨lx_word (c := 84) (w := [82, 85, 69]) (by decide) (by decide), ⟨84, _, rfl, by decide, by decide⟩⟩
    · exact ⟨lx_word (c := 70) (w := [65, 76, 83, 69]) (by decide) (by decide), ⟨70, _, rfl, by decide, by decide⟩⟩
  rw [if_neg h1, if_neg h1]
  by_cases h2 : v.k = 2
  · rw [if_pos h2, if_pos h2]
    have hn : (digitsN v.n.natAbs).length ≤ 19 := digits_len20 _ (by have := hv.1; have := hv.2; omega)
    have hi := lx_int (digits_DigL v.n.natAbs) hn
    have hb : begM (digitsN v.n.natAbs) := by
      have ha := digits_all v.n.natAbs
      cases hd : digitsN v.n.natAbs with
      | nil => exact (digits_ne _ hd).elim
      | cons c r =>
        rw [hd] at ha
        simp only [List.all_cons, Bool.and_eq_true] at ha
        have := digB_iff.1 ha.1
        exact ⟨c, r, rfl, by omega, by omega⟩
    simp only [numT]
    split
    · exact ⟨LX.append lx_minus hi (fun r _ => hb.mild r), ⟨45, _, rfl, by decide, by decide⟩⟩
    · exact ⟨hi, hb⟩
  rw [if_neg h2, if_neg h2]
  rw [if_neg h0, if_neg h1, if_neg h2] at hr
  split at hr
  · simp only [Bool.and_eq_true, decide_eq_true_eq] at hr
    exact ⟨(lx_text (by omega)).weak fun _ _ => trivial, ⟨39, _, rfl, by decide, by decide⟩⟩
  · cases hr
theorem name_beg {s : ByteArray} (h : nameL (tx s) = true) : begM (tx s) := by
  cases hs : tx s with
  | nil => rw [hs] at h; cases h
  | cons c r =>
    rw [hs] at h
    simp only [nameL, Bool.and_eq_true] at h
    have := low_iff.1 h.1
    exact ⟨c, r, rfl, by omega, by omega⟩
theorem len_two {α : Type} {l : List α} (h : l.length = 2) : ∃ y z, l = [y, z] := by
  match l, h with
  | [y, z], _ => exact ⟨y, z, rfl⟩
/-- what a node that may be is like -/
theorem right_cases {x : Ex} (h : rightP x = true) :
    (x.k = 1 ∧ x.l = [] ∧ rightV x.v = true ∧ x.var = e0 ∧ x.fld = e0) ∨
    (x.k = 2 ∧ x.l = [] ∧ x.v = nullV ∧ nameL (tx x.var) = true ∧ nameL (tx x.fld) = true) ∨
    (bareP x = true ∧ (((x.k = 3 ∨ x.k = 15) ∧ ∃ y, x.l = [y]) ∨ (4 ≤ x.k ∧ x.k ≤ 14 ∧ ∃ y z, x.l = [y, z]) ∨ ((x.k = 16 ∨ x.k = 17) ∧ 2 ≤ x.l.length ∧ ∀ y ∈ x.l, y.k ≠ x.k))) := by
  simp only [rightP] at h
  split at h
  · rename_i hk
    simp only [Bool.and_eq_true, decide_eq_true_eq] at h
    exact .inl ⟨hk, List.eq_nil_of_length_eq_zero h.1, h.2.1, h.2.2.1, h.2.2.2⟩
  · split at h
    · rename_i hk
      simp only [Bool.and_eq_true, decide_eq_true_eq] at h
      exact .inr (.inl ⟨hk, List.eq_nil_of_length_eq_zero h.1, h.2.1, h.2.2.1, h.2.2.2⟩)
    · split at h
      · cases h
      · rename_i hb
        have hb : bareP x = true := by simpa using hb
        refine .inr (.inr ⟨hb, ?_⟩)
        split at h
        · rename_i hk
          simp only [decide_eq_true_eq] at h
          exact .inl ⟨hk, List.length_eq_one_iff.1 h⟩
        · split at h
          · rename_i hk
            simp only [decide_eq_true_eq] at h
            exact .inr (.inl ⟨hk.1, hk.2, len_two h⟩)
          · simp only [isRowP, Bool.and_eq_true, Bool.or_eq_true, decide_eq_true_eq, Bool.not_eq_true', List.any_eq_false] at h
            exact .inr (.inr ⟨h.1, h.2.1, h.2.2⟩)
theorem lb_bare (x : Ex) (hv : allX vX x) (hr : allR x = true) : LB (bareT x) (bareK x) := by
  induction x using Ex.ind with
  | h x ih =>
    have hv' := (allX_eq _ _).1 hv
    have hr' := hr
    rw [allR_eq, Bool.and_eq_true] at hr'
    have ih : ∀ y ∈ x.l, LB (bareT y) (bareK y) := fun y hy => ih y hy (allXs_mem hv'.2 hy) (allRs_mem hr'.2 hy)
    rw [bareT_eq, bareK_eq]
    rcases right_cases hr'.1 with ⟨hk, _, hval, _⟩ | ⟨hk, _, _, hn1, hn2⟩ | ⟨_, ⟨hk, y, hl⟩ | ⟨h4, h14, y, z, hl⟩ | ⟨hk, hlen, _⟩⟩
    · simp only [bodyT, bodyK, hk, if_true]
      exact lb_val hv'.1 hval
    · simp only [bodyT, bodyK, hk, if_true, if_neg (by decide : ¬ (2 : Int) = 1)]
      have h46 : LX anyR [46] [(5, ⟨#[46]⟩)] → True := fun _ => trivial
      refine ⟨LX.append (k1 := [(2, x.var)]) (lx_name hn1) (LX.append (t1 := [46]) (k1 := [(5, ⟨#[46]⟩)]) lx_dot (lx_name hn2) (fun r _ => (name_beg hn2).mild r)) (fun r _ => ?_), (name_beg hn1).append _⟩
      exact calm_cons _ (by decide) (by decide) (by decide) (by decide)
    · have hy := ih y (by rw [hl]; simp)
      rcases hk with hk | hk
      · simp only [bodyT, bodyK, hk, hl, if_true, if_neg (by decide : ¬ (3 : Int) = 1), if_neg (by decide : ¬ (3 : Int) = 2), bareTs, bareKs]
        refine ⟨?_, ⟨45, _, rfl, by decide, by decide⟩⟩
        have hin : LB (if numP y = true then 40 :: (parT y (bareT y) 1 ++ [41]) else parT y (bareT y) 7) (if numP y = true then (5, wOpen) :: (kPar y (bareK y) 1 ++ [(5, wShut)]) else kPar y (bareK y) 7) := by
          split
          · exact lb_paren (lb_par 1 hy)
          · exact lb_par 7 hy
        exact LX.append (t1 := [45]) lx_minus hin.lx (fun r _ => hin.beg.mild r)
      · simp only [bodyT, bodyK, hk, hl, if_true, if_neg (by decide : ¬ (15 : Int) = 1), if_neg (by decide : ¬ (15 : Int) = 2), if_neg (by decide : ¬ (15 : Int) = 3), if_neg (by decide : ¬ (15 : Int) = 17), if_neg (by decide : ¬ (15 : Int) = 16), bareTs, bareKs]
        have hp := lb_par (x := y) 3 hy
        exact ⟨LX.append (k1 := [(1, wNOT)]) lx_NOT hp.lx (fun _ _ => trivial), ⟨78, _, rfl, by decide, by decide⟩⟩
    · have hy := lb_par (x := y) (need1 x.k) (ih y (by rw [hl]; simp))
      have hz := lb_par (x := z) (need2 x.k) (ih z (by rw [hl]; simp))
      have hop := lx_op (x.k - 4).toNat (by omega)
      simp only [bodyT, bodyK, hl, bareTs, bareKs, if_neg (by omega : ¬ x.k = 1), if_neg (by omega : ¬ x.k = 2), if_neg (by omega : ¬ x.k = 3), if_neg (by omega : ¬ x.k = 17), if_neg (by omega : ¬ x.k = 16), if_neg (by omega : ¬ x.k = 15)]
      exact ⟨LX.append hy.lx (LX.append (k1 := [(5, opS (x.k - 4).toNat)]) hop hz.lx (fun _ _ => trivial)) (fun r _ => by simp only [List.cons_append]; exact calm32 _), hy.beg.append _⟩
    · have hne : x.l ≠ [] := fun e => by rw [e] at hlen; simp at hlen
      rcases hk with hk | hk
      · simp only [bodyT, bodyK, hk, if_true, if_neg (by decide : ¬ (16 : Int) = 1), if_neg (by decide : ¬ (16 : Int) = 2), if_neg (by decide : ¬ (16 : Int) = 3), if_neg (by decide : ¬ (16 : Int) = 17)]
        exact lb_join lx_AND ⟨_, rfl⟩ 3 x.l ih hne
      · simp only [bodyT, bodyK, hk, if_true, if_neg (by decide : ¬ (17 : Int) = 1), if_neg (by decide : ¬ (17 : Int) = 2), if_neg (by decide : ¬ (17 : Int) = 3)]
        exact lb_join lx_OR ⟨_, rfl⟩ 2 x.l ih hne
theorem lb_expr (x : Ex) (hv : allX vX x) (hr : allR x = true) (need : Int) : LB (exprT x need) (exprK x need) := lb_par need (lb_bare x hv hr)
end Go.Hx
namespace Go.Hx
/-- what is read where so much is asked -/
def goal (n : Int) : Gl := if n ≤ 1 then .row true else if n = 2 then .row false else if n = 3 then .not else if n = 4 then .cmp else if n = 5 then .left true else if n = 6 then .left false else if n = 7 then .neg else .last
/-- nothing comes that would go on with it -/
def stopAt (n : Int) (r : List Tk) : Prop :=
  (n ≤ 6 → opOf 6 8 r = none) ∧ (n ≤ 5 → opOf 4 5 r = none) ∧ (n ≤ 4 → opOf 9 14 r = none) ∧ (n ≤ 2 → nextIs 1 (rowW false) r = false) ∧ (n ≤ 1 → nextIs 1 (rowW true) r = false)
theorem stopAt.mono {n m : Int} {r : List Tk} (h : stopAt n r) (hm : n ≤ m) : stopAt m r :=
  ⟨fun g => h.1 (by omega), fun g => h.2.1 (by omega), fun g => h.2.2.1 (by omega), fun g => h.2.2.2.1 (by omega), fun g => h.2.2.2.2 (by omega)⟩
theorem join_one {k : Int} {x : Ex} (h : x.k ≠ k) : joinE k [x] = x := by simp [joinE, partsJ, h]
theorem down1 {o : Nat} {t r : List Tk} {x : Ex} {m : Int} (h1 : 1 ≤ m) (h7 : m ≤ 7) (h : P (goal (m + 1)) o t (.ok x r)) (hs : stopAt m r) (hm : m = 7 → nextIs 5 wMinus t = false) (hn : m = 3 → nextIs 1 wNOT t = false)
    (h16 : m = 2 → x.k ≠ 16) (h17 : m = 1 → x.k ≠ 17) : P (goal m) o t (.ok x r) := by
  have : m = 1 ∨ m = 2 ∨ m = 3 ∨ m = 4 ∨ m = 5 ∨ m = 6 ∨ m = 7 := by omega
  rcases this with rfl | rfl | rfl | rfl | rfl | rfl | rfl
  · have hj := P.more_no (b := true) (l := [x]) (o := o) (hs.2.2.2.2 (by omega))
    rw [show rowK true = 17 from rfl, join_one (h17 rfl)] at hj
    exact P.row_ok (b := true) h hj
  · have hj := P.more_no (b := false) (l := [x]) (o := o) (hs.2.2.2.1 (by omega))
    rw [show rowK false = 16 from rfl, join_one (h16 rfl)] at hj
    exact P.row_ok (b := false) h hj
  · exact .not_no (hn rfl) h
  · exact .cmp_no h (hs.2.2.1 (by omega))
  · exact P.left_ok (b := true) h (.lmore_no (hs.2.1 (by omega)))
  · exact P.left_ok (b := false) h (.lmore_no (hs.1 (by omega)))
  · exact .neg_no (hm rfl) h
theorem down {o : Nat} {t r : List Tk} {x : Ex} : ∀ (d : Nat) (n lv : Int), lv = n + d → 1 ≤ n → lv ≤ 8 → P (goal lv) o t (.ok x r) → stopAt n r → (lv = 8 → n ≤ 7 → nextIs 5 wMinus t = false) → (4 ≤ lv → n ≤ 3 → nextIs 1 wNOT t = false) →
    (3 ≤ lv → n ≤ 2 → x.k ≠ 16) → (2 ≤ lv → n ≤ 1 → x.k ≠ 17) → P (goal n) o t (.ok x r) := by
  intro d
  induction d with
  | zero => intro n lv e _ _ h _ _ _ _ _; have : lv = n := by omega
            subst this; exact h
  | succ d ih =>
    intro n lv e h1 h8 h hs hm hn h16 h17
    have hp : P (goal (lv - 1)) o t (.ok x r) := by
      have e' : lv - 1 + 1 = lv := by omega
      refine down1 (m := lv - 1) (by omega) (by omega) (by rw [e']; exact h) (hs.mono (by omega)) (fun g => hm (by omega) (by omega)) (fun g => hn (by omega) (by omega)) (fun g => h16 (by omega) (by omega)) (fun g => h17 (by omega) (by omega))
    exact ih n (lv - 1) (by omega) h1 (by omega) hp hs (fun g => by omega) (fun g1 g2 => hn (by omega) g2) (fun g1 g2 => h16 (by omega) g2) (fun g1 g2 => h17 (by omega) g2)
/-! ### Signs, read -/
theorem op_tab (k : Int) (h4 : 4 ≤ k) (h14 : k ≤ 14) : opI 6 8 (opS (k - 4).toNat) 11 0 = (if 6 ≤ k ∧ k ≤ 8 then some k else none) ∧ opI 4 5 (opS (k - 4).toNat) 11 0 = (if 4 ≤ k ∧ k ≤ 5 then some k else none) ∧
    opI 9 14 (opS (k - 4).toNat) 11 0 = (if 9 ≤ k ∧ k ≤ 14 then some k else none) := by
  have : k = 4 ∨ k = 5 ∨ k = 6 ∨ k = 7 ∨ k = 8 ∨ k = 9 ∨ k = 10 ∨ k = 11 ∨ k = 12 ∨ k = 13 ∨ k = 14 := by omega
  rcases this with rfl | rfl | rfl | rfl | rfl | rfl | rfl | rfl | rfl | rfl | rfl <;> exact ⟨by kernel_rfl, by kernel_rfl, by kernel_rfl⟩
theorem op_of {t : Tk} {k lo hi : Int} (h4 : 4 ≤ k) (h14 : k ≤ 14) (ht : kt t = (5, opS (k - 4).toNat)) (hl : (lo = 6 ∧ hi = 8) ∨ (lo = 4 ∧ hi = 5) ∨ (lo = 9 ∧ hi = 14)) (r : List Tk) :
    opOf lo hi (t :: r) = if lo ≤ k ∧ k ≤ hi then some k else none := by
  have h1 : t.k = 5 := congrArg Prod.fst ht
  have h2 : t.s = opS (k - 4).toNat := congrArg Prod.snd ht
  have tab := op_tab k h4 h14
  simp only [opOf, h1, if_true, h2]
  rcases hl with ⟨rfl, rfl⟩ | ⟨rfl, rfl⟩ | ⟨rfl, rfl⟩
  · exact tab.1
  · exact tab.2.1
  · exact tab.2.2
theorem next_k {t : Tk} {k : Int} {s : ByteArray} (h : t.k ≠ k) (r : List Tk) : nextIs k s (t :: r) = false := by simp [nextIs, h]
theorem next_s {t : Tk} {k : Int} {s : ByteArray} (h : t.s ≠ s) (r : List Tk) : nextIs k s (t :: r) = false := by simp [nextIs, h]
theorem next_t {t : Tk} {k : Int} {s : ByteArray} (h : kt t = (k, s)) (r : List Tk) : nextIs k s (t :: r) = true := by
  have h1 : t.k = k := congrArg Prod.fst h
  have h2 : t.s = s := congrArg Prod.snd h
  simp [nextIs, h1, h2]
theorem op_none {t : Tk} {lo hi : Int} (h : t.k ≠ 5) (r : List Tk) : opOf lo hi (t :: r) = none := by simp [opOf, h]
theorem stop_nosign {t : Tk} (h : t.k ≠ 5) (h1 : t.k ≠ 1) (r : List Tk) (n : Int) : stopAt n (t :: r) :=
  ⟨fun _ => op_none h r, fun _ => op_none h r, fun _ => op_none h r, fun _ => next_k h1 r, fun _ => next_k h1 r⟩
theorem stop_shut {t : Tk} (h : kt t = (5, wShut)) (r : List Tk) (n : Int) : stopAt n (t :: r) := by
  have h1 : t.k = 5 := congrArg Prod.fst h
  have h2 : t.s = wShut := congrArg Prod.snd h
  have a1 : opI 6 8 wShut 11 0 = none := by kernel_rfl
  have a2 : opI 4 5 wShut 11 0 = none := by kernel_rfl
  have a3 : opI 9 14 wShut 11 0 = none := by kernel_rfl
  refine ⟨fun _ => ?_, fun _ => ?_, fun _ => ?_, fun _ => next_k (by omega) r, fun _ => next_k (by omega) r⟩
  · simp only [opOf, h1, if_true, h2, a1]
  · simp only [opOf, h1, if_true, h2, a2]
  · simp only [opOf, h1, if_true, h2, a3]
theorem stop_op {t : Tk} {k : Int} (h4 : 4 ≤ k) (h14 : k ≤ 14) (ht : kt t = (5, opS (k - 4).toNat)) (r : List Tk) {n : Int} (hn : (9 ≤ k ∧ 5 ≤ n) ∨ (k ≤ 5 ∧ 6 ≤ n) ∨ (6 ≤ k ∧ 7 ≤ n)) : stopAt n (t :: r) := by
  have h1 : t.k = 5 := congrArg Prod.fst ht
  refine ⟨fun g => ?_, fun g => ?_, fun g => ?_, fun _ => next_k (by omega) r, fun _ => next_k (by omega) r⟩
  · rw [op_of h4 h14 ht (.inl ⟨rfl, rfl⟩), if_neg (by omega)]
  · rw [op_of h4 h14 ht (.inr (.inl ⟨rfl, rfl⟩)), if_neg (by omega)]
  · rw [op_of h4 h14 ht (.inr (.inr ⟨rfl, rfl⟩)), if_neg (by omega)]
theorem stop_word {t : Tk} {b : Bool} (h : kt t = (1, rowW b)) (r : List Tk) : stopAt (if b = true then 2 else 3) (t :: r) := by
  have h1 : t.k = 1 := congrArg Prod.fst h
  have h2 : t.s = rowW b := congrArg Prod.snd h
  refine ⟨fun _ => op_none (by omega) r, fun _ => op_none (by omega) r, fun _ => op_none (by omega) r, fun g => ?_, fun g => ?_⟩
  · cases b
    · simp at g
    · exact next_s (by rw [h2]; decide) r
  · cases b <;> simp at g
/-! ### Levels -/
theorem level_rng (x : Ex) : 1 ≤ levelX x ∧ levelX x ≤ 8 := by
  simp only [levelX]
  repeat' split
  all_goals omega
theorem level_17 {x : Ex} (h : 2 ≤ levelX x) : x.k ≠ 17 := fun hk => by simp only [levelX, hk, if_true] at h; omega
theorem level_16 {x : Ex} (h : 3 ≤ levelX x) : x.k ≠ 16 := fun hk => by
  simp only [levelX, hk, if_true, if_neg (by decide : ¬ (16 : Int) = 17)] at h; omega
theorem level_big {x : Ex} (h4 : 4 ≤ x.k) (h14 : x.k ≤ 14) : levelX x = if 9 ≤ x.k then 4 else if 6 ≤ x.k then 6 else 5 := by
  simp only [levelX, if_neg (by omega : ¬ x.k = 17), if_neg (by omega : ¬ x.k = 16), if_neg (by omega : ¬ x.k = 15), h4, if_true]
theorem level_3 {x : Ex} (h : x.k = 3) : levelX x = 7 := by
  simp only [levelX, h, if_neg (by decide : ¬ (3 : Int) = 17), if_neg (by decide : ¬ (3 : Int) = 16), if_neg (by decide : ¬ (3 : Int) = 15), if_neg (by decide : ¬ (9 : Int) ≤ 3), if_neg (by decide : ¬ (6 : Int) ≤ 3), if_neg (by decide : ¬ (4 : Int) ≤ 3), if_true]
theorem level_15 {x : Ex} (h : x.k = 15) : levelX x = 3 := by
  simp only [levelX, h, if_neg (by decide : ¬ (15 : Int) = 17), if_neg (by decide : ¬ (15 : Int) = 16), if_true]
theorem level_low {x : Ex} (h : x.k < 3) : levelX x = if numK x && decide (x.v.n < 0) then 7 else 8 := by
  simp only [levelX, if_neg (by omega : ¬ x.k = 17), if_neg (by omega : ¬ x.k = 16), if_neg (by omega : ¬ x.k = 15), if_neg (by omega : ¬ 9 ≤ x.k), if_neg (by omega : ¬ 6 ≤ x.k), if_neg (by omega : ¬ 4 ≤ x.k), if_neg (by omega : ¬ x.k = 3)]
theorem level_r16 {x : Ex} (h : x.k = 16) : levelX x = 2 := by
  simp only [levelX, h, if_neg (by decide : ¬ (16 : Int) = 17), if_true]
theorem level_r17 {x : Ex} (h : x.k = 17) : levelX x = 1 := by
  simp only [levelX, h, if_true]
/-! ### How it begins -/
structure HB (x : Ex) (k : List KT) (lv : Int) : Prop where
  hd : ∃ k0 ks, k = k0 :: ks ∧ (4 ≤ lv → k0 ≠ (1, wNOT)) ∧ (lv = 8 → k0 ≠ (5, wMinus)) ∧ (7 ≤ lv → numP x = false → k0.1 ≠ 3)
theorem hb_par {x : Ex} {k : List KT} (h : HB x k (levelX x)) (need : Int) : ∃ k0 ks, kPar x k need = k0 :: ks ∧ (4 ≤ need → k0 ≠ (1, wNOT)) ∧ (7 ≤ need → numP x = false → k0.1 ≠ 3) := by
  simp only [kPar]
  split
  · rename_i hn
    obtain ⟨k0, ks, e, h1, h2, h3⟩ := h.hd
    exact ⟨k0, ks, e, fun g => h1 (by omega), fun g => h3 (by omega)⟩
  · exact ⟨_, _, rfl, fun _ h => absurd (congrArg Prod.fst h) (by decide : ¬ (5 : Int) = 1), fun _ _ => (by decide : (5 : Int) ≠ 3)⟩
theorem hb_bare (x : Ex) (hr : allR x = true) : HB x (bareK x) (levelX x) := by
  induction x using Ex.ind with
  | h x ih =>
    have hr' := hr
    rw [allR_eq, Bool.and_eq_true] at hr'
    have ih : ∀ y ∈ x.l, HB y (bareK y) (levelX y) := fun y hy => ih y hy (allRs_mem hr'.2 hy)
    rw [bareK_eq]
    rcases right_cases hr'.1 with ⟨hk, _, hval, _⟩ | ⟨hk, _, _, hn1, hn2⟩ | ⟨_, ⟨hk, y, hl⟩ | ⟨h4, h14, y, z, hl⟩ | ⟨hk, hlen, _⟩⟩
    · simp only [bodyK, hk, if_true, valK]
      split
      · exact ⟨_, _, rfl, fun _ => by decide, fun _ => by decide, fun _ _ => by decide⟩
      · split
        · split
          · exact ⟨_, _, rfl, fun _ => by decide, fun _ => by decide, fun _ _ => by decide⟩
          · exact ⟨_, _, rfl, fun _ => by decide, fun _ => by decide, fun _ _ => by decide⟩
        · split
          · rename_i hv
            have hnk : numK x = true := by simp [numK, hk, hv]
            rw [level_low (by omega), hnk]
            split
            · rename_i hneg
              refine ⟨_, _, rfl, fun _ => ?_, fun g => ?_, fun _ _ => ?_⟩
              · intro h; cases h
              · simp [hneg] at g
              · show (5 : Int) ≠ 3; omega
            · rename_i hneg
              refine ⟨_, _, rfl, fun _ h => ?_, fun _ h => ?_, fun _ g => ?_⟩
              · exact absurd (congrArg Prod.fst h) (by decide : ¬ (3 : Int) = 1)
              · exact absurd (congrArg Prod.fst h) (by decide : ¬ (3 : Int) = 5)
              · simp only [numP, hnk, Bool.true_and, decide_eq_false_iff_not] at g; omega
          · exact ⟨_, _, rfl, fun _ h => absurd (congrArg Prod.fst h) (by decide : ¬ (4 : Int) = 1), fun _ h => absurd (congrArg Prod.fst h) (by decide : ¬ (4 : Int) = 5), fun _ _ => (by decide : (4 : Int) ≠ 3)⟩
    · simp only [bodyK, hk, if_true, if_neg (by decide : ¬ (2 : Int) = 1)]
      exact ⟨_, _, rfl, fun _ h => absurd (congrArg Prod.fst h) (by decide : ¬ (2 : Int) = 1), fun _ h => absurd (congrArg Prod.fst h) (by decide : ¬ (2 : Int) = 5), fun _ _ => (by decide : (2 : Int) ≠ 3)⟩
    · rcases hk with hk | hk
      · simp only [bodyK, hk, hl, if_true, if_neg (by decide : ¬ (3 : Int) = 1), if_neg (by decide : ¬ (3 : Int) = 2), bareKs]
        rw [level_3 hk]
        exact ⟨_, _, rfl, fun _ h => absurd (congrArg Prod.fst h) (by decide : ¬ (5 : Int) = 1), fun g => by omega, fun _ _ => (by decide : (5 : Int) ≠ 3)⟩
      · simp only [bodyK, hk, hl, if_true, if_neg (by decide : ¬ (15 : Int) = 1), if_neg (by decide : ¬ (15 : Int) = 2), if_neg (by decide : ¬ (15 : Int) = 3), if_neg (by decide : ¬ (15 : Int) = 17), if_neg (by decide : ¬ (15 : Int) = 16), bareKs]
        rw [level_15 hk]
        exact ⟨_, _, rfl, fun g => by omega, fun g => by omega, fun g => by omega⟩
    · obtain ⟨k0, ks, e, h1, _⟩ := hb_par (ih y (by rw [hl]; simp)) (need1 x.k)
      simp only [bodyK, hl, bareKs, if_neg (by omega : ¬ x.k = 1), if_neg (by omega : ¬ x.k = 2), if_neg (by omega : ¬ x.k = 3), if_neg (by omega : ¬ x.k = 17), if_neg (by omega : ¬ x.k = 16), if_neg (by omega : ¬ x.k = 15)]
      rw [level_big h4 h14, e]
      refine ⟨k0, _, rfl, fun _ => h1 ?_, fun g => ?_, fun g => ?_⟩
      · simp only [need1]
        split
        · omega
        · split <;> omega
      · split at g
        · omega
        · split at g <;> omega
      · split at g
        · omega
        · split at g <;> omega
    · have h2 : levelX x ≤ 2 := by
        rcases hk with hk | hk
        · rw [level_r16 hk]; omega
        · rw [level_r17 hk]; omega
      cases hl : x.l with
      | nil => rw [hl] at hlen; simp at hlen
      | cons y r =>
        rcases hk with hk | hk
        · obtain ⟨k0, ks, e, _⟩ := hb_par (ih y (by rw [hl]; simp)) 3
          simp only [bodyK, hk, if_true, if_neg (by decide : ¬ (16 : Int) = 1), if_neg (by decide : ¬ (16 : Int) = 2), if_neg (by decide : ¬ (16 : Int) = 3), if_neg (by decide : ¬ (16 : Int) = 17), bareKs, kJoinT, e]
          exact ⟨_, _, rfl, fun g => by omega, fun g => by omega, fun g => by omega⟩
        · obtain ⟨k0, ks, e, _⟩ := hb_par (ih y (by rw [hl]; simp)) 2
          simp only [bodyK, hk, if_true, if_neg (by decide : ¬ (17 : Int) = 1), if_neg (by decide : ¬ (17 : Int) = 2), if_neg (by decide : ¬ (17 : Int) = 3), bareKs, kJoinT, e]
          exact ⟨_, _, rfl, fun g => by omega, fun g => by omega, fun g => by omega⟩
end Go.Hx
namespace Go.Hx
theorem tw_posn (t : Tk) (r : List Tk) : posn (t :: r) = t.p := rfl
abbrev zero7 : List AV := [I 0, I 0, I 0, S ⟨#[]⟩, S ⟨#[]⟩, S ⟨#[]⟩, AV.sl 0 true .full []]
/-- the kind of a sign -/
def opN (s : ByteArray) : Int :=
  if s = opS 0 then 4 else if s = opS 1 then 5 else if s = opS 2 then 6 else if s = opS 3 then 7 else if s = opS 4 then 8 else if s = opS 5 then 9 else if s = opS 6 then 10
  else if s = opS 7 then 11 else if s = opS 8 then 12 else if s = opS 9 then 13 else if s = opS 10 then 14 else 0
theorem c303 (s : ByteArray) (H : Heap) (Q : Post) : E 303 [S s] H Q = Q (I (opN s)) H := by
  have o0 : opS 0 = ⟨#[43]⟩ := rfl
  have o1 : opS 1 = ⟨#[45]⟩ := rfl
  have o2 : opS 2 = ⟨#[42]⟩ := rfl
  have o3 : opS 3 = ⟨#[47]⟩ := rfl
  have o4 : opS 4 = ⟨#[37]⟩ := rfl
  have o5 : opS 5 = ⟨#[61]⟩ := rfl
  have o6 : opS 6 = ⟨#[60, 62]⟩ := rfl
  have o7 : opS 7 = ⟨#[60]⟩ := rfl
  have o8 : opS 8 = ⟨#[60, 61]⟩ := rfl
  have o9 : opS 9 = ⟨#[62]⟩ := rfl
  have o10 : opS 10 = ⟨#[62, 61]⟩ := rfl
  simp only [f303_eq, s_eql, ob_some, opN, o0, o1, o2, o3, o4, o5, o6, o7, o8, o9, o10, cnd_B, decide_eq_true_eq]
  by_cases g : s = ⟨#[43]⟩
  · rw [if_pos g, if_pos g]
  rw [if_neg g, if_neg g]
  clear g
  by_cases g : s = ⟨#[45]⟩
  · rw [if_pos g, if_pos g]
  rw [if_neg g, if_neg g]
  clear g
  by_cases g : s = ⟨#[42]⟩
  · rw [if_pos g, if_pos g]
  rw [if_neg g, if_neg g]
  clear g
  by_cases g : s = ⟨#[47]⟩
  · rw [if_pos g, if_pos g]
  rw [if_neg g, if_neg g]
  clear g
  by_cases g : s = ⟨#[37]⟩
  · rw [if_pos g, if_pos g]
  rw [if_neg g, if_neg g]
  clear g
  by_cases g : s = ⟨#[61]⟩
  · rw [if_pos g, if_pos g]
  rw [if_neg g, if_neg g]
  clear g
  by_cases g : s = ⟨#[60, 62]⟩
  · rw [if_pos g, if_pos g]
  rw [if_neg g, if_neg g]
  clear g
  by_cases g : s = ⟨#[60]⟩
  · rw [if_pos g, if_pos g]
  rw [if_neg g, if_neg g]
  clear g
  by_cases g : s = ⟨#[60, 61]⟩
  · rw [if_pos g, if_pos g]
  rw [if_neg g, if_neg g]
  clear g
  by_cases g : s = ⟨#[62]⟩
  · rw [if_pos g, if_pos g]
  rw [if_neg g, if_neg g]
  clear g
  by_cases g : s = ⟨#[62, 61]⟩
  · rw [if_pos g, if_pos g]
  rw [if_neg g, if_neg g]
theorem opI_N {lo hi : Int} (hl : (lo = 6 ∧ hi = 8) ∨ (lo = 4 ∧ hi = 5) ∨ (lo = 9 ∧ hi = 14)) (s : ByteArray) : opI lo hi s 11 0 = if lo ≤ opN s ∧ opN s ≤ hi then some (opN s) else none := by
  by_cases h0 : s = opS 0
  · subst h0; rcases hl with ⟨rfl, rfl⟩ | ⟨rfl, rfl⟩ | ⟨rfl, rfl⟩ <;> kernel_rfl
  by_cases h1 : s = opS 1
  · subst h1; rcases hl with ⟨rfl, rfl⟩ | ⟨rfl, rfl⟩ | ⟨rfl, rfl⟩ <;> kernel_rfl
  by_cases h2 : s = opS 2
  · subst h2; rcases hl with ⟨rfl, rfl⟩ | ⟨rfl, rfl⟩ | ⟨rfl, rfl⟩ <;> kernel_rfl
  by_cases h3 : s = opS 3
  · subst h3; rcases hl with ⟨rfl, rfl⟩ | ⟨rfl, rfl⟩ | ⟨rfl, rfl⟩ <;> kernel_rfl
  by_cases h4 : s = opS 4
  · subst h4; rcases hl with ⟨rfl, rfl⟩ | ⟨rfl, rfl⟩ | ⟨rfl, rfl⟩ <;> kernel_rfl
  by_cases h5 : s = opS 5
  · subst h5; rcases hl with ⟨rfl, rfl⟩ | ⟨rfl, rfl⟩ | ⟨rfl, rfl⟩ <;> kernel_rfl
  by_cases h6 : s = opS 6
  · subst h6; rcases hl with ⟨rfl, rfl⟩ | ⟨rfl, rfl⟩ | ⟨rfl, rfl⟩ <;> kernel_rfl
  by_cases h7 : s = opS 7
  · subst h7; rcases hl with ⟨rfl, rfl⟩ | ⟨rfl, rfl⟩ | ⟨rfl, rfl⟩ <;> kernel_rfl
  by_cases h8 : s = opS 8
  · subst h8; rcases hl with ⟨rfl, rfl⟩ | ⟨rfl, rfl⟩ | ⟨rfl, rfl⟩ <;> kernel_rfl
  by_cases h9 : s = opS 9
  · subst h9; rcases hl with ⟨rfl, rfl⟩ | ⟨rfl, rfl⟩ | ⟨rfl, rfl⟩ <;> kernel_rfl
  by_cases h10 : s = opS 10
  · subst h10; rcases hl with ⟨rfl, rfl⟩ | ⟨rfl, rfl⟩ | ⟨rfl, rfl⟩ <;> kernel_rfl
  have hn : opN s = 0 := by simp only [opN, h0, h1, h2, h3, h4, h5, h6, h7, h8, h9, h10, if_false]
  have hi' : opI lo hi s 11 0 = none := by
    simp only [opI, Nat.zero_add, Nat.reduceAdd, h0, h1, h2, h3, h4, h5, h6, h7, h8, h9, h10, and_false, if_false]
  rw [hi', hn, if_neg (by omega)]
section
variable {H0 H : Heap} {T : Nat → Nat → Prop} {pb rb : Nat} {r : List Tk} {o : Nat} {Q : Post} {Bd : Nat}
theorem c288 {a o : Int} (h : PS H0 T pb rb r o 0 a H) (hr : r ≠ []) (e' : Int) (hq : ∀ H', PS H0 T pb rb r o e' (posn r) H' → Q (encX zX) H') : E 288 [Pt pb, I e'] H Q := by
  have e0' : decide ((0 : Int) = 0) = true := rfl
  rw [f288_eq]
  simp only [nil_Pt, ob_some, add_Pt, h.ld2, i_eql, e0', cnd_t, h.ld0]
  rw [h.st2, ob_some]
  have h1 := h.setp o e' a
  have h2 := h1.setp o e' (posn r)
  rw [h1.ld0, ob_some, c22 h1.rd hr, h1.st3, ob_some, f288_j10_eq]
  simp only [zX_b, ob_some, szX, splX, partX]
  exact hq _ h2
/-- one is open more -/
theorem c256 {t : Tk} (h : PS H0 T pb rb (t :: r) o 0 0 H) (h0 : 200 ≤ o → ∀ H', PS H0 T pb rb (t :: r) o 2 t.p H' → Q (B false) H')
    (h1 : o < 200 → ∀ H', PS H0 T pb rb (t :: r) ((o + 1 : Nat) : Int) 0 0 H' → Q (B true) H') : E 256 [Pt pb] H Q := by
  rw [f256_eq, nil_Pt, ob_some, add_Pt, ob_some, h.ld1, ob_some, i_geq, ob_some]
  refine cnd_intro (fun hc => ?_) (fun hc => ?_)
  · refine c288 h (by simp) 2 (fun H' h' => ?_)
    exact h0 (by simp at hc; omega) H' h'
  · have hc : o < 200 := by simp at hc; omega
    have hw : W64 ((o : Int) + 1) = ((o + 1 : Nat) : Int) := w64_succ (n := 1000) (by omega) (by omega)
    have h3 := h.setp ((o + 1 : Nat) : Int) 0 0
    simp only [ob_some, i_add, hw, nil_Pt, add_Pt, h.ld1, h.st1]
    exact h1 hc _ h3
theorem c287 {lo hi : Int} (hl : (lo = 6 ∧ hi = 8) ∨ (lo = 4 ∧ hi = 5) ∨ (lo = 9 ∧ hi = 14)) (h : PS H0 T pb rb r o 0 0 H) (hr : r ≠ []) (h0 : opOf lo hi r = none → ∀ H', PS H0 T pb rb r o 0 0 H' → Q (I 0) H')
    (h1 : ∀ t r1 k H', r = t :: r1 → opOf lo hi r = some k → k ≠ 0 → PS H0 T pb rb r1 o 0 0 H' → Q (I k) H') : E 287 [Pt pb, I lo, I hi] H Q := by
  cases r with
  | nil => exact (hr rfl).elim
  | cons t r =>
    have j12 : ∀ k : Int, opOf lo hi (t :: r) = (if lo ≤ k ∧ k ≤ hi then some k else none) → (t.k = 5 ∨ k = 0) → f287_j12 (Pt pb) (I lo) (I hi) (I k) H Q := fun k hk h5 => by
      rw [f287_j12_eq, i_lss, ob_some]
      by_cases g1 : k < lo
      · rw [decide_eq_true g1, cnd_t, f287_j15_eq, cnd_t]
        exact h0 (by rw [hk, if_neg (by omega)]) H h
      · rw [decide_eq_false g1, cnd_f, i_gtr, ob_some, f287_j15_eq]
        by_cases g2 : hi < k
        · rw [decide_eq_true g2, cnd_t]
          exact h0 (by rw [hk, if_neg (by omega)]) H h
        · have h5 : t.k = 5 := by rcases h5 with h5 | h5; exact h5; omega
          rw [decide_eq_false g2, cnd_f]
          simp only [nil_Pt, ob_some, add_Pt, h.ld0]
          refine c219 h.rd (by omega) _ (fun ob1 hr1 => ?_)
          exact h1 t r k _ rfl (by rw [hk, if_pos (by omega)]) (by omega) (h.setr hr1)
    rw [f287_eq, nil_Pt, ob_some, add_Pt, ob_some, h.ld0, ob_some, c45 h.rd]
    simp only [encK_sz, encK_sp, ob_some, part_f, List.getElem?_cons_zero, List.getElem?_cons_succ, i_eql]
    by_cases h5 : t.k = 5
    · rw [decide_eq_true h5, cnd_t, c303]
      exact j12 _ (by simp only [opOf, h5, if_true]; exact opI_N hl t.s) (.inl h5)
    · rw [decide_eq_false h5, cnd_f]
      exact j12 0 (by simp only [opOf, h5, if_false]; rw [if_neg (by omega)]) (.inr rfl)
theorem c321 (n : Int) (H : Heap) (Q : Post) : E 321 [I n] H Q = Q (encV (intV n)) H := f321_eq _ H Q
theorem c320 (s : ByteArray) (hs : s.size ≤ 256) (H : Heap) (Q : Post) : E 320 [S s] H Q = Q (encV (textV s)) H := by
  have h0 : decide ((256 : Int) < (s.size : Int)) = false := decide_eq_false (by omega)
  have hb : bldA [(0, 1, I 3), (2, 1, S s)] [I 0, I 0, S ⟨#[]⟩] = some (encV (textV s)) := rfl
  have h1 : spliceA 0 [I (textV s).k, I (textV s).n, S (textV s).s] [I 0, I 0, S ⟨#[]⟩] = some [I (textV s).k, I (textV s).n, S (textV s).s] := rfl
  have h2 : partA true 0 3 [I (textV s).k, I (textV s).n, S (textV s).s] = some (encV (textV s)) := rfl
  rw [f320_eq, len_S, ob_some, i_gtr, ob_some, h0, cnd_f, hb, ob_some, sz3, ob_some, h1, ob_some, h2, ob_some]
/-- a number -/
theorem c314 (m : Bool) {t : Tk} {r : List Tk} (h : PS H0 T pb rb (t :: r) o 0 0 H) (hk : t.k = 3) (hok : okTk t) (hB : 1 ≤ Bd) (hq : Res H0 T pb rb o Bd Q (numR m (t :: r))) : E 314 [Pt pb, strT (if m = true then [45] else [])] H Q := by
  obtain ⟨hsz, hdig, _⟩ := hok
  have hdig := hdig hk
  have hlen : (tx t.s).length = t.s.size := size_list t.s
  have hS : S t.s = strT (tx t.s) := by show S t.s = S (bs (tx t.s)); rw [bs_tx]
  have hadd : binA Pg .add 9 false (strT (if m = true then [45] else [])) (S t.s) = some (S (bs (numB m (tx t.s)))) := by
    rw [hS, s_add _ _ _ _ (by have : (if m = true then [45] else ([] : List UInt8)).length ≤ 1 := by cases m <;> simp
                              omega)]
    rfl
  -- taken
  have take : ∀ n : Int, numOf m t.s = some n → f314_j7 (Pt pb) [I 0, I 0, I 0, S ⟨#[]⟩, S ⟨#[]⟩, S ⟨#[]⟩, AV.sl 0 true .full []] (I n) (B false) H Q := fun n hn => by
    rw [f314_j7_eq, cnd_f]
    simp only [nil_Pt, ob_some, add_Pt, h.ld0]
    refine c219 h.rd (by omega) _ (fun ob1 hr => ?_)
    rw [c321, constb, ob_some, szX, ob_some, splX, ob_some, partX, ob_some]
    simp only [numR, hn] at hq
    exact hq _ _ (by rw [norm_mkl]; rfl) (constX_sh _) (h.setr hr)
  have fail : numOf m t.s = none → f314_j7 (Pt pb) [I 0, I 0, I 0, S ⟨#[]⟩, S ⟨#[]⟩, S ⟨#[]⟩, AV.sl 0 true .full []] (I 0) (B true) H Q := fun hn => by
    rw [f314_j7_eq, cnd_t]
    refine c288 h (by simp) 4 (fun H' h' => ?_)
    simp only [szX, splX, partX, ob_some]
    simp only [numR, hn] at hq
    exact hq zX H' _ _ zX_sh (by rw [zX_size]; exact hB) (by simp) h'
  rw [f314_eq, nil_Pt, ob_some, add_Pt, ob_some, h.ld0, ob_some, c45 h.rd, fK1, hadd, ob_some]
  by_cases hm0 : m = true ∧ t.s = ⟨#[48]⟩
  · obtain ⟨rfl, h48⟩ := hm0
    have hs0 : S (bs (numB true (tx t.s))) = S ⟨#[45, 48]⟩ := by rw [h48]; rfl
    have hnum : numOf true t.s = some 0 := by rw [h48]; rfl
    have dn : (!decide ((⟨#[45, 48]⟩ : ByteArray) = ⟨#[45, 48]⟩)) = false := rfl
    rw [hs0] at hadd ⊢
    rw [c220_m0]
    rw [extN0, ob_some, extN1, ob_some, enc_err 4 (by decide), ob_some, cnd_t, ob_some, add_Pt, ob_some, h.ld0, ob_some, c45 h.rd, fK1, hadd, ob_some, s_neq, ob_some, dn]
    exact take 0 hnum
  · have hD : DigL m (tx t.s) := by
      obtain ⟨h1, h2, h3⟩ := hdig
      refine ⟨h1, h2, ?_⟩
      rcases h3 with h3 | ⟨_, h3⟩
      · exact .inl h3
      · cases hmm : m with
        | false => exact .inr ⟨rfl, h3⟩
        | true =>
          left
          intro hh
          apply hm0
          refine ⟨hmm, ?_⟩
          cases hl : tx t.s with
          | nil => rw [hl] at h3; cases h3
          | cons c l =>
            rw [hl] at h3 hh
            have : l = [] := by simpa using h3
            subst this
            have hc : c.toNat = 48 := by simpa using hh
            have hc : c = 48 := UInt8.toNat_inj.1 hc
            rw [← bs_tx t.s, hl, hc]
    have hne : (!decide (bs (numB m (tx t.s)) = ⟨#[45, 48]⟩)) = true := by
      rw [Bool.not_eq_true', decide_eq_false_iff_not]
      intro hh
      have hh : numB m (tx t.s) = [45, 48] := bs_inj.1 (show bs (numB m (tx t.s)) = bs [45, 48] from hh)
      cases hmm : m with
      | true =>
        rw [hmm] at hh
        simp only [numB, if_true, List.singleton_append, List.cons.injEq, true_and] at hh
        exact hm0 ⟨hmm, by rw [← bs_tx t.s, hh]⟩
      | false =>
        rw [hmm] at hh
        simp only [numB, Bool.false_eq_true, if_false, List.nil_append] at hh
        have := hD.2.1
        rw [hh] at this
        cases this
    rw [c220 m (tx t.s) (by omega) hD, bs_tx, extN0, ob_some, extN1, ob_some]
    cases hn : numOf m t.s with
    | none =>
      have hN : numV m t.s = (0, 10) := by simp only [numV, hn]
      simp only [hN, enc_err 10 (by decide), ob_some, cnd_t, nil_Pt, add_Pt, h.ld0]
      rw [c45 h.rd, fK1, hadd, ob_some, s_neq, ob_some, hne]
      exact fail hn
    | some n =>
      have hN : numV m t.s = (n, 0) := by simp only [numV, hn]
      simp only [hN, enc_ok, ob_some, cnd_f]
      exact take n hn
theorem resCopy {R : PR} (hR : Res H0 T pb rb o Bd Q R) : Res H0 T pb rb o Bd (copyQ Q) R := by
  cases R with
  | ok z r2 => intro w H2 hw hws h2; rw [copyX]; exact hR w H2 hw hws h2
  | bad e p => intro w H2 r2 o' hws hsz hr2 h2; rw [copyX]; exact hR w H2 r2 o' hws hsz hr2 h2
/-- a constant, a field -/
theorem atom_run2 (hps : PS H0 T pb rb r o 0 0 H) (he : endsT r) (hok : ∀ t ∈ r, okTk t) (hn : nextIs 5 wOpen r = false) (hB : 1 ≤ Bd) (hq : Res H0 T pb rb o Bd Q (atomR r)) : E 313 [Pt pb] H Q := by
  cases r with
  | nil => exact he.elim
  | cons t r =>
    have ht := hok t (by simp)
    have p0 : partA false 0 1 [I t.k, S t.s, I t.p] = some (I t.k) := rfl
    have p1 : partA false 1 1 [I t.k, S t.s, I t.p] = some (S t.s) := rfl
    have failQ : ∀ (r1 : List Tk) (H1 : Heap) (Q1 : Post), PS H0 T pb rb r1 o 0 0 H1 → r1 ≠ [] → Res H0 T pb rb o Bd Q1 (.bad 4 (posn r1)) → E 288 [Pt pb, I 4] H1 (copyQ Q1) := fun r1 H1 Q1 h1 hne hf => by
      refine c288 h1 hne 4 (fun H' h' => ?_)
      rw [copyX]
      exact hf zX H' _ _ zX_sh (by rw [zX_size]; exact hB) hne h'
    simp only [atomR] at hq
    have j8 : f313_j8 (Pt pb) [I 0, I 0, I 0, S ⟨#[]⟩, S ⟨#[]⟩, S ⟨#[]⟩, AV.sl 0 true .full []] [I t.k, S t.s, I t.p] (B false) H Q := by
      rw [f313_j8_eq, cnd_f, p0, ob_some, i_eql, ob_some]
      refine cnd_intro (fun h3 => ?_) (fun h3 => ?_)
      · have h3 : t.k = 3 := by simpa using h3
        rw [if_pos h3] at hq
        exact c314 false hps h3 ht hB (resCopy hq)
      have h3 : t.k ≠ 3 := by simpa using h3
      rw [if_neg h3] at hq
      rw [ob_some, i_eql, ob_some]
      refine cnd_intro (fun h4 => ?_) (fun h4 => ?_)
      · have h4 : t.k = 4 := by simpa using h4
        rw [if_pos h4] at hq
        simp only [nil_Pt, ob_some, add_Pt, hps.ld0]
        refine c219 hps.rd (by omega) _ (fun o1 h1 => ?_)
        rw [p1, ob_some, c320 _ (ht.2.2 h4), constb, ob_some, szX, ob_some, splX, ob_some, partX, ob_some]
        exact hq _ _ (by rw [norm_mkl]; rfl) (constX_sh _) (hps.setr h1)
      have h4 : t.k ≠ 4 := by simpa using h4
      rw [if_neg h4] at hq
      have j58 : (t.k = 1 → t.s ≠ sTRUE ∧ t.s ≠ sFALSE) → ∀ b : Bool, b = (decide (t.k = 1) && decide (t.s = sNULL)) → f313_j58 (Pt pb) [I 0, I 0, I 0, S ⟨#[]⟩, S ⟨#[]⟩, S ⟨#[]⟩, AV.sl 0 true .full []] [I t.k, S t.s, I t.p] (B b) H Q := fun hw b hb => by
        rw [f313_j58_eq]
        refine cnd_intro (fun g => ?_) (fun g => ?_)
        · rw [hb] at g
          simp only [Bool.and_eq_true, decide_eq_true_eq] at g
          obtain ⟨g1, g2⟩ := g
          have hv : wordV t.s = some nullV := by rw [wordV, if_neg (hw g1).1, if_neg (hw g1).2, if_pos g2]
          simp only [if_neg (by omega : ¬ t.k = 2), if_pos g1, hv] at hq
          simp only [nil_Pt, ob_some, add_Pt, hps.ld0]
          refine c219 hps.rd (by omega) _ (fun o1 h1 => ?_)
          have hb0 : bldA [(0, 1, I 1)] [I 0, I 0, I 0, S ⟨#[]⟩, S ⟨#[]⟩, S ⟨#[]⟩, AV.sl 0 true .full []] = some (encX (.mk 1 nullV e0 e0 0 true .full [])) := by rw [encX_mk]; rfl
          rw [hb0, ob_some, szX, ob_some, splX, ob_some, partX, ob_some]
          exact hq _ _ (by rw [norm_mkl]; rfl) (constX_sh _) (hps.setr h1)
        · rw [p0, ob_some, i_eql, ob_some]
          refine cnd_intro (fun h2 => ?_) (fun h2 => ?_)
          · have h2 : t.k = 2 := by simpa using h2
            rw [if_pos h2] at hq
            simp only [nil_Pt, ob_some, add_Pt, hps.ld0]
            refine c219 hps.rd (by omega) _ (fun o1 h1 => ?_)
            have hp1 := hps.setr h1
            have he1 := endsT_tail he (by omega : t.k ≠ 6)
            rw [hp1.ld0, ob_some]
            refine c139 _ hp1.rd (endsT_ne he1) _ (fun hn => ?_) (fun u r1 ob1 e hn h9 => ?_)
            · rw [not_B, ob_some, Bool.not_false, cnd_t]
              simp only [fieldR, hn] at hq
              exact failQ r _ Q hp1 (endsT_ne he1) hq
            · subst e
              have hp2 := hp1.setr h9
              have he2 := endsT_tail he1 (by rw [(nextIs_cons hn).1]; decide)
              have hr1 := endsT_ne he2
              rw [not_B, ob_some, Bool.not_true, cnd_f, hp2.ld0, ob_some]
              simp only [fieldR, hn, if_true, List.tail_cons] at hq
              refine c153 hp2.rd hr1 _ (fun hk => ?_) (fun u r2 ob2 e hk h3 => ?_)
              · rw [x20, ob_some, x21, ob_some, not_B, ob_some, Bool.not_false, cnd_t]
                cases r1 with
                | nil => exact (hr1 rfl).elim
                | cons u r2 =>
                  simp only [kindN] at hk
                  simp only [if_neg hk] at hq
                  exact failQ _ _ Q hp2 (by simp) hq
              · subst e
                simp only [if_pos hk] at hq
                rw [x20, ob_some, x21, ob_some, not_B, ob_some, Bool.not_true, cnd_f, p1, ob_some, fieldb, ob_some, szX, ob_some, splX, ob_some, partX, ob_some]
                exact hq _ _ (by rw [norm_mkl]; rfl) (sh_leaf _ _ _ _ _ _) (hp2.setr h3)
          · have h2 : t.k ≠ 2 := by simpa using h2
            rw [if_neg h2] at hq
            refine failQ _ _ Q hps (by simp) ?_
            split at hq
            · rename_i h1
              obtain ⟨w1, w2⟩ := hw h1
              have w3 : t.s ≠ sNULL := fun h => by rw [hb] at g; simp [h1, h] at g
              have hv : wordV t.s = none := by rw [wordV, if_neg w1, if_neg w2, if_neg w3]
              simp only [hv] at hq
              exact hq
            · exact hq
      have j50 : ∀ b : Bool, b = (decide (t.k = 1) && (decide (t.s = sTRUE) || decide (t.s = sFALSE))) → f313_j50 (Pt pb) [I 0, I 0, I 0, S ⟨#[]⟩, S ⟨#[]⟩, S ⟨#[]⟩, AV.sl 0 true .full []] [I t.k, S t.s, I t.p] (B b) H Q := fun b hb => by
        rw [f313_j50_eq]
        refine cnd_intro (fun g => ?_) (fun g => ?_)
        · rw [hb] at g
          simp only [Bool.and_eq_true, Bool.or_eq_true, decide_eq_true_eq] at g
          obtain ⟨g1, g2⟩ := g
          have hv : wordV t.s = some (boolV (decide (t.s = sTRUE))) := by
            rw [wordV]
            by_cases hT : t.s = sTRUE
            · rw [if_pos hT, decide_eq_true hT]
            · rcases g2 with g2 | g2
              · exact (hT g2).elim
              · rw [if_neg hT, if_pos g2, decide_eq_false hT]
          simp only [if_neg (by omega : ¬ t.k = 2), if_pos g1, hv] at hq
          simp only [nil_Pt, ob_some, add_Pt, hps.ld0]
          refine c219 hps.rd (by omega) _ (fun o1 h1 => ?_)
          rw [p1, ob_some, s_eql, ob_some, c257, constb, ob_some, szX, ob_some, splX, ob_some, partX, ob_some]
          exact hq _ _ (by rw [norm_mkl]; rfl) (constX_sh _) (hps.setr h1)
        · have hw : t.k = 1 → t.s ≠ sTRUE ∧ t.s ≠ sFALSE := fun h1 => by
            rw [hb] at g
            simp only [h1, decide_true, Bool.true_and, Bool.or_eq_false_iff, decide_eq_false_iff_not] at g
            exact g
          rw [p0, ob_some, i_eql, ob_some]
          by_cases h1 : t.k = 1
          · rw [decide_eq_true h1, cnd_t, p1, ob_some, s_eql, ob_some]
            exact j58 hw _ (by rw [decide_eq_true h1, Bool.true_and]; rfl)
          · rw [decide_eq_false h1, cnd_f]
            exact j58 hw _ (by rw [decide_eq_false h1, Bool.false_and])
      rw [ob_some, i_eql, ob_some]
      by_cases h1 : t.k = 1
      · rw [decide_eq_true h1, cnd_t, p1, ob_some, s_eql, ob_some]
        by_cases hT : t.s = sTRUE
        · rw [decide_eq_true (show t.s = ⟨#[84, 82, 85, 69]⟩ from hT), cnd_t]
          exact j50 _ (by rw [decide_eq_true h1, decide_eq_true hT]; rfl)
        · rw [decide_eq_false (show ¬ t.s = ⟨#[84, 82, 85, 69]⟩ from hT), cnd_f, ob_some, s_eql, ob_some]
          exact j50 _ (by rw [decide_eq_true h1, decide_eq_false hT]; rfl)
      · rw [decide_eq_false h1, cnd_f]
        exact j50 _ (by rw [decide_eq_false h1, Bool.false_and])
    rw [f313_eq, nil_Pt, ob_some, add_Pt, ob_some, hps.ld0, ob_some, c45 hps.rd]
    simp only [encK_sz, encK_sp, ob_some, p0, i_eql]
    by_cases h5 : t.k = 5
    · have hs : t.s ≠ ⟨#[40]⟩ := fun hs => by
        have : nextIs 5 wOpen (t :: r) = true := by simp [nextIs, h5, wOpen, hs]
        rw [hn] at this; cases this
      rw [decide_eq_true h5, cnd_t, p1, ob_some, s_eql, ob_some, decide_eq_false hs]
      exact j8
    · rw [decide_eq_false h5, cnd_f]
      exact j8
end
end Go.Hx
namespace Go.Hx
/-- a goal, run by the document's parser -/
def Run2 (H0 : Heap) (T : Nat → Nat → Prop) (pb : Nat) : Gl → Heap → Post → Prop
  | .row b, H, Q => E 110 [Pt pb, I (rowK b), S (rowW b)] H Q
  | .more b l, H, Q => ∀ (ys : List Ex) (s' : Nat) (n' : Bool) (t' : Tip), ys.map norm = l → (∀ y ∈ ys, allX shX y) → (n' = true ∨ s' = 7) → OwnS H0 H 7 ys.length t' → OwnT T t' →
      f110_j14 (Pt pb) (I (rowK b)) (S (rowW b)) zero7 (.sl s' n' t' (ys.map encX)) H Q
  | .not, H, Q => E 188 [Pt pb] H Q
  | .cmp, H, Q => E 255 [Pt pb] H Q
  | .left b, H, Q => E (if b = true then 286 else 302) [Pt pb] H Q
  | .lmore b x, H, Q => ∀ y : Ex, norm y = x → allX shX y → if b = true then f286_l6 (Pt pb) zero7 (encC y) H Q else f302_l6 (Pt pb) zero7 (encC y) H Q
  | .neg, H, Q => E 307 [Pt pb] H Q
  | .last, H, Q => E 313 [Pt pb] H Q
theorem l6_part {H0 : Heap} {T : Nat → Nat → Prop} {pb : Nat} (b : Bool) (s' : Nat) (n' : Bool) (t' : Tip) (ys : List Ex) {H : Heap} {Q : Post}
    (h : Run2 H0 T pb (rowP b) H fun r1 H2 => ob (mkSlA 7 [r1]) fun r4 => appA 7 96 (.sl s' n' t' (ys.map encX)) r4 H2 fun r5 H6 => f110_j14 (Pt pb) (I (rowK b)) (S (rowW b)) zero7 r5 H6 Q) :
    f110_l6 (Pt pb) (I (rowK b)) (S (rowW b)) zero7 (.sl s' n' t' (ys.map encX)) H Q := by
  rw [f110_l6_eq, i_eql, ob_some]
  cases b
  · rw [show decide (rowK false = 17) = false from rfl, cnd_f]
    exact h
  · rw [show decide (rowK true = 17) = true from rfl, cnd_t]
    exact h
section
variable {H0 : Heap} {pb rb : Nat}
theorem j16_end {H : Heap} {T : Nat → Nat → Prop} {r : List Tk} {o e a : Int} {Q : Post} (h : PS H0 T pb rb r o e a H) (b : Bool) (ys : List Ex) (s' : Nat) (n' : Bool) (t' : Tip) (hsh : ∀ y ∈ ys, allX shX y) (hl : sizeXs ys ≤ 1099511627776)
    (hq : ∀ z H', norm z = joinE (rowK b) (ys.map norm) → allX shX z → PS H0 T pb rb r o e a H' → Q (encX z) H') :
    f110_j16 (Pt pb) (I (rowK b)) (S (rowW b)) zero7 (.sl s' n' t' (ys.map encX)) (B true) H Q := by
  rw [f110_j16_eq, cnd_t]
  refine c189 (rowK b) (by cases b; exact .inl rfl; exact .inr rfl) ys s' n' t' hsh hl H _ (fun z H' he hz hzs => ?_)
  simp only [szX, splX, partX, ob_some]
  exact hq z H' hz hzs (h.mono he)
theorem j14_bad {H : Heap} {T : Nat → Nat → Prop} {r : List Tk} {o e a : Int} {Q : Post} (h : PS H0 T pb rb r o e a H) (he : e ≠ 0) (b : Bool) (ys : List Ex) (s' : Nat) (n' : Bool) (t' : Tip) (hsh : ∀ y ∈ ys, allX shX y) (hl : sizeXs ys ≤ 1099511627776)
    (hq : ∀ z H', norm z = joinE (rowK b) (ys.map norm) → allX shX z → PS H0 T pb rb r o e a H' → Q (encX z) H') :
    f110_j14 (Pt pb) (I (rowK b)) (S (rowW b)) zero7 (.sl s' n' t' (ys.map encX)) H Q := by
  rw [f110_j14_eq, nil_Pt, ob_some, add_Pt, ob_some, h.ld2, ob_some, i_neq, ob_some, decide_eq_false he, Bool.not_false, cnd_t]
  exact j16_end h b ys s' n' t' hsh hl hq
theorem run_all2 {g : Gl} {o : Nat} {r : List Tk} {R : PR} (h : P g o r R) : ∀ (T : Nat → Nat → Prop) (H : Heap) (Q : Post), endsT r → (∀ t ∈ r, okTk t) → preG g r → PS H0 T pb rb r o 0 0 H → Res H0 T pb rb o (bnd g r) Q R → Run2 H0 T pb g H Q := by
  have tl : ∀ {k : Int} {s : ByteArray} {t : Tk} {r : List Tk}, k ≠ 6 → nextIs k s (t :: r) = true → endsT (t :: r) → endsT r := fun hk h he => endsT_tail he (by rw [(nextIs_cons h).1]; exact hk)
  have tl5 : ∀ {lo hi k : Int} {t : Tk} {r : List Tk}, opOf lo hi (t :: r) = some k → endsT (t :: r) → endsT r := fun h he => endsT_tail he (by rw [opOf_cons h]; decide)
  have tm : ∀ {t : Tk} {r : List Tk}, (∀ u ∈ t :: r, okTk u) → ∀ u ∈ r, okTk u := fun h u hu => h u (by simp [hu])
  have one : ∀ y : Ex, allX shX y → ∀ z ∈ [y], allX shX z := fun y hy z hz => by simp at hz; subst hz; exact hy
  have one7 : ∀ {k : Int} {y : Ex}, allX shX y → allX shX (.mk k nullV e0 e0 7 false .full [y]) := fun h => (allX_mk _ _ _ _ _ _ _ _).2 ⟨.inr rfl, h, trivial⟩
  have two7 : ∀ {k : Int} {x y : Ex}, allX shX x → allX shX y → allX shX (.mk k nullV e0 e0 7 false .full [x, y]) := fun h1 h2 => (allX_mk _ _ _ _ _ _ _ _).2 ⟨.inr rfl, h1, h2, trivial⟩
  have size1 : ∀ {k : Int} {y : Ex}, sizeX (.mk k nullV e0 e0 7 false .full [y]) = 1 + sizeX y := fun {k y} => by simp [sizeX, sizeXs]
  have size2 : ∀ {k : Int} {x y : Ex}, sizeX (.mk k nullV e0 e0 7 false .full [x, y]) = 1 + (sizeX x + sizeX y) := fun {k x y} => by simp [sizeX, sizeXs]
  have d0 : decide ((0 : Int) = 0) = true := rfl
  -- what a node begins with
  have notB : ∀ {o : Nat} {t : Tk} {r : List Tk} {T : Nat → Nat → Prop} {H : Heap} {Q : Post} (b : Bool), PS H0 T pb rb (t :: r) o 0 0 H → nextIs 1 wNOT (t :: r) = !b → f188_j7 (Pt pb) zero7 (B b) H Q → E 188 [Pt pb] H Q := fun {o t r T H Q} b hps hn h => by
    rw [f188_eq, nil_Pt, ob_some, add_Pt, ob_some, hps.ld0, ob_some, c45 hps.rd]
    simp only [encK_sz, encK_sp, ob_some, part_f, List.getElem?_cons_zero, List.getElem?_cons_succ, i_neq, s_neq]
    by_cases hk : t.k = 1
    · rw [decide_eq_true hk, Bool.not_true, cnd_f]
      have : (!decide (t.s = ⟨#[78, 79, 84]⟩)) = b := by
        simp only [nextIs, hk, decide_true, Bool.true_and] at hn
        rw [show decide (t.s = ⟨#[78, 79, 84]⟩) = decide (t.s = wNOT) from rfl, hn, Bool.not_not]
      rw [this]; exact h
    · rw [decide_eq_false hk, Bool.not_false, cnd_t]
      have : b = true := by
        simp only [nextIs, decide_eq_false hk, Bool.false_and] at hn
        cases b
        · cases hn
        · rfl
      subst this; exact h
  have negB : ∀ {o : Nat} {t : Tk} {r : List Tk} {T : Nat → Nat → Prop} {H : Heap} {Q : Post} (b : Bool), PS H0 T pb rb (t :: r) o 0 0 H → nextIs 5 wMinus (t :: r) = !b → f307_j7 (Pt pb) zero7 (B b) H Q → E 307 [Pt pb] H Q := fun {o t r T H Q} b hps hn h => by
    rw [f307_eq, nil_Pt, ob_some, add_Pt, ob_some, hps.ld0, ob_some, c45 hps.rd]
    simp only [encK_sz, encK_sp, ob_some, part_f, List.getElem?_cons_zero, List.getElem?_cons_succ, i_neq, s_neq]
    by_cases hk : t.k = 5
    · rw [decide_eq_true hk, Bool.not_true, cnd_f]
      have : (!decide (t.s = ⟨#[45]⟩)) = b := by
        simp only [nextIs, hk, decide_true, Bool.true_and] at hn
        rw [show decide (t.s = ⟨#[45]⟩) = decide (t.s = wMinus) from rfl, hn, Bool.not_not]
      rw [this]; exact h
    · rw [decide_eq_false hk, Bool.not_false, cnd_t]
      have : b = true := by
        simp only [nextIs, decide_eq_false hk, Bool.false_and] at hn
        cases b
        · cases hn
        · rfl
      subst this; exact h
  have negI : ∀ {o : Nat} {t u : Tk} {r : List Tk} {T : Nat → Nat → Prop} {H : Heap} {Q : Post}, PS H0 T pb rb (t :: u :: r) o 0 0 H → t.k ≠ 6 →
      (u.k = 3 → ∀ H', PS H0 T pb rb (u :: r) o 0 0 H' → E 314 [Pt pb, strT (if true = true then [45] else [])] H' (copyQ Q)) →
      (u.k ≠ 3 → E 256 [Pt pb] H fun r52 H53 => ob (unA .not r52) fun r54 => cndA r54 (ob (bldA [] zero7) fun r55 => ob (sizedA 7 r55) fun b56 => ob (spliceA 0 b56 zero7) fun b57 => ob (partA true 0 7 b57) fun r58 => Q r58 H53) (ob (nilA (Pt pb)) fun r59 => ob (addPA r59 0) fun r60 => ob (ldH H53 false 1 r60) fun r61 => E 219 [r61] H53 fun r62 H63 => E 307 [Pt pb] H63 fun r64 H65 => ob (sizedA 7 r64) fun b66 => ob (spliceA 0 b66 zero7) fun b67 => ob (nilA (Pt pb)) fun r68 => ob (addPA r68 1) fun r69 => ob (ldH H65 false 1 r69) fun r70 => ob (binA Pg .sub 3 true r70 (I 1)) fun r71 => ob (nilA (Pt pb)) fun r72 => ob (addPA r72 1) fun r73 => ob (stH H65 1 r73 r71) fun H74 => ob (partA true 0 7 b67) fun r75 => ob (mkSlA 7 [r75]) fun r76 => ob (bldA [(0, 1, I 3), (6, 1, r76)] zero7) fun r77 => ob (sizedA 7 r77) fun b78 => ob (spliceA 0 b78 zero7) fun b79 => ob (partA true 0 7 b79) fun r80 => Q r80 H74)) →
      f307_j7 (Pt pb) zero7 (B false) H Q := fun {o t u r T H Q} hps hk h3 hn3 => by
    obtain ⟨L, i, hri, e⟩ := RS_RI.1 hps.rd
    have hg := hri.get e
    have hg2 : L[i + 1]? = some u := by
      have := congrArg (fun l => l[0]?) hg.2.2
      simpa using this
    obtain ⟨⟨s', n', t', ho⟩, hL⟩ := hri
    have hlt : i + 1 < L.length := by
      rcases Nat.lt_or_ge (i + 1) L.length with h | h
      · exact h
      · rw [List.getElem?_eq_none h] at hg2; cases hg2
    have hx : (L.map encK)[i + 1]? = some (encK u) := by rw [List.getElem?_map, hg2]; rfl
    have hw : W64 ((L.length : Int) - 1) = ((L.length - 1 : Nat) : Int) := by rw [w64_id (by omega) (by omega)]; omega
    have hw1 : W64 ((i : Int) + 1) = ((i + 1 : Nat) : Int) := w64_succ (n := 1048576) (by omega) (by omega)
    have hm : min ((i + 1 : Nat) : Int) ((L.length - 1 : Nat) : Int) = ((i + 1 : Nat) : Int) := by omega
    have hp : partA false 0 1 (([I u.k, S u.s, I u.p] : List AV).drop 0) = some (I u.k) := rfl
    have h0 : ldH H false 1 (Poff rb 0) = some (.sl s' n' t' (L.map encK)) := by rw [ld_off ho]; rfl
    have h1 : ldH H false 1 (Poff rb 1) = some (I i) := by rw [ld_off ho]; rfl
    rw [f307_j7_eq, cnd_f]
    simp only [nil_Pt, ob_some, add_Pt, hps.ld0, h0, h1, i_add, hw1, len_sl, List.length_map, i_sub, hw, min_I, hm, ix_mk 3 n' t' (L.map encK) (i + 1) hx (encK_sz u), hp, i_eql]
    refine cnd_intro (fun g => ?_) (fun g => ?_)
    · refine c219 hps.rd hk _ (fun ob1 hr => ?_)
      exact h3 (by simpa using g) _ (hps.setr hr)
    · exact hn3 (by simpa using g)
  have openB : ∀ {o : Nat} {t : Tk} {r : List Tk} {T : Nat → Nat → Prop} {H : Heap} {Q : Post}, PS H0 T pb rb (t :: r) o 0 0 H → nextIs 5 wOpen (t :: r) = true → f313_j8 (Pt pb) zero7 [I t.k, S t.s, I t.p] (B true) H Q → E 313 [Pt pb] H Q := fun {o t r T H Q} hps hn h => by
    have hk := (nextIs_cons hn).1
    have hs : t.s = ⟨#[40]⟩ := (nextIs_cons hn).2
    rw [f313_eq, nil_Pt, ob_some, add_Pt, ob_some, hps.ld0, ob_some, c45 hps.rd]
    simp only [encK_sz, encK_sp, ob_some, part_f, List.getElem?_cons_zero, List.getElem?_cons_succ, i_eql, s_eql]
    rw [decide_eq_true hk, cnd_t, decide_eq_true hs]
    exact h
  induction h with
  | row_bad hp ih =>
    rename_i b o r e p
    intro T H Q he ht _ hps hq
    show E 110 [Pt pb, I (rowK b), S (rowW b)] H Q
    rw [f110_eq]
    refine l6_part (H0 := H0) (T := T) b 0 true .full [] (ih T H _ he ht (pre_row b r) hps (fun y H' r1 o' hy hsz hr1 h' => ?_))
    have hr := hps.rlen
    rw [bnd_row] at hsz
    rw [mk1X, ob_some]
    refine app_ps h' (t' := .full) (ys := []) trivial trivial (.inl rfl) (by simp) (fun s2 n2 t2 H3 hn2 h3 ho3 hT3 => ?_)
    refine j14_bad h3 (P_ne hp _ _ rfl) b [y] s2 n2 t2 (one y hy) (by simp only [sizeXs]; omega) (fun z H4 hz hzs h4 => ?_)
    refine hq z H4 r1 o' hzs ?_ hr1 h4
    have := join_size_le hz (by simp)
    simp only [sizeXs, List.length_singleton, Nat.le_refl, if_true] at this
    show _ ≤ 2 * r.length + 1
    omega
  | row_ok hp hm ih1 ih2 =>
    rename_i b o r x r1 R
    intro T H Q he ht _ hps hq
    have hs : Suf _ _ := P_suf hp he
    have hsx := size_row hp
    have hr := hps.rlen
    show E 110 [Pt pb, I (rowK b), S (rowW b)] H Q
    rw [f110_eq]
    refine l6_part (H0 := H0) (T := T) b 0 true .full [] (ih1 T H _ he ht (pre_row b r) hps (fun y H' hy hys h' => ?_))
    rw [mk1X, ob_some]
    refine app_ps h' (t' := .full) (ys := []) trivial trivial (.inl rfl) (by simp) (fun s2 n2 t2 H3 hn2 h3 ho3 hT3 => ?_)
    refine ih2 T H3 Q hs.1 (hs.mem ht) ⟨by simp, by simp only [sizeXs]; omega⟩ h3 ?_ [y] s2 n2 t2 (by simp [hy]) (one y hys) hn2 ho3 hT3
    cases R with
    | ok z r2 => exact hq
    | bad e p =>
      intro w H2 r2 o' hws hsz hr2 h2
      refine hq w H2 r2 o' hws ?_ hr2 h2
      simp only [bnd, sizeXs] at hsz ⊢
      omega
  | more_no hn =>
    rename_i b l o r
    intro T H Q he ht hpre hps hq ys s' n' t' hyl hsh hns ho hT
    rw [f110_j14_eq, nil_Pt, ob_some, add_Pt, ob_some, hps.ld2, ob_some, i_neq, ob_some, d0, Bool.not_true, cnd_f, ob_some, add_Pt, ob_some, hps.ld0, ob_some]
    refine c68 _ hps.rd (endsT_ne he) _ (fun _ => ?_) (fun t r1 ob1 e hn' h1 => by rw [hn] at hn'; cases hn')
    rw [not_B, ob_some, Bool.not_false]
    have hsl : sizeXs ys ≤ 2097152 := by rw [← sizeXs_norm, hyl]; have := hpre.2; omega
    refine j16_end hps b ys s' n' t' hsh (by omega) (fun z H' hz hzs h' => ?_)
    exact hq z H' (by rw [hz, hyl]) hzs h'
  | more_bad hn hp ih =>
    rename_i b l o t r e p
    intro T H Q he ht hpre hps hq ys s' n' t' hyl hsh hns ho hT
    rw [f110_j14_eq, nil_Pt, ob_some, add_Pt, ob_some, hps.ld2, ob_some, i_neq, ob_some, d0, Bool.not_true, cnd_f, ob_some, add_Pt, ob_some, hps.ld0, ob_some]
    refine c68 _ hps.rd (endsT_ne he) _ (fun hn' => by rw [hn] at hn'; cases hn') (fun t0 r0 ob1 e' _ h1 => ?_)
    cases e'
    have h2 := hps.setr h1
    have hr := hps.rlen
    simp only [List.length_cons] at hr
    have hsl : sizeXs ys + (t :: r).length ≤ 2097152 := by rw [← sizeXs_norm, hyl]; exact hpre.2
    simp only [List.length_cons] at hsl
    have hll := len_sizeXs ys
    have ho2 : OwnS H0 (H.setObj rb ob1) 7 ys.length t' := by cases t' with
      | any => exact ho
      | full => exact ho
      | tip c => exact ho
    rw [not_B, ob_some, Bool.not_true, f110_j16_eq, cnd_f]
    refine l6_part (H0 := H0) (T := T2 T (ys.length * 7) t') b s' n' t' ys (ih (T2 T (ys.length * 7) t') _ _ (tl (by decide) hn he) (tm ht) (pre_row b r) (h2.up ho2) (fun y H' r1 o' hy hsz hr1 h' => ?_))
    rw [bnd_row] at hsz
    rw [mk1X, ob_some]
    refine app_ps h'.down (h'.own ho2) hT hns (by omega) (fun s2 n2 t2 H3 hn2 h3 ho3 hT3 => ?_)
    refine j14_bad h3 (P_ne hp _ _ rfl) b (ys ++ [y]) s2 n2 t2 (fun z hz => by simp only [List.mem_append, List.mem_singleton] at hz; rcases hz with hz | hz; exact hsh z hz; subst hz; exact hy) (by rw [sizeXs_append]; simp only [sizeXs]; omega) (fun z H4 hz hzs h4 => ?_)
    refine hq z H4 r1 o' hzs ?_ hr1 h4
    have := join_size_le hz (by simp)
    rw [sizeXs_append] at this
    simp only [sizeXs] at this
    have hif : (if (ys ++ [y]).length ≤ 1 then 0 else 1) ≤ 1 := by split <;> omega
    have : sizeXs l = sizeXs ys := by rw [← hyl, sizeXs_norm]
    simp only [bnd, List.length_cons]
    omega
  | more_ok hn hp hm ih1 ih2 =>
    rename_i b l o t r x r1 R
    intro T H Q he ht hpre hps hq ys s' n' t' hyl hsh hns ho hT
    rw [f110_j14_eq, nil_Pt, ob_some, add_Pt, ob_some, hps.ld2, ob_some, i_neq, ob_some, d0, Bool.not_true, cnd_f, ob_some, add_Pt, ob_some, hps.ld0, ob_some]
    refine c68 _ hps.rd (endsT_ne he) _ (fun hn' => by rw [hn] at hn'; cases hn') (fun t0 r0 ob1 e' _ h1 => ?_)
    cases e'
    have h2 := hps.setr h1
    have he' := tl (by decide) hn he
    have hs : Suf _ _ := P_suf hp he'
    have hsx := size_row hp
    have hr := hps.rlen
    simp only [List.length_cons] at hr
    have hsl : sizeXs ys + (t :: r).length ≤ 2097152 := by rw [← sizeXs_norm, hyl]; exact hpre.2
    simp only [List.length_cons] at hsl
    have hll := len_sizeXs ys
    have ho2 : OwnS H0 (H.setObj rb ob1) 7 ys.length t' := by cases t' with
      | any => exact ho
      | full => exact ho
      | tip c => exact ho
    have hsle : sizeXs l = sizeXs ys := by rw [← hyl, sizeXs_norm]
    rw [not_B, ob_some, Bool.not_true, f110_j16_eq, cnd_f]
    refine l6_part (H0 := H0) (T := T2 T (ys.length * 7) t') b s' n' t' ys (ih1 (T2 T (ys.length * 7) t') _ _ he' (tm ht) (pre_row b r) (h2.up ho2) (fun y H' hy hys h' => ?_))
    rw [mk1X, ob_some]
    refine app_ps h'.down (h'.own ho2) hT hns (by omega) (fun s2 n2 t2 H3 hn2 h3 ho3 hT3 => ?_)
    refine ih2 T H3 _ hs.1 (hs.mem (tm ht)) ⟨by simp, by rw [sizeXs_append, hsle]; simp only [sizeXs]; omega⟩ h3 ?_ (ys ++ [y]) s2 n2 t2 (by rw [List.map_append, hyl]; simp [hy]) (fun z hz => by simp only [List.mem_append, List.mem_singleton] at hz; rcases hz with hz | hz; exact hsh z hz; subst hz; exact hys) hn2 ho3 hT3
    cases R with
    | ok z r2 => exact hq
    | bad e p =>
      intro w H2 r2 o' hws hsz hr2 h2
      refine hq w H2 r2 o' hws ?_ hr2 h2
      simp only [bnd] at hsz ⊢
      rw [sizeXs_append] at hsz
      simp only [sizeXs, List.length_cons] at hsz ⊢
      omega
  | not_no hn hp ih =>
    rename_i o r R
    intro T H Q he ht _ hps hq
    cases r with
    | nil => exact he.elim
    | cons t r =>
      refine notB true hps (by rw [hn]; rfl) ?_
      rw [f188_j7_eq, cnd_t]
      exact ih T H (copyQ Q) he ht trivial hps (resCopy hq)
  | not_long hn ho =>
    rename_i o r
    intro T H Q he ht _ hps hq
    obtain ⟨t, r1, rfl, hk, _⟩ := nextIs_ne hn
    refine notB false hps (by rw [hn]; rfl) ?_
    rw [f188_j7_eq, cnd_f]
    refine c256 hps (fun _ H' h' => ?_) (fun ho' => by omega)
    rw [not_B, ob_some, Bool.not_false, cnd_t, zX_b, ob_some, szX, ob_some, splX, ob_some, partX, ob_some]
    exact hq _ H' _ _ zX_sh (by rw [zX_size]; simp only [bnd]; omega) (by simp) h'
  | not_bad hn ho hp ih =>
    rename_i o t r e p
    intro T H Q he ht _ hps hq
    have hk := (nextIs_cons hn).1
    have he' := tl (by decide) hn he
    refine notB false hps (by rw [hn]; rfl) ?_
    rw [f188_j7_eq, cnd_f]
    refine c256 hps (fun h' => by omega) (fun _ H' h' => ?_)
    rw [not_B, ob_some, Bool.not_true, cnd_f]
    simp only [nil_Pt, ob_some, add_Pt, h'.ld0]
    refine c219 h'.rd (by omega) _ (fun ob1 hr => ?_)
    refine ih T _ _ he' (tm ht) trivial (h'.setr hr) (fun y H2 r1 o' hy hsz hr1 h2 => ?_)
    rw [szX, ob_some, splX, ob_some, h2.ld1, ob_some, i_sub, ob_some, h2.st1, ob_some, partX, ob_some, mk1X, ob_some, rowb, ob_some, szX, ob_some, splX, ob_some, partX, ob_some]
    exact hq _ _ _ _ (one7 hy) (by rw [size1]; simp only [bnd, List.length_cons] at hsz ⊢; omega) hr1 (h2.setp _ _ _)
  | not_ok hn ho hp ih =>
    rename_i o t r x r1
    intro T H Q he ht _ hps hq
    have hk := (nextIs_cons hn).1
    have he' := tl (by decide) hn he
    refine notB false hps (by rw [hn]; rfl) ?_
    rw [f188_j7_eq, cnd_f]
    refine c256 hps (fun h' => by omega) (fun _ H' h' => ?_)
    rw [not_B, ob_some, Bool.not_true, cnd_f]
    simp only [nil_Pt, ob_some, add_Pt, h'.ld0]
    refine c219 h'.rd (by omega) _ (fun ob1 hr => ?_)
    refine ih T _ _ he' (tm ht) trivial (h'.setr hr) (fun y H2 hy hys h2 => ?_)
    have hw : W64 (((o + 1 : Nat) : Int) - 1) = (o : Int) := by rw [w64_id (by omega) (by omega)]; omega
    rw [szX, ob_some, splX, ob_some, h2.ld1, ob_some, i_sub, ob_some, hw, h2.st1, ob_some, partX, ob_some, mk1X, ob_some, rowb, ob_some, szX, ob_some, splX, ob_some, partX, ob_some]
    exact hq _ _ (by rw [norm_mkl]; simp [hy]) (one7 hys) (h2.setp _ _ _)
  | cmp_bad hp ih =>
    rename_i o r e p
    intro T H Q he ht _ hps hq
    show E 255 [Pt pb] H Q
    rw [f255_eq]
    refine ih T H _ he ht trivial hps (fun y H2 r1 o' hy hsz hr1 h2 => ?_)
    rw [szX, ob_some, splX, ob_some, nil_Pt, ob_some, add_Pt, ob_some, h2.ld2, ob_some, enc_err e (P_ne hp _ _ rfl), ob_some, cnd_t, partX, ob_some, szX, ob_some, splX, ob_some, partX, ob_some]
    exact hq y H2 r1 o' hy hsz hr1 h2
  | cmp_no hp hop ih =>
    rename_i o r x r1
    intro T H Q he ht _ hps hq
    show E 255 [Pt pb] H Q
    have hs : Suf _ _ := P_suf hp he
    rw [f255_eq]
    refine ih T H _ he ht trivial hps (fun y H2 hy hys h2 => ?_)
    rw [szX, ob_some, splX, ob_some, nil_Pt, ob_some, add_Pt, ob_some, h2.ld2, ob_some, enc_ok, ob_some, cnd_f]
    refine c287 (.inr (.inr ⟨rfl, rfl⟩)) h2 (endsT_ne hs.1) (fun _ H3 h3 => ?_) (fun t r2 k H3 e hk => by rw [hop] at hk; cases hk)
    rw [i_eql, ob_some, d0, cnd_t, partX, ob_some, szX, ob_some, splX, ob_some, partX, ob_some]
    exact hq y H3 hy hys h3
  | cmp_bad2 hp hop hp2 ih1 ih2 =>
    rename_i o r x t r1 k e p
    intro T H Q he ht _ hps hq
    show E 255 [Pt pb] H Q
    have hs : Suf _ _ := P_suf hp he
    have hsx : _ ≤ _ := P_size hp
    rw [f255_eq]
    refine ih1 T H _ he ht trivial hps (fun y H2 hy hys h2 => ?_)
    rw [szX, ob_some, splX, ob_some, nil_Pt, ob_some, add_Pt, ob_some, h2.ld2, ob_some, enc_ok, ob_some, cnd_f]
    refine c287 (.inr (.inr ⟨rfl, rfl⟩)) h2 (endsT_ne hs.1) (fun hk => by rw [hop] at hk; cases hk) (fun t' r2 k' H3 e' hk hk0 h3 => ?_)
    cases e'
    rw [hop] at hk; cases hk
    rw [i_eql, ob_some, decide_eq_false hk0, cnd_f, partX, ob_some]
    refine ih2 T H3 _ (tl5 hop hs.1) (tm (hs.mem ht)) trivial h3 (fun z H4 r3 o' hz hsz hr3 h4 => ?_)
    rw [mk2X, ob_some, rowb, ob_some, szX, ob_some, splX, ob_some, partX, ob_some]
    refine hq _ H4 r3 o' (two7 hys hz) ?_ hr3 h4
    rw [size2]
    have : sizeX y = sizeX x := by rw [← hy, norm_size]
    simp only [bnd, List.length_cons] at hsz hsx ⊢
    omega
  | cmp_ok hp hop hp2 ih1 ih2 =>
    rename_i o r x t r1 k z r2
    intro T H Q he ht _ hps hq
    show E 255 [Pt pb] H Q
    have hs : Suf _ _ := P_suf hp he
    rw [f255_eq]
    refine ih1 T H _ he ht trivial hps (fun y H2 hy hys h2 => ?_)
    rw [szX, ob_some, splX, ob_some, nil_Pt, ob_some, add_Pt, ob_some, h2.ld2, ob_some, enc_ok, ob_some, cnd_f]
    refine c287 (.inr (.inr ⟨rfl, rfl⟩)) h2 (endsT_ne hs.1) (fun hk => by rw [hop] at hk; cases hk) (fun t' r2 k' H3 e' hk hk0 h3 => ?_)
    cases e'
    rw [hop] at hk; cases hk
    rw [i_eql, ob_some, decide_eq_false hk0, cnd_f, partX, ob_some]
    refine ih2 T H3 _ (tl5 hop hs.1) (tm (hs.mem ht)) trivial h3 (fun w H4 hw hws h4 => ?_)
    rw [mk2X, ob_some, rowb, ob_some, szX, ob_some, splX, ob_some, partX, ob_some]
    exact hq _ H4 (by rw [norm_mkl]; simp [hy, hw]) (two7 hys hws) h4
  | left_bad hp ih =>
    rename_i b o r e p
    intro T H Q he ht _ hps hq
    cases b
    · show E 302 [Pt pb] H Q
      rw [f302_eq]
      refine ih T H _ he ht trivial hps (fun y H' r1 o' hy hsz hr1 h' => ?_)
      rw [szX, ob_some, splX, ob_some, f302_l6_eq, nil_Pt, ob_some, add_Pt, ob_some, h'.ld2, ob_some, i_eql, ob_some, decide_eq_false (P_ne hp _ _ rfl), cnd_f, partX, ob_some, szX, ob_some, splX, ob_some, partX, ob_some]
      exact hq y H' r1 o' hy hsz hr1 h'
    · show E 286 [Pt pb] H Q
      rw [f286_eq]
      refine ih T H _ he ht trivial hps (fun y H' r1 o' hy hsz hr1 h' => ?_)
      rw [szX, ob_some, splX, ob_some, f286_l6_eq, nil_Pt, ob_some, add_Pt, ob_some, h'.ld2, ob_some, i_eql, ob_some, decide_eq_false (P_ne hp _ _ rfl), cnd_f, partX, ob_some, szX, ob_some, splX, ob_some, partX, ob_some]
      exact hq y H' r1 o' hy hsz hr1 h'
  | left_ok hp hm ih1 ih2 =>
    rename_i b o r x r1 R
    intro T H Q he ht _ hps hq
    have hs : Suf _ _ := P_suf hp he
    have hsx := size_left hp
    have hq2 : Res H0 T pb rb o (bnd (.lmore b x) r1) Q R := by
      cases R with
      | ok z r2 => exact hq
      | bad e p =>
        intro w H2 r2 o' hws hsz hr2 h2
        refine hq w H2 r2 o' hws ?_ hr2 h2
        simp only [bnd] at hsz ⊢
        omega
    cases b
    · show E 302 [Pt pb] H Q
      rw [f302_eq]
      refine ih1 T H _ he ht trivial hps (fun y H' hy hys h' => ?_)
      rw [szX, ob_some, splX, ob_some]
      exact ih2 T H' _ hs.1 (hs.mem ht) trivial h' hq2 y hy hys
    · show E 286 [Pt pb] H Q
      rw [f286_eq]
      refine ih1 T H _ he ht trivial hps (fun y H' hy hys h' => ?_)
      rw [szX, ob_some, splX, ob_some]
      exact ih2 T H' _ hs.1 (hs.mem ht) trivial h' hq2 y hy hys
  | lmore_no hop =>
    rename_i b x o r
    intro T H Q he ht _ hps hq y hy hys
    cases b
    · show f302_l6 (Pt pb) zero7 (encC y) H Q
      rw [f302_l6_eq, nil_Pt, ob_some, add_Pt, ob_some, hps.ld2, ob_some, i_eql, ob_some, d0, cnd_t]
      refine c287 (.inl ⟨rfl, rfl⟩) hps (endsT_ne he) (fun _ H3 h3 => ?_) (fun t r2 k H3 e hk => by rw [show opOf 6 8 r = none from hop] at hk; cases hk)
      rw [i_eql, ob_some, d0, cnd_t, partX, ob_some, szX, ob_some, splX, ob_some, partX, ob_some]
      exact hq y H3 hy hys h3
    · show f286_l6 (Pt pb) zero7 (encC y) H Q
      rw [f286_l6_eq, nil_Pt, ob_some, add_Pt, ob_some, hps.ld2, ob_some, i_eql, ob_some, d0, cnd_t]
      refine c287 (.inr (.inl ⟨rfl, rfl⟩)) hps (endsT_ne he) (fun _ H3 h3 => ?_) (fun t r2 k H3 e hk => by rw [show opOf 4 5 r = none from hop] at hk; cases hk)
      rw [i_eql, ob_some, d0, cnd_t, partX, ob_some, szX, ob_some, splX, ob_some, partX, ob_some]
      exact hq y H3 hy hys h3
  | lmore_bad hop hp ih =>
    rename_i b x o t r k e p
    intro T H Q he ht _ hps hq y hy hys
    have fin : ∀ z H4 r3 o', allX shX z → sizeX z ≤ 2 * r.length + 1 → r3 ≠ [] → PS H0 T pb rb r3 o' e p H4 → Q (encX (.mk k nullV e0 e0 7 false .full [y, z])) H4 := fun z H4 r3 o' hz hsz hr3 h4 => by
      refine hq _ H4 r3 o' (two7 hys hz) ?_ hr3 h4
      rw [size2]
      have : sizeX y = sizeX x := by rw [← hy, norm_size]
      simp only [bnd, List.length_cons]
      omega
    cases b
    · show f302_l6 (Pt pb) zero7 (encC y) H Q
      rw [f302_l6_eq, nil_Pt, ob_some, add_Pt, ob_some, hps.ld2, ob_some, i_eql, ob_some, d0, cnd_t]
      refine c287 (.inl ⟨rfl, rfl⟩) hps (by simp) (fun hk => by rw [show opOf 6 8 (t :: r) = some k from hop] at hk; cases hk) (fun t' r2 k' H3 e' hk hk0 h3 => ?_)
      cases e'
      rw [show opOf 6 8 (t :: r) = some k from hop] at hk; cases hk
      rw [i_eql, ob_some, decide_eq_false hk0, cnd_f, partX, ob_some]
      refine ih T H3 _ (tl5 hop he) (tm ht) trivial h3 (fun z H4 r3 o' hz hsz hr3 h4 => ?_)
      rw [mk2X, ob_some, rowb, ob_some, szX, ob_some, splX2, ob_some, f302_l6_eq, nil_Pt, ob_some, add_Pt, ob_some, h4.ld2, ob_some, i_eql, ob_some, decide_eq_false (P_ne hp _ _ rfl), cnd_f, partX, ob_some, szX, ob_some, splX, ob_some, partX, ob_some]
      exact fin z H4 r3 o' hz hsz hr3 h4
    · show f286_l6 (Pt pb) zero7 (encC y) H Q
      rw [f286_l6_eq, nil_Pt, ob_some, add_Pt, ob_some, hps.ld2, ob_some, i_eql, ob_some, d0, cnd_t]
      refine c287 (.inr (.inl ⟨rfl, rfl⟩)) hps (by simp) (fun hk => by rw [show opOf 4 5 (t :: r) = some k from hop] at hk; cases hk) (fun t' r2 k' H3 e' hk hk0 h3 => ?_)
      cases e'
      rw [show opOf 4 5 (t :: r) = some k from hop] at hk; cases hk
      rw [i_eql, ob_some, decide_eq_false hk0, cnd_f, partX, ob_some]
      refine ih T H3 _ (tl5 hop he) (tm ht) trivial h3 (fun z H4 r3 o' hz hsz hr3 h4 => ?_)
      rw [mk2X, ob_some, rowb, ob_some, szX, ob_some, splX2, ob_some, f286_l6_eq, nil_Pt, ob_some, add_Pt, ob_some, h4.ld2, ob_some, i_eql, ob_some, decide_eq_false (P_ne hp _ _ rfl), cnd_f, partX, ob_some, szX, ob_some, splX, ob_some, partX, ob_some]
      exact fin z H4 r3 o' hz hsz hr3 h4
  | lmore_ok hop hp hm ih1 ih2 =>
    rename_i b x o t r k z r1 R
    intro T H Q he ht _ hps hq y hy hys
    have he' := tl5 hop he
    have hs : Suf _ _ := P_suf hp he'
    have hsx := size_left hp
    have hq2 : Res H0 T pb rb o (bnd (.lmore b (nd k nullV e0 e0 [x, z])) r1) Q R := by
      cases R with
      | ok z r2 => exact hq
      | bad e p =>
        intro v H5 r2 o' hvs hsz hr2 h5
        refine hq v H5 r2 o' hvs ?_ hr2 h5
        simp only [bnd] at hsz ⊢
        rw [sizeX_nd] at hsz
        simp only [sizeXs, List.length_cons] at hsz ⊢
        omega
    cases b
    · show f302_l6 (Pt pb) zero7 (encC y) H Q
      rw [f302_l6_eq, nil_Pt, ob_some, add_Pt, ob_some, hps.ld2, ob_some, i_eql, ob_some, d0, cnd_t]
      refine c287 (.inl ⟨rfl, rfl⟩) hps (by simp) (fun hk => by rw [show opOf 6 8 (t :: r) = some k from hop] at hk; cases hk) (fun t' r2 k' H3 e' hk hk0 h3 => ?_)
      cases e'
      rw [show opOf 6 8 (t :: r) = some k from hop] at hk; cases hk
      rw [i_eql, ob_some, decide_eq_false hk0, cnd_f, partX, ob_some]
      refine ih1 T H3 _ he' (tm ht) trivial h3 (fun w H4 hw hws h4 => ?_)
      rw [mk2X, ob_some, rowb, ob_some, szX, ob_some, splX2, ob_some]
      exact ih2 T H4 _ hs.1 (hs.mem (tm ht)) trivial h4 hq2 _ (by rw [norm_mkl]; simp [hy, hw]) (two7 hys hws)
    · show f286_l6 (Pt pb) zero7 (encC y) H Q
      rw [f286_l6_eq, nil_Pt, ob_some, add_Pt, ob_some, hps.ld2, ob_some, i_eql, ob_some, d0, cnd_t]
      refine c287 (.inr (.inl ⟨rfl, rfl⟩)) hps (by simp) (fun hk => by rw [show opOf 4 5 (t :: r) = some k from hop] at hk; cases hk) (fun t' r2 k' H3 e' hk hk0 h3 => ?_)
      cases e'
      rw [show opOf 4 5 (t :: r) = some k from hop] at hk; cases hk
      rw [i_eql, ob_some, decide_eq_false hk0, cnd_f, partX, ob_some]
      refine ih1 T H3 _ he' (tm ht) trivial h3 (fun w H4 hw hws h4 => ?_)
      rw [mk2X, ob_some, rowb, ob_some, szX, ob_some, splX2, ob_some]
      exact ih2 T H4 _ hs.1 (hs.mem (tm ht)) trivial h4 hq2 _ (by rw [norm_mkl]; simp [hy, hw]) (two7 hys hws)
  | neg_no hn hp ih =>
    rename_i o r R
    intro T H Q he ht _ hps hq
    cases r with
    | nil => exact he.elim
    | cons t r =>
      refine negB true hps (by rw [hn]; rfl) ?_
      rw [f307_j7_eq, cnd_t]
      exact ih T H (copyQ Q) he ht trivial hps (resCopy hq)
  | neg_num hn hk3 =>
    rename_i o t r
    intro T H Q he ht _ hps hq
    have he' := tl (by decide) hn he
    have hk := (nextIs_cons hn).1
    cases r with
    | nil => exact he'.elim
    | cons u r2 =>
      refine negB false hps (by rw [hn]; rfl) ?_
      refine negI hps (by omega) (fun _ H' h' => ?_) (fun h3 => (h3 hk3).elim)
      exact c314 true (Bd := bnd .neg (t :: u :: r2)) h' hk3 (ht u (by simp)) (by simp only [bnd]; omega) (resCopy hq)
  | neg_long hn hk3 ho =>
    rename_i o t r
    intro T H Q he ht _ hps hq
    have he' := tl (by decide) hn he
    have hk := (nextIs_cons hn).1
    cases r with
    | nil => exact he'.elim
    | cons u r2 =>
      refine negB false hps (by rw [hn]; rfl) ?_
      refine negI hps (by omega) (fun h3 => (hk3 h3).elim) (fun _ => ?_)
      refine c256 hps (fun _ H' h' => ?_) (fun ho' => by omega)
      rw [not_B, ob_some, Bool.not_false, cnd_t, zX_b, ob_some, szX, ob_some, splX, ob_some, partX, ob_some]
      exact hq _ H' _ _ zX_sh (by rw [zX_size]; simp only [bnd]; omega) (by simp) h'
  | neg_bad hn hk3 ho hp ih =>
    rename_i o t r e p
    intro T H Q he ht _ hps hq
    have he' := tl (by decide) hn he
    have hk := (nextIs_cons hn).1
    cases r with
    | nil => exact he'.elim
    | cons u r2 =>
      refine negB false hps (by rw [hn]; rfl) ?_
      refine negI hps (by omega) (fun h3 => (hk3 h3).elim) (fun _ => ?_)
      refine c256 hps (fun h' => by omega) (fun _ H' h' => ?_)
      rw [not_B, ob_some, Bool.not_true, cnd_f]
      simp only [nil_Pt, ob_some, add_Pt, h'.ld0]
      refine c219 h'.rd (by omega) _ (fun ob1 hr => ?_)
      refine ih T _ _ he' (tm ht) trivial (h'.setr hr) (fun y H2 r1 o' hy hsz hr1 h2 => ?_)
      rw [szX, ob_some, splX, ob_some, h2.ld1, ob_some, i_sub, ob_some, h2.st1, ob_some, partX, ob_some, mk1X, ob_some, rowb, ob_some, szX, ob_some, splX, ob_some, partX, ob_some]
      exact hq _ _ _ _ (one7 hy) (by rw [size1]; simp only [bnd, List.length_cons] at hsz ⊢; omega) hr1 (h2.setp _ _ _)
  | neg_ok hn hk3 ho hp ih =>
    rename_i o t r x r1
    intro T H Q he ht _ hps hq
    have he' := tl (by decide) hn he
    have hk := (nextIs_cons hn).1
    cases r with
    | nil => exact he'.elim
    | cons u r2 =>
      refine negB false hps (by rw [hn]; rfl) ?_
      refine negI hps (by omega) (fun h3 => (hk3 h3).elim) (fun _ => ?_)
      refine c256 hps (fun h' => by omega) (fun _ H' h' => ?_)
      rw [not_B, ob_some, Bool.not_true, cnd_f]
      simp only [nil_Pt, ob_some, add_Pt, h'.ld0]
      refine c219 h'.rd (by omega) _ (fun ob1 hr => ?_)
      refine ih T _ _ he' (tm ht) trivial (h'.setr hr) (fun y H2 hy hys h2 => ?_)
      have hw : W64 (((o + 1 : Nat) : Int) - 1) = (o : Int) := by rw [w64_id (by omega) (by omega)]; omega
      rw [szX, ob_some, splX, ob_some, h2.ld1, ob_some, i_sub, ob_some, hw, h2.st1, ob_some, partX, ob_some, mk1X, ob_some, rowb, ob_some, szX, ob_some, splX, ob_some, partX, ob_some]
      exact hq _ _ (by rw [norm_mkl]; simp [hy]) (one7 hys) (h2.setp _ _ _)
  | last_atom hn =>
    rename_i o r
    intro T H Q he ht _ hps hq
    exact atom_run2 hps he ht hn (by simp only [bnd]; omega) hq
  | last_long hn ho =>
    rename_i o r
    intro T H Q he ht _ hps hq
    obtain ⟨t, r1, rfl, hk, _⟩ := nextIs_ne hn
    refine openB hps hn ?_
    rw [f313_j8_eq, cnd_t]
    refine c256 hps (fun _ H' h' => ?_) (fun ho' => by omega)
    rw [not_B, ob_some, Bool.not_false, cnd_t, zX_b, ob_some, szX, ob_some, splX, ob_some, partX, ob_some]
    exact hq _ H' _ _ zX_sh (by rw [zX_size]; simp only [bnd]; omega) (by simp) h'
  | last_bad hn ho hp ih =>
    rename_i o t r e p
    intro T H Q he ht _ hps hq
    have he' := tl (by decide) hn he
    have hk := (nextIs_cons hn).1
    refine openB hps hn ?_
    rw [f313_j8_eq, cnd_t]
    refine c256 hps (fun h' => by omega) (fun _ H' h' => ?_)
    rw [not_B, ob_some, Bool.not_true, cnd_f]
    simp only [nil_Pt, ob_some, add_Pt, h'.ld0]
    refine c219 h'.rd (by omega) _ (fun ob1 hr => ?_)
    rw [f50_eq]
    refine ih T _ _ he' (tm ht) trivial (h'.setr hr) (fun y H2 r1 o' hy hsz hr1 h2 => ?_)
    rw [szX, ob_some, splX, ob_some, partX, ob_some, szX, ob_some, splX, ob_some, h2.ld2, ob_some, i_eql, ob_some, decide_eq_false (P_ne hp _ _ rfl), cnd_f, f313_j24_eq, cnd_f, nil_Pt, ob_some, add_Pt, ob_some, h2.ld1, ob_some, i_sub, ob_some, ob_some, add_Pt, ob_some, h2.st1, ob_some, partX, ob_some, szX, ob_some, splX, ob_some, partX, ob_some]
    exact hq _ _ _ _ hy (by simp only [bnd, List.length_cons] at hsz ⊢; omega) hr1 (h2.setp _ _ _)
  | last_open hn ho hp hs ih =>
    rename_i o t r x r1
    intro T H Q he ht _ hps hq
    have he' := tl (by decide) hn he
    have hk := (nextIs_cons hn).1
    have hsf : Suf _ _ := P_suf hp he'
    refine openB hps hn ?_
    rw [f313_j8_eq, cnd_t]
    refine c256 hps (fun h' => by omega) (fun _ H' h' => ?_)
    rw [not_B, ob_some, Bool.not_true, cnd_f]
    simp only [nil_Pt, ob_some, add_Pt, h'.ld0]
    refine c219 h'.rd (by omega) _ (fun ob1 hr => ?_)
    rw [f50_eq]
    refine ih T _ _ he' (tm ht) trivial (h'.setr hr) (fun y H2 hy hys h2 => ?_)
    rw [szX, ob_some, splX, ob_some, partX, ob_some, szX, ob_some, splX, ob_some, h2.ld2, ob_some, i_eql, ob_some, d0, cnd_t, h2.ld0, ob_some]
    refine c139 _ h2.rd (endsT_ne hsf.1) _ (fun _ => ?_) (fun u r2 o1 e' hs' _ => by rw [show nextIs 5 ⟨#[41]⟩ r1 = false from hs] at hs'; cases hs')
    rw [not_B, ob_some, Bool.not_false, f313_j24_eq, cnd_t]
    refine c288 h2 (endsT_ne hsf.1) 4 (fun H4 h4 => ?_)
    rw [szX, ob_some, splX, ob_some, partX, ob_some]
    exact hq zX H4 r1 _ zX_sh (by rw [zX_size]; simp only [bnd]; omega) (endsT_ne hsf.1) h4
  | last_ok hn ho hp hs ih =>
    rename_i o t r x u r1
    intro T H Q he ht _ hps hq
    have he' := tl (by decide) hn he
    have hk := (nextIs_cons hn).1
    refine openB hps hn ?_
    rw [f313_j8_eq, cnd_t]
    refine c256 hps (fun h' => by omega) (fun _ H' h' => ?_)
    rw [not_B, ob_some, Bool.not_true, cnd_f]
    simp only [nil_Pt, ob_some, add_Pt, h'.ld0]
    refine c219 h'.rd (by omega) _ (fun ob1 hr => ?_)
    rw [f50_eq]
    refine ih T _ _ he' (tm ht) trivial (h'.setr hr) (fun y H2 hy hys h2 => ?_)
    rw [szX, ob_some, splX, ob_some, partX, ob_some, szX, ob_some, splX, ob_some, h2.ld2, ob_some, i_eql, ob_some, d0, cnd_t, h2.ld0, ob_some]
    refine c139 _ h2.rd (by simp) _ (fun hs' => by rw [show nextIs 5 ⟨#[41]⟩ (u :: r1) = true from hs] at hs'; cases hs') (fun u' r2 o1 e' _ hr2 => ?_)
    cases e'
    have h4 := h2.setr hr2
    have hw : W64 (((o + 1 : Nat) : Int) - 1) = (o : Int) := by rw [w64_id (by omega) (by omega)]; omega
    rw [not_B, ob_some, Bool.not_true, f313_j24_eq, cnd_f, nil_Pt, ob_some, add_Pt, ob_some, h4.ld1, ob_some, i_sub, ob_some, hw, ob_some, add_Pt, ob_some, h4.st1, ob_some, partX, ob_some, szX, ob_some, splX, ob_some, partX, ob_some]
    exact hq y _ hy hys (h4.setp _ _ _)
end
end Go.Hx
namespace Go.Hx
theorem less_self (l : List UInt8) : Op.bytesLess l l = false := by
  induction l with
  | nil => rfl
  | cons c l ih => simp [Op.bytesLess, ih]
theorem c265 (a : Int) (H : Heap) (Q : Post) : E 265 [I a] H Q = Q (B false) H := by simp [f265_eq, i_neq, ob_some]
theorem c291 (a : Int) (H : Heap) (Q : Post) : E 291 [I a] H Q = Q (B false) H := by simp [f291_eq, i_neq, ob_some]
theorem c267 (a : ByteArray) (H : Heap) (Q : Post) : E 267 [S a] H Q = Q (B false) H := by simp [f267_eq, s_neq, ob_some]
theorem c203 (a : Int) (H : Heap) (Q : Post) : E 203 [I a, I a] H Q = Q (I 0) H := by
  have h : decide (a < a) = false := decide_eq_false (by omega)
  simp only [f203_eq, c265, i_lss, i_gtr, ob_some, h, cnd_f]
theorem c266 (a : Int) (H : Heap) (Q : Post) : E 266 [I a, I a] H Q = Q (I 0) H := by
  have h : decide (a < a) = false := decide_eq_false (by omega)
  simp only [f266_eq, c291, i_lss, i_gtr, ob_some, h, cnd_f]
theorem c205 (a : ByteArray) (H : Heap) (Q : Post) : E 205 [S a, S a] H Q = Q (I 0) H := by
  have h1 : (!(Op.bytesLess a.toList a.toList || a.toList == a.toList)) = false := by simp
  simp only [f205_eq, c267, s_lss, s_gtr, ob_some, less_self, h1, cnd_f]
  have h2 : (!(false || a.toList == a.toList)) = false := by simp
  simp only [h2, cnd_f]
theorem c204 (v : Vl) (H : Heap) (Q : Post) : E 204 [encV v, encV v] H Q = Q (I 0) H := by
  have h0 : sizedA 3 (encV v) = some [I v.k, I v.n, S v.s] := rfl
  have z : (!decide ((0 : Int) = 0)) = false := rfl
  simp only [f204_eq, h0, part_f, ob_some, c203, c266, c205, i_neq, decide_true, Bool.not_true, cnd_f, List.getElem?_cons_zero, List.getElem?_cons_succ]
theorem c202 (H : Heap) (Q : Post) : E 202 [.sl 1 false .full [I 0, I 0, I 0, I 0, I 0]] H Q = Q (I 0) H := by
  have hl : lenA (.sl 1 false .full [I 0, I 0, I 0, I 0, I 0]) = some (I 5) := rfl
  have hx : ∀ i : Nat, i < 5 → ixaA 1 (.sl 1 false .full [I 0, I 0, I 0, I 0, I 0]) (I i) = some [I 0] := fun i hi => by
    match i, hi with
    | 0, _ | 1, _ | 2, _ | 3, _ | 4, _ => rfl
    | n + 5, h => exact absurd h (by omega)
  have z : (!decide ((0 : Int) = 0)) = false := rfl
  have step : ∀ (m i : Nat), i + m = 5 → f202_l8 (I 0) (.sl 1 false .full [I 0, I 0, I 0, I 0, I 0]) (I 5) (I i) H Q = Q (I 0) H := by
    intro m
    induction m with
    | zero =>
      intro i e
      have : decide ((i : Int) < 5) = false := decide_eq_false (by omega)
      rw [f202_l8_eq, i_lss, ob_some, this, cnd_f]
    | succ m ih =>
      intro i e
      have : decide ((i : Int) < 5) = true := decide_eq_true (by omega)
      rw [f202_l8_eq, i_lss, ob_some, this, cnd_t, hx i (by omega), ob_some, part_f, List.getElem?_cons_zero, ob_some, i_neq, ob_some, z, cnd_f, i_add, ob_some, w64_succ (n := 5) (by omega) (by omega)]
      exact ih (i + 1) (by omega)
  rw [f202_eq, hl, ob_some]
  exact step 5 0 rfl
theorem mk5 : mkSlA 1 [I 0, I 0, I 0, I 0, I 0] = some (.sl 1 false .full [I 0, I 0, I 0, I 0, I 0]) := rfl
theorem q4X (x : Ex) : partA false 4 1 (encC x) = some (S x.var) := by rw [encC_eq]; rfl
theorem q5X (x : Ex) : partA false 5 1 (encC x) = some (S x.fld) := by rw [encC_eq]; rfl
theorem q6X' (x : Ex) : partA false 6 1 (encC x) = some (encXs x.sz x.nil x.tip x.l) := by rw [encC_eq]; rfl
theorem q0X' (x : Ex) : partA false 0 1 (encC x) = some (I x.k) := by rw [encC_eq]; rfl
theorem same_fields {x y : Ex} (h : norm x = norm y) : x.k = y.k ∧ x.v = y.v ∧ x.var = y.var ∧ x.fld = y.fld ∧ x.l.map norm = y.l.map norm := by
  rw [norm_eq, norm_eq y] at h
  simp only [nd, Ex.mk.injEq] at h
  exact ⟨h.1, h.2.1, h.2.2.1, h.2.2.2.1, h.2.2.2.2.2.2.2⟩
theorem same_len {x y : Ex} (h : norm x = norm y) : x.l.length = y.l.length := by
  have := congrArg List.length (same_fields h).2.2.2.2
  simpa using this
theorem c127 {x y : Ex} (h : norm x = norm y) (H : Heap) (Q : Post) : E 127 [encX x, encX y] H Q = Q (I 0) H := by
  obtain ⟨h1, h2, h3, h4, _⟩ := same_fields h
  have h5 := same_len h
  simp only [f127_eq, szX, ob_some, q0X', partXV, q4X, q5X, q6X', lenX, h1, h2, h3, h4, h5, c203, c204, c205, mk5, c202]
theorem get_split {l pre r : List Ex} {x : Ex} (e : l = pre ++ x :: r) : l[pre.length]? = some x := by rw [e]; simp
theorem c59 (x : Ex) : ∀ (y : Ex), norm x = norm y → sizeX x ≤ 1099511627776 → ∀ (H : Heap) (Q : Post), E 59 [encX x, encX y] H Q = Q (I 0) H := by
  induction x using Ex.ind with
  | h x ih =>
    intro y h hs H Q
    have z : (!decide ((0 : Int) = 0)) = false := rfl
    have hln := same_len h
    have hmap := (same_fields h).2.2.2.2
    have hsx := sizeX_eq x
    have hll := len_sizeXs x.l
    have loop : ∀ (r pre : List Ex) (r' pre' : List Ex), x.l = pre ++ r → y.l = pre' ++ r' → pre.length = pre'.length → r.map norm = r'.map norm → f59_l16 (encC y) (encXs x.sz x.nil x.tip x.l) (I x.l.length) (I pre.length) H Q = Q (I 0) H := by
      intro r
      induction r with
      | nil =>
        intro pre r' pre' e e' hp _
        have hlt : (pre.length : Int) = x.l.length := by rw [e]; simp
        rw [f59_l16_eq, i_lss, ob_some, cnd_B, hlt]
        simp
      | cons a r ihr =>
        intro pre r' pre' e e' hp hm
        cases r' with
        | nil => simp at hm
        | cons b r' =>
          simp only [List.map_cons, List.cons.injEq] at hm
          have hlt : pre.length < x.l.length := by rw [e]; simp
          have hlt' : (pre.length : Int) < x.l.length := by omega
          have ham : a ∈ x.l := by rw [e]; simp
          have hsa : sizeX a ≤ sizeXs x.l := by rw [e, sizeXs_append]; simp only [sizeXs]; omega
          have hxb : ixaA 7 (encXs y.sz y.nil y.tip y.l) (I pre.length) = some (encC b) := by rw [hp]; exact ixX y.l y.sz y.nil y.tip pre' r' b e'
          rw [f59_l16_eq, i_lss, ob_some, cnd_B, if_pos (by simpa using hlt'), ixX x.l x.sz x.nil x.tip pre r a e, ob_some, partX, ob_some, szX, ob_some, splX, ob_some, partX, ob_some, q6X', ob_some, hxb, ob_some, partX, ob_some, ih a ham b hm.1 (by omega), i_neq, ob_some, z, cnd_f, i_add, ob_some, w64_succ hlt (by omega)]
          have := ihr (pre ++ [a]) r' (pre' ++ [b]) (by simp [e]) (by simp [e']) (by simp [hp]) hm.2
          rw [List.length_append, List.length_singleton] at this
          exact this
    rw [f59_eq, szX, ob_some, szX, ob_some, partX, ob_some, partX, ob_some, c127 h, i_neq, ob_some, z, cnd_f, q6X', ob_some, lenX, ob_some]
    exact loop x.l [] y.l [] rfl rfl rfl hmap
theorem c29 {x y : Ex} (h : norm x = norm y) (hs : sizeX x ≤ 1099511627776) (H : Heap) (Q : Post) : E 29 [encX x, encX y] H Q = Q (B true) H := by
  have z : decide ((0 : Int) = 0) = true := rfl
  rw [f29_eq, szX, ob_some, szX, ob_some, partX, ob_some, partX, ob_some, c59 x y h hs, i_eql, ob_some, z]
/-! ### The document's -/
theorem c101 (a : Int) (H : Heap) (Q : Post) : E 101 [I a, I a] H Q = Q (I 0) H := by
  have h : decide (a = a) = true := decide_eq_true rfl
  simp only [f101_eq, i_eql, ob_some, decide_true, cnd_t]
theorem c103 (a : ByteArray) (H : Heap) (Q : Post) : E 103 [S a, S a] H Q = Q (I 0) H := by
  have h : decide (a = a) = true := decide_eq_true rfl
  simp only [f103_eq, s_eql, ob_some, decide_true, cnd_t]
theorem c102 (v : Vl) (H : Heap) (Q : Post) : E 102 [encV v, encV v] H Q = Q (I 0) H := by
  have h0 : sizedA 3 (encV v) = some [I v.k, I v.n, S v.s] := rfl
  have h1 : partA true 0 3 [I v.k, I v.n, S v.s] = some (encV v) := rfl
  have h : decide (v = v) = true := decide_eq_true rfl
  rw [f102_eq, h0, ob_some, ob_some, h1, ob_some, ob_some, v_eql, ob_some, h, cnd_t]
theorem c46_l (b1 b2 : List AV) (H : Heap) (Q : Post) : f46_l8 b1 b2 (.sl 1 false .full [I 0, I 0, I 0, I 0, I 0]) (I 0) H Q = f46_l29 b1 b2 (I 0) H Q := by
  have hl : lenA (.sl 1 false .full [I 0, I 0, I 0, I 0, I 0]) = some (I 5) := rfl
  have hx : ∀ i : Nat, i < 5 → ixaA 1 (.sl 1 false .full [I 0, I 0, I 0, I 0, I 0]) (I i) = some [I 0] := fun i hi => by
    match i, hi with
    | 0, _ | 1, _ | 2, _ | 3, _ | 4, _ => rfl
    | n + 5, h => exact absurd h (by omega)
  have z : (!decide ((0 : Int) = 0)) = false := rfl
  have step : ∀ (m i : Nat), i + m = 5 → f46_l8 b1 b2 (.sl 1 false .full [I 0, I 0, I 0, I 0, I 0]) (I i) H Q = f46_l29 b1 b2 (I 0) H Q := by
    intro m
    induction m with
    | zero =>
      intro i e
      have : decide ((i : Int) < 5) = false := decide_eq_false (by omega)
      rw [f46_l8_eq, hl, ob_some, i_lss, ob_some, this, cnd_f]
    | succ m ih =>
      intro i e
      have : decide ((i : Int) < 5) = true := decide_eq_true (by omega)
      rw [f46_l8_eq, hl, ob_some, i_lss, ob_some, this, cnd_t, hx i (by omega), ob_some, part_f, List.getElem?_cons_zero, ob_some, i_neq, ob_some, z, cnd_f, i_add, ob_some, w64_succ (n := 5) (by omega) (by omega)]
      exact ih (i + 1) (by omega)
  exact step 5 0 rfl
theorem c46 (x : Ex) : ∀ (y : Ex), norm x = norm y → sizeX x ≤ 1099511627776 → ∀ (H : Heap) (Q : Post), E 46 [encX x, encX y] H Q = Q (I 0) H := by
  induction x using Ex.ind with
  | h x ih =>
    intro y h hs H Q
    have z : (!decide ((0 : Int) = 0)) = false := rfl
    obtain ⟨h1, h2, h3, h4, hmap⟩ := same_fields h
    have hln := same_len h
    have hsx := sizeX_eq x
    have hll := len_sizeXs x.l
    have loop : ∀ (r pre : List Ex) (r' pre' : List Ex), x.l = pre ++ r → y.l = pre' ++ r' → pre.length = pre'.length → r.map norm = r'.map norm → f46_l29 (encC x) (encC y) (I pre.length) H Q = Q (I 0) H := by
      intro r
      induction r with
      | nil =>
        intro pre r' pre' e e' hp _
        have hlt : (pre.length : Int) = x.l.length := by rw [e]; simp
        rw [f46_l29_eq, q6X', ob_some, lenX, ob_some, i_lss, ob_some, cnd_B, hlt]
        simp only [Int.lt_irrefl, decide_false, Bool.false_eq_true, if_false]
        rw [f46_j33_eq, cnd_f]
      | cons a r ihr =>
        intro pre r' pre' e e' hp hm
        cases r' with
        | nil => simp at hm
        | cons b r' =>
          simp only [List.map_cons, List.cons.injEq] at hm
          have hlt : pre.length < x.l.length := by rw [e]; simp
          have hlt' : (pre.length : Int) < x.l.length := by omega
          have hlty : decide ((pre.length : Int) < y.l.length) = true := decide_eq_true (by rw [← hln]; omega)
          have ham : a ∈ x.l := by rw [e]; simp
          have hsa : sizeX a ≤ sizeXs x.l := by rw [e, sizeXs_append]; simp only [sizeXs]; omega
          have hxb : ixaA 7 (encXs y.sz y.nil y.tip y.l) (I pre.length) = some (encC b) := by rw [hp]; exact ixX y.l y.sz y.nil y.tip pre' r' b e'
          rw [f46_l29_eq, q6X', ob_some, lenX, ob_some, i_lss, ob_some, cnd_B, if_pos (by simpa using hlt'), q6X', ob_some, lenX, ob_some, i_lss, ob_some, hlty, f46_j33_eq, cnd_t, q6X', ob_some, ixX x.l x.sz x.nil x.tip pre r a e, ob_some, partX, ob_some, q6X', ob_some, hxb, ob_some, partX, ob_some, ih a ham b hm.1 (by omega), i_neq, ob_some, z, cnd_f, i_add, ob_some, w64_succ hlt (by omega)]
          have := ihr (pre ++ [a]) r' (pre' ++ [b]) (by simp [e]) (by simp [e']) (by simp [hp]) hm.2
          rw [List.length_append, List.length_singleton] at this
          exact this
    simp only [f46_eq, szX, ob_some, q0X', partXV, q4X, q5X, q6X', lenX, h1, h2, h3, h4, hln, c101, c102, c103, mk5, c46_l]
    exact loop x.l [] y.l [] rfl rfl rfl hmap
theorem c15 {x y : Ex} (h : norm x = norm y) (hs : sizeX x ≤ 1099511627776) (H : Heap) (Q : Post) : E 15 [encX x, encX y] H Q = Q (B true) H := by
  have z : decide ((0 : Int) = 0) = true := rfl
  rw [f15_eq, szX, ob_some, szX, ob_some, partX, ob_some, partX, ob_some, c46 x y h hs, i_eql, ob_some, z]
end Go.Hx
namespace Go.Hx
theorem c20 {H0 H : Heap} {T : Nat → Nat → Prop} {rb : Nat} {r : List Tk} {Q : Post} {R : PR} (h : RD H0 T rb r H) (he : endsT r) (hok : ∀ t ∈ r, okTk t) (hP : P (.row true) 0 r R) (hq : Res19 H0 T rb r Q R) : E 20 [Pt rb] H Q := by
  have hb : bldA [(0, 1, Pt rb)] [AV.raw (.pointer none), I 0, I 0, I 0] = some (.agg [Pt rb, I 0, I 0, I 0]) := rfl
  have hs : sizedA 4 (.agg [Pt rb, I 0, I 0, I 0]) = some [Pt rb, I 0, I 0, I 0] := rfl
  rw [f20_eq, c22 h.rd (endsT_ne he), hb, ob_some, hs, ob_some]
  intro pb hf
  simp only [Pt_def]
  have hne : pb ≠ rb := fun e => by
    subst e
    obtain ⟨L, i, s', n', t', h1, _⟩ := h.rd
    rw [hf.1] at h1; cases h1
  have hfp := h.ext.fresh hf
  have ps : PS H0 T pb rb r ((0 : Nat) : Int) 0 0 (H.setObj pb (.cells [Pt rb, I 0, I 0, I 0])) :=
    ⟨h.ext.setObj hfp _, hfp, h.fr, hne, setObj_same _ _ _, by
      obtain ⟨L, i, s', n', t', h1, h2⟩ := h.rd
      exact ⟨L, i, s', n', t', by rw [setObj_ne _ _ (Ne.symm hne)]; exact h1, h2⟩, h.tp⟩
  have hlen := ps.rlen
  rw [f50_eq]
  show Run2 H0 T pb (.row true) _ _
  refine run_all2 hP T _ _ he hok trivial ps ?_
  cases R with
  | bad e p =>
    intro y H' r1 o' _ _ hr1 h'
    have hne0 : decide (e = 0) = false := decide_eq_false (P_ne hP _ _ rfl)
    simp only [szX, splX, ob_some, partX, nil_Pt, add_Pt, h'.ld2, h'.ld3, i_neq, hne0, Bool.not_false, cnd_t, zX_b, apL]
    exact hq H' r1 hr1 h'.toRD
  | ok x r1 =>
    intro y H' hy hys h'
    have h0 : decide ((0 : Int) = 0) = true := rfl
    have hsz : sizeX x + r1.length ≤ r.length := P_size hP
    have hsuf : Suf r r1 := P_suf hP he
    have hgx : allX gX x := P_good hP hok he (fun _ _ h => by cases h) (fun _ _ h => by cases h)
    have hgy : allX gX y := (norm_gX y).1 (hy.symm ▸ hgx)
    have hys' : sizeX y = sizeX x := by rw [← hy, norm_size]
    have hoy := gX_ok hgy (by omega)
    have hcx : checkP x = checkP y := by rw [← hy]; exact norm_check (by omega)
    rw [szX, ob_some, splX, ob_some, partX, ob_some, szX, ob_some, splX, ob_some, nil_Pt, ob_some, add_Pt, ob_some, h'.ld2, ob_some, i_neq, ob_some, h0, Bool.not_true, cnd_f, partX, ob_some, c51 y hoy.1 hoy.2 (by omega), i_neq, ob_some]
    refine cnd_intro (fun hc => ?_) (fun hc => ?_)
    · simp only [zX_b, ob_some, szX, splX, partX]
      exact hq.2 (by rw [hcx]; simpa using hc) H' h'.toRD
    · rw [ob_some, c22 h'.rd (endsT_ne hsuf.1)]
      simp only [szX, splX, partX, ob_some]
      exact hq.1 (by rw [hcx]; simpa using hc) y H' hy hys hgy h'.toRD
theorem c14 (s : ByteArray) (hsz : s.size ≤ 1099511627776) (H : Heap) (Q : Post) {R : TR} (hR : TextR s R) (hq : Res13 H s Q R) : E 14 [S s] H Q := by
  have nz : ∀ {e : Int}, e ≠ 0 → decide (e = 0) = false := fun h => decide_eq_false h
  rw [f14_eq]
  refine c17 s hsz H _ (fun v H1 hv h1 hfr => ?_)
  cases hl : lexA s with
  | error x =>
    obtain ⟨p, e⟩ := x
    rw [hl] at hv
    have hv : v = .tup [.raw (.pointer none), I p, I e] := hv
    subst hv
    have hne := nz (lexA_bad hl).2
    simp only [x3_0, x3_1, x3_2, ob_some, i_neq, hne, Bool.not_false, cnd_t, zX_b, szX, splX, partX]
    cases hR with
    | lex h => rw [hl] at h; cases h; exact hq H1 h1
    | bad h => rw [hl] at h; cases h
    | long h => rw [hl] at h; cases h
    | more h => rw [hl] at h; cases h
    | ok h => rw [hl] at h; cases h
  | ok L =>
    rw [hl] at hv
    obtain ⟨b, rfl, hb⟩ := hv
    have h0 : decide ((0 : Int) = 0) = true := rfl
    simp only [x3_0, x3_1, x3_2, ob_some, i_neq, h0, Bool.not_true, cnd_f]
    have hbf := hfr b _ rfl
    have rd : RD H (fun _ _ => False) b L H1 := ⟨h1, hbf, hb, fun _ _ h => h.elim⟩
    have hls := lexA_len hl
    have ho := lexA_ok hl
    cases hR with
    | lex h => rw [hl] at h; cases h
    | bad h hP =>
      rw [hl] at h; cases h
      refine c20 rd hls.2 ho hP (fun H' r1 _ h' => ?_)
      simp only [x3_0, x3_1, x3_2, ob_some, i_neq, nz (P_ne hP _ _ rfl), Bool.not_false, cnd_t, zX_b, szX, splX, partX]
      exact hq H' h'.ext
    | long h hP hc =>
      rw [hl] at h; cases h
      refine c20 rd hls.2 ho hP ⟨fun h0 => (hc h0).elim, fun _ H' h' => ?_⟩
      have h2 : decide ((2 : Int) = 0) = false := rfl
      simp only [x3_0, x3_1, x3_2, ob_some, i_neq, h2, Bool.not_false, cnd_t, zX_b, szX, splX, partX]
      exact hq H' h'.ext
    | @more L' x r1 h hP hc hk =>
      rw [hl] at h; cases h
      have hsuf : Suf _ _ := P_suf hP hls.2
      refine c20 rd hls.2 ho hP ⟨fun _ y H' hy hys hgy h' => ?_, fun h0 => (h0 hc).elim⟩
      cases r1 with
      | nil => exact hsuf.1.elim
      | cons t r2 =>
        have hk : decide (t.k = 6) = false := decide_eq_false hk
        simp only [x3_0, x3_1, x3_2, ob_some, h0, Bool.not_true, cnd_f, i_neq, Bool.not_false, cnd_t, zX_b, szX, splX, partX]
        rw [c45 h'.rd]
        simp only [fK0, ob_some, i_neq, hk, Bool.not_false, cnd_t]
        rw [c22 h'.rd (by simp)]
        exact hq H' h'.ext
    | @ok L' x r1 h hP hc hk =>
      rw [hl] at h; cases h
      have hsuf : Suf _ _ := P_suf hP hls.2
      have hsz : _ ≤ _ := P_size hP
      refine c20 rd hls.2 ho hP ⟨fun _ y H' hy hys hgy h' => ?_, fun h0 => (h0 hc).elim⟩
      cases r1 with
      | nil => exact hsuf.1.elim
      | cons t r2 =>
        have hk : decide (t.k = 6) = true := decide_eq_true hk
        simp only [x3_0, x3_1, x3_2, ob_some, h0, Bool.not_true, cnd_f, i_neq, szX, splX, partX, len_S]
        rw [c45 h'.rd]
        simp only [fK0, ob_some, i_neq, hk, Bool.not_true, cnd_f]
        exact hq y H' h'.ext hy hys hgy hc (by have := check_size hc (by omega); rw [← hy, norm_size] at this; exact this)
/-! ### A block taken out -/
def delH (H : Heap) (b : Nat) : Heap := (H.dropObj b).dropTip b
theorem del_fresh (H : Heap) (b : Nat) : (delH H b).fresh b := ⟨by simp [delH, Heap.dropObj, Heap.dropTip], by simp [delH, Heap.dropObj, Heap.dropTip]⟩
theorem del_ne (H : Heap) {b c : Nat} (h : c ≠ b) : (delH H b).objs c = H.objs c ∧ (delH H b).tips c = H.tips c ∧ (delH H b).tys c = H.tys c := by
  simp [delH, Heap.dropObj, Heap.dropTip, h]
theorem del_ext (H : Heap) (b : Nat) : HExt (delH H b) H := fun c hc => by
  have hne : c ≠ b := fun e => hc (e ▸ del_fresh H b)
  have := del_ne H hne
  exact ⟨this.1.symm, this.2.1.symm, this.2.2.symm⟩
theorem ext_del {H Hc Hd : Heap} {b : Nat} (h1 : HExt H Hc) (hb : H.fresh b) (h2 : HExt (delH Hc b) Hd) : HExt H Hd := fun c hc => by
  have hne : c ≠ b := fun e => hc (e ▸ hb)
  have e1 := h1 c hc
  have e2 := del_ne Hc hne
  have hnf : ¬ (delH Hc b).fresh c := fun hf => hc ⟨by rw [← e1.1, ← e2.1]; exact hf.1, by rw [← e1.2.1, ← e2.2.1]; exact hf.2⟩
  have e3 := h2 c hnf
  exact ⟨e3.1.trans (e2.1.trans e1.1), e3.2.1.trans (e2.2.1.trans e1.2.1), e3.2.2.trans (e2.2.2.trans e1.2.2)⟩
theorem RS.del {b c : Nat} {r : List Tk} {H : Heap} (h : RS b r H) (hne : b ≠ c) : RS b r (delH H c) := by
  obtain ⟨L, i, s', n', t', h1, h2⟩ := h
  exact ⟨L, i, s', n', t', by rw [(del_ne H hne).1]; exact h1, h2⟩
theorem rp36 (b : Nat) : binA Pg .eql 36 true (Pt b) (.raw (.pointer none)) = some (B false) := by kernel_rfl
theorem rp33n : binA Pg .eql 33 true (.raw (.pointer none)) (.raw (.pointer none)) = some (B true) := by kernel_rfl
theorem rp36n : binA Pg .eql 36 true (.raw (.pointer none)) (.raw (.pointer none)) = some (B true) := by kernel_rfl
theorem P_nonneg {r : List Tk} : (0 : Nat) ≤ r.length := Nat.zero_le _
theorem c3 (s : ByteArray) (hsz : s.size ≤ 1048576) (H : Heap) (Q : Post) (hq : ∀ H', HExt H H' → Q (B true) H') : E 3 [S s] H Q := by
  have dd : ∀ a : Int, decide (a = a) = true := fun a => decide_eq_true rfl
  obtain ⟨R, hR⟩ := TextR_total s
  -- readers
  have j9 : ∀ H1, HExt H H1 → f3_j9 (S s) (B false) H1 Q := fun H1 h1 => by
    rw [f3_j9_eq, cnd_f]
    refine c16 s (by omega) H1 _ (fun v H2 hv h2 hfr1 => ?_)
    cases hl : lexA s with
    | error x =>
      obtain ⟨p, e⟩ := x
      rw [hl] at hv
      have hv : v = .tup [.raw (.pointer none), I p, I e] := hv
      subst hv
      simp only [x3_0, x3_1, x3_2, ob_some]
      refine c17 s (by omega) H2 _ (fun w H3 hw h3 _ => ?_)
      rw [hl] at hw
      have hw : w = .tup [.raw (.pointer none), I p, I e] := hw
      subst hw
      have bt : binA Pg .eql 4 false (B true) (B true) = some (B true) := by rw [b_eql 4 false u4]; rfl
      simp only [x3_0, x3_1, x3_2, ob_some, i_neq, decide_true, Bool.not_true, cnd_f, rp33n, cnd_t, f3_j21_eq, i_eql, rp36n, bt]
      refine c18 H3 _ (fun H4 h4 => ?_)
      rw [f3_j24_eq]
      exact hq H4 (((h1.trans h2).trans h3).trans h4)
    | ok L =>
      rw [hl] at hv
      obtain ⟨b1, rfl, hb1⟩ := hv
      simp only [x3_0, x3_1, x3_2, ob_some]
      have hf1 := hfr1 b1 _ rfl
      refine c17 s (by omega) H2 _ (fun w H3 hw h3 hfr2 => ?_)
      rw [hl] at hw
      obtain ⟨b2, rfl, hb2⟩ := hw
      have hf2 := hfr2 b2 _ rfl
      have hne : b1 ≠ b2 := fun e => by
        subst e
        obtain ⟨L', i, s', n', t', g, _⟩ := hb1
        rw [hf2.1] at g; cases g
      have hls := lexA_len hl
      have ho := lexA_ok hl
      obtain ⟨R, hP, _⟩ := P_total _ (.row true) 0 L (Nat.le_refl _) hls.2
      simp only [x3_0, x3_1, x3_2, ob_some, i_neq, decide_true, Bool.not_true, cnd_f, rp_some, rp36, f3_j21_eq]
      have hb1' := hb1.mono h3
      have rd1 : RD (delH H3 b1) (fun _ _ => False) b1 L H3 := ⟨del_ext H3 b1, del_fresh H3 b1, hb1', fun _ _ h => h.elim⟩
      have hb2' : RS b2 L (delH H3 b1) := hb2.del (Ne.symm hne)
      have e13 : HExt H1 H3 := h2.trans h3
      have fin : ∀ (H5 : Heap), HExt H H5 → f3_c11_24a (encC zX) (encC zX) H5 Q ∧ (∀ y z : Ex, f3_c11_24b (encC y) (encC z) (B true) H5 Q) := fun H5 h5 => by
        refine ⟨?_, fun y z => ?_⟩
        · rw [f3_c11_24a_eq]
          refine c18 H5 _ (fun H6 h6 => ?_)
          rw [f3_c11_27a_eq, f3_j32_eq]
          exact hq H6 (h5.trans h6)
        · rw [f3_c11_24b_eq, cnd_t]
          refine c18 H5 _ (fun H6 h6 => ?_)
          rw [f3_c11_27a_eq, f3_j32_eq]
          exact hq H6 (h5.trans h6)
      have ext4 : ∀ {H4 : Heap} {r1 : List Tk}, RD (delH H3 b1) (fun _ _ => False) b1 r1 H4 → HExt H1 H4 ∧ RS b2 L H4 := fun h4 => ⟨ext_del e13 hf1 h4.ext, hb2'.mono h4.ext⟩
      have rd2 : ∀ {H4 : Heap} {r1 : List Tk}, RD (delH H3 b1) (fun _ _ => False) b1 r1 H4 → RD (delH H4 b2) (fun _ _ => False) b2 L H4 := fun h4 => ⟨del_ext _ b2, del_fresh _ b2, (ext4 h4).2, fun _ _ h => h.elim⟩
      have ext5 : ∀ {H4 H5 : Heap} {r1 r2 : List Tk}, RD (delH H3 b1) (fun _ _ => False) b1 r1 H4 → RD (delH H4 b2) (fun _ _ => False) b2 r2 H5 → HExt H H5 ∧ RS b1 r1 H5 := fun h4 h5 =>
        ⟨h1.trans (ext_del (ext4 h4).1 (h2.fresh hf2) h5.ext), (h4.rd.del hne).mono h5.ext⟩
      cases R with
      | bad e p =>
        refine c19 rd1 hls.2 ho hP (fun H4 r1 _ h4 => ?_)
        simp only [x3_0, x3_1, x3_2, ob_some, szX, splX]
        refine c20 (rd2 h4) hls.2 ho hP (fun H5 r2 _ h5 => ?_)
        simp only [x3_0, x3_1, x3_2, ob_some, szX, splX, partX]
        rw [c15 rfl (by rw [zX_size]; omega), cnd_t, i_eql, ob_some, dd, f3_c11_8a_eq, cnd_t, i_eql, ob_some, dd, f3_c11_13a_eq, cnd_t, i_neq, ob_some, decide_eq_false (P_ne hP _ _ rfl), Bool.not_false, cnd_t, f3_c11_23a_eq]
        exact (fin H5 (ext5 h4 h5).1).1
      | ok x r1 =>
        have hsuf : Suf _ _ := P_suf hP hls.2
        have hsz : _ ≤ _ := P_size hP
        by_cases hc : checkP x = 0
        · refine c19 rd1 hls.2 ho hP ⟨fun _ y H4 hy _ _ h4 => ?_, fun h0 => (h0 hc).elim⟩
          simp only [x3_0, x3_1, x3_2, ob_some, szX, splX]
          refine c20 (rd2 h4) hls.2 ho hP ⟨fun _ z H5 hz _ _ h5 => ?_, fun h0 => (h0 hc).elim⟩
          simp only [x3_0, x3_1, x3_2, ob_some, szX, splX, partX]
          have hyz : norm y = norm z := by rw [hy, hz]
          have hys : sizeX y = sizeX x := by rw [← hy, norm_size]
          rw [c15 hyz (by omega), cnd_t, i_eql, ob_some, dd, f3_c11_8a_eq, cnd_t, i_eql, ob_some, dd, f3_c11_13a_eq, cnd_t, i_neq, ob_some, dd, Bool.not_true, cnd_f]
          have hx5 := ext5 h4 h5
          rw [c21 hx5.2 (endsT_ne hsuf.1), c22 h5.rd (endsT_ne hsuf.1), i_eql, ob_some, dd, f3_c11_23b_eq]
          exact (fin H5 hx5.1).2 y z
        · refine c19 rd1 hls.2 ho hP ⟨fun h0 => (hc h0).elim, fun _ H4 h4 => ?_⟩
          simp only [x3_0, x3_1, x3_2, ob_some, szX, splX]
          refine c20 (rd2 h4) hls.2 ho hP ⟨fun h0 => (hc h0).elim, fun _ H5 h5 => ?_⟩
          simp only [x3_0, x3_1, x3_2, ob_some, szX, splX, partX]
          have d2 : decide ((2 : Int) = 0) = false := rfl
          rw [c15 rfl (by rw [zX_size]; omega), cnd_t, i_eql, ob_some, dd, f3_c11_8a_eq, cnd_t, i_eql, ob_some, dd, f3_c11_13a_eq, cnd_t, i_neq, ob_some, d2, Bool.not_false, cnd_t, f3_c11_23a_eq]
          exact (fin H5 (ext5 h4 h5).1).1
  rw [f3_eq]
  refine c13 s (by omega) H _ hR ?_
  cases R with
  | bad p e =>
    intro H1 h1
    simp only [x3_0, x3_1, x3_2, ob_some, szX, splX]
    refine c14 s (by omega) H1 _ hR (fun H2 h2 => ?_)
    simp only [x3_0, x3_1, x3_2, ob_some, szX, splX, partX]
    rw [c15 rfl (by rw [zX_size]; omega), not_B, ob_some, Bool.not_true, cnd_f, i_neq, ob_some, dd, Bool.not_true, cnd_f, i_neq, ob_some, dd, Bool.not_true]
    exact j9 H2 (h1.trans h2)
  | ok x =>
    intro y H1 h1 hy _ _ _ hsy
    simp only [x3_0, x3_1, x3_2, ob_some, szX, splX]
    refine c14 s (by omega) H1 _ hR (fun z H2 h2 hz _ _ _ hsz => ?_)
    simp only [x3_0, x3_1, x3_2, ob_some, szX, splX, partX]
    rw [c15 (by rw [hy, hz]) (by omega), not_B, ob_some, Bool.not_true, cnd_f, i_neq, ob_some, dd, Bool.not_true, cnd_f, i_neq, ob_some, dd, Bool.not_true]
    exact j9 H2 (h1.trans h2)
end Go.Hx
namespace Go.Hx
theorem c117 (k : Int) (h4 : 4 ≤ k) (h14 : k ≤ 14) (H : Heap) (Q : Post) (hq : Q (strT (tx (opS (k - 4).toNat))) H) : E 117 [I k] H Q := by
  have hm : mkSlA 1 [S ⟨#[43]⟩, S ⟨#[45]⟩, S ⟨#[42]⟩, S ⟨#[47]⟩, S ⟨#[37]⟩, S ⟨#[61]⟩, S ⟨#[60, 62]⟩, S ⟨#[60]⟩, S ⟨#[60, 61]⟩, S ⟨#[62]⟩, S ⟨#[62, 61]⟩] = some (.sl 1 false .full (signL.map S)) := rfl
  have hj : W64 (k - 4) = (((k - 4).toNat : Nat) : Int) := by rw [w64_id (by omega) (by omega)]; omega
  have hi : ∀ j : Nat, j < 11 → ixaA 1 (.sl 1 false .full (signL.map S)) (I j) = some [S (opS j)] := fun j hj => by
    match j, hj with
    | 0, _ | 1, _ | 2, _ | 3, _ | 4, _ | 5, _ | 6, _ | 7, _ | 8, _ | 9, _ | 10, _ => rfl
    | n + 11, h => exact absurd h (by omega)
  rw [f117_eq, hm, ob_some, i_sub, ob_some, hj, hi _ (by omega), ob_some, part_f, List.getElem?_cons_zero, ob_some]
  exact hq
def Puts (x : Ex) : Prop := ∀ (need : Int) (H : Heap) (Q : Post), (exprT x need).length ≤ 140737488355328 → Q (strT (exprT x need)) H → E 54 [encX x, I need] H Q
theorem c56 (w : List UInt8) (need : Int) (sz : Nat) (nil : Bool) (tip : Tip) (l : List Ex) (hn : l.length ≤ 1099511627776) (hp : ∀ x ∈ l, Puts x) (H : Heap) (Q : Post)
    (hl : (joinT (32 :: (w ++ [32])) need (bareTs l)).length ≤ 140737488355328) (hq : Q (strT (joinT (32 :: (w ++ [32])) need (bareTs l))) H) : E 56 [encXs sz nil tip l, strT w, I need] H Q := by
  have e32 : S ⟨#[32]⟩ = strT [32] := rfl
  have loop : ∀ (r pre : List Ex) (acc : List UInt8), l = pre ++ r → pre ≠ [] → acc.length + (joinR (32 :: (w ++ [32])) need (bareTs r)).length ≤ 140737488355328 → Q (strT (acc ++ joinR (32 :: (w ++ [32])) need (bareTs r))) H →
      f56_l8 (encXs sz nil tip l) (strT w) (I need) (strT acc) (I pre.length) H Q := by
    intro r
    induction r with
    | nil =>
      intro pre acc e _ hl hq
      have h1 : (pre.length : Int) = l.length := by rw [e]; simp
      rw [f56_l8_eq, lenX, ob_some, i_lss, ob_some, cnd_B, h1]
      simp only [Int.lt_irrefl, decide_false, Bool.false_eq_true, if_false]
      simpa [joinR, bareTs] using hq
    | cons x r ih =>
      intro pre acc e hne hl hq
      have hlt : pre.length < l.length := by rw [e]; simp
      have hlt' : (pre.length : Int) < l.length := by omega
      have hp0 : 0 < pre.length := List.length_pos_iff.2 hne
      have hgt : decide ((0 : Int) < (pre.length : Int)) = true := by simp; omega
      simp only [bareTs, joinR, List.length_append, List.length_cons, List.length_nil] at hl hq
      have hle : (exprT x need).length = (parT x (bareT x) need).length := rfl
      rw [f56_l8_eq, lenX, ob_some, i_lss, ob_some, cnd_B, if_pos (by simpa using hlt'), i_gtr, ob_some, hgt, cnd_t, e32, s_add _ _ _ _ (by simp only [List.length_singleton]; omega), ob_some, s_add _ _ _ _ (by simp only [List.length_append, List.length_singleton]; omega), ob_some,
        s_add _ _ _ _ (by simp only [List.length_append, List.length_singleton]; omega), ob_some, f56_j23_eq, ixX l sz nil tip pre r x e, ob_some, partX, ob_some]
      refine hp x (by rw [e]; simp) need H _ (by omega) ?_
      rw [s_add _ _ _ _ (by simp only [List.length_append, List.length_singleton]; omega), ob_some, i_add, ob_some, w64_succ hlt (by omega)]
      have := ih (pre ++ [x]) (acc ++ [32] ++ w ++ [32] ++ exprT x need) (by simp [e]) (by simp) (by simp only [List.length_append, List.length_singleton]; omega) (by simpa [exprT] using hq)
      rw [List.length_append, List.length_singleton] at this
      exact this
  rw [f56_eq]
  have e0s : S ⟨#[]⟩ = strT [] := rfl
  cases hc : l with
  | nil =>
    rw [hc] at hq
    rw [f56_l8_eq, lenX, ob_some, i_lss, ob_some, cnd_B]
    simp only [List.length_nil, Int.natCast_zero, Int.lt_irrefl, decide_false, Bool.false_eq_true, if_false]
    exact hq
  | cons x r =>
    rw [← hc]
    have hlt : 0 < l.length := by rw [hc]; simp
    have hlt' : (0 : Int) < l.length := by omega
    rw [hc] at hl hq
    simp only [bareTs, joinT, List.length_append] at hl hq
    have hle : (exprT x need).length = (parT x (bareT x) need).length := rfl
    have i1 : ixaA 7 (encXs sz nil tip l) (I 0) = some (encC x) := ixX l sz nil tip [] r x hc
    have h00 : decide ((0 : Int) < 0) = false := rfl
    rw [f56_l8_eq, lenX, ob_some, i_lss, ob_some, cnd_B, if_pos (by simpa using hlt'), i_gtr, ob_some, h00, cnd_f, f56_j23_eq, i1, ob_some, partX, ob_some]
    refine hp x (by rw [hc]; simp) need H _ (by omega) ?_
    rw [e0s, s_add _ _ _ _ (by simp only [List.length_nil]; omega), ob_some, i_add, ob_some]
    have h1 : W64 ((0 : Int) + 1) = (([x].length : Nat) : Int) := rfl
    rw [h1]
    exact loop r [x] _ (by simp [hc]) (by simp) (by simp only [List.nil_append]; omega) (by simpa [exprT] using hq)
theorem j45 (x : Ex) (need : Int) (t : List UInt8) (H : Heap) (Q : Post) (hl : (parT x t need).length ≤ 140737488355328) (hq : Q (strT (parT x t need)) H) : f54_j45 (I need) (strT t) (I (levelX x)) H Q := by
  rw [f54_j45_eq, i_lss, ob_some]
  simp only [parT] at hl hq
  refine cnd_intro (fun g => ?_) (fun g => ?_)
  · have g : ¬ need ≤ levelX x := by simp at g; omega
    rw [if_neg g] at hl hq
    simp only [List.length_cons, List.length_append, List.length_nil] at hl
    have e1 : S ⟨#[40]⟩ = strT [40] := rfl
    have e2 : S ⟨#[41]⟩ = strT [41] := rfl
    rw [e1, e2, s_add _ _ _ _ (by simp only [List.length_singleton]; omega), ob_some, s_add _ _ _ _ (by simp only [List.length_append, List.length_singleton]; omega), ob_some]
    simpa using hq
  · have g : need ≤ levelX x := by simp at g; omega
    rw [if_pos g] at hq
    exact hq
theorem j37 {y x : Ex} (hy : Puts y) (need : Int) (c : Bool) (hc : c = numP y) (H : Heap) (Q : Post) (hl : (parT x (45 :: (if numP y = true then 40 :: (exprT y 1 ++ [41]) else exprT y 7)) need).length ≤ 140737488355328)
    (hlb : (45 :: (if numP y = true then 40 :: (exprT y 1 ++ [41]) else exprT y 7)).length ≤ 140737488355328) (hq : Q (strT (parT x (45 :: (if numP y = true then 40 :: (exprT y 1 ++ [41]) else exprT y 7)) need)) H) : f54_j37 (I need) (I (levelX x)) (encC y) (B c) H Q := by
  rw [f54_j37_eq]
  refine cnd_intro (fun g => ?_) (fun g => ?_)
  · have hn : numP y = true := by rw [← hc, g]
    rw [if_pos hn] at hl hq hlb
    simp only [List.length_cons, List.length_append, List.length_nil] at hlb
    rw [partX, ob_some]
    refine hy 1 H _ (by omega) ?_
    have e1 : S ⟨#[45, 40]⟩ = strT [45, 40] := rfl
    have e2 : S ⟨#[41]⟩ = strT [41] := rfl
    rw [e1, e2, s_add _ _ _ _ (by simp only [List.length_cons, List.length_nil]; omega), ob_some, s_add _ _ _ _ (by simp only [List.length_append, List.length_cons, List.length_nil]; omega), ob_some]
    exact j45 x need ([45, 40] ++ exprT y 1 ++ [41]) H Q (by simpa using hl) (by simpa using hq)
  · have hn : ¬ numP y = true := by rw [← hc, g]; simp
    rw [if_neg hn] at hl hq hlb
    simp only [List.length_cons] at hlb
    rw [partX, ob_some]
    refine hy 7 H _ (by omega) ?_
    have e1 : S ⟨#[45]⟩ = strT [45] := rfl
    rw [e1, s_add _ _ _ _ (by simp only [List.length_cons, List.length_nil]; omega), ob_some]
    exact j45 x need ([45] ++ exprT y 7) H Q (by simpa using hl) (by simpa using hq)
theorem c54 (x : Ex) (hok : allX okX x) (hv : allX vX x) (hr : allR x = true) : Puts x := by
  induction x using Ex.ind with
  | h x ih =>
    rw [allX_eq] at hok hv
    rw [allR_eq, Bool.and_eq_true] at hr
    have hch : ∀ y ∈ x.l, Puts y := fun y hy => ih y hy (allXs_mem hok.2 hy) (allXs_mem hv.2 hy) (allRs_mem hr.2 hy)
    obtain ⟨hk1, hk17⟩ := right_k hr.1
    intro need H Q hl hq
    have hlb : (bareT x).length ≤ 140737488355328 := by
      simp only [exprT, parT] at hl
      split at hl
      · exact hl
      · simp only [List.length_cons, List.length_append, List.length_nil] at hl; omega
    have hJ := fun t (ht : bareT x = t) => j45 x need t H Q (by rw [← ht]; exact hl) (by rw [← ht]; exact hq)
    rw [bareT_eq, bareTs_map] at hJ hlb
    unfold bodyT at hJ hlb
    have hbt := bareTs_map x.l
    rw [f54_eq, szX, ob_some, partX, ob_some, c115 x hk1 hk17, part_f, p0X, ob_some, i_eql, ob_some]
    refine cnd_intro (fun g => ?_) (fun g => ?_)
    · have g : x.k = 1 := by simpa using g
      have hrv : rightV x.v = true := by
        have := hr.1
        simp only [rightP, g, if_true, Bool.and_eq_true] at this
        exact this.2.1
      rw [if_pos g] at hJ
      rw [partXV, ob_some]
      refine c116 x.v hv.1 hrv H _ ?_
      rw [x20, ob_some, x21, ob_some]
      exact hJ _ rfl
    have g1 : ¬ x.k = 1 := by simpa using g
    rw [ob_some, i_eql, ob_some]
    refine cnd_intro (fun g => ?_) (fun g => ?_)
    · have g : x.k = 2 := by simpa using g
      rw [if_neg g1, if_pos g] at hJ hlb
      rw [part_f, p4X, ob_some]
      have e46 : S ⟨#[46]⟩ = strT [46] := rfl
      simp only [List.length_append, List.length_cons] at hlb
      rw [strT_tx x.var, e46, s_add _ _ _ _ (by simp only [List.length_singleton]; omega), ob_some, part_f, p5X, ob_some, strT_tx x.fld, s_add _ _ _ _ (by simp only [List.length_singleton, List.length_append]; omega), ob_some]
      exact hJ _ (by simp)
    have g2 : ¬ x.k = 2 := by simpa using g
    have hlen := rightP_len hr.1 g1 g2
    rw [if_neg g1, if_neg g2] at hJ hlb
    rw [ob_some, i_eql, ob_some]
    refine cnd_intro (fun g => ?_) (fun g => ?_)
    · have g : x.k = 17 := by simpa using g
      have g3 : ¬ x.k = 3 := by omega
      rw [if_neg g3, if_pos g, ← hbt] at hJ hlb
      rw [part_f, p6X, ob_some]
      exact c56 [79, 82] 2 x.sz x.nil x.tip x.l hok.1.1 hch H _ hlb (hJ _ rfl)
    have g17 : ¬ x.k = 17 := by simpa using g
    rw [if_neg g17] at hJ hlb
    rw [ob_some, i_eql, ob_some]
    refine cnd_intro (fun g => ?_) (fun g => ?_)
    · have g : x.k = 16 := by simpa using g
      have g3 : ¬ x.k = 3 := by omega
      rw [if_neg g3, if_pos g, ← hbt] at hJ hlb
      rw [part_f, p6X, ob_some]
      exact c56 [65, 78, 68] 3 x.sz x.nil x.tip x.l hok.1.1 hch H _ hlb (hJ _ rfl)
    have g16 : ¬ x.k = 16 := by simpa using g
    rw [if_neg g16] at hJ hlb
    rw [ob_some, i_eql, ob_some]
    refine cnd_intro (fun g => ?_) (fun g => ?_)
    · have g : x.k = 15 := by simpa using g
      have g3 : ¬ x.k = 3 := by omega
      obtain ⟨y, hy⟩ := one_of (l := x.l) (by omega)
      rw [if_neg g3, if_pos g, hy] at hJ hlb
      simp only [List.map_cons, List.map_nil, List.length_append] at hJ hlb
      have i0 : ixaA 7 (encXs x.sz x.nil x.tip x.l) (I 0) = some (encC y) := ixX x.l x.sz x.nil x.tip [] [] y hy
      have hNl : sNOT.length = 4 := rfl
      rw [hNl] at hlb
      have hle : (exprT y 3).length = (parT y (bareT y) 3).length := rfl
      rw [part_f, p6X, ob_some, i0, ob_some, partX, ob_some]
      refine hch y (by rw [hy]; simp) 3 H _ (by omega) ?_
      have e1 : S ⟨#[78, 79, 84, 32]⟩ = strT sNOT := rfl
      rw [e1, s_add _ _ _ _ (by rw [hNl]; omega), ob_some]
      exact hJ _ rfl
    have g15 : ¬ x.k = 15 := by simpa using g
    rw [ob_some, i_eql, ob_some]
    refine cnd_intro (fun g => ?_) (fun g => ?_)
    · have g : x.k = 3 := by simpa using g
      obtain ⟨y, hy⟩ := one_of (l := x.l) (by omega)
      rw [if_pos g, hy] at hJ hlb
      have i0 : ixaA 7 (encXs x.sz x.nil x.tip x.l) (I 0) = some (encC y) := ixX x.l x.sz x.nil x.tip [] [] y hy
      have hb : bareT x = 45 :: (if numP y = true then 40 :: (exprT y 1 ++ [41]) else exprT y 7) := by
        rw [bareT_eq, bareTs_map, hy]
        unfold bodyT
        rw [if_neg g1, if_neg g2, if_pos g]
        rfl
      have hJ' := fun (c : Bool) (hc : c = numP y) => j37 (x := x) (hch y (by rw [hy]; simp)) need c hc H Q (by rw [← hb]; exact hl) hlb (by rw [← hb]; exact hq)
      rw [part_f, p6X, ob_some, i0, ob_some, partX, ob_some, szX, ob_some, splX, ob_some, part_f, p0X, ob_some, i_eql, ob_some]
      refine cnd_intro (fun q1 => ?_) (fun q1 => hJ' false (by simp [numP, numK, q1]))
      rw [part_f, partV1, ob_some, i_eql, ob_some]
      refine cnd_intro (fun q2 => ?_) (fun q2 => hJ' false (by simp [numP, numK, q2]))
      rw [part_f, partV2, ob_some, i_geq, ob_some]
      exact hJ' _ (by simp [numP, numK, q1, q2])
    have g3 : ¬ x.k = 3 := by simpa using g
    rw [if_neg g3, if_neg g15] at hJ hlb
    have h4 : 4 ≤ x.k := by omega
    have h14 : x.k ≤ 14 := by omega
    obtain ⟨y, z, hyz⟩ := two_of (l := x.l) (by omega)
    have hy := hch y (by rw [hyz]; simp)
    have hz := hch z (by rw [hyz]; simp)
    rw [hyz] at hJ hlb
    simp only [List.map_cons, List.map_nil] at hJ hlb
    have hsl := sign_len (x.k - 4).toNat
    simp only [List.length_append, List.length_cons, List.length_nil] at hlb
    have hly : (exprT y (need1 x.k)).length = (parT y (bareT y) (need1 x.k)).length := rfl
    have hlz : (exprT z (need2 x.k)).length = (parT z (bareT z) (need2 x.k)).length := rfl
    have i0 : ixaA 7 (encXs x.sz x.nil x.tip x.l) (I 0) = some (encC y) := ixX x.l x.sz x.nil x.tip [] [z] y hyz
    have i1 : ixaA 7 (encXs x.sz x.nil x.tip x.l) (I 1) = some (encC z) := ixX x.l x.sz x.nil x.tip [y] [] z hyz
    have e32 : S ⟨#[32]⟩ = strT [32] := rfl
    have two : ∀ a b : Int, a = need1 x.k → b = need2 x.k → E 54 [encX y, I a] H fun r57 H58 => ob (binA Pg .add 9 true r57 (S ⟨#[32]⟩)) fun r59 => E 117 [I x.k] H58 fun r60 H61 => ob (binA Pg .add 9 false r59 r60) fun r62 => ob (binA Pg .add 9 true r62 (S ⟨#[32]⟩)) fun r63 =>
        E 54 [encX z, I b] H61 fun r64 H65 => ob (binA Pg .add 9 false r63 r64) fun r66 => f54_j45 (I need) r66 (I (levelX x)) H65 Q := fun a b ha hb => by
      subst ha hb
      refine hy (need1 x.k) H _ (by omega) ?_
      rw [e32, s_add _ _ _ _ (by simp only [List.length_singleton]; omega), ob_some]
      refine c117 x.k h4 h14 H _ ?_
      rw [s_add _ _ _ _ (by simp only [List.length_append, List.length_singleton]; omega), ob_some, s_add _ _ _ _ (by simp only [List.length_append, List.length_singleton]; omega), ob_some]
      refine hz (need2 x.k) H _ (by omega) ?_
      rw [s_add _ _ _ _ (by simp only [List.length_append, List.length_singleton]; omega), ob_some]
      exact hJ _ (by simp [exprT])
    rw [i_eql, ob_some]
    refine cnd_intro (fun g => ?_) (fun g => ?_)
    · have h9 : 9 ≤ x.k := by
        simp only [levelX, g17, g16, g15, if_false, decide_eq_true_eq] at g
        by_cases k : 9 ≤ x.k
        · exact k
        · simp only [k, if_false] at g
          repeat' split at g
          all_goals omega
      rw [part_f, p6X, ob_some, i0, ob_some, partX, ob_some, ob_some, ob_some, i1, ob_some, partX, ob_some]
      exact two 5 5 (by simp [need1, h9]) (by simp [need2, h9])
    · have h9 : ¬ 9 ≤ x.k := fun k => by simp [levelX, g17, g16, g15, k] at g
      rw [part_f, p6X, ob_some, i0, ob_some, partX, ob_some, ob_some, ob_some, i1, ob_some, partX, ob_some, i_add, ob_some]
      by_cases h6 : 6 ≤ x.k
      · have hlv : levelX x = 6 := by simp only [levelX, g17, g16, g15, h9, h6, if_false, if_true]
        have t2 := two 6 7 (by simp [need1, h9, h6]) (by simp [need2, h9, h6])
        rw [hlv] at t2 ⊢
        exact t2
      · have hlv : levelX x = 5 := by simp only [levelX, g17, g16, g15, h9, h6, h4, if_false, if_true]
        have t2 := two 5 6 (by simp [need1, h9, h6]) (by simp [need2, h9, h6])
        rw [hlv] at t2 ⊢
        exact t2
end Go.Hx
namespace Go.Hx
def rowErr : List Ex → Int
  | [] => 0
  | x :: r => if checkP x = 0 then rowErr r else checkP x
def rowA (l : List Ex) : AV :=
  if l.length = 0 then .tup [S e0, I 1] else if rowErr l = 0 then .tup [strT (joinT sAND 3 (bareTs l)), I 0] else .tup [S e0, I (rowErr l)]
theorem rowErr_all : ∀ {l : List Ex}, rowErr l = 0 → ∀ x ∈ l, checkP x = 0 := by
  intro l
  induction l with
  | nil => intro _ x hx; cases hx
  | cons y r ih =>
    intro h x hx
    simp only [rowErr] at h
    split at h
    · rename_i hy
      cases hx with
      | head => exact hy
      | tail _ hx => exact ih h x hx
    · rename_i hy; exact absurd h hy
theorem join_len (sep : List UInt8) (need : Int) (hs : sep.length ≤ 5) (l : List Ex) (hl : ∀ x ∈ l, allX vX x ∧ allR x = true) : (joinT sep need (bareTs l)).length ≤ 1100 * sizeXs l := by
  have hR : ∀ r : List Ex, (∀ x ∈ r, allX vX x ∧ allR x = true) → (joinR sep need (bareTs r)).length ≤ 1100 * sizeXs r := by
    intro r
    induction r with
    | nil => intro _; simp [bareTs, joinR]
    | cons y r ih =>
      intro h
      have h1 := bare_len y (h y (by simp)).1 (h y (by simp)).2
      have h2 := ih (fun x hx => h x (by simp [hx]))
      have h3 := parT_len y (bareT y) need
      simp only [bareTs, joinR, sizeXs, List.length_append]; omega
  cases l with
  | nil => simp [bareTs, joinT]
  | cons y r =>
    have h1 := bare_len y (hl y (by simp)).1 (hl y (by simp)).2
    have h2 := hR r (fun x hx => hl x (by simp [hx]))
    have h3 := parT_len y (bareT y) need
    simp only [bareTs, joinT, sizeXs, List.length_append]; omega
/-- conditions that are small enough -/
structure OkL (l : List Ex) : Prop where
  len : l.length ≤ 1099511627776
  ok : ∀ x ∈ l, allX okX x
  vx : ∀ x ∈ l, allX vX x
  sum : sizeXs l ≤ 100000000000
theorem mem_size {l : List Ex} {x : Ex} (h : x ∈ l) : sizeX x ≤ sizeXs l := by
  obtain ⟨p, r, e⟩ := List.append_of_mem h
  rw [e, sizeXs_append]; simp only [sizeXs]; omega
theorem c26 (sz : Nat) (nil : Bool) (tip : Tip) (l : List Ex) (hok : OkL l) (H : Heap) (Q : Post) (hq : ∀ H', HExt H H' → Q (rowA l) H') : E 26 [encXs sz nil tip l] H Q := by
  rw [f26_eq, lenX, ob_some, i_eql, ob_some, len0]
  simp only [rowA] at hq
  refine cnd_intro (fun g => ?_) (fun g => ?_)
  · have := hq H (HExt.refl H)
    rw [if_pos (by simpa using g)] at this; exact this
  have g : ¬ l.length = 0 := by simpa using g
  simp only [if_neg g] at hq
  rw [ob_some]
  have hlen := hok.len
  have loop : ∀ (r pre : List Ex) (H1 : Heap), l = pre ++ r → HExt H H1 → (rowErr r ≠ 0 → ∀ H', HExt H H' → Q (.tup [S e0, I (rowErr r)]) H') → (∀ x ∈ pre, checkP x = 0) →
      (rowErr r = 0 → ∀ H', HExt H H' → Q (.tup [strT (joinT sAND 3 (bareTs l)), I 0]) H') → f26_l14 (encXs sz nil tip l) (encXs sz nil tip l) (I l.length) (I pre.length) H1 Q := by
    intro r
    induction r with
    | nil =>
      intro pre H1 e he _ hall hq
      have h1 : (pre.length : Int) = l.length := by rw [e]; simp
      have hp : l = pre := by rw [e]; simp
      have hall : ∀ x ∈ l, checkP x = 0 := by rw [hp]; exact hall
      have hR : ∀ x ∈ l, allX vX x ∧ allR x = true := fun x hx => ⟨hok.vx x hx, checkP_all (hall x hx)⟩
      have hjl := join_len sAND 3 (by simp [sAND]) l hR
      have hsum := hok.sum
      have hb : bldA [] [AV.raw (.pointer none), .sl 0 true .full []] = some (.agg [.raw (.pointer none), .sl 0 true .full []]) := rfl
      have hs : sizedA 2 (.agg [AV.raw (.pointer none), .sl 0 true .full []]) = some [.raw (.pointer none), .sl 0 true .full []] := rfl
      rw [f26_l14_eq, i_lss, ob_some, cnd_B, h1]
      simp only [Int.lt_irrefl, decide_false, Bool.false_eq_true, if_false]
      rw [hb, ob_some, hs, ob_some]
      refine bld_new 95 lies95 he (fun b H2 h2 => ?_)
      refine c55 ⟨#[32, 65, 78, 68, 32]⟩ 3 sz nil tip l hok.len (fun x hx => c113 x (hok.ok x hx) (hok.vx x hx) (hR x hx).2) b H H2 [] _ h2 (by
        have : tx ⟨#[32, 65, 78, 68, 32]⟩ = sAND := rfl
        rw [this, List.length_nil]; omega) (fun H3 h3 => ?_)
      have : tx ⟨#[32, 65, 78, 68, 32]⟩ = sAND := rfl
      rw [this, List.nil_append] at h3
      rw [nil_Pt, ob_some, add0_Pt, ob_some]
      exact c53 b H H3 _ _ h3 (by omega) (fun H4 e4 => hq rfl H4 e4)
    | cons x r ih =>
      intro pre H1 e he hq1 hall hq2
      have hlt : pre.length < l.length := by rw [e]; simp
      have hlt' : (pre.length : Int) < l.length := by omega
      have hxm : x ∈ l := by rw [e]; simp
      rw [f26_l14_eq, i_lss, ob_some, cnd_B, if_pos (by simpa using hlt'), ixX l sz nil tip pre r x e, ob_some, partX, ob_some, szX, ob_some, splX, ob_some, partX, ob_some]
      refine c28 x (hok.ok x hxm) H1 _ (fun H2 e2 => ?_)
      simp only [rowErr] at hq1 hq2
      rw [i_neq, ob_some]
      refine cnd_intro (fun h => ?_) (fun h => ?_)
      · have h : ¬ checkP x = 0 := by simpa using h
        rw [if_neg h] at hq1
        exact hq1 h H2 (he.trans e2)
      · have h : checkP x = 0 := by simpa using h
        rw [if_pos h] at hq1 hq2
        rw [i_add, ob_some, w64_succ hlt (by omega)]
        have := ih (pre ++ [x]) H2 (by simp [e]) (he.trans e2) hq1 (fun y hy => by
          rcases List.mem_append.1 hy with hy | hy
          · exact hall y hy
          · rw [List.mem_singleton.1 hy]; exact h) hq2
        rw [List.length_append, List.length_singleton] at this
        exact this
  refine loop l [] H rfl (HExt.refl H) (fun h H' h' => ?_) (fun x hx => by cases hx) (fun h H' h' => ?_)
  · have := hq H' h'
    rw [if_neg h] at this; exact this
  · have := hq H' h'
    rw [if_pos h] at this; exact this
theorem c27 (sz : Nat) (nil : Bool) (tip : Tip) (l : List Ex) (hok : OkL l) (H : Heap) (Q : Post) (hq : Q (rowA l) H) : E 27 [encXs sz nil tip l] H Q := by
  rw [f27_eq, lenX, ob_some, i_eql, ob_some, len0]
  simp only [rowA] at hq
  refine cnd_intro (fun g => ?_) (fun g => ?_)
  · rw [if_pos (by simpa using g)] at hq; exact hq
  have g : ¬ l.length = 0 := by simpa using g
  simp only [if_neg g] at hq
  have hlen := hok.len
  have loop : ∀ (r pre : List Ex), l = pre ++ r → (rowErr r ≠ 0 → Q (.tup [S e0, I (rowErr r)]) H) → (∀ x ∈ pre, checkP x = 0) →
      (rowErr r = 0 → Q (.tup [strT (joinT sAND 3 (bareTs l)), I 0]) H) → f27_l14 (encXs sz nil tip l) (I pre.length) H Q := by
    intro r
    induction r with
    | nil =>
      intro pre e _ hall hq
      have h1 : (pre.length : Int) = l.length := by rw [e]; simp
      have hp : l = pre := by rw [e]; simp
      have hall : ∀ x ∈ l, checkP x = 0 := by rw [hp]; exact hall
      have hR : ∀ x ∈ l, allX vX x ∧ allR x = true := fun x hx => ⟨hok.vx x hx, checkP_all (hall x hx)⟩
      have hjl := join_len sAND 3 (by simp [sAND]) l hR
      have hsum := hok.sum
      rw [f27_l14_eq, lenX, ob_some, i_lss, ob_some, cnd_B, h1]
      simp only [Int.lt_irrefl, decide_false, Bool.false_eq_true, if_false]
      refine c56 [65, 78, 68] 3 sz nil tip l hok.len (fun x hx => c54 x (hok.ok x hx) (hok.vx x hx) (hR x hx).2) H _ (by
        have : (32 :: ([65, 78, 68] ++ [32]) : List UInt8) = sAND := rfl
        rw [this]; omega) ?_
      exact hq rfl
    | cons x r ih =>
      intro pre e hq1 hall hq2
      have hlt : pre.length < l.length := by rw [e]; simp
      have hlt' : (pre.length : Int) < l.length := by omega
      have hxm : x ∈ l := by rw [e]; simp
      have hsx := mem_size hxm
      have hsum := hok.sum
      rw [f27_l14_eq, lenX, ob_some, i_lss, ob_some, cnd_B, if_pos (by simpa using hlt'), ixX l sz nil tip pre r x e, ob_some, partX, ob_some, c51 x (hok.ok x hxm) (hok.vx x hxm) (by omega), i_neq, ob_some]
      simp only [rowErr] at hq1 hq2
      refine cnd_intro (fun h => ?_) (fun h => ?_)
      · have h : ¬ checkP x = 0 := by simpa using h
        rw [if_neg h] at hq1
        exact hq1 h
      · have h : checkP x = 0 := by simpa using h
        rw [if_pos h] at hq1 hq2
        rw [i_add, ob_some, w64_succ hlt (by omega)]
        have := ih (pre ++ [x]) (by simp [e]) hq1 (fun y hy => by
          rcases List.mem_append.1 hy with hy | hy
          · exact hall y hy
          · rw [List.mem_singleton.1 hy]; exact h) hq2
        rw [List.length_append, List.length_singleton] at this
        exact this
  refine loop l [] rfl (fun h => ?_) (fun x hx => by cases hx) (fun h => ?_)
  · rw [if_neg h] at hq; exact hq
  · rw [if_pos h] at hq; exact hq
/-! ### Clauses -/
def printA (x : Ex) : AV := if checkP x = 0 then .tup [strT (exprT x 1), I 0] else .tup [S e0, I (checkP x)]
theorem exprT_01 (x : Ex) : exprT x 0 = exprT x 1 := by
  have : 1 ≤ levelX x := by
    simp only [levelX]
    repeat' split
    all_goals omega
  simp only [exprT, parT]
  rw [if_pos (by omega), if_pos this]
theorem c24 (x : Ex) (hok : allX okX x) (hv : allX vX x) (hs : sizeX x ≤ 100000000000) (H : Heap) (Q : Post) (hq : ∀ H', HExt H H' → Q (printA x) H') : E 24 [encX x] H Q := by
  have hb : bldA [] [AV.raw (.pointer none), .sl 0 true .full []] = some (.agg [.raw (.pointer none), .sl 0 true .full []]) := rfl
  have hsz : sizedA 2 (.agg [AV.raw (.pointer none), .sl 0 true .full []]) = some [.raw (.pointer none), .sl 0 true .full []] := rfl
  rw [f24_eq, szX, ob_some, partX, ob_some]
  refine c28 x hok H _ (fun H1 e1 => ?_)
  rw [i_neq, ob_some]
  simp only [printA] at hq
  refine cnd_intro (fun h => ?_) (fun h => ?_)
  · have h : checkP x ≠ 0 := by simpa using h
    have := hq H1 e1
    rw [if_neg h] at this; exact this
  · have h : checkP x = 0 := by simpa using h
    have hR := checkP_all h
    have hl := expr_len x hv hR 0
    rw [if_pos h] at hq
    rw [hb, ob_some, hsz, ob_some]
    refine bld_new 95 lies95 e1 (fun b H2 h2 => ?_)
    rw [ob_some]
    refine c52 (c113 x hok hv hR) 0 b H H2 [] _ h2 (by simp only [List.length_nil]; omega) (fun H3 h3 => ?_)
    rw [nil_Pt, ob_some, add0_Pt, ob_some]
    rw [List.nil_append, exprT_01] at h3
    exact c53 b H H3 _ _ h3 (by rw [exprT_01] at hl; omega) (fun H4 e4 => hq H4 e4)
theorem c25 (x : Ex) (hok : allX okX x) (hv : allX vX x) (hs : sizeX x ≤ 100000000000) (H : Heap) (Q : Post) (hq : Q (printA x) H) : E 25 [encX x] H Q := by
  rw [f25_eq, szX, ob_some, partX, ob_some, c51 x hok hv (by omega), i_neq, ob_some]
  simp only [printA] at hq
  refine cnd_intro (fun h => ?_) (fun h => ?_)
  · have h : checkP x ≠ 0 := by simpa using h
    rw [if_neg h] at hq; exact hq
  · have h : checkP x = 0 := by simpa using h
    have hR := checkP_all h
    have hl := expr_len x hv hR 1
    rw [if_pos h] at hq
    rw [ob_some]
    exact c54 x hok hv hR 1 H _ (by omega) hq
end Go.Hx
namespace Go.Hx
theorem wf_rng {n : Int} (h : (Lit.int .i64 n).wf = true) : rng n := by
  have : -9223372036854775808 ≤ n ∧ n ≤ 9223372036854775807 := by simpa [Lit.wf, IntKind.min, IntKind.max, IntKind.signed, IntKind.bits] using h
  exact this
theorem map_of2 {α : Type} {f : α → AV} {p : α → Prop} : ∀ (xs : List AV), (∀ x ∈ xs, ∃ y, x = f y ∧ p y) → ∃ l : List α, xs = l.map f ∧ ∀ y ∈ l, p y
  | [], _ => ⟨[], rfl, fun _ h => by cases h⟩
  | x :: xs, h => by
    obtain ⟨y, rfl, hy⟩ := h x (by simp)
    obtain ⟨l, rfl, hl⟩ := map_of2 xs (fun z hz => h z (by simp [hz]))
    exact ⟨y :: l, rfl, fun z hz => by
      rcases List.mem_cons.1 hz with rfl | hz
      · exact hy
      · exact hl z hz⟩
def conjF : List Field → (Field → Prop) → Prop
  | [], _ => True
  | f :: r, p => p f ∧ conjF r p
theorem conjF_of : ∀ (l : List Field) (p : Field → Prop), (∀ f ∈ l, p f) → conjF l p
  | [], _, _ => trivial
  | f :: r, p, h => ⟨h f (by simp), conjF_of r p (fun g hg => h g (by simp [hg]))⟩
def StrT (P : Program) (n : Nat) (t : TypeId) (cs : List AV) : Prop :=
  match P.underlying t with
  | some (.struct fs) => cs.length = P.cellsOf t ∧ conjF fs.toList fun f => HasT P n f.type ((cs.drop f.offset).take (P.cellsOf f.type))
  | _ => True
theorem HasT.str {P : Program} {n : Nat} {t : TypeId} {cs : List AV} (h : HasT P (n + 1) t cs) : StrT P n t cs := by
  unfold StrT
  split
  · rename_i fs hu
    simp only [HasT, hu] at h
    exact ⟨h.1, conjF_of _ _ h.2⟩
  · trivial
theorem has_int {n : Nat} {cs : List AV} (t : TypeId) (ht : t = 3 ∨ t = 2) (h : HasT Pg n t cs) : ∃ i, cs = [I i] ∧ rng i := by
  cases n with
  | zero => exact h.elim
  | succ n =>
    have e : HasT Pg (n + 1) t cs = ∃ i, cs = [.raw (.int .i64 i)] ∧ (Lit.int .i64 i).wf = true := by rcases ht with rfl | rfl <;> kernel_rfl
    rw [e] at h
    obtain ⟨i, h1, h2⟩ := h
    exact ⟨i, h1, wf_rng h2⟩
theorem has_S {n : Nat} {cs : List AV} (h : HasT Pg n 9 cs) : ∃ s, cs = [S s] := by
  cases n with
  | zero => exact h.elim
  | succ n =>
    have e : HasT Pg (n + 1) 9 cs = ∃ s : ByteArray, cs = [S s] ∧ s.size ≤ maxLen := by kernel_rfl
    rw [e] at h; obtain ⟨s, h, _⟩ := h; exact ⟨s, h⟩
theorem has_V {n : Nat} {cs : List AV} (h : HasT Pg n 23 cs) : ∃ v : Vl, cs = [I v.k, I v.n, S v.s] ∧ vr v := by
  cases n with
  | zero => exact h.elim
  | succ n =>
    have h := h.str
    have e : StrT Pg n 23 cs = (cs.length = 3 ∧ (HasT Pg n 3 ((cs.drop 0).take 1) ∧ (HasT Pg n 2 ((cs.drop 1).take 1) ∧ (HasT Pg n 9 ((cs.drop 2).take 1) ∧ True)))) := by kernel_rfl
    rw [e] at h
    obtain ⟨hl, h1, h2, h3, _⟩ := h
    match cs, hl with
    | [a, b, c], _ =>
      obtain ⟨i, hi, wi⟩ := has_int 3 (.inl rfl) h1
      obtain ⟨j, hj, wj⟩ := has_int 2 (.inr rfl) h2
      obtain ⟨s, hs⟩ := has_S h3
      simp at hi hj hs
      exact ⟨⟨i, j, s⟩, by simp [hi, hj, hs], wj⟩
theorem has_X : ∀ (n : Nat) {cs : List AV}, HasT Pg n 26 cs → ∃ x : Ex, cs = encC x ∧ allX vX x := by
  intro n
  induction n using Nat.strongRecOn with
  | _ n ih =>
    intro cs h
    cases n with
    | zero => exact h.elim
    | succ n =>
      have h := h.str
      have e : StrT Pg n 26 cs = (cs.length = 7 ∧ (HasT Pg n 3 ((cs.drop 0).take 1) ∧ (HasT Pg n 23 ((cs.drop 1).take 3) ∧ (HasT Pg n 9 ((cs.drop 4).take 1) ∧ (HasT Pg n 9 ((cs.drop 5).take 1) ∧ (HasT Pg n 24 ((cs.drop 6).take 1) ∧ True)))))) := by kernel_rfl
      rw [e] at h
      obtain ⟨hl, h1, h2, h3, h4, h5, _⟩ := h
      match cs, hl with
      | [a, b, c, d, e, f, g], _ =>
        obtain ⟨i, hi, wi⟩ := has_int 3 (.inl rfl) h1
        obtain ⟨v, hv, wv⟩ := has_V h2
        obtain ⟨s, hs⟩ := has_S h3
        obtain ⟨s', hs'⟩ := has_S h4
        simp at hi hv hs hs' h5
        obtain ⟨rfl, rfl, rfl⟩ := hv
        subst hi hs hs'
        cases n with
        | zero => exact h5.elim
        | succ m =>
          have e : HasT Pg (m + 1) 24 [g] = ([g] = [AV.sl 7 true .full []] ∨ ∃ xs : List AV, [g] = [AV.sl 7 false .any xs] ∧ ∀ x ∈ xs, ∃ c, x = packA Pg 26 c ∧ HasT Pg m 26 c) := by kernel_rfl
          rw [e] at h5
          rcases h5 with hg | ⟨xs, hg, hall⟩
          · simp at hg; subst hg
            exact ⟨.mk i v s s' 7 true .full [], by simp [encC, encCs], by rw [allX_eq]; exact ⟨wv, trivial⟩⟩
          · simp at hg; subst hg
            obtain ⟨l, rfl, hlv⟩ := map_of2 (f := encX) (p := allX vX) xs (fun x hx => by
              obtain ⟨c, rfl, hc⟩ := hall x hx
              obtain ⟨y, rfl, hy⟩ := ih m (by omega) hc
              exact ⟨y, by kernel_rfl, hy⟩)
            exact ⟨.mk i v s s' 7 false .any l, by simp [encC, encCs_map], by rw [allX_eq]; exact ⟨wv, allXs_of hlv⟩⟩
theorem has_Xs {n : Nat} {cs : List AV} (h : HasT Pg n 24 cs) : ∃ nil tip l, cs = [encXs 7 nil tip l] ∧ ∀ x ∈ l, allX vX x := by
  cases n with
  | zero => exact h.elim
  | succ n =>
    have e : HasT Pg (n + 1) 24 cs = (cs = [.sl 7 true .full []] ∨ ∃ xs : List AV, cs = [.sl 7 false .any xs] ∧ ∀ x ∈ xs, ∃ c, x = packA Pg 26 c ∧ HasT Pg n 26 c) := by kernel_rfl
    rw [e] at h
    rcases h with rfl | ⟨xs, rfl, h⟩
    · exact ⟨true, .full, [], rfl, fun x hx => by cases hx⟩
    · obtain ⟨l, rfl, hl⟩ := map_of2 (f := encX) (p := allX vX) xs (fun x hx => by
        obtain ⟨c, rfl, hc⟩ := h x hx
        obtain ⟨y, rfl, hy⟩ := has_X n hc
        exact ⟨y, by kernel_rfl, hy⟩)
      exact ⟨false, .any, l, rfl, hl⟩
/-! ### Small enough by its size -/
theorem sz_X (x : Ex) : sizeX x ≤ szL (encC x) ∧ (szL (encC x) ≤ 1048576 → allX okX x) := by
  induction x using Ex.ind with
  | h x ih =>
    have hs : ∀ (l : List Ex), (∀ y ∈ l, y ∈ x.l) → sizeXs l ≤ szL (l.map encX) ∧ (szL (l.map encX) ≤ 1048576 → allXs okX l) := by
      intro l
      induction l with
      | nil => intro _; simp [sizeXs, szL, allXs]
      | cons y r ihr =>
        intro hy
        obtain ⟨a1, a2⟩ := ihr (fun z hz => hy z (by simp [hz]))
        obtain ⟨b1, b2⟩ := ih y (hy y (by simp))
        simp only [sizeXs, List.map_cons, szL, encX, szA, allXs]
        exact ⟨by omega, fun h => ⟨b2 (by omega), a2 (by omega)⟩⟩
    obtain ⟨h1, h2⟩ := hs x.l (fun _ h => h)
    rw [sizeX_eq, allX_eq, encC_eq]
    have hl := length_le_szL (x.l.map encX)
    rw [List.length_map] at hl
    simp only [szL, szA, I, S, encXs]
    refine ⟨by omega, fun h => ⟨⟨by omega, by omega, by omega⟩, h2 (by omega)⟩⟩
theorem sz_Xs (l : List Ex) : sizeXs l ≤ szL (l.map encX) ∧ (szL (l.map encX) ≤ 1048576 → ∀ x ∈ l, allX okX x) := by
  induction l with
  | nil => simp [sizeXs, szL]
  | cons y r ih =>
    obtain ⟨b1, b2⟩ := sz_X y
    simp only [sizeXs, List.map_cons, szL, encX, szA]
    refine ⟨by omega, fun h x hx => ?_⟩
    rcases List.mem_cons.1 hx with rfl | hx
    · exact b2 (by omega)
    · exact ih.2 (by omega) x hx
end Go.Hx
namespace Go.Hx
open Go.Proofs.YtancdapnpceogaaGreat
theorem bulkOf {H : Type} : Bulk (Rows.uptoBulk (H := H)) (Rows.uptoBulkAll (H := H)) :=
  ⟨fun l => by simp [Rows.uptoBulk], fun l => by simp [Rows.uptoBulk], fun k l => by simp [Rows.uptoBulk], by simp [Rows.uptoBulk], fun l r => by simp [Rows.uptoBulk], fun l => by simp [Rows.uptoBulk], by simp [Rows.uptoBulkAll], fun x l => by simp [Rows.uptoBulkAll]⟩
theorem pkOf : PK Pg := by
  refine ⟨fun f fn h => ?_, by kernel_rfl⟩
  have hall : (Pg.funcs.toList.all fun fn => !(fn.name == "runtime.NumGoroutine")) = true := by kernel_rfl
  have := List.all_eq_true.1 hall fn (List.mem_of_getElem? (i := f) (by simpa using h))
  simpa using this
theorem kidsOf : Kids Pg (· < Pg.types.size) := kids_rows (by kernel_rfl) (by kernel_rfl)
theorem oneOf : ∀ e, e < Pg.types.size → aggT Pg e = false → Pg.cellsOf e = 1 := by
  have h : ((List.range Pg.types.size).all fun e => aggT Pg e || Nat.beq (Pg.cellsOf e) 1) = true := by kernel_rfl
  intro e he ha
  have := List.all_eq_true.1 h e (List.mem_range.2 he)
  rw [ha, Bool.false_or] at this
  exact Nat.eq_of_beq_eq_true this
theorem fullOf : ∀ t e, t < Pg.types.size → Pg.underlying t = some (.slice e) → 0 < Pg.cellsOf e := slices_full_of Pg (by kernel_rfl)
theorem shutOf : shutT Pg [2, 3, 5, 9, 23, 24, 26] = true := by kernel_rfl
theorem own : ownKnob Pg.godebug = none := by kernel_rfl
end Go.Hx
