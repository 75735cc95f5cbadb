/- Texts as tokens, tokens as conditions, by definition. Own work. -/
import Derived.Test.YtancdapnpceogaaGreatS5Q
set_option maxRecDepth 20000
namespace Go.Hx
/-! ### Tokens -/
def uppI (r : Int) : Bool := decide (65 ≤ r) && decide (r ≤ 90)
def uppB (c : UInt8) : Bool := uppI c.toNat
def digB (c : UInt8) : Bool := digI c.toNat
def blankI (r : Int) : Bool := decide (r = 32) || (decide (r = 9) || decide (r = 10))
def blankB (c : UInt8) : Bool := blankI c.toNat
abbrev bs (l : List UInt8) : ByteArray := ⟨l.toArray⟩
structure Tk where
  k : Int
  s : ByteArray
  p : Nat
def encK (t : Tk) : AV := .agg [I t.k, S t.s, I t.p]
/-- what a digit of base 16 is worth -/
def hexN (n : Nat) : Option Nat := if 48 ≤ n ∧ n ≤ 57 then some (n - 48) else if 97 ≤ n ∧ n ≤ 102 then some (n - 87) else none
def hexV (c : UInt8) : Option Nat := hexN c.toNat
inductive UQ where
  | ok (s : List UInt8) (n : Nat)
  | bad (n : Nat) (e : Int)
inductive ER where
  | ok (c : UInt8) (n : Nat)
  | bad (q : Nat)
/-- two digits of base 16 -/
def hexR (p : Nat) : List UInt8 → ER
  | [] => .bad p
  | x :: r => match hexV x with
    | none => .bad p
    | some a => match r with
      | [] => .bad (p + 1)
      | y :: _ => match hexV y with
        | none => .bad (p + 1)
        | some b => .ok (UInt8.ofNat (16 * a + b)) 2
/-- what an escape says: its sign stands at a place -/
def escR (p : Nat) : List UInt8 → ER
  | [] => .bad (p + 1)
  | d :: r =>
    if d.toNat = 39 ∨ d.toNat = 92 then .ok d 2
    else if d.toNat ≠ 120 then .bad (p + 1)
    else match hexR (p + 2) r with
      | .bad q => .bad q
      | .ok c _ => if plainB c = true then .bad p else .ok c 4
/-- what is quoted, from a place on -/
def unqF (p : Nat) (out : List UInt8) : List UInt8 → UQ
  | [] => .bad p 4
  | c :: r =>
    if c.toNat = 39 then (if 256 < out.length then .bad 0 2 else .ok out (p + 1))
    else if c.toNat = 92 then match escR p r with
      | .bad q => .bad q 4
      | .ok d n => unqF (p + n) (out ++ [d]) (r.drop (n - 1))
    else if plainB c = true then unqF (p + 1) (out ++ [c]) r
    else .bad p 4
termination_by r => r.length
decreasing_by all_goals (simp_wf; try omega)
def unq : List UInt8 → UQ
  | [] => .bad 0 4
  | c :: r => if c.toNat = 39 then unqF 1 [] r else .bad 0 4
def signW : List (List UInt8) := [[60, 61], [62, 61], [60, 62], [45, 62], [40], [41], [44], [46], [43], [45], [42], [47], [37], [61], [60], [62], [33], [124], [123], [125], [91], [93]]
def pre? (r w : List UInt8) : Bool := decide (w.length ≤ r.length) && decide (r.take w.length = w)
inductive L1 where
  | tok (k : Int) (s : List UInt8) (n : Nat)
  | bad (n : Nat) (e : Int)
def wordT (k : Int) (p : UInt8 → Bool) (r : List UInt8) : L1 :=
  if 32 < (r.takeWhile p).length then .bad 0 4 else .tok k (r.takeWhile p) (r.takeWhile p).length
def intT (r : List UInt8) : L1 :=
  if 19 < (r.takeWhile digB).length ∨ (1 < (r.takeWhile digB).length ∧ r.head?.map (·.toNat) = some 48) then .bad 0 4 else .tok 3 (r.takeWhile digB) (r.takeWhile digB).length
def signF (r : List UInt8) : L1 :=
  match signW.find? (pre? r) with
  | none => .bad 0 4
  | some w => .tok 5 w w.length
/-- the token that begins a text -/
def lex1 (r : List UInt8) : L1 :=
  match r with
  | [] => .bad 0 4
  | c :: _ =>
    if c.toNat = 39 then match unq r with
      | .ok s n => .tok 4 s n
      | .bad n e => .bad n e
    else if uppB c = true then wordT 1 uppB r
    else if lowB c = true then wordT 2 signB r
    else if digB c = true then intT r
    else signF r
/-- all tokens from a place on -/
def lexW (p : Nat) : List UInt8 → Except (Nat × Int) (List Tk)
  | [] => .ok [⟨6, e0, p⟩]
  | c :: r =>
    if blankB c = true then lexW (p + 1) r
    else match lex1 (c :: r) with
      | .bad n e => .error (p + n, e)
      | .tok k w n => match lexW (p + n) (r.drop (n - 1)) with
        | .error e => .error e
        | .ok l => .ok (⟨k, bs w, p⟩ :: l)
termination_by r => r.length
decreasing_by all_goals (simp_wf; try omega)
def lexA (s : ByteArray) : Except (Nat × Int) (List Tk) := if 8192 < s.size then .error (0, 2) else lexW 0 (tx s)
/-- tokens end with an end -/
def endsT : List Tk → Prop
  | [] => False
  | [t] => t.k = 6
  | t :: r => t.k ≠ 6 ∧ endsT r
theorem endsT_cons {t u : Tk} {r : List Tk} : endsT (t :: u :: r) ↔ t.k ≠ 6 ∧ endsT (u :: r) := Iff.rfl
theorem endsT_ne {r : List Tk} (h : endsT r) : r ≠ [] := fun e => by subst e; exact h
/-- behind what is no end, more comes -/
theorem endsT_tail {t : Tk} {r : List Tk} (h : endsT (t :: r)) (hk : t.k ≠ 6) : endsT r := by
  cases r with
  | nil => exact (hk h).elim
  | cons u r => exact h.2
theorem hexR_len {p : Nat} {r : List UInt8} {c : UInt8} {n : Nat} (h : hexR p r = .ok c n) : n = 2 ∧ 2 ≤ r.length := by
  cases r with
  | nil => cases h
  | cons x r =>
    simp only [hexR] at h
    split at h
    · cases h
    · cases r with
      | nil => cases h
      | cons y r =>
        simp only at h
        split at h
        · cases h
        · cases h; exact ⟨rfl, by simp⟩
theorem escR_len {p : Nat} {r : List UInt8} {c : UInt8} {n : Nat} (h : escR p r = .ok c n) : 2 ≤ n ∧ n ≤ r.length + 1 := by
  cases r with
  | nil => cases h
  | cons d r =>
    simp only [escR] at h
    split at h
    · cases h; exact ⟨by omega, by simp⟩
    · split at h
      · cases h
      · split at h
        · cases h
        · rename_i h1
          split at h
          · cases h
          · cases h
            have := hexR_len h1
            exact ⟨by omega, by simp; omega⟩
theorem unqF_len : ∀ (m p : Nat) (out r : List UInt8), r.length ≤ m → ∀ s n, unqF p out r = .ok s n → s.length ≤ 256 ∧ p < n ∧ n ≤ p + r.length := by
  intro m
  induction m with
  | zero =>
    intro p out r hr s n h
    cases r with
    | nil => rw [unqF] at h; cases h
    | cons c r => simp at hr
  | succ m ih =>
    intro p out r hr s n h
    cases r with
    | nil => rw [unqF] at h; cases h
    | cons c r =>
      rw [unqF.eq_def] at h
      simp only [List.length_cons] at hr h ⊢
      split at h
      · split at h
        · cases h
        · rename_i h1; cases h; omega
      · split at h
        · split at h
          · cases h
          · rename_i d k hd
            have h1 := escR_len hd
            have := ih _ _ (r.drop (k - 1)) (by simp; omega) _ _ h
            simp only [List.length_drop] at this; omega
        · split at h
          · have := ih _ _ r (by omega) _ _ h; omega
          · cases h
/-! ### Conditions -/
def nextIs (k : Int) (s : ByteArray) : List Tk → Bool
  | [] => false
  | t :: _ => decide (t.k = k) && decide (t.s = s)
def posn : List Tk → Nat
  | [] => 0
  | t :: _ => t.p
def kindN : List Tk → Int
  | [] => 6
  | t :: _ => t.k
def nd (k : Int) (v : Vl) (var fld : ByteArray) (l : List Ex) : Ex := .mk k v var fld 0 true .any l
mutual
/-- a node, but for how its slices lie -/
def norm : Ex → Ex
  | .mk k v var fld _ _ _ l => nd k v var fld (norms l)
def norms : List Ex → List Ex
  | [] => []
  | x :: r => norm x :: norms r
end
theorem norms_map (l : List Ex) : norms l = l.map norm := by
  induction l with
  | nil => simp [norms]
  | cons x r ih => simp [norms, ih]
theorem norm_eq (x : Ex) : norm x = nd x.k x.v x.var x.fld (x.l.map norm) := by
  cases x; simp [norm, norms_map, Ex.k, Ex.v, Ex.var, Ex.fld, Ex.l]
theorem norm_mk (k : Int) (v : Vl) (var fld : ByteArray) (sz : Nat) (nil : Bool) (tip : Tip) (l : List Ex) : norm (.mk k v var fld sz nil tip l) = nd k v var fld (l.map norm) := norm_eq _
def partsJ (k : Int) (l : List Ex) : List Ex := l.flatMap fun x => if x.k = k then x.l else [x]
def joinE (k : Int) (l : List Ex) : Ex :=
  match partsJ k l with
  | [] => nd 1 (boolV (decide (k = 16))) e0 e0 []
  | [x] => x
  | out => nd k nullV e0 e0 out
def opI (lo hi : Int) (s : ByteArray) : Nat → Nat → Option Int
  | 0, _ => none
  | m + 1, j => if lo ≤ (j : Int) + 4 ∧ (j : Int) + 4 ≤ hi ∧ s = opS j then some ((j : Int) + 4) else opI lo hi s m (j + 1)
/-- the kind of the sign that is next, if it is from one to another -/
def opOf (lo hi : Int) : List Tk → Option Int
  | [] => none
  | t :: _ => if t.k = 5 then opI lo hi t.s 11 0 else none
/-- what digits are worth -/
def valD (l : List UInt8) : Nat := l.foldl (fun n c => 10 * n + (c.toNat - 48)) 0
def numOf (minus : Bool) (s : ByteArray) : Option Int :=
  if minus = true then (if valD (tx s) ≤ 9223372036854775808 then some (-(valD (tx s) : Int)) else none)
  else if valD (tx s) ≤ 9223372036854775807 then some (valD (tx s) : Int) else none
inductive PR where
  | ok (x : Ex) (r : List Tk)
  | bad (e : Int) (p : Nat)
def numR (minus : Bool) : List Tk → PR
  | [] => .bad 4 0
  | t :: r => match numOf minus t.s with
    | none => .bad 4 t.p
    | some n => .ok (nd 1 (intV n) e0 e0 []) r
def textV (s : ByteArray) : Vl := ⟨3, 0, s⟩
def fieldR (v : ByteArray) (r : List Tk) : PR :=
  if nextIs 5 ⟨#[46]⟩ r = true then match r.tail with
    | [] => .bad 4 0
    | t :: r2 => if t.k = 2 then .ok (nd 2 nullV v t.s []) r2 else .bad 4 t.p
  else .bad 4 (posn r)
def sTRUE : ByteArray := ⟨#[84, 82, 85, 69]⟩
def sFALSE : ByteArray := ⟨#[70, 65, 76, 83, 69]⟩
def sNULL : ByteArray := ⟨#[78, 85, 76, 76]⟩
def wordV (s : ByteArray) : Option Vl := if s = sTRUE then some (boolV true) else if s = sFALSE then some (boolV false) else if s = sNULL then some nullV else none
/-- what is no part in parentheses -/
def atomR : List Tk → PR
  | [] => .bad 4 0
  | t :: r =>
    if t.k = 3 then numR false (t :: r)
    else if t.k = 4 then .ok (nd 1 (textV t.s) e0 e0 []) r
    else if t.k = 2 then fieldR t.s r
    else if t.k = 1 then match wordV t.s with
      | some v => .ok (nd 1 v e0 e0 []) r
      | none => .bad 4 t.p
    else .bad 4 t.p
inductive Gl where
  | row (b : Bool)
  | more (b : Bool) (l : List Ex)
  | not
  | cmp
  | left (b : Bool)
  | lmore (b : Bool) (x : Ex)
  | neg
  | last
def rowK (b : Bool) : Int := if b = true then 17 else 16
def rowW (b : Bool) : ByteArray := if b = true then ⟨#[79, 82]⟩ else ⟨#[65, 78, 68]⟩
def rowP (b : Bool) : Gl := if b = true then .row false else .not
def leftP (b : Bool) : Gl := if b = true then .left false else .neg
def leftLo (b : Bool) : Int := if b = true then 4 else 6
def leftHi (b : Bool) : Int := if b = true then 5 else 8
def wNOT : ByteArray := ⟨#[78, 79, 84]⟩
def wMinus : ByteArray := ⟨#[45]⟩
def wOpen : ByteArray := ⟨#[40]⟩
def wShut : ByteArray := ⟨#[41]⟩
/-- what is read: so many are open, so much is left -/
inductive P : Gl → Nat → List Tk → PR → Prop
  | row_bad {b o r e p} : P (rowP b) o r (.bad e p) → P (.row b) o r (.bad e p)
  | row_ok {b o r x r1 R} : P (rowP b) o r (.ok x r1) → P (.more b [x]) o r1 R → P (.row b) o r R
  | more_no {b l o r} : nextIs 1 (rowW b) r = false → P (.more b l) o r (.ok (joinE (rowK b) l) r)
  | more_bad {b l o t r e p} : nextIs 1 (rowW b) (t :: r) = true → P (rowP b) o r (.bad e p) → P (.more b l) o (t :: r) (.bad e p)
  | more_ok {b l o t r x r1 R} : nextIs 1 (rowW b) (t :: r) = true → P (rowP b) o r (.ok x r1) → P (.more b (l ++ [x])) o r1 R → P (.more b l) o (t :: r) R
  | not_no {o r R} : nextIs 1 wNOT r = false → P .cmp o r R → P .not o r R
  | not_long {o r} : nextIs 1 wNOT r = true → 200 ≤ o → P .not o r (.bad 2 (posn r))
  | not_bad {o t r e p} : nextIs 1 wNOT (t :: r) = true → o < 200 → P .not (o + 1) r (.bad e p) → P .not o (t :: r) (.bad e p)
  | not_ok {o t r x r1} : nextIs 1 wNOT (t :: r) = true → o < 200 → P .not (o + 1) r (.ok x r1) → P .not o (t :: r) (.ok (nd 15 nullV e0 e0 [x]) r1)
  | cmp_bad {o r e p} : P (.left true) o r (.bad e p) → P .cmp o r (.bad e p)
  | cmp_no {o r x r1} : P (.left true) o r (.ok x r1) → opOf 9 14 r1 = none → P .cmp o r (.ok x r1)
  | cmp_bad2 {o r x t r1 k e p} : P (.left true) o r (.ok x (t :: r1)) → opOf 9 14 (t :: r1) = some k → P (.left true) o r1 (.bad e p) → P .cmp o r (.bad e p)
  | cmp_ok {o r x t r1 k y r2} : P (.left true) o r (.ok x (t :: r1)) → opOf 9 14 (t :: r1) = some k → P (.left true) o r1 (.ok y r2) → P .cmp o r (.ok (nd k nullV e0 e0 [x, y]) r2)
  | left_bad {b o r e p} : P (leftP b) o r (.bad e p) → P (.left b) o r (.bad e p)
  | left_ok {b o r x r1 R} : P (leftP b) o r (.ok x r1) → P (.lmore b x) o r1 R → P (.left b) o r R
  | lmore_no {b x o r} : opOf (leftLo b) (leftHi b) r = none → P (.lmore b x) o r (.ok x r)
  | lmore_bad {b x o t r k e p} : opOf (leftLo b) (leftHi b) (t :: r) = some k → P (leftP b) o r (.bad e p) → P (.lmore b x) o (t :: r) (.bad e p)
  | lmore_ok {b x o t r k y r1 R} : opOf (leftLo b) (leftHi b) (t :: r) = some k → P (leftP b) o r (.ok y r1) → P (.lmore b (nd k nullV e0 e0 [x, y])) o r1 R → P (.lmore b x) o (t :: r) R
  | neg_no {o r R} : nextIs 5 wMinus r = false → P .last o r R → P .neg o r R
  | neg_num {o t r} : nextIs 5 wMinus (t :: r) = true → kindN r = 3 → P .neg o (t :: r) (numR true r)
  | neg_long {o t r} : nextIs 5 wMinus (t :: r) = true → kindN r ≠ 3 → 200 ≤ o → P .neg o (t :: r) (.bad 2 t.p)
  | neg_bad {o t r e p} : nextIs 5 wMinus (t :: r) = true → kindN r ≠ 3 → o < 200 → P .neg (o + 1) r (.bad e p) → P .neg o (t :: r) (.bad e p)
  | neg_ok {o t r x r1} : nextIs 5 wMinus (t :: r) = true → kindN r ≠ 3 → o < 200 → P .neg (o + 1) r (.ok x r1) → P .neg o (t :: r) (.ok (nd 3 nullV e0 e0 [x]) r1)
  | last_atom {o r} : nextIs 5 wOpen r = false → P .last o r (atomR r)
  | last_long {o r} : nextIs 5 wOpen r = true → 200 ≤ o → P .last o r (.bad 2 (posn r))
  | last_bad {o t r e p} : nextIs 5 wOpen (t :: r) = true → o < 200 → P (.row true) (o + 1) r (.bad e p) → P .last o (t :: r) (.bad e p)
  | last_open {o t r x r1} : nextIs 5 wOpen (t :: r) = true → o < 200 → P (.row true) (o + 1) r (.ok x r1) → nextIs 5 wShut r1 = false → P .last o (t :: r) (.bad 4 (posn r1))
  | last_ok {o t r x u r1} : nextIs 5 wOpen (t :: r) = true → o < 200 → P (.row true) (o + 1) r (.ok x (u :: r1)) → nextIs 5 wShut (u :: r1) = true → P .last o (t :: r) (.ok x r1)
def rank : Gl → Nat
  | .row true => 9
  | .row false => 8
  | .not => 7
  | .cmp => 6
  | .left true => 5
  | .left false => 4
  | .neg => 3
  | .last => 2
  | _ => 1
theorem nextIs_ne {k : Int} {s : ByteArray} {r : List Tk} (h : nextIs k s r = true) : ∃ t r1, r = t :: r1 ∧ t.k = k ∧ t.s = s := by
  cases r with
  | nil => simp [nextIs] at h
  | cons t r => simp only [nextIs, Bool.and_eq_true, decide_eq_true_eq] at h; exact ⟨t, r, rfl, h.1, h.2⟩
theorem opOf_ne {lo hi k : Int} {r : List Tk} (h : opOf lo hi r = some k) : ∃ t r1, r = t :: r1 ∧ t.k = 5 := by
  cases r with
  | nil => simp [opOf] at h
  | cons t r =>
    simp only [opOf] at h
    split at h
    · exact ⟨t, r, rfl, by assumption⟩
    · cases h
/-- what is left of something read -/
def Left (r : List Tk) : PR → Prop
  | .ok _ r1 => endsT r1 ∧ r1.length ≤ r.length
  | .bad _ _ => True
theorem numR_left {m : Bool} {r : List Tk} (h : endsT r) (hk : kindN r = 3) : Left r (numR m r) := by
  cases r with
  | nil => exact h.elim
  | cons t r =>
    simp only [numR]
    split
    · trivial
    · exact ⟨endsT_tail h (by simp only [kindN] at hk; omega), by simp⟩
theorem atomR_left {r : List Tk} (h : endsT r) : Left r (atomR r) := by
  cases r with
  | nil => exact h.elim
  | cons t r =>
    simp only [atomR]
    split
    · exact numR_left h (by simpa [kindN])
    · rename_i h3
      split
      · rename_i h4; exact ⟨endsT_tail h (by omega), by simp⟩
      · split
        · rename_i h2
          have ht := endsT_tail h (by omega : t.k ≠ 6)
          simp only [fieldR]
          split
          · rename_i hn
            obtain ⟨u, r1, rfl, hu, _⟩ := nextIs_ne hn
            have ht1 := endsT_tail ht (by omega : u.k ≠ 6)
            simp only [List.tail_cons]
            split
            · trivial
            · rename_i v r2
              split
              · exact ⟨endsT_tail ht1 (by omega), by simp; omega⟩
              · trivial
          · trivial
        · split
          · split
            · exact ⟨endsT_tail h (by omega), by simp⟩
            · trivial
          · trivial
/-- something is read of all tokens -/
theorem P_total : ∀ (n : Nat) (g : Gl) (o : Nat) (r : List Tk), 20 * r.length + rank g ≤ n → endsT r → ∃ R, P g o r R ∧ Left r R := by
  intro n
  induction n with
  | zero => intro g o r hn; cases g <;> simp [rank] at hn <;> (try split at hn) <;> omega
  | succ n ih =>
    intro g o r hn hr
    have step : ∀ (g' : Gl) (o' : Nat) (r' : List Tk), endsT r' → 20 * r'.length + rank g' < 20 * r.length + rank g → ∃ R, P g' o' r' R ∧ Left r' R := fun g' o' r' h1 h2 => ih g' o' r' (by omega) h1
    have rk : ∀ g, 1 ≤ rank g ∧ rank g ≤ 9 := fun g => by cases g <;> simp [rank] <;> split <;> omega
    have low : ∀ (g' : Gl) (o' : Nat) (r' : List Tk), endsT r' → r'.length < r.length → ∃ R, P g' o' r' R ∧ Left r' R := fun g' o' r' h1 h2 => step g' o' r' h1 (by have := rk g'; have := rk g; omega)
    cases g with
    | row b =>
      have hlt : rank (rowP b) < rank (.row b) := by cases b <;> simp [rowP, rank]
      have hm : ∀ l, rank (.more b l) < rank (.row b) := by intro l; cases b <;> simp [rank]
      obtain ⟨R, h1, h2⟩ := step (rowP b) o r hr (by omega)
      cases R with
      | bad e p => exact ⟨_, .row_bad h1, trivial⟩
      | ok x r1 =>
        obtain ⟨R, h3, h4⟩ := step (.more b [x]) o r1 h2.1 (by have := hm [x]; have := h2.2; omega)
        refine ⟨R, .row_ok h1 h3, ?_⟩
        cases R with
        | bad => trivial
        | ok => exact ⟨h4.1, Nat.le_trans h4.2 h2.2⟩
    | more b l =>
      cases hx : nextIs 1 (rowW b) r with
      | false => exact ⟨_, .more_no hx, hr, Nat.le_refl _⟩
      | true =>
        obtain ⟨t, r1, rfl, hk, _⟩ := nextIs_ne hx
        have ht := endsT_tail hr (by omega : t.k ≠ 6)
        obtain ⟨R, h1, h2⟩ := low (rowP b) o r1 ht (by simp)
        cases R with
        | bad e p => exact ⟨_, .more_bad hx h1, trivial⟩
        | ok x r2 =>
          have := h2.2
          obtain ⟨R, h3, h4⟩ := low (.more b (l ++ [x])) o r2 h2.1 (by simp; omega)
          refine ⟨R, .more_ok hx h1 h3, ?_⟩
          cases R with
          | bad => trivial
          | ok => exact ⟨h4.1, by have := h4.2; simp; omega⟩
    | not =>
      cases hx : nextIs 1 wNOT r with
      | false =>
        obtain ⟨R, h1, h2⟩ := step .cmp o r hr (by simp [rank])
        exact ⟨R, .not_no hx h1, h2⟩
      | true =>
        rcases Nat.lt_or_ge o 200 with ho | ho
        · obtain ⟨t, r1, rfl, hk, _⟩ := nextIs_ne hx
          have ht := endsT_tail hr (by omega : t.k ≠ 6)
          obtain ⟨R, h1, h2⟩ := low .not (o + 1) r1 ht (by simp)
          cases R with
          | bad e p => exact ⟨_, .not_bad hx ho h1, trivial⟩
          | ok x r2 => exact ⟨_, .not_ok hx ho h1, h2.1, by have := h2.2; simp; omega⟩
        · exact ⟨_, .not_long hx ho, trivial⟩
    | cmp =>
      obtain ⟨R, h1, h2⟩ := step (.left true) o r hr (by simp [rank])
      cases R with
      | bad e p => exact ⟨_, .cmp_bad h1, trivial⟩
      | ok x r1 =>
        cases hx : opOf 9 14 r1 with
        | none => exact ⟨_, .cmp_no h1 hx, h2⟩
        | some k =>
          obtain ⟨t, r2, rfl, hk⟩ := opOf_ne hx
          have ht := endsT_tail h2.1 (by omega : t.k ≠ 6)
          have := h2.2
          simp only [List.length_cons] at this
          obtain ⟨R, h3, h4⟩ := low (.left true) o r2 ht (by omega)
          cases R with
          | bad e p => exact ⟨_, .cmp_bad2 h1 hx h3, trivial⟩
          | ok y r3 => exact ⟨_, .cmp_ok h1 hx h3, h4.1, by have := h4.2; omega⟩
    | left b =>
      have hlt : rank (leftP b) < rank (.left b) := by cases b <;> simp [leftP, rank]
      have hm : ∀ x, rank (.lmore b x) < rank (.left b) := by intro l; cases b <;> simp [rank]
      obtain ⟨R, h1, h2⟩ := step (leftP b) o r hr (by omega)
      cases R with
      | bad e p => exact ⟨_, .left_bad h1, trivial⟩
      | ok x r1 =>
        obtain ⟨R, h3, h4⟩ := step (.lmore b x) o r1 h2.1 (by have := hm x; have := h2.2; omega)
        refine ⟨R, .left_ok h1 h3, ?_⟩
        cases R with
        | bad => trivial
        | ok => exact ⟨h4.1, Nat.le_trans h4.2 h2.2⟩
    | lmore b x =>
      cases hx : opOf (leftLo b) (leftHi b) r with
      | none => exact ⟨_, .lmore_no hx, hr, Nat.le_refl _⟩
      | some k =>
        obtain ⟨t, r1, rfl, hk⟩ := opOf_ne hx
        have ht := endsT_tail hr (by omega : t.k ≠ 6)
        obtain ⟨R, h1, h2⟩ := low (leftP b) o r1 ht (by simp)
        cases R with
        | bad e p => exact ⟨_, .lmore_bad hx h1, trivial⟩
        | ok y r2 =>
          have := h2.2
          obtain ⟨R, h3, h4⟩ := low (.lmore b (nd k nullV e0 e0 [x, y])) o r2 h2.1 (by simp; omega)
          refine ⟨R, .lmore_ok hx h1 h3, ?_⟩
          cases R with
          | bad => trivial
          | ok => exact ⟨h4.1, by have := h4.2; simp; omega⟩
    | neg =>
      cases hx : nextIs 5 wMinus r with
      | false =>
        obtain ⟨R, h1, h2⟩ := step .last o r hr (by simp [rank])
        exact ⟨R, .neg_no hx h1, h2⟩
      | true =>
        obtain ⟨t, r1, rfl, hk, _⟩ := nextIs_ne hx
        have ht := endsT_tail hr (by omega : t.k ≠ 6)
        rcases Decidable.em (kindN r1 = 3) with h3 | h3
        · refine ⟨_, .neg_num hx h3, ?_⟩
          have := numR_left (m := true) ht h3
          revert this
          cases numR true r1 with
          | bad => exact fun _ => trivial
          | ok => exact fun h => ⟨h.1, by have := h.2; simp; omega⟩
        · rcases Nat.lt_or_ge o 200 with ho | ho
          · obtain ⟨R, h1, h2⟩ := low .neg (o + 1) r1 ht (by simp)
            cases R with
            | bad e p => exact ⟨_, .neg_bad hx h3 ho h1, trivial⟩
            | ok x r2 => exact ⟨_, .neg_ok hx h3 ho h1, h2.1, by have := h2.2; simp; omega⟩
          · exact ⟨_, .neg_long hx h3 ho, trivial⟩
    | last =>
      cases hx : nextIs 5 wOpen r with
      | false => exact ⟨_, .last_atom hx, atomR_left hr⟩
      | true =>
        rcases Nat.lt_or_ge o 200 with ho | ho
        · obtain ⟨t, r1, rfl, hk, _⟩ := nextIs_ne hx
          have ht := endsT_tail hr (by omega : t.k ≠ 6)
          obtain ⟨R, h1, h2⟩ := low (.row true) (o + 1) r1 ht (by simp)
          cases R with
          | bad e p => exact ⟨_, .last_bad hx ho h1, trivial⟩
          | ok x r2 =>
            cases hy : nextIs 5 wShut r2 with
            | false => exact ⟨_, .last_open hx ho h1 hy, trivial⟩
            | true =>
              obtain ⟨u, r3, rfl, hu, _⟩ := nextIs_ne hy
              exact ⟨_, .last_ok hx ho h1 hy, endsT_tail h2.1 (by omega), by have := h2.2; simp at this; simp; omega⟩
        · exact ⟨_, .last_long hx ho, trivial⟩
end Go.Hx
