/- The law's own run. Own work. -/
import Derived.Test.YtancdapnpceogaaGreatS5AF
set_option maxRecDepth 20000
namespace Go.Hx
def awS : ByteArray := ⟨#[97, 46, 120, 32, 60, 32, 49]⟩
def awL : List Tk := [⟨2, bs [97], 0⟩, ⟨5, bs [46], 1⟩, ⟨2, bs [120], 2⟩, ⟨5, bs [60], 4⟩, ⟨3, bs [49], 6⟩, ⟨6, e0, 7⟩]
theorem lexW_tok {p : Nat} {c : UInt8} {r w r' : List UInt8} {k : Int} {n : Nat} {l : List Tk} (hb : blankB c = false) (h : lex1 (c :: r) = .tok k w n) (hr : r.drop (n - 1) = r') (hl : lexW (p + n) r' = .ok l) : lexW p (c :: r) = .ok (⟨k, bs w, p⟩ :: l) := by
  rw [lexW, if_neg (by rw [hb]; decide)]
  simp only [h, hr, hl]
theorem lexW_skip {p : Nat} {c : UInt8} {r : List UInt8} {R : Except (Nat × Int) (List Tk)} (hb : blankB c = true) (hl : lexW (p + 1) r = R) : lexW p (c :: r) = R := by
  rw [lexW, if_pos hb, hl]
theorem aw_lex : lexA awS = .ok awL := by
  have h0 : lexA awS = lexW 0 [97, 46, 120, 32, 60, 32, 49] := by rw [lexA, if_neg (by decide)]; rfl
  rw [h0]
  refine lexW_tok rfl (k := 2) (w := [97]) (n := 1) (by kernel_rfl) (r' := [46, 120, 32, 60, 32, 49]) rfl ?_
  refine lexW_tok rfl (k := 5) (w := [46]) (n := 1) (by kernel_rfl) (r' := [120, 32, 60, 32, 49]) rfl ?_
  refine lexW_tok rfl (k := 2) (w := [120]) (n := 1) (by kernel_rfl) (r' := [32, 60, 32, 49]) rfl ?_
  refine lexW_skip rfl ?_
  refine lexW_tok rfl (k := 5) (w := [60]) (n := 1) (by kernel_rfl) (r' := [32, 49]) rfl ?_
  refine lexW_skip rfl ?_
  refine lexW_tok rfl (k := 3) (w := [49]) (n := 1) (by kernel_rfl) (r' := []) rfl ?_
  rw [lexW]

def awX : Ex := nd 11 nullV e0 e0 [nd 2 nullV (bs [97]) (bs [120]) [], nd 1 (intV 1) e0 e0 []]
theorem aw_P : P (.row true) 0 awL (.ok awX [⟨6, e0, 7⟩]) := by
  have atom : ∀ {r : List Tk} {x : Ex} {r1 : List Tk}, atomR r = .ok x r1 → nextIs 5 wOpen r = false → nextIs 5 wMinus r = false → opOf 6 8 r1 = none → opOf 4 5 r1 = none → P (.left true) 0 r (.ok x r1) := fun {r x r1} h h1 h2 h3 h4 => by
    have l : P .neg 0 r (.ok x r1) := .neg_no h2 (h ▸ .last_atom h1)
    exact .left_ok (b := true) (.left_ok (b := false) l (.lmore_no h3)) (.lmore_no h4)
  have h1 : P (.left true) 0 awL (.ok (nd 2 nullV (bs [97]) (bs [120]) []) [⟨5, bs [60], 4⟩, ⟨3, bs [49], 6⟩, ⟨6, e0, 7⟩]) := atom rfl rfl rfl rfl rfl
  have h2 : P (.left true) 0 [⟨3, bs [49], 6⟩, ⟨6, e0, 7⟩] (.ok (nd 1 (intV 1) e0 e0 []) [⟨6, e0, 7⟩]) := atom rfl rfl rfl rfl rfl
  have hc : P .cmp 0 awL (.ok awX [⟨6, e0, 7⟩]) := .cmp_ok h1 (show opOf 9 14 _ = some 11 from rfl) h2
  have j1 : joinE (rowK false) [awX] = awX := rfl
  have j2 : joinE (rowK true) [awX] = awX := rfl
  have hm1 : P (.more false [awX]) 0 [⟨6, e0, 7⟩] (.ok awX [⟨6, e0, 7⟩]) := by
    have := P.more_no (b := false) (l := [awX]) (o := 0) (r := [⟨6, e0, 7⟩]) rfl
    rw [j1] at this; exact this
  have hm2 : P (.more true [awX]) 0 [⟨6, e0, 7⟩] (.ok awX [⟨6, e0, 7⟩]) := by
    have := P.more_no (b := true) (l := [awX]) (o := 0) (r := [⟨6, e0, 7⟩]) rfl
    rw [j2] at this; exact this
  exact .row_ok (b := true) (.row_ok (b := false) (.not_no rfl hc) hm1) hm2
theorem aw_T : TextR awS (.ok awX) := .ok aw_lex aw_P (by decide +kernel) rfl
theorem c18 (H : Heap) (Q : Post) (hq : ∀ H', HExt H H' → Q (B true) H') : E 18 [] H Q := by
  rw [f18_eq]
  refine c13 awS (by decide) H _ aw_T (fun y H' he hy _ _ _ _ => ?_)
  have hk : y.k = 11 := by rw [← norm_k, hy]; rfl
  have e11 : partA false 0 1 (encC y) = some (I 11) := by rw [q0X, hk]
  have h0 : decide ((0 : Int) = 0) = true := rfl
  have h7 : decide (((awS.size : Nat) : Int) = 7) = true := rfl
  have h11 : decide ((11 : Int) = 11) = true := rfl
  simp only [x3_0, x3_1, x3_2, ob_some, szX, splX, i_eql, h0, h7, h11, cnd_t, e11]
  rw [f18_j6_eq]
  exact hq H' he
end Go.Hx
