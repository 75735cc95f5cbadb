/- Printed by gen.py (own work): each function as the abstract machine has it. -/
import Derived.Test.YtopogilbllajcaaS2H
import Derived.KernelRfl
set_option linter.unusedVariables false
namespace Go.Hx
/-! ### 2 gosem.cut.init -/
theorem f2_eq (_u : Unit := ()) (H : Heap) (Q : Post) : E 2 [] H Q =
 E 1 [] H fun r1 H2 =>
 Q (AV.tup []) H2 :=
  Ev_eq.trans (by kernel_rfl)
/-! ### 3 haruspex/haruspexlaw31.RunAdds -/
def f3_l8 (x0 : AV) (x1 : AV) (x5 : AV) (x6 : AV) (H : Heap) (Q : Post) : Prop := AtF Pg Hs 3 [1, 1, 0, 1, 0] Q [(0, .val x0), (1, .val x1), (5, .val x5), (6, .val x6)] H
def f3_j12 (x0 : AV) (x1 : AV) (x5 : AV) (x6 : AV) (x24 : AV) (H : Heap) (Q : Post) : Prop := AtJ Pg Hs 3 [1, 1, 0, 1, 0, 0, 0, 1] Q [(0, .val x0), (1, .val x1), (5, .val x5), (6, .val x6), (24, .val x24)] H
def f3_l35 (x0 : AV) (x1 : AV) (x5 : AV) (x6 : AV) (x7 : List AV) (x8 : AV) (x9 : AV) (x10 : AV) (H : Heap) (Q : Post) : Prop := AtF Pg Hs 3 [1, 1, 0, 1, 0, 0, 1, 0, 0, 1, 1, 1, 1, 0, 1, 0] Q [(0, .val x0), (1, .val x1), (5, .val x5), (6, .val x6), (7, .lbox x7), (8, .val x8), (9, .val x9), (10, .val x10)] H
def f3_j45 (x0 : AV) (x1 : AV) (x5 : AV) (x6 : AV) (x7 : List AV) (x8 : AV) (x9 : AV) (x10 : AV) (H : Heap) (Q : Post) : Prop := AtJ Pg Hs 3 [1, 1, 0, 1, 0, 0, 1, 0, 0, 1, 1, 1, 1, 0, 1, 0, 0, 1, 1] Q [(0, .val x0), (1, .val x1), (5, .val x5), (6, .val x6), (7, .lbox x7), (8, .val x8), (9, .val x9), (10, .val x10)] H
def f3_c15_7a (x0 : AV) (x1 : AV) (x5 : AV) (x6 : AV) (x7 : List AV) (x8 : AV) (x9 : AV) (x70 : AV) (H : Heap) (Q : Post) : Prop := AtJ Pg Hs 3 [1, 1, 0, 1, 0, 0, 1, 0, 0, 1, 1, 1, 1, 1, 1, 0, 7] Q [(0, .val x0), (1, .val x1), (5, .val x5), (6, .val x6), (7, .lbox x7), (8, .val x8), (9, .val x9), (70, .val x70)] H
def f3_c15_7b (x0 : AV) (x1 : AV) (x5 : AV) (x6 : AV) (x7 : List AV) (x8 : AV) (x9 : AV) (H : Heap) (Q : Post) : Prop := AtJ Pg Hs 3 [1, 1, 0, 1, 0, 0, 1, 0, 0, 1, 1, 1, 1, 1, 1, 0, 7] Q [(0, .val x0), (1, .val x1), (5, .val x5), (6, .val x6), (7, .lbox x7), (8, .val x8), (9, .val x9), (70, .val (B false))] H
def f3_c15_25a (x0 : AV) (x1 : AV) (x5 : AV) (x6 : AV) (x7 : List AV) (H : Heap) (Q : Post) : Prop := AtJ Pg Hs 3 [1, 1, 0, 1, 0, 0, 1, 0, 0, 1, 1, 1, 1, 1, 1, 0, 25] Q [(0, .val x0), (1, .val x1), (5, .val x5), (6, .val x6), (7, .lbox x7), (71, .val (B true)), (74, .nov), (88, .nov)] H
def f3_c15_25b (x0 : AV) (x1 : AV) (x5 : AV) (x6 : AV) (x7 : List AV) (H : Heap) (Q : Post) : Prop := AtJ Pg Hs 3 [1, 1, 0, 1, 0, 0, 1, 0, 0, 1, 1, 1, 1, 1, 1, 0, 25] Q [(0, .val x0), (1, .val x1), (5, .val x5), (6, .val x6), (7, .lbox x7), (71, .val (B false)), (74, .val (B true)), (88, .val (B true))] H
def f3_c15_25c (x0 : AV) (x1 : AV) (x5 : AV) (x6 : AV) (x7 : List AV) (x88 : AV) (H : Heap) (Q : Post) : Prop := AtJ Pg Hs 3 [1, 1, 0, 1, 0, 0, 1, 0, 0, 1, 1, 1, 1, 1, 1, 0, 25] Q [(0, .val x0), (1, .val x1), (5, .val x5), (6, .val x6), (7, .lbox x7), (71, .val (B false)), (74, .val (B true)), (88, .val x88)] H
def f3_c15_25d (x0 : AV) (x1 : AV) (x5 : AV) (x6 : AV) (x7 : List AV) (H : Heap) (Q : Post) : Prop := AtJ Pg Hs 3 [1, 1, 0, 1, 0, 0, 1, 0, 0, 1, 1, 1, 1, 1, 1, 0, 25] Q [(0, .val x0), (1, .val x1), (5, .val x5), (6, .val x6), (7, .lbox x7), (71, .val (B false)), (74, .val (B false)), (88, .nov)] H
def f3_c15_26a (x0 : AV) (x1 : AV) (x5 : AV) (x6 : AV) (x7 : List AV) (H : Heap) (Q : Post) : Prop := AtJ Pg Hs 3 [1, 1, 0, 1, 0, 0, 1, 0, 0, 1, 1, 1, 1, 1, 1, 0, 26] Q [(0, .val x0), (1, .val x1), (5, .val x5), (6, .val x6), (7, .lbox x7), (71, .val (B true)), (89, .nov)] H
def f3_c15_26b (x0 : AV) (x1 : AV) (x5 : AV) (x6 : AV) (x7 : List AV) (H : Heap) (Q : Post) : Prop := AtJ Pg Hs 3 [1, 1, 0, 1, 0, 0, 1, 0, 0, 1, 1, 1, 1, 1, 1, 0, 26] Q [(0, .val x0), (1, .val x1), (5, .val x5), (6, .val x6), (7, .lbox x7), (71, .val (B false)), (89, .val (B true))] H
def f3_c15_26c (x0 : AV) (x1 : AV) (x5 : AV) (x6 : AV) (x7 : List AV) (x89 : AV) (H : Heap) (Q : Post) : Prop := AtJ Pg Hs 3 [1, 1, 0, 1, 0, 0, 1, 0, 0, 1, 1, 1, 1, 1, 1, 0, 26] Q [(0, .val x0), (1, .val x1), (5, .val x5), (6, .val x6), (7, .lbox x7), (71, .val (B false)), (89, .val x89)] H
def f3_c15_26d (x0 : AV) (x1 : AV) (x5 : AV) (x6 : AV) (x7 : List AV) (H : Heap) (Q : Post) : Prop := AtJ Pg Hs 3 [1, 1, 0, 1, 0, 0, 1, 0, 0, 1, 1, 1, 1, 1, 1, 0, 26] Q [(0, .val x0), (1, .val x1), (5, .val x5), (6, .val x6), (7, .lbox x7), (71, .val (B false)), (89, .val (B false))] H
def f3_j50 (x0 : AV) (x1 : AV) (x5 : AV) (x6 : AV) (x90 : AV) (H : Heap) (Q : Post) : Prop := AtJ Pg Hs 3 [1, 1, 0, 1, 0, 0, 1, 0, 0, 1, 1, 1, 1, 1, 1, 1] Q [(0, .val x0), (1, .val x1), (5, .val x5), (6, .val x6), (90, .val x90)] H
theorem f3_l8_eq (x0 : AV) (x1 : AV) (x5 : AV) (x6 : AV) (H : Heap) (Q : Post) : f3_l8 x0 x1 x5 x6 H Q =
 ob (lenA x0) fun r1 =>
 ob (binA Pg .lss 3 false x6 r1) fun r2 =>
 cndA r2
 (ob (lenA x1) fun r3 =>
 ob (binA Pg .lss 3 false x6 r3) fun r4 =>
 cndA r4
 (ob (binA Pg .lss 3 true x6 (I 20)) fun r5 =>
 f3_j12 x0 x1 x5 x6 r5 H Q)
 (f3_j12 x0 x1 x5 x6 (B false) H Q))
 (f3_j12 x0 x1 x5 x6 (B false) H Q) :=
  (AtF_eq Pg Hs 3 [1, 1, 0, 1, 0] Q _ H).trans (by kernel_rfl)
theorem f3_j12_eq (x0 : AV) (x1 : AV) (x5 : AV) (x6 : AV) (x24 : AV) (H : Heap) (Q : Post) : f3_j12 x0 x1 x5 x6 x24 H Q =
 cndA x24
 (ob (ixaA 6 x0 x6) fun c6 =>
 ob (partA true 0 6 c6) fun r7 =>
 E 5 [r7] H fun r8 H9 =>
 ob (binA Pg .gtr 3 true r8 (I 60)) fun r10 =>
 cndA r10
 (E 6 [] H9 fun r11 H12 =>
 Q r11 H12)
 (ob (ixaA 6 x0 x6) fun c13 =>
 ob (partA true 0 6 c13) fun r14 =>
 ob (ixaA 1 x1 x6) fun c15 =>
 ob (partA false 0 1 c15) fun r16 =>
 ob (bldA [(0, 1, r16), (1, 1, (S ⟨#[97]⟩))] [(I 0), (S ⟨#[]⟩)]) fun r17 =>
 ob (mkSlA 2 [r17]) fun r18 =>
 ob (bldA [(0, 6, r14), (6, 1, r18)] [(I 0), (S ⟨#[]⟩), (S ⟨#[]⟩), (I 0), (I 0), (AV.sl 0 true .full []), (AV.sl 0 true .full [])]) fun r19 =>
 ob (sizedA 7 r19) fun b20 =>
 ob (spliceA 0 b20 [(I 0), (S ⟨#[]⟩), (S ⟨#[]⟩), (I 0), (I 0), (AV.sl 0 true .full []), (AV.sl 0 true .full [])]) fun b21 =>
 ob (lenA x5) fun r22 =>
 f3_l35 x0 x1 x5 x6 b21 r22 (B false) (I 0) H9 Q))
 (E 6 [] H fun r23 H24 =>
 Q r23 H24) :=
  (AtJ_eq Pg Hs 3 [1, 1, 0, 1, 0, 0, 0, 1] Q _ H).trans (by kernel_rfl)
theorem f3_l35_eq (x0 : AV) (x1 : AV) (x5 : AV) (x6 : AV) (x7 : List AV) (x8 : AV) (x9 : AV) (x10 : AV) (H : Heap) (Q : Post) : f3_l35 x0 x1 x5 x6 x7 x8 x9 x10 H Q =
 ob (binA Pg .lss 3 false x10 x8) fun r25 =>
 cndA r25
 (cndA x9
 (f3_j45 x0 x1 x5 x6 x7 x8 (B true) x10 H Q)
 (ob (ixaA 7 x5 x10) fun c26 =>
 ob (partA true 0 7 c26) fun r27 =>
 ob (partA true 0 7 x7) fun r28 =>
 E 7 [r27, r28] H fun r29 H30 =>
 f3_j45 x0 x1 x5 x6 x7 x8 r29 x10 H30 Q))
 (ob (partA true 0 7 x7) fun r31 =>
 E 8 [x5, r31] H fun r32 H33 =>
 cndA x9
 (ob (lenA r32) fun r34 =>
 ob (binA Pg .neq 3 false r34 x8) fun r35 =>
 f3_c15_7a x0 x1 r32 x6 x7 x8 x9 r35 H33 Q)
 (f3_c15_7b x0 x1 r32 x6 x7 x8 x9 H33 Q)) :=
  (AtF_eq Pg Hs 3 [1, 1, 0, 1, 0, 0, 1, 0, 0, 1, 1, 1, 1, 0, 1, 0] Q _ H).trans (by kernel_rfl)
theorem f3_j45_eq (x0 : AV) (x1 : AV) (x5 : AV) (x6 : AV) (x7 : List AV) (x8 : AV) (x9 : AV) (x10 : AV) (H : Heap) (Q : Post) : f3_j45 x0 x1 x5 x6 x7 x8 x9 x10 H Q =
 ob (binA Pg .add 3 true x10 (I 1)) fun r36 =>
 f3_l35 x0 x1 x5 x6 x7 x8 x9 r36 H Q :=
  (AtJ_eq Pg Hs 3 [1, 1, 0, 1, 0, 0, 1, 0, 0, 1, 1, 1, 1, 0, 1, 0, 0, 1, 1] Q _ H).trans (by kernel_rfl)
theorem f3_c15_7a_eq (x0 : AV) (x1 : AV) (x5 : AV) (x6 : AV) (x7 : List AV) (x8 : AV) (x9 : AV) (x70 : AV) (H : Heap) (Q : Post) : f3_c15_7a x0 x1 x5 x6 x7 x8 x9 x70 H Q =
 cndA x70
 (f3_c15_25a x0 x1 x5 x6 x7 H Q)
 (ob (unA .not x9) fun r37 =>
 cndA r37
 (ob (lenA x5) fun r38 =>
 ob (binA Pg .add 3 true x8 (I 1)) fun r39 =>
 ob (binA Pg .neq 3 false r38 r39) fun r40 =>
 cndA r40
 (f3_c15_25b x0 x1 x5 x6 x7 H Q)
 (ob (ixaA 7 x5 x8) fun c41 =>
 ob (partA true 0 7 c41) fun r42 =>
 ob (partA true 0 7 x7) fun r43 =>
 E 7 [r42, r43] H fun r44 H45 =>
 ob (unA .not r44) fun r46 =>
 f3_c15_25c x0 x1 x5 x6 x7 r46 H45 Q))
 (f3_c15_25d x0 x1 x5 x6 x7 H Q)) :=
  (AtJ_eq Pg Hs 3 [1, 1, 0, 1, 0, 0, 1, 0, 0, 1, 1, 1, 1, 1, 1, 0, 7] Q _ H).trans (by kernel_rfl)
theorem f3_c15_7b_eq (x0 : AV) (x1 : AV) (x5 : AV) (x6 : AV) (x7 : List AV) (x8 : AV) (x9 : AV) (H : Heap) (Q : Post) : f3_c15_7b x0 x1 x5 x6 x7 x8 x9 H Q =
 ob (unA .not x9) fun r47 =>
 cndA r47
 (ob (lenA x5) fun r48 =>
 ob (binA Pg .add 3 true x8 (I 1)) fun r49 =>
 ob (binA Pg .neq 3 false r48 r49) fun r50 =>
 cndA r50
 (f3_c15_25b x0 x1 x5 x6 x7 H Q)
 (ob (ixaA 7 x5 x8) fun c51 =>
 ob (partA true 0 7 c51) fun r52 =>
 ob (partA true 0 7 x7) fun r53 =>
 E 7 [r52, r53] H fun r54 H55 =>
 ob (unA .not r54) fun r56 =>
 f3_c15_25c x0 x1 x5 x6 x7 r56 H55 Q))
 (f3_c15_25d x0 x1 x5 x6 x7 H Q) :=
  (AtJ_eq Pg Hs 3 [1, 1, 0, 1, 0, 0, 1, 0, 0, 1, 1, 1, 1, 1, 1, 0, 7] Q _ H).trans (by kernel_rfl)
theorem f3_c15_25a_eq (x0 : AV) (x1 : AV) (x5 : AV) (x6 : AV) (x7 : List AV) (H : Heap) (Q : Post) : f3_c15_25a x0 x1 x5 x6 x7 H Q =
 f3_c15_26a x0 x1 x5 x6 x7 H Q :=
  (AtJ_eq Pg Hs 3 [1, 1, 0, 1, 0, 0, 1, 0, 0, 1, 1, 1, 1, 1, 1, 0, 25] Q _ H).trans (by kernel_rfl)
theorem f3_c15_25b_eq (x0 : AV) (x1 : AV) (x5 : AV) (x6 : AV) (x7 : List AV) (H : Heap) (Q : Post) : f3_c15_25b x0 x1 x5 x6 x7 H Q =
 f3_c15_26b x0 x1 x5 x6 x7 H Q :=
  (AtJ_eq Pg Hs 3 [1, 1, 0, 1, 0, 0, 1, 0, 0, 1, 1, 1, 1, 1, 1, 0, 25] Q _ H).trans (by kernel_rfl)
theorem f3_c15_25c_eq (x0 : AV) (x1 : AV) (x5 : AV) (x6 : AV) (x7 : List AV) (x88 : AV) (H : Heap) (Q : Post) : f3_c15_25c x0 x1 x5 x6 x7 x88 H Q =
 f3_c15_26c x0 x1 x5 x6 x7 x88 H Q :=
  (AtJ_eq Pg Hs 3 [1, 1, 0, 1, 0, 0, 1, 0, 0, 1, 1, 1, 1, 1, 1, 0, 25] Q _ H).trans (by kernel_rfl)
theorem f3_c15_25d_eq (x0 : AV) (x1 : AV) (x5 : AV) (x6 : AV) (x7 : List AV) (H : Heap) (Q : Post) : f3_c15_25d x0 x1 x5 x6 x7 H Q =
 f3_c15_26d x0 x1 x5 x6 x7 H Q :=
  (AtJ_eq Pg Hs 3 [1, 1, 0, 1, 0, 0, 1, 0, 0, 1, 1, 1, 1, 1, 1, 0, 25] Q _ H).trans (by kernel_rfl)
theorem f3_c15_26a_eq (x0 : AV) (x1 : AV) (x5 : AV) (x6 : AV) (x7 : List AV) (H : Heap) (Q : Post) : f3_c15_26a x0 x1 x5 x6 x7 H Q =
 f3_j50 x0 x1 x5 x6 (B true) H Q :=
  (AtJ_eq Pg Hs 3 [1, 1, 0, 1, 0, 0, 1, 0, 0, 1, 1, 1, 1, 1, 1, 0, 26] Q _ H).trans (by kernel_rfl)
theorem f3_c15_26b_eq (x0 : AV) (x1 : AV) (x5 : AV) (x6 : AV) (x7 : List AV) (H : Heap) (Q : Post) : f3_c15_26b x0 x1 x5 x6 x7 H Q =
 f3_j50 x0 x1 x5 x6 (B true) H Q :=
  (AtJ_eq Pg Hs 3 [1, 1, 0, 1, 0, 0, 1, 0, 0, 1, 1, 1, 1, 1, 1, 0, 26] Q _ H).trans (by kernel_rfl)
theorem f3_c15_26c_eq (x0 : AV) (x1 : AV) (x5 : AV) (x6 : AV) (x7 : List AV) (x89 : AV) (H : Heap) (Q : Post) : f3_c15_26c x0 x1 x5 x6 x7 x89 H Q =
 f3_j50 x0 x1 x5 x6 x89 H Q :=
  (AtJ_eq Pg Hs 3 [1, 1, 0, 1, 0, 0, 1, 0, 0, 1, 1, 1, 1, 1, 1, 0, 26] Q _ H).trans (by kernel_rfl)
theorem f3_c15_26d_eq (x0 : AV) (x1 : AV) (x5 : AV) (x6 : AV) (x7 : List AV) (H : Heap) (Q : Post) : f3_c15_26d x0 x1 x5 x6 x7 H Q =
 f3_j50 x0 x1 x5 x6 (B false) H Q :=
  (AtJ_eq Pg Hs 3 [1, 1, 0, 1, 0, 0, 1, 0, 0, 1, 1, 1, 1, 1, 1, 0, 26] Q _ H).trans (by kernel_rfl)
theorem f3_j50_eq (x0 : AV) (x1 : AV) (x5 : AV) (x6 : AV) (x90 : AV) (H : Heap) (Q : Post) : f3_j50 x0 x1 x5 x6 x90 H Q =
 cndA x90
 (Q (B false) H)
 (ob (binA Pg .add 3 true x6 (I 1)) fun r57 =>
 f3_l8 x0 x1 x5 r57 H Q) :=
  (AtJ_eq Pg Hs 3 [1, 1, 0, 1, 0, 0, 1, 0, 0, 1, 1, 1, 1, 1, 1, 1] Q _ H).trans (by kernel_rfl)
theorem f3_eq (a0 a1 : AV) (H : Heap) (Q : Post) : E 3 [a0, a1] H Q =
 f3_l8 a0 a1 (AV.sl 0 true .full []) (I 0) H Q :=
  Ev_eq.trans (by kernel_rfl)
/-! ### 4 haruspex/haruspexlaw08.EventBegins -/
def f4_c7_8a (x7 : AV) (x8 : AV) (x11 : AV) (x46 : AV) (H : Heap) (Q : Post) : Prop := AtJ Pg Hs 4 [1, 1, 1, 1, 1, 0, 1, 0, 0, 8] Q [(7, .val x7), (8, .val x8), (11, .val x11), (46, .val x46)] H
def f4_c7_8b (x7 : AV) (x8 : AV) (x11 : AV) (H : Heap) (Q : Post) : Prop := AtJ Pg Hs 4 [1, 1, 1, 1, 1, 0, 1, 0, 0, 8] Q [(7, .val x7), (8, .val x8), (11, .val x11), (46, .val (B false))] H
def f4_l28 (x1 : AV) (x7 : AV) (x8 : AV) (x10 : AV) (x11 : AV) (x12 : AV) (H : Heap) (Q : Post) : Prop := AtF Pg Hs 4 [1, 1, 1, 1, 1, 1, 0, 1, 0] Q [(1, .val x1), (7, .val x7), (8, .val x8), (10, .val x10), (11, .val x11), (12, .val x12)] H
def f4_c7_16a (x54 : AV) (H : Heap) (Q : Post) : Prop := AtJ Pg Hs 4 [1, 1, 1, 1, 1, 0, 1, 0, 0, 16] Q [(54, .val x54)] H
def f4_c7_16b (H : Heap) (Q : Post) : Prop := AtJ Pg Hs 4 [1, 1, 1, 1, 1, 0, 1, 0, 0, 16] Q [(54, .val (B false))] H
def f4_c13_7a (x1 : AV) (x8 : AV) (x82 : AV) (H : Heap) (Q : Post) : Prop := AtJ Pg Hs 4 [1, 1, 1, 1, 1, 1, 1, 0, 7] Q [(1, .val x1), (8, .val x8), (82, .val x82)] H
def f4_c13_7b (x1 : AV) (x8 : AV) (H : Heap) (Q : Post) : Prop := AtJ Pg Hs 4 [1, 1, 1, 1, 1, 1, 1, 0, 7] Q [(1, .val x1), (8, .val x8), (82, .val (B false))] H
def f4_c7_19a (x57 : AV) (H : Heap) (Q : Post) : Prop := AtJ Pg Hs 4 [1, 1, 1, 1, 1, 0, 1, 0, 0, 19] Q [(57, .val x57)] H
def f4_c7_19b (H : Heap) (Q : Post) : Prop := AtJ Pg Hs 4 [1, 1, 1, 1, 1, 0, 1, 0, 0, 19] Q [(57, .val (B false))] H
def f4_c13_13a (x88 : AV) (H : Heap) (Q : Post) : Prop := AtJ Pg Hs 4 [1, 1, 1, 1, 1, 1, 1, 0, 13] Q [(88, .val x88)] H
def f4_c13_13b (H : Heap) (Q : Post) : Prop := AtJ Pg Hs 4 [1, 1, 1, 1, 1, 1, 1, 0, 13] Q [(88, .val (B false))] H
def f4_j22 (x6 : AV) (H : Heap) (Q : Post) : Prop := AtJ Pg Hs 4 [1, 1, 1, 1, 1, 0, 1, 0, 1] Q [(6, .val x6)] H
def f4_c13_16a (x91 : AV) (H : Heap) (Q : Post) : Prop := AtJ Pg Hs 4 [1, 1, 1, 1, 1, 1, 1, 0, 16] Q [(91, .val x91)] H
def f4_c13_16b (H : Heap) (Q : Post) : Prop := AtJ Pg Hs 4 [1, 1, 1, 1, 1, 1, 1, 0, 16] Q [(91, .val (B false))] H
def f4_j47 (x6 : AV) (H : Heap) (Q : Post) : Prop := AtJ Pg Hs 4 [1, 1, 1, 1, 1, 1, 1, 1] Q [(6, .val x6)] H
theorem f4_c7_8a_eq (x7 : AV) (x8 : AV) (x11 : AV) (x46 : AV) (H : Heap) (Q : Post) : f4_c7_8a x7 x8 x11 x46 H Q =
 cndA x46
 (ob (binA Pg .eql 40 true x11 (I 0)) fun r22 =>
 ob (binA Pg .leq 3 false x7 x8) fun r23 =>
 ob (binA Pg .eql 4 false r22 r23) fun r24 =>
 f4_c7_16a r24 H Q)
 (f4_c7_16b H Q) :=
  (AtJ_eq Pg Hs 4 [1, 1, 1, 1, 1, 0, 1, 0, 0, 8] Q _ H).trans (by kernel_rfl)
theorem f4_c7_8b_eq (x7 : AV) (x8 : AV) (x11 : AV) (H : Heap) (Q : Post) : f4_c7_8b x7 x8 x11 H Q =
 f4_c7_16b H Q :=
  (AtJ_eq Pg Hs 4 [1, 1, 1, 1, 1, 0, 1, 0, 0, 8] Q _ H).trans (by kernel_rfl)
theorem f4_l28_eq (x1 : AV) (x7 : AV) (x8 : AV) (x10 : AV) (x11 : AV) (x12 : AV) (H : Heap) (Q : Post) : f4_l28 x1 x7 x8 x10 x11 x12 H Q =
 ob (lenA x1) fun r25 =>
 ob (binA Pg .lss 3 false x12 r25) fun r26 =>
 cndA r26
 (ob (ixaA 3 x1 x12) fun c27 =>
 ob (partA false 0 1 (c27.drop 1)) fun r28 =>
 ob (binA Pg .sub 3 true x12 (I 1)) fun r29 =>
 ob (ixaA 3 x1 r29) fun c30 =>
 ob (partA false 0 1 (c30.drop 1)) fun r31 =>
 ob (binA Pg .lss 2 false r28 r31) fun r32 =>
 cndA r32
 (Q (B false) H)
 (ob (binA Pg .add 3 true x12 (I 1)) fun r33 =>
 f4_l28 x1 x7 x8 x10 x11 r33 H Q))
 (ob (binA Pg .eql 40 true x11 (I 0)) fun r34 =>
 cndA r34
 (ob (binA Pg .eql 3 false x10 x7) fun r35 =>
 f4_c13_7a x1 x8 r35 H Q)
 (f4_c13_7b x1 x8 H Q)) :=
  (AtF_eq Pg Hs 4 [1, 1, 1, 1, 1, 1, 0, 1, 0] Q _ H).trans (by kernel_rfl)
theorem f4_c7_16a_eq (x54 : AV) (H : Heap) (Q : Post) : f4_c7_16a x54 H Q =
 cndA x54
 (E 9 [] H fun r36 H37 =>
 f4_c7_19a r36 H37 Q)
 (f4_c7_19b H Q) :=
  (AtJ_eq Pg Hs 4 [1, 1, 1, 1, 1, 0, 1, 0, 0, 16] Q _ H).trans (by kernel_rfl)
theorem f4_c7_16b_eq (H : Heap) (Q : Post) : f4_c7_16b H Q =
 f4_c7_19b H Q :=
  (AtJ_eq Pg Hs 4 [1, 1, 1, 1, 1, 0, 1, 0, 0, 16] Q _ H).trans (by kernel_rfl)
theorem f4_c13_7a_eq (x1 : AV) (x8 : AV) (x82 : AV) (H : Heap) (Q : Post) : f4_c13_7a x1 x8 x82 H Q =
 cndA x82
 (ob (lenA x1) fun r38 =>
 ob (binA Pg .eql 3 false x8 r38) fun r39 =>
 f4_c13_13a r39 H Q)
 (f4_c13_13b H Q) :=
  (AtJ_eq Pg Hs 4 [1, 1, 1, 1, 1, 1, 1, 0, 7] Q _ H).trans (by kernel_rfl)
theorem f4_c13_7b_eq (x1 : AV) (x8 : AV) (H : Heap) (Q : Post) : f4_c13_7b x1 x8 H Q =
 f4_c13_13b H Q :=
  (AtJ_eq Pg Hs 4 [1, 1, 1, 1, 1, 1, 1, 0, 7] Q _ H).trans (by kernel_rfl)
theorem f4_c7_19a_eq (x57 : AV) (H : Heap) (Q : Post) : f4_c7_19a x57 H Q =
 f4_j22 x57 H Q :=
  (AtJ_eq Pg Hs 4 [1, 1, 1, 1, 1, 0, 1, 0, 0, 19] Q _ H).trans (by kernel_rfl)
theorem f4_c7_19b_eq (H : Heap) (Q : Post) : f4_c7_19b H Q =
 f4_j22 (B false) H Q :=
  (AtJ_eq Pg Hs 4 [1, 1, 1, 1, 1, 0, 1, 0, 0, 19] Q _ H).trans (by kernel_rfl)
theorem f4_c13_13a_eq (x88 : AV) (H : Heap) (Q : Post) : f4_c13_13a x88 H Q =
 cndA x88
 (E 9 [] H fun r40 H41 =>
 f4_c13_16a r40 H41 Q)
 (f4_c13_16b H Q) :=
  (AtJ_eq Pg Hs 4 [1, 1, 1, 1, 1, 1, 1, 0, 13] Q _ H).trans (by kernel_rfl)
theorem f4_c13_13b_eq (H : Heap) (Q : Post) : f4_c13_13b H Q =
 f4_c13_16b H Q :=
  (AtJ_eq Pg Hs 4 [1, 1, 1, 1, 1, 1, 1, 0, 13] Q _ H).trans (by kernel_rfl)
theorem f4_j22_eq (x6 : AV) (H : Heap) (Q : Post) : f4_j22 x6 H Q =
 Q x6 H :=
  (AtJ_eq Pg Hs 4 [1, 1, 1, 1, 1, 0, 1, 0, 1] Q _ H).trans (by kernel_rfl)
theorem f4_c13_16a_eq (x91 : AV) (H : Heap) (Q : Post) : f4_c13_16a x91 H Q =
 f4_j47 x91 H Q :=
  (AtJ_eq Pg Hs 4 [1, 1, 1, 1, 1, 1, 1, 0, 16] Q _ H).trans (by kernel_rfl)
theorem f4_c13_16b_eq (H : Heap) (Q : Post) : f4_c13_16b H Q =
 f4_j47 (B false) H Q :=
  (AtJ_eq Pg Hs 4 [1, 1, 1, 1, 1, 1, 1, 0, 16] Q _ H).trans (by kernel_rfl)
theorem f4_j47_eq (x6 : AV) (H : Heap) (Q : Post) : f4_j47 x6 H Q =
 Q x6 H :=
  (AtJ_eq Pg Hs 4 [1, 1, 1, 1, 1, 1, 1, 1] Q _ H).trans (by kernel_rfl)
theorem f4_eq (a0 a1 a2 : AV) (H : Heap) (Q : Post) : E 4 [a0, a1, a2] H Q =
 ob (lenA a1) fun r1 =>
 ob (binA Pg .gtr 3 true r1 (I 200)) fun r2 =>
 cndA r2
 (E 9 [] H fun r3 H4 =>
 Q r3 H4)
 (ob (cvtIA .i64 a2) fun r5 =>
 ob (lenA a1) fun r6 =>
 ob (binA Pg .add 3 true r6 (I 1)) fun r7 =>
 ob (binA Pg .rem 3 false r5 r7) fun r8 =>
 E 10 [a0, a1] H fun r9 H10 =>
 ob (extractA r9 0) fun r11 =>
 ob (extractA r9 1) fun r12 =>
 ob (sliceA 3 a1 none (some r8) none) fun r13 =>
 E 10 [a0, r13] H10 fun r14 H15 =>
 ob (extractA r14 0) fun r16 =>
 ob (extractA r14 1) fun r17 =>
 ob (binA Pg .neq 40 true r12 (I 0)) fun r18 =>
 cndA r18
 (ob (binA Pg .geq 3 true r11 (I 0)) fun r19 =>
 cndA r19
 (ob (lenA a1) fun r20 =>
 ob (binA Pg .lss 3 false r11 r20) fun r21 =>
 f4_c7_8a r8 r11 r17 r21 H15 Q)
 (f4_c7_8b r8 r11 r17 H15 Q))
 (f4_l28 a1 r8 r11 r16 r17 (I 1) H15 Q)) :=
  Ev_eq.trans (by kernel_rfl)
/-! ### 5 haruspex/haruspexref12.Size -/
def f5_l8 (x1 : List AV) (x3 : AV) (x4 : AV) (H : Heap) (Q : Post) : Prop := AtF Pg Hs 5 [1, 1, 0, 1, 0] Q [(1, .lbox x1), (3, .val x3), (4, .val x4)] H
theorem f5_l8_eq (x1 : List AV) (x3 : AV) (x4 : AV) (H : Heap) (Q : Post) : f5_l8 x1 x3 x4 H Q =
 ob (partA false 5 1 x1) fun r2 =>
 ob (lenA r2) fun r3 =>
 ob (binA Pg .lss 3 false x4 r3) fun r4 =>
 cndA r4
 (ob (partA false 5 1 x1) fun r5 =>
 ob (ixaA 6 r5 x4) fun c6 =>
 ob (partA true 0 6 c6) fun r7 =>
 E 5 [r7] H fun r8 H9 =>
 ob (binA Pg .add 3 false x3 r8) fun r10 =>
 ob (binA Pg .add 3 true x4 (I 1)) fun r11 =>
 f5_l8 x1 r10 r11 H9 Q)
 (Q x3 H) :=
  (AtF_eq Pg Hs 5 [1, 1, 0, 1, 0] Q _ H).trans (by kernel_rfl)
theorem f5_eq (a0 : AV) (H : Heap) (Q : Post) : E 5 [a0] H Q =
 ob (sizedA 6 a0) fun b1 =>
 f5_l8 b1 (I 1) (I 0) H Q :=
  Ev_eq.trans (by kernel_rfl)
/-! ### 6 haruspex/haruspexlaw31.awake -/
def f6_j6 (x0 : AV) (H : Heap) (Q : Post) : Prop := AtJ Pg Hs 6 [1, 1, 1] Q [(0, .val x0)] H
theorem f6_j6_eq (x0 : AV) (H : Heap) (Q : Post) : f6_j6 x0 H Q =
 Q x0 H :=
  (AtJ_eq Pg Hs 6 [1, 1, 1] Q _ H).trans (by kernel_rfl)
theorem f6_eq (_u : Unit := ()) (H : Heap) (Q : Post) : E 6 [] H Q =
 ob (bldA [(0, 1, (I 1)), (1, 1, (S ⟨#[97]⟩)), (2, 1, (S ⟨#[98, 117, 121]⟩))] [(I 0), (S ⟨#[]⟩), (S ⟨#[]⟩), (I 0), (I 0), (AV.sl 0 true .full [])]) fun r1 =>
 ob (bldA [(0, 6, r1)] [(I 0), (S ⟨#[]⟩), (S ⟨#[]⟩), (I 0), (I 0), (AV.sl 0 true .full []), (AV.sl 0 true .full []), (S ⟨#[]⟩), (I 0), (I 0), (AV.sl 0 true .full [])]) fun r2 =>
 E 12 [(AV.sl 0 true .full []), r2] H fun r3 H4 =>
 E 11 [r3] H4 fun r5 H6 =>
 ob (sizedA 7 r5) fun b7 =>
 ob (spliceA 0 b7 [(I 0), (S ⟨#[]⟩), (S ⟨#[]⟩), (I 0), (I 0), (AV.sl 0 true .full []), (AV.sl 0 true .full [])]) fun b8 =>
 ob (partA false 0 1 b8) fun r9 =>
 ob (binA Pg .eql 3 true r9 (I 1)) fun r10 =>
 cndA r10
 (ob (partA true 0 7 b8) fun r11 =>
 ob (partA true 0 7 b8) fun r12 =>
 E 7 [r11, r12] H6 fun r13 H14 =>
 f6_j6 r13 H14 Q)
 (f6_j6 (B false) H6 Q) :=
  Ev_eq.trans (by kernel_rfl)
/-! ### 7 haruspex/run.Same -/
def f7_j4 (x4 : AV) (H : Heap) (Q : Post) : Prop := AtJ Pg Hs 7 [1, 1] Q [(4, .val x4)] H
theorem f7_j4_eq (x4 : AV) (H : Heap) (Q : Post) : f7_j4 x4 H Q =
 Q x4 H :=
  (AtJ_eq Pg Hs 7 [1, 1] Q _ H).trans (by kernel_rfl)
theorem f7_eq (a0 a1 : AV) (H : Heap) (Q : Post) : E 7 [a0, a1] H Q =
 ob (sizedA 7 a0) fun b1 =>
 ob (sizedA 7 a1) fun b2 =>
 ob (partA false 6 1 b1) fun r3 =>
 ob (partA false 6 1 b2) fun r4 =>
 E 13 [r3, r4] H fun r5 H6 =>
 cndA r5
 (ob (partA true 0 6 b1) fun r7 =>
 ob (partA true 0 6 b2) fun r8 =>
 E 14 [r7, r8] H6 fun r9 H10 =>
 f7_j4 r9 H10 Q)
 (f7_j4 (B false) H6 Q) :=
  Ev_eq.trans (by kernel_rfl)
/-! ### 8 haruspex/run.Add -/
theorem f8_eq (a0 a1 : AV) (H : Heap) (Q : Post) : E 8 [a0, a1] H Q =
 ob (sizedA 7 a1) fun b1 =>
 ob (partA true 0 7 b1) fun r2 =>
 E 15 [a0, r2, (AV.fn (.func 7) [] [])] H fun r3 H4 =>
 Q r3 H4 :=
  Ev_eq.trans (by kernel_rfl)
/-! ### 9 haruspex/haruspexlaw08.awake -/
theorem f9_eq (_u : Unit := ()) (H : Heap) (Q : Post) : E 9 [] H Q =
 ob (bldA [(0, 1, (S ⟨#[120]⟩)), (1, 1, (I 2))] [(S ⟨#[]⟩), (I 0)]) fun r1 =>
 ob (mkSlA 2 [r1]) fun r2 =>
 ob (bldA [(0, 1, (S ⟨#[97]⟩)), (1, 1, r2)] [(S ⟨#[]⟩), (AV.sl 0 true .full [])]) fun r3 =>
 ob (mkSlA 2 [r3]) fun r4 =>
 E 16 [r4, (S ⟨#[97]⟩), (S ⟨#[120]⟩)] H fun r5 H6 =>
 Q r5 H6 :=
  Ev_eq.trans (by kernel_rfl)
/-! ### 10 haruspex/event.Stream -/
def f10_l20 (x0 : AV) (x1 : AV) (x6 : AV) (x7 : AV) (x8 : AV) (x18 : AV) (x19 : AV) (x20 : AV) (H : Heap) (Q : Post) : Prop := AtF Pg Hs 10 [1, 1, 1, 1, 1, 0, 1, 0] Q [(0, .val x0), (1, .val x1), (6, .val x6), (7, .val x7), (8, .val x8), (18, .val x18), (19, .val x19), (20, .val x20)] H
def f10_j39 (x0 : AV) (x1 : AV) (x6 : AV) (x7 : AV) (x8 : AV) (x9 : AV) (x10 : List AV) (x11 : AV) (x18 : AV) (x19 : AV) (x20 : AV) (H : Heap) (Q : Post) : Prop := AtJ Pg Hs 10 [1, 1, 1, 1, 1, 0, 1, 0, 0, 1, 1, 0, 0, 1, 1, 1] Q [(0, .val x0), (1, .val x1), (6, .val x6), (7, .val x7), (8, .val x8), (9, .val x9), (10, .lbox x10), (11, .val x11), (18, .val x18), (19, .val x19), (20, .val x20)] H
theorem f10_l20_eq (x0 : AV) (x1 : AV) (x6 : AV) (x7 : AV) (x8 : AV) (x18 : AV) (x19 : AV) (x20 : AV) (H : Heap) (Q : Post) : f10_l20 x0 x1 x6 x7 x8 x18 x19 x20 H Q =
 ob (binA Pg .lss 3 false x20 x19) fun r7 =>
 cndA r7
 (ob (ixaA 3 x18 x20) fun c8 =>
 ob (partA true 0 3 c8) fun r9 =>
 ob (sizedA 3 r9) fun b10 =>
 ob (spliceA 0 b10 [(S ⟨#[]⟩), (I 0), (AV.sl 0 true .full [])]) fun b11 =>
 ob (unA .not x6) fun r12 =>
 cndA r12
 (ob (partA true 0 3 b11) fun r13 =>
 callA (Ev Pg Hs) x7 [x0, r13] H fun r14 H15 =>
 f10_j39 x0 x1 x6 x7 x8 x20 b11 r14 x18 x19 x20 H15 Q)
 (f10_j39 x0 x1 x6 x7 x8 x20 b11 (I 1) x18 x19 x20 H Q))
 (ob (lenA x1) fun r16 =>
 Q (AV.tup [r16, (I 0)]) H) :=
  (AtF_eq Pg Hs 10 [1, 1, 1, 1, 1, 0, 1, 0] Q _ H).trans (by kernel_rfl)
theorem f10_j39_eq (x0 : AV) (x1 : AV) (x6 : AV) (x7 : AV) (x8 : AV) (x9 : AV) (x10 : List AV) (x11 : AV) (x18 : AV) (x19 : AV) (x20 : AV) (H : Heap) (Q : Post) : f10_j39 x0 x1 x6 x7 x8 x9 x10 x11 x18 x19 x20 H Q =
 ob (binA Pg .neq 40 true x11 (I 0)) fun r17 =>
 cndA r17
 (Q (AV.tup [x9, x11]) H)
 (ob (partA false 1 1 x10) fun r18 =>
 ob (binA Pg .lss 2 false r18 x8) fun r19 =>
 cndA r19
 (Q (AV.tup [x9, (I 11)]) H)
 (ob (partA false 1 1 x10) fun r20 =>
 ob (binA Pg .add 3 true x20 (I 1)) fun r21 =>
 f10_l20 x0 x1 x6 x7 r20 x18 x19 r21 H Q)) :=
  (AtJ_eq Pg Hs 10 [1, 1, 1, 1, 1, 0, 1, 0, 0, 1, 1, 0, 0, 1, 1, 1] Q _ H).trans (by kernel_rfl)
theorem f10_eq (a0 a1 : AV) (H : Heap) (Q : Post) : E 10 [a0, a1] H Q =
 ob (lenA a1) fun r1 =>
 ob (binA Pg .gtr 3 true r1 (I 4096)) fun r2 =>
 cndA r2
 (Q (AV.tup [(I 0), (I 2)]) H)
 (E 17 [a0] H fun r3 H4 =>
 ob (binA Pg .neq 40 true r3 (I 0)) fun r5 =>
 ob (lenA a1) fun r6 =>
 f10_l20 a0 a1 r5 (AV.fn (.func 18) [] []) (I 0) a1 r6 (I 0) H4 Q) :=
  Ev_eq.trans (by kernel_rfl)
/-! ### 11 haruspex/run.Fresh -/
theorem f11_eq (a0 : AV) (H : Heap) (Q : Post) : E 11 [a0] H Q =
 ob (sizedA 13 a0) fun b1 =>
 ob (partA true 2 6 b1) fun r2 =>
 E 19 [r2] H fun r3 H4 =>
 ob (bldA [(0, 6, r3)] [(I 0), (S ⟨#[]⟩), (S ⟨#[]⟩), (I 0), (I 0), (AV.sl 0 true .full []), (AV.sl 0 true .full [])]) fun r5 =>
 ob (sizedA 7 r5) fun b6 =>
 ob (spliceA 0 b6 [(I 0), (S ⟨#[]⟩), (S ⟨#[]⟩), (I 0), (I 0), (AV.sl 0 true .full []), (AV.sl 0 true .full [])]) fun b7 =>
 ob (partA true 0 7 b7) fun r8 =>
 Q r8 H4 :=
  Ev_eq.trans (by kernel_rfl)
/-! ### 12 haruspex/haruspexlaw31.ground -/
theorem f12_eq (a0 a1 : AV) (H : Heap) (Q : Post) : E 12 [a0, a1] H Q =
 ob (sizedA 11 a1) fun b1 =>
 ob (partA true 0 11 b1) fun r2 =>
 E 20 [] H fun r3 H4 =>
 ob (bldA [(0, 1, r3), (1, 1, a0), (2, 11, r2)] [(AV.sl 0 true .full []), (AV.sl 0 true .full []), (I 0), (S ⟨#[]⟩), (S ⟨#[]⟩), (I 0), (I 0), (AV.sl 0 true .full []), (AV.sl 0 true .full []), (S ⟨#[]⟩), (I 0), (I 0), (AV.sl 0 true .full [])]) fun r5 =>
 ob (sizedA 13 r5) fun b6 =>
 ob (spliceA 0 b6 [(AV.sl 0 true .full []), (AV.sl 0 true .full []), (I 0), (S ⟨#[]⟩), (S ⟨#[]⟩), (I 0), (I 0), (AV.sl 0 true .full []), (AV.sl 0 true .full []), (S ⟨#[]⟩), (I 0), (I 0), (AV.sl 0 true .full [])]) fun b7 =>
 ob (partA true 0 13 b7) fun r8 =>
 Q r8 H4 :=
  Ev_eq.trans (by kernel_rfl)
/-! ### 13 slices.Equal[[]haruspex/api.Bound,haruspex/api.Bound] -/
def f13_l14 (x0 : AV) (x1 : AV) (x12 : AV) (x13 : AV) (H : Heap) (Q : Post) : Prop := AtF Pg Hs 13 [1, 1, 0, 1, 0] Q [(0, .val x0), (1, .val x1), (12, .val x12), (13, .val x13)] H
theorem f13_l14_eq (x0 : AV) (x1 : AV) (x12 : AV) (x13 : AV) (H : Heap) (Q : Post) : f13_l14 x0 x1 x12 x13 H Q =
 ob (binA Pg .lss 3 false x13 x12) fun r5 =>
 cndA r5
 (ob (ixaA 2 x0 x13) fun c6 =>
 ob (partA true 0 2 c6) fun r7 =>
 ob (ixaA 2 x1 x13) fun c8 =>
 ob (partA true 0 2 c8) fun r9 =>
 ob (binA Pg .neq 30 false r7 r9) fun r10 =>
 cndA r10
 (Q (B false) H)
 (ob (binA Pg .add 3 true x13 (I 1)) fun r11 =>
 f13_l14 x0 x1 x12 r11 H Q))
 (Q (B true) H) :=
  (AtF_eq Pg Hs 13 [1, 1, 0, 1, 0] Q _ H).trans (by kernel_rfl)
theorem f13_eq (a0 a1 : AV) (H : Heap) (Q : Post) : E 13 [a0, a1] H Q =
 ob (lenA a0) fun r1 =>
 ob (lenA a1) fun r2 =>
 ob (binA Pg .neq 3 false r1 r2) fun r3 =>
 cndA r3
 (Q (B false) H)
 (ob (lenA a0) fun r4 =>
 f13_l14 a0 a1 r4 (I 0) H Q) :=
  Ev_eq.trans (by kernel_rfl)
/-! ### 14 haruspex/pat.Same -/
def f14_c1_12a (x2 : List AV) (x3 : List AV) (H : Heap) (Q : Post) : Prop := AtJ Pg Hs 14 [1, 0, 0, 12] Q [(2, .lbox x2), (3, .lbox x3), (16, .val (B true))] H
def f14_c1_12b (x2 : List AV) (x3 : List AV) (x16 : AV) (H : Heap) (Q : Post) : Prop := AtJ Pg Hs 14 [1, 0, 0, 12] Q [(2, .lbox x2), (3, .lbox x3), (16, .val x16)] H
def f14_c1_19a (x2 : List AV) (x3 : List AV) (H : Heap) (Q : Post) : Prop := AtJ Pg Hs 14 [1, 0, 0, 19] Q [(2, .lbox x2), (3, .lbox x3), (23, .val (B true))] H
def f14_c1_19b (x2 : List AV) (x3 : List AV) (x23 : AV) (H : Heap) (Q : Post) : Prop := AtJ Pg Hs 14 [1, 0, 0, 19] Q [(2, .lbox x2), (3, .lbox x3), (23, .val x23)] H
def f14_c1_26a (x2 : List AV) (x3 : List AV) (H : Heap) (Q : Post) : Prop := AtJ Pg Hs 14 [1, 0, 0, 26] Q [(2, .lbox x2), (3, .lbox x3), (30, .val (B true))] H
def f14_c1_26b (x2 : List AV) (x3 : List AV) (x30 : AV) (H : Heap) (Q : Post) : Prop := AtJ Pg Hs 14 [1, 0, 0, 26] Q [(2, .lbox x2), (3, .lbox x3), (30, .val x30)] H
def f14_j5 (x2 : List AV) (x3 : List AV) (x37 : AV) (H : Heap) (Q : Post) : Prop := AtJ Pg Hs 14 [1, 0, 1] Q [(2, .lbox x2), (3, .lbox x3), (37, .val x37)] H
theorem f14_c1_12a_eq (x2 : List AV) (x3 : List AV) (H : Heap) (Q : Post) : f14_c1_12a x2 x3 H Q =
 f14_c1_19a x2 x3 H Q :=
  (AtJ_eq Pg Hs 14 [1, 0, 0, 12] Q _ H).trans (by kernel_rfl)
theorem f14_c1_12b_eq (x2 : List AV) (x3 : List AV) (x16 : AV) (H : Heap) (Q : Post) : f14_c1_12b x2 x3 x16 H Q =
 cndA x16
 (f14_c1_19a x2 x3 H Q)
 (ob (partA false 2 1 x2) fun r9 =>
 ob (partA false 2 1 x3) fun r10 =>
 ob (binA Pg .neq 9 false r9 r10) fun r11 =>
 f14_c1_19b x2 x3 r11 H Q) :=
  (AtJ_eq Pg Hs 14 [1, 0, 0, 12] Q _ H).trans (by kernel_rfl)
theorem f14_c1_19a_eq (x2 : List AV) (x3 : List AV) (H : Heap) (Q : Post) : f14_c1_19a x2 x3 H Q =
 f14_c1_26a x2 x3 H Q :=
  (AtJ_eq Pg Hs 14 [1, 0, 0, 19] Q _ H).trans (by kernel_rfl)
theorem f14_c1_19b_eq (x2 : List AV) (x3 : List AV) (x23 : AV) (H : Heap) (Q : Post) : f14_c1_19b x2 x3 x23 H Q =
 cndA x23
 (f14_c1_26a x2 x3 H Q)
 (ob (partA false 3 1 x2) fun r12 =>
 ob (partA false 3 1 x3) fun r13 =>
 ob (binA Pg .neq 3 false r12 r13) fun r14 =>
 f14_c1_26b x2 x3 r14 H Q) :=
  (AtJ_eq Pg Hs 14 [1, 0, 0, 19] Q _ H).trans (by kernel_rfl)
theorem f14_c1_26a_eq (x2 : List AV) (x3 : List AV) (H : Heap) (Q : Post) : f14_c1_26a x2 x3 H Q =
 f14_j5 x2 x3 (B true) H Q :=
  (AtJ_eq Pg Hs 14 [1, 0, 0, 26] Q _ H).trans (by kernel_rfl)
theorem f14_c1_26b_eq (x2 : List AV) (x3 : List AV) (x30 : AV) (H : Heap) (Q : Post) : f14_c1_26b x2 x3 x30 H Q =
 cndA x30
 (f14_j5 x2 x3 (B true) H Q)
 (ob (partA false 4 1 x2) fun r15 =>
 ob (partA false 4 1 x3) fun r16 =>
 ob (binA Pg .neq 3 false r15 r16) fun r17 =>
 f14_j5 x2 x3 r17 H Q) :=
  (AtJ_eq Pg Hs 14 [1, 0, 0, 26] Q _ H).trans (by kernel_rfl)
theorem f14_j5_eq (x2 : List AV) (x3 : List AV) (x37 : AV) (H : Heap) (Q : Post) : f14_j5 x2 x3 x37 H Q =
 cndA x37
 (Q (B false) H)
 (ob (partA false 5 1 x2) fun r18 =>
 ob (partA false 5 1 x3) fun r19 =>
 E 21 [r18, r19, (AV.fn (.func 14) [] [])] H fun r20 H21 =>
 Q r20 H21) :=
  (AtJ_eq Pg Hs 14 [1, 0, 1] Q _ H).trans (by kernel_rfl)
theorem f14_eq (a0 a1 : AV) (H : Heap) (Q : Post) : E 14 [a0, a1] H Q =
 ob (sizedA 6 a0) fun b1 =>
 ob (sizedA 6 a1) fun b2 =>
 ob (partA false 0 1 b1) fun r3 =>
 ob (partA false 0 1 b2) fun r4 =>
 ob (binA Pg .neq 3 false r3 r4) fun r5 =>
 cndA r5
 (f14_c1_12a b1 b2 H Q)
 (ob (partA false 1 1 b1) fun r6 =>
 ob (partA false 1 1 b2) fun r7 =>
 ob (binA Pg .neq 9 false r6 r7) fun r8 =>
 f14_c1_12b b1 b2 r8 H Q) :=
  Ev_eq.trans (by kernel_rfl)
/-! ### 15 haruspex/run.once[haruspex/run.Run] -/
theorem f15_eq (a0 a1 a2 : AV) (H : Heap) (Q : Post) : E 15 [a0, a1, a2] H Q =
 ob (sizedA 7 a1) fun b1 =>
 ob (sizedA 1 a2) fun b2 =>
 newH H b2 fun r3 H4 =>
 newH H4 b1 fun r5 H6 =>
 E 22 [a0, (AV.fn (.func 23) [] [r3, r5])] H6 fun r7 H8 =>
 cndA r7
 (Q a0 H8)
 (ob (lenA a0) fun r9 =>
 ob (lenA a0) fun r10 =>
 ob (sliceA 7 a0 none (some r9) (some r10)) fun r11 =>
 ob (ldH H8 true 7 r5) fun r12 =>
 ob (mkSlA 7 [r12]) fun r13 =>
 appA 7 104 r11 r13 H8 fun r14 H15 =>
 Q r14 H15) :=
  Ev_eq.trans (by kernel_rfl)
/-! ### 16 haruspex/event.Has -/
theorem f16_eq (a0 a1 a2 : AV) (H : Heap) (Q : Post) : E 16 [a0, a1, a2] H Q =
 E 24 [a0, a1] H fun r1 H2 =>
 ob (extractA r1 0) fun r3 =>
 ob (extractA r1 1) fun r4 =>
 ob (sizedA 2 r3) fun b5 =>
 ob (spliceA 0 b5 [(S ⟨#[]⟩), (AV.sl 0 true .full [])]) fun b6 =>
 ob (unA .not r4) fun r7 =>
 cndA r7
 (Q (B false) H2)
 (ob (partA true 0 2 b6) fun r8 =>
 E 25 [r8, a2] H2 fun r9 H10 =>
 ob (extractA r9 0) fun r11 =>
 ob (extractA r9 1) fun r12 =>
 ob (extractA r9 2) fun r13 =>
 Q r13 H10) :=
  Ev_eq.trans (by kernel_rfl)
/-! ### 17 haruspex/schema.Book -/
def f17_l14 (x0 : AV) (x12 : AV) (x13 : AV) (x14 : AV) (H : Heap) (Q : Post) : Prop := AtF Pg Hs 17 [1, 1, 0, 1, 0] Q [(0, .val x0), (12, .val x12), (13, .val x13), (14, .val x14)] H
def f17_l41 (x6 : AV) (x25 : AV) (x26 : AV) (x27 : AV) (H : Heap) (Q : Post) : Prop := AtF Pg Hs 17 [1, 1, 1, 1, 0, 1, 0] Q [(6, .val x6), (25, .val x25), (26, .val x26), (27, .val x27)] H
theorem f17_l14_eq (x0 : AV) (x12 : AV) (x13 : AV) (x14 : AV) (H : Heap) (Q : Post) : f17_l14 x0 x12 x13 x14 H Q =
 ob (binA Pg .lss 3 false x14 x13) fun r4 =>
 cndA r4
 (ob (ixaA 2 x12 x14) fun c5 =>
 ob (partA true 0 2 c5) fun r6 =>
 ob (sizedA 2 r6) fun b7 =>
 ob (spliceA 0 b7 [(S ⟨#[]⟩), (AV.sl 0 true .full [])]) fun b8 =>
 ob (partA true 0 2 b8) fun r9 =>
 E 26 [r9] H fun r10 H11 =>
 ob (binA Pg .neq 40 true r10 (I 0)) fun r12 =>
 cndA r12
 (Q r10 H11)
 (ob (binA Pg .add 3 true x14 (I 1)) fun r13 =>
 f17_l14 x0 x12 x13 r13 H11 Q))
 (mkMapA H fun r14 H15 =>
 ob (lenA x0) fun r16 =>
 f17_l41 r14 x0 r16 (I 0) H15 Q) :=
  (AtF_eq Pg Hs 17 [1, 1, 0, 1, 0] Q _ H).trans (by kernel_rfl)
theorem f17_l41_eq (x6 : AV) (x25 : AV) (x26 : AV) (x27 : AV) (H : Heap) (Q : Post) : f17_l41 x6 x25 x26 x27 H Q =
 ob (binA Pg .lss 3 false x27 x26) fun r17 =>
 cndA r17
 (ob (ixaA 2 x25 x27) fun c18 =>
 ob (partA true 0 2 c18) fun r19 =>
 ob (sizedA 2 r19) fun b20 =>
 ob (spliceA 0 b20 [(S ⟨#[]⟩), (AV.sl 0 true .full [])]) fun b21 =>
 ob (partA false 0 1 b21) fun r22 =>
 E 27 [x6, r22] H fun r23 H24 =>
 cndA r23
 (Q (I 4) H24)
 (ob (binA Pg .add 3 true x27 (I 1)) fun r25 =>
 f17_l41 x6 x25 x26 r25 H24 Q))
 (Q (I 0) H) :=
  (AtF_eq Pg Hs 17 [1, 1, 1, 1, 0, 1, 0] Q _ H).trans (by kernel_rfl)
theorem f17_eq (a0 : AV) (H : Heap) (Q : Post) : E 17 [a0] H Q =
 ob (lenA a0) fun r1 =>
 ob (binA Pg .gtr 3 true r1 (I 16)) fun r2 =>
 cndA r2
 (Q (I 2) H)
 (ob (lenA a0) fun r3 =>
 f17_l14 a0 a0 r3 (I 0) H Q) :=
  Ev_eq.trans (by kernel_rfl)
/-! ### 18 (haruspex/event.book).check -/
def f18_l29 (x5 : List AV) (x32 : AV) (x33 : AV) (x34 : AV) (H : Heap) (Q : Post) : Prop := AtF Pg Hs 18 [1, 1, 1, 0, 1, 0] Q [(5, .lbox x5), (32, .val x32), (33, .val x33), (34, .val x34)] H
theorem f18_l29_eq (x5 : List AV) (x32 : AV) (x33 : AV) (x34 : AV) (H : Heap) (Q : Post) : f18_l29 x5 x32 x33 x34 H Q =
 ob (binA Pg .lss 3 false x34 x33) fun r19 =>
 cndA r19
 (ob (ixaA 3 x32 x34) fun c20 =>
 ob (partA true 0 3 c20) fun r21 =>
 ob (sizedA 3 r21) fun b22 =>
 ob (spliceA 0 b22 [(I 0), (I 0), (S ⟨#[]⟩)]) fun b23 =>
 ob (partA true 0 3 b23) fun r24 =>
 ob (partA false 1 1 x5) fun r25 =>
 ob (ixaA 2 r25 x34) fun c26 =>
 ob (partA false 0 1 (c26.drop 1)) fun r27 =>
 E 28 [r24, r27] H fun r28 H29 =>
 ob (unA .not r28) fun r30 =>
 cndA r30
 (Q (I 5) H29)
 (ob (binA Pg .add 3 true x34 (I 1)) fun r31 =>
 f18_l29 x5 x32 x33 r31 H29 Q))
 (Q (I 0) H) :=
  (AtF_eq Pg Hs 18 [1, 1, 1, 0, 1, 0] Q _ H).trans (by kernel_rfl)
theorem f18_eq (a0 a1 : AV) (H : Heap) (Q : Post) : E 18 [a0, a1] H Q =
 ob (sizedA 3 a1) fun b1 =>
 ob (partA false 0 1 b1) fun r2 =>
 E 24 [a0, r2] H fun r3 H4 =>
 ob (extractA r3 0) fun r5 =>
 ob (extractA r3 1) fun r6 =>
 ob (sizedA 2 r5) fun b7 =>
 ob (spliceA 0 b7 [(S ⟨#[]⟩), (AV.sl 0 true .full [])]) fun b8 =>
 ob (unA .not r6) fun r9 =>
 cndA r9
 (Q (I 6) H4)
 (ob (partA false 1 1 b1) fun r10 =>
 ob (binA Pg .lss 2 true r10 (I 0)) fun r11 =>
 cndA r11
 (Q (I 1) H4)
 (ob (partA false 2 1 b1) fun r12 =>
 ob (lenA r12) fun r13 =>
 ob (partA false 1 1 b8) fun r14 =>
 ob (lenA r14) fun r15 =>
 ob (binA Pg .neq 3 false r13 r15) fun r16 =>
 cndA r16
 (Q (I 4) H4)
 (ob (partA false 2 1 b1) fun r17 =>
 ob (lenA r17) fun r18 =>
 f18_l29 b8 r17 r18 (I 0) H4 Q))) :=
  Ev_eq.trans (by kernel_rfl)
/-! ### 19 haruspex/resid.Begin -/
def f19_j7 (x1 : List AV) (x2 : List AV) (x15 : AV) (H : Heap) (Q : Post) : Prop := AtJ Pg Hs 19 [1, 0, 1, 1] Q [(1, .lbox x1), (2, .lbox x2), (15, .val x15)] H
theorem f19_j7_eq (x1 : List AV) (x2 : List AV) (x15 : AV) (H : Heap) (Q : Post) : f19_j7 x1 x2 x15 H Q =
 cndA x15
 (ob (partA true 0 6 x1) fun r13 =>
 ob (sizedA 6 r13) fun b14 =>
 ob (spliceA 0 b14 x2) fun b15 =>
 ob (partA true 0 6 b15) fun r16 =>
 Q r16 H)
 (ob (partA false 5 1 x1) fun r17 =>
 ob (partA false 5 1 x1) fun r18 =>
 ob (lenA r18) fun r19 =>
 ob (binA Pg .sub 3 true r19 (I 1)) fun r20 =>
 ob (sliceA 6 r17 none (some r20) none) fun r21 =>
 E 31 [(I 2), r21] H fun r22 H23 =>
 ob (sizedA 6 r22) fun b24 =>
 ob (spliceA 0 b24 x2) fun b25 =>
 ob (partA true 0 6 b25) fun r26 =>
 Q r26 H23) :=
  (AtJ_eq Pg Hs 19 [1, 0, 1, 1] Q _ H).trans (by kernel_rfl)
theorem f19_eq (a0 : AV) (H : Heap) (Q : Post) : E 19 [a0] H Q =
 ob (sizedA 6 a0) fun b1 =>
 ob (partA true 0 6 b1) fun r2 =>
 E 29 [r2] H fun r3 H4 =>
 ob (extractA r3 0) fun r5 =>
 ob (extractA r3 1) fun r6 =>
 ob (sizedA 6 r5) fun b7 =>
 ob (spliceA 0 b7 [(I 0), (S ⟨#[]⟩), (S ⟨#[]⟩), (I 0), (I 0), (AV.sl 0 true .full [])]) fun b8 =>
 ob (partA true 0 6 b1) fun r9 =>
 E 30 [r9] H4 fun r10 H11 =>
 cndA r10
 (f19_j7 b1 [(I 0), (S ⟨#[]⟩), (S ⟨#[]⟩), (I 0), (I 0), (AV.sl 0 true .full [])] (B true) H11 Q)
 (ob (unA .not r6) fun r12 =>
 f19_j7 b1 [(I 0), (S ⟨#[]⟩), (S ⟨#[]⟩), (I 0), (I 0), (AV.sl 0 true .full [])] r12 H11 Q) :=
  Ev_eq.trans (by kernel_rfl)
/-! ### 20 haruspex/haruspexlaw31.book -/
theorem f20_eq (_u : Unit := ()) (H : Heap) (Q : Post) : E 20 [] H Q =
 ob (bldA [(0, 1, (S ⟨#[120]⟩)), (1, 1, (I 2))] [(S ⟨#[]⟩), (I 0)]) fun r1 =>
 ob (bldA [(0, 1, (S ⟨#[107]⟩)), (1, 1, (I 3))] [(S ⟨#[]⟩), (I 0)]) fun r2 =>
 ob (bldA [(0, 1, (S ⟨#[98]⟩)), (1, 1, (I 1))] [(S ⟨#[]⟩), (I 0)]) fun r3 =>
 ob (mkSlA 2 [r1, r2, r3]) fun r4 =>
 ob (bldA [(0, 1, (S ⟨#[98, 117, 121]⟩)), (1, 1, r4)] [(S ⟨#[]⟩), (AV.sl 0 true .full [])]) fun r5 =>
 ob (bldA [(0, 1, (S ⟨#[115, 101, 108, 108]⟩)), (1, 1, r4)] [(S ⟨#[]⟩), (AV.sl 0 true .full [])]) fun r6 =>
 ob (bldA [(0, 1, (S ⟨#[107]⟩)), (1, 1, (I 3))] [(S ⟨#[]⟩), (I 0)]) fun r7 =>
 ob (bldA [(0, 1, (S ⟨#[120]⟩)), (1, 1, (I 2))] [(S ⟨#[]⟩), (I 0)]) fun r8 =>
 ob (mkSlA 2 [r7, r8]) fun r9 =>
 ob (bldA [(0, 1, (S ⟨#[116, 105, 99, 107]⟩)), (1, 1, r9)] [(S ⟨#[]⟩), (AV.sl 0 true .full [])]) fun r10 =>
 ob (mkSlA 2 [r5, r6, r10]) fun r11 =>
 Q r11 H :=
  Ev_eq.trans (by kernel_rfl)
/-! ### 21 slices.EqualFunc[[]haruspex/api.Pat,[]haruspex/api.Pat,haruspex/api.Pat,haruspex/api.Pat] -/
def f21_l14 (x1 : AV) (x2 : AV) (x15 : AV) (x16 : AV) (x17 : AV) (H : Heap) (Q : Post) : Prop := AtF Pg Hs 21 [1, 1, 0, 1, 0] Q [(1, .val x1), (2, .val x2), (15, .val x15), (16, .val x16), (17, .val x17)] H
theorem f21_l14_eq (x1 : AV) (x2 : AV) (x15 : AV) (x16 : AV) (x17 : AV) (H : Heap) (Q : Post) : f21_l14 x1 x2 x15 x16 x17 H Q =
 ob (binA Pg .lss 3 false x17 x16) fun r5 =>
 cndA r5
 (ob (ixaA 6 x15 x17) fun c6 =>
 ob (partA true 0 6 c6) fun r7 =>
 ob (sizedA 6 r7) fun b8 =>
 ob (spliceA 0 b8 [(I 0), (S ⟨#[]⟩), (S ⟨#[]⟩), (I 0), (I 0), (AV.sl 0 true .full [])]) fun b9 =>
 ob (ixaA 6 x1 x17) fun c10 =>
 ob (partA true 0 6 c10) fun r11 =>
 ob (sizedA 6 r11) fun b12 =>
 ob (spliceA 0 b12 [(I 0), (S ⟨#[]⟩), (S ⟨#[]⟩), (I 0), (I 0), (AV.sl 0 true .full [])]) fun b13 =>
 ob (partA true 0 6 b9) fun r14 =>
 ob (partA true 0 6 b13) fun r15 =>
 callA (Ev Pg Hs) x2 [r14, r15] H fun r16 H17 =>
 ob (unA .not r16) fun r18 =>
 cndA r18
 (Q (B false) H17)
 (ob (binA Pg .add 3 true x17 (I 1)) fun r19 =>
 f21_l14 x1 x2 x15 x16 r19 H17 Q))
 (Q (B true) H) :=
  (AtF_eq Pg Hs 21 [1, 1, 0, 1, 0] Q _ H).trans (by kernel_rfl)
theorem f21_eq (a0 a1 a2 : AV) (H : Heap) (Q : Post) : E 21 [a0, a1, a2] H Q =
 ob (lenA a0) fun r1 =>
 ob (lenA a1) fun r2 =>
 ob (binA Pg .neq 3 false r1 r2) fun r3 =>
 cndA r3
 (Q (B false) H)
 (ob (lenA a0) fun r4 =>
 f21_l14 a1 a2 a0 r4 (I 0) H Q) :=
  Ev_eq.trans (by kernel_rfl)
/-! ### 22 slices.ContainsFunc[[]haruspex/run.Run,haruspex/run.Run] -/
theorem f22_eq (a0 a1 : AV) (H : Heap) (Q : Post) : E 22 [a0, a1] H Q =
 E 32 [a0, a1] H fun r1 H2 =>
 ob (binA Pg .geq 3 true r1 (I 0)) fun r3 =>
 Q r3 H2 :=
  Ev_eq.trans (by kernel_rfl)
/-! ### 23 haruspex/run.once[haruspex/run.Run]$1 -/
theorem f23_eq (a0 a1 a2 : AV) (H : Heap) (Q : Post) : E 23 [a0, a1, a2] H Q =
 ob (sizedA 7 a0) fun b1 =>
 ob (ldH H false 1 a1) fun r2 =>
 ob (ldH H true 7 a2) fun r3 =>
 ob (partA true 0 7 b1) fun r4 =>
 callA (Ev Pg Hs) r2 [r3, r4] H fun r5 H6 =>
 Q r5 H6 :=
  Ev_eq.trans (by kernel_rfl)
/-! ### 24 (haruspex/event.book).of -/
theorem f24_eq (a0 a1 : AV) (H : Heap) (Q : Post) : E 24 [a0, a1] H Q =
 E 33 [a0, a1] H fun r1 H2 =>
 ob (extractA r1 0) fun r3 =>
 ob (extractA r1 1) fun r4 =>
 ob (unA .not r4) fun r5 =>
 cndA r5
 (ob (bldA [] [(S ⟨#[]⟩), (AV.sl 0 true .full [])]) fun r6 =>
 ob (sizedA 2 r6) fun b7 =>
 ob (spliceA 0 b7 [(S ⟨#[]⟩), (AV.sl 0 true .full [])]) fun b8 =>
 ob (partA true 0 2 b8) fun r9 =>
 Q (AV.tup [r9, (B false)]) H2)
 (ob (ixaA 2 a0 r3) fun c10 =>
 ob (partA true 0 2 c10) fun r11 =>
 ob (sizedA 2 r11) fun b12 =>
 ob (spliceA 0 b12 [(S ⟨#[]⟩), (AV.sl 0 true .full [])]) fun b13 =>
 ob (partA true 0 2 b13) fun r14 =>
 Q (AV.tup [r14, (B true)]) H2) :=
  Ev_eq.trans (by kernel_rfl)
/-! ### 25 haruspex/schema.Field -/
theorem f25_eq (a0 a1 : AV) (H : Heap) (Q : Post) : E 25 [a0, a1] H Q =
 ob (sizedA 2 a0) fun b1 =>
 ob (sizedA 1 a1) fun b2 =>
 ob (partA false 1 1 b1) fun r3 =>
 newH H b2 fun r4 H5 =>
 E 34 [r3, (AV.fn (.func 35) [] [r4])] H5 fun r6 H7 =>
 ob (binA Pg .lss 3 true r6 (I 0)) fun r8 =>
 cndA r8
 (Q (AV.tup [(I 0), (I 0), (B false)]) H7)
 (ob (partA false 1 1 b1) fun r9 =>
 ob (ixaA 2 r9 r6) fun c10 =>
 ob (partA false 0 1 (c10.drop 1)) fun r11 =>
 Q (AV.tup [r6, r11, (B true)]) H7) :=
  Ev_eq.trans (by kernel_rfl)
/-! ### 26 haruspex/schema.Check -/
def f26_j17 (x20 : AV) (H : Heap) (Q : Post) : Prop := AtJ Pg Hs 26 [1, 1, 1, 1, 0, 1] Q [(20, .val x20)] H
theorem f26_j17_eq (x20 : AV) (H : Heap) (Q : Post) : f26_j17 x20 H Q =
 cndA x20
 (Q (I 1) H)
 (Q (I 0) H) :=
  (AtJ_eq Pg Hs 26 [1, 1, 1, 1, 0, 1] Q _ H).trans (by kernel_rfl)
theorem f26_eq (a0 : AV) (H : Heap) (Q : Post) : E 26 [a0] H Q =
 ob (sizedA 2 a0) fun b1 =>
 ob (partA false 1 1 b1) fun r2 =>
 ob (lenA r2) fun r3 =>
 ob (binA Pg .gtr 3 true r3 (I 16)) fun r4 =>
 cndA r4
 (Q (I 2) H)
 (mkMapA H fun r5 H6 =>
 ob (sizedA 1 r5) fun b7 =>
 ob (spliceA 0 b7 [(AV.raw (.map none))]) fun b8 =>
 newH H6 b8 fun r9 H10 =>
 ob (partA false 0 1 b1) fun r11 =>
 E 37 [r11] H10 fun r12 H13 =>
 ob (unA .not r12) fun r14 =>
 cndA r14
 (f26_j17 (B true) H13 Q)
 (ob (partA false 1 1 b1) fun r15 =>
 E 38 [r15, (AV.fn (.func 36) [] [r9])] H13 fun r16 H17 =>
 f26_j17 r16 H17 Q)) :=
  Ev_eq.trans (by kernel_rfl)
/-! ### 27 (haruspex/schema.names).again -/
theorem f27_eq (a0 a1 : AV) (H : Heap) (Q : Post) : E 27 [a0, a1] H Q =
 ob (lookA H (B false) a0 a1 false) fun r1 =>
 cndA r1
 (Q (B true) H)
 (updA H a0 a1 (B true) fun H2 =>
 Q (B false) H2) :=
  Ev_eq.trans (by kernel_rfl)
/-! ### 28 haruspex/value.Fits -/
def f28_j5 (x1 : AV) (x2 : List AV) (x15 : AV) (H : Heap) (Q : Post) : Prop := AtJ Pg Hs 28 [1, 0, 1] Q [(1, .val x1), (2, .lbox x2), (15, .val x15)] H
def f28_j12 (x4 : AV) (H : Heap) (Q : Post) : Prop := AtJ Pg Hs 28 [1, 1, 1] Q [(4, .val x4)] H
theorem f28_j5_eq (x1 : AV) (x2 : List AV) (x15 : AV) (H : Heap) (Q : Post) : f28_j5 x1 x2 x15 H Q =
 cndA x15
 (Q (B false) H)
 (ob (partA false 0 1 x2) fun r8 =>
 ob (binA Pg .eql 3 true r8 (I 0)) fun r9 =>
 cndA r9
 (f28_j12 (B true) H Q)
 (ob (partA false 0 1 x2) fun r10 =>
 ob (binA Pg .eql 3 false r10 x1) fun r11 =>
 f28_j12 r11 H Q)) :=
  (AtJ_eq Pg Hs 28 [1, 0, 1] Q _ H).trans (by kernel_rfl)
theorem f28_j12_eq (x4 : AV) (H : Heap) (Q : Post) : f28_j12 x4 H Q =
 Q x4 H :=
  (AtJ_eq Pg Hs 28 [1, 1, 1] Q _ H).trans (by kernel_rfl)
theorem f28_eq (a0 a1 : AV) (H : Heap) (Q : Post) : E 28 [a0, a1] H Q =
 ob (sizedA 3 a0) fun b1 =>
 ob (binA Pg .lss 3 true a1 (I 1)) fun r2 =>
 cndA r2
 (f28_j5 a1 b1 (B true) H Q)
 (ob (binA Pg .gtr 3 true a1 (I 3)) fun r3 =>
 cndA r3
 (f28_j5 a1 b1 (B true) H Q)
 (ob (partA true 0 3 b1) fun r4 =>
 E 39 [r4] H fun r5 H6 =>
 ob (unA .not r5) fun r7 =>
 f28_j5 a1 b1 r7 H6 Q)) :=
  Ev_eq.trans (by kernel_rfl)
/-! ### 29 haruspex/pat.Tail -/
def f29_j5 (x1 : List AV) (x2 : List AV) (x13 : AV) (H : Heap) (Q : Post) : Prop := AtJ Pg Hs 29 [1, 0, 1] Q [(1, .lbox x1), (2, .lbox x2), (13, .val x13)] H
theorem f29_j5_eq (x1 : List AV) (x2 : List AV) (x13 : AV) (H : Heap) (Q : Post) : f29_j5 x1 x2 x13 H Q =
 cndA x13
 (ob (bldA [] [(I 0), (S ⟨#[]⟩), (S ⟨#[]⟩), (I 0), (I 0), (AV.sl 0 true .full [])]) fun r7 =>
 ob (sizedA 6 r7) fun b8 =>
 ob (spliceA 0 b8 x2) fun b9 =>
 ob (partA true 0 6 b9) fun r10 =>
 Q (AV.tup [r10, (B false)]) H)
 (ob (partA false 5 1 x1) fun r11 =>
 ob (partA false 5 1 x1) fun r12 =>
 ob (lenA r12) fun r13 =>
 ob (binA Pg .sub 3 true r13 (I 1)) fun r14 =>
 ob (ixaA 6 r11 r14) fun c15 =>
 ob (partA true 0 6 c15) fun r16 =>
 ob (sizedA 6 r16) fun b17 =>
 ob (spliceA 0 b17 [(I 0), (S ⟨#[]⟩), (S ⟨#[]⟩), (I 0), (I 0), (AV.sl 0 true .full [])]) fun b18 =>
 ob (partA false 0 1 b18) fun r19 =>
 ob (binA Pg .neq 3 true r19 (I 6)) fun r20 =>
 cndA r20
 (ob (bldA [] [(I 0), (S ⟨#[]⟩), (S ⟨#[]⟩), (I 0), (I 0), (AV.sl 0 true .full [])]) fun r21 =>
 ob (sizedA 6 r21) fun b22 =>
 ob (spliceA 0 b22 x2) fun b23 =>
 ob (partA true 0 6 b23) fun r24 =>
 Q (AV.tup [r24, (B false)]) H)
 (ob (partA true 0 6 b18) fun r25 =>
 ob (sizedA 6 r25) fun b26 =>
 ob (spliceA 0 b26 x2) fun b27 =>
 ob (partA true 0 6 b27) fun r28 =>
 Q (AV.tup [r28, (B true)]) H)) :=
  (AtJ_eq Pg Hs 29 [1, 0, 1] Q _ H).trans (by kernel_rfl)
theorem f29_eq (a0 : AV) (H : Heap) (Q : Post) : E 29 [a0] H Q =
 ob (sizedA 6 a0) fun b1 =>
 ob (partA false 0 1 b1) fun r2 =>
 ob (binA Pg .neq 3 true r2 (I 2)) fun r3 =>
 cndA r3
 (f29_j5 b1 [(I 0), (S ⟨#[]⟩), (S ⟨#[]⟩), (I 0), (I 0), (AV.sl 0 true .full [])] (B true) H Q)
 (ob (partA false 5 1 b1) fun r4 =>
 ob (lenA r4) fun r5 =>
 ob (binA Pg .eql 3 true r5 (I 0)) fun r6 =>
 f29_j5 b1 [(I 0), (S ⟨#[]⟩), (S ⟨#[]⟩), (I 0), (I 0), (AV.sl 0 true .full [])] r6 H Q) :=
  Ev_eq.trans (by kernel_rfl)
/-! ### 30 haruspex/resid.far -/
def f30_j4 (x2 : AV) (H : Heap) (Q : Post) : Prop := AtJ Pg Hs 30 [1, 1] Q [(2, .val x2)] H
theorem f30_j4_eq (x2 : AV) (H : Heap) (Q : Post) : f30_j4 x2 H Q =
 Q x2 H :=
  (AtJ_eq Pg Hs 30 [1, 1] Q _ H).trans (by kernel_rfl)
theorem f30_eq (a0 : AV) (H : Heap) (Q : Post) : E 30 [a0] H Q =
 ob (sizedA 6 a0) fun b1 =>
 ob (partA true 0 6 b1) fun r2 =>
 E 40 [r2] H fun r3 H4 =>
 ob (binA Pg .gtr 3 true r3 (I 64)) fun r5 =>
 cndA r5
 (f30_j4 (B true) H4 Q)
 (ob (partA true 0 6 b1) fun r6 =>
 E 41 [r6] H4 fun r7 H8 =>
 ob (binA Pg .gtr 3 true r7 (I 8)) fun r9 =>
 f30_j4 r9 H8 Q) :=
  Ev_eq.trans (by kernel_rfl)
/-! ### 31 haruspex/resid.together -/
def f31_j14 (x0 : AV) (x1 : AV) (x4 : List AV) (x13 : AV) (H : Heap) (Q : Post) : Prop := AtJ Pg Hs 31 [1, 1, 0, 0, 1, 1, 1] Q [(0, .val x0), (1, .val x1), (4, .lbox x4), (13, .val x13)] H
theorem f31_j14_eq (x0 : AV) (x1 : AV) (x4 : List AV) (x13 : AV) (H : Heap) (Q : Post) : f31_j14 x0 x1 x4 x13 H Q =
 cndA x13
 (ob (ixaA 6 x1 (I 0)) fun c17 =>
 ob (partA true 0 6 c17) fun r18 =>
 ob (sizedA 6 r18) fun b19 =>
 ob (spliceA 0 b19 x4) fun b20 =>
 ob (partA true 0 6 b20) fun r21 =>
 Q r21 H)
 (ob (bldA [(0, 1, x0), (5, 1, x1)] [(I 0), (S ⟨#[]⟩), (S ⟨#[]⟩), (I 0), (I 0), (AV.sl 0 true .full [])]) fun r22 =>
 ob (sizedA 6 r22) fun b23 =>
 ob (spliceA 0 b23 x4) fun b24 =>
 ob (partA true 0 6 b24) fun r25 =>
 Q r25 H) :=
  (AtJ_eq Pg Hs 31 [1, 1, 0, 0, 1, 1, 1] Q _ H).trans (by kernel_rfl)
theorem f31_eq (a0 a1 : AV) (H : Heap) (Q : Post) : E 31 [a0, a1] H Q =
 E 43 [a1] H fun r1 H2 =>
 E 42 [r1, (AV.fn (.func 44) [] [])] H2 fun r3 H4 =>
 ob (lenA r3) fun r5 =>
 ob (binA Pg .eql 3 true r5 (I 0)) fun r6 =>
 cndA r6
 (E 45 [] H4 fun r7 H8 =>
 ob (sizedA 6 r7) fun b9 =>
 ob (spliceA 0 b9 [(I 0), (S ⟨#[]⟩), (S ⟨#[]⟩), (I 0), (I 0), (AV.sl 0 true .full [])]) fun b10 =>
 ob (partA true 0 6 b10) fun r11 =>
 Q r11 H8)
 (ob (lenA r3) fun r12 =>
 ob (binA Pg .eql 3 true r12 (I 1)) fun r13 =>
 cndA r13
 (ob (ixaA 6 r3 (I 0)) fun c14 =>
 ob (partA false 0 1 (c14.drop 0)) fun r15 =>
 ob (binA Pg .neq 3 true r15 (I 6)) fun r16 =>
 f31_j14 a0 r3 [(I 0), (S ⟨#[]⟩), (S ⟨#[]⟩), (I 0), (I 0), (AV.sl 0 true .full [])] r16 H4 Q)
 (f31_j14 a0 r3 [(I 0), (S ⟨#[]⟩), (S ⟨#[]⟩), (I 0), (I 0), (AV.sl 0 true .full [])] (B false) H4 Q)) :=
  Ev_eq.trans (by kernel_rfl)
/-! ### 32 slices.IndexFunc[[]haruspex/run.Run,haruspex/run.Run] -/
def f32_l6 (x0 : AV) (x1 : AV) (x7 : AV) (x8 : AV) (H : Heap) (Q : Post) : Prop := AtF Pg Hs 32 [1, 0, 1, 0] Q [(0, .val x0), (1, .val x1), (7, .val x7), (8, .val x8)] H
theorem f32_l6_eq (x0 : AV) (x1 : AV) (x7 : AV) (x8 : AV) (H : Heap) (Q : Post) : f32_l6 x0 x1 x7 x8 H Q =
 ob (binA Pg .lss 3 false x8 x7) fun r2 =>
 cndA r2
 (ob (ixaA 7 x0 x8) fun c3 =>
 ob (partA true 0 7 c3) fun r4 =>
 callA (Ev Pg Hs) x1 [r4] H fun r5 H6 =>
 cndA r5
 (Q x8 H6)
 (ob (binA Pg .add 3 true x8 (I 1)) fun r7 =>
 f32_l6 x0 x1 x7 r7 H6 Q))
 (Q (I (-1)) H) :=
  (AtF_eq Pg Hs 32 [1, 0, 1, 0] Q _ H).trans (by kernel_rfl)
theorem f32_eq (a0 a1 : AV) (H : Heap) (Q : Post) : E 32 [a0, a1] H Q =
 ob (lenA a0) fun r1 =>
 f32_l6 a0 a1 r1 (I 0) H Q :=
  Ev_eq.trans (by kernel_rfl)
/-! ### 33 haruspex/schema.Find -/
theorem f33_eq (a0 a1 : AV) (H : Heap) (Q : Post) : E 33 [a0, a1] H Q =
 ob (sizedA 1 a1) fun b1 =>
 newH H b1 fun r2 H3 =>
 E 46 [a0, (AV.fn (.func 47) [] [r2])] H3 fun r4 H5 =>
 ob (max2A r4 (I 0)) fun r6 =>
 ob (binA Pg .geq 3 true r4 (I 0)) fun r7 =>
 Q (AV.tup [r6, r7]) H5 :=
  Ev_eq.trans (by kernel_rfl)
/-! ### 34 slices.IndexFunc[[]haruspex/api.Field,haruspex/api.Field] -/
def f34_l6 (x0 : AV) (x1 : AV) (x7 : AV) (x8 : AV) (H : Heap) (Q : Post) : Prop := AtF Pg Hs 34 [1, 0, 1, 0] Q [(0, .val x0), (1, .val x1), (7, .val x7), (8, .val x8)] H
theorem f34_l6_eq (x0 : AV) (x1 : AV) (x7 : AV) (x8 : AV) (H : Heap) (Q : Post) : f34_l6 x0 x1 x7 x8 H Q =
 ob (binA Pg .lss 3 false x8 x7) fun r2 =>
 cndA r2
 (ob (ixaA 2 x0 x8) fun c3 =>
 ob (partA true 0 2 c3) fun r4 =>
 callA (Ev Pg Hs) x1 [r4] H fun r5 H6 =>
 cndA r5
 (Q x8 H6)
 (ob (binA Pg .add 3 true x8 (I 1)) fun r7 =>
 f34_l6 x0 x1 x7 r7 H6 Q))
 (Q (I (-1)) H) :=
  (AtF_eq Pg Hs 34 [1, 0, 1, 0] Q _ H).trans (by kernel_rfl)
theorem f34_eq (a0 a1 : AV) (H : Heap) (Q : Post) : E 34 [a0, a1] H Q =
 ob (lenA a0) fun r1 =>
 f34_l6 a0 a1 r1 (I 0) H Q :=
  Ev_eq.trans (by kernel_rfl)
/-! ### 35 haruspex/schema.Field$1 -/
theorem f35_eq (a0 a1 : AV) (H : Heap) (Q : Post) : E 35 [a0, a1] H Q =
 ob (sizedA 2 a0) fun b1 =>
 ob (partA false 0 1 b1) fun r2 =>
 ob (ldH H false 1 a1) fun r3 =>
 ob (binA Pg .eql 9 false r2 r3) fun r4 =>
 Q r4 H :=
  Ev_eq.trans (by kernel_rfl)
/-! ### 36 haruspex/schema.Check$1 -/
def f36_c1_9a (x1 : AV) (x2 : List AV) (H : Heap) (Q : Post) : Prop := AtJ Pg Hs 36 [1, 0, 9] Q [(1, .val x1), (2, .lbox x2), (12, .val (B true))] H
def f36_c1_9b (x1 : AV) (x2 : List AV) (x12 : AV) (H : Heap) (Q : Post) : Prop := AtJ Pg Hs 36 [1, 0, 9] Q [(1, .val x1), (2, .lbox x2), (12, .val x12)] H
def f36_c1_14a (x1 : AV) (x2 : List AV) (H : Heap) (Q : Post) : Prop := AtJ Pg Hs 36 [1, 0, 14] Q [(1, .val x1), (2, .lbox x2), (17, .val (B true))] H
def f36_c1_14b (x1 : AV) (x2 : List AV) (x17 : AV) (H : Heap) (Q : Post) : Prop := AtJ Pg Hs 36 [1, 0, 14] Q [(1, .val x1), (2, .lbox x2), (17, .val x17)] H
def f36_c1_20a (x2 : List AV) (H : Heap) (Q : Post) : Prop := AtJ Pg Hs 36 [1, 0, 20] Q [(2, .lbox x2), (23, .val (B true))] H
def f36_c1_20b (x2 : List AV) (x23 : AV) (H : Heap) (Q : Post) : Prop := AtJ Pg Hs 36 [1, 0, 20] Q [(2, .lbox x2), (23, .val x23)] H
def f36_j4 (x3 : AV) (H : Heap) (Q : Post) : Prop := AtJ Pg Hs 36 [1, 1] Q [(3, .val x3)] H
theorem f36_c1_9a_eq (x1 : AV) (x2 : List AV) (H : Heap) (Q : Post) : f36_c1_9a x1 x2 H Q =
 f36_c1_14a x1 x2 H Q :=
  (AtJ_eq Pg Hs 36 [1, 0, 9] Q _ H).trans (by kernel_rfl)
theorem f36_c1_9b_eq (x1 : AV) (x2 : List AV) (x12 : AV) (H : Heap) (Q : Post) : f36_c1_9b x1 x2 x12 H Q =
 cndA x12
 (f36_c1_14a x1 x2 H Q)
 (ob (partA false 1 1 x2) fun r8 =>
 ob (binA Pg .gtr 3 true r8 (I 3)) fun r9 =>
 f36_c1_14b x1 x2 r9 H Q) :=
  (AtJ_eq Pg Hs 36 [1, 0, 9] Q _ H).trans (by kernel_rfl)
theorem f36_c1_14a_eq (x1 : AV) (x2 : List AV) (H : Heap) (Q : Post) : f36_c1_14a x1 x2 H Q =
 f36_c1_20a x2 H Q :=
  (AtJ_eq Pg Hs 36 [1, 0, 14] Q _ H).trans (by kernel_rfl)
theorem f36_c1_14b_eq (x1 : AV) (x2 : List AV) (x17 : AV) (H : Heap) (Q : Post) : f36_c1_14b x1 x2 x17 H Q =
 cndA x17
 (f36_c1_20a x2 H Q)
 (ob (ldH H false 1 x1) fun r10 =>
 ob (partA false 0 1 x2) fun r11 =>
 E 27 [r10, r11] H fun r12 H13 =>
 f36_c1_20b x2 r12 H13 Q) :=
  (AtJ_eq Pg Hs 36 [1, 0, 14] Q _ H).trans (by kernel_rfl)
theorem f36_c1_20a_eq (x2 : List AV) (H : Heap) (Q : Post) : f36_c1_20a x2 H Q =
 f36_j4 (B true) H Q :=
  (AtJ_eq Pg Hs 36 [1, 0, 20] Q _ H).trans (by kernel_rfl)
theorem f36_c1_20b_eq (x2 : List AV) (x23 : AV) (H : Heap) (Q : Post) : f36_c1_20b x2 x23 H Q =
 f36_j4 x23 H Q :=
  (AtJ_eq Pg Hs 36 [1, 0, 20] Q _ H).trans (by kernel_rfl)
theorem f36_j4_eq (x3 : AV) (H : Heap) (Q : Post) : f36_j4 x3 H Q =
 Q x3 H :=
  (AtJ_eq Pg Hs 36 [1, 1] Q _ H).trans (by kernel_rfl)
theorem f36_eq (a0 a1 : AV) (H : Heap) (Q : Post) : E 36 [a0, a1] H Q =
 ob (sizedA 2 a0) fun b1 =>
 ob (partA false 0 1 b1) fun r2 =>
 E 37 [r2] H fun r3 H4 =>
 ob (unA .not r3) fun r5 =>
 cndA r5
 (f36_c1_9a a1 b1 H4 Q)
 (ob (partA false 1 1 b1) fun r6 =>
 ob (binA Pg .lss 3 true r6 (I 1)) fun r7 =>
 f36_c1_9b a1 b1 r7 H4 Q) :=
  Ev_eq.trans (by kernel_rfl)
/-! ### 37 haruspex/word.Name -/
def f37_l6 (x0 : AV) (x6 : AV) (H : Heap) (Q : Post) : Prop := AtF Pg Hs 37 [1, 0, 1, 0] Q [(0, .val x0), (6, .val x6)] H
def f37_j18 (x0 : AV) (x6 : AV) (x22 : AV) (H : Heap) (Q : Post) : Prop := AtJ Pg Hs 37 [1, 0, 1, 0, 0, 1, 1, 0, 1, 1] Q [(0, .val x0), (6, .val x6), (22, .val x22)] H
def f37_j25 (x2 : AV) (H : Heap) (Q : Post) : Prop := AtJ Pg Hs 37 [1, 1, 1] Q [(2, .val x2)] H
theorem f37_l6_eq (x0 : AV) (x6 : AV) (H : Heap) (Q : Post) : f37_l6 x0 x6 H Q =
 nextA x6 H fun r3 H4 =>
 ob (extractA r3 0) fun r5 =>
 cndA r5
 (ob (extractA r3 1) fun r6 =>
 ob (extractA r3 2) fun r7 =>
 E 48 [r7] H4 fun r8 H9 =>
 ob (unA .not r8) fun r10 =>
 cndA r10
 (f37_j18 x0 x6 (B true) H9 Q)
 (ob (binA Pg .eql 3 true r6 (I 0)) fun r11 =>
 cndA r11
 (E 49 [r7] H9 fun r12 H13 =>
 ob (unA .not r12) fun r14 =>
 f37_j18 x0 x6 r14 H13 Q)
 (f37_j18 x0 x6 (B false) H9 Q)))
 (ob (binA Pg .neq 9 true x0 (S ⟨#[]⟩)) fun r15 =>
 cndA r15
 (ob (lenSA x0) fun r16 =>
 ob (binA Pg .leq 3 true r16 (I 32)) fun r17 =>
 f37_j25 r17 H4 Q)
 (f37_j25 (B false) H4 Q)) :=
  (AtF_eq Pg Hs 37 [1, 0, 1, 0] Q _ H).trans (by kernel_rfl)
theorem f37_j18_eq (x0 : AV) (x6 : AV) (x22 : AV) (H : Heap) (Q : Post) : f37_j18 x0 x6 x22 H Q =
 cndA x22
 (Q (B false) H)
 (f37_l6 x0 x6 H Q) :=
  (AtJ_eq Pg Hs 37 [1, 0, 1, 0, 0, 1, 1, 0, 1, 1] Q _ H).trans (by kernel_rfl)
theorem f37_j25_eq (x2 : AV) (H : Heap) (Q : Post) : f37_j25 x2 H Q =
 Q x2 H :=
  (AtJ_eq Pg Hs 37 [1, 1, 1] Q _ H).trans (by kernel_rfl)
theorem f37_eq (a0 : AV) (H : Heap) (Q : Post) : E 37 [a0] H Q =
 rngA a0 H fun r1 H2 =>
 f37_l6 a0 r1 H2 Q :=
  Ev_eq.trans (by kernel_rfl)
/-! ### 38 slices.ContainsFunc[[]haruspex/api.Field,haruspex/api.Field] -/
theorem f38_eq (a0 a1 : AV) (H : Heap) (Q : Post) : E 38 [a0, a1] H Q =
 E 34 [a0, a1] H fun r1 H2 =>
 ob (binA Pg .geq 3 true r1 (I 0)) fun r3 =>
 Q r3 H2 :=
  Ev_eq.trans (by kernel_rfl)
/-! ### 39 haruspex/value.Right -/
def f39_j17 (x2 : AV) (H : Heap) (Q : Post) : Prop := AtJ Pg Hs 39 [1, 0, 1, 0, 1, 1, 1, 0, 1] Q [(2, .val x2)] H
def f39_j29 (x2 : AV) (H : Heap) (Q : Post) : Prop := AtJ Pg Hs 39 [1, 0, 1, 0, 1, 1, 1, 1, 1, 1, 1, 0, 1] Q [(2, .val x2)] H
theorem f39_j17_eq (x2 : AV) (H : Heap) (Q : Post) : f39_j17 x2 H Q =
 Q x2 H :=
  (AtJ_eq Pg Hs 39 [1, 0, 1, 0, 1, 1, 1, 0, 1] Q _ H).trans (by kernel_rfl)
theorem f39_j29_eq (x2 : AV) (H : Heap) (Q : Post) : f39_j29 x2 H Q =
 Q x2 H :=
  (AtJ_eq Pg Hs 39 [1, 0, 1, 0, 1, 1, 1, 1, 1, 1, 1, 0, 1] Q _ H).trans (by kernel_rfl)
theorem f39_eq (a0 : AV) (H : Heap) (Q : Post) : E 39 [a0] H Q =
 ob (sizedA 3 a0) fun b1 =>
 ob (partA false 0 1 b1) fun r2 =>
 ob (binA Pg .eql 3 true r2 (I 0)) fun r3 =>
 cndA r3
 (ob (partA true 0 3 b1) fun r4 =>
 ob (bldA [] [(I 0), (I 0), (S ⟨#[]⟩)]) fun r5 =>
 ob (binA Pg .eql 82 false r4 r5) fun r6 =>
 Q r6 H)
 (ob (binA Pg .eql 3 true r2 (I 1)) fun r7 =>
 cndA r7
 (ob (partA false 2 1 b1) fun r8 =>
 ob (binA Pg .eql 9 true r8 (S ⟨#[]⟩)) fun r9 =>
 cndA r9
 (ob (partA false 1 1 b1) fun r10 =>
 ob (binA Pg .andNot 2 true r10 (I 1)) fun r11 =>
 ob (binA Pg .eql 2 true r11 (I 0)) fun r12 =>
 f39_j17 r12 H Q)
 (f39_j17 (B false) H Q))
 (ob (binA Pg .eql 3 true r2 (I 2)) fun r13 =>
 cndA r13
 (ob (partA false 2 1 b1) fun r14 =>
 ob (binA Pg .eql 9 true r14 (S ⟨#[]⟩)) fun r15 =>
 Q r15 H)
 (ob (binA Pg .eql 3 true r2 (I 3)) fun r16 =>
 cndA r16
 (ob (partA false 1 1 b1) fun r17 =>
 ob (binA Pg .eql 2 true r17 (I 0)) fun r18 =>
 cndA r18
 (ob (partA false 2 1 b1) fun r19 =>
 ob (lenSA r19) fun r20 =>
 ob (binA Pg .leq 3 true r20 (I 256)) fun r21 =>
 f39_j29 r21 H Q)
 (f39_j29 (B false) H Q))
 (Q (B false) H)))) :=
  Ev_eq.trans (by kernel_rfl)
/-! ### 40 haruspex/pat.Size -/
noncomputable def f40_L8 (y3 : AV) : LoopInfo := loopF Pg Hs 40 [1, 1, 0, 1, 0] 8 [(3, .val y3)]
def f40_j12 (x3 : AV) (H : Heap) (Q : Post) : Prop := AtJ Pg Hs 40 [1, 1, 1] Q [(3, .val x3)] H
theorem f40_j12_eq (x3 : AV) (H : Heap) (Q : Post) : f40_j12 x3 H Q =
 ob (ldH H false 1 x3) fun r13 =>
 Q r13 H :=
  (AtJ_eq Pg Hs 40 [1, 1, 1] Q _ H).trans (by kernel_rfl)
theorem f40_y8_eq (y3 : AV) (l : Nat) (a0 : AV) (H : Heap) (Q : Post) : EY Pg Hs (f40_L8 y3) l [a0] H Q =
 beginA l H fun H14 =>
 ob (ldH H14 false 1 y3) fun r15 =>
 ob (binA Pg .add 3 true r15 (I 1)) fun r16 =>
 ob (stH H14 1 y3 r16) fun H17 =>
 endA l H17 true .ready Q := by kernel_rfl
theorem f40_eq (a0 : AV) (H : Heap) (Q : Post) : E 40 [a0] H Q =
 ob (sizedA 6 a0) fun b1 =>
 newH H [(I 0)] fun r2 H3 =>
 ob (stH H3 1 r2 (I 0)) fun H4 =>
 ob (partA true 0 6 b1) fun r5 =>
 E 50 [r5] H4 fun r6 H7 =>
 aroundA none H7 ∧ rngF (Ev Pg Hs) r6 (f40_L8 r2) H7 fun l8 H9 =>
 overA l8 H9 (fun H10 =>
 f40_j12 r2 H10 Q) (fun j H11 =>
 exA j 0 (f40_j12 r2 H11 Q) (False)) (fun H12 =>
 Q (I 0) H12) :=
  Ev_eq.trans (by kernel_rfl)
/-! ### 41 haruspex/pat.Deep -/
noncomputable def f41_L8 (y3 : AV) : LoopInfo := loopF Pg Hs 41 [1, 1, 0, 1, 0] 8 [(3, .val y3)]
def f41_j12 (x3 : AV) (H : Heap) (Q : Post) : Prop := AtJ Pg Hs 41 [1, 1, 1] Q [(3, .val x3)] H
theorem f41_j12_eq (x3 : AV) (H : Heap) (Q : Post) : f41_j12 x3 H Q =
 ob (ldH H false 1 x3) fun r13 =>
 Q r13 H :=
  (AtJ_eq Pg Hs 41 [1, 1, 1] Q _ H).trans (by kernel_rfl)
theorem f41_y8_eq (y3 : AV) (l : Nat) (a0 : AV) (H : Heap) (Q : Post) : EY Pg Hs (f41_L8 y3) l [a0] H Q =
 ob (sizedA 7 a0) fun b14 =>
 ob (spliceA 0 b14 [(I 0), (S ⟨#[]⟩), (S ⟨#[]⟩), (I 0), (I 0), (AV.sl 0 true .full []), (I 0)]) fun b15 =>
 beginA l H fun H16 =>
 ob (ldH H16 false 1 y3) fun r17 =>
 ob (partA false 6 1 b15) fun r18 =>
 ob (max2A r17 r18) fun r19 =>
 ob (stH H16 1 y3 r19) fun H20 =>
 endA l H20 true .ready Q := by kernel_rfl
theorem f41_eq (a0 : AV) (H : Heap) (Q : Post) : E 41 [a0] H Q =
 ob (sizedA 6 a0) fun b1 =>
 newH H [(I 0)] fun r2 H3 =>
 ob (stH H3 1 r2 (I 0)) fun H4 =>
 ob (partA true 0 6 b1) fun r5 =>
 E 50 [r5] H4 fun r6 H7 =>
 aroundA none H7 ∧ rngF (Ev Pg Hs) r6 (f41_L8 r2) H7 fun l8 H9 =>
 overA l8 H9 (fun H10 =>
 f41_j12 r2 H10 Q) (fun j H11 =>
 exA j 0 (f41_j12 r2 H11 Q) (False)) (fun H12 =>
 Q (I 0) H12) :=
  Ev_eq.trans (by kernel_rfl)
/-! ### 43 slices.Clone[[]haruspex/api.Pat,haruspex/api.Pat] -/
theorem f43_eq (a0 : AV) (H : Heap) (Q : Post) : E 43 [a0] H Q =
 ob (binA Pg .eql 22 true a0 (AV.sl 0 true .full [])) fun r1 =>
 cndA r1
 (Q (AV.sl 0 true .full []) H)
 (ob (mkSlA 6 []) fun r2 =>
 appA 6 80 r2 a0 H fun r3 H4 =>
 Q r3 H4) :=
  Ev_eq.trans (by kernel_rfl)
/-! ### 44 haruspex/resid.isEnd -/
def f44_j4 (x2 : AV) (H : Heap) (Q : Post) : Prop := AtJ Pg Hs 44 [1, 1] Q [(2, .val x2)] H
theorem f44_j4_eq (x2 : AV) (H : Heap) (Q : Post) : f44_j4 x2 H Q =
 Q x2 H :=
  (AtJ_eq Pg Hs 44 [1, 1] Q _ H).trans (by kernel_rfl)
theorem f44_eq (a0 : AV) (H : Heap) (Q : Post) : E 44 [a0] H Q =
 ob (sizedA 6 a0) fun b1 =>
 ob (partA false 0 1 b1) fun r2 =>
 ob (binA Pg .eql 3 true r2 (I 2)) fun r3 =>
 cndA r3
 (ob (partA false 5 1 b1) fun r4 =>
 ob (lenA r4) fun r5 =>
 ob (binA Pg .eql 3 true r5 (I 0)) fun r6 =>
 f44_j4 r6 H Q)
 (f44_j4 (B false) H Q) :=
  Ev_eq.trans (by kernel_rfl)
/-! ### 45 haruspex/resid.end -/
theorem f45_eq (_u : Unit := ()) (H : Heap) (Q : Post) : E 45 [] H Q =
 ob (bldA [(0, 1, (I 2))] [(I 0), (S ⟨#[]⟩), (S ⟨#[]⟩), (I 0), (I 0), (AV.sl 0 true .full [])]) fun r1 =>
 ob (sizedA 6 r1) fun b2 =>
 ob (spliceA 0 b2 [(I 0), (S ⟨#[]⟩), (S ⟨#[]⟩), (I 0), (I 0), (AV.sl 0 true .full [])]) fun b3 =>
 ob (partA true 0 6 b3) fun r4 =>
 Q r4 H :=
  Ev_eq.trans (by kernel_rfl)
/-! ### 46 slices.IndexFunc[[]haruspex/api.Schema,haruspex/api.Schema] -/
def f46_l6 (x0 : AV) (x1 : AV) (x7 : AV) (x8 : AV) (H : Heap) (Q : Post) : Prop := AtF Pg Hs 46 [1, 0, 1, 0] Q [(0, .val x0), (1, .val x1), (7, .val x7), (8, .val x8)] H
theorem f46_l6_eq (x0 : AV) (x1 : AV) (x7 : AV) (x8 : AV) (H : Heap) (Q : Post) : f46_l6 x0 x1 x7 x8 H Q =
 ob (binA Pg .lss 3 false x8 x7) fun r2 =>
 cndA r2
 (ob (ixaA 2 x0 x8) fun c3 =>
 ob (partA true 0 2 c3) fun r4 =>
 callA (Ev Pg Hs) x1 [r4] H fun r5 H6 =>
 cndA r5
 (Q x8 H6)
 (ob (binA Pg .add 3 true x8 (I 1)) fun r7 =>
 f46_l6 x0 x1 x7 r7 H6 Q))
 (Q (I (-1)) H) :=
  (AtF_eq Pg Hs 46 [1, 0, 1, 0] Q _ H).trans (by kernel_rfl)
theorem f46_eq (a0 a1 : AV) (H : Heap) (Q : Post) : E 46 [a0, a1] H Q =
 ob (lenA a0) fun r1 =>
 f46_l6 a0 a1 r1 (I 0) H Q :=
  Ev_eq.trans (by kernel_rfl)
/-! ### 47 haruspex/schema.Find$1 -/
theorem f47_eq (a0 a1 : AV) (H : Heap) (Q : Post) : E 47 [a0, a1] H Q =
 ob (sizedA 2 a0) fun b1 =>
 ob (partA false 0 1 b1) fun r2 =>
 ob (ldH H false 1 a1) fun r3 =>
 ob (binA Pg .eql 9 false r2 r3) fun r4 =>
 Q r4 H :=
  Ev_eq.trans (by kernel_rfl)
/-! ### 48 haruspex/word.isSign -/
def f48_j4 (x2 : AV) (H : Heap) (Q : Post) : Prop := AtJ Pg Hs 48 [1, 1] Q [(2, .val x2)] H
theorem f48_j4_eq (x2 : AV) (H : Heap) (Q : Post) : f48_j4 x2 H Q =
 Q x2 H :=
  (AtJ_eq Pg Hs 48 [1, 1] Q _ H).trans (by kernel_rfl)
theorem f48_eq (a0 : AV) (H : Heap) (Q : Post) : E 48 [a0] H Q =
 E 49 [a0] H fun r1 H2 =>
 cndA r1
 (f48_j4 (B true) H2 Q)
 (E 52 [a0] H2 fun r3 H4 =>
 cndA r3
 (f48_j4 (B true) H4 Q)
 (ob (binA Pg .eql 21 true a0 (AV.raw (.int .i32 95))) fun r5 =>
 f48_j4 r5 H4 Q)) :=
  Ev_eq.trans (by kernel_rfl)
/-! ### 49 haruspex/word.isLower -/
def f49_j4 (x2 : AV) (H : Heap) (Q : Post) : Prop := AtJ Pg Hs 49 [1, 1] Q [(2, .val x2)] H
theorem f49_j4_eq (x2 : AV) (H : Heap) (Q : Post) : f49_j4 x2 H Q =
 Q x2 H :=
  (AtJ_eq Pg Hs 49 [1, 1] Q _ H).trans (by kernel_rfl)
theorem f49_eq (a0 : AV) (H : Heap) (Q : Post) : E 49 [a0] H Q =
 ob (binA Pg .geq 21 true a0 (AV.raw (.int .i32 97))) fun r1 =>
 cndA r1
 (ob (binA Pg .leq 21 true a0 (AV.raw (.int .i32 122))) fun r2 =>
 f49_j4 r2 H Q)
 (f49_j4 (B false) H Q) :=
  Ev_eq.trans (by kernel_rfl)
/-! ### 50 haruspex/pat.nodes -/
theorem f50_eq (a0 : AV) (H : Heap) (Q : Post) : E 50 [a0] H Q =
 ob (sizedA 6 a0) fun b1 =>
 newH H b1 fun r2 H3 =>
 Q (AV.fn (.func 53) [] [r2]) H3 :=
  Ev_eq.trans (by kernel_rfl)
/-! ### 51 slices.IndexFunc[[]haruspex/api.Pat,haruspex/api.Pat] -/
def f51_l6 (x0 : AV) (x1 : AV) (x7 : AV) (x8 : AV) (H : Heap) (Q : Post) : Prop := AtF Pg Hs 51 [1, 0, 1, 0] Q [(0, .val x0), (1, .val x1), (7, .val x7), (8, .val x8)] H
theorem f51_l6_eq (x0 : AV) (x1 : AV) (x7 : AV) (x8 : AV) (H : Heap) (Q : Post) : f51_l6 x0 x1 x7 x8 H Q =
 ob (binA Pg .lss 3 false x8 x7) fun r2 =>
 cndA r2
 (ob (ixaA 6 x0 x8) fun c3 =>
 ob (partA true 0 6 c3) fun r4 =>
 callA (Ev Pg Hs) x1 [r4] H fun r5 H6 =>
 cndA r5
 (Q x8 H6)
 (ob (binA Pg .add 3 true x8 (I 1)) fun r7 =>
 f51_l6 x0 x1 x7 r7 H6 Q))
 (Q (I (-1)) H) :=
  (AtF_eq Pg Hs 51 [1, 0, 1, 0] Q _ H).trans (by kernel_rfl)
theorem f51_eq (a0 a1 : AV) (H : Heap) (Q : Post) : E 51 [a0, a1] H Q =
 ob (lenA a0) fun r1 =>
 f51_l6 a0 a1 r1 (I 0) H Q :=
  Ev_eq.trans (by kernel_rfl)
/-! ### 52 haruspex/word.isDigit -/
def f52_j4 (x2 : AV) (H : Heap) (Q : Post) : Prop := AtJ Pg Hs 52 [1, 1] Q [(2, .val x2)] H
theorem f52_j4_eq (x2 : AV) (H : Heap) (Q : Post) : f52_j4 x2 H Q =
 Q x2 H :=
  (AtJ_eq Pg Hs 52 [1, 1] Q _ H).trans (by kernel_rfl)
theorem f52_eq (a0 : AV) (H : Heap) (Q : Post) : E 52 [a0] H Q =
 ob (binA Pg .geq 21 true a0 (AV.raw (.int .i32 48))) fun r1 =>
 cndA r1
 (ob (binA Pg .leq 21 true a0 (AV.raw (.int .i32 57))) fun r2 =>
 f52_j4 r2 H Q)
 (f52_j4 (B false) H Q) :=
  Ev_eq.trans (by kernel_rfl)
/-! ### 53 haruspex/pat.nodes$1 -/
theorem f53_eq (a0 a1 : AV) (H : Heap) (Q : Post) : E 53 [a0, a1] H Q =
 ob (sizedA 1 a0) fun b1 =>
 newH H b1 fun r2 H3 =>
 newH H3 [(AV.raw .nilFunc)] fun r4 H5 =>
 ob (stH H5 1 r4 (AV.fn (.func 54) [] [r2, r4])) fun H6 =>
 ob (ldH H6 false 1 r4) fun r7 =>
 ob (ldH H6 true 6 a1) fun r8 =>
 ob (bldA [(0, 6, r8), (6, 1, (I 1))] [(I 0), (S ⟨#[]⟩), (S ⟨#[]⟩), (I 0), (I 0), (AV.sl 0 true .full []), (I 0)]) fun r9 =>
 callA (Ev Pg Hs) r7 [r9] H6 fun r10 H11 =>
 Q (AV.tup []) H11 :=
  Ev_eq.trans (by kernel_rfl)
/-! ### 54 haruspex/pat.nodes$1$1 -/
def f54_l14 (x2 : AV) (x3 : List AV) (x13 : AV) (x14 : AV) (x15 : AV) (H : Heap) (Q : Post) : Prop := AtF Pg Hs 54 [1, 1, 0, 1, 0] Q [(2, .val x2), (3, .lbox x3), (13, .val x13), (14, .val x14), (15, .val x15)] H
theorem f54_l14_eq (x2 : AV) (x3 : List AV) (x13 : AV) (x14 : AV) (x15 : AV) (H : Heap) (Q : Post) : f54_l14 x2 x3 x13 x14 x15 H Q =
 ob (binA Pg .lss 3 false x15 x14) fun r9 =>
 cndA r9
 (ob (ixaA 6 x13 x15) fun c10 =>
 ob (partA true 0 6 c10) fun r11 =>
 ob (sizedA 6 r11) fun b12 =>
 ob (spliceA 0 b12 [(I 0), (S ⟨#[]⟩), (S ⟨#[]⟩), (I 0), (I 0), (AV.sl 0 true .full [])]) fun b13 =>
 ob (ldH H false 1 x2) fun r14 =>
 ob (partA true 0 6 b13) fun r15 =>
 ob (partA false 6 1 x3) fun r16 =>
 ob (binA Pg .add 3 true r16 (I 1)) fun r17 =>
 ob (bldA [(0, 6, r15), (6, 1, r17)] [(I 0), (S ⟨#[]⟩), (S ⟨#[]⟩), (I 0), (I 0), (AV.sl 0 true .full []), (I 0)]) fun r18 =>
 callA (Ev Pg Hs) r14 [r18] H fun r19 H20 =>
 ob (unA .not r19) fun r21 =>
 cndA r21
 (Q (B false) H20)
 (ob (binA Pg .add 3 true x15 (I 1)) fun r22 =>
 f54_l14 x2 x3 x13 x14 r22 H20 Q))
 (Q (B true) H) :=
  (AtF_eq Pg Hs 54 [1, 1, 0, 1, 0] Q _ H).trans (by kernel_rfl)
theorem f54_eq (a0 a1 a2 : AV) (H : Heap) (Q : Post) : E 54 [a0, a1, a2] H Q =
 ob (sizedA 7 a0) fun b1 =>
 ob (ldH H false 1 a1) fun r2 =>
 ob (partA true 0 7 b1) fun r3 =>
 callA (Ev Pg Hs) r2 [r3] H fun r4 H5 =>
 ob (unA .not r4) fun r6 =>
 cndA r6
 (Q (B false) H5)
 (ob (partA false 5 1 b1) fun r7 =>
 ob (lenA r7) fun r8 =>
 f54_l14 a2 b1 r7 r8 (I 0) H5 Q) :=
  Ev_eq.trans (by kernel_rfl)
end Go.Hx
