/- Printed by gen.py (own work): each function as the abstract machine has it. -/
import Derived.Test.YtpmkfliolekedaaGreatS4H
import Derived.KernelRfl
set_option linter.unusedVariables false
namespace Go.Hx
/-! ### 104 haruspex/haruspexref12.nots -/
def f104_l6 (x1 : AV) (x2 : List AV) (x5 : AV) (H : Heap) (Q : Post) : Prop := AtF Pg Hs 104 [1, 0, 1, 0] Q [(1, .val x1), (2, .lbox x2), (5, .val x5)] H
def f104_c6_7a (x1 : AV) (x2 : List AV) (x5 : AV) (x6 : List AV) (H : Heap) (Q : Post) : Prop := AtJ Pg Hs 104 [1, 0, 1, 0, 0, 1, 0, 0, 1, 1, 0, 0, 7] Q [(1, .val x1), (2, .lbox x2), (5, .val x5), (6, .lbox x6), (28, .val (B true))] H
def f104_c6_7b (x1 : AV) (x2 : List AV) (x5 : AV) (x6 : List AV) (x28 : AV) (H : Heap) (Q : Post) : Prop := AtJ Pg Hs 104 [1, 0, 1, 0, 0, 1, 0, 0, 1, 1, 0, 0, 7] Q [(1, .val x1), (2, .lbox x2), (5, .val x5), (6, .lbox x6), (28, .val x28)] H
def f104_c6_17a (x1 : AV) (x2 : List AV) (x5 : AV) (x6 : List AV) (H : Heap) (Q : Post) : Prop := AtJ Pg Hs 104 [1, 0, 1, 0, 0, 1, 0, 0, 1, 1, 0, 0, 17] Q [(1, .val x1), (2, .lbox x2), (5, .val x5), (6, .lbox x6), (38, .val (B true))] H
def f104_c6_17b (x1 : AV) (x2 : List AV) (x5 : AV) (x6 : List AV) (x38 : AV) (H : Heap) (Q : Post) : Prop := AtJ Pg Hs 104 [1, 0, 1, 0, 0, 1, 0, 0, 1, 1, 0, 0, 17] Q [(1, .val x1), (2, .lbox x2), (5, .val x5), (6, .lbox x6), (38, .val x38)] H
def f104_c6_28a (x1 : AV) (x2 : List AV) (x5 : AV) (x6 : List AV) (H : Heap) (Q : Post) : Prop := AtJ Pg Hs 104 [1, 0, 1, 0, 0, 1, 0, 0, 1, 1, 0, 0, 28] Q [(1, .val x1), (2, .lbox x2), (5, .val x5), (6, .lbox x6), (39, .val (B true)), (49, .nov)] H
def f104_c6_28b (x1 : AV) (x2 : List AV) (x5 : AV) (x6 : List AV) (x49 : AV) (H : Heap) (Q : Post) : Prop := AtJ Pg Hs 104 [1, 0, 1, 0, 0, 1, 0, 0, 1, 1, 0, 0, 28] Q [(1, .val x1), (2, .lbox x2), (5, .val x5), (6, .lbox x6), (39, .val (B false)), (49, .val x49)] H
def f104_c6_28c (x1 : AV) (x2 : List AV) (x5 : AV) (x6 : List AV) (H : Heap) (Q : Post) : Prop := AtJ Pg Hs 104 [1, 0, 1, 0, 0, 1, 0, 0, 1, 1, 0, 0, 28] Q [(1, .val x1), (2, .lbox x2), (5, .val x5), (6, .lbox x6), (39, .val (B false)), (49, .val (B false))] H
def f104_j22 (x1 : AV) (x2 : List AV) (x5 : AV) (x50 : AV) (H : Heap) (Q : Post) : Prop := AtJ Pg Hs 104 [1, 0, 1, 0, 0, 1, 0, 0, 1, 1, 0, 1] Q [(1, .val x1), (2, .lbox x2), (5, .val x5), (50, .val x50)] H
theorem f104_l6_eq (x1 : AV) (x2 : List AV) (x5 : AV) (H : Heap) (Q : Post) : f104_l6 x1 x2 x5 H Q =
 ob (partA false 5 1 x2) fun r2 =>
 ob (lenA r2) fun r3 =>
 ob (binA Pg .lss 3 false x5 r3) fun r4 =>
 cndA r4
 (ob (partA false 5 1 x2) fun r5 =>
 ob (ixaA 6 r5 x5) fun c6 =>
 ob (partA true 0 6 c6) fun r7 =>
 ob (sizedA 6 r7) fun b8 =>
 ob (spliceA 0 b8 [(I 0), (S ⟨#[]⟩), (S ⟨#[]⟩), (I 0), (I 0), (AV.sl 0 true .full [])]) fun b9 =>
 ob (partA false 0 1 b9) fun r10 =>
 ob (binA Pg .eql 3 true r10 (I 6)) fun r11 =>
 cndA r11
 (ob (partA false 0 1 x2) fun r12 =>
 ob (binA Pg .neq 3 true r12 (I 2)) fun r13 =>
 cndA r13
 (f104_c6_7a x1 x2 x5 b9 H Q)
 (ob (binA Pg .eql 3 true x5 (I 0)) fun r14 =>
 f104_c6_7b x1 x2 x5 b9 r14 H Q))
 (ob (partA true 0 6 b9) fun r15 =>
 E 104 [r15, (B false)] H fun r16 H17 =>
 ob (unA .not r16) fun r18 =>
 cndA r18
 (Q (B false) H17)
 (ob (binA Pg .add 3 true x5 (I 1)) fun r19 =>
 f104_l6 x1 x2 r19 H17 Q)))
 (Q (B true) H) :=
  (AtF_eq Pg Hs 104 [1, 0, 1, 0] Q _ H).trans (by kernel_rfl)
theorem f104_c6_7a_eq (x1 : AV) (x2 : List AV) (x5 : AV) (x6 : List AV) (H : Heap) (Q : Post) : f104_c6_7a x1 x2 x5 x6 H Q =
 f104_c6_17a x1 x2 x5 x6 H Q :=
  (AtJ_eq Pg Hs 104 [1, 0, 1, 0, 0, 1, 0, 0, 1, 1, 0, 0, 7] Q _ H).trans (by kernel_rfl)
theorem f104_c6_7b_eq (x1 : AV) (x2 : List AV) (x5 : AV) (x6 : List AV) (x28 : AV) (H : Heap) (Q : Post) : f104_c6_7b x1 x2 x5 x6 x28 H Q =
 cndA x28
 (f104_c6_17a x1 x2 x5 x6 H Q)
 (ob (partA false 5 1 x2) fun r20 =>
 ob (binA Pg .sub 3 true x5 (I 1)) fun r21 =>
 ob (ixaA 6 r20 r21) fun c22 =>
 ob (partA false 0 1 (c22.drop 0)) fun r23 =>
 ob (binA Pg .eql 3 true r23 (I 6)) fun r24 =>
 f104_c6_17b x1 x2 x5 x6 r24 H Q) :=
  (AtJ_eq Pg Hs 104 [1, 0, 1, 0, 0, 1, 0, 0, 1, 1, 0, 0, 7] Q _ H).trans (by kernel_rfl)
theorem f104_c6_17a_eq (x1 : AV) (x2 : List AV) (x5 : AV) (x6 : List AV) (H : Heap) (Q : Post) : f104_c6_17a x1 x2 x5 x6 H Q =
 f104_c6_28a x1 x2 x5 x6 H Q :=
  (AtJ_eq Pg Hs 104 [1, 0, 1, 0, 0, 1, 0, 0, 1, 1, 0, 0, 17] Q _ H).trans (by kernel_rfl)
theorem f104_c6_17b_eq (x1 : AV) (x2 : List AV) (x5 : AV) (x6 : List AV) (x38 : AV) (H : Heap) (Q : Post) : f104_c6_17b x1 x2 x5 x6 x38 H Q =
 cndA x38
 (f104_c6_28a x1 x2 x5 x6 H Q)
 (ob (partA false 5 1 x2) fun r25 =>
 ob (lenA r25) fun r26 =>
 ob (binA Pg .sub 3 true r26 (I 1)) fun r27 =>
 ob (binA Pg .eql 3 false x5 r27) fun r28 =>
 cndA r28
 (ob (unA .not x1) fun r29 =>
 f104_c6_28b x1 x2 x5 x6 r29 H Q)
 (f104_c6_28c x1 x2 x5 x6 H Q)) :=
  (AtJ_eq Pg Hs 104 [1, 0, 1, 0, 0, 1, 0, 0, 1, 1, 0, 0, 17] Q _ H).trans (by kernel_rfl)
theorem f104_c6_28a_eq (x1 : AV) (x2 : List AV) (x5 : AV) (x6 : List AV) (H : Heap) (Q : Post) : f104_c6_28a x1 x2 x5 x6 H Q =
 f104_j22 x1 x2 x5 (B true) H Q :=
  (AtJ_eq Pg Hs 104 [1, 0, 1, 0, 0, 1, 0, 0, 1, 1, 0, 0, 28] Q _ H).trans (by kernel_rfl)
theorem f104_c6_28b_eq (x1 : AV) (x2 : List AV) (x5 : AV) (x6 : List AV) (x49 : AV) (H : Heap) (Q : Post) : f104_c6_28b x1 x2 x5 x6 x49 H Q =
 f104_j22 x1 x2 x5 x49 H Q :=
  (AtJ_eq Pg Hs 104 [1, 0, 1, 0, 0, 1, 0, 0, 1, 1, 0, 0, 28] Q _ H).trans (by kernel_rfl)
theorem f104_c6_28c_eq (x1 : AV) (x2 : List AV) (x5 : AV) (x6 : List AV) (H : Heap) (Q : Post) : f104_c6_28c x1 x2 x5 x6 H Q =
 f104_j22 x1 x2 x5 (B false) H Q :=
  (AtJ_eq Pg Hs 104 [1, 0, 1, 0, 0, 1, 0, 0, 1, 1, 0, 0, 28] Q _ H).trans (by kernel_rfl)
theorem f104_j22_eq (x1 : AV) (x2 : List AV) (x5 : AV) (x50 : AV) (H : Heap) (Q : Post) : f104_j22 x1 x2 x5 x50 H Q =
 cndA x50
 (Q (B false) H)
 (ob (binA Pg .add 3 true x5 (I 1)) fun r30 =>
 f104_l6 x1 x2 r30 H Q) :=
  (AtJ_eq Pg Hs 104 [1, 0, 1, 0, 0, 1, 0, 0, 1, 1, 0, 1] Q _ H).trans (by kernel_rfl)
theorem f104_eq (a0 a1 : AV) (H : Heap) (Q : Post) : E 104 [a0, a1] H Q =
 ob (sizedA 6 a0) fun b1 =>
 f104_l6 a1 b1 (I 0) H Q :=
  Ev_eq.trans (by kernel_rfl)
/-! ### 105 haruspex/haruspexref12.once -/
def f105_l6 (x1 : List AV) (x3 : AV) (H : Heap) (Q : Post) : Prop := AtF Pg Hs 105 [1, 0, 1, 0] Q [(1, .lbox x1), (3, .val x3)] H
def f105_l28 (x1 : List AV) (x3 : AV) (x4 : AV) (x5 : AV) (H : Heap) (Q : Post) : Prop := AtF Pg Hs 105 [1, 0, 1, 0, 0, 1, 0, 0, 1, 1, 1, 0] Q [(1, .lbox x1), (3, .val x3), (4, .val x4), (5, .val x5)] H
def f105_l42 (x1 : List AV) (x3 : AV) (x4 : AV) (x5 : AV) (x6 : AV) (x7 : AV) (H : Heap) (Q : Post) : Prop := AtF Pg Hs 105 [1, 0, 1, 0, 0, 1, 0, 0, 1, 1, 1, 0, 0, 1, 0, 0, 1, 1, 0] Q [(1, .lbox x1), (3, .val x3), (4, .val x4), (5, .val x5), (6, .val x6), (7, .val x7)] H
def f105_l54 (x1 : List AV) (x3 : AV) (x4 : AV) (x5 : AV) (x6 : AV) (x7 : AV) (x8 : AV) (H : Heap) (Q : Post) : Prop := AtF Pg Hs 105 [1, 0, 1, 0, 0, 1, 0, 0, 1, 1, 1, 0, 0, 1, 0, 0, 1, 1, 0, 0, 1, 0, 0, 1, 0] Q [(1, .lbox x1), (3, .val x3), (4, .val x4), (5, .val x5), (6, .val x6), (7, .val x7), (8, .val x8)] H
def f105_j65 (x1 : List AV) (x3 : AV) (x4 : AV) (x5 : AV) (x6 : AV) (x7 : AV) (x8 : AV) (x79 : AV) (H : Heap) (Q : Post) : Prop := AtJ Pg Hs 105 [1, 0, 1, 0, 0, 1, 0, 0, 1, 1, 1, 0, 0, 1, 0, 0, 1, 1, 0, 0, 1, 0, 0, 1, 0, 0, 1, 0, 0, 1] Q [(1, .lbox x1), (3, .val x3), (4, .val x4), (5, .val x5), (6, .val x6), (7, .val x7), (8, .val x8), (79, .val x79)] H
theorem f105_l6_eq (x1 : List AV) (x3 : AV) (H : Heap) (Q : Post) : f105_l6 x1 x3 H Q =
 ob (partA false 5 1 x1) fun r2 =>
 ob (lenA r2) fun r3 =>
 ob (binA Pg .lss 3 false x3 r3) fun r4 =>
 cndA r4
 (ob (partA false 5 1 x1) fun r5 =>
 ob (ixaA 6 r5 x3) fun c6 =>
 ob (partA true 0 6 c6) fun r7 =>
 E 105 [r7] H fun r8 H9 =>
 ob (unA .not r8) fun r10 =>
 cndA r10
 (Q (B false) H9)
 (ob (partA false 5 1 x1) fun r11 =>
 ob (ixaA 6 r11 x3) fun c12 =>
 ob (partA true 0 6 c12) fun r13 =>
 E 79 [r13] H9 fun r14 H15 =>
 f105_l28 x1 x3 r14 (I 0) H15 Q))
 (Q (B true) H) :=
  (AtF_eq Pg Hs 105 [1, 0, 1, 0] Q _ H).trans (by kernel_rfl)
theorem f105_l28_eq (x1 : List AV) (x3 : AV) (x4 : AV) (x5 : AV) (H : Heap) (Q : Post) : f105_l28 x1 x3 x4 x5 H Q =
 ob (binA Pg .lss 3 false x5 x3) fun r16 =>
 cndA r16
 (ob (partA false 5 1 x1) fun r17 =>
 ob (ixaA 6 r17 x5) fun c18 =>
 ob (partA true 0 6 c18) fun r19 =>
 E 79 [r19] H fun r20 H21 =>
 f105_l42 x1 x3 x4 x5 r20 (I 0) H21 Q)
 (ob (binA Pg .add 3 true x3 (I 1)) fun r22 =>
 f105_l6 x1 r22 H Q) :=
  (AtF_eq Pg Hs 105 [1, 0, 1, 0, 0, 1, 0, 0, 1, 1, 1, 0] Q _ H).trans (by kernel_rfl)
theorem f105_l42_eq (x1 : List AV) (x3 : AV) (x4 : AV) (x5 : AV) (x6 : AV) (x7 : AV) (H : Heap) (Q : Post) : f105_l42 x1 x3 x4 x5 x6 x7 H Q =
 ob (lenA x4) fun r23 =>
 ob (binA Pg .lss 3 false x7 r23) fun r24 =>
 cndA r24
 (f105_l54 x1 x3 x4 x5 x6 x7 (I 0) H Q)
 (ob (binA Pg .add 3 true x5 (I 1)) fun r25 =>
 f105_l28 x1 x3 x4 r25 H Q) :=
  (AtF_eq Pg Hs 105 [1, 0, 1, 0, 0, 1, 0, 0, 1, 1, 1, 0, 0, 1, 0, 0, 1, 1, 0] Q _ H).trans (by kernel_rfl)
theorem f105_l54_eq (x1 : List AV) (x3 : AV) (x4 : AV) (x5 : AV) (x6 : AV) (x7 : AV) (x8 : AV) (H : Heap) (Q : Post) : f105_l54 x1 x3 x4 x5 x6 x7 x8 H Q =
 ob (lenA x6) fun r26 =>
 ob (binA Pg .lss 3 false x8 r26) fun r27 =>
 cndA r27
 (ob (ixaA 3 x4 x7) fun c28 =>
 ob (partA false 0 1 (c28.drop 0)) fun r29 =>
 ob (ixaA 3 x6 x8) fun c30 =>
 ob (partA false 0 1 (c30.drop 0)) fun r31 =>
 ob (binA Pg .eql 9 false r29 r31) fun r32 =>
 cndA r32
 (ob (partA false 0 1 x1) fun r33 =>
 ob (binA Pg .neq 3 true r33 (I 4)) fun r34 =>
 cndA r34
 (f105_j65 x1 x3 x4 x5 x6 x7 x8 (B true) H Q)
 (ob (ixaA 3 x4 x7) fun c35 =>
 ob (partA true 0 3 c35) fun r36 =>
 ob (ixaA 3 x6 x8) fun c37 =>
 ob (partA true 0 3 c37) fun r38 =>
 E 143 [r36, r38] H fun r39 H40 =>
 ob (unA .not r39) fun r41 =>
 f105_j65 x1 x3 x4 x5 x6 x7 x8 r41 H40 Q))
 (f105_j65 x1 x3 x4 x5 x6 x7 x8 (B false) H Q))
 (ob (binA Pg .add 3 true x7 (I 1)) fun r42 =>
 f105_l42 x1 x3 x4 x5 x6 r42 H Q) :=
  (AtF_eq Pg Hs 105 [1, 0, 1, 0, 0, 1, 0, 0, 1, 1, 1, 0, 0, 1, 0, 0, 1, 1, 0, 0, 1, 0, 0, 1, 0] Q _ H).trans (by kernel_rfl)
theorem f105_j65_eq (x1 : List AV) (x3 : AV) (x4 : AV) (x5 : AV) (x6 : AV) (x7 : AV) (x8 : AV) (x79 : AV) (H : Heap) (Q : Post) : f105_j65 x1 x3 x4 x5 x6 x7 x8 x79 H Q =
 cndA x79
 (Q (B false) H)
 (ob (binA Pg .add 3 true x8 (I 1)) fun r43 =>
 f105_l54 x1 x3 x4 x5 x6 x7 r43 H Q) :=
  (AtJ_eq Pg Hs 105 [1, 0, 1, 0, 0, 1, 0, 0, 1, 1, 1, 0, 0, 1, 0, 0, 1, 1, 0, 0, 1, 0, 0, 1, 0, 0, 1, 0, 0, 1] Q _ H).trans (by kernel_rfl)
theorem f105_eq (a0 : AV) (H : Heap) (Q : Post) : E 105 [a0] H Q =
 ob (sizedA 6 a0) fun b1 =>
 f105_l6 b1 (I 0) H Q :=
  Ev_eq.trans (by kernel_rfl)
/-! ### 106 haruspex/haruspexref04.Text -/
theorem f106_eq (a0 : AV) (H : Heap) (Q : Post) : E 106 [a0] H Q =
 ob (binA Pg .lss 2 true a0 (I 0)) fun r1 =>
 cndA r1
 (ob (binA Pg .quo 2 true a0 (I 10)) fun r2 =>
 ob (binA Pg .rem 2 true a0 (I 10)) fun r3 =>
 ob (binA Pg .sub 2 true (I 48) r3) fun r4 =>
 ob (cvtIA .u8 r4) fun r6 =>
 ob (mkSlA 1 [r6]) fun r7 =>
 bsA r7 fun r8 =>
 ob (binA Pg .eql 2 true r2 (I 0)) fun r9 =>
 cndA r9
 (ob (binA Pg .add 9 true (S ⟨#[45]⟩) r8) fun r10 =>
 Q r10 H)
 (E 106 [r2] H fun r11 H12 =>
 ob (binA Pg .add 9 false r11 r8) fun r13 =>
 Q r13 H12))
 (ob (binA Pg .rem 2 true a0 (I 10)) fun r14 =>
 ob (binA Pg .add 2 true (I 48) r14) fun r15 =>
 ob (cvtIA .u8 r15) fun r17 =>
 ob (mkSlA 1 [r17]) fun r18 =>
 bsA r18 fun r19 =>
 ob (binA Pg .geq 2 true a0 (I 10)) fun r20 =>
 cndA r20
 (ob (binA Pg .quo 2 true a0 (I 10)) fun r21 =>
 E 106 [r21] H fun r22 H23 =>
 ob (binA Pg .add 9 false r22 r19) fun r24 =>
 Q r24 H23)
 (Q r19 H)) :=
  Ev_eq.trans (by kernel_rfl)
/-! ### 107 slices.IndexFunc[[]haruspex/api.Pat,haruspex/api.Pat] -/
def f107_l6 (x0 : AV) (x1 : AV) (x7 : AV) (x8 : AV) (H : Heap) (Q : Post) : Prop := AtF Pg Hs 107 [1, 0, 1, 0] Q [(0, .val x0), (1, .val x1), (7, .val x7), (8, .val x8)] H
theorem f107_l6_eq (x0 : AV) (x1 : AV) (x7 : AV) (x8 : AV) (H : Heap) (Q : Post) : f107_l6 x0 x1 x7 x8 H Q =
 ob (binA Pg .lss 3 false x8 x7) fun r2 =>
 cndA r2
 (ob (ixaA 6 x0 x8) fun c3 =>
 ob (partA true 0 6 c3) fun r4 =>
 callA (Ev Pg Hs) x1 [r4] H fun r5 H6 =>
 cndA r5
 (Q x8 H6)
 (ob (binA Pg .add 3 true x8 (I 1)) fun r7 =>
 f107_l6 x0 x1 x7 r7 H6 Q))
 (Q (I (-1)) H) :=
  (AtF_eq Pg Hs 107 [1, 0, 1, 0] Q _ H).trans (by kernel_rfl)
theorem f107_eq (a0 a1 : AV) (H : Heap) (Q : Post) : E 107 [a0, a1] H Q =
 ob (lenA a0) fun r1 =>
 f107_l6 a0 a1 r1 (I 0) H Q :=
  Ev_eq.trans (by kernel_rfl)
/-! ### 108 haruspex/mr.lacking$1 -/
def f108_j4 (x3 : AV) (H : Heap) (Q : Post) : Prop := AtJ Pg Hs 108 [1, 1] Q [(3, .val x3)] H
theorem f108_j4_eq (x3 : AV) (H : Heap) (Q : Post) : f108_j4 x3 H Q =
 Q x3 H :=
  (AtJ_eq Pg Hs 108 [1, 1] Q _ H).trans (by kernel_rfl)
theorem f108_eq (a0 a1 : AV) (H : Heap) (Q : Post) : E 108 [a0, a1] H Q =
 ob (sizedA 6 a0) fun b1 =>
 ob (addPA a1 0) fun r2 =>
 ob (ldH H false 1 r2) fun r3 =>
 ob (binA Pg .eql 3 true r3 (I 3)) fun r4 =>
 cndA r4
 (ob (partA false 0 1 b1) fun r5 =>
 ob (binA Pg .neq 3 true r5 (I 1)) fun r6 =>
 cndA r6
 (f108_j4 (B true) H Q)
 (ob (partA true 0 6 b1) fun r7 =>
 E 76 [r7] H fun r8 H9 =>
 f108_j4 r8 H9 Q))
 (ob (partA true 0 6 b1) fun r10 =>
 E 76 [r10] H fun r11 H12 =>
 f108_j4 r11 H12 Q) :=
  Ev_eq.trans (by kernel_rfl)
/-! ### 109 haruspex/pat.nodes -/
theorem f109_eq (a0 : AV) (H : Heap) (Q : Post) : E 109 [a0] H Q =
 ob (sizedA 6 a0) fun b1 =>
 newH H b1 fun r2 H3 =>
 Q (AV.fn (.func 144) [] [r2]) H3 :=
  Ev_eq.trans (by kernel_rfl)
/-! ### 110 haruspex/pat.isLeaf -/
def f110_j4 (x2 : AV) (H : Heap) (Q : Post) : Prop := AtJ Pg Hs 110 [1, 1] Q [(2, .val x2)] H
theorem f110_j4_eq (x2 : AV) (H : Heap) (Q : Post) : f110_j4 x2 H Q =
 Q x2 H :=
  (AtJ_eq Pg Hs 110 [1, 1] Q _ H).trans (by kernel_rfl)
theorem f110_eq (a0 : AV) (H : Heap) (Q : Post) : E 110 [a0] H Q =
 ob (binA Pg .eql 3 true a0 (I 1)) fun r1 =>
 cndA r1
 (f110_j4 (B true) H Q)
 (ob (binA Pg .eql 3 true a0 (I 5)) fun r2 =>
 cndA r2
 (f110_j4 (B true) H Q)
 (ob (binA Pg .eql 3 true a0 (I 6)) fun r3 =>
 f110_j4 r3 H Q)) :=
  Ev_eq.trans (by kernel_rfl)
/-! ### 111 slices.Contains[[]string,string] -/
theorem f111_eq (a0 a1 : AV) (H : Heap) (Q : Post) : E 111 [a0, a1] H Q =
 E 146 [a0, a1] H fun r1 H2 =>
 ob (binA Pg .geq 3 true r1 (I 0)) fun r3 =>
 Q r3 H2 :=
  Ev_eq.trans (by kernel_rfl)
/-! ### 112 haruspex/lex.All -/
def f112_l18 (x0 : AV) (x5 : AV) (x6 : AV) (H : Heap) (Q : Post) : Prop := AtF Pg Hs 112 [1, 1, 1, 1, 0, 1, 0] Q [(0, .val x0), (5, .val x5), (6, .val x6)] H
theorem f112_l18_eq (x0 : AV) (x5 : AV) (x6 : AV) (H : Heap) (Q : Post) : f112_l18 x0 x5 x6 H Q =
 ob (nilA x5) fun r9 =>
 ob (addPA r9 1) fun r10 =>
 ob (ldH H false 1 r10) fun r11 =>
 ob (lenSA x0) fun r12 =>
 ob (binA Pg .lss 3 false r11 r12) fun r13 =>
 cndA r13
 (E 148 [x5] H fun r14 H15 =>
 ob (extractA r14 0) fun r16 =>
 ob (extractA r14 1) fun r17 =>
 ob (extractA r14 2) fun r18 =>
 ob (sizedA 3 r16) fun b19 =>
 ob (spliceA 0 b19 [(I 0), (S ⟨#[]⟩), (I 0)]) fun b20 =>
 ob (binA Pg .neq 31 true r18 (I 0)) fun r21 =>
 cndA r21
 (Q (AV.tup [(AV.sl 0 true .full []), r17, r18]) H15)
 (ob (partA true 0 3 b20) fun r22 =>
 ob (mkSlA 3 [r22]) fun r23 =>
 appA 3 32 x6 r23 H15 fun r24 H25 =>
 E 147 [x5] H25 fun r26 H27 =>
 f112_l18 x0 x5 r24 H27 Q))
 (ob (lenSA x0) fun r28 =>
 ob (bldA [(0, 1, (I 6)), (2, 1, r28)] [(I 0), (S ⟨#[]⟩), (I 0)]) fun r29 =>
 ob (mkSlA 3 [r29]) fun r30 =>
 appA 3 32 x6 r30 H fun r31 H32 =>
 ob (lenSA x0) fun r33 =>
 Q (AV.tup [r31, r33, (I 0)]) H32) :=
  (AtF_eq Pg Hs 112 [1, 1, 1, 1, 0, 1, 0] Q _ H).trans (by kernel_rfl)
theorem f112_eq (a0 : AV) (H : Heap) (Q : Post) : E 112 [a0] H Q =
 ob (lenSA a0) fun r1 =>
 ob (binA Pg .gtr 3 true r1 (I 8192)) fun r2 =>
 cndA r2
 (Q (AV.tup [(AV.sl 0 true .full []), (I 0), (I 2)]) H)
 (ob (bldA [(0, 1, a0)] [(S ⟨#[]⟩), (I 0)]) fun r3 =>
 ob (sizedA 2 r3) fun b4 =>
 newH H b4 fun r5 H6 =>
 E 147 [r5] H6 fun r7 H8 =>
 f112_l18 a0 r5 (AV.sl 0 true .full []) H8 Q) :=
  Ev_eq.trans (by kernel_rfl)
/-! ### 113 (*haruspex/cond.parser).or -/
theorem f113_eq (a0 : AV) (H : Heap) (Q : Post) : E 113 [a0] H Q =
 E 149 [a0, (I 17), (S ⟨#[79, 82]⟩), (AV.fn (.func 150) [a0] [])] H fun r1 H2 =>
 ob (sizedA 7 r1) fun b3 =>
 ob (spliceA 0 b3 [(I 0), (I 0), (I 0), (S ⟨#[]⟩), (S ⟨#[]⟩), (S ⟨#[]⟩), (AV.sl 0 true .full [])]) fun b4 =>
 ob (partA true 0 7 b4) fun r5 =>
 Q r5 H2 :=
  Ev_eq.trans (by kernel_rfl)
/-! ### 114 (*haruspex/lex.Reader).none -/
def f114_j4 (x2 : AV) (H : Heap) (Q : Post) : Prop := AtJ Pg Hs 114 [1, 1] Q [(2, .val x2)] H
theorem f114_j4_eq (x2 : AV) (H : Heap) (Q : Post) : f114_j4 x2 H Q =
 Q x2 H :=
  (AtJ_eq Pg Hs 114 [1, 1] Q _ H).trans (by kernel_rfl)
theorem f114_eq (a0 : AV) (H : Heap) (Q : Post) : E 114 [a0] H Q =
 ob (binA Pg .eql 113 true a0 (AV.raw (.pointer none))) fun r1 =>
 cndA r1
 (f114_j4 (B true) H Q)
 (ob (nilA a0) fun r2 =>
 ob (addPA r2 0) fun r3 =>
 ob (ldH H false 1 r3) fun r4 =>
 ob (lenA r4) fun r5 =>
 ob (binA Pg .eql 3 true r5 (I 0)) fun r6 =>
 f114_j4 r6 H Q) :=
  Ev_eq.trans (by kernel_rfl)
/-! ### 115 haruspex/expr.nodes$1 -/
theorem f115_eq (a0 a1 : AV) (H : Heap) (Q : Post) : E 115 [a0, a1] H Q =
 ob (sizedA 1 a0) fun b1 =>
 newH H b1 fun r2 H3 =>
 newH H3 [(AV.raw .nilFunc)] fun r4 H5 =>
 ob (stH H5 1 r4 (AV.fn (.func 116) [] [r2, r4])) fun H6 =>
 ob (ldH H6 false 1 r4) fun r7 =>
 ob (ldH H6 true 7 a1) fun r8 =>
 callA (Ev Pg Hs) r7 [(I 1), r8] H6 fun r9 H10 =>
 Q (AV.tup []) H10 :=
  Ev_eq.trans (by kernel_rfl)
/-! ### 116 haruspex/expr.nodes$1$1 -/
def f116_l14 (x0 : AV) (x3 : AV) (x15 : AV) (x16 : AV) (x17 : AV) (H : Heap) (Q : Post) : Prop := AtF Pg Hs 116 [1, 1, 0, 1, 0] Q [(0, .val x0), (3, .val x3), (15, .val x15), (16, .val x16), (17, .val x17)] H
theorem f116_l14_eq (x0 : AV) (x3 : AV) (x15 : AV) (x16 : AV) (x17 : AV) (H : Heap) (Q : Post) : f116_l14 x0 x3 x15 x16 x17 H Q =
 ob (binA Pg .lss 3 false x17 x16) fun r9 =>
 cndA r9
 (ob (ixaA 7 x15 x17) fun c10 =>
 ob (partA true 0 7 c10) fun r11 =>
 ob (sizedA 7 r11) fun b12 =>
 ob (spliceA 0 b12 [(I 0), (I 0), (I 0), (S ⟨#[]⟩), (S ⟨#[]⟩), (S ⟨#[]⟩), (AV.sl 0 true .full [])]) fun b13 =>
 ob (ldH H false 1 x3) fun r14 =>
 ob (binA Pg .add 3 true x0 (I 1)) fun r15 =>
 ob (partA true 0 7 b13) fun r16 =>
 callA (Ev Pg Hs) r14 [r15, r16] H fun r17 H18 =>
 ob (unA .not r17) fun r19 =>
 cndA r19
 (Q (B false) H18)
 (ob (binA Pg .add 3 true x17 (I 1)) fun r20 =>
 f116_l14 x0 x3 x15 x16 r20 H18 Q))
 (Q (B true) H) :=
  (AtF_eq Pg Hs 116 [1, 1, 0, 1, 0] Q _ H).trans (by kernel_rfl)
theorem f116_eq (a0 a1 a2 a3 : AV) (H : Heap) (Q : Post) : E 116 [a0, a1, a2, a3] H Q =
 ob (sizedA 7 a1) fun b1 =>
 ob (ldH H false 1 a2) fun r2 =>
 ob (partA true 0 7 b1) fun r3 =>
 callA (Ev Pg Hs) r2 [a0, r3] H fun r4 H5 =>
 ob (unA .not r4) fun r6 =>
 cndA r6
 (Q (B false) H5)
 (ob (partA false 6 1 b1) fun r7 =>
 ob (lenA r7) fun r8 =>
 f116_l14 a0 a3 r7 r8 (I 0) H5 Q) :=
  Ev_eq.trans (by kernel_rfl)
/-! ### 117 haruspex/value.Right -/
def f117_j17 (x2 : AV) (H : Heap) (Q : Post) : Prop := AtJ Pg Hs 117 [1, 0, 1, 0, 1, 1, 1, 0, 1] Q [(2, .val x2)] H
def f117_j29 (x2 : AV) (H : Heap) (Q : Post) : Prop := AtJ Pg Hs 117 [1, 0, 1, 0, 1, 1, 1, 1, 1, 1, 1, 0, 1] Q [(2, .val x2)] H
theorem f117_j17_eq (x2 : AV) (H : Heap) (Q : Post) : f117_j17 x2 H Q =
 Q x2 H :=
  (AtJ_eq Pg Hs 117 [1, 0, 1, 0, 1, 1, 1, 0, 1] Q _ H).trans (by kernel_rfl)
theorem f117_j29_eq (x2 : AV) (H : Heap) (Q : Post) : f117_j29 x2 H Q =
 Q x2 H :=
  (AtJ_eq Pg Hs 117 [1, 0, 1, 0, 1, 1, 1, 1, 1, 1, 1, 0, 1] Q _ H).trans (by kernel_rfl)
theorem f117_eq (a0 : AV) (H : Heap) (Q : Post) : E 117 [a0] H Q =
 ob (sizedA 3 a0) fun b1 =>
 ob (partA false 0 1 b1) fun r2 =>
 ob (binA Pg .eql 3 true r2 (I 0)) fun r3 =>
 cndA r3
 (ob (partA true 0 3 b1) fun r4 =>
 ob (bldA [] [(I 0), (I 0), (S ⟨#[]⟩)]) fun r5 =>
 ob (binA Pg .eql 37 false r4 r5) fun r6 =>
 Q r6 H)
 (ob (binA Pg .eql 3 true r2 (I 1)) fun r7 =>
 cndA r7
 (ob (partA false 2 1 b1) fun r8 =>
 ob (binA Pg .eql 9 true r8 (S ⟨#[]⟩)) fun r9 =>
 cndA r9
 (ob (partA false 1 1 b1) fun r10 =>
 ob (binA Pg .andNot 2 true r10 (I 1)) fun r11 =>
 ob (binA Pg .eql 2 true r11 (I 0)) fun r12 =>
 f117_j17 r12 H Q)
 (f117_j17 (B false) H Q))
 (ob (binA Pg .eql 3 true r2 (I 2)) fun r13 =>
 cndA r13
 (ob (partA false 2 1 b1) fun r14 =>
 ob (binA Pg .eql 9 true r14 (S ⟨#[]⟩)) fun r15 =>
 Q r15 H)
 (ob (binA Pg .eql 3 true r2 (I 3)) fun r16 =>
 cndA r16
 (ob (partA false 1 1 b1) fun r17 =>
 ob (binA Pg .eql 2 true r17 (I 0)) fun r18 =>
 cndA r18
 (ob (partA false 2 1 b1) fun r19 =>
 ob (lenSA r19) fun r20 =>
 ob (binA Pg .leq 3 true r20 (I 256)) fun r21 =>
 f117_j29 r21 H Q)
 (f117_j29 (B false) H Q))
 (Q (B false) H)))) :=
  Ev_eq.trans (by kernel_rfl)
/-! ### 118 haruspex/word.Name -/
def f118_l6 (x0 : AV) (x6 : AV) (H : Heap) (Q : Post) : Prop := AtF Pg Hs 118 [1, 0, 1, 0] Q [(0, .val x0), (6, .val x6)] H
def f118_j18 (x0 : AV) (x6 : AV) (x22 : AV) (H : Heap) (Q : Post) : Prop := AtJ Pg Hs 118 [1, 0, 1, 0, 0, 1, 1, 0, 1, 1] Q [(0, .val x0), (6, .val x6), (22, .val x22)] H
def f118_j25 (x2 : AV) (H : Heap) (Q : Post) : Prop := AtJ Pg Hs 118 [1, 1, 1] Q [(2, .val x2)] H
theorem f118_l6_eq (x0 : AV) (x6 : AV) (H : Heap) (Q : Post) : f118_l6 x0 x6 H Q =
 nextA x6 H fun r3 H4 =>
 ob (extractA r3 0) fun r5 =>
 cndA r5
 (ob (extractA r3 1) fun r6 =>
 ob (extractA r3 2) fun r7 =>
 E 151 [r7] H4 fun r8 H9 =>
 ob (unA .not r8) fun r10 =>
 cndA r10
 (f118_j18 x0 x6 (B true) H9 Q)
 (ob (binA Pg .eql 3 true r6 (I 0)) fun r11 =>
 cndA r11
 (E 152 [r7] H9 fun r12 H13 =>
 ob (unA .not r12) fun r14 =>
 f118_j18 x0 x6 r14 H13 Q)
 (f118_j18 x0 x6 (B false) H9 Q)))
 (ob (binA Pg .neq 9 true x0 (S ⟨#[]⟩)) fun r15 =>
 cndA r15
 (ob (lenSA x0) fun r16 =>
 ob (binA Pg .leq 3 true r16 (I 32)) fun r17 =>
 f118_j25 r17 H4 Q)
 (f118_j25 (B false) H4 Q)) :=
  (AtF_eq Pg Hs 118 [1, 0, 1, 0] Q _ H).trans (by kernel_rfl)
theorem f118_j18_eq (x0 : AV) (x6 : AV) (x22 : AV) (H : Heap) (Q : Post) : f118_j18 x0 x6 x22 H Q =
 cndA x22
 (Q (B false) H)
 (f118_l6 x0 x6 H Q) :=
  (AtJ_eq Pg Hs 118 [1, 0, 1, 0, 0, 1, 1, 0, 1, 1] Q _ H).trans (by kernel_rfl)
theorem f118_j25_eq (x2 : AV) (H : Heap) (Q : Post) : f118_j25 x2 H Q =
 Q x2 H :=
  (AtJ_eq Pg Hs 118 [1, 1, 1] Q _ H).trans (by kernel_rfl)
theorem f118_eq (a0 : AV) (H : Heap) (Q : Post) : E 118 [a0] H Q =
 rngA a0 H fun r1 H2 =>
 f118_l6 a0 r1 H2 Q :=
  Ev_eq.trans (by kernel_rfl)
/-! ### 119 haruspex/expr.bare -/
def f119_j4 (x2 : AV) (H : Heap) (Q : Post) : Prop := AtJ Pg Hs 119 [1, 1] Q [(2, .val x2)] H
theorem f119_j4_eq (x2 : AV) (H : Heap) (Q : Post) : f119_j4 x2 H Q =
 Q x2 H :=
  (AtJ_eq Pg Hs 119 [1, 1] Q _ H).trans (by kernel_rfl)
theorem f119_eq (a0 : AV) (H : Heap) (Q : Post) : E 119 [a0] H Q =
 ob (sizedA 7 a0) fun b1 =>
 ob (partA true 1 3 b1) fun r2 =>
 ob (bldA [] [(I 0), (I 0), (S ⟨#[]⟩)]) fun r3 =>
 ob (binA Pg .eql 37 false r2 r3) fun r4 =>
 cndA r4
 (ob (partA false 4 1 b1) fun r5 =>
 ob (binA Pg .eql 9 true r5 (S ⟨#[]⟩)) fun r6 =>
 cndA r6
 (ob (partA false 5 1 b1) fun r7 =>
 ob (binA Pg .eql 9 true r7 (S ⟨#[]⟩)) fun r8 =>
 f119_j4 r8 H Q)
 (f119_j4 (B false) H Q))
 (f119_j4 (B false) H Q) :=
  Ev_eq.trans (by kernel_rfl)
/-! ### 120 haruspex/expr.right$1 -/
theorem f120_eq (a0 a1 : AV) (H : Heap) (Q : Post) : E 120 [a0, a1] H Q =
 ob (sizedA 7 a0) fun b1 =>
 ob (partA false 0 1 b1) fun r2 =>
 ob (addPA a1 0) fun r3 =>
 ob (ldH H false 1 r3) fun r4 =>
 ob (binA Pg .eql 3 false r2 r4) fun r5 =>
 Q r5 H :=
  Ev_eq.trans (by kernel_rfl)
/-! ### 121 haruspex/expr.isRow -/
def f121_j4 (x2 : AV) (H : Heap) (Q : Post) : Prop := AtJ Pg Hs 121 [1, 1] Q [(2, .val x2)] H
theorem f121_j4_eq (x2 : AV) (H : Heap) (Q : Post) : f121_j4 x2 H Q =
 Q x2 H :=
  (AtJ_eq Pg Hs 121 [1, 1] Q _ H).trans (by kernel_rfl)
theorem f121_eq (a0 : AV) (H : Heap) (Q : Post) : E 121 [a0] H Q =
 ob (binA Pg .eql 3 true a0 (I 16)) fun r1 =>
 cndA r1
 (f121_j4 (B true) H Q)
 (ob (binA Pg .eql 3 true a0 (I 17)) fun r2 =>
 f121_j4 r2 H Q) :=
  Ev_eq.trans (by kernel_rfl)
/-! ### 122 slices.ContainsFunc[[]haruspex/api.Expr,haruspex/api.Expr] -/
theorem f122_eq (a0 a1 : AV) (H : Heap) (Q : Post) : E 122 [a0, a1] H Q =
 E 153 [a0, a1] H fun r1 H2 =>
 ob (binA Pg .geq 3 true r1 (I 0)) fun r3 =>
 Q r3 H2 :=
  Ev_eq.trans (by kernel_rfl)
/-! ### 123 haruspex/cond.isNumber -/
def f123_j4 (x2 : AV) (x3 : AV) (H : Heap) (Q : Post) : Prop := AtJ Pg Hs 123 [1, 1] Q [(2, .val x2), (3, .val x3)] H
theorem f123_j4_eq (x2 : AV) (x3 : AV) (H : Heap) (Q : Post) : f123_j4 x2 x3 H Q =
 Q (AV.tup [x2, x3]) H :=
  (AtJ_eq Pg Hs 123 [1, 1] Q _ H).trans (by kernel_rfl)
theorem f123_eq (a0 : AV) (H : Heap) (Q : Post) : E 123 [a0] H Q =
 ob (sizedA 7 a0) fun b1 =>
 ob (partA false 2 1 b1) fun r2 =>
 ob (partA false 0 1 b1) fun r3 =>
 ob (binA Pg .eql 3 true r3 (I 1)) fun r4 =>
 cndA r4
 (ob (partA false 1 1 b1) fun r5 =>
 ob (binA Pg .eql 3 true r5 (I 2)) fun r6 =>
 f123_j4 r2 r6 H Q)
 (f123_j4 r2 (B false) H Q) :=
  Ev_eq.trans (by kernel_rfl)
/-! ### 124 haruspex/value.Print -/
theorem f124_eq (a0 : AV) (H : Heap) (Q : Post) : E 124 [a0] H Q =
 ob (sizedA 3 a0) fun b1 =>
 ob (partA true 0 3 b1) fun r2 =>
 E 117 [r2] H fun r3 H4 =>
 ob (unA .not r3) fun r5 =>
 cndA r5
 (Q (AV.tup [(S ⟨#[]⟩), (I 1)]) H4)
 (ob (partA true 0 3 b1) fun r6 =>
 E 154 [] H4 fun r7 H8 =>
 ob (binA Pg .eql 37 false r6 r7) fun r9 =>
 cndA r9
 (Q (AV.tup [(S ⟨#[78, 85, 76, 76]⟩), (I 0)]) H8)
 (E 155 [(B true)] H8 fun r10 H11 =>
 ob (binA Pg .eql 37 false r6 r10) fun r12 =>
 cndA r12
 (Q (AV.tup [(S ⟨#[84, 82, 85, 69]⟩), (I 0)]) H11)
 (E 155 [(B false)] H11 fun r13 H14 =>
 ob (binA Pg .eql 37 false r6 r13) fun r15 =>
 cndA r15
 (Q (AV.tup [(S ⟨#[70, 65, 76, 83, 69]⟩), (I 0)]) H14)
 (ob (partA false 0 1 b1) fun r16 =>
 ob (binA Pg .eql 3 true r16 (I 2)) fun r17 =>
 cndA r17
 (ob (partA false 1 1 b1) fun r18 =>
 E 100 [r18] H14 fun r19 H20 =>
 Q (AV.tup [r19, (I 0)]) H20)
 (ob (partA false 2 1 b1) fun r21 =>
 E 156 [r21] H14 fun r22 H23 =>
 ob (extractA r22 0) fun r24 =>
 ob (extractA r22 1) fun r25 =>
 Q (AV.tup [r24, r25]) H23))))) :=
  Ev_eq.trans (by kernel_rfl)
/-! ### 125 (*haruspex/cond.printer).neg -/
def f125_j9 (x0 : AV) (x3 : List AV) (x19 : AV) (H : Heap) (Q : Post) : Prop := AtJ Pg Hs 125 [1, 1, 0, 1, 1] Q [(0, .val x0), (3, .lbox x3), (19, .val x19)] H
theorem f125_j9_eq (x0 : AV) (x3 : List AV) (x19 : AV) (H : Heap) (Q : Post) : f125_j9 x0 x3 x19 H Q =
 cndA x19
 (ob (nilA x0) fun r12 =>
 ob (addPA r12 0) fun r13 =>
 E 88 [r13, (AV.raw (.int .u8 40))] H fun r14 H15 =>
 ob (partA true 0 7 x3) fun r16 =>
 E 56 [x0, r16, (I 1)] H15 fun r17 H18 =>
 ob (nilA x0) fun r19 =>
 ob (addPA r19 0) fun r20 =>
 E 88 [r20, (AV.raw (.int .u8 41))] H18 fun r21 H22 =>
 Q (AV.tup []) H22)
 (ob (partA true 0 7 x3) fun r23 =>
 E 56 [x0, r23, (I 7)] H fun r24 H25 =>
 Q (AV.tup []) H25) :=
  (AtJ_eq Pg Hs 125 [1, 1, 0, 1, 1] Q _ H).trans (by kernel_rfl)
theorem f125_eq (a0 a1 : AV) (H : Heap) (Q : Post) : E 125 [a0, a1] H Q =
 ob (sizedA 7 a1) fun b1 =>
 ob (nilA a0) fun r2 =>
 ob (addPA r2 0) fun r3 =>
 E 88 [r3, (AV.raw (.int .u8 45))] H fun r4 H5 =>
 ob (partA true 0 7 b1) fun r6 =>
 E 123 [r6] H5 fun r7 H8 =>
 ob (extractA r7 0) fun r9 =>
 ob (extractA r7 1) fun r10 =>
 cndA r10
 (ob (binA Pg .geq 2 true r9 (I 0)) fun r11 =>
 f125_j9 a0 b1 r11 H8 Q)
 (f125_j9 a0 b1 (B false) H8 Q) :=
  Ev_eq.trans (by kernel_rfl)
/-! ### 126 (*haruspex/cond.printer).two -/
theorem f126_eq (a0 a1 a2 a3 : AV) (H : Heap) (Q : Post) : E 126 [a0, a1, a2, a3] H Q =
 ob (sizedA 7 a1) fun b1 =>
 ob (partA false 6 1 b1) fun r2 =>
 ob (ixaA 7 r2 (I 0)) fun c3 =>
 ob (partA true 0 7 c3) fun r4 =>
 E 56 [a0, r4, a2] H fun r5 H6 =>
 ob (nilA a0) fun r7 =>
 ob (addPA r7 0) fun r8 =>
 ob (partA false 0 1 b1) fun r9 =>
 ob (binA Pg .sub 3 true r9 (I 4)) fun r10 =>
 E 157 [] H6 fun r11 H12 =>
 ob (ixAgg 11 true 2 r11 r10) fun r13 =>
 fldK false 0 1 r13 fun r14 =>
 ob (binA Pg .add 9 true (S ⟨#[32]⟩) r14) fun r15 =>
 ob (binA Pg .add 9 true r15 (S ⟨#[32]⟩)) fun r16 =>
 E 64 [r8, r16] H12 fun r17 H18 =>
 ob (partA false 6 1 b1) fun r19 =>
 ob (ixaA 7 r19 (I 1)) fun c20 =>
 ob (partA true 0 7 c20) fun r21 =>
 E 56 [a0, r21, a3] H18 fun r22 H23 =>
 Q (AV.tup []) H23 :=
  Ev_eq.trans (by kernel_rfl)
/-! ### 127 haruspex/haruspexref06.Right -/
def f127_j11 (x2 : AV) (H : Heap) (Q : Post) : Prop := AtJ Pg Hs 127 [1, 0, 1, 0, 1, 0, 1] Q [(2, .val x2)] H
def f127_j17 (x2 : AV) (H : Heap) (Q : Post) : Prop := AtJ Pg Hs 127 [1, 0, 1, 0, 1, 1, 1, 0, 1] Q [(2, .val x2)] H
def f127_j29 (x2 : AV) (H : Heap) (Q : Post) : Prop := AtJ Pg Hs 127 [1, 0, 1, 0, 1, 1, 1, 1, 1, 1, 1, 0, 1] Q [(2, .val x2)] H
theorem f127_j11_eq (x2 : AV) (H : Heap) (Q : Post) : f127_j11 x2 H Q =
 Q x2 H :=
  (AtJ_eq Pg Hs 127 [1, 0, 1, 0, 1, 0, 1] Q _ H).trans (by kernel_rfl)
theorem f127_j17_eq (x2 : AV) (H : Heap) (Q : Post) : f127_j17 x2 H Q =
 Q x2 H :=
  (AtJ_eq Pg Hs 127 [1, 0, 1, 0, 1, 1, 1, 0, 1] Q _ H).trans (by kernel_rfl)
theorem f127_j29_eq (x2 : AV) (H : Heap) (Q : Post) : f127_j29 x2 H Q =
 Q x2 H :=
  (AtJ_eq Pg Hs 127 [1, 0, 1, 0, 1, 1, 1, 1, 1, 1, 1, 0, 1] Q _ H).trans (by kernel_rfl)
theorem f127_eq (a0 : AV) (H : Heap) (Q : Post) : E 127 [a0] H Q =
 ob (sizedA 3 a0) fun b1 =>
 ob (partA false 0 1 b1) fun r2 =>
 ob (binA Pg .eql 3 true r2 (I 0)) fun r3 =>
 cndA r3
 (ob (partA false 1 1 b1) fun r4 =>
 ob (binA Pg .eql 2 true r4 (I 0)) fun r5 =>
 cndA r5
 (ob (partA false 2 1 b1) fun r6 =>
 ob (binA Pg .eql 9 true r6 (S ⟨#[]⟩)) fun r7 =>
 f127_j11 r7 H Q)
 (f127_j11 (B false) H Q))
 (ob (binA Pg .eql 3 true r2 (I 1)) fun r8 =>
 cndA r8
 (ob (partA false 1 1 b1) fun r9 =>
 ob (binA Pg .eql 2 true r9 (I 0)) fun r10 =>
 cndA r10
 (ob (partA false 2 1 b1) fun r11 =>
 ob (binA Pg .eql 9 true r11 (S ⟨#[]⟩)) fun r12 =>
 f127_j17 r12 H Q)
 (ob (partA false 1 1 b1) fun r13 =>
 ob (binA Pg .eql 2 true r13 (I 1)) fun r14 =>
 cndA r14
 (ob (partA false 2 1 b1) fun r15 =>
 ob (binA Pg .eql 9 true r15 (S ⟨#[]⟩)) fun r16 =>
 f127_j17 r16 H Q)
 (f127_j17 (B false) H Q)))
 (ob (binA Pg .eql 3 true r2 (I 2)) fun r17 =>
 cndA r17
 (ob (partA false 2 1 b1) fun r18 =>
 ob (binA Pg .eql 9 true r18 (S ⟨#[]⟩)) fun r19 =>
 Q r19 H)
 (ob (binA Pg .eql 3 true r2 (I 3)) fun r20 =>
 cndA r20
 (ob (partA false 1 1 b1) fun r21 =>
 ob (binA Pg .eql 2 true r21 (I 0)) fun r22 =>
 cndA r22
 (ob (partA false 2 1 b1) fun r23 =>
 ob (lenSA r23) fun r24 =>
 ob (binA Pg .leq 3 true r24 (I 256)) fun r25 =>
 f127_j29 r25 H Q)
 (f127_j29 (B false) H Q))
 (Q (B false) H)))) :=
  Ev_eq.trans (by kernel_rfl)
/-! ### 128 haruspex/haruspexref05.Quote -/
def f128_l16 (x0 : AV) (x4 : AV) (x5 : AV) (H : Heap) (Q : Post) : Prop := AtF Pg Hs 128 [1, 1, 1, 0, 1, 0] Q [(0, .val x0), (4, .val x4), (5, .val x5)] H
theorem f128_l16_eq (x0 : AV) (x4 : AV) (x5 : AV) (H : Heap) (Q : Post) : f128_l16 x0 x4 x5 H Q =
 ob (lenSA x0) fun r3 =>
 ob (binA Pg .lss 3 false x5 r3) fun r4 =>
 cndA r4
 (ob (ixA x0 x5) fun r5 =>
 E 158 [r5] H fun r6 H7 =>
 ob (binA Pg .add 9 false x4 r6) fun r8 =>
 ob (binA Pg .add 3 true x5 (I 1)) fun r9 =>
 f128_l16 x0 r8 r9 H7 Q)
 (ob (binA Pg .add 9 true x4 (S ⟨#[39]⟩)) fun r10 =>
 Q (AV.tup [r10, (I 0)]) H) :=
  (AtF_eq Pg Hs 128 [1, 1, 1, 0, 1, 0] Q _ H).trans (by kernel_rfl)
theorem f128_eq (a0 : AV) (H : Heap) (Q : Post) : E 128 [a0] H Q =
 ob (lenSA a0) fun r1 =>
 ob (binA Pg .gtr 3 true r1 (I 256)) fun r2 =>
 cndA r2
 (Q (AV.tup [(S ⟨#[]⟩), (I 2)]) H)
 (f128_l16 a0 (S ⟨#[39]⟩) (I 0) H Q) :=
  Ev_eq.trans (by kernel_rfl)
/-! ### 129 haruspex/expr.Size -/
noncomputable def f129_L8 (y3 : AV) : LoopInfo := loopF Pg Hs 129 [1, 1, 0, 1, 0] 8 [(3, .val y3)]
def f129_j12 (x3 : AV) (H : Heap) (Q : Post) : Prop := AtJ Pg Hs 129 [1, 1, 1] Q [(3, .val x3)] H
theorem f129_j12_eq (x3 : AV) (H : Heap) (Q : Post) : f129_j12 x3 H Q =
 ob (ldH H false 1 x3) fun r13 =>
 Q r13 H :=
  (AtJ_eq Pg Hs 129 [1, 1, 1] Q _ H).trans (by kernel_rfl)
theorem f129_y8_eq (y3 : AV) (l : Nat) (a0 a1 : AV) (H : Heap) (Q : Post) : EY Pg Hs (f129_L8 y3) l [a0, a1] H Q =
 beginA l H fun H14 =>
 ob (ldH H14 false 1 y3) fun r15 =>
 ob (binA Pg .add 3 true r15 (I 1)) fun r16 =>
 ob (stH H14 1 y3 r16) fun H17 =>
 endA l H17 true .ready Q := by kernel_rfl
theorem f129_eq (a0 : AV) (H : Heap) (Q : Post) : E 129 [a0] H Q =
 ob (sizedA 7 a0) fun b1 =>
 newH H [(I 0)] fun r2 H3 =>
 ob (stH H3 1 r2 (I 0)) fun H4 =>
 ob (partA true 0 7 b1) fun r5 =>
 E 84 [r5] H4 fun r6 H7 =>
 aroundA none H7 ∧ rngF (Ev Pg Hs) r6 (f129_L8 r2) H7 fun l8 H9 =>
 overA l8 H9 (fun H10 =>
 f129_j12 r2 H10 Q) (fun j H11 =>
 exA j 0 (f129_j12 r2 H11 Q) (False)) (fun H12 =>
 Q (I 0) H12) :=
  Ev_eq.trans (by kernel_rfl)
/-! ### 130 (haruspex/query.clauses).rest$1 -/
theorem f130_eq (a0 : AV) (H : Heap) (Q : Post) : E 130 [a0] H Q =
 ob (sizedA 7 a0) fun b1 =>
 ob (partA false 0 1 b1) fun r2 =>
 ob (binA Pg .eql 3 true r2 (I 16)) fun r3 =>
 Q r3 H :=
  Ev_eq.trans (by kernel_rfl)
/-! ### 131 (haruspex/query.clauses).rest$2 -/
def f131_j8 (x3 : AV) (H : Heap) (Q : Post) : Prop := AtJ Pg Hs 131 [1, 1, 1, 1] Q [(3, .val x3)] H
theorem f131_j8_eq (x3 : AV) (H : Heap) (Q : Post) : f131_j8 x3 H Q =
 Q x3 H :=
  (AtJ_eq Pg Hs 131 [1, 1, 1, 1] Q _ H).trans (by kernel_rfl)
theorem f131_eq (a0 a1 : AV) (H : Heap) (Q : Post) : E 131 [a0, a1] H Q =
 ob (sizedA 4 a0) fun b1 =>
 ob (ldH H false 1 a1) fun r2 =>
 ob (partA false 0 1 b1) fun r3 =>
 ob (lookA H (B false) r2 r3 false) fun r4 =>
 ob (ldH H false 1 a1) fun r5 =>
 ob (partA false 0 1 b1) fun r6 =>
 updA H r5 r6 (B true) fun H7 =>
 cndA r4
 (f131_j8 (B true) H7 Q)
 (ob (partA true 0 4 b1) fun r8 =>
 E 132 [r8] H7 fun r9 H10 =>
 ob (unA .not r9) fun r11 =>
 f131_j8 r11 H10 Q) :=
  Ev_eq.trans (by kernel_rfl)
/-! ### 132 haruspex/query.item -/
def f132_j5 (x1 : List AV) (x12 : AV) (H : Heap) (Q : Post) : Prop := AtJ Pg Hs 132 [1, 0, 1] Q [(1, .lbox x1), (12, .val x12)] H
def f132_j30 (x1 : List AV) (x20 : AV) (H : Heap) (Q : Post) : Prop := AtJ Pg Hs 132 [1, 1, 0, 1, 0, 1, 1, 1] Q [(1, .lbox x1), (20, .val x20)] H
theorem f132_j5_eq (x1 : List AV) (x12 : AV) (H : Heap) (Q : Post) : f132_j5 x1 x12 H Q =
 cndA x12
 (Q (B false) H)
 (ob (partA false 1 1 x1) fun r10 =>
 ob (binA Pg .eql 3 true r10 (I 3)) fun r11 =>
 cndA r11
 (ob (partA false 3 1 x1) fun r12 =>
 ob (binA Pg .eql 9 true r12 (S ⟨#[]⟩)) fun r13 =>
 Q r13 H)
 (ob (binA Pg .eql 3 true r10 (I 1)) fun r14 =>
 cndA r14
 (f132_j30 x1 r14 H Q)
 (ob (binA Pg .eql 3 true r10 (I 2)) fun r15 =>
 cndA r15
 (f132_j30 x1 r15 H Q)
 (ob (binA Pg .eql 3 true r10 (I 4)) fun r16 =>
 f132_j30 x1 r16 H Q)))) :=
  (AtJ_eq Pg Hs 132 [1, 0, 1] Q _ H).trans (by kernel_rfl)
theorem f132_j30_eq (x1 : List AV) (x20 : AV) (H : Heap) (Q : Post) : f132_j30 x1 x20 H Q =
 cndA x20
 (ob (partA false 3 1 x1) fun r17 =>
 E 118 [r17] H fun r18 H19 =>
 Q r18 H19)
 (Q (B false) H) :=
  (AtJ_eq Pg Hs 132 [1, 1, 0, 1, 0, 1, 1, 1] Q _ H).trans (by kernel_rfl)
theorem f132_eq (a0 : AV) (H : Heap) (Q : Post) : E 132 [a0] H Q =
 ob (sizedA 4 a0) fun b1 =>
 ob (partA false 0 1 b1) fun r2 =>
 E 118 [r2] H fun r3 H4 =>
 ob (unA .not r3) fun r5 =>
 cndA r5
 (f132_j5 b1 (B true) H4 Q)
 (ob (partA false 2 1 b1) fun r6 =>
 E 118 [r6] H4 fun r7 H8 =>
 ob (unA .not r7) fun r9 =>
 f132_j5 b1 r9 H8 Q) :=
  Ev_eq.trans (by kernel_rfl)
/-! ### 133 slices.ContainsFunc[[]haruspex/api.Item,haruspex/api.Item] -/
theorem f133_eq (a0 a1 : AV) (H : Heap) (Q : Post) : E 133 [a0, a1] H Q =
 E 159 [a0, a1] H fun r1 H2 =>
 ob (binA Pg .geq 3 true r1 (I 0)) fun r3 =>
 Q r3 H2 :=
  Ev_eq.trans (by kernel_rfl)
/-! ### 134 haruspex/pat.right -/
def f134_j4 (x1 : List AV) (x3 : AV) (H : Heap) (Q : Post) : Prop := AtJ Pg Hs 134 [1, 1] Q [(1, .lbox x1), (3, .val x3)] H
def f134_j14 (x1 : List AV) (x3 : AV) (x20 : AV) (x21 : AV) (H : Heap) (Q : Post) : Prop := AtJ Pg Hs 134 [1, 1, 0, 1, 0, 1] Q [(1, .lbox x1), (3, .val x3), (20, .val x20), (21, .val x21)] H
def f134_j17 (x2 : AV) (H : Heap) (Q : Post) : Prop := AtJ Pg Hs 134 [1, 1, 0, 1, 0, 1, 0, 1] Q [(2, .val x2)] H
def f134_j23 (x2 : AV) (H : Heap) (Q : Post) : Prop := AtJ Pg Hs 134 [1, 1, 0, 1, 0, 1, 1, 1, 0, 1] Q [(2, .val x2)] H
def f134_j34 (x1 : List AV) (x45 : AV) (H : Heap) (Q : Post) : Prop := AtJ Pg Hs 134 [1, 1, 0, 1, 0, 1, 1, 1, 1, 1] Q [(1, .lbox x1), (45, .val x45)] H
def f134_c12_9a (x1 : AV) (x4 : AV) (x58 : AV) (H : Heap) (Q : Post) : Prop := AtJ Pg Hs 134 [1, 1, 0, 1, 0, 1, 1, 1, 1, 1, 0, 1, 0, 9] Q [(1, .val x1), (4, .val x4), (58, .val x58)] H
def f134_c12_9b (x1 : AV) (x4 : AV) (H : Heap) (Q : Post) : Prop := AtJ Pg Hs 134 [1, 1, 0, 1, 0, 1, 1, 1, 1, 1, 0, 1, 0, 9] Q [(1, .val x1), (4, .val x4), (58, .val (B false))] H
def f134_c12_14a (x1 : AV) (x4 : AV) (x63 : AV) (H : Heap) (Q : Post) : Prop := AtJ Pg Hs 134 [1, 1, 0, 1, 0, 1, 1, 1, 1, 1, 0, 1, 0, 14] Q [(1, .val x1), (4, .val x4), (63, .val x63)] H
def f134_c12_14b (x1 : AV) (x4 : AV) (H : Heap) (Q : Post) : Prop := AtJ Pg Hs 134 [1, 1, 0, 1, 0, 1, 1, 1, 1, 1, 0, 1, 0, 14] Q [(1, .val x1), (4, .val x4), (63, .val (B false))] H
def f134_c12_19a (x1 : AV) (x4 : AV) (x68 : AV) (H : Heap) (Q : Post) : Prop := AtJ Pg Hs 134 [1, 1, 0, 1, 0, 1, 1, 1, 1, 1, 0, 1, 0, 19] Q [(1, .val x1), (4, .val x4), (68, .val x68)] H
def f134_c12_19b (x1 : AV) (x4 : AV) (H : Heap) (Q : Post) : Prop := AtJ Pg Hs 134 [1, 1, 0, 1, 0, 1, 1, 1, 1, 1, 0, 1, 0, 19] Q [(1, .val x1), (4, .val x4), (68, .val (B false))] H
def f134_c12_24a (x1 : AV) (x4 : AV) (x73 : AV) (H : Heap) (Q : Post) : Prop := AtJ Pg Hs 134 [1, 1, 0, 1, 0, 1, 1, 1, 1, 1, 0, 1, 0, 24] Q [(1, .val x1), (4, .val x4), (73, .val x73)] H
def f134_c12_24b (x1 : AV) (x4 : AV) (H : Heap) (Q : Post) : Prop := AtJ Pg Hs 134 [1, 1, 0, 1, 0, 1, 1, 1, 1, 1, 0, 1, 0, 24] Q [(1, .val x1), (4, .val x4), (73, .val (B false))] H
def f134_c12_31a (x80 : AV) (H : Heap) (Q : Post) : Prop := AtJ Pg Hs 134 [1, 1, 0, 1, 0, 1, 1, 1, 1, 1, 0, 1, 0, 31] Q [(80, .val x80)] H
def f134_c12_31b (H : Heap) (Q : Post) : Prop := AtJ Pg Hs 134 [1, 1, 0, 1, 0, 1, 1, 1, 1, 1, 0, 1, 0, 31] Q [(80, .val (B false))] H
def f134_j39 (x2 : AV) (H : Heap) (Q : Post) : Prop := AtJ Pg Hs 134 [1, 1, 0, 1, 0, 1, 1, 1, 1, 1, 0, 1, 1] Q [(2, .val x2)] H
theorem f134_j4_eq (x1 : List AV) (x3 : AV) (H : Heap) (Q : Post) : f134_j4 x1 x3 H Q =
 ob (partA false 0 1 x1) fun r11 =>
 ob (binA Pg .eql 3 true r11 (I 1)) fun r12 =>
 cndA r12
 (f134_j14 x1 x3 r11 r12 H Q)
 (ob (binA Pg .eql 3 true r11 (I 6)) fun r13 =>
 f134_j14 x1 x3 r11 r13 H Q) :=
  (AtJ_eq Pg Hs 134 [1, 1] Q _ H).trans (by kernel_rfl)
theorem f134_j14_eq (x1 : List AV) (x3 : AV) (x20 : AV) (x21 : AV) (H : Heap) (Q : Post) : f134_j14 x1 x3 x20 x21 H Q =
 cndA x21
 (cndA x3
 (ob (partA false 3 1 x1) fun r14 =>
 ob (binA Pg .eql 3 true r14 (I 0)) fun r15 =>
 cndA r15
 (ob (partA false 4 1 x1) fun r16 =>
 ob (binA Pg .eql 3 true r16 (I 0)) fun r17 =>
 f134_j17 r17 H Q)
 (f134_j17 (B false) H Q))
 (f134_j17 (B false) H Q))
 (ob (binA Pg .eql 3 true x20 (I 5)) fun r18 =>
 cndA r18
 (cndA x3
 (ob (partA false 3 1 x1) fun r19 =>
 ob (partA false 4 1 x1) fun r20 =>
 E 160 [r19, r20] H fun r21 H22 =>
 f134_j23 r21 H22 Q)
 (f134_j23 (B false) H Q))
 (ob (binA Pg .eql 3 true x20 (I 2)) fun r23 =>
 cndA r23
 (f134_j34 x1 r23 H Q)
 (ob (binA Pg .eql 3 true x20 (I 3)) fun r24 =>
 cndA r24
 (f134_j34 x1 r24 H Q)
 (ob (binA Pg .eql 3 true x20 (I 4)) fun r25 =>
 f134_j34 x1 r25 H Q)))) :=
  (AtJ_eq Pg Hs 134 [1, 1, 0, 1, 0, 1] Q _ H).trans (by kernel_rfl)
theorem f134_j17_eq (x2 : AV) (H : Heap) (Q : Post) : f134_j17 x2 H Q =
 Q x2 H :=
  (AtJ_eq Pg Hs 134 [1, 1, 0, 1, 0, 1, 0, 1] Q _ H).trans (by kernel_rfl)
theorem f134_j23_eq (x2 : AV) (H : Heap) (Q : Post) : f134_j23 x2 H Q =
 Q x2 H :=
  (AtJ_eq Pg Hs 134 [1, 1, 0, 1, 0, 1, 1, 1, 0, 1] Q _ H).trans (by kernel_rfl)
theorem f134_j34_eq (x1 : List AV) (x45 : AV) (H : Heap) (Q : Post) : f134_j34 x1 x45 H Q =
 cndA x45
 (newH H x1 fun r26 H27 =>
 ob (addPA r26 5) fun r28 =>
 ob (ldH H27 false 1 r28) fun r29 =>
 ob (lenA r29) fun r30 =>
 ob (binA Pg .geq 3 true r30 (I 2)) fun r31 =>
 cndA r31
 (ob (addPA r26 1) fun r32 =>
 ob (ldH H27 false 1 r32) fun r33 =>
 ob (binA Pg .eql 9 true r33 (S ⟨#[]⟩)) fun r34 =>
 f134_c12_9a r26 (AV.fn (.func 161) [] [r26]) r34 H27 Q)
 (f134_c12_9b r26 (AV.fn (.func 161) [] [r26]) H27 Q))
 (Q (B false) H) :=
  (AtJ_eq Pg Hs 134 [1, 1, 0, 1, 0, 1, 1, 1, 1, 1] Q _ H).trans (by kernel_rfl)
theorem f134_c12_9a_eq (x1 : AV) (x4 : AV) (x58 : AV) (H : Heap) (Q : Post) : f134_c12_9a x1 x4 x58 H Q =
 cndA x58
 (ob (addPA x1 2) fun r35 =>
 ob (ldH H false 1 r35) fun r36 =>
 ob (binA Pg .eql 9 true r36 (S ⟨#[]⟩)) fun r37 =>
 f134_c12_14a x1 x4 r37 H Q)
 (f134_c12_14b x1 x4 H Q) :=
  (AtJ_eq Pg Hs 134 [1, 1, 0, 1, 0, 1, 1, 1, 1, 1, 0, 1, 0, 9] Q _ H).trans (by kernel_rfl)
theorem f134_c12_9b_eq (x1 : AV) (x4 : AV) (H : Heap) (Q : Post) : f134_c12_9b x1 x4 H Q =
 f134_c12_14b x1 x4 H Q :=
  (AtJ_eq Pg Hs 134 [1, 1, 0, 1, 0, 1, 1, 1, 1, 1, 0, 1, 0, 9] Q _ H).trans (by kernel_rfl)
theorem f134_c12_14a_eq (x1 : AV) (x4 : AV) (x63 : AV) (H : Heap) (Q : Post) : f134_c12_14a x1 x4 x63 H Q =
 cndA x63
 (ob (addPA x1 3) fun r38 =>
 ob (ldH H false 1 r38) fun r39 =>
 ob (binA Pg .eql 3 true r39 (I 0)) fun r40 =>
 f134_c12_19a x1 x4 r40 H Q)
 (f134_c12_19b x1 x4 H Q) :=
  (AtJ_eq Pg Hs 134 [1, 1, 0, 1, 0, 1, 1, 1, 1, 1, 0, 1, 0, 14] Q _ H).trans (by kernel_rfl)
theorem f134_c12_14b_eq (x1 : AV) (x4 : AV) (H : Heap) (Q : Post) : f134_c12_14b x1 x4 H Q =
 f134_c12_19b x1 x4 H Q :=
  (AtJ_eq Pg Hs 134 [1, 1, 0, 1, 0, 1, 1, 1, 1, 1, 0, 1, 0, 14] Q _ H).trans (by kernel_rfl)
theorem f134_c12_19a_eq (x1 : AV) (x4 : AV) (x68 : AV) (H : Heap) (Q : Post) : f134_c12_19a x1 x4 x68 H Q =
 cndA x68
 (ob (addPA x1 4) fun r41 =>
 ob (ldH H false 1 r41) fun r42 =>
 ob (binA Pg .eql 3 true r42 (I 0)) fun r43 =>
 f134_c12_24a x1 x4 r43 H Q)
 (f134_c12_24b x1 x4 H Q) :=
  (AtJ_eq Pg Hs 134 [1, 1, 0, 1, 0, 1, 1, 1, 1, 1, 0, 1, 0, 19] Q _ H).trans (by kernel_rfl)
theorem f134_c12_19b_eq (x1 : AV) (x4 : AV) (H : Heap) (Q : Post) : f134_c12_19b x1 x4 H Q =
 f134_c12_24b x1 x4 H Q :=
  (AtJ_eq Pg Hs 134 [1, 1, 0, 1, 0, 1, 1, 1, 1, 1, 0, 1, 0, 19] Q _ H).trans (by kernel_rfl)
theorem f134_c12_24a_eq (x1 : AV) (x4 : AV) (x73 : AV) (H : Heap) (Q : Post) : f134_c12_24a x1 x4 x73 H Q =
 cndA x73
 (ob (addPA x1 5) fun r44 =>
 ob (ldH H false 1 r44) fun r45 =>
 E 71 [r45, x4] H fun r46 H47 =>
 ob (unA .not r46) fun r48 =>
 f134_c12_31a r48 H47 Q)
 (f134_c12_31b H Q) :=
  (AtJ_eq Pg Hs 134 [1, 1, 0, 1, 0, 1, 1, 1, 1, 1, 0, 1, 0, 24] Q _ H).trans (by kernel_rfl)
theorem f134_c12_24b_eq (x1 : AV) (x4 : AV) (H : Heap) (Q : Post) : f134_c12_24b x1 x4 H Q =
 f134_c12_31b H Q :=
  (AtJ_eq Pg Hs 134 [1, 1, 0, 1, 0, 1, 1, 1, 1, 1, 0, 1, 0, 24] Q _ H).trans (by kernel_rfl)
theorem f134_c12_31a_eq (x80 : AV) (H : Heap) (Q : Post) : f134_c12_31a x80 H Q =
 f134_j39 x80 H Q :=
  (AtJ_eq Pg Hs 134 [1, 1, 0, 1, 0, 1, 1, 1, 1, 1, 0, 1, 0, 31] Q _ H).trans (by kernel_rfl)
theorem f134_c12_31b_eq (H : Heap) (Q : Post) : f134_c12_31b H Q =
 f134_j39 (B false) H Q :=
  (AtJ_eq Pg Hs 134 [1, 1, 0, 1, 0, 1, 1, 1, 1, 1, 0, 1, 0, 31] Q _ H).trans (by kernel_rfl)
theorem f134_j39_eq (x2 : AV) (H : Heap) (Q : Post) : f134_j39 x2 H Q =
 Q x2 H :=
  (AtJ_eq Pg Hs 134 [1, 1, 0, 1, 0, 1, 1, 1, 1, 1, 0, 1, 1] Q _ H).trans (by kernel_rfl)
theorem f134_eq (a0 : AV) (H : Heap) (Q : Post) : E 134 [a0] H Q =
 ob (sizedA 6 a0) fun b1 =>
 ob (partA false 5 1 b1) fun r2 =>
 ob (lenA r2) fun r3 =>
 ob (binA Pg .eql 3 true r3 (I 0)) fun r4 =>
 cndA r4
 (ob (partA false 1 1 b1) fun r5 =>
 E 118 [r5] H fun r6 H7 =>
 cndA r6
 (ob (partA false 2 1 b1) fun r8 =>
 E 118 [r8] H7 fun r9 H10 =>
 f134_j4 b1 r9 H10 Q)
 (f134_j4 b1 (B false) H7 Q))
 (f134_j4 b1 (B false) H Q) :=
  Ev_eq.trans (by kernel_rfl)
/-! ### 135 haruspex/pat.once -/
def f135_l16 (x1 : List AV) (x4 : AV) (x19 : AV) (x20 : AV) (x21 : AV) (H : Heap) (Q : Post) : Prop := AtF Pg Hs 135 [1, 1, 1, 0, 1, 0] Q [(1, .lbox x1), (4, .val x4), (19, .val x19), (20, .val x20), (21, .val x21)] H
def f135_j31 (x1 : List AV) (x4 : AV) (x19 : AV) (x20 : AV) (x21 : AV) (x39 : AV) (H : Heap) (Q : Post) : Prop := AtJ Pg Hs 135 [1, 1, 1, 0, 1, 0, 0, 1, 1, 0, 0, 1, 1, 1] Q [(1, .lbox x1), (4, .val x4), (19, .val x19), (20, .val x20), (21, .val x21), (39, .val x39)] H
theorem f135_l16_eq (x1 : List AV) (x4 : AV) (x19 : AV) (x20 : AV) (x21 : AV) (H : Heap) (Q : Post) : f135_l16 x1 x4 x19 x20 x21 H Q =
 ob (binA Pg .lss 3 false x21 x20) fun r14 =>
 cndA r14
 (ob (ixaA 6 x19 x21) fun c15 =>
 ob (partA true 0 6 c15) fun r16 =>
 ob (sizedA 6 r16) fun b17 =>
 ob (spliceA 0 b17 [(I 0), (S ⟨#[]⟩), (S ⟨#[]⟩), (I 0), (I 0), (AV.sl 0 true .full [])]) fun b18 =>
 ob (partA true 0 6 b18) fun r19 =>
 E 135 [r19] H fun r20 H21 =>
 ob (extractA r20 0) fun r22 =>
 ob (extractA r20 1) fun r23 =>
 ob (unA .not r23) fun r24 =>
 cndA r24
 (f135_j31 x1 x4 x19 x20 x21 (B true) H21 Q)
 (ob (partA false 0 1 x1) fun r25 =>
 E 162 [x4, r25, r22] H21 fun r26 H27 =>
 ob (unA .not r26) fun r28 =>
 f135_j31 x1 x4 x19 x20 x21 r28 H27 Q))
 (Q (AV.tup [x4, (B true)]) H) :=
  (AtF_eq Pg Hs 135 [1, 1, 1, 0, 1, 0] Q _ H).trans (by kernel_rfl)
theorem f135_j31_eq (x1 : List AV) (x4 : AV) (x19 : AV) (x20 : AV) (x21 : AV) (x39 : AV) (H : Heap) (Q : Post) : f135_j31 x1 x4 x19 x20 x21 x39 H Q =
 cndA x39
 (Q (AV.tup [(AV.raw (.map none)), (B false)]) H)
 (ob (binA Pg .add 3 true x21 (I 1)) fun r29 =>
 f135_l16 x1 x4 x19 x20 r29 H Q) :=
  (AtJ_eq Pg Hs 135 [1, 1, 1, 0, 1, 0, 0, 1, 1, 0, 0, 1, 1, 1] Q _ H).trans (by kernel_rfl)
theorem f135_eq (a0 : AV) (H : Heap) (Q : Post) : E 135 [a0] H Q =
 ob (sizedA 6 a0) fun b1 =>
 ob (partA false 0 1 b1) fun r2 =>
 E 110 [r2] H fun r3 H4 =>
 cndA r3
 (mkMapA H4 fun r5 H6 =>
 ob (partA false 1 1 b1) fun r7 =>
 ob (partA true 0 6 b1) fun r8 =>
 updA H6 r5 r7 r8 fun H9 =>
 Q (AV.tup [r5, (B true)]) H9)
 (mkMapA H4 fun r10 H11 =>
 ob (partA false 5 1 b1) fun r12 =>
 ob (lenA r12) fun r13 =>
 f135_l16 b1 r10 r12 r13 (I 0) H11 Q) :=
  Ev_eq.trans (by kernel_rfl)
/-! ### 136 haruspex/pat.places -/
def f136_l6 (x1 : AV) (x2 : List AV) (x9 : AV) (x10 : AV) (x11 : AV) (H : Heap) (Q : Post) : Prop := AtF Pg Hs 136 [1, 0, 1, 0] Q [(1, .val x1), (2, .lbox x2), (9, .val x9), (10, .val x10), (11, .val x11)] H
def f136_c8_7a (x1 : AV) (x2 : List AV) (x5 : AV) (x6 : List AV) (x7 : AV) (x9 : AV) (x10 : AV) (x11 : AV) (H : Heap) (Q : Post) : Prop := AtJ Pg Hs 136 [1, 0, 1, 0, 0, 1, 1, 0, 0, 1, 1, 1, 0, 7] Q [(1, .val x1), (2, .lbox x2), (5, .val x5), (6, .lbox x6), (7, .val x7), (9, .val x9), (10, .val x10), (11, .val x11), (34, .val (B true))] H
def f136_c8_7b (x1 : AV) (x2 : List AV) (x5 : AV) (x6 : List AV) (x7 : AV) (x9 : AV) (x10 : AV) (x11 : AV) (x34 : AV) (H : Heap) (Q : Post) : Prop := AtJ Pg Hs 136 [1, 0, 1, 0, 0, 1, 1, 0, 0, 1, 1, 1, 0, 7] Q [(1, .val x1), (2, .lbox x2), (5, .val x5), (6, .lbox x6), (7, .val x7), (9, .val x9), (10, .val x10), (11, .val x11), (34, .val x34)] H
def f136_c8_17a (x1 : AV) (x2 : List AV) (x6 : List AV) (x7 : AV) (x9 : AV) (x10 : AV) (x11 : AV) (H : Heap) (Q : Post) : Prop := AtJ Pg Hs 136 [1, 0, 1, 0, 0, 1, 1, 0, 0, 1, 1, 1, 0, 17] Q [(1, .val x1), (2, .lbox x2), (6, .lbox x6), (7, .val x7), (9, .val x9), (10, .val x10), (11, .val x11), (44, .val (B true))] H
def f136_c8_17b (x1 : AV) (x2 : List AV) (x6 : List AV) (x7 : AV) (x9 : AV) (x10 : AV) (x11 : AV) (x44 : AV) (H : Heap) (Q : Post) : Prop := AtJ Pg Hs 136 [1, 0, 1, 0, 0, 1, 1, 0, 0, 1, 1, 1, 0, 17] Q [(1, .val x1), (2, .lbox x2), (6, .lbox x6), (7, .val x7), (9, .val x9), (10, .val x10), (11, .val x11), (44, .val x44)] H
def f136_c8_23a (x1 : AV) (x2 : List AV) (x6 : List AV) (x9 : AV) (x10 : AV) (x11 : AV) (H : Heap) (Q : Post) : Prop := AtJ Pg Hs 136 [1, 0, 1, 0, 0, 1, 1, 0, 0, 1, 1, 1, 0, 23] Q [(1, .val x1), (2, .lbox x2), (6, .lbox x6), (9, .val x9), (10, .val x10), (11, .val x11), (45, .val (B true)), (50, .nov)] H
def f136_c8_23b (x1 : AV) (x2 : List AV) (x6 : List AV) (x9 : AV) (x10 : AV) (x11 : AV) (x50 : AV) (H : Heap) (Q : Post) : Prop := AtJ Pg Hs 136 [1, 0, 1, 0, 0, 1, 1, 0, 0, 1, 1, 1, 0, 23] Q [(1, .val x1), (2, .lbox x2), (6, .lbox x6), (9, .val x9), (10, .val x10), (11, .val x11), (45, .val (B false)), (50, .val x50)] H
def f136_c8_23c (x1 : AV) (x2 : List AV) (x6 : List AV) (x9 : AV) (x10 : AV) (x11 : AV) (H : Heap) (Q : Post) : Prop := AtJ Pg Hs 136 [1, 0, 1, 0, 0, 1, 1, 0, 0, 1, 1, 1, 0, 23] Q [(1, .val x1), (2, .lbox x2), (6, .lbox x6), (9, .val x9), (10, .val x10), (11, .val x11), (45, .val (B false)), (50, .val (B false))] H
def f136_j35 (x1 : AV) (x2 : List AV) (x9 : AV) (x10 : AV) (x11 : AV) (x51 : AV) (H : Heap) (Q : Post) : Prop := AtJ Pg Hs 136 [1, 0, 1, 0, 0, 1, 1, 0, 0, 1, 1, 1, 1] Q [(1, .val x1), (2, .lbox x2), (9, .val x9), (10, .val x10), (11, .val x11), (51, .val x51)] H
theorem f136_l6_eq (x1 : AV) (x2 : List AV) (x9 : AV) (x10 : AV) (x11 : AV) (H : Heap) (Q : Post) : f136_l6 x1 x2 x9 x10 x11 H Q =
 ob (binA Pg .lss 3 false x11 x10) fun r4 =>
 cndA r4
 (ob (ixaA 6 x9 x11) fun c5 =>
 ob (partA true 0 6 c5) fun r6 =>
 ob (sizedA 6 r6) fun b7 =>
 ob (spliceA 0 b7 [(I 0), (S ⟨#[]⟩), (S ⟨#[]⟩), (I 0), (I 0), (AV.sl 0 true .full [])]) fun b8 =>
 ob (partA false 0 1 b8) fun r9 =>
 ob (binA Pg .neq 3 true r9 (I 6)) fun r10 =>
 cndA r10
 (ob (partA true 0 6 b8) fun r11 =>
 E 136 [r11, (B false)] H fun r12 H13 =>
 ob (unA .not r12) fun r14 =>
 cndA r14
 (Q (B false) H13)
 (ob (binA Pg .add 3 true x11 (I 1)) fun r15 =>
 f136_l6 x1 x2 x9 x10 r15 H13 Q))
 (ob (partA false 5 1 x2) fun r16 =>
 ob (lenA r16) fun r17 =>
 ob (binA Pg .sub 3 true r17 (I 1)) fun r18 =>
 ob (binA Pg .eql 3 false x11 r18) fun r19 =>
 ob (partA false 0 1 x2) fun r20 =>
 ob (binA Pg .neq 3 true r20 (I 2)) fun r21 =>
 cndA r21
 (f136_c8_7a x1 x2 x11 b8 r19 x9 x10 x11 H Q)
 (ob (binA Pg .eql 3 true x11 (I 0)) fun r22 =>
 f136_c8_7b x1 x2 x11 b8 r19 x9 x10 x11 r22 H Q)))
 (Q (B true) H) :=
  (AtF_eq Pg Hs 136 [1, 0, 1, 0] Q _ H).trans (by kernel_rfl)
theorem f136_c8_7a_eq (x1 : AV) (x2 : List AV) (x5 : AV) (x6 : List AV) (x7 : AV) (x9 : AV) (x10 : AV) (x11 : AV) (H : Heap) (Q : Post) : f136_c8_7a x1 x2 x5 x6 x7 x9 x10 x11 H Q =
 f136_c8_17a x1 x2 x6 x7 x9 x10 x11 H Q :=
  (AtJ_eq Pg Hs 136 [1, 0, 1, 0, 0, 1, 1, 0, 0, 1, 1, 1, 0, 7] Q _ H).trans (by kernel_rfl)
theorem f136_c8_7b_eq (x1 : AV) (x2 : List AV) (x5 : AV) (x6 : List AV) (x7 : AV) (x9 : AV) (x10 : AV) (x11 : AV) (x34 : AV) (H : Heap) (Q : Post) : f136_c8_7b x1 x2 x5 x6 x7 x9 x10 x11 x34 H Q =
 cndA x34
 (f136_c8_17a x1 x2 x6 x7 x9 x10 x11 H Q)
 (ob (partA false 5 1 x2) fun r23 =>
 ob (binA Pg .sub 3 true x5 (I 1)) fun r24 =>
 ob (ixaA 6 r23 r24) fun c25 =>
 ob (partA false 0 1 (c25.drop 0)) fun r26 =>
 ob (binA Pg .eql 3 true r26 (I 6)) fun r27 =>
 f136_c8_17b x1 x2 x6 x7 x9 x10 x11 r27 H Q) :=
  (AtJ_eq Pg Hs 136 [1, 0, 1, 0, 0, 1, 1, 0, 0, 1, 1, 1, 0, 7] Q _ H).trans (by kernel_rfl)
theorem f136_c8_17a_eq (x1 : AV) (x2 : List AV) (x6 : List AV) (x7 : AV) (x9 : AV) (x10 : AV) (x11 : AV) (H : Heap) (Q : Post) : f136_c8_17a x1 x2 x6 x7 x9 x10 x11 H Q =
 f136_c8_23a x1 x2 x6 x9 x10 x11 H Q :=
  (AtJ_eq Pg Hs 136 [1, 0, 1, 0, 0, 1, 1, 0, 0, 1, 1, 1, 0, 17] Q _ H).trans (by kernel_rfl)
theorem f136_c8_17b_eq (x1 : AV) (x2 : List AV) (x6 : List AV) (x7 : AV) (x9 : AV) (x10 : AV) (x11 : AV) (x44 : AV) (H : Heap) (Q : Post) : f136_c8_17b x1 x2 x6 x7 x9 x10 x11 x44 H Q =
 cndA x44
 (f136_c8_23a x1 x2 x6 x9 x10 x11 H Q)
 (cndA x7
 (ob (unA .not x1) fun r28 =>
 f136_c8_23b x1 x2 x6 x9 x10 x11 r28 H Q)
 (f136_c8_23c x1 x2 x6 x9 x10 x11 H Q)) :=
  (AtJ_eq Pg Hs 136 [1, 0, 1, 0, 0, 1, 1, 0, 0, 1, 1, 1, 0, 17] Q _ H).trans (by kernel_rfl)
theorem f136_c8_23a_eq (x1 : AV) (x2 : List AV) (x6 : List AV) (x9 : AV) (x10 : AV) (x11 : AV) (H : Heap) (Q : Post) : f136_c8_23a x1 x2 x6 x9 x10 x11 H Q =
 f136_j35 x1 x2 x9 x10 x11 (B true) H Q :=
  (AtJ_eq Pg Hs 136 [1, 0, 1, 0, 0, 1, 1, 0, 0, 1, 1, 1, 0, 23] Q _ H).trans (by kernel_rfl)
theorem f136_c8_23b_eq (x1 : AV) (x2 : List AV) (x6 : List AV) (x9 : AV) (x10 : AV) (x11 : AV) (x50 : AV) (H : Heap) (Q : Post) : f136_c8_23b x1 x2 x6 x9 x10 x11 x50 H Q =
 f136_j35 x1 x2 x9 x10 x11 x50 H Q :=
  (AtJ_eq Pg Hs 136 [1, 0, 1, 0, 0, 1, 1, 0, 0, 1, 1, 1, 0, 23] Q _ H).trans (by kernel_rfl)
theorem f136_c8_23c_eq (x1 : AV) (x2 : List AV) (x6 : List AV) (x9 : AV) (x10 : AV) (x11 : AV) (H : Heap) (Q : Post) : f136_c8_23c x1 x2 x6 x9 x10 x11 H Q =
 f136_j35 x1 x2 x9 x10 x11 (B false) H Q :=
  (AtJ_eq Pg Hs 136 [1, 0, 1, 0, 0, 1, 1, 0, 0, 1, 1, 1, 0, 23] Q _ H).trans (by kernel_rfl)
theorem f136_j35_eq (x1 : AV) (x2 : List AV) (x9 : AV) (x10 : AV) (x11 : AV) (x51 : AV) (H : Heap) (Q : Post) : f136_j35 x1 x2 x9 x10 x11 x51 H Q =
 cndA x51
 (Q (B false) H)
 (ob (binA Pg .add 3 true x11 (I 1)) fun r29 =>
 f136_l6 x1 x2 x9 x10 r29 H Q) :=
  (AtJ_eq Pg Hs 136 [1, 0, 1, 0, 0, 1, 1, 0, 0, 1, 1, 1, 1] Q _ H).trans (by kernel_rfl)
theorem f136_eq (a0 a1 : AV) (H : Heap) (Q : Post) : E 136 [a0, a1] H Q =
 ob (sizedA 6 a0) fun b1 =>
 ob (partA false 5 1 b1) fun r2 =>
 ob (lenA r2) fun r3 =>
 f136_l6 a1 b1 r2 r3 (I 0) H Q :=
  Ev_eq.trans (by kernel_rfl)
/-! ### 138 haruspex/num.table -/
theorem f138_eq (_u : Unit := ()) (H : Heap) (Q : Post) : E 138 [] H Q =
 newH H [(AV.raw (.int .u8 0)), (AV.raw (.int .u8 0)), (AV.raw (.int .u8 0)), (AV.raw (.int .u8 0)), (AV.raw (.int .u8 0)), (AV.raw (.int .u8 0)), (AV.raw (.int .u8 0)), (AV.raw (.int .u8 0)), (AV.raw (.int .u8 0)), (AV.raw (.int .u8 0))] fun r1 H2 =>
 ob (bldA [(0, 1, (AV.raw (.int .u8 48))), (1, 1, (AV.raw (.int .u8 49))), (2, 1, (AV.raw (.int .u8 50))), (3, 1, (AV.raw (.int .u8 51))), (4, 1, (AV.raw (.int .u8 52))), (5, 1, (AV.raw (.int .u8 53))), (6, 1, (AV.raw (.int .u8 54))), (7, 1, (AV.raw (.int .u8 55))), (8, 1, (AV.raw (.int .u8 56))), (9, 1, (AV.raw (.int .u8 57)))] [(AV.raw (.int .u8 0)), (AV.raw (.int .u8 0)), (AV.raw (.int .u8 0)), (AV.raw (.int .u8 0)), (AV.raw (.int .u8 0)), (AV.raw (.int .u8 0)), (AV.raw (.int .u8 0)), (AV.raw (.int .u8 0)), (AV.raw (.int .u8 0)), (AV.raw (.int .u8 0))]) fun r3 =>
 ob (stH H2 10 r1 r3) fun H4 =>
 ob (ldH H4 true 10 r1) fun r5 =>
 Q r5 H4 :=
  Ev_eq.trans (by kernel_rfl)
/-! ### 139 haruspex/haruspexref12.Deep -/
def f139_l8 (x1 : List AV) (x3 : AV) (x4 : AV) (H : Heap) (Q : Post) : Prop := AtF Pg Hs 139 [1, 1, 0, 1, 0] Q [(1, .lbox x1), (3, .val x3), (4, .val x4)] H
theorem f139_l8_eq (x1 : List AV) (x3 : AV) (x4 : AV) (H : Heap) (Q : Post) : f139_l8 x1 x3 x4 H Q =
 ob (partA false 5 1 x1) fun r2 =>
 ob (lenA r2) fun r3 =>
 ob (binA Pg .lss 3 false x4 r3) fun r4 =>
 cndA r4
 (ob (partA false 5 1 x1) fun r5 =>
 ob (ixaA 6 r5 x4) fun c6 =>
 ob (partA true 0 6 c6) fun r7 =>
 E 139 [r7] H fun r8 H9 =>
 ob (max2A x3 r8) fun r10 =>
 ob (binA Pg .add 3 true x4 (I 1)) fun r11 =>
 f139_l8 x1 r10 r11 H9 Q)
 (ob (binA Pg .add 3 true x3 (I 1)) fun r12 =>
 Q r12 H) :=
  (AtF_eq Pg Hs 139 [1, 1, 0, 1, 0] Q _ H).trans (by kernel_rfl)
theorem f139_eq (a0 : AV) (H : Heap) (Q : Post) : E 139 [a0] H Q =
 ob (sizedA 6 a0) fun b1 =>
 f139_l8 b1 (I 0) (I 0) H Q :=
  Ev_eq.trans (by kernel_rfl)
/-! ### 140 haruspex/haruspexref12.right -/
def f140_c2_8a (x1 : List AV) (H : Heap) (Q : Post) : Prop := AtJ Pg Hs 140 [1, 0, 1, 0, 0, 0, 8] Q [(1, .lbox x1), (13, .val (B true))] H
def f140_c2_8b (x1 : List AV) (x13 : AV) (H : Heap) (Q : Post) : Prop := AtJ Pg Hs 140 [1, 0, 1, 0, 0, 0, 8] Q [(1, .lbox x1), (13, .val x13)] H
def f140_j42 (x1 : List AV) (x70 : AV) (H : Heap) (Q : Post) : Prop := AtJ Pg Hs 140 [1, 1, 0, 1] Q [(1, .lbox x1), (70, .val x70)] H
def f140_c2_13a (x1 : List AV) (H : Heap) (Q : Post) : Prop := AtJ Pg Hs 140 [1, 0, 1, 0, 0, 0, 13] Q [(1, .lbox x1), (18, .val (B true))] H
def f140_c2_13b (x1 : List AV) (x18 : AV) (H : Heap) (Q : Post) : Prop := AtJ Pg Hs 140 [1, 0, 1, 0, 0, 0, 13] Q [(1, .lbox x1), (18, .val x18)] H
def f140_c13_8a (x1 : List AV) (x81 : AV) (H : Heap) (Q : Post) : Prop := AtJ Pg Hs 140 [1, 1, 1, 0, 1, 0, 0, 8] Q [(1, .lbox x1), (81, .val x81)] H
def f140_c13_8b (x1 : List AV) (H : Heap) (Q : Post) : Prop := AtJ Pg Hs 140 [1, 1, 1, 0, 1, 0, 0, 8] Q [(1, .lbox x1), (81, .val (B false))] H
def f140_c14_8a (x1 : List AV) (H : Heap) (Q : Post) : Prop := AtJ Pg Hs 140 [1, 1, 1, 1, 0, 8] Q [(1, .lbox x1), (117, .val (B true))] H
def f140_c14_8b (x1 : List AV) (x117 : AV) (H : Heap) (Q : Post) : Prop := AtJ Pg Hs 140 [1, 1, 1, 1, 0, 8] Q [(1, .lbox x1), (117, .val x117)] H
def f140_c2_18a (x1 : List AV) (H : Heap) (Q : Post) : Prop := AtJ Pg Hs 140 [1, 0, 1, 0, 0, 0, 18] Q [(1, .lbox x1), (23, .val (B true))] H
def f140_c2_18b (x1 : List AV) (x23 : AV) (H : Heap) (Q : Post) : Prop := AtJ Pg Hs 140 [1, 0, 1, 0, 0, 0, 18] Q [(1, .lbox x1), (23, .val x23)] H
def f140_c13_23a (x1 : List AV) (H : Heap) (Q : Post) : Prop := AtJ Pg Hs 140 [1, 1, 1, 0, 1, 0, 0, 23] Q [(1, .lbox x1), (82, .val (B true)), (86, .val (B true)), (96, .nov)] H
def f140_c13_23b (x1 : List AV) (x96 : AV) (H : Heap) (Q : Post) : Prop := AtJ Pg Hs 140 [1, 1, 1, 0, 1, 0, 0, 23] Q [(1, .lbox x1), (82, .val (B true)), (86, .val (B false)), (96, .val x96)] H
def f140_c13_23c (x1 : List AV) (H : Heap) (Q : Post) : Prop := AtJ Pg Hs 140 [1, 1, 1, 0, 1, 0, 0, 23] Q [(1, .lbox x1), (82, .val (B true)), (86, .val (B false)), (96, .val (B false))] H
def f140_c13_23d (x1 : List AV) (H : Heap) (Q : Post) : Prop := AtJ Pg Hs 140 [1, 1, 1, 0, 1, 0, 0, 23] Q [(1, .lbox x1), (82, .val (B false)), (86, .nov), (96, .nov)] H
def f140_c14_13a (x1 : List AV) (x122 : AV) (H : Heap) (Q : Post) : Prop := AtJ Pg Hs 140 [1, 1, 1, 1, 0, 13] Q [(1, .lbox x1), (122, .val x122)] H
def f140_c14_13b (x1 : List AV) (H : Heap) (Q : Post) : Prop := AtJ Pg Hs 140 [1, 1, 1, 1, 0, 13] Q [(1, .lbox x1), (122, .val (B false))] H
def f140_j9 (x1 : List AV) (x29 : AV) (H : Heap) (Q : Post) : Prop := AtJ Pg Hs 140 [1, 0, 1, 0, 0, 1] Q [(1, .lbox x1), (29, .val x29)] H
def f140_c13_24a (x1 : List AV) (H : Heap) (Q : Post) : Prop := AtJ Pg Hs 140 [1, 1, 1, 0, 1, 0, 0, 24] Q [(1, .lbox x1), (82, .val (B true)), (97, .val (B true))] H
def f140_c13_24b (x1 : List AV) (x97 : AV) (H : Heap) (Q : Post) : Prop := AtJ Pg Hs 140 [1, 1, 1, 0, 1, 0, 0, 24] Q [(1, .lbox x1), (82, .val (B true)), (97, .val x97)] H
def f140_c13_24c (x1 : List AV) (H : Heap) (Q : Post) : Prop := AtJ Pg Hs 140 [1, 1, 1, 0, 1, 0, 0, 24] Q [(1, .lbox x1), (82, .val (B true)), (97, .val (B false))] H
def f140_c13_24d (x1 : List AV) (H : Heap) (Q : Post) : Prop := AtJ Pg Hs 140 [1, 1, 1, 0, 1, 0, 0, 24] Q [(1, .lbox x1), (82, .val (B false)), (97, .nov)] H
def f140_c14_18a (x1 : List AV) (x127 : AV) (H : Heap) (Q : Post) : Prop := AtJ Pg Hs 140 [1, 1, 1, 1, 0, 18] Q [(1, .lbox x1), (127, .val x127)] H
def f140_c14_18b (x1 : List AV) (H : Heap) (Q : Post) : Prop := AtJ Pg Hs 140 [1, 1, 1, 1, 0, 18] Q [(1, .lbox x1), (127, .val (B false))] H
def f140_l18 (x1 : List AV) (x3 : AV) (H : Heap) (Q : Post) : Prop := AtF Pg Hs 140 [1, 0, 1, 0, 1, 0, 1, 0] Q [(1, .lbox x1), (3, .val x3)] H
def f140_c13_25a (x1 : List AV) (H : Heap) (Q : Post) : Prop := AtJ Pg Hs 140 [1, 1, 1, 0, 1, 0, 0, 25] Q [(1, .lbox x1), (98, .val (B true))] H
def f140_c13_25b (x1 : List AV) (x98 : AV) (H : Heap) (Q : Post) : Prop := AtJ Pg Hs 140 [1, 1, 1, 0, 1, 0, 0, 25] Q [(1, .lbox x1), (98, .val x98)] H
def f140_c13_25c (x1 : List AV) (H : Heap) (Q : Post) : Prop := AtJ Pg Hs 140 [1, 1, 1, 0, 1, 0, 0, 25] Q [(1, .lbox x1), (98, .val (B false))] H
def f140_j57 (x2 : AV) (H : Heap) (Q : Post) : Prop := AtJ Pg Hs 140 [1, 1, 1, 1, 1] Q [(2, .val x2)] H
def f140_j29 (x1 : List AV) (x3 : AV) (x54 : AV) (H : Heap) (Q : Post) : Prop := AtJ Pg Hs 140 [1, 0, 1, 0, 1, 0, 1, 0, 0, 1, 0, 0, 1] Q [(1, .lbox x1), (3, .val x3), (54, .val x54)] H
def f140_c13_34a (x1 : List AV) (x107 : AV) (H : Heap) (Q : Post) : Prop := AtJ Pg Hs 140 [1, 1, 1, 0, 1, 0, 0, 34] Q [(1, .lbox x1), (99, .val (B true)), (107, .val x107)] H
def f140_c13_34b (x1 : List AV) (H : Heap) (Q : Post) : Prop := AtJ Pg Hs 140 [1, 1, 1, 0, 1, 0, 0, 34] Q [(1, .lbox x1), (99, .val (B true)), (107, .val (B false))] H
def f140_c13_34c (x1 : List AV) (H : Heap) (Q : Post) : Prop := AtJ Pg Hs 140 [1, 1, 1, 0, 1, 0, 0, 34] Q [(1, .lbox x1), (99, .val (B false)), (107, .nov)] H
def f140_c13_36a (x1 : List AV) (x109 : AV) (H : Heap) (Q : Post) : Prop := AtJ Pg Hs 140 [1, 1, 1, 0, 1, 0, 0, 36] Q [(1, .lbox x1), (109, .val x109)] H
def f140_c13_36b (x1 : List AV) (H : Heap) (Q : Post) : Prop := AtJ Pg Hs 140 [1, 1, 1, 0, 1, 0, 0, 36] Q [(1, .lbox x1), (109, .val (B false))] H
def f140_j53 (x2 : AV) (H : Heap) (Q : Post) : Prop := AtJ Pg Hs 140 [1, 1, 1, 0, 1, 0, 1] Q [(2, .val x2)] H
theorem f140_c2_8a_eq (x1 : List AV) (H : Heap) (Q : Post) : f140_c2_8a x1 H Q =
 f140_c2_13a x1 H Q :=
  (AtJ_eq Pg Hs 140 [1, 0, 1, 0, 0, 0, 8] Q _ H).trans (by kernel_rfl)
theorem f140_c2_8b_eq (x1 : List AV) (x13 : AV) (H : Heap) (Q : Post) : f140_c2_8b x1 x13 H Q =
 cndA x13
 (f140_c2_13a x1 H Q)
 (ob (partA false 3 1 x1) fun r20 =>
 ob (binA Pg .neq 3 true r20 (I 0)) fun r21 =>
 f140_c2_13b x1 r21 H Q) :=
  (AtJ_eq Pg Hs 140 [1, 0, 1, 0, 0, 0, 8] Q _ H).trans (by kernel_rfl)
theorem f140_j42_eq (x1 : List AV) (x70 : AV) (H : Heap) (Q : Post) : f140_j42 x1 x70 H Q =
 cndA x70
 (Q (B false) H)
 (ob (partA false 0 1 x1) fun r22 =>
 ob (binA Pg .eql 3 true r22 (I 5)) fun r23 =>
 cndA r23
 (ob (partA false 3 1 x1) fun r24 =>
 ob (binA Pg .geq 3 true r24 (I 1)) fun r25 =>
 cndA r25
 (ob (partA false 3 1 x1) fun r26 =>
 ob (binA Pg .leq 3 true r26 (I 1000)) fun r27 =>
 f140_c13_8a x1 r27 H Q)
 (f140_c13_8b x1 H Q))
 (ob (partA false 0 1 x1) fun r28 =>
 ob (binA Pg .eql 3 true r28 (I 1)) fun r29 =>
 cndA r29
 (f140_c14_8a x1 H Q)
 (ob (partA false 0 1 x1) fun r30 =>
 ob (binA Pg .eql 3 true r30 (I 6)) fun r31 =>
 f140_c14_8b x1 r31 H Q))) :=
  (AtJ_eq Pg Hs 140 [1, 1, 0, 1] Q _ H).trans (by kernel_rfl)
theorem f140_c2_13a_eq (x1 : List AV) (H : Heap) (Q : Post) : f140_c2_13a x1 H Q =
 f140_c2_18a x1 H Q :=
  (AtJ_eq Pg Hs 140 [1, 0, 1, 0, 0, 0, 13] Q _ H).trans (by kernel_rfl)
theorem f140_c2_13b_eq (x1 : List AV) (x18 : AV) (H : Heap) (Q : Post) : f140_c2_13b x1 x18 H Q =
 cndA x18
 (f140_c2_18a x1 H Q)
 (ob (partA false 4 1 x1) fun r32 =>
 ob (binA Pg .neq 3 true r32 (I 0)) fun r33 =>
 f140_c2_18b x1 r33 H Q) :=
  (AtJ_eq Pg Hs 140 [1, 0, 1, 0, 0, 0, 13] Q _ H).trans (by kernel_rfl)
theorem f140_c13_8a_eq (x1 : List AV) (x81 : AV) (H : Heap) (Q : Post) : f140_c13_8a x1 x81 H Q =
 cndA x81
 (ob (partA false 4 1 x1) fun r34 =>
 ob (binA Pg .eql 3 true r34 (I 0)) fun r35 =>
 cndA r35
 (f140_c13_23a x1 H Q)
 (ob (partA false 4 1 x1) fun r36 =>
 ob (partA false 3 1 x1) fun r37 =>
 ob (binA Pg .geq 3 false r36 r37) fun r38 =>
 cndA r38
 (ob (partA false 4 1 x1) fun r39 =>
 ob (binA Pg .leq 3 true r39 (I 1000)) fun r40 =>
 f140_c13_23b x1 r40 H Q)
 (f140_c13_23c x1 H Q)))
 (f140_c13_23d x1 H Q) :=
  (AtJ_eq Pg Hs 140 [1, 1, 1, 0, 1, 0, 0, 8] Q _ H).trans (by kernel_rfl)
theorem f140_c13_8b_eq (x1 : List AV) (H : Heap) (Q : Post) : f140_c13_8b x1 H Q =
 f140_c13_23d x1 H Q :=
  (AtJ_eq Pg Hs 140 [1, 1, 1, 0, 1, 0, 0, 8] Q _ H).trans (by kernel_rfl)
theorem f140_c14_8a_eq (x1 : List AV) (H : Heap) (Q : Post) : f140_c14_8a x1 H Q =
 ob (partA false 3 1 x1) fun r41 =>
 ob (binA Pg .eql 3 true r41 (I 0)) fun r42 =>
 f140_c14_13a x1 r42 H Q :=
  (AtJ_eq Pg Hs 140 [1, 1, 1, 1, 0, 8] Q _ H).trans (by kernel_rfl)
theorem f140_c14_8b_eq (x1 : List AV) (x117 : AV) (H : Heap) (Q : Post) : f140_c14_8b x1 x117 H Q =
 cndA x117
 (ob (partA false 3 1 x1) fun r43 =>
 ob (binA Pg .eql 3 true r43 (I 0)) fun r44 =>
 f140_c14_13a x1 r44 H Q)
 (f140_c14_13b x1 H Q) :=
  (AtJ_eq Pg Hs 140 [1, 1, 1, 1, 0, 8] Q _ H).trans (by kernel_rfl)
theorem f140_c2_18a_eq (x1 : List AV) (H : Heap) (Q : Post) : f140_c2_18a x1 H Q =
 f140_j9 x1 (B true) H Q :=
  (AtJ_eq Pg Hs 140 [1, 0, 1, 0, 0, 0, 18] Q _ H).trans (by kernel_rfl)
theorem f140_c2_18b_eq (x1 : List AV) (x23 : AV) (H : Heap) (Q : Post) : f140_c2_18b x1 x23 H Q =
 cndA x23
 (f140_j9 x1 (B true) H Q)
 (ob (partA false 5 1 x1) fun r45 =>
 ob (lenA r45) fun r46 =>
 ob (binA Pg .lss 3 true r46 (I 2)) fun r47 =>
 f140_j9 x1 r47 H Q) :=
  (AtJ_eq Pg Hs 140 [1, 0, 1, 0, 0, 0, 18] Q _ H).trans (by kernel_rfl)
theorem f140_c13_23a_eq (x1 : List AV) (H : Heap) (Q : Post) : f140_c13_23a x1 H Q =
 f140_c13_24a x1 H Q :=
  (AtJ_eq Pg Hs 140 [1, 1, 1, 0, 1, 0, 0, 23] Q _ H).trans (by kernel_rfl)
theorem f140_c13_23b_eq (x1 : List AV) (x96 : AV) (H : Heap) (Q : Post) : f140_c13_23b x1 x96 H Q =
 f140_c13_24b x1 x96 H Q :=
  (AtJ_eq Pg Hs 140 [1, 1, 1, 0, 1, 0, 0, 23] Q _ H).trans (by kernel_rfl)
theorem f140_c13_23c_eq (x1 : List AV) (H : Heap) (Q : Post) : f140_c13_23c x1 H Q =
 f140_c13_24c x1 H Q :=
  (AtJ_eq Pg Hs 140 [1, 1, 1, 0, 1, 0, 0, 23] Q _ H).trans (by kernel_rfl)
theorem f140_c13_23d_eq (x1 : List AV) (H : Heap) (Q : Post) : f140_c13_23d x1 H Q =
 f140_c13_24d x1 H Q :=
  (AtJ_eq Pg Hs 140 [1, 1, 1, 0, 1, 0, 0, 23] Q _ H).trans (by kernel_rfl)
theorem f140_c14_13a_eq (x1 : List AV) (x122 : AV) (H : Heap) (Q : Post) : f140_c14_13a x1 x122 H Q =
 cndA x122
 (ob (partA false 4 1 x1) fun r48 =>
 ob (binA Pg .eql 3 true r48 (I 0)) fun r49 =>
 f140_c14_18a x1 r49 H Q)
 (f140_c14_18b x1 H Q) :=
  (AtJ_eq Pg Hs 140 [1, 1, 1, 1, 0, 13] Q _ H).trans (by kernel_rfl)
theorem f140_c14_13b_eq (x1 : List AV) (H : Heap) (Q : Post) : f140_c14_13b x1 H Q =
 f140_c14_18b x1 H Q :=
  (AtJ_eq Pg Hs 140 [1, 1, 1, 1, 0, 13] Q _ H).trans (by kernel_rfl)
theorem f140_j9_eq (x1 : List AV) (x29 : AV) (H : Heap) (Q : Post) : f140_j9 x1 x29 H Q =
 cndA x29
 (Q (B false) H)
 (f140_l18 x1 (I 0) H Q) :=
  (AtJ_eq Pg Hs 140 [1, 0, 1, 0, 0, 1] Q _ H).trans (by kernel_rfl)
theorem f140_c13_24a_eq (x1 : List AV) (H : Heap) (Q : Post) : f140_c13_24a x1 H Q =
 f140_c13_25a x1 H Q :=
  (AtJ_eq Pg Hs 140 [1, 1, 1, 0, 1, 0, 0, 24] Q _ H).trans (by kernel_rfl)
theorem f140_c13_24b_eq (x1 : List AV) (x97 : AV) (H : Heap) (Q : Post) : f140_c13_24b x1 x97 H Q =
 f140_c13_25b x1 x97 H Q :=
  (AtJ_eq Pg Hs 140 [1, 1, 1, 0, 1, 0, 0, 24] Q _ H).trans (by kernel_rfl)
theorem f140_c13_24c_eq (x1 : List AV) (H : Heap) (Q : Post) : f140_c13_24c x1 H Q =
 f140_c13_25c x1 H Q :=
  (AtJ_eq Pg Hs 140 [1, 1, 1, 0, 1, 0, 0, 24] Q _ H).trans (by kernel_rfl)
theorem f140_c13_24d_eq (x1 : List AV) (H : Heap) (Q : Post) : f140_c13_24d x1 H Q =
 f140_c13_25c x1 H Q :=
  (AtJ_eq Pg Hs 140 [1, 1, 1, 0, 1, 0, 0, 24] Q _ H).trans (by kernel_rfl)
theorem f140_c14_18a_eq (x1 : List AV) (x127 : AV) (H : Heap) (Q : Post) : f140_c14_18a x1 x127 H Q =
 f140_j57 x127 H Q :=
  (AtJ_eq Pg Hs 140 [1, 1, 1, 1, 0, 18] Q _ H).trans (by kernel_rfl)
theorem f140_c14_18b_eq (x1 : List AV) (H : Heap) (Q : Post) : f140_c14_18b x1 H Q =
 f140_j57 (B false) H Q :=
  (AtJ_eq Pg Hs 140 [1, 1, 1, 1, 0, 18] Q _ H).trans (by kernel_rfl)
theorem f140_l18_eq (x1 : List AV) (x3 : AV) (H : Heap) (Q : Post) : f140_l18 x1 x3 H Q =
 ob (partA false 5 1 x1) fun r50 =>
 ob (lenA r50) fun r51 =>
 ob (binA Pg .lss 3 false x3 r51) fun r52 =>
 cndA r52
 (ob (partA false 5 1 x1) fun r53 =>
 ob (ixaA 6 r53 x3) fun c54 =>
 ob (partA false 0 1 (c54.drop 0)) fun r55 =>
 ob (partA false 0 1 x1) fun r56 =>
 ob (binA Pg .eql 3 false r55 r56) fun r57 =>
 cndA r57
 (f140_j29 x1 x3 (B true) H Q)
 (ob (partA false 5 1 x1) fun r58 =>
 ob (ixaA 6 r58 x3) fun c59 =>
 ob (partA true 0 6 c59) fun r60 =>
 E 140 [r60] H fun r61 H62 =>
 ob (unA .not r61) fun r63 =>
 f140_j29 x1 x3 r63 H62 Q))
 (Q (B true) H) :=
  (AtF_eq Pg Hs 140 [1, 0, 1, 0, 1, 0, 1, 0] Q _ H).trans (by kernel_rfl)
theorem f140_c13_25a_eq (x1 : List AV) (H : Heap) (Q : Post) : f140_c13_25a x1 H Q =
 ob (partA false 3 1 x1) fun r64 =>
 ob (binA Pg .eql 3 true r64 (I 1)) fun r65 =>
 cndA r65
 (ob (partA false 4 1 x1) fun r66 =>
 ob (binA Pg .eql 3 true r66 (I 1)) fun r67 =>
 f140_c13_34a x1 r67 H Q)
 (f140_c13_34b x1 H Q) :=
  (AtJ_eq Pg Hs 140 [1, 1, 1, 0, 1, 0, 0, 25] Q _ H).trans (by kernel_rfl)
theorem f140_c13_25b_eq (x1 : List AV) (x98 : AV) (H : Heap) (Q : Post) : f140_c13_25b x1 x98 H Q =
 cndA x98
 (ob (partA false 3 1 x1) fun r68 =>
 ob (binA Pg .eql 3 true r68 (I 1)) fun r69 =>
 cndA r69
 (ob (partA false 4 1 x1) fun r70 =>
 ob (binA Pg .eql 3 true r70 (I 1)) fun r71 =>
 f140_c13_34a x1 r71 H Q)
 (f140_c13_34b x1 H Q))
 (f140_c13_34c x1 H Q) :=
  (AtJ_eq Pg Hs 140 [1, 1, 1, 0, 1, 0, 0, 25] Q _ H).trans (by kernel_rfl)
theorem f140_c13_25c_eq (x1 : List AV) (H : Heap) (Q : Post) : f140_c13_25c x1 H Q =
 f140_c13_34c x1 H Q :=
  (AtJ_eq Pg Hs 140 [1, 1, 1, 0, 1, 0, 0, 25] Q _ H).trans (by kernel_rfl)
theorem f140_j57_eq (x2 : AV) (H : Heap) (Q : Post) : f140_j57 x2 H Q =
 Q x2 H :=
  (AtJ_eq Pg Hs 140 [1, 1, 1, 1, 1] Q _ H).trans (by kernel_rfl)
theorem f140_j29_eq (x1 : List AV) (x3 : AV) (x54 : AV) (H : Heap) (Q : Post) : f140_j29 x1 x3 x54 H Q =
 cndA x54
 (Q (B false) H)
 (ob (binA Pg .add 3 true x3 (I 1)) fun r72 =>
 f140_l18 x1 r72 H Q) :=
  (AtJ_eq Pg Hs 140 [1, 0, 1, 0, 1, 0, 1, 0, 0, 1, 0, 0, 1] Q _ H).trans (by kernel_rfl)
theorem f140_c13_34a_eq (x1 : List AV) (x107 : AV) (H : Heap) (Q : Post) : f140_c13_34a x1 x107 H Q =
 ob (unA .not x107) fun r73 =>
 f140_c13_36a x1 r73 H Q :=
  (AtJ_eq Pg Hs 140 [1, 1, 1, 0, 1, 0, 0, 34] Q _ H).trans (by kernel_rfl)
theorem f140_c13_34b_eq (x1 : List AV) (H : Heap) (Q : Post) : f140_c13_34b x1 H Q =
 ob (unA .not (B false)) fun r74 =>
 f140_c13_36a x1 r74 H Q :=
  (AtJ_eq Pg Hs 140 [1, 1, 1, 0, 1, 0, 0, 34] Q _ H).trans (by kernel_rfl)
theorem f140_c13_34c_eq (x1 : List AV) (H : Heap) (Q : Post) : f140_c13_34c x1 H Q =
 f140_c13_36b x1 H Q :=
  (AtJ_eq Pg Hs 140 [1, 1, 1, 0, 1, 0, 0, 34] Q _ H).trans (by kernel_rfl)
theorem f140_c13_36a_eq (x1 : List AV) (x109 : AV) (H : Heap) (Q : Post) : f140_c13_36a x1 x109 H Q =
 f140_j53 x109 H Q :=
  (AtJ_eq Pg Hs 140 [1, 1, 1, 0, 1, 0, 0, 36] Q _ H).trans (by kernel_rfl)
theorem f140_c13_36b_eq (x1 : List AV) (H : Heap) (Q : Post) : f140_c13_36b x1 H Q =
 f140_j53 (B false) H Q :=
  (AtJ_eq Pg Hs 140 [1, 1, 1, 0, 1, 0, 0, 36] Q _ H).trans (by kernel_rfl)
theorem f140_j53_eq (x2 : AV) (H : Heap) (Q : Post) : f140_j53 x2 H Q =
 Q x2 H :=
  (AtJ_eq Pg Hs 140 [1, 1, 1, 0, 1, 0, 1] Q _ H).trans (by kernel_rfl)
theorem f140_eq (a0 : AV) (H : Heap) (Q : Post) : E 140 [a0] H Q =
 ob (sizedA 6 a0) fun b1 =>
 ob (partA true 0 6 b1) fun r2 =>
 E 163 [r2] H fun r3 H4 =>
 cndA r3
 (ob (partA false 1 1 b1) fun r5 =>
 ob (binA Pg .neq 9 true r5 (S ⟨#[]⟩)) fun r6 =>
 cndA r6
 (f140_c2_8a b1 H4 Q)
 (ob (partA false 2 1 b1) fun r7 =>
 ob (binA Pg .neq 9 true r7 (S ⟨#[]⟩)) fun r8 =>
 f140_c2_8b b1 r8 H4 Q))
 (ob (partA false 5 1 b1) fun r9 =>
 ob (lenA r9) fun r10 =>
 ob (binA Pg .neq 3 true r10 (I 0)) fun r11 =>
 cndA r11
 (f140_j42 b1 (B true) H4 Q)
 (ob (partA false 1 1 b1) fun r12 =>
 E 102 [r12] H4 fun r13 H14 =>
 ob (unA .not r13) fun r15 =>
 cndA r15
 (f140_j42 b1 (B true) H14 Q)
 (ob (partA false 2 1 b1) fun r16 =>
 E 102 [r16] H14 fun r17 H18 =>
 ob (unA .not r17) fun r19 =>
 f140_j42 b1 r19 H18 Q))) :=
  Ev_eq.trans (by kernel_rfl)
/-! ### 141 haruspex/haruspexref05.Sign -/
def f141_j4 (x2 : AV) (H : Heap) (Q : Post) : Prop := AtJ Pg Hs 141 [1, 1] Q [(2, .val x2)] H
theorem f141_j4_eq (x2 : AV) (H : Heap) (Q : Post) : f141_j4 x2 H Q =
 Q x2 H :=
  (AtJ_eq Pg Hs 141 [1, 1] Q _ H).trans (by kernel_rfl)
theorem f141_eq (a0 : AV) (H : Heap) (Q : Post) : E 141 [a0] H Q =
 E 142 [a0] H fun r1 H2 =>
 cndA r1
 (f141_j4 (B true) H2 Q)
 (E 164 [a0] H2 fun r3 H4 =>
 cndA r3
 (f141_j4 (B true) H4 Q)
 (ob (binA Pg .eql 5 true a0 (AV.raw (.int .u8 95))) fun r5 =>
 f141_j4 r5 H4 Q)) :=
  Ev_eq.trans (by kernel_rfl)
/-! ### 142 haruspex/haruspexref05.lower -/
def f142_j4 (x2 : AV) (H : Heap) (Q : Post) : Prop := AtJ Pg Hs 142 [1, 1] Q [(2, .val x2)] H
theorem f142_j4_eq (x2 : AV) (H : Heap) (Q : Post) : f142_j4 x2 H Q =
 Q x2 H :=
  (AtJ_eq Pg Hs 142 [1, 1] Q _ H).trans (by kernel_rfl)
theorem f142_eq (a0 : AV) (H : Heap) (Q : Post) : E 142 [a0] H Q =
 ob (binA Pg .geq 5 true a0 (AV.raw (.int .u8 97))) fun r1 =>
 cndA r1
 (ob (binA Pg .leq 5 true a0 (AV.raw (.int .u8 122))) fun r2 =>
 f142_j4 r2 H Q)
 (f142_j4 (B false) H Q) :=
  Ev_eq.trans (by kernel_rfl)
/-! ### 143 haruspex/haruspexref12.agree -/
def f143_j4 (x4 : AV) (H : Heap) (Q : Post) : Prop := AtJ Pg Hs 143 [1, 1] Q [(4, .val x4)] H
theorem f143_j4_eq (x4 : AV) (H : Heap) (Q : Post) : f143_j4 x4 H Q =
 Q x4 H :=
  (AtJ_eq Pg Hs 143 [1, 1] Q _ H).trans (by kernel_rfl)
theorem f143_eq (a0 a1 : AV) (H : Heap) (Q : Post) : E 143 [a0, a1] H Q =
 ob (sizedA 3 a0) fun b1 =>
 ob (sizedA 3 a1) fun b2 =>
 ob (partA false 1 1 b1) fun r3 =>
 ob (partA false 1 1 b2) fun r4 =>
 ob (binA Pg .eql 9 false r3 r4) fun r5 =>
 cndA r5
 (ob (partA false 2 1 b1) fun r6 =>
 ob (binA Pg .eql 3 true r6 (I 6)) fun r7 =>
 ob (partA false 2 1 b2) fun r8 =>
 ob (binA Pg .eql 3 true r8 (I 6)) fun r9 =>
 ob (binA Pg .eql 4 false r7 r9) fun r10 =>
 f143_j4 r10 H Q)
 (f143_j4 (B false) H Q) :=
  Ev_eq.trans (by kernel_rfl)
/-! ### 144 haruspex/pat.nodes$1 -/
theorem f144_eq (a0 a1 : AV) (H : Heap) (Q : Post) : E 144 [a0, a1] H Q =
 ob (sizedA 1 a0) fun b1 =>
 newH H b1 fun r2 H3 =>
 newH H3 [(AV.raw .nilFunc)] fun r4 H5 =>
 ob (stH H5 1 r4 (AV.fn (.func 145) [] [r2, r4])) fun H6 =>
 ob (ldH H6 false 1 r4) fun r7 =>
 ob (ldH H6 true 6 a1) fun r8 =>
 ob (bldA [(0, 6, r8), (6, 1, (I 1))] [(I 0), (S ⟨#[]⟩), (S ⟨#[]⟩), (I 0), (I 0), (AV.sl 0 true .full []), (I 0)]) fun r9 =>
 callA (Ev Pg Hs) r7 [r9] H6 fun r10 H11 =>
 Q (AV.tup []) H11 :=
  Ev_eq.trans (by kernel_rfl)
/-! ### 145 haruspex/pat.nodes$1$1 -/
def f145_l14 (x2 : AV) (x3 : List AV) (x13 : AV) (x14 : AV) (x15 : AV) (H : Heap) (Q : Post) : Prop := AtF Pg Hs 145 [1, 1, 0, 1, 0] Q [(2, .val x2), (3, .lbox x3), (13, .val x13), (14, .val x14), (15, .val x15)] H
theorem f145_l14_eq (x2 : AV) (x3 : List AV) (x13 : AV) (x14 : AV) (x15 : AV) (H : Heap) (Q : Post) : f145_l14 x2 x3 x13 x14 x15 H Q =
 ob (binA Pg .lss 3 false x15 x14) fun r9 =>
 cndA r9
 (ob (ixaA 6 x13 x15) fun c10 =>
 ob (partA true 0 6 c10) fun r11 =>
 ob (sizedA 6 r11) fun b12 =>
 ob (spliceA 0 b12 [(I 0), (S ⟨#[]⟩), (S ⟨#[]⟩), (I 0), (I 0), (AV.sl 0 true .full [])]) fun b13 =>
 ob (ldH H false 1 x2) fun r14 =>
 ob (partA true 0 6 b13) fun r15 =>
 ob (partA false 6 1 x3) fun r16 =>
 ob (binA Pg .add 3 true r16 (I 1)) fun r17 =>
 ob (bldA [(0, 6, r15), (6, 1, r17)] [(I 0), (S ⟨#[]⟩), (S ⟨#[]⟩), (I 0), (I 0), (AV.sl 0 true .full []), (I 0)]) fun r18 =>
 callA (Ev Pg Hs) r14 [r18] H fun r19 H20 =>
 ob (unA .not r19) fun r21 =>
 cndA r21
 (Q (B false) H20)
 (ob (binA Pg .add 3 true x15 (I 1)) fun r22 =>
 f145_l14 x2 x3 x13 x14 r22 H20 Q))
 (Q (B true) H) :=
  (AtF_eq Pg Hs 145 [1, 1, 0, 1, 0] Q _ H).trans (by kernel_rfl)
theorem f145_eq (a0 a1 a2 : AV) (H : Heap) (Q : Post) : E 145 [a0, a1, a2] H Q =
 ob (sizedA 7 a0) fun b1 =>
 ob (ldH H false 1 a1) fun r2 =>
 ob (partA true 0 7 b1) fun r3 =>
 callA (Ev Pg Hs) r2 [r3] H fun r4 H5 =>
 ob (unA .not r4) fun r6 =>
 cndA r6
 (Q (B false) H5)
 (ob (partA false 5 1 b1) fun r7 =>
 ob (lenA r7) fun r8 =>
 f145_l14 a2 b1 r7 r8 (I 0) H5 Q) :=
  Ev_eq.trans (by kernel_rfl)
/-! ### 146 slices.Index[[]string,string] -/
def f146_l6 (x0 : AV) (x1 : AV) (x7 : AV) (x8 : AV) (H : Heap) (Q : Post) : Prop := AtF Pg Hs 146 [1, 0, 1, 0] Q [(0, .val x0), (1, .val x1), (7, .val x7), (8, .val x8)] H
theorem f146_l6_eq (x0 : AV) (x1 : AV) (x7 : AV) (x8 : AV) (H : Heap) (Q : Post) : f146_l6 x0 x1 x7 x8 H Q =
 ob (binA Pg .lss 3 false x8 x7) fun r2 =>
 cndA r2
 (ob (ixaA 1 x0 x8) fun c3 =>
 ob (partA false 0 1 c3) fun r4 =>
 ob (binA Pg .eql 9 false x1 r4) fun r5 =>
 cndA r5
 (Q x8 H)
 (ob (binA Pg .add 3 true x8 (I 1)) fun r6 =>
 f146_l6 x0 x1 x7 r6 H Q))
 (Q (I (-1)) H) :=
  (AtF_eq Pg Hs 146 [1, 0, 1, 0] Q _ H).trans (by kernel_rfl)
theorem f146_eq (a0 a1 : AV) (H : Heap) (Q : Post) : E 146 [a0, a1] H Q =
 ob (lenA a0) fun r1 =>
 f146_l6 a0 a1 r1 (I 0) H Q :=
  Ev_eq.trans (by kernel_rfl)
/-! ### 147 (*haruspex/lex.scanner).blanks -/
def f147_l1 (x0 : AV) (H : Heap) (Q : Post) : Prop := AtF Pg Hs 147 [0] Q [(0, .val x0)] H
def f147_j5 (x0 : AV) (x23 : AV) (H : Heap) (Q : Post) : Prop := AtJ Pg Hs 147 [0, 0, 0, 1] Q [(0, .val x0), (23, .val x23)] H
theorem f147_l1_eq (x0 : AV) (H : Heap) (Q : Post) : f147_l1 x0 H Q =
 ob (nilA x0) fun r1 =>
 ob (addPA r1 1) fun r2 =>
 ob (ldH H false 1 r2) fun r3 =>
 ob (nilA x0) fun r4 =>
 ob (addPA r4 0) fun r5 =>
 ob (ldH H false 1 r5) fun r6 =>
 ob (lenSA r6) fun r7 =>
 ob (binA Pg .lss 3 false r3 r7) fun r8 =>
 cndA r8
 (ob (nilA x0) fun r9 =>
 ob (addPA r9 0) fun r10 =>
 ob (ldH H false 1 r10) fun r11 =>
 ob (nilA x0) fun r12 =>
 ob (addPA r12 1) fun r13 =>
 ob (ldH H false 1 r13) fun r14 =>
 ob (ixA r11 r14) fun r15 =>
 E 165 [r15] H fun r16 H17 =>
 f147_j5 x0 r16 H17 Q)
 (f147_j5 x0 (B false) H Q) :=
  (AtF_eq Pg Hs 147 [0] Q _ H).trans (by kernel_rfl)
theorem f147_j5_eq (x0 : AV) (x23 : AV) (H : Heap) (Q : Post) : f147_j5 x0 x23 H Q =
 cndA x23
 (ob (nilA x0) fun r18 =>
 ob (addPA r18 1) fun r19 =>
 ob (ldH H false 1 r19) fun r20 =>
 ob (binA Pg .add 3 true r20 (I 1)) fun r21 =>
 ob (nilA x0) fun r22 =>
 ob (addPA r22 1) fun r23 =>
 ob (stH H 1 r23 r21) fun H24 =>
 f147_l1 x0 H24 Q)
 (Q (AV.tup []) H) :=
  (AtJ_eq Pg Hs 147 [0, 0, 0, 1] Q _ H).trans (by kernel_rfl)
theorem f147_eq (a0 : AV) (H : Heap) (Q : Post) : E 147 [a0] H Q =
 f147_l1 a0 H Q :=
  Ev_eq.trans (by kernel_rfl)
/-! ### 149 (*haruspex/cond.parser).row -/
def f149_l6 (x0 : AV) (x1 : AV) (x2 : AV) (x3 : AV) (x8 : List AV) (x9 : AV) (H : Heap) (Q : Post) : Prop := AtF Pg Hs 149 [1, 1, 0, 0] Q [(0, .val x0), (1, .val x1), (2, .val x2), (3, .val x3), (8, .lbox x8), (9, .val x9)] H
def f149_j10 (x0 : AV) (x1 : AV) (x2 : AV) (x3 : AV) (x8 : List AV) (x9 : AV) (x25 : AV) (H : Heap) (Q : Post) : Prop := AtJ Pg Hs 149 [1, 1, 0, 0, 0, 0, 1] Q [(0, .val x0), (1, .val x1), (2, .val x2), (3, .val x3), (8, .lbox x8), (9, .val x9), (25, .val x25)] H
theorem f149_l6_eq (x0 : AV) (x1 : AV) (x2 : AV) (x3 : AV) (x8 : List AV) (x9 : AV) (H : Heap) (Q : Post) : f149_l6 x0 x1 x2 x3 x8 x9 H Q =
 ob (nilA x0) fun r4 =>
 ob (addPA r4 2) fun r5 =>
 ob (ldH H false 1 r5) fun r6 =>
 ob (binA Pg .eql 31 true r6 (I 0)) fun r7 =>
 cndA r7
 (ob (nilA x0) fun r8 =>
 ob (addPA r8 0) fun r9 =>
 ob (ldH H false 1 r9) fun r10 =>
 E 172 [r10, x2] H fun r11 H12 =>
 f149_j10 x0 x1 x2 x3 x8 x9 r11 H12 Q)
 (f149_j10 x0 x1 x2 x3 x8 x9 (B false) H Q) :=
  (AtF_eq Pg Hs 149 [1, 1, 0, 0] Q _ H).trans (by kernel_rfl)
theorem f149_j10_eq (x0 : AV) (x1 : AV) (x2 : AV) (x3 : AV) (x8 : List AV) (x9 : AV) (x25 : AV) (H : Heap) (Q : Post) : f149_j10 x0 x1 x2 x3 x8 x9 x25 H Q =
 cndA x25
 (callA (Ev Pg Hs) x3 [] H fun r13 H14 =>
 ob (mkSlA 7 [r13]) fun r15 =>
 appA 7 96 x9 r15 H14 fun r16 H17 =>
 f149_l6 x0 x1 x2 x3 x8 r16 H17 Q)
 (E 173 [x1, x9] H fun r18 H19 =>
 ob (sizedA 7 r18) fun b20 =>
 ob (spliceA 0 b20 x8) fun b21 =>
 ob (partA true 0 7 b21) fun r22 =>
 Q r22 H19) :=
  (AtJ_eq Pg Hs 149 [1, 1, 0, 0, 0, 0, 1] Q _ H).trans (by kernel_rfl)
theorem f149_eq (a0 a1 a2 a3 : AV) (H : Heap) (Q : Post) : E 149 [a0, a1, a2, a3] H Q =
 callA (Ev Pg Hs) a3 [] H fun r1 H2 =>
 ob (mkSlA 7 [r1]) fun r3 =>
 f149_l6 a0 a1 a2 a3 [(I 0), (I 0), (I 0), (S ⟨#[]⟩), (S ⟨#[]⟩), (S ⟨#[]⟩), (AV.sl 0 true .full [])] r3 H2 Q :=
  Ev_eq.trans (by kernel_rfl)
/-! ### 150 (*haruspex/cond.parser).and -/
theorem f150_eq (a0 : AV) (H : Heap) (Q : Post) : E 150 [a0] H Q =
 E 149 [a0, (I 16), (S ⟨#[65, 78, 68]⟩), (AV.fn (.func 174) [a0] [])] H fun r1 H2 =>
 ob (sizedA 7 r1) fun b3 =>
 ob (spliceA 0 b3 [(I 0), (I 0), (I 0), (S ⟨#[]⟩), (S ⟨#[]⟩), (S ⟨#[]⟩), (AV.sl 0 true .full [])]) fun b4 =>
 ob (partA true 0 7 b4) fun r5 =>
 Q r5 H2 :=
  Ev_eq.trans (by kernel_rfl)
/-! ### 151 haruspex/word.isSign -/
def f151_j4 (x2 : AV) (H : Heap) (Q : Post) : Prop := AtJ Pg Hs 151 [1, 1] Q [(2, .val x2)] H
theorem f151_j4_eq (x2 : AV) (H : Heap) (Q : Post) : f151_j4 x2 H Q =
 Q x2 H :=
  (AtJ_eq Pg Hs 151 [1, 1] Q _ H).trans (by kernel_rfl)
theorem f151_eq (a0 : AV) (H : Heap) (Q : Post) : E 151 [a0] H Q =
 E 152 [a0] H fun r1 H2 =>
 cndA r1
 (f151_j4 (B true) H2 Q)
 (E 175 [a0] H2 fun r3 H4 =>
 cndA r3
 (f151_j4 (B true) H4 Q)
 (ob (binA Pg .eql 21 true a0 (AV.raw (.int .i32 95))) fun r5 =>
 f151_j4 r5 H4 Q)) :=
  Ev_eq.trans (by kernel_rfl)
/-! ### 152 haruspex/word.isLower -/
def f152_j4 (x2 : AV) (H : Heap) (Q : Post) : Prop := AtJ Pg Hs 152 [1, 1] Q [(2, .val x2)] H
theorem f152_j4_eq (x2 : AV) (H : Heap) (Q : Post) : f152_j4 x2 H Q =
 Q x2 H :=
  (AtJ_eq Pg Hs 152 [1, 1] Q _ H).trans (by kernel_rfl)
theorem f152_eq (a0 : AV) (H : Heap) (Q : Post) : E 152 [a0] H Q =
 ob (binA Pg .geq 21 true a0 (AV.raw (.int .i32 97))) fun r1 =>
 cndA r1
 (ob (binA Pg .leq 21 true a0 (AV.raw (.int .i32 122))) fun r2 =>
 f152_j4 r2 H Q)
 (f152_j4 (B false) H Q) :=
  Ev_eq.trans (by kernel_rfl)
/-! ### 153 slices.IndexFunc[[]haruspex/api.Expr,haruspex/api.Expr] -/
def f153_l6 (x0 : AV) (x1 : AV) (x7 : AV) (x8 : AV) (H : Heap) (Q : Post) : Prop := AtF Pg Hs 153 [1, 0, 1, 0] Q [(0, .val x0), (1, .val x1), (7, .val x7), (8, .val x8)] H
theorem f153_l6_eq (x0 : AV) (x1 : AV) (x7 : AV) (x8 : AV) (H : Heap) (Q : Post) : f153_l6 x0 x1 x7 x8 H Q =
 ob (binA Pg .lss 3 false x8 x7) fun r2 =>
 cndA r2
 (ob (ixaA 7 x0 x8) fun c3 =>
 ob (partA true 0 7 c3) fun r4 =>
 callA (Ev Pg Hs) x1 [r4] H fun r5 H6 =>
 cndA r5
 (Q x8 H6)
 (ob (binA Pg .add 3 true x8 (I 1)) fun r7 =>
 f153_l6 x0 x1 x7 r7 H6 Q))
 (Q (I (-1)) H) :=
  (AtF_eq Pg Hs 153 [1, 0, 1, 0] Q _ H).trans (by kernel_rfl)
theorem f153_eq (a0 a1 : AV) (H : Heap) (Q : Post) : E 153 [a0, a1] H Q =
 ob (lenA a0) fun r1 =>
 f153_l6 a0 a1 r1 (I 0) H Q :=
  Ev_eq.trans (by kernel_rfl)
/-! ### 154 haruspex/value.Null -/
theorem f154_eq (_u : Unit := ()) (H : Heap) (Q : Post) : E 154 [] H Q =
 ob (bldA [] [(I 0), (I 0), (S ⟨#[]⟩)]) fun r1 =>
 ob (sizedA 3 r1) fun b2 =>
 ob (spliceA 0 b2 [(I 0), (I 0), (S ⟨#[]⟩)]) fun b3 =>
 ob (partA true 0 3 b3) fun r4 =>
 Q r4 H :=
  Ev_eq.trans (by kernel_rfl)
/-! ### 155 haruspex/value.Bool -/
def f155_j10 (x2 : List AV) (x3 : List AV) (H : Heap) (Q : Post) : Prop := AtJ Pg Hs 155 [1, 1, 1] Q [(2, .lbox x2), (3, .lbox x3)] H
theorem f155_j10_eq (x2 : List AV) (x3 : List AV) (H : Heap) (Q : Post) : f155_j10 x2 x3 H Q =
 ob (partA true 0 3 x3) fun r6 =>
 ob (sizedA 3 r6) fun b7 =>
 ob (spliceA 0 b7 x2) fun b8 =>
 ob (partA true 0 3 b8) fun r9 =>
 Q r9 H :=
  (AtJ_eq Pg Hs 155 [1, 1, 1] Q _ H).trans (by kernel_rfl)
theorem f155_eq (a0 : AV) (H : Heap) (Q : Post) : E 155 [a0] H Q =
 ob (bldA [(0, 1, (I 1))] [(I 0), (I 0), (S ⟨#[]⟩)]) fun r1 =>
 ob (sizedA 3 r1) fun b2 =>
 ob (spliceA 0 b2 [(I 0), (I 0), (S ⟨#[]⟩)]) fun b3 =>
 cndA a0
 (ob (sizedA 1 (I 1)) fun b4 =>
 ob (spliceA 1 b4 b3) fun b5 =>
 f155_j10 [(I 0), (I 0), (S ⟨#[]⟩)] b5 H Q)
 (f155_j10 [(I 0), (I 0), (S ⟨#[]⟩)] b3 H Q) :=
  Ev_eq.trans (by kernel_rfl)
/-! ### 156 haruspex/word.Quote -/
def f156_l18 (x4 : AV) (x5 : AV) (x14 : AV) (x15 : AV) (x16 : AV) (H : Heap) (Q : Post) : Prop := AtF Pg Hs 156 [1, 1, 1, 1, 0, 1, 0] Q [(4, .val x4), (5, .val x5), (14, .val x14), (15, .val x15), (16, .val x16)] H
def f156_j32 (x4 : AV) (x5 : AV) (x7 : AV) (x14 : AV) (x15 : AV) (x16 : AV) (x31 : AV) (H : Heap) (Q : Post) : Prop := AtJ Pg Hs 156 [1, 1, 1, 1, 0, 1, 0, 0, 1, 1, 0, 0, 1, 0, 1] Q [(4, .val x4), (5, .val x5), (7, .val x7), (14, .val x14), (15, .val x15), (16, .val x16), (31, .val x31)] H
theorem f156_l18_eq (x4 : AV) (x5 : AV) (x14 : AV) (x15 : AV) (x16 : AV) (H : Heap) (Q : Post) : f156_l18 x4 x5 x14 x15 x16 H Q =
 ob (binA Pg .lss 3 false x16 x15) fun r11 =>
 cndA r11
 (ob (ixaA 1 x14 x16) fun c12 =>
 ob (partA false 0 1 c12) fun r13 =>
 ob (binA Pg .eql 5 true r13 (AV.raw (.int .u8 39))) fun r14 =>
 cndA r14
 (f156_j32 x4 x5 r13 x14 x15 x16 (B true) H Q)
 (ob (binA Pg .eql 5 true r13 (AV.raw (.int .u8 92))) fun r15 =>
 f156_j32 x4 x5 r13 x14 x15 x16 r15 H Q))
 (ob (mkSlA 1 [(AV.raw (.int .u8 39))]) fun r16 =>
 appB 5 x5 r16 H fun r17 H18 =>
 bsA r17 fun r19 =>
 Q (AV.tup [r19, (I 0)]) H18) :=
  (AtF_eq Pg Hs 156 [1, 1, 1, 1, 0, 1, 0] Q _ H).trans (by kernel_rfl)
theorem f156_j32_eq (x4 : AV) (x5 : AV) (x7 : AV) (x14 : AV) (x15 : AV) (x16 : AV) (x31 : AV) (H : Heap) (Q : Post) : f156_j32 x4 x5 x7 x14 x15 x16 x31 H Q =
 cndA x31
 (ob (mkSlA 1 [(AV.raw (.int .u8 92)), x7]) fun r20 =>
 appB 5 x5 r20 H fun r21 H22 =>
 ob (binA Pg .add 3 true x16 (I 1)) fun r23 =>
 f156_l18 x4 r21 x14 x15 r23 H22 Q)
 (E 177 [x7] H fun r24 H25 =>
 cndA r24
 (ob (mkSlA 1 [x7]) fun r26 =>
 appB 5 x5 r26 H25 fun r27 H28 =>
 ob (binA Pg .add 3 true x16 (I 1)) fun r29 =>
 f156_l18 x4 r27 x14 x15 r29 H28 Q)
 (ob (binA Pg .shr 5 true x7 (AV.raw (.int .u64 4))) fun r30 =>
 ob (ixPA 16 1 x4 r30) fun r31 =>
 ob (ldH H25 false 1 r31) fun r32 =>
 ob (binA Pg .and 5 true x7 (AV.raw (.int .u8 15))) fun r33 =>
 ob (ixPA 16 1 x4 r33) fun r34 =>
 ob (ldH H25 false 1 r34) fun r35 =>
 ob (mkSlA 1 [(AV.raw (.int .u8 92)), (AV.raw (.int .u8 120)), r32, r35]) fun r36 =>
 appB 5 x5 r36 H25 fun r37 H38 =>
 ob (binA Pg .add 3 true x16 (I 1)) fun r39 =>
 f156_l18 x4 r37 x14 x15 r39 H38 Q)) :=
  (AtJ_eq Pg Hs 156 [1, 1, 1, 1, 0, 1, 0, 0, 1, 1, 0, 0, 1, 0, 1] Q _ H).trans (by kernel_rfl)
theorem f156_eq (a0 : AV) (H : Heap) (Q : Post) : E 156 [a0] H Q =
 ob (lenSA a0) fun r1 =>
 ob (binA Pg .gtr 3 true r1 (I 256)) fun r2 =>
 cndA r2
 (Q (AV.tup [(S ⟨#[]⟩), (I 2)]) H)
 (E 176 [] H fun r3 H4 =>
 newH H4 [(AV.raw (.int .u8 0)), (AV.raw (.int .u8 0)), (AV.raw (.int .u8 0)), (AV.raw (.int .u8 0)), (AV.raw (.int .u8 0)), (AV.raw (.int .u8 0)), (AV.raw (.int .u8 0)), (AV.raw (.int .u8 0)), (AV.raw (.int .u8 0)), (AV.raw (.int .u8 0)), (AV.raw (.int .u8 0)), (AV.raw (.int .u8 0)), (AV.raw (.int .u8 0)), (AV.raw (.int .u8 0)), (AV.raw (.int .u8 0)), (AV.raw (.int .u8 0))] fun r5 H6 =>
 ob (stH H6 16 r5 r3) fun H7 =>
 ob (mkSlA 1 [(AV.raw (.int .u8 39))]) fun r8 =>
 sbA a0 fun r9 =>
 ob (lenA r9) fun r10 =>
 f156_l18 r5 r8 r9 r10 (I 0) H7 Q) :=
  Ev_eq.trans (by kernel_rfl)
/-! ### 157 haruspex/cond.signs -/
theorem f157_eq (_u : Unit := ()) (H : Heap) (Q : Post) : E 157 [] H Q =
 newH H [(S ⟨#[]⟩), (I 0), (S ⟨#[]⟩), (I 0), (S ⟨#[]⟩), (I 0), (S ⟨#[]⟩), (I 0), (S ⟨#[]⟩), (I 0), (S ⟨#[]⟩), (I 0), (S ⟨#[]⟩), (I 0), (S ⟨#[]⟩), (I 0), (S ⟨#[]⟩), (I 0), (S ⟨#[]⟩), (I 0), (S ⟨#[]⟩), (I 0)] fun r1 H2 =>
 ob (bldA [(0, 1, (S ⟨#[43]⟩)), (1, 1, (I 4))] [(S ⟨#[]⟩), (I 0)]) fun r3 =>
 ob (bldA [(0, 1, (S ⟨#[45]⟩)), (1, 1, (I 5))] [(S ⟨#[]⟩), (I 0)]) fun r4 =>
 ob (bldA [(0, 1, (S ⟨#[42]⟩)), (1, 1, (I 6))] [(S ⟨#[]⟩), (I 0)]) fun r5 =>
 ob (bldA [(0, 1, (S ⟨#[47]⟩)), (1, 1, (I 7))] [(S ⟨#[]⟩), (I 0)]) fun r6 =>
 ob (bldA [(0, 1, (S ⟨#[37]⟩)), (1, 1, (I 8))] [(S ⟨#[]⟩), (I 0)]) fun r7 =>
 ob (bldA [(0, 1, (S ⟨#[61]⟩)), (1, 1, (I 9))] [(S ⟨#[]⟩), (I 0)]) fun r8 =>
 ob (bldA [(0, 1, (S ⟨#[60, 62]⟩)), (1, 1, (I 10))] [(S ⟨#[]⟩), (I 0)]) fun r9 =>
 ob (bldA [(0, 1, (S ⟨#[60]⟩)), (1, 1, (I 11))] [(S ⟨#[]⟩), (I 0)]) fun r10 =>
 ob (bldA [(0, 1, (S ⟨#[60, 61]⟩)), (1, 1, (I 12))] [(S ⟨#[]⟩), (I 0)]) fun r11 =>
 ob (bldA [(0, 1, (S ⟨#[62]⟩)), (1, 1, (I 13))] [(S ⟨#[]⟩), (I 0)]) fun r12 =>
 ob (bldA [(0, 1, (S ⟨#[62, 61]⟩)), (1, 1, (I 14))] [(S ⟨#[]⟩), (I 0)]) fun r13 =>
 ob (bldA [(0, 2, r3), (2, 2, r4), (4, 2, r5), (6, 2, r6), (8, 2, r7), (10, 2, r8), (12, 2, r9), (14, 2, r10), (16, 2, r11), (18, 2, r12), (20, 2, r13)] [(S ⟨#[]⟩), (I 0), (S ⟨#[]⟩), (I 0), (S ⟨#[]⟩), (I 0), (S ⟨#[]⟩), (I 0), (S ⟨#[]⟩), (I 0), (S ⟨#[]⟩), (I 0), (S ⟨#[]⟩), (I 0), (S ⟨#[]⟩), (I 0), (S ⟨#[]⟩), (I 0), (S ⟨#[]⟩), (I 0), (S ⟨#[]⟩), (I 0)]) fun r14 =>
 ob (stH H2 22 r1 r14) fun H15 =>
 ob (ldH H15 true 22 r1) fun r16 =>
 Q r16 H15 :=
  Ev_eq.trans (by kernel_rfl)
/-! ### 158 haruspex/haruspexref05.sign -/
def f158_j5 (x0 : AV) (x8 : AV) (H : Heap) (Q : Post) : Prop := AtJ Pg Hs 158 [1, 0, 1] Q [(0, .val x0), (8, .val x8)] H
theorem f158_j5_eq (x0 : AV) (x8 : AV) (H : Heap) (Q : Post) : f158_j5 x0 x8 H Q =
 cndA x8
 (ob (mkSlA 1 [(AV.raw (.int .u8 92)), x0]) fun r3 =>
 bsA r3 fun r4 =>
 Q r4 H)
 (E 178 [x0] H fun r5 H6 =>
 cndA r5
 (ob (mkSlA 1 [x0]) fun r7 =>
 bsA r7 fun r8 =>
 Q r8 H6)
 (ob (binA Pg .quo 5 true x0 (AV.raw (.int .u8 16))) fun r9 =>
 ob (ixA (S ⟨#[48, 49, 50, 51, 52, 53, 54, 55, 56, 57, 97, 98, 99, 100, 101, 102]⟩) r9) fun r10 =>
 ob (binA Pg .rem 5 true x0 (AV.raw (.int .u8 16))) fun r11 =>
 ob (ixA (S ⟨#[48, 49, 50, 51, 52, 53, 54, 55, 56, 57, 97, 98, 99, 100, 101, 102]⟩) r11) fun r12 =>
 ob (mkSlA 1 [(AV.raw (.int .u8 92)), (AV.raw (.int .u8 120)), r10, r12]) fun r13 =>
 bsA r13 fun r14 =>
 Q r14 H6)) :=
  (AtJ_eq Pg Hs 158 [1, 0, 1] Q _ H).trans (by kernel_rfl)
theorem f158_eq (a0 : AV) (H : Heap) (Q : Post) : E 158 [a0] H Q =
 ob (binA Pg .eql 5 true a0 (AV.raw (.int .u8 39))) fun r1 =>
 cndA r1
 (f158_j5 a0 (B true) H Q)
 (ob (binA Pg .eql 5 true a0 (AV.raw (.int .u8 92))) fun r2 =>
 f158_j5 a0 r2 H Q) :=
  Ev_eq.trans (by kernel_rfl)
/-! ### 159 slices.IndexFunc[[]haruspex/api.Item,haruspex/api.Item] -/
def f159_l6 (x0 : AV) (x1 : AV) (x7 : AV) (x8 : AV) (H : Heap) (Q : Post) : Prop := AtF Pg Hs 159 [1, 0, 1, 0] Q [(0, .val x0), (1, .val x1), (7, .val x7), (8, .val x8)] H
theorem f159_l6_eq (x0 : AV) (x1 : AV) (x7 : AV) (x8 : AV) (H : Heap) (Q : Post) : f159_l6 x0 x1 x7 x8 H Q =
 ob (binA Pg .lss 3 false x8 x7) fun r2 =>
 cndA r2
 (ob (ixaA 4 x0 x8) fun c3 =>
 ob (partA true 0 4 c3) fun r4 =>
 callA (Ev Pg Hs) x1 [r4] H fun r5 H6 =>
 cndA r5
 (Q x8 H6)
 (ob (binA Pg .add 3 true x8 (I 1)) fun r7 =>
 f159_l6 x0 x1 x7 r7 H6 Q))
 (Q (I (-1)) H) :=
  (AtF_eq Pg Hs 159 [1, 0, 1, 0] Q _ H).trans (by kernel_rfl)
theorem f159_eq (a0 a1 : AV) (H : Heap) (Q : Post) : E 159 [a0, a1] H Q =
 ob (lenA a0) fun r1 =>
 f159_l6 a0 a1 r1 (I 0) H Q :=
  Ev_eq.trans (by kernel_rfl)
/-! ### 160 haruspex/pat.count -/
def f160_j14 (x0 : AV) (x1 : AV) (x5 : AV) (H : Heap) (Q : Post) : Prop := AtJ Pg Hs 160 [1, 0, 0, 1] Q [(0, .val x0), (1, .val x1), (5, .val x5)] H
def f160_j27 (x4 : AV) (H : Heap) (Q : Post) : Prop := AtJ Pg Hs 160 [1, 1, 1] Q [(4, .val x4)] H
theorem f160_j14_eq (x0 : AV) (x1 : AV) (x5 : AV) (H : Heap) (Q : Post) : f160_j14 x0 x1 x5 H Q =
 cndA x5
 (Q (B false) H)
 (ob (binA Pg .eql 3 true x1 (I 0)) fun r4 =>
 cndA r4
 (Q (B true) H)
 (ob (binA Pg .geq 3 false x1 x0) fun r5 =>
 cndA r5
 (ob (binA Pg .gtr 3 true x1 (I 1)) fun r6 =>
 f160_j27 r6 H Q)
 (f160_j27 (B false) H Q))) :=
  (AtJ_eq Pg Hs 160 [1, 0, 0, 1] Q _ H).trans (by kernel_rfl)
theorem f160_j27_eq (x4 : AV) (H : Heap) (Q : Post) : f160_j27 x4 H Q =
 Q x4 H :=
  (AtJ_eq Pg Hs 160 [1, 1, 1] Q _ H).trans (by kernel_rfl)
theorem f160_eq (a0 a1 : AV) (H : Heap) (Q : Post) : E 160 [a0, a1] H Q =
 ob (binA Pg .lss 3 true a0 (I 1)) fun r1 =>
 cndA r1
 (f160_j14 a0 a1 r1 H Q)
 (ob (binA Pg .gtr 3 true a0 (I 1000)) fun r2 =>
 cndA r2
 (f160_j14 a0 a1 r2 H Q)
 (ob (binA Pg .gtr 3 true a1 (I 1000)) fun r3 =>
 f160_j14 a0 a1 r3 H Q)) :=
  Ev_eq.trans (by kernel_rfl)
/-! ### 161 haruspex/pat.right$1 -/
theorem f161_eq (a0 a1 : AV) (H : Heap) (Q : Post) : E 161 [a0, a1] H Q =
 ob (sizedA 6 a0) fun b1 =>
 ob (partA false 0 1 b1) fun r2 =>
 ob (addPA a1 0) fun r3 =>
 ob (ldH H false 1 r3) fun r4 =>
 ob (binA Pg .eql 3 false r2 r4) fun r5 =>
 Q r5 H :=
  Ev_eq.trans (by kernel_rfl)
/-! ### 162 (haruspex/pat.used).join -/
def f162_l6 (x0 : AV) (x1 : AV) (x2 : AV) (x14 : AV) (H : Heap) (Q : Post) : Prop := AtF Pg Hs 162 [1, 0, 1, 0] Q [(0, .val x0), (1, .val x1), (2, .val x2), (14, .val x14), (161, .undef)] H
def f162_j20 (x0 : AV) (x1 : AV) (x2 : AV) (x14 : AV) (x36 : AV) (H : Heap) (Q : Post) : Prop := AtJ Pg Hs 162 [1, 0, 1, 0, 0, 1, 1, 0, 1, 1, 1] Q [(0, .val x0), (1, .val x1), (2, .val x2), (14, .val x14), (36, .val x36), (161, .undef)] H
def f162_l29 (x0 : AV) (x38 : AV) (H : Heap) (Q : Post) : Prop := AtF Pg Hs 162 [1, 1, 0, 1, 0] Q [(0, .val x0), (38, .val x38)] H
theorem f162_l6_eq (x0 : AV) (x1 : AV) (x2 : AV) (x14 : AV) (H : Heap) (Q : Post) : f162_l6 x0 x1 x2 x14 H Q =
 nextM x14 H fun r3 H4 =>
 ob (extractA r3 0) fun r5 =>
 cndA r5
 (ob (entM H4 x14) fun r6 =>
 ob (extractA r6 0) fun r7 =>
 ob (extractA r6 1) fun r8 =>
 ob (sizedA 6 r8) fun b9 =>
 ob (spliceA 0 b9 [(I 0), (S ⟨#[]⟩), (S ⟨#[]⟩), (I 0), (I 0), (AV.sl 0 true .full [])]) fun b10 =>
 ob (lookA H4 (AV.agg [(I 0), (S ⟨#[]⟩), (S ⟨#[]⟩), (I 0), (I 0), (AV.sl 0 true .full [])]) x0 r7 true) fun r11 =>
 ob (extractA r11 0) fun r12 =>
 ob (extractA r11 1) fun r13 =>
 ob (sizedA 6 r12) fun b14 =>
 ob (spliceA 0 b14 [(I 0), (S ⟨#[]⟩), (S ⟨#[]⟩), (I 0), (I 0), (AV.sl 0 true .full [])]) fun b15 =>
 cndA r13
 (ob (binA Pg .neq 3 true x1 (I 4)) fun r16 =>
 cndA r16
 (f162_j20 x0 x1 x2 x14 (B true) H4 Q)
 (ob (partA true 0 6 b15) fun r17 =>
 ob (partA true 0 6 b10) fun r18 =>
 E 179 [r17, r18] H4 fun r19 H20 =>
 ob (unA .not r19) fun r21 =>
 f162_j20 x0 x1 x2 x14 r21 H20 Q))
 (f162_j20 x0 x1 x2 x14 (B false) H4 Q))
 (rngM x2 H4 fun r22 H23 =>
 f162_l29 x0 r22 H23 Q) :=
  (AtF_eq Pg Hs 162 [1, 0, 1, 0] Q _ H).trans (by kernel_rfl)
theorem f162_j20_eq (x0 : AV) (x1 : AV) (x2 : AV) (x14 : AV) (x36 : AV) (H : Heap) (Q : Post) : f162_j20 x0 x1 x2 x14 x36 H Q =
 cndA x36
 (Q (B false) H)
 (f162_l6 x0 x1 x2 x14 H Q) :=
  (AtJ_eq Pg Hs 162 [1, 0, 1, 0, 0, 1, 1, 0, 1, 1, 1] Q _ H).trans (by kernel_rfl)
theorem f162_l29_eq (x0 : AV) (x38 : AV) (H : Heap) (Q : Post) : f162_l29 x0 x38 H Q =
 nextM x38 H fun r24 H25 =>
 ob (extractA r24 0) fun r26 =>
 cndA r26
 (ob (entM H25 x38) fun r27 =>
 ob (extractA r27 0) fun r28 =>
 ob (extractA r27 1) fun r29 =>
 ob (sizedA 6 r29) fun b30 =>
 ob (spliceA 0 b30 [(I 0), (S ⟨#[]⟩), (S ⟨#[]⟩), (I 0), (I 0), (AV.sl 0 true .full [])]) fun b31 =>
 ob (partA true 0 6 b31) fun r32 =>
 updA H25 x0 r28 r32 fun H33 =>
 f162_l29 x0 x38 H33 Q)
 (Q (B true) H25) :=
  (AtF_eq Pg Hs 162 [1, 1, 0, 1, 0] Q _ H).trans (by kernel_rfl)
theorem f162_eq (a0 a1 a2 : AV) (H : Heap) (Q : Post) : E 162 [a0, a1, a2] H Q =
 rngM a2 H fun r1 H2 =>
 f162_l6 a0 a1 a2 r1 H2 Q :=
  Ev_eq.trans (by kernel_rfl)
/-! ### 163 haruspex/haruspexref12.Row -/
def f163_j4 (x2 : AV) (H : Heap) (Q : Post) : Prop := AtJ Pg Hs 163 [1, 1] Q [(2, .val x2)] H
theorem f163_j4_eq (x2 : AV) (H : Heap) (Q : Post) : f163_j4 x2 H Q =
 Q x2 H :=
  (AtJ_eq Pg Hs 163 [1, 1] Q _ H).trans (by kernel_rfl)
theorem f163_eq (a0 : AV) (H : Heap) (Q : Post) : E 163 [a0] H Q =
 ob (sizedA 6 a0) fun b1 =>
 ob (partA false 0 1 b1) fun r2 =>
 ob (binA Pg .eql 3 true r2 (I 2)) fun r3 =>
 cndA r3
 (f163_j4 (B true) H Q)
 (ob (partA false 0 1 b1) fun r4 =>
 ob (binA Pg .eql 3 true r4 (I 3)) fun r5 =>
 cndA r5
 (f163_j4 (B true) H Q)
 (ob (partA false 0 1 b1) fun r6 =>
 ob (binA Pg .eql 3 true r6 (I 4)) fun r7 =>
 f163_j4 r7 H Q)) :=
  Ev_eq.trans (by kernel_rfl)
/-! ### 164 haruspex/haruspexref05.digit -/
def f164_j4 (x2 : AV) (H : Heap) (Q : Post) : Prop := AtJ Pg Hs 164 [1, 1] Q [(2, .val x2)] H
theorem f164_j4_eq (x2 : AV) (H : Heap) (Q : Post) : f164_j4 x2 H Q =
 Q x2 H :=
  (AtJ_eq Pg Hs 164 [1, 1] Q _ H).trans (by kernel_rfl)
theorem f164_eq (a0 : AV) (H : Heap) (Q : Post) : E 164 [a0] H Q =
 ob (binA Pg .geq 5 true a0 (AV.raw (.int .u8 48))) fun r1 =>
 cndA r1
 (ob (binA Pg .leq 5 true a0 (AV.raw (.int .u8 57))) fun r2 =>
 f164_j4 r2 H Q)
 (f164_j4 (B false) H Q) :=
  Ev_eq.trans (by kernel_rfl)
/-! ### 165 haruspex/lex.isBlank -/
def f165_j4 (x2 : AV) (H : Heap) (Q : Post) : Prop := AtJ Pg Hs 165 [1, 1] Q [(2, .val x2)] H
theorem f165_j4_eq (x2 : AV) (H : Heap) (Q : Post) : f165_j4 x2 H Q =
 Q x2 H :=
  (AtJ_eq Pg Hs 165 [1, 1] Q _ H).trans (by kernel_rfl)
theorem f165_eq (a0 : AV) (H : Heap) (Q : Post) : E 165 [a0] H Q =
 ob (binA Pg .eql 5 true a0 (AV.raw (.int .u8 32))) fun r1 =>
 cndA r1
 (f165_j4 (B true) H Q)
 (ob (binA Pg .eql 5 true a0 (AV.raw (.int .u8 9))) fun r2 =>
 cndA r2
 (f165_j4 (B true) H Q)
 (ob (binA Pg .eql 5 true a0 (AV.raw (.int .u8 10))) fun r3 =>
 f165_j4 r3 H Q)) :=
  Ev_eq.trans (by kernel_rfl)
/-! ### 167 haruspex/lex.isUpper -/
def f167_j4 (x2 : AV) (H : Heap) (Q : Post) : Prop := AtJ Pg Hs 167 [1, 1] Q [(2, .val x2)] H
theorem f167_j4_eq (x2 : AV) (H : Heap) (Q : Post) : f167_j4 x2 H Q =
 Q x2 H :=
  (AtJ_eq Pg Hs 167 [1, 1] Q _ H).trans (by kernel_rfl)
theorem f167_eq (a0 : AV) (H : Heap) (Q : Post) : E 167 [a0] H Q =
 ob (binA Pg .geq 21 true a0 (AV.raw (.int .i32 65))) fun r1 =>
 cndA r1
 (ob (binA Pg .leq 21 true a0 (AV.raw (.int .i32 90))) fun r2 =>
 f167_j4 r2 H Q)
 (f167_j4 (B false) H Q) :=
  Ev_eq.trans (by kernel_rfl)
/-! ### 168 haruspex/lex.isLower -/
def f168_j4 (x2 : AV) (H : Heap) (Q : Post) : Prop := AtJ Pg Hs 168 [1, 1] Q [(2, .val x2)] H
theorem f168_j4_eq (x2 : AV) (H : Heap) (Q : Post) : f168_j4 x2 H Q =
 Q x2 H :=
  (AtJ_eq Pg Hs 168 [1, 1] Q _ H).trans (by kernel_rfl)
theorem f168_eq (a0 : AV) (H : Heap) (Q : Post) : E 168 [a0] H Q =
 ob (binA Pg .geq 21 true a0 (AV.raw (.int .i32 97))) fun r1 =>
 cndA r1
 (ob (binA Pg .leq 21 true a0 (AV.raw (.int .i32 122))) fun r2 =>
 f168_j4 r2 H Q)
 (f168_j4 (B false) H Q) :=
  Ev_eq.trans (by kernel_rfl)
/-! ### 169 haruspex/lex.isDigit -/
def f169_j4 (x2 : AV) (H : Heap) (Q : Post) : Prop := AtJ Pg Hs 169 [1, 1] Q [(2, .val x2)] H
theorem f169_j4_eq (x2 : AV) (H : Heap) (Q : Post) : f169_j4 x2 H Q =
 Q x2 H :=
  (AtJ_eq Pg Hs 169 [1, 1] Q _ H).trans (by kernel_rfl)
theorem f169_eq (a0 : AV) (H : Heap) (Q : Post) : E 169 [a0] H Q =
 ob (binA Pg .geq 21 true a0 (AV.raw (.int .i32 48))) fun r1 =>
 cndA r1
 (ob (binA Pg .leq 21 true a0 (AV.raw (.int .i32 57))) fun r2 =>
 f169_j4 r2 H Q)
 (f169_j4 (B false) H Q) :=
  Ev_eq.trans (by kernel_rfl)
/-! ### 170 (*haruspex/lex.scanner).letters -/
def f170_j41 (x0 : AV) (x1 : AV) (x4 : List AV) (x6 : AV) (H : Heap) (Q : Post) : Prop := AtJ Pg Hs 170 [1, 1, 1] Q [(0, .val x0), (1, .val x1), (4, .lbox x4), (6, .val x6)] H
def f170_j36 (x0 : AV) (x1 : AV) (x4 : List AV) (x6 : AV) (x28 : AV) (H : Heap) (Q : Post) : Prop := AtJ Pg Hs 170 [1, 1, 0, 1, 0, 1, 1, 1, 1, 1, 1] Q [(0, .val x0), (1, .val x1), (4, .lbox x4), (6, .val x6), (28, .val x28)] H
theorem f170_j41_eq (x0 : AV) (x1 : AV) (x4 : List AV) (x6 : AV) (H : Heap) (Q : Post) : f170_j41 x0 x1 x4 x6 H Q =
 E 184 [x0, x1, x6] H fun r35 H36 =>
 ob (sizedA 3 r35) fun b37 =>
 ob (spliceA 0 b37 x4) fun b38 =>
 ob (partA true 0 3 b38) fun r39 =>
 Q (AV.tup [r39, (B true)]) H36 :=
  (AtJ_eq Pg Hs 170 [1, 1, 1] Q _ H).trans (by kernel_rfl)
theorem f170_j36_eq (x0 : AV) (x1 : AV) (x4 : List AV) (x6 : AV) (x28 : AV) (H : Heap) (Q : Post) : f170_j36 x0 x1 x4 x6 x28 H Q =
 cndA x28
 (ob (bldA [] [(I 0), (S ⟨#[]⟩), (I 0)]) fun r40 =>
 ob (sizedA 3 r40) fun b41 =>
 ob (spliceA 0 b41 x4) fun b42 =>
 ob (partA true 0 3 b42) fun r43 =>
 Q (AV.tup [r43, (B false)]) H)
 (f170_j41 x0 x1 x4 x6 H Q) :=
  (AtJ_eq Pg Hs 170 [1, 1, 0, 1, 0, 1, 1, 1, 1, 1, 1] Q _ H).trans (by kernel_rfl)
theorem f170_eq (a0 a1 : AV) (H : Heap) (Q : Post) : E 170 [a0, a1] H Q =
 ob (binA Pg .eql 3 true a1 (I 1)) fun r1 =>
 cndA r1
 (E 181 [a0] H fun r2 H3 =>
 E 182 [r2, (AV.fn (.func 167) [] [])] H3 fun r4 H5 =>
 ob (binA Pg .gtr 3 true r4 (I 32)) fun r6 =>
 cndA r6
 (ob (bldA [] [(I 0), (S ⟨#[]⟩), (I 0)]) fun r7 =>
 ob (sizedA 3 r7) fun b8 =>
 ob (spliceA 0 b8 [(I 0), (S ⟨#[]⟩), (I 0)]) fun b9 =>
 ob (partA true 0 3 b9) fun r10 =>
 Q (AV.tup [r10, (B false)]) H5)
 (f170_j41 a0 a1 [(I 0), (S ⟨#[]⟩), (I 0)] r4 H5 Q))
 (ob (binA Pg .eql 3 true a1 (I 2)) fun r11 =>
 cndA r11
 (E 181 [a0] H fun r12 H13 =>
 E 182 [r12, (AV.fn (.func 183) [] [])] H13 fun r14 H15 =>
 ob (binA Pg .gtr 3 true r14 (I 32)) fun r16 =>
 cndA r16
 (ob (bldA [] [(I 0), (S ⟨#[]⟩), (I 0)]) fun r17 =>
 ob (sizedA 3 r17) fun b18 =>
 ob (spliceA 0 b18 [(I 0), (S ⟨#[]⟩), (I 0)]) fun b19 =>
 ob (partA true 0 3 b19) fun r20 =>
 Q (AV.tup [r20, (B false)]) H15)
 (f170_j41 a0 a1 [(I 0), (S ⟨#[]⟩), (I 0)] r14 H15 Q))
 (E 181 [a0] H fun r21 H22 =>
 E 182 [r21, (AV.fn (.func 169) [] [])] H22 fun r23 H24 =>
 ob (binA Pg .gtr 3 true r23 (I 19)) fun r25 =>
 cndA r25
 (f170_j36 a0 a1 [(I 0), (S ⟨#[]⟩), (I 0)] r23 (B true) H24 Q)
 (ob (binA Pg .gtr 3 true r23 (I 1)) fun r26 =>
 cndA r26
 (ob (nilA a0) fun r27 =>
 ob (addPA r27 0) fun r28 =>
 ob (ldH H24 false 1 r28) fun r29 =>
 ob (nilA a0) fun r30 =>
 ob (addPA r30 1) fun r31 =>
 ob (ldH H24 false 1 r31) fun r32 =>
 ob (ixA r29 r32) fun r33 =>
 ob (binA Pg .eql 5 true r33 (AV.raw (.int .u8 48))) fun r34 =>
 f170_j36 a0 a1 [(I 0), (S ⟨#[]⟩), (I 0)] r23 r34 H24 Q)
 (f170_j36 a0 a1 [(I 0), (S ⟨#[]⟩), (I 0)] r23 (B false) H24 Q)))) :=
  Ev_eq.trans (by kernel_rfl)
/-! ### 171 (*haruspex/lex.scanner).sign -/
def f171_l6 (x0 : AV) (x2 : List AV) (x6 : AV) (x7 : AV) (H : Heap) (Q : Post) : Prop := AtF Pg Hs 171 [1, 0, 1, 0] Q [(0, .val x0), (2, .lbox x2), (6, .val x6), (7, .val x7)] H
theorem f171_l6_eq (x0 : AV) (x2 : List AV) (x6 : AV) (x7 : AV) (H : Heap) (Q : Post) : f171_l6 x0 x2 x6 x7 H Q =
 ob (binA Pg .lss 3 true x7 (I 22)) fun r3 =>
 cndA r3
 (ob (ixAgg 22 false 1 x6 x7) fun r4 =>
 E 181 [x0] H fun r5 H6 =>
 E 186 [r5, r4] H6 fun r7 H8 =>
 cndA r7
 (ob (lenSA r4) fun r9 =>
 E 184 [x0, (I 5), r9] H8 fun r10 H11 =>
 ob (sizedA 3 r10) fun b12 =>
 ob (spliceA 0 b12 x2) fun b13 =>
 ob (partA true 0 3 b13) fun r14 =>
 Q (AV.tup [r14, (B true)]) H11)
 (ob (binA Pg .add 3 true x7 (I 1)) fun r15 =>
 f171_l6 x0 x2 x6 r15 H8 Q))
 (ob (bldA [] [(I 0), (S ⟨#[]⟩), (I 0)]) fun r16 =>
 ob (sizedA 3 r16) fun b17 =>
 ob (spliceA 0 b17 x2) fun b18 =>
 ob (partA true 0 3 b18) fun r19 =>
 Q (AV.tup [r19, (B false)]) H) :=
  (AtF_eq Pg Hs 171 [1, 0, 1, 0] Q _ H).trans (by kernel_rfl)
theorem f171_eq (a0 : AV) (H : Heap) (Q : Post) : E 171 [a0] H Q =
 E 185 [] H fun r1 H2 =>
 f171_l6 a0 [(I 0), (S ⟨#[]⟩), (I 0)] r1 (I 0) H2 Q :=
  Ev_eq.trans (by kernel_rfl)
/-! ### 172 (*haruspex/lex.Reader).Word -/
theorem f172_eq (a0 a1 : AV) (H : Heap) (Q : Post) : E 172 [a0, a1] H Q =
 E 187 [a0, (I 1), a1] H fun r1 H2 =>
 Q r1 H2 :=
  Ev_eq.trans (by kernel_rfl)
/-! ### 173 haruspex/expr.Join -/
def f173_l16 (x0 : AV) (x4 : List AV) (x5 : AV) (x12 : AV) (x13 : AV) (x14 : AV) (H : Heap) (Q : Post) : Prop := AtF Pg Hs 173 [1, 1, 1, 0, 1, 0] Q [(0, .val x0), (4, .lbox x4), (5, .val x5), (12, .val x12), (13, .val x13), (14, .val x14)] H
def f173_j32 (x0 : AV) (x4 : List AV) (x5 : AV) (x12 : AV) (x13 : AV) (x14 : AV) (H : Heap) (Q : Post) : Prop := AtJ Pg Hs 173 [1, 1, 1, 0, 1, 0, 0, 1, 1, 1] Q [(0, .val x0), (4, .lbox x4), (5, .val x5), (12, .val x12), (13, .val x13), (14, .val x14)] H
theorem f173_l16_eq (x0 : AV) (x4 : List AV) (x5 : AV) (x12 : AV) (x13 : AV) (x14 : AV) (H : Heap) (Q : Post) : f173_l16 x0 x4 x5 x12 x13 x14 H Q =
 ob (binA Pg .lss 3 false x14 x13) fun r9 =>
 cndA r9
 (ob (ixaA 7 x12 x14) fun c10 =>
 ob (partA true 0 7 c10) fun r11 =>
 ob (sizedA 7 r11) fun b12 =>
 ob (spliceA 0 b12 [(I 0), (I 0), (I 0), (S ⟨#[]⟩), (S ⟨#[]⟩), (S ⟨#[]⟩), (AV.sl 0 true .full [])]) fun b13 =>
 ob (partA false 0 1 b13) fun r14 =>
 ob (binA Pg .eql 3 false r14 x0) fun r15 =>
 cndA r15
 (ob (partA false 6 1 b13) fun r16 =>
 appA 7 96 x5 r16 H fun r17 H18 =>
 f173_j32 x0 x4 r17 x12 x13 x14 H18 Q)
 (ob (partA true 0 7 b13) fun r19 =>
 ob (mkSlA 7 [r19]) fun r20 =>
 appA 7 96 x5 r20 H fun r21 H22 =>
 f173_j32 x0 x4 r21 x12 x13 x14 H22 Q))
 (ob (lenA x5) fun r23 =>
 ob (binA Pg .eql 3 true r23 (I 0)) fun r24 =>
 cndA r24
 (ob (binA Pg .eql 3 true x0 (I 16)) fun r25 =>
 E 155 [r25] H fun r26 H27 =>
 ob (bldA [(0, 1, (I 1)), (1, 3, r26)] [(I 0), (I 0), (I 0), (S ⟨#[]⟩), (S ⟨#[]⟩), (S ⟨#[]⟩), (AV.sl 0 true .full [])]) fun r28 =>
 ob (sizedA 7 r28) fun b29 =>
 ob (spliceA 0 b29 x4) fun b30 =>
 ob (partA true 0 7 b30) fun r31 =>
 Q r31 H27)
 (ob (binA Pg .eql 3 true r23 (I 1)) fun r32 =>
 cndA r32
 (ob (ixaA 7 x5 (I 0)) fun c33 =>
 ob (partA true 0 7 c33) fun r34 =>
 ob (sizedA 7 r34) fun b35 =>
 ob (spliceA 0 b35 x4) fun b36 =>
 ob (partA true 0 7 b36) fun r37 =>
 Q r37 H)
 (ob (bldA [(0, 1, x0), (6, 1, x5)] [(I 0), (I 0), (I 0), (S ⟨#[]⟩), (S ⟨#[]⟩), (S ⟨#[]⟩), (AV.sl 0 true .full [])]) fun r38 =>
 ob (sizedA 7 r38) fun b39 =>
 ob (spliceA 0 b39 x4) fun b40 =>
 ob (partA true 0 7 b40) fun r41 =>
 Q r41 H))) :=
  (AtF_eq Pg Hs 173 [1, 1, 1, 0, 1, 0] Q _ H).trans (by kernel_rfl)
theorem f173_j32_eq (x0 : AV) (x4 : List AV) (x5 : AV) (x12 : AV) (x13 : AV) (x14 : AV) (H : Heap) (Q : Post) : f173_j32 x0 x4 x5 x12 x13 x14 H Q =
 ob (binA Pg .add 3 true x14 (I 1)) fun r42 =>
 f173_l16 x0 x4 x5 x12 x13 r42 H Q :=
  (AtJ_eq Pg Hs 173 [1, 1, 1, 0, 1, 0, 0, 1, 1, 1] Q _ H).trans (by kernel_rfl)
theorem f173_eq (a0 a1 : AV) (H : Heap) (Q : Post) : E 173 [a0, a1] H Q =
 E 121 [a0] H fun r1 H2 =>
 ob (unA .not r1) fun r3 =>
 cndA r3
 (ob (bldA [] [(I 0), (I 0), (I 0), (S ⟨#[]⟩), (S ⟨#[]⟩), (S ⟨#[]⟩), (AV.sl 0 true .full [])]) fun r4 =>
 ob (sizedA 7 r4) fun b5 =>
 ob (spliceA 0 b5 [(I 0), (I 0), (I 0), (S ⟨#[]⟩), (S ⟨#[]⟩), (S ⟨#[]⟩), (AV.sl 0 true .full [])]) fun b6 =>
 ob (partA true 0 7 b6) fun r7 =>
 Q r7 H2)
 (ob (lenA a1) fun r8 =>
 f173_l16 a0 [(I 0), (I 0), (I 0), (S ⟨#[]⟩), (S ⟨#[]⟩), (S ⟨#[]⟩), (AV.sl 0 true .full [])] (AV.sl 0 true .full []) a1 r8 (I 0) H2 Q) :=
  Ev_eq.trans (by kernel_rfl)
/-! ### 174 (*haruspex/cond.parser).not -/
theorem f174_eq (a0 : AV) (H : Heap) (Q : Post) : E 174 [a0] H Q =
 E 188 [a0, (I 1), (S ⟨#[78, 79, 84]⟩)] H fun r1 H2 =>
 ob (unA .not r1) fun r3 =>
 cndA r3
 (E 189 [a0] H2 fun r4 H5 =>
 ob (sizedA 7 r4) fun b6 =>
 ob (spliceA 0 b6 [(I 0), (I 0), (I 0), (S ⟨#[]⟩), (S ⟨#[]⟩), (S ⟨#[]⟩), (AV.sl 0 true .full [])]) fun b7 =>
 ob (partA true 0 7 b7) fun r8 =>
 Q r8 H5)
 (E 190 [a0, (AV.fn (.func 174) [a0] [])] H2 fun r9 H10 =>
 ob (mkSlA 7 [r9]) fun r11 =>
 ob (bldA [(0, 1, (I 15)), (6, 1, r11)] [(I 0), (I 0), (I 0), (S ⟨#[]⟩), (S ⟨#[]⟩), (S ⟨#[]⟩), (AV.sl 0 true .full [])]) fun r12 =>
 ob (sizedA 7 r12) fun b13 =>
 ob (spliceA 0 b13 [(I 0), (I 0), (I 0), (S ⟨#[]⟩), (S ⟨#[]⟩), (S ⟨#[]⟩), (AV.sl 0 true .full [])]) fun b14 =>
 ob (partA true 0 7 b14) fun r15 =>
 Q r15 H10) :=
  Ev_eq.trans (by kernel_rfl)
/-! ### 175 haruspex/word.isDigit -/
def f175_j4 (x2 : AV) (H : Heap) (Q : Post) : Prop := AtJ Pg Hs 175 [1, 1] Q [(2, .val x2)] H
theorem f175_j4_eq (x2 : AV) (H : Heap) (Q : Post) : f175_j4 x2 H Q =
 Q x2 H :=
  (AtJ_eq Pg Hs 175 [1, 1] Q _ H).trans (by kernel_rfl)
theorem f175_eq (a0 : AV) (H : Heap) (Q : Post) : E 175 [a0] H Q =
 ob (binA Pg .geq 21 true a0 (AV.raw (.int .i32 48))) fun r1 =>
 cndA r1
 (ob (binA Pg .leq 21 true a0 (AV.raw (.int .i32 57))) fun r2 =>
 f175_j4 r2 H Q)
 (f175_j4 (B false) H Q) :=
  Ev_eq.trans (by kernel_rfl)
/-! ### 176 haruspex/word.table -/
theorem f176_eq (_u : Unit := ()) (H : Heap) (Q : Post) : E 176 [] H Q =
 newH H [(AV.raw (.int .u8 0)), (AV.raw (.int .u8 0)), (AV.raw (.int .u8 0)), (AV.raw (.int .u8 0)), (AV.raw (.int .u8 0)), (AV.raw (.int .u8 0)), (AV.raw (.int .u8 0)), (AV.raw (.int .u8 0)), (AV.raw (.int .u8 0)), (AV.raw (.int .u8 0)), (AV.raw (.int .u8 0)), (AV.raw (.int .u8 0)), (AV.raw (.int .u8 0)), (AV.raw (.int .u8 0)), (AV.raw (.int .u8 0)), (AV.raw (.int .u8 0))] fun r1 H2 =>
 ob (bldA [(0, 1, (AV.raw (.int .u8 48))), (1, 1, (AV.raw (.int .u8 49))), (2, 1, (AV.raw (.int .u8 50))), (3, 1, (AV.raw (.int .u8 51))), (4, 1, (AV.raw (.int .u8 52))), (5, 1, (AV.raw (.int .u8 53))), (6, 1, (AV.raw (.int .u8 54))), (7, 1, (AV.raw (.int .u8 55))), (8, 1, (AV.raw (.int .u8 56))), (9, 1, (AV.raw (.int .u8 57))), (10, 1, (AV.raw (.int .u8 97))), (11, 1, (AV.raw (.int .u8 98))), (12, 1, (AV.raw (.int .u8 99))), (13, 1, (AV.raw (.int .u8 100))), (14, 1, (AV.raw (.int .u8 101))), (15, 1, (AV.raw (.int .u8 102)))] [(AV.raw (.int .u8 0)), (AV.raw (.int .u8 0)), (AV.raw (.int .u8 0)), (AV.raw (.int .u8 0)), (AV.raw (.int .u8 0)), (AV.raw (.int .u8 0)), (AV.raw (.int .u8 0)), (AV.raw (.int .u8 0)), (AV.raw (.int .u8 0)), (AV.raw (.int .u8 0)), (AV.raw (.int .u8 0)), (AV.raw (.int .u8 0)), (AV.raw (.int .u8 0)), (AV.raw (.int .u8 0)), (AV.raw (.int .u8 0)), (AV.raw (.int .u8 0))]) fun r3 =>
 ob (stH H2 16 r1 r3) fun H4 =>
 ob (ldH H4 true 16 r1) fun r5 =>
 Q r5 H4 :=
  Ev_eq.trans (by kernel_rfl)
/-! ### 177 haruspex/word.plain -/
def f177_j4 (x2 : AV) (H : Heap) (Q : Post) : Prop := AtJ Pg Hs 177 [1, 1] Q [(2, .val x2)] H
theorem f177_j4_eq (x2 : AV) (H : Heap) (Q : Post) : f177_j4 x2 H Q =
 Q x2 H :=
  (AtJ_eq Pg Hs 177 [1, 1] Q _ H).trans (by kernel_rfl)
theorem f177_eq (a0 : AV) (H : Heap) (Q : Post) : E 177 [a0] H Q =
 ob (binA Pg .geq 5 true a0 (AV.raw (.int .u8 32))) fun r1 =>
 cndA r1
 (ob (binA Pg .leq 5 true a0 (AV.raw (.int .u8 126))) fun r2 =>
 f177_j4 r2 H Q)
 (f177_j4 (B false) H Q) :=
  Ev_eq.trans (by kernel_rfl)
/-! ### 178 haruspex/haruspexref05.plain -/
def f178_j4 (x2 : AV) (H : Heap) (Q : Post) : Prop := AtJ Pg Hs 178 [1, 1] Q [(2, .val x2)] H
theorem f178_j4_eq (x2 : AV) (H : Heap) (Q : Post) : f178_j4 x2 H Q =
 Q x2 H :=
  (AtJ_eq Pg Hs 178 [1, 1] Q _ H).trans (by kernel_rfl)
theorem f178_eq (a0 : AV) (H : Heap) (Q : Post) : E 178 [a0] H Q =
 ob (binA Pg .geq 5 true a0 (AV.raw (.int .u8 32))) fun r1 =>
 cndA r1
 (ob (binA Pg .leq 5 true a0 (AV.raw (.int .u8 126))) fun r2 =>
 f178_j4 r2 H Q)
 (f178_j4 (B false) H Q) :=
  Ev_eq.trans (by kernel_rfl)
/-! ### 179 haruspex/pat.agree -/
def f179_j4 (x4 : AV) (H : Heap) (Q : Post) : Prop := AtJ Pg Hs 179 [1, 1] Q [(4, .val x4)] H
theorem f179_j4_eq (x4 : AV) (H : Heap) (Q : Post) : f179_j4 x4 H Q =
 Q x4 H :=
  (AtJ_eq Pg Hs 179 [1, 1] Q _ H).trans (by kernel_rfl)
theorem f179_eq (a0 a1 : AV) (H : Heap) (Q : Post) : E 179 [a0, a1] H Q =
 ob (sizedA 6 a0) fun b1 =>
 ob (sizedA 6 a1) fun b2 =>
 ob (partA false 2 1 b1) fun r3 =>
 ob (partA false 2 1 b2) fun r4 =>
 ob (binA Pg .eql 9 false r3 r4) fun r5 =>
 cndA r5
 (ob (partA false 0 1 b1) fun r6 =>
 ob (binA Pg .eql 3 true r6 (I 6)) fun r7 =>
 ob (partA false 0 1 b2) fun r8 =>
 ob (binA Pg .eql 3 true r8 (I 6)) fun r9 =>
 ob (binA Pg .eql 4 false r7 r9) fun r10 =>
 f179_j4 r10 H Q)
 (f179_j4 (B false) H Q) :=
  Ev_eq.trans (by kernel_rfl)
/-! ### 181 (*haruspex/lex.scanner).rest -/
theorem f181_eq (a0 : AV) (H : Heap) (Q : Post) : E 181 [a0] H Q =
 ob (nilA a0) fun r1 =>
 ob (addPA r1 0) fun r2 =>
 ob (ldH H false 1 r2) fun r3 =>
 ob (nilA a0) fun r4 =>
 ob (addPA r4 1) fun r5 =>
 ob (ldH H false 1 r5) fun r6 =>
 ob (sliceSA r3 (some r6) none) fun r7 =>
 Q r7 H :=
  Ev_eq.trans (by kernel_rfl)
/-! ### 182 haruspex/lex.run -/
def f182_l6 (x0 : AV) (x1 : AV) (x8 : AV) (H : Heap) (Q : Post) : Prop := AtF Pg Hs 182 [1, 0, 1, 0] Q [(0, .val x0), (1, .val x1), (8, .val x8)] H
theorem f182_l6_eq (x0 : AV) (x1 : AV) (x8 : AV) (H : Heap) (Q : Post) : f182_l6 x0 x1 x8 H Q =
 nextA x8 H fun r3 H4 =>
 ob (extractA r3 0) fun r5 =>
 cndA r5
 (ob (extractA r3 1) fun r6 =>
 ob (extractA r3 2) fun r7 =>
 callA (Ev Pg Hs) x1 [r7] H4 fun r8 H9 =>
 ob (unA .not r8) fun r10 =>
 cndA r10
 (Q r6 H9)
 (f182_l6 x0 x1 x8 H9 Q))
 (ob (lenSA x0) fun r11 =>
 Q r11 H4) :=
  (AtF_eq Pg Hs 182 [1, 0, 1, 0] Q _ H).trans (by kernel_rfl)
theorem f182_eq (a0 a1 : AV) (H : Heap) (Q : Post) : E 182 [a0, a1] H Q =
 rngA a0 H fun r1 H2 =>
 f182_l6 a0 a1 r1 H2 Q :=
  Ev_eq.trans (by kernel_rfl)
/-! ### 183 haruspex/lex.isSign -/
def f183_j4 (x2 : AV) (H : Heap) (Q : Post) : Prop := AtJ Pg Hs 183 [1, 1] Q [(2, .val x2)] H
theorem f183_j4_eq (x2 : AV) (H : Heap) (Q : Post) : f183_j4 x2 H Q =
 Q x2 H :=
  (AtJ_eq Pg Hs 183 [1, 1] Q _ H).trans (by kernel_rfl)
theorem f183_eq (a0 : AV) (H : Heap) (Q : Post) : E 183 [a0] H Q =
 E 168 [a0] H fun r1 H2 =>
 cndA r1
 (f183_j4 (B true) H2 Q)
 (E 169 [a0] H2 fun r3 H4 =>
 cndA r3
 (f183_j4 (B true) H4 Q)
 (ob (binA Pg .eql 21 true a0 (AV.raw (.int .i32 95))) fun r5 =>
 f183_j4 r5 H4 Q)) :=
  Ev_eq.trans (by kernel_rfl)
/-! ### 184 (*haruspex/lex.scanner).token -/
theorem f184_eq (a0 a1 a2 : AV) (H : Heap) (Q : Post) : E 184 [a0, a1, a2] H Q =
 ob (nilA a0) fun r1 =>
 ob (addPA r1 0) fun r2 =>
 ob (ldH H false 1 r2) fun r3 =>
 ob (nilA a0) fun r4 =>
 ob (addPA r4 1) fun r5 =>
 ob (ldH H false 1 r5) fun r6 =>
 ob (nilA a0) fun r7 =>
 ob (addPA r7 1) fun r8 =>
 ob (ldH H false 1 r8) fun r9 =>
 ob (binA Pg .add 3 false r9 a2) fun r10 =>
 ob (sliceSA r3 (some r6) (some r10)) fun r11 =>
 ob (nilA a0) fun r12 =>
 ob (addPA r12 1) fun r13 =>
 ob (ldH H false 1 r13) fun r14 =>
 ob (bldA [(0, 1, a1), (1, 1, r11), (2, 1, r14)] [(I 0), (S ⟨#[]⟩), (I 0)]) fun r15 =>
 ob (sizedA 3 r15) fun b16 =>
 ob (spliceA 0 b16 [(I 0), (S ⟨#[]⟩), (I 0)]) fun b17 =>
 ob (nilA a0) fun r18 =>
 ob (addPA r18 1) fun r19 =>
 ob (ldH H false 1 r19) fun r20 =>
 ob (binA Pg .add 3 false r20 a2) fun r21 =>
 ob (nilA a0) fun r22 =>
 ob (addPA r22 1) fun r23 =>
 ob (stH H 1 r23 r21) fun H24 =>
 ob (partA true 0 3 b17) fun r25 =>
 ob (sizedA 3 r25) fun b26 =>
 ob (spliceA 0 b26 [(I 0), (S ⟨#[]⟩), (I 0)]) fun b27 =>
 ob (partA true 0 3 b27) fun r28 =>
 Q r28 H24 :=
  Ev_eq.trans (by kernel_rfl)
/-! ### 185 haruspex/lex.signs -/
theorem f185_eq (_u : Unit := ()) (H : Heap) (Q : Post) : E 185 [] H Q =
 newH H [(S ⟨#[]⟩), (S ⟨#[]⟩), (S ⟨#[]⟩), (S ⟨#[]⟩), (S ⟨#[]⟩), (S ⟨#[]⟩), (S ⟨#[]⟩), (S ⟨#[]⟩), (S ⟨#[]⟩), (S ⟨#[]⟩), (S ⟨#[]⟩), (S ⟨#[]⟩), (S ⟨#[]⟩), (S ⟨#[]⟩), (S ⟨#[]⟩), (S ⟨#[]⟩), (S ⟨#[]⟩), (S ⟨#[]⟩), (S ⟨#[]⟩), (S ⟨#[]⟩), (S ⟨#[]⟩), (S ⟨#[]⟩)] fun r1 H2 =>
 ob (bldA [(0, 1, (S ⟨#[60, 61]⟩)), (1, 1, (S ⟨#[62, 61]⟩)), (2, 1, (S ⟨#[60, 62]⟩)), (3, 1, (S ⟨#[45, 62]⟩)), (4, 1, (S ⟨#[40]⟩)), (5, 1, (S ⟨#[41]⟩)), (6, 1, (S ⟨#[44]⟩)), (7, 1, (S ⟨#[46]⟩)), (8, 1, (S ⟨#[43]⟩)), (9, 1, (S ⟨#[45]⟩)), (10, 1, (S ⟨#[42]⟩)), (11, 1, (S ⟨#[47]⟩)), (12, 1, (S ⟨#[37]⟩)), (13, 1, (S ⟨#[61]⟩)), (14, 1, (S ⟨#[60]⟩)), (15, 1, (S ⟨#[62]⟩)), (16, 1, (S ⟨#[33]⟩)), (17, 1, (S ⟨#[124]⟩)), (18, 1, (S ⟨#[123]⟩)), (19, 1, (S ⟨#[125]⟩)), (20, 1, (S ⟨#[91]⟩)), (21, 1, (S ⟨#[93]⟩))] [(S ⟨#[]⟩), (S ⟨#[]⟩), (S ⟨#[]⟩), (S ⟨#[]⟩), (S ⟨#[]⟩), (S ⟨#[]⟩), (S ⟨#[]⟩), (S ⟨#[]⟩), (S ⟨#[]⟩), (S ⟨#[]⟩), (S ⟨#[]⟩), (S ⟨#[]⟩), (S ⟨#[]⟩), (S ⟨#[]⟩), (S ⟨#[]⟩), (S ⟨#[]⟩), (S ⟨#[]⟩), (S ⟨#[]⟩), (S ⟨#[]⟩), (S ⟨#[]⟩), (S ⟨#[]⟩), (S ⟨#[]⟩)]) fun r3 =>
 ob (stH H2 22 r1 r3) fun H4 =>
 ob (ldH H4 true 22 r1) fun r5 =>
 Q r5 H4 :=
  Ev_eq.trans (by kernel_rfl)
/-! ### 186 haruspex/lex.begins -/
def f186_j4 (x4 : AV) (H : Heap) (Q : Post) : Prop := AtJ Pg Hs 186 [1, 1] Q [(4, .val x4)] H
theorem f186_j4_eq (x4 : AV) (H : Heap) (Q : Post) : f186_j4 x4 H Q =
 Q x4 H :=
  (AtJ_eq Pg Hs 186 [1, 1] Q _ H).trans (by kernel_rfl)
theorem f186_eq (a0 a1 : AV) (H : Heap) (Q : Post) : E 186 [a0, a1] H Q =
 ob (lenSA a0) fun r1 =>
 ob (lenSA a1) fun r2 =>
 ob (binA Pg .geq 3 false r1 r2) fun r3 =>
 cndA r3
 (ob (lenSA a1) fun r4 =>
 ob (sliceSA a0 none (some r4)) fun r5 =>
 ob (binA Pg .eql 9 false r5 a1) fun r6 =>
 f186_j4 r6 H Q)
 (f186_j4 (B false) H Q) :=
  Ev_eq.trans (by kernel_rfl)
/-! ### 187 (*haruspex/lex.Reader).take -/
def f187_j7 (x0 : AV) (x19 : AV) (H : Heap) (Q : Post) : Prop := AtJ Pg Hs 187 [1, 1, 0, 1] Q [(0, .val x0), (19, .val x19)] H
theorem f187_j7_eq (x0 : AV) (x19 : AV) (H : Heap) (Q : Post) : f187_j7 x0 x19 H Q =
 cndA x19
 (Q (B false) H)
 (E 192 [x0] H fun r9 H10 =>
 Q (B true) H10) :=
  (AtJ_eq Pg Hs 187 [1, 1, 0, 1] Q _ H).trans (by kernel_rfl)
theorem f187_eq (a0 a1 a2 : AV) (H : Heap) (Q : Post) : E 187 [a0, a1, a2] H Q =
 E 82 [a0] H fun r1 H2 =>
 ob (sizedA 3 r1) fun b3 =>
 ob (spliceA 0 b3 [(I 0), (S ⟨#[]⟩), (I 0)]) fun b4 =>
 ob (partA false 0 1 b4) fun r5 =>
 ob (binA Pg .neq 3 false r5 a1) fun r6 =>
 cndA r6
 (f187_j7 a0 (B true) H2 Q)
 (ob (partA false 1 1 b4) fun r7 =>
 ob (binA Pg .neq 9 false r7 a2) fun r8 =>
 f187_j7 a0 r8 H2 Q) :=
  Ev_eq.trans (by kernel_rfl)
/-! ### 188 (*haruspex/cond.parser).next -/
def f188_j6 (x6 : AV) (H : Heap) (Q : Post) : Prop := AtJ Pg Hs 188 [1, 1, 1] Q [(6, .val x6)] H
theorem f188_j6_eq (x6 : AV) (H : Heap) (Q : Post) : f188_j6 x6 H Q =
 Q x6 H :=
  (AtJ_eq Pg Hs 188 [1, 1, 1] Q _ H).trans (by kernel_rfl)
theorem f188_eq (a0 a1 a2 : AV) (H : Heap) (Q : Post) : E 188 [a0, a1, a2] H Q =
 ob (nilA a0) fun r1 =>
 ob (addPA r1 0) fun r2 =>
 ob (ldH H false 1 r2) fun r3 =>
 E 82 [r3] H fun r4 H5 =>
 ob (sizedA 3 r4) fun b6 =>
 ob (spliceA 0 b6 [(I 0), (S ⟨#[]⟩), (I 0)]) fun b7 =>
 ob (partA false 0 1 b7) fun r8 =>
 ob (binA Pg .eql 3 false r8 a1) fun r9 =>
 cndA r9
 (ob (partA false 1 1 b7) fun r10 =>
 ob (binA Pg .eql 9 false r10 a2) fun r11 =>
 f188_j6 r11 H5 Q)
 (f188_j6 (B false) H5 Q) :=
  Ev_eq.trans (by kernel_rfl)
/-! ### 189 (*haruspex/cond.parser).cmp -/
theorem f189_eq (a0 : AV) (H : Heap) (Q : Post) : E 189 [a0] H Q =
 E 193 [a0] H fun r1 H2 =>
 ob (sizedA 7 r1) fun b3 =>
 ob (spliceA 0 b3 [(I 0), (I 0), (I 0), (S ⟨#[]⟩), (S ⟨#[]⟩), (S ⟨#[]⟩), (AV.sl 0 true .full [])]) fun b4 =>
 ob (nilA a0) fun r5 =>
 ob (addPA r5 2) fun r6 =>
 ob (ldH H2 false 1 r6) fun r7 =>
 ob (binA Pg .neq 31 true r7 (I 0)) fun r8 =>
 cndA r8
 (ob (partA true 0 7 b4) fun r9 =>
 ob (sizedA 7 r9) fun b10 =>
 ob (spliceA 0 b10 [(I 0), (I 0), (I 0), (S ⟨#[]⟩), (S ⟨#[]⟩), (S ⟨#[]⟩), (AV.sl 0 true .full [])]) fun b11 =>
 ob (partA true 0 7 b11) fun r12 =>
 Q r12 H2)
 (E 194 [a0, (I 9), (I 14)] H2 fun r13 H14 =>
 ob (extractA r13 0) fun r15 =>
 ob (extractA r13 1) fun r16 =>
 cndA r16
 (ob (partA true 0 7 b4) fun r17 =>
 E 193 [a0] H14 fun r18 H19 =>
 ob (mkSlA 7 [r17, r18]) fun r20 =>
 ob (bldA [(0, 1, r15), (6, 1, r20)] [(I 0), (I 0), (I 0), (S ⟨#[]⟩), (S ⟨#[]⟩), (S ⟨#[]⟩), (AV.sl 0 true .full [])]) fun r21 =>
 ob (sizedA 7 r21) fun b22 =>
 ob (spliceA 0 b22 [(I 0), (I 0), (I 0), (S ⟨#[]⟩), (S ⟨#[]⟩), (S ⟨#[]⟩), (AV.sl 0 true .full [])]) fun b23 =>
 ob (partA true 0 7 b23) fun r24 =>
 Q r24 H19)
 (ob (partA true 0 7 b4) fun r25 =>
 ob (sizedA 7 r25) fun b26 =>
 ob (spliceA 0 b26 [(I 0), (I 0), (I 0), (S ⟨#[]⟩), (S ⟨#[]⟩), (S ⟨#[]⟩), (AV.sl 0 true .full [])]) fun b27 =>
 ob (partA true 0 7 b27) fun r28 =>
 Q r28 H14)) :=
  Ev_eq.trans (by kernel_rfl)
/-! ### 190 (*haruspex/cond.parser).within -/
theorem f190_eq (a0 a1 : AV) (H : Heap) (Q : Post) : E 190 [a0, a1] H Q =
 ob (nilA a0) fun r1 =>
 ob (addPA r1 1) fun r2 =>
 ob (ldH H false 1 r2) fun r3 =>
 ob (binA Pg .geq 3 true r3 (I 200)) fun r4 =>
 cndA r4
 (E 195 [a0, (I 2)] H fun r5 H6 =>
 ob (sizedA 7 r5) fun b7 =>
 ob (spliceA 0 b7 [(I 0), (I 0), (I 0), (S ⟨#[]⟩), (S ⟨#[]⟩), (S ⟨#[]⟩), (AV.sl 0 true .full [])]) fun b8 =>
 ob (partA true 0 7 b8) fun r9 =>
 Q r9 H6)
 (ob (nilA a0) fun r10 =>
 ob (addPA r10 0) fun r11 =>
 ob (ldH H false 1 r11) fun r12 =>
 E 192 [r12] H fun r13 H14 =>
 ob (nilA a0) fun r15 =>
 ob (addPA r15 1) fun r16 =>
 ob (ldH H14 false 1 r16) fun r17 =>
 ob (binA Pg .add 3 true r17 (I 1)) fun r18 =>
 ob (nilA a0) fun r19 =>
 ob (addPA r19 1) fun r20 =>
 ob (stH H14 1 r20 r18) fun H21 =>
 callA (Ev Pg Hs) a1 [] H21 fun r22 H23 =>
 ob (sizedA 7 r22) fun b24 =>
 ob (spliceA 0 b24 [(I 0), (I 0), (I 0), (S ⟨#[]⟩), (S ⟨#[]⟩), (S ⟨#[]⟩), (AV.sl 0 true .full [])]) fun b25 =>
 ob (nilA a0) fun r26 =>
 ob (addPA r26 1) fun r27 =>
 ob (ldH H23 false 1 r27) fun r28 =>
 ob (binA Pg .sub 3 true r28 (I 1)) fun r29 =>
 ob (nilA a0) fun r30 =>
 ob (addPA r30 1) fun r31 =>
 ob (stH H23 1 r31 r29) fun H32 =>
 ob (partA true 0 7 b25) fun r33 =>
 ob (sizedA 7 r33) fun b34 =>
 ob (spliceA 0 b34 [(I 0), (I 0), (I 0), (S ⟨#[]⟩), (S ⟨#[]⟩), (S ⟨#[]⟩), (AV.sl 0 true .full [])]) fun b35 =>
 ob (partA true 0 7 b35) fun r36 =>
 Q r36 H32) :=
  Ev_eq.trans (by kernel_rfl)
/-! ### 191 (*haruspex/word.reader).next -/
theorem f191_eq (a0 : AV) (H : Heap) (Q : Post) : E 191 [a0] H Q =
 E 196 [a0] H fun r1 H2 =>
 cndA r1
 (Q (AV.tup [(AV.raw (.int .u8 0)), (B false), (B false)]) H2)
 (ob (nilA a0) fun r3 =>
 ob (addPA r3 0) fun r4 =>
 ob (ldH H2 false 1 r4) fun r5 =>
 ob (nilA a0) fun r6 =>
 ob (addPA r6 1) fun r7 =>
 ob (ldH H2 false 1 r7) fun r8 =>
 ob (ixA r5 r8) fun r9 =>
 ob (binA Pg .eql 5 true r9 (AV.raw (.int .u8 39))) fun r10 =>
 cndA r10
 (ob (nilA a0) fun r11 =>
 ob (addPA r11 1) fun r12 =>
 ob (ldH H2 false 1 r12) fun r13 =>
 ob (binA Pg .add 3 true r13 (I 1)) fun r14 =>
 ob (nilA a0) fun r15 =>
 ob (addPA r15 1) fun r16 =>
 ob (stH H2 1 r16 r14) fun H17 =>
 Q (AV.tup [(AV.raw (.int .u8 0)), (B false), (B true)]) H17)
 (ob (binA Pg .eql 5 true r9 (AV.raw (.int .u8 92))) fun r18 =>
 cndA r18
 (ob (nilA a0) fun r19 =>
 ob (addPA r19 1) fun r20 =>
 ob (ldH H2 false 1 r20) fun r21 =>
 ob (binA Pg .add 3 true r21 (I 1)) fun r22 =>
 ob (nilA a0) fun r23 =>
 ob (addPA r23 1) fun r24 =>
 ob (stH H2 1 r24 r22) fun H25 =>
 E 197 [a0] H25 fun r26 H27 =>
 ob (extractA r26 0) fun r28 =>
 ob (extractA r26 1) fun r29 =>
 Q (AV.tup [r28, r29, (B false)]) H27)
 (E 177 [r9] H2 fun r30 H31 =>
 cndA r30
 (ob (nilA a0) fun r32 =>
 ob (addPA r32 1) fun r33 =>
 ob (ldH H31 false 1 r33) fun r34 =>
 ob (binA Pg .add 3 true r34 (I 1)) fun r35 =>
 ob (nilA a0) fun r36 =>
 ob (addPA r36 1) fun r37 =>
 ob (stH H31 1 r37 r35) fun H38 =>
 Q (AV.tup [r9, (B true), (B false)]) H38)
 (Q (AV.tup [(AV.raw (.int .u8 0)), (B false), (B false)]) H31)))) :=
  Ev_eq.trans (by kernel_rfl)
/-! ### 192 (*haruspex/lex.Reader).Next -/
def f192_j10 (x2 : List AV) (x3 : List AV) (H : Heap) (Q : Post) : Prop := AtJ Pg Hs 192 [1, 1, 1] Q [(2, .lbox x2), (3, .lbox x3)] H
theorem f192_j10_eq (x2 : List AV) (x3 : List AV) (H : Heap) (Q : Post) : f192_j10 x2 x3 H Q =
 ob (partA true 0 3 x3) fun r14 =>
 ob (sizedA 3 r14) fun b15 =>
 ob (spliceA 0 b15 x2) fun b16 =>
 ob (partA true 0 3 b16) fun r17 =>
 Q r17 H :=
  (AtJ_eq Pg Hs 192 [1, 1, 1] Q _ H).trans (by kernel_rfl)
theorem f192_eq (a0 : AV) (H : Heap) (Q : Post) : E 192 [a0] H Q =
 E 82 [a0] H fun r1 H2 =>
 ob (sizedA 3 r1) fun b3 =>
 ob (spliceA 0 b3 [(I 0), (S ⟨#[]⟩), (I 0)]) fun b4 =>
 ob (partA false 0 1 b4) fun r5 =>
 ob (binA Pg .neq 3 true r5 (I 6)) fun r6 =>
 cndA r6
 (ob (nilA a0) fun r7 =>
 ob (addPA r7 1) fun r8 =>
 ob (ldH H2 false 1 r8) fun r9 =>
 ob (binA Pg .add 3 true r9 (I 1)) fun r10 =>
 ob (nilA a0) fun r11 =>
 ob (addPA r11 1) fun r12 =>
 ob (stH H2 1 r12 r10) fun H13 =>
 f192_j10 [(I 0), (S ⟨#[]⟩), (I 0)] b4 H13 Q)
 (f192_j10 [(I 0), (S ⟨#[]⟩), (I 0)] b4 H2 Q) :=
  Ev_eq.trans (by kernel_rfl)
/-! ### 193 (*haruspex/cond.parser).sum -/
theorem f193_eq (a0 : AV) (H : Heap) (Q : Post) : E 193 [a0] H Q =
 E 198 [a0, (I 4), (I 5), (AV.fn (.func 199) [a0] [])] H fun r1 H2 =>
 ob (sizedA 7 r1) fun b3 =>
 ob (spliceA 0 b3 [(I 0), (I 0), (I 0), (S ⟨#[]⟩), (S ⟨#[]⟩), (S ⟨#[]⟩), (AV.sl 0 true .full [])]) fun b4 =>
 ob (partA true 0 7 b4) fun r5 =>
 Q r5 H2 :=
  Ev_eq.trans (by kernel_rfl)
/-! ### 194 (*haruspex/cond.parser).op -/
def f194_l6 (x0 : AV) (x1 : AV) (x2 : AV) (x10 : AV) (x11 : AV) (H : Heap) (Q : Post) : Prop := AtF Pg Hs 194 [1, 0, 1, 0] Q [(0, .val x0), (1, .val x1), (2, .val x2), (10, .val x10), (11, .val x11)] H
def f194_j19 (x0 : AV) (x1 : AV) (x2 : AV) (x9 : List AV) (x10 : AV) (x11 : AV) (x32 : AV) (H : Heap) (Q : Post) : Prop := AtJ Pg Hs 194 [1, 0, 1, 0, 0, 1, 1, 0, 0, 1, 1] Q [(0, .val x0), (1, .val x1), (2, .val x2), (9, .lbox x9), (10, .val x10), (11, .val x11), (32, .val x32)] H
theorem f194_l6_eq (x0 : AV) (x1 : AV) (x2 : AV) (x10 : AV) (x11 : AV) (H : Heap) (Q : Post) : f194_l6 x0 x1 x2 x10 x11 H Q =
 ob (binA Pg .lss 3 true x11 (I 11)) fun r3 =>
 cndA r3
 (ob (ixAgg 11 true 2 x10 x11) fun r4 =>
 ob (sizedA 2 r4) fun b5 =>
 ob (spliceA 0 b5 [(S ⟨#[]⟩), (I 0)]) fun b6 =>
 ob (partA false 1 1 b6) fun r7 =>
 ob (binA Pg .geq 3 false r7 x1) fun r8 =>
 cndA r8
 (ob (partA false 1 1 b6) fun r9 =>
 ob (binA Pg .leq 3 false r9 x2) fun r10 =>
 cndA r10
 (ob (nilA x0) fun r11 =>
 ob (addPA r11 0) fun r12 =>
 ob (ldH H false 1 r12) fun r13 =>
 ob (partA false 0 1 b6) fun r14 =>
 E 200 [r13, r14] H fun r15 H16 =>
 f194_j19 x0 x1 x2 b6 x10 x11 r15 H16 Q)
 (f194_j19 x0 x1 x2 b6 x10 x11 (B false) H Q))
 (f194_j19 x0 x1 x2 b6 x10 x11 (B false) H Q))
 (Q (AV.tup [(I 0), (B false)]) H) :=
  (AtF_eq Pg Hs 194 [1, 0, 1, 0] Q _ H).trans (by kernel_rfl)
theorem f194_j19_eq (x0 : AV) (x1 : AV) (x2 : AV) (x9 : List AV) (x10 : AV) (x11 : AV) (x32 : AV) (H : Heap) (Q : Post) : f194_j19 x0 x1 x2 x9 x10 x11 x32 H Q =
 cndA x32
 (ob (partA false 1 1 x9) fun r17 =>
 Q (AV.tup [r17, (B true)]) H)
 (ob (binA Pg .add 3 true x11 (I 1)) fun r18 =>
 f194_l6 x0 x1 x2 x10 r18 H Q) :=
  (AtJ_eq Pg Hs 194 [1, 0, 1, 0, 0, 1, 1, 0, 0, 1, 1] Q _ H).trans (by kernel_rfl)
theorem f194_eq (a0 a1 a2 : AV) (H : Heap) (Q : Post) : E 194 [a0, a1, a2] H Q =
 E 157 [] H fun r1 H2 =>
 f194_l6 a0 a1 a2 r1 (I 0) H2 Q :=
  Ev_eq.trans (by kernel_rfl)
/-! ### 195 (*haruspex/cond.parser).fail -/
def f195_j8 (x4 : List AV) (H : Heap) (Q : Post) : Prop := AtJ Pg Hs 195 [1, 1] Q [(4, .lbox x4)] H
theorem f195_j8_eq (x4 : List AV) (H : Heap) (Q : Post) : f195_j8 x4 H Q =
 ob (bldA [] [(I 0), (I 0), (I 0), (S ⟨#[]⟩), (S ⟨#[]⟩), (S ⟨#[]⟩), (AV.sl 0 true .full [])]) fun r16 =>
 ob (sizedA 7 r16) fun b17 =>
 ob (spliceA 0 b17 x4) fun b18 =>
 ob (partA true 0 7 b18) fun r19 =>
 Q r19 H :=
  (AtJ_eq Pg Hs 195 [1, 1] Q _ H).trans (by kernel_rfl)
theorem f195_eq (a0 a1 : AV) (H : Heap) (Q : Post) : E 195 [a0, a1] H Q =
 ob (nilA a0) fun r1 =>
 ob (addPA r1 2) fun r2 =>
 ob (ldH H false 1 r2) fun r3 =>
 ob (binA Pg .eql 31 true r3 (I 0)) fun r4 =>
 cndA r4
 (ob (nilA a0) fun r5 =>
 ob (addPA r5 0) fun r6 =>
 ob (ldH H false 1 r6) fun r7 =>
 E 83 [r7] H fun r8 H9 =>
 ob (nilA a0) fun r10 =>
 ob (addPA r10 2) fun r11 =>
 ob (stH H9 1 r11 a1) fun H12 =>
 ob (nilA a0) fun r13 =>
 ob (addPA r13 3) fun r14 =>
 ob (stH H12 1 r14 r8) fun H15 =>
 f195_j8 [(I 0), (I 0), (I 0), (S ⟨#[]⟩), (S ⟨#[]⟩), (S ⟨#[]⟩), (AV.sl 0 true .full [])] H15 Q)
 (f195_j8 [(I 0), (I 0), (I 0), (S ⟨#[]⟩), (S ⟨#[]⟩), (S ⟨#[]⟩), (AV.sl 0 true .full [])] H Q) :=
  Ev_eq.trans (by kernel_rfl)
/-! ### 196 (*haruspex/word.reader).done -/
theorem f196_eq (a0 : AV) (H : Heap) (Q : Post) : E 196 [a0] H Q =
 ob (nilA a0) fun r1 =>
 ob (addPA r1 1) fun r2 =>
 ob (ldH H false 1 r2) fun r3 =>
 ob (nilA a0) fun r4 =>
 ob (addPA r4 0) fun r5 =>
 ob (ldH H false 1 r5) fun r6 =>
 ob (lenSA r6) fun r7 =>
 ob (binA Pg .geq 3 false r3 r7) fun r8 =>
 Q r8 H :=
  Ev_eq.trans (by kernel_rfl)
/-! ### 197 (*haruspex/word.reader).escaped -/
def f197_j17 (x0 : AV) (x4 : AV) (x5 : AV) (x29 : AV) (H : Heap) (Q : Post) : Prop := AtJ Pg Hs 197 [1, 1, 1, 1, 0, 1] Q [(0, .val x0), (4, .val x4), (5, .val x5), (29, .val x29)] H
def f197_j39 (x0 : AV) (x4 : AV) (x6 : AV) (x7 : AV) (x56 : AV) (H : Heap) (Q : Post) : Prop := AtJ Pg Hs 197 [1, 1, 1, 1, 1, 1, 1, 1, 0, 1] Q [(0, .val x0), (4, .val x4), (6, .val x6), (7, .val x7), (56, .val x56)] H
theorem f197_j17_eq (x0 : AV) (x4 : AV) (x5 : AV) (x29 : AV) (H : Heap) (Q : Post) : f197_j17 x0 x4 x5 x29 H Q =
 cndA x29
 (ob (nilA x0) fun r16 =>
 ob (addPA r16 1) fun r17 =>
 ob (ldH H false 1 r17) fun r18 =>
 ob (binA Pg .add 3 true r18 (I 1)) fun r19 =>
 ob (nilA x0) fun r20 =>
 ob (addPA r20 1) fun r21 =>
 ob (stH H 1 r21 r19) fun H22 =>
 Q (AV.tup [x5, (B true)]) H22)
 (ob (binA Pg .neq 5 true x5 (AV.raw (.int .u8 120))) fun r23 =>
 cndA r23
 (Q (AV.tup [(AV.raw (.int .u8 0)), (B false)]) H)
 (ob (nilA x0) fun r24 =>
 ob (addPA r24 1) fun r25 =>
 ob (ldH H false 1 r25) fun r26 =>
 ob (binA Pg .add 3 true r26 (I 1)) fun r27 =>
 ob (nilA x0) fun r28 =>
 ob (addPA r28 1) fun r29 =>
 ob (stH H 1 r29 r27) fun H30 =>
 E 201 [x0] H30 fun r31 H32 =>
 ob (extractA r31 0) fun r33 =>
 ob (extractA r31 1) fun r34 =>
 cndA r34
 (E 177 [r33] H32 fun r35 H36 =>
 f197_j39 x0 x4 r33 r34 r35 H36 Q)
 (f197_j39 x0 x4 r33 r34 (B false) H32 Q))) :=
  (AtJ_eq Pg Hs 197 [1, 1, 1, 1, 0, 1] Q _ H).trans (by kernel_rfl)
theorem f197_j39_eq (x0 : AV) (x4 : AV) (x6 : AV) (x7 : AV) (x56 : AV) (H : Heap) (Q : Post) : f197_j39 x0 x4 x6 x7 x56 H Q =
 cndA x56
 (ob (nilA x0) fun r37 =>
 ob (addPA r37 1) fun r38 =>
 ob (stH H 1 r38 x4) fun H39 =>
 Q (AV.tup [(AV.raw (.int .u8 0)), (B false)]) H39)
 (Q (AV.tup [x6, x7]) H) :=
  (AtJ_eq Pg Hs 197 [1, 1, 1, 1, 1, 1, 1, 1, 0, 1] Q _ H).trans (by kernel_rfl)
theorem f197_eq (a0 : AV) (H : Heap) (Q : Post) : E 197 [a0] H Q =
 ob (nilA a0) fun r1 =>
 ob (addPA r1 1) fun r2 =>
 ob (ldH H false 1 r2) fun r3 =>
 ob (binA Pg .sub 3 true r3 (I 1)) fun r4 =>
 E 196 [a0] H fun r5 H6 =>
 cndA r5
 (Q (AV.tup [(AV.raw (.int .u8 0)), (B false)]) H6)
 (ob (nilA a0) fun r7 =>
 ob (addPA r7 0) fun r8 =>
 ob (ldH H6 false 1 r8) fun r9 =>
 ob (nilA a0) fun r10 =>
 ob (addPA r10 1) fun r11 =>
 ob (ldH H6 false 1 r11) fun r12 =>
 ob (ixA r9 r12) fun r13 =>
 ob (binA Pg .eql 5 true r13 (AV.raw (.int .u8 39))) fun r14 =>
 cndA r14
 (f197_j17 a0 r4 r13 (B true) H6 Q)
 (ob (binA Pg .eql 5 true r13 (AV.raw (.int .u8 92))) fun r15 =>
 f197_j17 a0 r4 r13 r15 H6 Q)) :=
  Ev_eq.trans (by kernel_rfl)
/-! ### 198 (*haruspex/cond.parser).left -/
def f198_l6 (x0 : AV) (x1 : AV) (x2 : AV) (x3 : AV) (x8 : List AV) (x9 : List AV) (H : Heap) (Q : Post) : Prop := AtF Pg Hs 198 [1, 1, 0, 0] Q [(0, .val x0), (1, .val x1), (2, .val x2), (3, .val x3), (8, .lbox x8), (9, .lbox x9)] H
theorem f198_l6_eq (x0 : AV) (x1 : AV) (x2 : AV) (x3 : AV) (x8 : List AV) (x9 : List AV) (H : Heap) (Q : Post) : f198_l6 x0 x1 x2 x3 x8 x9 H Q =
 ob (nilA x0) fun r5 =>
 ob (addPA r5 2) fun r6 =>
 ob (ldH H false 1 r6) fun r7 =>
 ob (binA Pg .eql 31 true r7 (I 0)) fun r8 =>
 cndA r8
 (E 194 [x0, x1, x2] H fun r9 H10 =>
 ob (extractA r9 0) fun r11 =>
 ob (extractA r9 1) fun r12 =>
 ob (unA .not r12) fun r13 =>
 cndA r13
 (ob (partA true 0 7 x9) fun r14 =>
 ob (sizedA 7 r14) fun b15 =>
 ob (spliceA 0 b15 x8) fun b16 =>
 ob (partA true 0 7 b16) fun r17 =>
 Q r17 H10)
 (ob (partA true 0 7 x9) fun r18 =>
 callA (Ev Pg Hs) x3 [] H10 fun r19 H20 =>
 ob (mkSlA 7 [r18, r19]) fun r21 =>
 ob (bldA [(0, 1, r11), (6, 1, r21)] [(I 0), (I 0), (I 0), (S ⟨#[]⟩), (S ⟨#[]⟩), (S ⟨#[]⟩), (AV.sl 0 true .full [])]) fun r22 =>
 ob (sizedA 7 r22) fun b23 =>
 ob (spliceA 0 b23 x9) fun b24 =>
 f198_l6 x0 x1 x2 x3 x8 b24 H20 Q))
 (ob (partA true 0 7 x9) fun r25 =>
 ob (sizedA 7 r25) fun b26 =>
 ob (spliceA 0 b26 x8) fun b27 =>
 ob (partA true 0 7 b27) fun r28 =>
 Q r28 H) :=
  (AtF_eq Pg Hs 198 [1, 1, 0, 0] Q _ H).trans (by kernel_rfl)
theorem f198_eq (a0 a1 a2 a3 : AV) (H : Heap) (Q : Post) : E 198 [a0, a1, a2, a3] H Q =
 callA (Ev Pg Hs) a3 [] H fun r1 H2 =>
 ob (sizedA 7 r1) fun b3 =>
 ob (spliceA 0 b3 [(I 0), (I 0), (I 0), (S ⟨#[]⟩), (S ⟨#[]⟩), (S ⟨#[]⟩), (AV.sl 0 true .full [])]) fun b4 =>
 f198_l6 a0 a1 a2 a3 [(I 0), (I 0), (I 0), (S ⟨#[]⟩), (S ⟨#[]⟩), (S ⟨#[]⟩), (AV.sl 0 true .full [])] b4 H2 Q :=
  Ev_eq.trans (by kernel_rfl)
/-! ### 199 (*haruspex/cond.parser).prod -/
theorem f199_eq (a0 : AV) (H : Heap) (Q : Post) : E 199 [a0] H Q =
 E 198 [a0, (I 6), (I 8), (AV.fn (.func 202) [a0] [])] H fun r1 H2 =>
 ob (sizedA 7 r1) fun b3 =>
 ob (spliceA 0 b3 [(I 0), (I 0), (I 0), (S ⟨#[]⟩), (S ⟨#[]⟩), (S ⟨#[]⟩), (AV.sl 0 true .full [])]) fun b4 =>
 ob (partA true 0 7 b4) fun r5 =>
 Q r5 H2 :=
  Ev_eq.trans (by kernel_rfl)
/-! ### 200 (*haruspex/lex.Reader).Sign -/
theorem f200_eq (a0 a1 : AV) (H : Heap) (Q : Post) : E 200 [a0, a1] H Q =
 E 187 [a0, (I 5), a1] H fun r1 H2 =>
 Q r1 H2 :=
  Ev_eq.trans (by kernel_rfl)
/-! ### 201 (*haruspex/word.reader).hex -/
def f201_l8 (x0 : AV) (x4 : AV) (x6 : AV) (H : Heap) (Q : Post) : Prop := AtF Pg Hs 201 [1, 1, 0, 1, 0] Q [(0, .val x0), (4, .val x4), (6, .val x6)] H
theorem f201_l8_eq (x0 : AV) (x4 : AV) (x6 : AV) (H : Heap) (Q : Post) : f201_l8 x0 x4 x6 H Q =
 ob (binA Pg .lss 3 true x6 (I 2)) fun r1 =>
 cndA r1
 (E 196 [x0] H fun r2 H3 =>
 cndA r2
 (Q (AV.tup [(AV.raw (.int .u8 0)), (B false)]) H3)
 (ob (nilA x0) fun r4 =>
 ob (addPA r4 0) fun r5 =>
 ob (ldH H3 false 1 r5) fun r6 =>
 ob (nilA x0) fun r7 =>
 ob (addPA r7 1) fun r8 =>
 ob (ldH H3 false 1 r8) fun r9 =>
 ob (ixA r6 r9) fun r10 =>
 E 203 [r10] H3 fun r11 H12 =>
 ob (binA Pg .lss 3 true r11 (I 0)) fun r13 =>
 cndA r13
 (Q (AV.tup [(AV.raw (.int .u8 0)), (B false)]) H12)
 (ob (binA Pg .shl 3 true x4 (AV.raw (.int .u64 4))) fun r14 =>
 ob (binA Pg .or 3 false r14 r11) fun r15 =>
 ob (nilA x0) fun r16 =>
 ob (addPA r16 1) fun r17 =>
 ob (ldH H12 false 1 r17) fun r18 =>
 ob (binA Pg .add 3 true r18 (I 1)) fun r19 =>
 ob (nilA x0) fun r20 =>
 ob (addPA r20 1) fun r21 =>
 ob (stH H12 1 r21 r19) fun H22 =>
 ob (binA Pg .add 3 true x6 (I 1)) fun r23 =>
 f201_l8 x0 r15 r23 H22 Q)))
 (ob (cvtIA .u8 x4) fun r25 =>
 Q (AV.tup [r25, (B true)]) H) :=
  (AtF_eq Pg Hs 201 [1, 1, 0, 1, 0] Q _ H).trans (by kernel_rfl)
theorem f201_eq (a0 : AV) (H : Heap) (Q : Post) : E 201 [a0] H Q =
 f201_l8 a0 (I 0) (I 0) H Q :=
  Ev_eq.trans (by kernel_rfl)
/-! ### 202 (*haruspex/cond.parser).neg -/
theorem f202_eq (a0 : AV) (H : Heap) (Q : Post) : E 202 [a0] H Q =
 E 188 [a0, (I 5), (S ⟨#[45]⟩)] H fun r1 H2 =>
 ob (unA .not r1) fun r3 =>
 cndA r3
 (E 204 [a0] H2 fun r4 H5 =>
 ob (sizedA 7 r4) fun b6 =>
 ob (spliceA 0 b6 [(I 0), (I 0), (I 0), (S ⟨#[]⟩), (S ⟨#[]⟩), (S ⟨#[]⟩), (AV.sl 0 true .full [])]) fun b7 =>
 ob (partA true 0 7 b7) fun r8 =>
 Q r8 H5)
 (ob (nilA a0) fun r9 =>
 ob (addPA r9 0) fun r10 =>
 ob (ldH H2 false 1 r10) fun r11 =>
 E 205 [r11] H2 fun r12 H13 =>
 ob (nilA a0) fun r14 =>
 ob (addPA r14 0) fun r15 =>
 ob (ldH H13 false 1 r15) fun r16 =>
 E 192 [r16] H13 fun r17 H18 =>
 ob (nilA a0) fun r19 =>
 ob (addPA r19 0) fun r20 =>
 ob (ldH H18 false 1 r20) fun r21 =>
 E 82 [r21] H18 fun r22 H23 =>
 fldK false 0 1 r22 fun r24 =>
 ob (binA Pg .eql 3 true r24 (I 3)) fun r25 =>
 cndA r25
 (E 206 [a0, (S ⟨#[45]⟩)] H23 fun r26 H27 =>
 ob (sizedA 7 r26) fun b28 =>
 ob (spliceA 0 b28 [(I 0), (I 0), (I 0), (S ⟨#[]⟩), (S ⟨#[]⟩), (S ⟨#[]⟩), (AV.sl 0 true .full [])]) fun b29 =>
 ob (partA true 0 7 b29) fun r30 =>
 Q r30 H27)
 (ob (nilA a0) fun r31 =>
 ob (addPA r31 0) fun r32 =>
 ob (ldH H23 false 1 r32) fun r33 =>
 E 207 [r33, r12] H23 fun r34 H35 =>
 E 190 [a0, (AV.fn (.func 202) [a0] [])] H35 fun r36 H37 =>
 ob (sizedA 7 r36) fun b38 =>
 ob (spliceA 0 b38 [(I 0), (I 0), (I 0), (S ⟨#[]⟩), (S ⟨#[]⟩), (S ⟨#[]⟩), (AV.sl 0 true .full [])]) fun b39 =>
 ob (partA true 0 7 b39) fun r40 =>
 ob (mkSlA 7 [r40]) fun r41 =>
 ob (bldA [(0, 1, (I 3)), (6, 1, r41)] [(I 0), (I 0), (I 0), (S ⟨#[]⟩), (S ⟨#[]⟩), (S ⟨#[]⟩), (AV.sl 0 true .full [])]) fun r42 =>
 ob (sizedA 7 r42) fun b43 =>
 ob (spliceA 0 b43 [(I 0), (I 0), (I 0), (S ⟨#[]⟩), (S ⟨#[]⟩), (S ⟨#[]⟩), (AV.sl 0 true .full [])]) fun b44 =>
 ob (partA true 0 7 b44) fun r45 =>
 Q r45 H37)) :=
  Ev_eq.trans (by kernel_rfl)
/-! ### 203 haruspex/word.digit -/
def f203_l6 (x0 : AV) (x5 : AV) (x6 : AV) (H : Heap) (Q : Post) : Prop := AtF Pg Hs 203 [1, 0, 1, 0] Q [(0, .val x0), (5, .val x5), (6, .val x6)] H
theorem f203_l6_eq (x0 : AV) (x5 : AV) (x6 : AV) (H : Heap) (Q : Post) : f203_l6 x0 x5 x6 H Q =
 ob (binA Pg .lss 3 true x6 (I 16)) fun r3 =>
 cndA r3
 (ob (ixAgg 16 false 1 x5 x6) fun r4 =>
 ob (binA Pg .eql 5 false r4 x0) fun r5 =>
 cndA r5
 (Q x6 H)
 (ob (binA Pg .add 3 true x6 (I 1)) fun r6 =>
 f203_l6 x0 x5 r6 H Q))
 (Q (I (-1)) H) :=
  (AtF_eq Pg Hs 203 [1, 0, 1, 0] Q _ H).trans (by kernel_rfl)
theorem f203_eq (a0 : AV) (H : Heap) (Q : Post) : E 203 [a0] H Q =
 E 176 [] H fun r1 H2 =>
 f203_l6 a0 r1 (I 0) H2 Q :=
  Ev_eq.trans (by kernel_rfl)
/-! ### 204 (*haruspex/cond.parser).last -/
def f204_j55 (x0 : AV) (x2 : List AV) (H : Heap) (Q : Post) : Prop := AtJ Pg Hs 204 [1, 1] Q [(0, .val x0), (2, .lbox x2)] H
theorem f204_j55_eq (x0 : AV) (x2 : List AV) (H : Heap) (Q : Post) : f204_j55 x0 x2 H Q =
 E 195 [x0, (I 4)] H fun r66 H67 =>
 ob (sizedA 7 r66) fun b68 =>
 ob (spliceA 0 b68 x2) fun b69 =>
 ob (partA true 0 7 b69) fun r70 =>
 Q r70 H67 :=
  (AtJ_eq Pg Hs 204 [1, 1] Q _ H).trans (by kernel_rfl)
theorem f204_eq (a0 : AV) (H : Heap) (Q : Post) : E 204 [a0] H Q =
 ob (nilA a0) fun r1 =>
 ob (addPA r1 0) fun r2 =>
 ob (ldH H false 1 r2) fun r3 =>
 E 82 [r3] H fun r4 H5 =>
 ob (sizedA 3 r4) fun b6 =>
 ob (spliceA 0 b6 [(I 0), (S ⟨#[]⟩), (I 0)]) fun b7 =>
 ob (partA false 0 1 b7) fun r8 =>
 ob (binA Pg .eql 3 true r8 (I 3)) fun r9 =>
 cndA r9
 (E 206 [a0, (S ⟨#[]⟩)] H5 fun r10 H11 =>
 ob (sizedA 7 r10) fun b12 =>
 ob (spliceA 0 b12 [(I 0), (I 0), (I 0), (S ⟨#[]⟩), (S ⟨#[]⟩), (S ⟨#[]⟩), (AV.sl 0 true .full [])]) fun b13 =>
 ob (partA true 0 7 b13) fun r14 =>
 Q r14 H11)
 (ob (binA Pg .eql 3 true r8 (I 4)) fun r15 =>
 cndA r15
 (ob (nilA a0) fun r16 =>
 ob (addPA r16 0) fun r17 =>
 ob (ldH H5 false 1 r17) fun r18 =>
 E 192 [r18] H5 fun r19 H20 =>
 ob (partA false 1 1 b7) fun r21 =>
 E 208 [r21] H20 fun r22 H23 =>
 ob (bldA [(0, 1, (I 1)), (1, 3, r22)] [(I 0), (I 0), (I 0), (S ⟨#[]⟩), (S ⟨#[]⟩), (S ⟨#[]⟩), (AV.sl 0 true .full [])]) fun r24 =>
 ob (sizedA 7 r24) fun b25 =>
 ob (spliceA 0 b25 [(I 0), (I 0), (I 0), (S ⟨#[]⟩), (S ⟨#[]⟩), (S ⟨#[]⟩), (AV.sl 0 true .full [])]) fun b26 =>
 ob (partA true 0 7 b26) fun r27 =>
 Q r27 H23)
 (ob (binA Pg .eql 3 true r8 (I 2)) fun r28 =>
 cndA r28
 (ob (nilA a0) fun r29 =>
 ob (addPA r29 0) fun r30 =>
 ob (ldH H5 false 1 r30) fun r31 =>
 E 192 [r31] H5 fun r32 H33 =>
 ob (partA false 1 1 b7) fun r34 =>
 E 209 [a0, r34] H33 fun r35 H36 =>
 ob (sizedA 7 r35) fun b37 =>
 ob (spliceA 0 b37 [(I 0), (I 0), (I 0), (S ⟨#[]⟩), (S ⟨#[]⟩), (S ⟨#[]⟩), (AV.sl 0 true .full [])]) fun b38 =>
 ob (partA true 0 7 b38) fun r39 =>
 Q r39 H36)
 (ob (binA Pg .eql 3 true r8 (I 1)) fun r40 =>
 cndA r40
 (ob (partA false 1 1 b7) fun r41 =>
 E 210 [r41] H5 fun r42 H43 =>
 ob (extractA r42 0) fun r44 =>
 ob (extractA r42 1) fun r45 =>
 ob (sizedA 3 r44) fun b46 =>
 ob (spliceA 0 b46 [(I 0), (I 0), (S ⟨#[]⟩)]) fun b47 =>
 cndA r45
 (ob (nilA a0) fun r48 =>
 ob (addPA r48 0) fun r49 =>
 ob (ldH H43 false 1 r49) fun r50 =>
 E 192 [r50] H43 fun r51 H52 =>
 ob (partA true 0 3 b47) fun r53 =>
 ob (bldA [(0, 1, (I 1)), (1, 3, r53)] [(I 0), (I 0), (I 0), (S ⟨#[]⟩), (S ⟨#[]⟩), (S ⟨#[]⟩), (AV.sl 0 true .full [])]) fun r54 =>
 ob (sizedA 7 r54) fun b55 =>
 ob (spliceA 0 b55 [(I 0), (I 0), (I 0), (S ⟨#[]⟩), (S ⟨#[]⟩), (S ⟨#[]⟩), (AV.sl 0 true .full [])]) fun b56 =>
 ob (partA true 0 7 b56) fun r57 =>
 Q r57 H52)
 (f204_j55 a0 [(I 0), (I 0), (I 0), (S ⟨#[]⟩), (S ⟨#[]⟩), (S ⟨#[]⟩), (AV.sl 0 true .full [])] H43 Q))
 (ob (binA Pg .eql 3 true r8 (I 5)) fun r58 =>
 cndA r58
 (ob (partA false 1 1 b7) fun r59 =>
 ob (binA Pg .eql 9 true r59 (S ⟨#[40]⟩)) fun r60 =>
 cndA r60
 (E 190 [a0, (AV.fn (.func 211) [a0] [])] H5 fun r61 H62 =>
 ob (sizedA 7 r61) fun b63 =>
 ob (spliceA 0 b63 [(I 0), (I 0), (I 0), (S ⟨#[]⟩), (S ⟨#[]⟩), (S ⟨#[]⟩), (AV.sl 0 true .full [])]) fun b64 =>
 ob (partA true 0 7 b64) fun r65 =>
 Q r65 H62)
 (f204_j55 a0 [(I 0), (I 0), (I 0), (S ⟨#[]⟩), (S ⟨#[]⟩), (S ⟨#[]⟩), (AV.sl 0 true .full [])] H5 Q))
 (f204_j55 a0 [(I 0), (I 0), (I 0), (S ⟨#[]⟩), (S ⟨#[]⟩), (S ⟨#[]⟩), (AV.sl 0 true .full [])] H5 Q))))) :=
  Ev_eq.trans (by kernel_rfl)
/-! ### 205 (*haruspex/lex.Reader).Mark -/
theorem f205_eq (a0 : AV) (H : Heap) (Q : Post) : E 205 [a0] H Q =
 E 114 [a0] H fun r1 H2 =>
 cndA r1
 (Q (I 0) H2)
 (ob (nilA a0) fun r3 =>
 ob (addPA r3 1) fun r4 =>
 ob (ldH H2 false 1 r4) fun r5 =>
 Q r5 H2) :=
  Ev_eq.trans (by kernel_rfl)
/-! ### 206 (*haruspex/cond.parser).number -/
def f206_j10 (x0 : AV) (x4 : List AV) (x5 : AV) (H : Heap) (Q : Post) : Prop := AtJ Pg Hs 206 [1, 1, 1] Q [(0, .val x0), (4, .lbox x4), (5, .val x5)] H
theorem f206_j10_eq (x0 : AV) (x4 : List AV) (x5 : AV) (H : Heap) (Q : Post) : f206_j10 x0 x4 x5 H Q =
 E 212 [x5] H fun r9 H10 =>
 ob (extractA r9 0) fun r11 =>
 ob (extractA r9 1) fun r12 =>
 ob (binA Pg .neq 31 true r12 (I 0)) fun r13 =>
 cndA r13
 (E 195 [x0, (I 4)] H10 fun r14 H15 =>
 ob (sizedA 7 r14) fun b16 =>
 ob (spliceA 0 b16 x4) fun b17 =>
 ob (partA true 0 7 b17) fun r18 =>
 Q r18 H15)
 (ob (nilA x0) fun r19 =>
 ob (addPA r19 0) fun r20 =>
 ob (ldH H10 false 1 r20) fun r21 =>
 E 192 [r21] H10 fun r22 H23 =>
 E 213 [r11] H23 fun r24 H25 =>
 ob (bldA [(0, 1, (I 1)), (1, 3, r24)] [(I 0), (I 0), (I 0), (S ⟨#[]⟩), (S ⟨#[]⟩), (S ⟨#[]⟩), (AV.sl 0 true .full [])]) fun r26 =>
 ob (sizedA 7 r26) fun b27 =>
 ob (spliceA 0 b27 x4) fun b28 =>
 ob (partA true 0 7 b28) fun r29 =>
 Q r29 H25) :=
  (AtJ_eq Pg Hs 206 [1, 1, 1] Q _ H).trans (by kernel_rfl)
theorem f206_eq (a0 a1 : AV) (H : Heap) (Q : Post) : E 206 [a0, a1] H Q =
 ob (nilA a0) fun r1 =>
 ob (addPA r1 0) fun r2 =>
 ob (ldH H false 1 r2) fun r3 =>
 E 82 [r3] H fun r4 H5 =>
 fldK false 1 1 r4 fun r6 =>
 ob (binA Pg .neq 9 true r6 (S ⟨#[48]⟩)) fun r7 =>
 cndA r7
 (ob (binA Pg .add 9 false a1 r6) fun r8 =>
 f206_j10 a0 [(I 0), (I 0), (I 0), (S ⟨#[]⟩), (S ⟨#[]⟩), (S ⟨#[]⟩), (AV.sl 0 true .full [])] r8 H5 Q)
 (f206_j10 a0 [(I 0), (I 0), (I 0), (S ⟨#[]⟩), (S ⟨#[]⟩), (S ⟨#[]⟩), (AV.sl 0 true .full [])] r6 H5 Q) :=
  Ev_eq.trans (by kernel_rfl)
/-! ### 207 (*haruspex/lex.Reader).Back -/
def f207_j2 (x0 : AV) (x1 : AV) (x18 : AV) (H : Heap) (Q : Post) : Prop := AtJ Pg Hs 207 [1] Q [(0, .val x0), (1, .val x1), (18, .val x18)] H
theorem f207_j2_eq (x0 : AV) (x1 : AV) (x18 : AV) (H : Heap) (Q : Post) : f207_j2 x0 x1 x18 H Q =
 cndA x18
 (ob (nilA x0) fun r9 =>
 ob (addPA r9 1) fun r10 =>
 ob (stH H 1 r10 x1) fun H11 =>
 Q (AV.tup []) H11)
 (Q (AV.tup []) H) :=
  (AtJ_eq Pg Hs 207 [1] Q _ H).trans (by kernel_rfl)
theorem f207_eq (a0 a1 : AV) (H : Heap) (Q : Post) : E 207 [a0, a1] H Q =
 E 114 [a0] H fun r1 H2 =>
 ob (unA .not r1) fun r3 =>
 cndA r3
 (ob (binA Pg .geq 3 true a1 (I 0)) fun r4 =>
 cndA r4
 (ob (nilA a0) fun r5 =>
 ob (addPA r5 1) fun r6 =>
 ob (ldH H2 false 1 r6) fun r7 =>
 ob (binA Pg .leq 3 false a1 r7) fun r8 =>
 f207_j2 a0 a1 r8 H2 Q)
 (f207_j2 a0 a1 (B false) H2 Q))
 (f207_j2 a0 a1 (B false) H2 Q) :=
  Ev_eq.trans (by kernel_rfl)
/-! ### 208 haruspex/value.Text -/
theorem f208_eq (a0 : AV) (H : Heap) (Q : Post) : E 208 [a0] H Q =
 ob (lenSA a0) fun r1 =>
 ob (binA Pg .gtr 3 true r1 (I 256)) fun r2 =>
 cndA r2
 (E 154 [] H fun r3 H4 =>
 ob (sizedA 3 r3) fun b5 =>
 ob (spliceA 0 b5 [(I 0), (I 0), (S ⟨#[]⟩)]) fun b6 =>
 ob (partA true 0 3 b6) fun r7 =>
 Q r7 H4)
 (ob (bldA [(0, 1, (I 3)), (2, 1, a0)] [(I 0), (I 0), (S ⟨#[]⟩)]) fun r8 =>
 ob (sizedA 3 r8) fun b9 =>
 ob (spliceA 0 b9 [(I 0), (I 0), (S ⟨#[]⟩)]) fun b10 =>
 ob (partA true 0 3 b10) fun r11 =>
 Q r11 H) :=
  Ev_eq.trans (by kernel_rfl)
/-! ### 209 (*haruspex/cond.parser).field -/
theorem f209_eq (a0 a1 : AV) (H : Heap) (Q : Post) : E 209 [a0, a1] H Q =
 ob (nilA a0) fun r1 =>
 ob (addPA r1 0) fun r2 =>
 ob (ldH H false 1 r2) fun r3 =>
 E 200 [r3, (S ⟨#[46]⟩)] H fun r4 H5 =>
 ob (unA .not r4) fun r6 =>
 cndA r6
 (E 195 [a0, (I 4)] H5 fun r7 H8 =>
 ob (sizedA 7 r7) fun b9 =>
 ob (spliceA 0 b9 [(I 0), (I 0), (I 0), (S ⟨#[]⟩), (S ⟨#[]⟩), (S ⟨#[]⟩), (AV.sl 0 true .full [])]) fun b10 =>
 ob (partA true 0 7 b10) fun r11 =>
 Q r11 H8)
 (ob (nilA a0) fun r12 =>
 ob (addPA r12 0) fun r13 =>
 ob (ldH H5 false 1 r13) fun r14 =>
 E 214 [r14] H5 fun r15 H16 =>
 ob (extractA r15 0) fun r17 =>
 ob (extractA r15 1) fun r18 =>
 ob (unA .not r18) fun r19 =>
 cndA r19
 (E 195 [a0, (I 4)] H16 fun r20 H21 =>
 ob (sizedA 7 r20) fun b22 =>
 ob (spliceA 0 b22 [(I 0), (I 0), (I 0), (S ⟨#[]⟩), (S ⟨#[]⟩), (S ⟨#[]⟩), (AV.sl 0 true .full [])]) fun b23 =>
 ob (partA true 0 7 b23) fun r24 =>
 Q r24 H21)
 (ob (bldA [(0, 1, (I 2)), (4, 1, a1), (5, 1, r17)] [(I 0), (I 0), (I 0), (S ⟨#[]⟩), (S ⟨#[]⟩), (S ⟨#[]⟩), (AV.sl 0 true .full [])]) fun r25 =>
 ob (sizedA 7 r25) fun b26 =>
 ob (spliceA 0 b26 [(I 0), (I 0), (I 0), (S ⟨#[]⟩), (S ⟨#[]⟩), (S ⟨#[]⟩), (AV.sl 0 true .full [])]) fun b27 =>
 ob (partA true 0 7 b27) fun r28 =>
 Q r28 H16)) :=
  Ev_eq.trans (by kernel_rfl)
/-! ### 210 haruspex/cond.constant -/
theorem f210_eq (a0 : AV) (H : Heap) (Q : Post) : E 210 [a0] H Q =
 ob (binA Pg .eql 9 true a0 (S ⟨#[84, 82, 85, 69]⟩)) fun r1 =>
 cndA r1
 (E 155 [(B true)] H fun r2 H3 =>
 ob (sizedA 3 r2) fun b4 =>
 ob (spliceA 0 b4 [(I 0), (I 0), (S ⟨#[]⟩)]) fun b5 =>
 ob (partA true 0 3 b5) fun r6 =>
 Q (AV.tup [r6, (B true)]) H3)
 (ob (binA Pg .eql 9 true a0 (S ⟨#[70, 65, 76, 83, 69]⟩)) fun r7 =>
 cndA r7
 (E 155 [(B false)] H fun r8 H9 =>
 ob (sizedA 3 r8) fun b10 =>
 ob (spliceA 0 b10 [(I 0), (I 0), (S ⟨#[]⟩)]) fun b11 =>
 ob (partA true 0 3 b11) fun r12 =>
 Q (AV.tup [r12, (B true)]) H9)
 (ob (binA Pg .eql 9 true a0 (S ⟨#[78, 85, 76, 76]⟩)) fun r13 =>
 cndA r13
 (E 154 [] H fun r14 H15 =>
 ob (sizedA 3 r14) fun b16 =>
 ob (spliceA 0 b16 [(I 0), (I 0), (S ⟨#[]⟩)]) fun b17 =>
 ob (partA true 0 3 b17) fun r18 =>
 Q (AV.tup [r18, (B true)]) H15)
 (E 154 [] H fun r19 H20 =>
 ob (sizedA 3 r19) fun b21 =>
 ob (spliceA 0 b21 [(I 0), (I 0), (S ⟨#[]⟩)]) fun b22 =>
 ob (partA true 0 3 b22) fun r23 =>
 Q (AV.tup [r23, (B false)]) H20))) :=
  Ev_eq.trans (by kernel_rfl)
/-! ### 211 (*haruspex/cond.parser).paren -/
def f211_j7 (x0 : AV) (x2 : List AV) (x3 : List AV) (x18 : AV) (H : Heap) (Q : Post) : Prop := AtJ Pg Hs 211 [1, 1, 0, 1] Q [(0, .val x0), (2, .lbox x2), (3, .lbox x3), (18, .val x18)] H
theorem f211_j7_eq (x0 : AV) (x2 : List AV) (x3 : List AV) (x18 : AV) (H : Heap) (Q : Post) : f211_j7 x0 x2 x3 x18 H Q =
 cndA x18
 (E 195 [x0, (I 4)] H fun r15 H16 =>
 ob (sizedA 7 r15) fun b17 =>
 ob (spliceA 0 b17 x2) fun b18 =>
 ob (partA true 0 7 b18) fun r19 =>
 Q r19 H16)
 (ob (partA true 0 7 x3) fun r20 =>
 ob (sizedA 7 r20) fun b21 =>
 ob (spliceA 0 b21 x2) fun b22 =>
 ob (partA true 0 7 b22) fun r23 =>
 Q r23 H) :=
  (AtJ_eq Pg Hs 211 [1, 1, 0, 1] Q _ H).trans (by kernel_rfl)
theorem f211_eq (a0 : AV) (H : Heap) (Q : Post) : E 211 [a0] H Q =
 E 113 [a0] H fun r1 H2 =>
 ob (sizedA 7 r1) fun b3 =>
 ob (spliceA 0 b3 [(I 0), (I 0), (I 0), (S ⟨#[]⟩), (S ⟨#[]⟩), (S ⟨#[]⟩), (AV.sl 0 true .full [])]) fun b4 =>
 ob (nilA a0) fun r5 =>
 ob (addPA r5 2) fun r6 =>
 ob (ldH H2 false 1 r6) fun r7 =>
 ob (binA Pg .eql 31 true r7 (I 0)) fun r8 =>
 cndA r8
 (ob (nilA a0) fun r9 =>
 ob (addPA r9 0) fun r10 =>
 ob (ldH H2 false 1 r10) fun r11 =>
 E 200 [r11, (S ⟨#[41]⟩)] H2 fun r12 H13 =>
 ob (unA .not r12) fun r14 =>
 f211_j7 a0 [(I 0), (I 0), (I 0), (S ⟨#[]⟩), (S ⟨#[]⟩), (S ⟨#[]⟩), (AV.sl 0 true .full [])] b4 r14 H13 Q)
 (f211_j7 a0 [(I 0), (I 0), (I 0), (S ⟨#[]⟩), (S ⟨#[]⟩), (S ⟨#[]⟩), (AV.sl 0 true .full [])] b4 (B false) H2 Q) :=
  Ev_eq.trans (by kernel_rfl)
/-! ### 212 haruspex/num.Parse -/
def f212_l18 (x5 : AV) (x7 : AV) (x21 : AV) (x22 : AV) (x23 : AV) (H : Heap) (Q : Post) : Prop := AtF Pg Hs 212 [1, 1, 1, 1, 0, 1, 0] Q [(5, .val x5), (7, .val x7), (21, .val x21), (22, .val x22), (23, .val x23)] H
theorem f212_l18_eq (x5 : AV) (x7 : AV) (x21 : AV) (x22 : AV) (x23 : AV) (H : Heap) (Q : Post) : f212_l18 x5 x7 x21 x22 x23 H Q =
 ob (binA Pg .lss 3 false x23 x22) fun r9 =>
 cndA r9
 (ob (ixaA 1 x21 x23) fun c10 =>
 ob (partA false 0 1 c10) fun r11 =>
 E 216 [x7, (I 10)] H fun r12 H13 =>
 ob (extractA r12 0) fun r14 =>
 ob (extractA r12 1) fun r15 =>
 ob (binA Pg .neq 31 true r15 (I 0)) fun r16 =>
 cndA r16
 (Q (AV.tup [(I 0), r15]) H13)
 (ob (binA Pg .sub 5 true r11 (AV.raw (.int .u8 48))) fun r17 =>
 ob (cvtIA .i64 r17) fun r19 =>
 E 217 [r14, r19] H13 fun r20 H21 =>
 ob (extractA r20 0) fun r22 =>
 ob (extractA r20 1) fun r23 =>
 ob (binA Pg .neq 31 true r23 (I 0)) fun r24 =>
 cndA r24
 (Q (AV.tup [(I 0), r23]) H21)
 (ob (binA Pg .add 3 true x23 (I 1)) fun r25 =>
 f212_l18 x5 r22 x21 x22 r25 H21 Q)))
 (cndA x5
 (Q (AV.tup [x7, (I 0)]) H)
 (E 218 [x7] H fun r26 H27 =>
 ob (extractA r26 0) fun r28 =>
 ob (extractA r26 1) fun r29 =>
 Q (AV.tup [r28, r29]) H27)) :=
  (AtF_eq Pg Hs 212 [1, 1, 1, 1, 0, 1, 0] Q _ H).trans (by kernel_rfl)
theorem f212_eq (a0 : AV) (H : Heap) (Q : Post) : E 212 [a0] H Q =
 E 215 [a0] H fun r1 H2 =>
 ob (extractA r1 0) fun r3 =>
 ob (extractA r1 1) fun r4 =>
 ob (extractA r1 2) fun r5 =>
 ob (unA .not r5) fun r6 =>
 cndA r6
 (Q (AV.tup [(I 0), (I 4)]) H2)
 (sbA r3 fun r7 =>
 ob (lenA r7) fun r8 =>
 f212_l18 r4 (I 0) r7 r8 (I 0) H2 Q) :=
  Ev_eq.trans (by kernel_rfl)
/-! ### 213 haruspex/value.Int -/
theorem f213_eq (a0 : AV) (H : Heap) (Q : Post) : E 213 [a0] H Q =
 ob (bldA [(0, 1, (I 2)), (1, 1, a0)] [(I 0), (I 0), (S ⟨#[]⟩)]) fun r1 =>
 ob (sizedA 3 r1) fun b2 =>
 ob (spliceA 0 b2 [(I 0), (I 0), (S ⟨#[]⟩)]) fun b3 =>
 ob (partA true 0 3 b3) fun r4 =>
 Q r4 H :=
  Ev_eq.trans (by kernel_rfl)
/-! ### 214 (*haruspex/lex.Reader).Name -/
theorem f214_eq (a0 : AV) (H : Heap) (Q : Post) : E 214 [a0] H Q =
 E 82 [a0] H fun r1 H2 =>
 ob (sizedA 3 r1) fun b3 =>
 ob (spliceA 0 b3 [(I 0), (S ⟨#[]⟩), (I 0)]) fun b4 =>
 ob (partA false 0 1 b4) fun r5 =>
 ob (binA Pg .neq 3 true r5 (I 2)) fun r6 =>
 cndA r6
 (Q (AV.tup [(S ⟨#[]⟩), (B false)]) H2)
 (E 192 [a0] H2 fun r7 H8 =>
 ob (partA false 1 1 b4) fun r9 =>
 Q (AV.tup [r9, (B true)]) H8) :=
  Ev_eq.trans (by kernel_rfl)
/-! ### 215 haruspex/num.digits -/
def f215_j7 (x0 : AV) (x5 : AV) (x6 : AV) (x17 : AV) (H : Heap) (Q : Post) : Prop := AtJ Pg Hs 215 [1, 1, 0, 1] Q [(0, .val x0), (5, .val x5), (6, .val x6), (17, .val x17)] H
def f215_j13 (x5 : AV) (x6 : AV) (x31 : AV) (H : Heap) (Q : Post) : Prop := AtJ Pg Hs 215 [1, 1, 1, 0, 1] Q [(5, .val x5), (6, .val x6), (31, .val x31)] H
def f215_l22 (x5 : AV) (x6 : AV) (x33 : AV) (x34 : AV) (x35 : AV) (H : Heap) (Q : Post) : Prop := AtF Pg Hs 215 [1, 1, 1, 1, 0, 1, 0] Q [(5, .val x5), (6, .val x6), (33, .val x33), (34, .val x34), (35, .val x35)] H
def f215_j35 (x5 : AV) (x6 : AV) (x33 : AV) (x34 : AV) (x35 : AV) (x44 : AV) (H : Heap) (Q : Post) : Prop := AtJ Pg Hs 215 [1, 1, 1, 1, 0, 1, 0, 0, 1, 1, 0, 0, 1, 1] Q [(5, .val x5), (6, .val x6), (33, .val x33), (34, .val x34), (35, .val x35), (44, .val x44)] H
theorem f215_j7_eq (x0 : AV) (x5 : AV) (x6 : AV) (x17 : AV) (H : Heap) (Q : Post) : f215_j7 x0 x5 x6 x17 H Q =
 cndA x17
 (ob (sliceSA x0 (some (I 1)) none) fun r5 =>
 ob (binA Pg .eql 9 true r5 (S ⟨#[]⟩)) fun r6 =>
 cndA r6
 (f215_j13 r5 (B true) (B true) H Q)
 (ob (ixA r5 (I 0)) fun r7 =>
 ob (binA Pg .eql 5 true r7 (AV.raw (.int .u8 48))) fun r8 =>
 cndA r8
 (ob (lenSA x0) fun r9 =>
 ob (binA Pg .gtr 3 true r9 (I 1)) fun r10 =>
 f215_j13 r5 (B true) r10 H Q)
 (f215_j13 r5 (B true) (B false) H Q)))
 (ob (binA Pg .eql 9 true x5 (S ⟨#[]⟩)) fun r11 =>
 cndA r11
 (f215_j13 x5 x6 (B true) H Q)
 (ob (ixA x5 (I 0)) fun r12 =>
 ob (binA Pg .eql 5 true r12 (AV.raw (.int .u8 48))) fun r13 =>
 cndA r13
 (ob (lenSA x0) fun r14 =>
 ob (binA Pg .gtr 3 true r14 (I 1)) fun r15 =>
 f215_j13 x5 x6 r15 H Q)
 (f215_j13 x5 x6 (B false) H Q))) :=
  (AtJ_eq Pg Hs 215 [1, 1, 0, 1] Q _ H).trans (by kernel_rfl)
theorem f215_j13_eq (x5 : AV) (x6 : AV) (x31 : AV) (H : Heap) (Q : Post) : f215_j13 x5 x6 x31 H Q =
 cndA x31
 (Q (AV.tup [(S ⟨#[]⟩), (B false), (B false)]) H)
 (sbA x5 fun r16 =>
 ob (lenA r16) fun r17 =>
 f215_l22 x5 x6 r16 r17 (I 0) H Q) :=
  (AtJ_eq Pg Hs 215 [1, 1, 1, 0, 1] Q _ H).trans (by kernel_rfl)
theorem f215_l22_eq (x5 : AV) (x6 : AV) (x33 : AV) (x34 : AV) (x35 : AV) (H : Heap) (Q : Post) : f215_l22 x5 x6 x33 x34 x35 H Q =
 ob (binA Pg .lss 3 false x35 x34) fun r18 =>
 cndA r18
 (ob (ixaA 1 x33 x35) fun c19 =>
 ob (partA false 0 1 c19) fun r20 =>
 ob (binA Pg .lss 5 true r20 (AV.raw (.int .u8 48))) fun r21 =>
 cndA r21
 (f215_j35 x5 x6 x33 x34 x35 (B true) H Q)
 (ob (binA Pg .gtr 5 true r20 (AV.raw (.int .u8 57))) fun r22 =>
 f215_j35 x5 x6 x33 x34 x35 r22 H Q))
 (Q (AV.tup [x5, x6, (B true)]) H) :=
  (AtF_eq Pg Hs 215 [1, 1, 1, 1, 0, 1, 0] Q _ H).trans (by kernel_rfl)
theorem f215_j35_eq (x5 : AV) (x6 : AV) (x33 : AV) (x34 : AV) (x35 : AV) (x44 : AV) (H : Heap) (Q : Post) : f215_j35 x5 x6 x33 x34 x35 x44 H Q =
 cndA x44
 (Q (AV.tup [(S ⟨#[]⟩), (B false), (B false)]) H)
 (ob (binA Pg .add 3 true x35 (I 1)) fun r23 =>
 f215_l22 x5 x6 x33 x34 r23 H Q) :=
  (AtJ_eq Pg Hs 215 [1, 1, 1, 1, 0, 1, 0, 0, 1, 1, 0, 0, 1, 1] Q _ H).trans (by kernel_rfl)
theorem f215_eq (a0 : AV) (H : Heap) (Q : Post) : E 215 [a0] H Q =
 ob (lenSA a0) fun r1 =>
 ob (binA Pg .gtr 3 true r1 (I 0)) fun r2 =>
 cndA r2
 (ob (ixA a0 (I 0)) fun r3 =>
 ob (binA Pg .eql 5 true r3 (AV.raw (.int .u8 45))) fun r4 =>
 f215_j7 a0 a0 (B false) r4 H Q)
 (f215_j7 a0 a0 (B false) (B false) H Q) :=
  Ev_eq.trans (by kernel_rfl)
/-! ### 216 haruspex/num.Mul -/
def f216_c5_8a (x0 : AV) (x1 : AV) (x24 : AV) (H : Heap) (Q : Post) : Prop := AtJ Pg Hs 216 [1, 0, 1, 0, 0, 0, 0, 0, 0, 1, 0, 0, 8] Q [(0, .val x0), (1, .val x1), (24, .val x24)] H
def f216_c5_8b (x0 : AV) (x1 : AV) (H : Heap) (Q : Post) : Prop := AtJ Pg Hs 216 [1, 0, 1, 0, 0, 0, 0, 0, 0, 1, 0, 0, 8] Q [(0, .val x0), (1, .val x1), (24, .val (B false))] H
def f216_c7_8a (x0 : AV) (x1 : AV) (x42 : AV) (H : Heap) (Q : Post) : Prop := AtJ Pg Hs 216 [1, 0, 1, 0, 0, 0, 0, 1, 0, 0, 8] Q [(0, .val x0), (1, .val x1), (42, .val x42)] H
def f216_c7_8b (x0 : AV) (x1 : AV) (H : Heap) (Q : Post) : Prop := AtJ Pg Hs 216 [1, 0, 1, 0, 0, 0, 0, 1, 0, 0, 8] Q [(0, .val x0), (1, .val x1), (42, .val (B false))] H
def f216_j50 (H : Heap) (Q : Post) : Prop := AtJ Pg Hs 216 [1, 0, 1, 0, 1] Q [] H
def f216_c5_17a (x0 : AV) (x1 : AV) (H : Heap) (Q : Post) : Prop := AtJ Pg Hs 216 [1, 0, 1, 0, 0, 0, 0, 0, 0, 1, 0, 0, 17] Q [(0, .val x0), (1, .val x1), (25, .val (B true)), (33, .nov)] H
def f216_c5_17b (x0 : AV) (x1 : AV) (x33 : AV) (H : Heap) (Q : Post) : Prop := AtJ Pg Hs 216 [1, 0, 1, 0, 0, 0, 0, 0, 0, 1, 0, 0, 17] Q [(0, .val x0), (1, .val x1), (25, .val (B false)), (33, .val x33)] H
def f216_c5_17c (x0 : AV) (x1 : AV) (H : Heap) (Q : Post) : Prop := AtJ Pg Hs 216 [1, 0, 1, 0, 0, 0, 0, 0, 0, 1, 0, 0, 17] Q [(0, .val x0), (1, .val x1), (25, .val (B false)), (33, .val (B false))] H
def f216_c7_17a (x0 : AV) (x1 : AV) (H : Heap) (Q : Post) : Prop := AtJ Pg Hs 216 [1, 0, 1, 0, 0, 0, 0, 1, 0, 0, 17] Q [(0, .val x0), (1, .val x1), (43, .val (B true)), (51, .nov)] H
def f216_c7_17b (x0 : AV) (x1 : AV) (x51 : AV) (H : Heap) (Q : Post) : Prop := AtJ Pg Hs 216 [1, 0, 1, 0, 0, 0, 0, 1, 0, 0, 17] Q [(0, .val x0), (1, .val x1), (43, .val (B false)), (51, .val x51)] H
def f216_c7_17c (x0 : AV) (x1 : AV) (H : Heap) (Q : Post) : Prop := AtJ Pg Hs 216 [1, 0, 1, 0, 0, 0, 0, 1, 0, 0, 17] Q [(0, .val x0), (1, .val x1), (43, .val (B false)), (51, .val (B false))] H
def f216_j35 (x0 : AV) (x1 : AV) (x34 : AV) (H : Heap) (Q : Post) : Prop := AtJ Pg Hs 216 [1, 0, 1, 0, 0, 0, 0, 0, 0, 1, 0, 1] Q [(0, .val x0), (1, .val x1), (34, .val x34)] H
def f216_j44 (x0 : AV) (x1 : AV) (x52 : AV) (H : Heap) (Q : Post) : Prop := AtJ Pg Hs 216 [1, 0, 1, 0, 0, 0, 0, 1, 0, 1] Q [(0, .val x0), (1, .val x1), (52, .val x52)] H
theorem f216_c5_8a_eq (x0 : AV) (x1 : AV) (x24 : AV) (H : Heap) (Q : Post) : f216_c5_8a x0 x1 x24 H Q =
 cndA x24
 (f216_c5_17a x0 x1 H Q)
 (ob (binA Pg .lss 2 true x0 (I 0)) fun r15 =>
 cndA r15
 (ob (binA Pg .quo 2 true (I 9223372036854775807) x0) fun r16 =>
 ob (binA Pg .lss 2 false x1 r16) fun r17 =>
 f216_c5_17b x0 x1 r17 H Q)
 (f216_c5_17c x0 x1 H Q)) :=
  (AtJ_eq Pg Hs 216 [1, 0, 1, 0, 0, 0, 0, 0, 0, 1, 0, 0, 8] Q _ H).trans (by kernel_rfl)
theorem f216_c5_8b_eq (x0 : AV) (x1 : AV) (H : Heap) (Q : Post) : f216_c5_8b x0 x1 H Q =
 ob (binA Pg .lss 2 true x0 (I 0)) fun r18 =>
 cndA r18
 (ob (binA Pg .quo 2 true (I 9223372036854775807) x0) fun r19 =>
 ob (binA Pg .lss 2 false x1 r19) fun r20 =>
 f216_c5_17b x0 x1 r20 H Q)
 (f216_c5_17c x0 x1 H Q) :=
  (AtJ_eq Pg Hs 216 [1, 0, 1, 0, 0, 0, 0, 0, 0, 1, 0, 0, 8] Q _ H).trans (by kernel_rfl)
theorem f216_c7_8a_eq (x0 : AV) (x1 : AV) (x42 : AV) (H : Heap) (Q : Post) : f216_c7_8a x0 x1 x42 H Q =
 cndA x42
 (f216_c7_17a x0 x1 H Q)
 (ob (binA Pg .gtr 2 true x1 (I 0)) fun r21 =>
 cndA r21
 (ob (binA Pg .quo 2 true (I (-9223372036854775808)) x1) fun r22 =>
 ob (binA Pg .lss 2 false x0 r22) fun r23 =>
 f216_c7_17b x0 x1 r23 H Q)
 (f216_c7_17c x0 x1 H Q)) :=
  (AtJ_eq Pg Hs 216 [1, 0, 1, 0, 0, 0, 0, 1, 0, 0, 8] Q _ H).trans (by kernel_rfl)
theorem f216_c7_8b_eq (x0 : AV) (x1 : AV) (H : Heap) (Q : Post) : f216_c7_8b x0 x1 H Q =
 ob (binA Pg .gtr 2 true x1 (I 0)) fun r24 =>
 cndA r24
 (ob (binA Pg .quo 2 true (I (-9223372036854775808)) x1) fun r25 =>
 ob (binA Pg .lss 2 false x0 r25) fun r26 =>
 f216_c7_17b x0 x1 r26 H Q)
 (f216_c7_17c x0 x1 H Q) :=
  (AtJ_eq Pg Hs 216 [1, 0, 1, 0, 0, 0, 0, 1, 0, 0, 8] Q _ H).trans (by kernel_rfl)
theorem f216_j50_eq (H : Heap) (Q : Post) : f216_j50 H Q =
 Q (AV.tup [(I 0), (I 0)]) H :=
  (AtJ_eq Pg Hs 216 [1, 0, 1, 0, 1] Q _ H).trans (by kernel_rfl)
theorem f216_c5_17a_eq (x0 : AV) (x1 : AV) (H : Heap) (Q : Post) : f216_c5_17a x0 x1 H Q =
 f216_j35 x0 x1 (B true) H Q :=
  (AtJ_eq Pg Hs 216 [1, 0, 1, 0, 0, 0, 0, 0, 0, 1, 0, 0, 17] Q _ H).trans (by kernel_rfl)
theorem f216_c5_17b_eq (x0 : AV) (x1 : AV) (x33 : AV) (H : Heap) (Q : Post) : f216_c5_17b x0 x1 x33 H Q =
 f216_j35 x0 x1 x33 H Q :=
  (AtJ_eq Pg Hs 216 [1, 0, 1, 0, 0, 0, 0, 0, 0, 1, 0, 0, 17] Q _ H).trans (by kernel_rfl)
theorem f216_c5_17c_eq (x0 : AV) (x1 : AV) (H : Heap) (Q : Post) : f216_c5_17c x0 x1 H Q =
 f216_j35 x0 x1 (B false) H Q :=
  (AtJ_eq Pg Hs 216 [1, 0, 1, 0, 0, 0, 0, 0, 0, 1, 0, 0, 17] Q _ H).trans (by kernel_rfl)
theorem f216_c7_17a_eq (x0 : AV) (x1 : AV) (H : Heap) (Q : Post) : f216_c7_17a x0 x1 H Q =
 f216_j44 x0 x1 (B true) H Q :=
  (AtJ_eq Pg Hs 216 [1, 0, 1, 0, 0, 0, 0, 1, 0, 0, 17] Q _ H).trans (by kernel_rfl)
theorem f216_c7_17b_eq (x0 : AV) (x1 : AV) (x51 : AV) (H : Heap) (Q : Post) : f216_c7_17b x0 x1 x51 H Q =
 f216_j44 x0 x1 x51 H Q :=
  (AtJ_eq Pg Hs 216 [1, 0, 1, 0, 0, 0, 0, 1, 0, 0, 17] Q _ H).trans (by kernel_rfl)
theorem f216_c7_17c_eq (x0 : AV) (x1 : AV) (H : Heap) (Q : Post) : f216_c7_17c x0 x1 H Q =
 f216_j44 x0 x1 (B false) H Q :=
  (AtJ_eq Pg Hs 216 [1, 0, 1, 0, 0, 0, 0, 1, 0, 0, 17] Q _ H).trans (by kernel_rfl)
theorem f216_j35_eq (x0 : AV) (x1 : AV) (x34 : AV) (H : Heap) (Q : Post) : f216_j35 x0 x1 x34 H Q =
 cndA x34
 (Q (AV.tup [(I 0), (I 10)]) H)
 (ob (binA Pg .mul 2 false x0 x1) fun r27 =>
 Q (AV.tup [r27, (I 0)]) H) :=
  (AtJ_eq Pg Hs 216 [1, 0, 1, 0, 0, 0, 0, 0, 0, 1, 0, 1] Q _ H).trans (by kernel_rfl)
theorem f216_j44_eq (x0 : AV) (x1 : AV) (x52 : AV) (H : Heap) (Q : Post) : f216_j44 x0 x1 x52 H Q =
 cndA x52
 (Q (AV.tup [(I 0), (I 10)]) H)
 (ob (binA Pg .mul 2 false x0 x1) fun r28 =>
 Q (AV.tup [r28, (I 0)]) H) :=
  (AtJ_eq Pg Hs 216 [1, 0, 1, 0, 0, 0, 0, 1, 0, 1] Q _ H).trans (by kernel_rfl)
theorem f216_eq (a0 a1 : AV) (H : Heap) (Q : Post) : E 216 [a0, a1] H Q =
 E 219 [a0] H fun r1 H2 =>
 E 219 [a1] H2 fun r3 H4 =>
 ob (binA Pg .mul 3 false r1 r3) fun r5 =>
 ob (binA Pg .eql 3 true r5 (I 1)) fun r6 =>
 cndA r6
 (ob (binA Pg .gtr 2 true a0 (I 0)) fun r7 =>
 cndA r7
 (ob (binA Pg .quo 2 true (I 9223372036854775807) a0) fun r8 =>
 ob (binA Pg .gtr 2 false a1 r8) fun r9 =>
 f216_c5_8a a0 a1 r9 H4 Q)
 (f216_c5_8b a0 a1 H4 Q))
 (ob (binA Pg .eql 3 true r5 (I (-1))) fun r10 =>
 cndA r10
 (ob (binA Pg .gtr 2 true a0 (I 0)) fun r11 =>
 cndA r11
 (ob (binA Pg .quo 2 true (I (-9223372036854775808)) a0) fun r12 =>
 ob (binA Pg .lss 2 false a1 r12) fun r13 =>
 f216_c7_8a a0 a1 r13 H4 Q)
 (f216_c7_8b a0 a1 H4 Q))
 (ob (binA Pg .eql 3 true r5 (I 0)) fun r14 =>
 cndA r14
 (f216_j50 H4 Q)
 (f216_j50 H4 Q))) :=
  Ev_eq.trans (by kernel_rfl)
/-! ### 217 haruspex/num.Sub -/
def f217_j7 (x6 : AV) (x19 : AV) (H : Heap) (Q : Post) : Prop := AtJ Pg Hs 217 [1, 1, 0, 1] Q [(6, .val x6), (19, .val x19)] H
theorem f217_j7_eq (x6 : AV) (x19 : AV) (H : Heap) (Q : Post) : f217_j7 x6 x19 H Q =
 cndA x19
 (Q (AV.tup [(I 0), (I 10)]) H)
 (Q (AV.tup [x6, (I 0)]) H) :=
  (AtJ_eq Pg Hs 217 [1, 1, 0, 1] Q _ H).trans (by kernel_rfl)
theorem f217_eq (a0 a1 : AV) (H : Heap) (Q : Post) : E 217 [a0, a1] H Q =
 ob (binA Pg .sub 2 false a0 a1) fun r1 =>
 ob (binA Pg .xor 2 false a0 a1) fun r2 =>
 ob (binA Pg .lss 2 true r2 (I 0)) fun r3 =>
 cndA r3
 (ob (binA Pg .xor 2 false a0 r1) fun r4 =>
 ob (binA Pg .lss 2 true r4 (I 0)) fun r5 =>
 f217_j7 r1 r5 H Q)
 (f217_j7 r1 (B false) H Q) :=
  Ev_eq.trans (by kernel_rfl)
/-! ### 218 haruspex/num.Neg -/
theorem f218_eq (a0 : AV) (H : Heap) (Q : Post) : E 218 [a0] H Q =
 ob (binA Pg .eql 2 true a0 (I (-9223372036854775808))) fun r1 =>
 cndA r1
 (Q (AV.tup [(I 0), (I 10)]) H)
 (ob (unA .neg a0) fun r2 =>
 Q (AV.tup [r2, (I 0)]) H) :=
  Ev_eq.trans (by kernel_rfl)
/-! ### 219 haruspex/num.sign -/
theorem f219_eq (a0 : AV) (H : Heap) (Q : Post) : E 219 [a0] H Q =
 ob (binA Pg .lss 2 true a0 (I 0)) fun r1 =>
 cndA r1
 (Q (I (-1)) H)
 (ob (binA Pg .gtr 2 true a0 (I 0)) fun r2 =>
 cndA r2
 (Q (I 1) H)
 (Q (I 0) H)) :=
  Ev_eq.trans (by kernel_rfl)
end Go.Hx
