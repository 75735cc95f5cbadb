/- Printed by gen.py (own work): each function as the abstract machine has it. -/
import Derived.Test.YtpmkfliolekedaaGreatS4H
import Derived.KernelRfl
set_option linter.unusedVariables false
namespace Go.Hx
/-! ### 2 gosem.cut.init -/
theorem f2_eq (_u : Unit := ()) (H : Heap) (Q : Post) : E 2 [] H Q =
 primA Pg 1 [] fun r1 =>
 Q (AV.tup []) H :=
  Ev_eq.trans (by kernel_rfl)
/-! ### 3 haruspex/haruspexlaw20.EplPrints -/
def f3_c5_8a (x1 : List AV) (x28 : AV) (H : Heap) (Q : Post) : Prop := AtJ Pg Hs 3 [1, 1, 1, 1, 0, 8] Q [(1, .lbox x1), (28, .val x28)] H
def f3_c5_8b (x1 : List AV) (H : Heap) (Q : Post) : Prop := AtJ Pg Hs 3 [1, 1, 1, 1, 0, 8] Q [(1, .lbox x1), (28, .val (B false))] H
def f3_c5_15a (x1 : List AV) (x35 : AV) (H : Heap) (Q : Post) : Prop := AtJ Pg Hs 3 [1, 1, 1, 1, 0, 15] Q [(1, .lbox x1), (35, .val x35)] H
def f3_c5_15b (x1 : List AV) (H : Heap) (Q : Post) : Prop := AtJ Pg Hs 3 [1, 1, 1, 1, 0, 15] Q [(1, .lbox x1), (35, .val (B false))] H
def f3_c5_18a (x1 : List AV) (x38 : AV) (H : Heap) (Q : Post) : Prop := AtJ Pg Hs 3 [1, 1, 1, 1, 0, 18] Q [(1, .lbox x1), (38, .val x38)] H
def f3_c5_18b (x1 : List AV) (H : Heap) (Q : Post) : Prop := AtJ Pg Hs 3 [1, 1, 1, 1, 0, 18] Q [(1, .lbox x1), (38, .val (B false))] H
def f3_j16 (x2 : AV) (H : Heap) (Q : Post) : Prop := AtJ Pg Hs 3 [1, 1, 1, 1, 1] Q [(2, .val x2)] H
theorem f3_c5_8a_eq (x1 : List AV) (x28 : AV) (H : Heap) (Q : Post) : f3_c5_8a x1 x28 H Q =
 cndA x28
 (ob (partA true 0 11 x1) fun r20 =>
 ob (partA true 0 11 x1) fun r21 =>
 E 11 [r20] H fun r22 H23 =>
 E 12 [r21] H23 fun r24 H25 =>
 ob (binA Pg .eql 4 false r22 r24) fun r26 =>
 f3_c5_15a x1 r26 H25 Q)
 (f3_c5_15b x1 H Q) :=
  (AtJ_eq Pg Hs 3 [1, 1, 1, 1, 0, 8] Q _ H).trans (by kernel_rfl)
theorem f3_c5_8b_eq (x1 : List AV) (H : Heap) (Q : Post) : f3_c5_8b x1 H Q =
 f3_c5_15b x1 H Q :=
  (AtJ_eq Pg Hs 3 [1, 1, 1, 1, 0, 8] Q _ H).trans (by kernel_rfl)
theorem f3_c5_15a_eq (x1 : List AV) (x35 : AV) (H : Heap) (Q : Post) : f3_c5_15a x1 x35 H Q =
 cndA x35
 (E 8 [] H fun r27 H28 =>
 f3_c5_18a x1 r27 H28 Q)
 (f3_c5_18b x1 H Q) :=
  (AtJ_eq Pg Hs 3 [1, 1, 1, 1, 0, 15] Q _ H).trans (by kernel_rfl)
theorem f3_c5_15b_eq (x1 : List AV) (H : Heap) (Q : Post) : f3_c5_15b x1 H Q =
 f3_c5_18b x1 H Q :=
  (AtJ_eq Pg Hs 3 [1, 1, 1, 1, 0, 15] Q _ H).trans (by kernel_rfl)
theorem f3_c5_18a_eq (x1 : List AV) (x38 : AV) (H : Heap) (Q : Post) : f3_c5_18a x1 x38 H Q =
 f3_j16 x38 H Q :=
  (AtJ_eq Pg Hs 3 [1, 1, 1, 1, 0, 18] Q _ H).trans (by kernel_rfl)
theorem f3_c5_18b_eq (x1 : List AV) (H : Heap) (Q : Post) : f3_c5_18b x1 H Q =
 f3_j16 (B false) H Q :=
  (AtJ_eq Pg Hs 3 [1, 1, 1, 1, 0, 18] Q _ H).trans (by kernel_rfl)
theorem f3_j16_eq (x2 : AV) (H : Heap) (Q : Post) : f3_j16 x2 H Q =
 Q x2 H :=
  (AtJ_eq Pg Hs 3 [1, 1, 1, 1, 1] Q _ H).trans (by kernel_rfl)
theorem f3_eq (a0 : AV) (H : Heap) (Q : Post) : E 3 [a0] H Q =
 ob (sizedA 11 a0) fun b1 =>
 ob (partA true 0 11 b1) fun r2 =>
 E 7 [r2] H fun r3 H4 =>
 ob (unA .not r3) fun r5 =>
 cndA r5
 (E 8 [] H4 fun r6 H7 =>
 Q r6 H7)
 (ob (partA true 0 11 b1) fun r8 =>
 E 9 [r8] H4 fun r9 H10 =>
 ob (extractA r9 0) fun r11 =>
 ob (extractA r9 1) fun r12 =>
 ob (partA true 0 11 b1) fun r13 =>
 E 10 [r13] H10 fun r14 H15 =>
 ob (extractA r14 0) fun r16 =>
 ob (extractA r14 1) fun r17 =>
 ob (binA Pg .eql 9 false r11 r16) fun r18 =>
 cndA r18
 (ob (binA Pg .eql 3 false r12 r17) fun r19 =>
 f3_c5_8a b1 r19 H15 Q)
 (f3_c5_8b b1 H15 Q)) :=
  Ev_eq.trans (by kernel_rfl)
/-! ### 4 haruspex/haruspexlaw19.SasePrints -/
def f4_c5_8a (x1 : List AV) (x28 : AV) (H : Heap) (Q : Post) : Prop := AtJ Pg Hs 4 [1, 1, 1, 1, 0, 8] Q [(1, .lbox x1), (28, .val x28)] H
def f4_c5_8b (x1 : List AV) (H : Heap) (Q : Post) : Prop := AtJ Pg Hs 4 [1, 1, 1, 1, 0, 8] Q [(1, .lbox x1), (28, .val (B false))] H
def f4_c5_15a (x1 : List AV) (x35 : AV) (H : Heap) (Q : Post) : Prop := AtJ Pg Hs 4 [1, 1, 1, 1, 0, 15] Q [(1, .lbox x1), (35, .val x35)] H
def f4_c5_15b (x1 : List AV) (H : Heap) (Q : Post) : Prop := AtJ Pg Hs 4 [1, 1, 1, 1, 0, 15] Q [(1, .lbox x1), (35, .val (B false))] H
def f4_c5_18a (x1 : List AV) (x38 : AV) (H : Heap) (Q : Post) : Prop := AtJ Pg Hs 4 [1, 1, 1, 1, 0, 18] Q [(1, .lbox x1), (38, .val x38)] H
def f4_c5_18b (x1 : List AV) (H : Heap) (Q : Post) : Prop := AtJ Pg Hs 4 [1, 1, 1, 1, 0, 18] Q [(1, .lbox x1), (38, .val (B false))] H
def f4_j16 (x2 : AV) (H : Heap) (Q : Post) : Prop := AtJ Pg Hs 4 [1, 1, 1, 1, 1] Q [(2, .val x2)] H
theorem f4_c5_8a_eq (x1 : List AV) (x28 : AV) (H : Heap) (Q : Post) : f4_c5_8a x1 x28 H Q =
 cndA x28
 (ob (partA true 0 11 x1) fun r20 =>
 ob (partA true 0 11 x1) fun r21 =>
 E 16 [r20] H fun r22 H23 =>
 E 17 [r21] H23 fun r24 H25 =>
 ob (binA Pg .eql 4 false r22 r24) fun r26 =>
 f4_c5_15a x1 r26 H25 Q)
 (f4_c5_15b x1 H Q) :=
  (AtJ_eq Pg Hs 4 [1, 1, 1, 1, 0, 8] Q _ H).trans (by kernel_rfl)
theorem f4_c5_8b_eq (x1 : List AV) (H : Heap) (Q : Post) : f4_c5_8b x1 H Q =
 f4_c5_15b x1 H Q :=
  (AtJ_eq Pg Hs 4 [1, 1, 1, 1, 0, 8] Q _ H).trans (by kernel_rfl)
theorem f4_c5_15a_eq (x1 : List AV) (x35 : AV) (H : Heap) (Q : Post) : f4_c5_15a x1 x35 H Q =
 cndA x35
 (E 13 [] H fun r27 H28 =>
 f4_c5_18a x1 r27 H28 Q)
 (f4_c5_18b x1 H Q) :=
  (AtJ_eq Pg Hs 4 [1, 1, 1, 1, 0, 15] Q _ H).trans (by kernel_rfl)
theorem f4_c5_15b_eq (x1 : List AV) (H : Heap) (Q : Post) : f4_c5_15b x1 H Q =
 f4_c5_18b x1 H Q :=
  (AtJ_eq Pg Hs 4 [1, 1, 1, 1, 0, 15] Q _ H).trans (by kernel_rfl)
theorem f4_c5_18a_eq (x1 : List AV) (x38 : AV) (H : Heap) (Q : Post) : f4_c5_18a x1 x38 H Q =
 f4_j16 x38 H Q :=
  (AtJ_eq Pg Hs 4 [1, 1, 1, 1, 0, 18] Q _ H).trans (by kernel_rfl)
theorem f4_c5_18b_eq (x1 : List AV) (H : Heap) (Q : Post) : f4_c5_18b x1 H Q =
 f4_j16 (B false) H Q :=
  (AtJ_eq Pg Hs 4 [1, 1, 1, 1, 0, 18] Q _ H).trans (by kernel_rfl)
theorem f4_j16_eq (x2 : AV) (H : Heap) (Q : Post) : f4_j16 x2 H Q =
 Q x2 H :=
  (AtJ_eq Pg Hs 4 [1, 1, 1, 1, 1] Q _ H).trans (by kernel_rfl)
theorem f4_eq (a0 : AV) (H : Heap) (Q : Post) : E 4 [a0] H Q =
 ob (sizedA 11 a0) fun b1 =>
 ob (partA true 0 11 b1) fun r2 =>
 E 7 [r2] H fun r3 H4 =>
 ob (unA .not r3) fun r5 =>
 cndA r5
 (E 13 [] H4 fun r6 H7 =>
 Q r6 H7)
 (ob (partA true 0 11 b1) fun r8 =>
 E 14 [r8] H4 fun r9 H10 =>
 ob (extractA r9 0) fun r11 =>
 ob (extractA r9 1) fun r12 =>
 ob (partA true 0 11 b1) fun r13 =>
 E 15 [r13] H10 fun r14 H15 =>
 ob (extractA r14 0) fun r16 =>
 ob (extractA r14 1) fun r17 =>
 ob (binA Pg .eql 9 false r11 r16) fun r18 =>
 cndA r18
 (ob (binA Pg .eql 3 false r12 r17) fun r19 =>
 f4_c5_8a b1 r19 H15 Q)
 (f4_c5_8b b1 H15 Q)) :=
  Ev_eq.trans (by kernel_rfl)
/-! ### 5 haruspex/haruspexlaw21.MrPrints -/
def f5_c5_8a (x1 : List AV) (x28 : AV) (H : Heap) (Q : Post) : Prop := AtJ Pg Hs 5 [1, 1, 1, 1, 0, 8] Q [(1, .lbox x1), (28, .val x28)] H
def f5_c5_8b (x1 : List AV) (H : Heap) (Q : Post) : Prop := AtJ Pg Hs 5 [1, 1, 1, 1, 0, 8] Q [(1, .lbox x1), (28, .val (B false))] H
def f5_c5_15a (x1 : List AV) (x35 : AV) (H : Heap) (Q : Post) : Prop := AtJ Pg Hs 5 [1, 1, 1, 1, 0, 15] Q [(1, .lbox x1), (35, .val x35)] H
def f5_c5_15b (x1 : List AV) (H : Heap) (Q : Post) : Prop := AtJ Pg Hs 5 [1, 1, 1, 1, 0, 15] Q [(1, .lbox x1), (35, .val (B false))] H
def f5_c5_18a (x1 : List AV) (x38 : AV) (H : Heap) (Q : Post) : Prop := AtJ Pg Hs 5 [1, 1, 1, 1, 0, 18] Q [(1, .lbox x1), (38, .val x38)] H
def f5_c5_18b (x1 : List AV) (H : Heap) (Q : Post) : Prop := AtJ Pg Hs 5 [1, 1, 1, 1, 0, 18] Q [(1, .lbox x1), (38, .val (B false))] H
def f5_j16 (x2 : AV) (H : Heap) (Q : Post) : Prop := AtJ Pg Hs 5 [1, 1, 1, 1, 1] Q [(2, .val x2)] H
theorem f5_c5_8a_eq (x1 : List AV) (x28 : AV) (H : Heap) (Q : Post) : f5_c5_8a x1 x28 H Q =
 cndA x28
 (ob (partA true 0 11 x1) fun r20 =>
 ob (partA true 0 11 x1) fun r21 =>
 E 21 [r20] H fun r22 H23 =>
 E 22 [r21] H23 fun r24 H25 =>
 ob (binA Pg .eql 4 false r22 r24) fun r26 =>
 f5_c5_15a x1 r26 H25 Q)
 (f5_c5_15b x1 H Q) :=
  (AtJ_eq Pg Hs 5 [1, 1, 1, 1, 0, 8] Q _ H).trans (by kernel_rfl)
theorem f5_c5_8b_eq (x1 : List AV) (H : Heap) (Q : Post) : f5_c5_8b x1 H Q =
 f5_c5_15b x1 H Q :=
  (AtJ_eq Pg Hs 5 [1, 1, 1, 1, 0, 8] Q _ H).trans (by kernel_rfl)
theorem f5_c5_15a_eq (x1 : List AV) (x35 : AV) (H : Heap) (Q : Post) : f5_c5_15a x1 x35 H Q =
 cndA x35
 (E 18 [] H fun r27 H28 =>
 f5_c5_18a x1 r27 H28 Q)
 (f5_c5_18b x1 H Q) :=
  (AtJ_eq Pg Hs 5 [1, 1, 1, 1, 0, 15] Q _ H).trans (by kernel_rfl)
theorem f5_c5_15b_eq (x1 : List AV) (H : Heap) (Q : Post) : f5_c5_15b x1 H Q =
 f5_c5_18b x1 H Q :=
  (AtJ_eq Pg Hs 5 [1, 1, 1, 1, 0, 15] Q _ H).trans (by kernel_rfl)
theorem f5_c5_18a_eq (x1 : List AV) (x38 : AV) (H : Heap) (Q : Post) : f5_c5_18a x1 x38 H Q =
 f5_j16 x38 H Q :=
  (AtJ_eq Pg Hs 5 [1, 1, 1, 1, 0, 18] Q _ H).trans (by kernel_rfl)
theorem f5_c5_18b_eq (x1 : List AV) (H : Heap) (Q : Post) : f5_c5_18b x1 H Q =
 f5_j16 (B false) H Q :=
  (AtJ_eq Pg Hs 5 [1, 1, 1, 1, 0, 18] Q _ H).trans (by kernel_rfl)
theorem f5_j16_eq (x2 : AV) (H : Heap) (Q : Post) : f5_j16 x2 H Q =
 Q x2 H :=
  (AtJ_eq Pg Hs 5 [1, 1, 1, 1, 1] Q _ H).trans (by kernel_rfl)
theorem f5_eq (a0 : AV) (H : Heap) (Q : Post) : E 5 [a0] H Q =
 ob (sizedA 11 a0) fun b1 =>
 ob (partA true 0 11 b1) fun r2 =>
 E 7 [r2] H fun r3 H4 =>
 ob (unA .not r3) fun r5 =>
 cndA r5
 (E 18 [] H4 fun r6 H7 =>
 Q r6 H7)
 (ob (partA true 0 11 b1) fun r8 =>
 E 19 [r8] H4 fun r9 H10 =>
 ob (extractA r9 0) fun r11 =>
 ob (extractA r9 1) fun r12 =>
 ob (partA true 0 11 b1) fun r13 =>
 E 20 [r13] H10 fun r14 H15 =>
 ob (extractA r14 0) fun r16 =>
 ob (extractA r14 1) fun r17 =>
 ob (binA Pg .eql 9 false r11 r16) fun r18 =>
 cndA r18
 (ob (binA Pg .eql 3 false r12 r17) fun r19 =>
 f5_c5_8a b1 r19 H15 Q)
 (f5_c5_8b b1 H15 Q)) :=
  Ev_eq.trans (by kernel_rfl)
/-! ### 6 haruspex/haruspexlaw18.CondPrints -/
def f6_j5 (x1 : AV) (x2 : List AV) (x21 : AV) (H : Heap) (Q : Post) : Prop := AtJ Pg Hs 6 [1, 0, 1] Q [(1, .val x1), (2, .lbox x2), (21, .val x21)] H
def f6_l14 (x1 : AV) (x2 : List AV) (x5 : AV) (H : Heap) (Q : Post) : Prop := AtF Pg Hs 6 [1, 1, 0, 1, 0] Q [(1, .val x1), (2, .lbox x2), (5, .val x5)] H
def f6_c12_8a (x2 : List AV) (x10 : AV) (x11 : AV) (x12 : AV) (x13 : AV) (x63 : AV) (H : Heap) (Q : Post) : Prop := AtJ Pg Hs 6 [1, 1, 1, 1, 1, 1, 1, 0, 8] Q [(2, .lbox x2), (10, .val x10), (11, .val x11), (12, .val x12), (13, .val x13), (63, .val x63)] H
def f6_c12_8b (x2 : List AV) (x10 : AV) (x11 : AV) (x12 : AV) (x13 : AV) (H : Heap) (Q : Post) : Prop := AtJ Pg Hs 6 [1, 1, 1, 1, 1, 1, 1, 0, 8] Q [(2, .lbox x2), (10, .val x10), (11, .val x11), (12, .val x12), (13, .val x13), (63, .val (B false))] H
def f6_c12_13a (x2 : List AV) (x11 : AV) (x13 : AV) (x68 : AV) (H : Heap) (Q : Post) : Prop := AtJ Pg Hs 6 [1, 1, 1, 1, 1, 1, 1, 0, 13] Q [(2, .lbox x2), (11, .val x11), (13, .val x13), (68, .val x68)] H
def f6_c12_13b (x2 : List AV) (x11 : AV) (x13 : AV) (H : Heap) (Q : Post) : Prop := AtJ Pg Hs 6 [1, 1, 1, 1, 1, 1, 1, 0, 13] Q [(2, .lbox x2), (11, .val x11), (13, .val x13), (68, .val (B false))] H
def f6_c12_18a (x2 : List AV) (x73 : AV) (H : Heap) (Q : Post) : Prop := AtJ Pg Hs 6 [1, 1, 1, 1, 1, 1, 1, 0, 18] Q [(2, .lbox x2), (73, .val x73)] H
def f6_c12_18b (x2 : List AV) (H : Heap) (Q : Post) : Prop := AtJ Pg Hs 6 [1, 1, 1, 1, 1, 1, 1, 0, 18] Q [(2, .lbox x2), (73, .val (B false))] H
def f6_c12_21a (x2 : List AV) (x76 : AV) (H : Heap) (Q : Post) : Prop := AtJ Pg Hs 6 [1, 1, 1, 1, 1, 1, 1, 0, 21] Q [(2, .lbox x2), (76, .val x76)] H
def f6_c12_21b (x2 : List AV) (H : Heap) (Q : Post) : Prop := AtJ Pg Hs 6 [1, 1, 1, 1, 1, 1, 1, 0, 21] Q [(2, .lbox x2), (76, .val (B false))] H
def f6_j41 (x4 : AV) (H : Heap) (Q : Post) : Prop := AtJ Pg Hs 6 [1, 1, 1, 1, 1, 1, 1, 1] Q [(4, .val x4)] H
theorem f6_j5_eq (x1 : AV) (x2 : List AV) (x21 : AV) (H : Heap) (Q : Post) : f6_j5 x1 x2 x21 H Q =
 cndA x21
 (E 24 [] H fun r8 H9 =>
 Q r8 H9)
 (f6_l14 x1 x2 (I 0) H Q) :=
  (AtJ_eq Pg Hs 6 [1, 0, 1] Q _ H).trans (by kernel_rfl)
theorem f6_l14_eq (x1 : AV) (x2 : List AV) (x5 : AV) (H : Heap) (Q : Post) : f6_l14 x1 x2 x5 H Q =
 ob (lenA x1) fun r10 =>
 ob (binA Pg .lss 3 false x5 r10) fun r11 =>
 cndA r11
 (ob (ixaA 7 x1 x5) fun c12 =>
 ob (partA true 0 7 c12) fun r13 =>
 E 23 [r13] H fun r14 H15 =>
 ob (binA Pg .gtr 3 true r14 (I 400)) fun r16 =>
 cndA r16
 (E 24 [] H15 fun r17 H18 =>
 Q r17 H18)
 (ob (binA Pg .add 3 true x5 (I 1)) fun r19 =>
 f6_l14 x1 x2 r19 H15 Q))
 (ob (partA true 0 7 x2) fun r20 =>
 E 25 [r20] H fun r21 H22 =>
 ob (extractA r21 0) fun r23 =>
 ob (extractA r21 1) fun r24 =>
 ob (partA true 0 7 x2) fun r25 =>
 E 26 [r25] H22 fun r26 H27 =>
 ob (extractA r26 0) fun r28 =>
 ob (extractA r26 1) fun r29 =>
 E 27 [x1] H27 fun r30 H31 =>
 ob (extractA r30 0) fun r32 =>
 ob (extractA r30 1) fun r33 =>
 E 28 [x1] H31 fun r34 H35 =>
 ob (extractA r34 0) fun r36 =>
 ob (extractA r34 1) fun r37 =>
 ob (binA Pg .eql 9 false r23 r28) fun r38 =>
 cndA r38
 (ob (binA Pg .eql 3 false r24 r29) fun r39 =>
 f6_c12_8a x2 r32 r33 r36 r37 r39 H35 Q)
 (f6_c12_8b x2 r32 r33 r36 r37 H35 Q)) :=
  (AtF_eq Pg Hs 6 [1, 1, 0, 1, 0] Q _ H).trans (by kernel_rfl)
theorem f6_c12_8a_eq (x2 : List AV) (x10 : AV) (x11 : AV) (x12 : AV) (x13 : AV) (x63 : AV) (H : Heap) (Q : Post) : f6_c12_8a x2 x10 x11 x12 x13 x63 H Q =
 cndA x63
 (ob (binA Pg .eql 9 false x10 x12) fun r40 =>
 f6_c12_13a x2 x11 x13 r40 H Q)
 (f6_c12_13b x2 x11 x13 H Q) :=
  (AtJ_eq Pg Hs 6 [1, 1, 1, 1, 1, 1, 1, 0, 8] Q _ H).trans (by kernel_rfl)
theorem f6_c12_8b_eq (x2 : List AV) (x10 : AV) (x11 : AV) (x12 : AV) (x13 : AV) (H : Heap) (Q : Post) : f6_c12_8b x2 x10 x11 x12 x13 H Q =
 f6_c12_13b x2 x11 x13 H Q :=
  (AtJ_eq Pg Hs 6 [1, 1, 1, 1, 1, 1, 1, 0, 8] Q _ H).trans (by kernel_rfl)
theorem f6_c12_13a_eq (x2 : List AV) (x11 : AV) (x13 : AV) (x68 : AV) (H : Heap) (Q : Post) : f6_c12_13a x2 x11 x13 x68 H Q =
 cndA x68
 (ob (binA Pg .eql 3 false x11 x13) fun r41 =>
 f6_c12_18a x2 r41 H Q)
 (f6_c12_18b x2 H Q) :=
  (AtJ_eq Pg Hs 6 [1, 1, 1, 1, 1, 1, 1, 0, 13] Q _ H).trans (by kernel_rfl)
theorem f6_c12_13b_eq (x2 : List AV) (x11 : AV) (x13 : AV) (H : Heap) (Q : Post) : f6_c12_13b x2 x11 x13 H Q =
 f6_c12_18b x2 H Q :=
  (AtJ_eq Pg Hs 6 [1, 1, 1, 1, 1, 1, 1, 0, 13] Q _ H).trans (by kernel_rfl)
theorem f6_c12_18a_eq (x2 : List AV) (x73 : AV) (H : Heap) (Q : Post) : f6_c12_18a x2 x73 H Q =
 cndA x73
 (E 24 [] H fun r42 H43 =>
 f6_c12_21a x2 r42 H43 Q)
 (f6_c12_21b x2 H Q) :=
  (AtJ_eq Pg Hs 6 [1, 1, 1, 1, 1, 1, 1, 0, 18] Q _ H).trans (by kernel_rfl)
theorem f6_c12_18b_eq (x2 : List AV) (H : Heap) (Q : Post) : f6_c12_18b x2 H Q =
 f6_c12_21b x2 H Q :=
  (AtJ_eq Pg Hs 6 [1, 1, 1, 1, 1, 1, 1, 0, 18] Q _ H).trans (by kernel_rfl)
theorem f6_c12_21a_eq (x2 : List AV) (x76 : AV) (H : Heap) (Q : Post) : f6_c12_21a x2 x76 H Q =
 f6_j41 x76 H Q :=
  (AtJ_eq Pg Hs 6 [1, 1, 1, 1, 1, 1, 1, 0, 21] Q _ H).trans (by kernel_rfl)
theorem f6_c12_21b_eq (x2 : List AV) (H : Heap) (Q : Post) : f6_c12_21b x2 H Q =
 f6_j41 (B false) H Q :=
  (AtJ_eq Pg Hs 6 [1, 1, 1, 1, 1, 1, 1, 0, 21] Q _ H).trans (by kernel_rfl)
theorem f6_j41_eq (x4 : AV) (H : Heap) (Q : Post) : f6_j41 x4 H Q =
 Q x4 H :=
  (AtJ_eq Pg Hs 6 [1, 1, 1, 1, 1, 1, 1, 1] Q _ H).trans (by kernel_rfl)
theorem f6_eq (a0 a1 : AV) (H : Heap) (Q : Post) : E 6 [a0, a1] H Q =
 ob (sizedA 7 a0) fun b1 =>
 ob (partA true 0 7 b1) fun r2 =>
 E 23 [r2] H fun r3 H4 =>
 ob (binA Pg .gtr 3 true r3 (I 400)) fun r5 =>
 cndA r5
 (f6_j5 a1 b1 (B true) H4 Q)
 (ob (lenA a1) fun r6 =>
 ob (binA Pg .gtr 3 true r6 (I 30)) fun r7 =>
 f6_j5 a1 b1 r7 H4 Q) :=
  Ev_eq.trans (by kernel_rfl)
/-! ### 7 haruspex/haruspexref13.Light -/
def f7_l8 (x1 : List AV) (x3 : AV) (x4 : AV) (H : Heap) (Q : Post) : Prop := AtF Pg Hs 7 [1, 1, 0, 1, 0] Q [(1, .lbox x1), (3, .val x3), (4, .val x4)] H
def f7_j21 (x2 : AV) (H : Heap) (Q : Post) : Prop := AtJ Pg Hs 7 [1, 1, 1, 1] Q [(2, .val x2)] H
theorem f7_l8_eq (x1 : List AV) (x3 : AV) (x4 : AV) (H : Heap) (Q : Post) : f7_l8 x1 x3 x4 H Q =
 ob (partA false 6 1 x1) fun r5 =>
 ob (lenA r5) fun r6 =>
 ob (binA Pg .lss 3 false x4 r6) fun r7 =>
 cndA r7
 (ob (partA false 6 1 x1) fun r8 =>
 ob (ixaA 7 r8 x4) fun c9 =>
 ob (partA true 0 7 c9) fun r10 =>
 E 23 [r10] H fun r11 H12 =>
 ob (binA Pg .add 3 false x3 r11) fun r13 =>
 ob (binA Pg .add 3 true x4 (I 1)) fun r14 =>
 f7_l8 x1 r13 r14 H12 Q)
 (ob (binA Pg .leq 3 true x3 (I 600)) fun r15 =>
 cndA r15
 (ob (partA false 10 1 x1) fun r16 =>
 ob (lenA r16) fun r17 =>
 ob (binA Pg .leq 3 true r17 (I 60)) fun r18 =>
 f7_j21 r18 H Q)
 (f7_j21 (B false) H Q)) :=
  (AtF_eq Pg Hs 7 [1, 1, 0, 1, 0] Q _ H).trans (by kernel_rfl)
theorem f7_j21_eq (x2 : AV) (H : Heap) (Q : Post) : f7_j21 x2 H Q =
 Q x2 H :=
  (AtJ_eq Pg Hs 7 [1, 1, 1, 1] Q _ H).trans (by kernel_rfl)
theorem f7_eq (a0 : AV) (H : Heap) (Q : Post) : E 7 [a0] H Q =
 ob (sizedA 11 a0) fun b1 =>
 ob (partA true 0 6 b1) fun r2 =>
 E 29 [r2] H fun r3 H4 =>
 f7_l8 b1 r3 (I 0) H4 Q :=
  Ev_eq.trans (by kernel_rfl)
/-! ### 8 haruspex/haruspexlaw20.awake -/
def f8_j6 (x0 : AV) (H : Heap) (Q : Post) : Prop := AtJ Pg Hs 8 [1, 1, 1] Q [(0, .val x0)] H
theorem f8_j6_eq (x0 : AV) (H : Heap) (Q : Post) : f8_j6 x0 H Q =
 Q x0 H :=
  (AtJ_eq Pg Hs 8 [1, 1, 1] Q _ H).trans (by kernel_rfl)
theorem f8_eq (_u : Unit := ()) (H : Heap) (Q : Post) : E 8 [] H Q =
 ob (bldA [(0, 1, (I 1)), (1, 1, (S ⟨#[97]⟩)), (2, 1, (S ⟨#[116]⟩))] [(I 0), (S ⟨#[]⟩), (S ⟨#[]⟩), (I 0), (I 0), (AV.sl 0 true .full [])]) fun r1 =>
 ob (bldA [(0, 6, r1)] [(I 0), (S ⟨#[]⟩), (S ⟨#[]⟩), (I 0), (I 0), (AV.sl 0 true .full []), (AV.sl 0 true .full []), (S ⟨#[]⟩), (I 0), (I 0), (AV.sl 0 true .full [])]) fun r2 =>
 E 9 [r2] H fun r3 H4 =>
 ob (extractA r3 0) fun r5 =>
 ob (extractA r3 1) fun r6 =>
 ob (binA Pg .eql 31 true r6 (I 0)) fun r7 =>
 cndA r7
 (ob (binA Pg .eql 9 true r5 (S ⟨#[69, 86, 69, 82, 89, 32, 97, 61, 116]⟩)) fun r8 =>
 f8_j6 r8 H4 Q)
 (f8_j6 (B false) H4 Q) :=
  Ev_eq.trans (by kernel_rfl)
/-! ### 9 haruspex/epl.Print -/
theorem f9_eq (a0 : AV) (H : Heap) (Q : Post) : E 9 [a0] H Q =
 ob (sizedA 11 a0) fun b1 =>
 ob (partA true 0 11 b1) fun r2 =>
 E 30 [r2] H fun r3 H4 =>
 ob (binA Pg .neq 31 true r3 (I 0)) fun r5 =>
 cndA r5
 (Q (AV.tup [(S ⟨#[]⟩), r3]) H4)
 (ob (partA true 0 11 b1) fun r6 =>
 E 31 [r6] H4 fun r7 H8 =>
 ob (unA .not r7) fun r9 =>
 cndA r9
 (Q (AV.tup [(S ⟨#[]⟩), (I 12)]) H8)
 (ob (bldA [] [(AV.raw (.pointer none)), (AV.sl 0 true .full [])]) fun r10 =>
 ob (sizedA 2 r10) fun b11 =>
 newT H8 56 b11 fun r12 H13 =>
 ob (nilA r12) fun r14 =>
 ob (addPA r14 0) fun r15 =>
 ob (mkSlA 1 [(S ⟨#[69, 86, 69, 82, 89, 32]⟩)]) fun r16 =>
 E 32 [r15, r16] H13 fun r17 H18 =>
 ob (partA true 0 6 b1) fun r19 =>
 E 33 [r12, r19, (I 1)] H18 fun r20 H21 =>
 ob (nilA r12) fun r22 =>
 ob (addPA r22 0) fun r23 =>
 ob (partA false 6 1 b1) fun r24 =>
 E 34 [r23, r24] H21 fun r25 H26 =>
 ob (nilA r12) fun r27 =>
 ob (addPA r27 0) fun r28 =>
 ob (partA false 9 1 b1) fun r29 =>
 E 35 [r28, r29] H26 fun r30 H31 =>
 ob (nilA r12) fun r32 =>
 ob (addPA r32 0) fun r33 =>
 ob (addPA r33 0) fun r34 =>
 E 36 [r34] H31 fun r35 H36 =>
 Q (AV.tup [r35, (I 0)]) H36)) :=
  Ev_eq.trans (by kernel_rfl)
/-! ### 10 haruspex/haruspexref20.Print -/
theorem f10_eq (a0 : AV) (H : Heap) (Q : Post) : E 10 [a0] H Q =
 ob (sizedA 11 a0) fun b1 =>
 ob (partA true 0 11 b1) fun r2 =>
 E 37 [r2] H fun r3 H4 =>
 ob (binA Pg .neq 3 true r3 (I 0)) fun r5 =>
 cndA r5
 (Q (AV.tup [(S ⟨#[]⟩), r3]) H4)
 (ob (partA true 0 11 b1) fun r6 =>
 E 12 [r6] H4 fun r7 H8 =>
 ob (unA .not r7) fun r9 =>
 cndA r9
 (Q (AV.tup [(S ⟨#[]⟩), (I 12)]) H8)
 (ob (partA true 0 6 b1) fun r10 =>
 ob (partA false 6 1 b1) fun r11 =>
 ob (partA false 9 1 b1) fun r12 =>
 E 38 [r10, (I 1)] H8 fun r13 H14 =>
 ob (binA Pg .add 9 true (S ⟨#[69, 86, 69, 82, 89, 32]⟩) r13) fun r15 =>
 E 39 [r11] H14 fun r16 H17 =>
 ob (binA Pg .add 9 false r15 r16) fun r18 =>
 E 40 [r12] H17 fun r19 H20 =>
 ob (binA Pg .add 9 false r18 r19) fun r21 =>
 Q (AV.tup [r21, (I 0)]) H20)) :=
  Ev_eq.trans (by kernel_rfl)
/-! ### 11 haruspex/epl.Says -/
def f11_j4 (x2 : AV) (H : Heap) (Q : Post) : Prop := AtJ Pg Hs 11 [1, 1] Q [(2, .val x2)] H
theorem f11_j4_eq (x2 : AV) (H : Heap) (Q : Post) : f11_j4 x2 H Q =
 Q x2 H :=
  (AtJ_eq Pg Hs 11 [1, 1] Q _ H).trans (by kernel_rfl)
theorem f11_eq (a0 : AV) (H : Heap) (Q : Post) : E 11 [a0] H Q =
 ob (sizedA 11 a0) fun b1 =>
 ob (partA true 0 11 b1) fun r2 =>
 E 30 [r2] H fun r3 H4 =>
 ob (binA Pg .eql 31 true r3 (I 0)) fun r5 =>
 cndA r5
 (ob (partA true 0 11 b1) fun r6 =>
 E 31 [r6] H4 fun r7 H8 =>
 f11_j4 r7 H8 Q)
 (f11_j4 (B false) H4 Q) :=
  Ev_eq.trans (by kernel_rfl)
/-! ### 12 haruspex/haruspexref20.Says -/
def f12_c1_8a (x1 : List AV) (x10 : AV) (H : Heap) (Q : Post) : Prop := AtJ Pg Hs 12 [1, 0, 8] Q [(1, .lbox x1), (10, .val x10)] H
def f12_c1_8b (x1 : List AV) (H : Heap) (Q : Post) : Prop := AtJ Pg Hs 12 [1, 0, 8] Q [(1, .lbox x1), (10, .val (B false))] H
def f12_c1_13a (x1 : List AV) (x15 : AV) (H : Heap) (Q : Post) : Prop := AtJ Pg Hs 12 [1, 0, 13] Q [(1, .lbox x1), (15, .val x15)] H
def f12_c1_13b (x1 : List AV) (H : Heap) (Q : Post) : Prop := AtJ Pg Hs 12 [1, 0, 13] Q [(1, .lbox x1), (15, .val (B false))] H
def f12_c1_19a (x1 : List AV) (x21 : AV) (H : Heap) (Q : Post) : Prop := AtJ Pg Hs 12 [1, 0, 19] Q [(1, .lbox x1), (21, .val x21)] H
def f12_c1_19b (x1 : List AV) (H : Heap) (Q : Post) : Prop := AtJ Pg Hs 12 [1, 0, 19] Q [(1, .lbox x1), (21, .val (B false))] H
def f12_c1_24a (x1 : List AV) (x26 : AV) (H : Heap) (Q : Post) : Prop := AtJ Pg Hs 12 [1, 0, 24] Q [(1, .lbox x1), (26, .val x26)] H
def f12_c1_24b (x1 : List AV) (H : Heap) (Q : Post) : Prop := AtJ Pg Hs 12 [1, 0, 24] Q [(1, .lbox x1), (26, .val (B false))] H
def f12_j4 (x2 : AV) (H : Heap) (Q : Post) : Prop := AtJ Pg Hs 12 [1, 1] Q [(2, .val x2)] H
theorem f12_c1_8a_eq (x1 : List AV) (x10 : AV) (H : Heap) (Q : Post) : f12_c1_8a x1 x10 H Q =
 cndA x10
 (ob (partA false 7 1 x1) fun r9 =>
 ob (binA Pg .eql 9 true r9 (S ⟨#[]⟩)) fun r10 =>
 f12_c1_13a x1 r10 H Q)
 (f12_c1_13b x1 H Q) :=
  (AtJ_eq Pg Hs 12 [1, 0, 8] Q _ H).trans (by kernel_rfl)
theorem f12_c1_8b_eq (x1 : List AV) (H : Heap) (Q : Post) : f12_c1_8b x1 H Q =
 f12_c1_13b x1 H Q :=
  (AtJ_eq Pg Hs 12 [1, 0, 8] Q _ H).trans (by kernel_rfl)
theorem f12_c1_13a_eq (x1 : List AV) (x15 : AV) (H : Heap) (Q : Post) : f12_c1_13a x1 x15 H Q =
 cndA x15
 (ob (partA false 10 1 x1) fun r11 =>
 ob (lenA r11) fun r12 =>
 ob (binA Pg .eql 3 true r12 (I 0)) fun r13 =>
 f12_c1_19a x1 r13 H Q)
 (f12_c1_19b x1 H Q) :=
  (AtJ_eq Pg Hs 12 [1, 0, 13] Q _ H).trans (by kernel_rfl)
theorem f12_c1_13b_eq (x1 : List AV) (H : Heap) (Q : Post) : f12_c1_13b x1 H Q =
 f12_c1_19b x1 H Q :=
  (AtJ_eq Pg Hs 12 [1, 0, 13] Q _ H).trans (by kernel_rfl)
theorem f12_c1_19a_eq (x1 : List AV) (x21 : AV) (H : Heap) (Q : Post) : f12_c1_19a x1 x21 H Q =
 cndA x21
 (ob (partA false 8 1 x1) fun r14 =>
 ob (binA Pg .eql 3 true r14 (I 0)) fun r15 =>
 f12_c1_24a x1 r15 H Q)
 (f12_c1_24b x1 H Q) :=
  (AtJ_eq Pg Hs 12 [1, 0, 19] Q _ H).trans (by kernel_rfl)
theorem f12_c1_19b_eq (x1 : List AV) (H : Heap) (Q : Post) : f12_c1_19b x1 H Q =
 f12_c1_24b x1 H Q :=
  (AtJ_eq Pg Hs 12 [1, 0, 19] Q _ H).trans (by kernel_rfl)
theorem f12_c1_24a_eq (x1 : List AV) (x26 : AV) (H : Heap) (Q : Post) : f12_c1_24a x1 x26 H Q =
 f12_j4 x26 H Q :=
  (AtJ_eq Pg Hs 12 [1, 0, 24] Q _ H).trans (by kernel_rfl)
theorem f12_c1_24b_eq (x1 : List AV) (H : Heap) (Q : Post) : f12_c1_24b x1 H Q =
 f12_j4 (B false) H Q :=
  (AtJ_eq Pg Hs 12 [1, 0, 24] Q _ H).trans (by kernel_rfl)
theorem f12_j4_eq (x2 : AV) (H : Heap) (Q : Post) : f12_j4 x2 H Q =
 Q x2 H :=
  (AtJ_eq Pg Hs 12 [1, 1] Q _ H).trans (by kernel_rfl)
theorem f12_eq (a0 : AV) (H : Heap) (Q : Post) : E 12 [a0] H Q =
 ob (sizedA 11 a0) fun b1 =>
 ob (partA true 0 11 b1) fun r2 =>
 E 37 [r2] H fun r3 H4 =>
 ob (binA Pg .eql 3 true r3 (I 0)) fun r5 =>
 cndA r5
 (ob (partA true 0 6 b1) fun r6 =>
 E 41 [r6] H4 fun r7 H8 =>
 f12_c1_8a b1 r7 H8 Q)
 (f12_c1_8b b1 H4 Q) :=
  Ev_eq.trans (by kernel_rfl)
/-! ### 13 haruspex/haruspexlaw19.awake -/
def f13_j6 (x0 : AV) (H : Heap) (Q : Post) : Prop := AtJ Pg Hs 13 [1, 1, 1] Q [(0, .val x0)] H
theorem f13_j6_eq (x0 : AV) (H : Heap) (Q : Post) : f13_j6 x0 H Q =
 Q x0 H :=
  (AtJ_eq Pg Hs 13 [1, 1, 1] Q _ H).trans (by kernel_rfl)
theorem f13_eq (_u : Unit := ()) (H : Heap) (Q : Post) : E 13 [] H Q =
 ob (bldA [(0, 1, (I 1)), (1, 1, (S ⟨#[97]⟩)), (2, 1, (S ⟨#[116]⟩))] [(I 0), (S ⟨#[]⟩), (S ⟨#[]⟩), (I 0), (I 0), (AV.sl 0 true .full [])]) fun r1 =>
 ob (bldA [(0, 6, r1)] [(I 0), (S ⟨#[]⟩), (S ⟨#[]⟩), (I 0), (I 0), (AV.sl 0 true .full []), (AV.sl 0 true .full []), (S ⟨#[]⟩), (I 0), (I 0), (AV.sl 0 true .full [])]) fun r2 =>
 E 14 [r2] H fun r3 H4 =>
 ob (extractA r3 0) fun r5 =>
 ob (extractA r3 1) fun r6 =>
 ob (binA Pg .eql 31 true r6 (I 0)) fun r7 =>
 cndA r7
 (ob (binA Pg .eql 9 true r5 (S ⟨#[80, 65, 84, 84, 69, 82, 78, 32, 116, 32, 97]⟩)) fun r8 =>
 f13_j6 r8 H4 Q)
 (f13_j6 (B false) H4 Q) :=
  Ev_eq.trans (by kernel_rfl)
/-! ### 14 haruspex/sase.Print -/
def f14_j34 (x1 : List AV) (x5 : AV) (H : Heap) (Q : Post) : Prop := AtJ Pg Hs 14 [1, 1, 1, 1, 1, 1, 1, 1] Q [(1, .lbox x1), (5, .val x5)] H
def f14_j47 (x1 : List AV) (x5 : AV) (H : Heap) (Q : Post) : Prop := AtJ Pg Hs 14 [1, 1, 1, 1, 1, 1, 1, 1, 1] Q [(1, .lbox x1), (5, .val x5)] H
def f14_j57 (x5 : AV) (H : Heap) (Q : Post) : Prop := AtJ Pg Hs 14 [1, 1, 1, 1, 1, 1, 1, 1, 1, 1, 1] Q [(5, .val x5)] H
theorem f14_j34_eq (x1 : List AV) (x5 : AV) (H : Heap) (Q : Post) : f14_j34 x1 x5 H Q =
 ob (partA false 8 1 x1) fun r34 =>
 ob (binA Pg .eql 3 true r34 (I 1)) fun r35 =>
 cndA r35
 (ob (nilA x5) fun r36 =>
 ob (addPA r36 0) fun r37 =>
 ob (mkSlA 1 [(S ⟨#[32, 77, 79, 68, 69, 32, 78, 69, 65, 82]⟩)]) fun r38 =>
 E 32 [r37, r38] H fun r39 H40 =>
 f14_j47 x1 x5 H40 Q)
 (ob (binA Pg .eql 3 true r34 (I 2)) fun r41 =>
 cndA r41
 (ob (nilA x5) fun r42 =>
 ob (addPA r42 0) fun r43 =>
 ob (mkSlA 1 [(S ⟨#[32, 77, 79, 68, 69, 32, 83, 84, 82, 73, 67, 84]⟩)]) fun r44 =>
 E 32 [r43, r44] H fun r45 H46 =>
 f14_j47 x1 x5 H46 Q)
 (f14_j47 x1 x5 H Q)) :=
  (AtJ_eq Pg Hs 14 [1, 1, 1, 1, 1, 1, 1, 1] Q _ H).trans (by kernel_rfl)
theorem f14_j47_eq (x1 : List AV) (x5 : AV) (H : Heap) (Q : Post) : f14_j47 x1 x5 H Q =
 ob (nilA x5) fun r47 =>
 ob (addPA r47 0) fun r48 =>
 ob (partA false 9 1 x1) fun r49 =>
 E 35 [r48, r49] H fun r50 H51 =>
 ob (partA false 10 1 x1) fun r52 =>
 ob (lenA r52) fun r53 =>
 ob (binA Pg .gtr 3 true r53 (I 0)) fun r54 =>
 cndA r54
 (ob (nilA x5) fun r55 =>
 ob (addPA r55 0) fun r56 =>
 ob (mkSlA 1 [(S ⟨#[32, 82, 69, 84, 85, 82, 78, 32]⟩)]) fun r57 =>
 E 32 [r56, r57] H51 fun r58 H59 =>
 ob (nilA x5) fun r60 =>
 ob (addPA r60 0) fun r61 =>
 ob (partA false 10 1 x1) fun r62 =>
 E 44 [r61, r62] H59 fun r63 H64 =>
 f14_j57 x5 H64 Q)
 (f14_j57 x5 H51 Q) :=
  (AtJ_eq Pg Hs 14 [1, 1, 1, 1, 1, 1, 1, 1, 1] Q _ H).trans (by kernel_rfl)
theorem f14_j57_eq (x5 : AV) (H : Heap) (Q : Post) : f14_j57 x5 H Q =
 ob (nilA x5) fun r65 =>
 ob (addPA r65 0) fun r66 =>
 ob (addPA r66 0) fun r67 =>
 E 36 [r67] H fun r68 H69 =>
 Q (AV.tup [r68, (I 0)]) H69 :=
  (AtJ_eq Pg Hs 14 [1, 1, 1, 1, 1, 1, 1, 1, 1, 1, 1] Q _ H).trans (by kernel_rfl)
theorem f14_eq (a0 : AV) (H : Heap) (Q : Post) : E 14 [a0] H Q =
 ob (sizedA 11 a0) fun b1 =>
 ob (partA true 0 11 b1) fun r2 =>
 E 30 [r2] H fun r3 H4 =>
 ob (binA Pg .neq 31 true r3 (I 0)) fun r5 =>
 cndA r5
 (Q (AV.tup [(S ⟨#[]⟩), r3]) H4)
 (ob (partA true 0 6 b1) fun r6 =>
 E 42 [r6] H4 fun r7 H8 =>
 cndA r7
 (Q (AV.tup [(S ⟨#[]⟩), (I 12)]) H8)
 (ob (bldA [] [(AV.raw (.pointer none)), (AV.sl 0 true .full [])]) fun r9 =>
 ob (sizedA 2 r9) fun b10 =>
 newT H8 68 b10 fun r11 H12 =>
 ob (nilA r11) fun r13 =>
 ob (addPA r13 0) fun r14 =>
 ob (mkSlA 1 [(S ⟨#[80, 65, 84, 84, 69, 82, 78, 32]⟩)]) fun r15 =>
 E 32 [r14, r15] H12 fun r16 H17 =>
 ob (partA true 0 6 b1) fun r18 =>
 E 43 [r11, r18] H17 fun r19 H20 =>
 ob (nilA r11) fun r21 =>
 ob (addPA r21 0) fun r22 =>
 ob (partA false 6 1 b1) fun r23 =>
 E 34 [r22, r23] H20 fun r24 H25 =>
 ob (partA false 7 1 b1) fun r26 =>
 ob (binA Pg .neq 9 true r26 (S ⟨#[]⟩)) fun r27 =>
 cndA r27
 (ob (nilA r11) fun r28 =>
 ob (addPA r28 0) fun r29 =>
 ob (partA false 7 1 b1) fun r30 =>
 ob (mkSlA 1 [(S ⟨#[32, 80, 65, 82, 84, 73, 84, 73, 79, 78, 32, 66, 89, 32]⟩), r30]) fun r31 =>
 E 32 [r29, r31] H25 fun r32 H33 =>
 f14_j34 b1 r11 H33 Q)
 (f14_j34 b1 r11 H25 Q))) :=
  Ev_eq.trans (by kernel_rfl)
/-! ### 15 haruspex/haruspexref19.Print -/
def f15_j28 (x1 : List AV) (x5 : AV) (H : Heap) (Q : Post) : Prop := AtJ Pg Hs 15 [1, 1, 1, 1, 1, 1] Q [(1, .lbox x1), (5, .val x5)] H
def f15_j34 (x1 : List AV) (x5 : AV) (H : Heap) (Q : Post) : Prop := AtJ Pg Hs 15 [1, 1, 1, 1, 1, 1, 1] Q [(1, .lbox x1), (5, .val x5)] H
def f15_j40 (x1 : List AV) (x5 : AV) (H : Heap) (Q : Post) : Prop := AtJ Pg Hs 15 [1, 1, 1, 1, 1, 1, 1, 1] Q [(1, .lbox x1), (5, .val x5)] H
def f15_j48 (x5 : AV) (H : Heap) (Q : Post) : Prop := AtJ Pg Hs 15 [1, 1, 1, 1, 1, 1, 1, 1, 1, 1] Q [(5, .val x5)] H
theorem f15_j28_eq (x1 : List AV) (x5 : AV) (H : Heap) (Q : Post) : f15_j28 x1 x5 H Q =
 ob (partA false 8 1 x1) fun r23 =>
 ob (binA Pg .eql 3 true r23 (I 1)) fun r24 =>
 cndA r24
 (ob (binA Pg .add 9 true x5 (S ⟨#[32, 77, 79, 68, 69, 32, 78, 69, 65, 82]⟩)) fun r25 =>
 f15_j34 x1 r25 H Q)
 (f15_j34 x1 x5 H Q) :=
  (AtJ_eq Pg Hs 15 [1, 1, 1, 1, 1, 1] Q _ H).trans (by kernel_rfl)
theorem f15_j34_eq (x1 : List AV) (x5 : AV) (H : Heap) (Q : Post) : f15_j34 x1 x5 H Q =
 ob (partA false 8 1 x1) fun r26 =>
 ob (binA Pg .eql 3 true r26 (I 2)) fun r27 =>
 cndA r27
 (ob (binA Pg .add 9 true x5 (S ⟨#[32, 77, 79, 68, 69, 32, 83, 84, 82, 73, 67, 84]⟩)) fun r28 =>
 f15_j40 x1 r28 H Q)
 (f15_j40 x1 x5 H Q) :=
  (AtJ_eq Pg Hs 15 [1, 1, 1, 1, 1, 1, 1] Q _ H).trans (by kernel_rfl)
theorem f15_j40_eq (x1 : List AV) (x5 : AV) (H : Heap) (Q : Post) : f15_j40 x1 x5 H Q =
 ob (partA false 9 1 x1) fun r29 =>
 E 40 [r29] H fun r30 H31 =>
 ob (binA Pg .add 9 false x5 r30) fun r32 =>
 ob (partA false 10 1 x1) fun r33 =>
 ob (lenA r33) fun r34 =>
 ob (binA Pg .gtr 3 true r34 (I 0)) fun r35 =>
 cndA r35
 (ob (binA Pg .add 9 true r32 (S ⟨#[32, 82, 69, 84, 85, 82, 78, 32]⟩)) fun r36 =>
 ob (partA false 10 1 x1) fun r37 =>
 E 46 [r37] H31 fun r38 H39 =>
 ob (binA Pg .add 9 false r36 r38) fun r40 =>
 f15_j48 r40 H39 Q)
 (f15_j48 r32 H31 Q) :=
  (AtJ_eq Pg Hs 15 [1, 1, 1, 1, 1, 1, 1, 1] Q _ H).trans (by kernel_rfl)
theorem f15_j48_eq (x5 : AV) (H : Heap) (Q : Post) : f15_j48 x5 H Q =
 Q (AV.tup [x5, (I 0)]) H :=
  (AtJ_eq Pg Hs 15 [1, 1, 1, 1, 1, 1, 1, 1, 1, 1] Q _ H).trans (by kernel_rfl)
theorem f15_eq (a0 : AV) (H : Heap) (Q : Post) : E 15 [a0] H Q =
 ob (sizedA 11 a0) fun b1 =>
 ob (partA true 0 11 b1) fun r2 =>
 E 37 [r2] H fun r3 H4 =>
 ob (binA Pg .neq 3 true r3 (I 0)) fun r5 =>
 cndA r5
 (Q (AV.tup [(S ⟨#[]⟩), r3]) H4)
 (ob (partA true 0 11 b1) fun r6 =>
 E 17 [r6] H4 fun r7 H8 =>
 ob (unA .not r7) fun r9 =>
 cndA r9
 (Q (AV.tup [(S ⟨#[]⟩), (I 12)]) H8)
 (ob (partA true 0 6 b1) fun r10 =>
 ob (partA false 6 1 b1) fun r11 =>
 E 45 [r10] H8 fun r12 H13 =>
 ob (binA Pg .add 9 true (S ⟨#[80, 65, 84, 84, 69, 82, 78, 32]⟩) r12) fun r14 =>
 E 39 [r11] H13 fun r15 H16 =>
 ob (binA Pg .add 9 false r14 r15) fun r17 =>
 ob (partA false 7 1 b1) fun r18 =>
 ob (binA Pg .neq 9 true r18 (S ⟨#[]⟩)) fun r19 =>
 cndA r19
 (ob (binA Pg .add 9 true r17 (S ⟨#[32, 80, 65, 82, 84, 73, 84, 73, 79, 78, 32, 66, 89, 32]⟩)) fun r20 =>
 ob (partA false 7 1 b1) fun r21 =>
 ob (binA Pg .add 9 false r20 r21) fun r22 =>
 f15_j28 b1 r22 H16 Q)
 (f15_j28 b1 r17 H16 Q))) :=
  Ev_eq.trans (by kernel_rfl)
/-! ### 16 haruspex/sase.Says -/
def f16_j4 (x2 : AV) (H : Heap) (Q : Post) : Prop := AtJ Pg Hs 16 [1, 1] Q [(2, .val x2)] H
theorem f16_j4_eq (x2 : AV) (H : Heap) (Q : Post) : f16_j4 x2 H Q =
 Q x2 H :=
  (AtJ_eq Pg Hs 16 [1, 1] Q _ H).trans (by kernel_rfl)
theorem f16_eq (a0 : AV) (H : Heap) (Q : Post) : E 16 [a0] H Q =
 ob (sizedA 11 a0) fun b1 =>
 ob (partA true 0 11 b1) fun r2 =>
 E 30 [r2] H fun r3 H4 =>
 ob (binA Pg .eql 31 true r3 (I 0)) fun r5 =>
 cndA r5
 (ob (partA true 0 6 b1) fun r6 =>
 E 42 [r6] H4 fun r7 H8 =>
 ob (unA .not r7) fun r9 =>
 f16_j4 r9 H8 Q)
 (f16_j4 (B false) H4 Q) :=
  Ev_eq.trans (by kernel_rfl)
/-! ### 17 haruspex/haruspexref19.Says -/
def f17_j4 (x2 : AV) (H : Heap) (Q : Post) : Prop := AtJ Pg Hs 17 [1, 1] Q [(2, .val x2)] H
theorem f17_j4_eq (x2 : AV) (H : Heap) (Q : Post) : f17_j4 x2 H Q =
 Q x2 H :=
  (AtJ_eq Pg Hs 17 [1, 1] Q _ H).trans (by kernel_rfl)
theorem f17_eq (a0 : AV) (H : Heap) (Q : Post) : E 17 [a0] H Q =
 ob (sizedA 11 a0) fun b1 =>
 ob (partA true 0 11 b1) fun r2 =>
 E 37 [r2] H fun r3 H4 =>
 ob (binA Pg .eql 3 true r3 (I 0)) fun r5 =>
 cndA r5
 (ob (partA true 0 6 b1) fun r6 =>
 E 47 [r6, (I 3)] H4 fun r7 H8 =>
 ob (unA .not r7) fun r9 =>
 f17_j4 r9 H8 Q)
 (f17_j4 (B false) H4 Q) :=
  Ev_eq.trans (by kernel_rfl)
/-! ### 18 haruspex/haruspexlaw21.awake -/
def f18_j6 (x0 : AV) (H : Heap) (Q : Post) : Prop := AtJ Pg Hs 18 [1, 1, 1] Q [(0, .val x0)] H
theorem f18_j6_eq (x0 : AV) (H : Heap) (Q : Post) : f18_j6 x0 H Q =
 Q x0 H :=
  (AtJ_eq Pg Hs 18 [1, 1, 1] Q _ H).trans (by kernel_rfl)
theorem f18_eq (_u : Unit := ()) (H : Heap) (Q : Post) : E 18 [] H Q =
 ob (bldA [(0, 1, (I 1)), (1, 1, (S ⟨#[97]⟩)), (2, 1, (S ⟨#[116]⟩))] [(I 0), (S ⟨#[]⟩), (S ⟨#[]⟩), (I 0), (I 0), (AV.sl 0 true .full [])]) fun r1 =>
 ob (bldA [(0, 6, r1), (8, 1, (I 1))] [(I 0), (S ⟨#[]⟩), (S ⟨#[]⟩), (I 0), (I 0), (AV.sl 0 true .full []), (AV.sl 0 true .full []), (S ⟨#[]⟩), (I 0), (I 0), (AV.sl 0 true .full [])]) fun r2 =>
 E 19 [r2] H fun r3 H4 =>
 ob (extractA r3 0) fun r5 =>
 ob (extractA r3 1) fun r6 =>
 ob (binA Pg .eql 31 true r6 (I 0)) fun r7 =>
 cndA r7
 (ob (binA Pg .eql 9 true r5 (S ⟨#[77, 65, 84, 67, 72, 32, 40, 82, 79, 87, 83, 32, 78, 69, 65, 82, 32, 80, 65, 84, 84, 69, 82, 78, 32, 40, 97, 41, 32, 68, 69, 70, 73, 78, 69, 32, 97, 32, 65, 83, 32, 116, 41]⟩)) fun r8 =>
 f18_j6 r8 H4 Q)
 (f18_j6 (B false) H4 Q) :=
  Ev_eq.trans (by kernel_rfl)
/-! ### 19 haruspex/mr.Print -/
def f19_j30 (x1 : List AV) (x5 : AV) (H : Heap) (Q : Post) : Prop := AtJ Pg Hs 19 [1, 1, 1, 1, 1, 1] Q [(1, .lbox x1), (5, .val x5)] H
def f19_j40 (x1 : List AV) (x5 : AV) (H : Heap) (Q : Post) : Prop := AtJ Pg Hs 19 [1, 1, 1, 1, 1, 1, 1] Q [(1, .lbox x1), (5, .val x5)] H
def f19_j48 (x1 : List AV) (x5 : AV) (x6 : AV) (H : Heap) (Q : Post) : Prop := AtJ Pg Hs 19 [1, 1, 1, 1, 1, 1, 1, 1, 1] Q [(1, .lbox x1), (5, .val x5), (6, .val x6)] H
theorem f19_j30_eq (x1 : List AV) (x5 : AV) (H : Heap) (Q : Post) : f19_j30 x1 x5 H Q =
 ob (partA false 10 1 x1) fun r27 =>
 ob (lenA r27) fun r28 =>
 ob (binA Pg .gtr 3 true r28 (I 0)) fun r29 =>
 cndA r29
 (ob (nilA x5) fun r30 =>
 ob (addPA r30 0) fun r31 =>
 ob (mkSlA 1 [(S ⟨#[77, 69, 65, 83, 85, 82, 69, 83, 32]⟩)]) fun r32 =>
 E 32 [r31, r32] H fun r33 H34 =>
 ob (nilA x5) fun r35 =>
 ob (addPA r35 0) fun r36 =>
 ob (partA false 10 1 x1) fun r37 =>
 E 44 [r36, r37] H34 fun r38 H39 =>
 ob (nilA x5) fun r40 =>
 ob (addPA r40 0) fun r41 =>
 ob (mkSlA 1 [(S ⟨#[32]⟩)]) fun r42 =>
 E 32 [r41, r42] H39 fun r43 H44 =>
 f19_j40 x1 x5 H44 Q)
 (f19_j40 x1 x5 H Q) :=
  (AtJ_eq Pg Hs 19 [1, 1, 1, 1, 1, 1] Q _ H).trans (by kernel_rfl)
theorem f19_j40_eq (x1 : List AV) (x5 : AV) (H : Heap) (Q : Post) : f19_j40 x1 x5 H Q =
 ob (partA false 8 1 x1) fun r45 =>
 ob (binA Pg .eql 3 true r45 (I 1)) fun r46 =>
 cndA r46
 (f19_j48 x1 x5 (S ⟨#[82, 79, 87, 83, 32, 78, 69, 65, 82]⟩) H Q)
 (f19_j48 x1 x5 (S ⟨#[82, 79, 87, 83, 32, 83, 84, 82, 73, 67, 84]⟩) H Q) :=
  (AtJ_eq Pg Hs 19 [1, 1, 1, 1, 1, 1, 1] Q _ H).trans (by kernel_rfl)
theorem f19_j48_eq (x1 : List AV) (x5 : AV) (x6 : AV) (H : Heap) (Q : Post) : f19_j48 x1 x5 x6 H Q =
 ob (nilA x5) fun r47 =>
 ob (addPA r47 0) fun r48 =>
 ob (mkSlA 1 [x6, (S ⟨#[32, 80, 65, 84, 84, 69, 82, 78, 32, 40]⟩)]) fun r49 =>
 E 32 [r48, r49] H fun r50 H51 =>
 ob (partA true 0 6 x1) fun r52 =>
 E 49 [x5, r52, (B false)] H51 fun r53 H54 =>
 ob (nilA x5) fun r55 =>
 ob (addPA r55 0) fun r56 =>
 ob (mkSlA 1 [(S ⟨#[41]⟩)]) fun r57 =>
 E 32 [r56, r57] H54 fun r58 H59 =>
 ob (nilA x5) fun r60 =>
 ob (addPA r60 0) fun r61 =>
 ob (partA false 9 1 x1) fun r62 =>
 E 35 [r61, r62] H59 fun r63 H64 =>
 ob (nilA x5) fun r65 =>
 ob (addPA r65 0) fun r66 =>
 ob (mkSlA 1 [(S ⟨#[32, 68, 69, 70, 73, 78, 69, 32]⟩)]) fun r67 =>
 E 32 [r66, r67] H64 fun r68 H69 =>
 ob (partA true 0 6 x1) fun r70 =>
 E 50 [x5, r70] H69 fun r71 H72 =>
 ob (nilA x5) fun r73 =>
 ob (addPA r73 0) fun r74 =>
 ob (partA false 6 1 x1) fun r75 =>
 E 34 [r74, r75] H72 fun r76 H77 =>
 ob (nilA x5) fun r78 =>
 ob (addPA r78 0) fun r79 =>
 ob (mkSlA 1 [(S ⟨#[41]⟩)]) fun r80 =>
 E 32 [r79, r80] H77 fun r81 H82 =>
 ob (nilA x5) fun r83 =>
 ob (addPA r83 0) fun r84 =>
 ob (addPA r84 0) fun r85 =>
 E 36 [r85] H82 fun r86 H87 =>
 Q (AV.tup [r86, (I 0)]) H87 :=
  (AtJ_eq Pg Hs 19 [1, 1, 1, 1, 1, 1, 1, 1, 1] Q _ H).trans (by kernel_rfl)
theorem f19_eq (a0 : AV) (H : Heap) (Q : Post) : E 19 [a0] H Q =
 ob (sizedA 11 a0) fun b1 =>
 ob (partA true 0 11 b1) fun r2 =>
 E 30 [r2] H fun r3 H4 =>
 ob (binA Pg .neq 31 true r3 (I 0)) fun r5 =>
 cndA r5
 (Q (AV.tup [(S ⟨#[]⟩), r3]) H4)
 (ob (partA true 0 11 b1) fun r6 =>
 E 48 [r6] H4 fun r7 H8 =>
 ob (unA .not r7) fun r9 =>
 cndA r9
 (Q (AV.tup [(S ⟨#[]⟩), (I 12)]) H8)
 (ob (bldA [] [(AV.raw (.pointer none)), (AV.sl 0 true .full [])]) fun r10 =>
 ob (sizedA 2 r10) fun b11 =>
 newT H8 75 b11 fun r12 H13 =>
 ob (nilA r12) fun r14 =>
 ob (addPA r14 0) fun r15 =>
 ob (mkSlA 1 [(S ⟨#[77, 65, 84, 67, 72, 32, 40]⟩)]) fun r16 =>
 E 32 [r15, r16] H13 fun r17 H18 =>
 ob (partA false 7 1 b1) fun r19 =>
 ob (binA Pg .neq 9 true r19 (S ⟨#[]⟩)) fun r20 =>
 cndA r20
 (ob (nilA r12) fun r21 =>
 ob (addPA r21 0) fun r22 =>
 ob (partA false 7 1 b1) fun r23 =>
 ob (mkSlA 1 [(S ⟨#[80, 65, 82, 84, 73, 84, 73, 79, 78, 32, 66, 89, 32]⟩), r23, (S ⟨#[32]⟩)]) fun r24 =>
 E 32 [r22, r24] H18 fun r25 H26 =>
 f19_j30 b1 r12 H26 Q)
 (f19_j30 b1 r12 H18 Q))) :=
  Ev_eq.trans (by kernel_rfl)
/-! ### 20 haruspex/haruspexref21.Print -/
def f20_j28 (x1 : List AV) (x5 : AV) (H : Heap) (Q : Post) : Prop := AtJ Pg Hs 20 [1, 1, 1, 1, 1, 1] Q [(1, .lbox x1), (5, .val x5)] H
def f20_j34 (x1 : List AV) (x5 : AV) (H : Heap) (Q : Post) : Prop := AtJ Pg Hs 20 [1, 1, 1, 1, 1, 1, 1] Q [(1, .lbox x1), (5, .val x5)] H
def f20_j40 (x1 : List AV) (x5 : AV) (H : Heap) (Q : Post) : Prop := AtJ Pg Hs 20 [1, 1, 1, 1, 1, 1, 1, 1] Q [(1, .lbox x1), (5, .val x5)] H
def f20_l48 (x1 : List AV) (x5 : AV) (x6 : AV) (x7 : AV) (x9 : AV) (H : Heap) (Q : Post) : Prop := AtF Pg Hs 20 [1, 1, 1, 1, 1, 1, 1, 1, 1, 1, 0, 1, 0] Q [(1, .lbox x1), (5, .val x5), (6, .val x6), (7, .val x7), (9, .val x9)] H
def f20_j52 (x1 : List AV) (x5 : AV) (x6 : AV) (x7 : AV) (x9 : AV) (x73 : AV) (H : Heap) (Q : Post) : Prop := AtJ Pg Hs 20 [1, 1, 1, 1, 1, 1, 1, 1, 1, 1, 0, 1, 0, 0, 0, 1] Q [(1, .lbox x1), (5, .val x5), (6, .val x6), (7, .val x7), (9, .val x9), (73, .val x73)] H
def f20_j63 (x1 : List AV) (x5 : AV) (x6 : AV) (x7 : AV) (x9 : AV) (H : Heap) (Q : Post) : Prop := AtJ Pg Hs 20 [1, 1, 1, 1, 1, 1, 1, 1, 1, 1, 0, 1, 0, 0, 1, 0, 0, 1] Q [(1, .lbox x1), (5, .val x5), (6, .val x6), (7, .val x7), (9, .val x9)] H
theorem f20_j28_eq (x1 : List AV) (x5 : AV) (H : Heap) (Q : Post) : f20_j28 x1 x5 H Q =
 ob (partA false 10 1 x1) fun r16 =>
 ob (lenA r16) fun r17 =>
 ob (binA Pg .gtr 3 true r17 (I 0)) fun r18 =>
 cndA r18
 (ob (binA Pg .add 9 true x5 (S ⟨#[77, 69, 65, 83, 85, 82, 69, 83, 32]⟩)) fun r19 =>
 ob (partA false 10 1 x1) fun r20 =>
 E 46 [r20] H fun r21 H22 =>
 ob (binA Pg .add 9 false r19 r21) fun r23 =>
 ob (binA Pg .add 9 true r23 (S ⟨#[32]⟩)) fun r24 =>
 f20_j34 x1 r24 H22 Q)
 (f20_j34 x1 x5 H Q) :=
  (AtJ_eq Pg Hs 20 [1, 1, 1, 1, 1, 1] Q _ H).trans (by kernel_rfl)
theorem f20_j34_eq (x1 : List AV) (x5 : AV) (H : Heap) (Q : Post) : f20_j34 x1 x5 H Q =
 ob (partA false 8 1 x1) fun r25 =>
 ob (binA Pg .eql 3 true r25 (I 1)) fun r26 =>
 cndA r26
 (ob (binA Pg .add 9 true x5 (S ⟨#[82, 79, 87, 83, 32, 78, 69, 65, 82]⟩)) fun r27 =>
 f20_j40 x1 r27 H Q)
 (ob (binA Pg .add 9 true x5 (S ⟨#[82, 79, 87, 83, 32, 83, 84, 82, 73, 67, 84]⟩)) fun r28 =>
 f20_j40 x1 r28 H Q) :=
  (AtJ_eq Pg Hs 20 [1, 1, 1, 1, 1, 1, 1] Q _ H).trans (by kernel_rfl)
theorem f20_j40_eq (x1 : List AV) (x5 : AV) (H : Heap) (Q : Post) : f20_j40 x1 x5 H Q =
 ob (binA Pg .add 9 true x5 (S ⟨#[32, 80, 65, 84, 84, 69, 82, 78, 32, 40]⟩)) fun r29 =>
 ob (partA true 0 6 x1) fun r30 =>
 ob (partA false 9 1 x1) fun r31 =>
 E 51 [r30, (B false)] H fun r32 H33 =>
 ob (binA Pg .add 9 false r29 r32) fun r34 =>
 ob (binA Pg .add 9 true r34 (S ⟨#[41]⟩)) fun r35 =>
 E 40 [r31] H33 fun r36 H37 =>
 ob (binA Pg .add 9 false r35 r36) fun r38 =>
 ob (binA Pg .add 9 true r38 (S ⟨#[32, 68, 69, 70, 73, 78, 69, 32]⟩)) fun r39 =>
 ob (partA true 0 6 x1) fun r40 =>
 E 52 [r40] H37 fun r41 H42 =>
 ob (extractA r41 0) fun r43 =>
 ob (extractA r41 1) fun r44 =>
 ob (extractA r41 2) fun r45 =>
 f20_l48 x1 r39 r43 r44 (I 0) H42 Q :=
  (AtJ_eq Pg Hs 20 [1, 1, 1, 1, 1, 1, 1, 1] Q _ H).trans (by kernel_rfl)
theorem f20_l48_eq (x1 : List AV) (x5 : AV) (x6 : AV) (x7 : AV) (x9 : AV) (H : Heap) (Q : Post) : f20_l48 x1 x5 x6 x7 x9 H Q =
 ob (lenA x6) fun r46 =>
 ob (binA Pg .lss 3 false x9 r46) fun r47 =>
 cndA r47
 (ob (lenA x7) fun r48 =>
 ob (binA Pg .lss 3 false x9 r48) fun r49 =>
 f20_j52 x1 x5 x6 x7 x9 r49 H Q)
 (f20_j52 x1 x5 x6 x7 x9 (B false) H Q) :=
  (AtF_eq Pg Hs 20 [1, 1, 1, 1, 1, 1, 1, 1, 1, 1, 0, 1, 0] Q _ H).trans (by kernel_rfl)
theorem f20_j52_eq (x1 : List AV) (x5 : AV) (x6 : AV) (x7 : AV) (x9 : AV) (x73 : AV) (H : Heap) (Q : Post) : f20_j52 x1 x5 x6 x7 x9 x73 H Q =
 cndA x73
 (ob (binA Pg .gtr 3 true x9 (I 0)) fun r50 =>
 cndA r50
 (ob (binA Pg .add 9 true x5 (S ⟨#[44, 32]⟩)) fun r51 =>
 f20_j63 x1 r51 x6 x7 x9 H Q)
 (f20_j63 x1 x5 x6 x7 x9 H Q))
 (ob (partA false 6 1 x1) fun r52 =>
 E 39 [r52] H fun r53 H54 =>
 ob (binA Pg .add 9 false x5 r53) fun r55 =>
 ob (binA Pg .add 9 true r55 (S ⟨#[41]⟩)) fun r56 =>
 Q (AV.tup [r56, (I 0)]) H54) :=
  (AtJ_eq Pg Hs 20 [1, 1, 1, 1, 1, 1, 1, 1, 1, 1, 0, 1, 0, 0, 0, 1] Q _ H).trans (by kernel_rfl)
theorem f20_j63_eq (x1 : List AV) (x5 : AV) (x6 : AV) (x7 : AV) (x9 : AV) (H : Heap) (Q : Post) : f20_j63 x1 x5 x6 x7 x9 H Q =
 ob (ixaA 1 x6 x9) fun c57 =>
 ob (partA false 0 1 c57) fun r58 =>
 ob (binA Pg .add 9 false x5 r58) fun r59 =>
 ob (binA Pg .add 9 true r59 (S ⟨#[32, 65, 83, 32]⟩)) fun r60 =>
 ob (ixaA 1 x7 x9) fun c61 =>
 ob (partA false 0 1 c61) fun r62 =>
 ob (binA Pg .add 9 false r60 r62) fun r63 =>
 ob (binA Pg .add 3 true x9 (I 1)) fun r64 =>
 f20_l48 x1 r63 x6 x7 r64 H Q :=
  (AtJ_eq Pg Hs 20 [1, 1, 1, 1, 1, 1, 1, 1, 1, 1, 0, 1, 0, 0, 1, 0, 0, 1] Q _ H).trans (by kernel_rfl)
theorem f20_eq (a0 : AV) (H : Heap) (Q : Post) : E 20 [a0] H Q =
 ob (sizedA 11 a0) fun b1 =>
 ob (partA true 0 11 b1) fun r2 =>
 E 37 [r2] H fun r3 H4 =>
 ob (binA Pg .neq 3 true r3 (I 0)) fun r5 =>
 cndA r5
 (Q (AV.tup [(S ⟨#[]⟩), r3]) H4)
 (ob (partA true 0 11 b1) fun r6 =>
 E 22 [r6] H4 fun r7 H8 =>
 ob (unA .not r7) fun r9 =>
 cndA r9
 (Q (AV.tup [(S ⟨#[]⟩), (I 12)]) H8)
 (ob (partA false 7 1 b1) fun r10 =>
 ob (binA Pg .neq 9 true r10 (S ⟨#[]⟩)) fun r11 =>
 cndA r11
 (ob (binA Pg .add 9 true (S ⟨#[77, 65, 84, 67, 72, 32, 40]⟩) (S ⟨#[80, 65, 82, 84, 73, 84, 73, 79, 78, 32, 66, 89, 32]⟩)) fun r12 =>
 ob (partA false 7 1 b1) fun r13 =>
 ob (binA Pg .add 9 false r12 r13) fun r14 =>
 ob (binA Pg .add 9 true r14 (S ⟨#[32]⟩)) fun r15 =>
 f20_j28 b1 r15 H8 Q)
 (f20_j28 b1 (S ⟨#[77, 65, 84, 67, 72, 32, 40]⟩) H8 Q))) :=
  Ev_eq.trans (by kernel_rfl)
/-! ### 21 haruspex/mr.Says -/
def f21_j4 (x2 : AV) (H : Heap) (Q : Post) : Prop := AtJ Pg Hs 21 [1, 1] Q [(2, .val x2)] H
theorem f21_j4_eq (x2 : AV) (H : Heap) (Q : Post) : f21_j4 x2 H Q =
 Q x2 H :=
  (AtJ_eq Pg Hs 21 [1, 1] Q _ H).trans (by kernel_rfl)
theorem f21_eq (a0 : AV) (H : Heap) (Q : Post) : E 21 [a0] H Q =
 ob (sizedA 11 a0) fun b1 =>
 ob (partA true 0 11 b1) fun r2 =>
 E 30 [r2] H fun r3 H4 =>
 ob (binA Pg .eql 31 true r3 (I 0)) fun r5 =>
 cndA r5
 (ob (partA true 0 11 b1) fun r6 =>
 E 48 [r6] H4 fun r7 H8 =>
 f21_j4 r7 H8 Q)
 (f21_j4 (B false) H4 Q) :=
  Ev_eq.trans (by kernel_rfl)
/-! ### 22 haruspex/haruspexref21.Says -/
def f22_c1_9a (x1 : List AV) (x11 : AV) (H : Heap) (Q : Post) : Prop := AtJ Pg Hs 22 [1, 0, 9] Q [(1, .lbox x1), (11, .val x11)] H
def f22_c1_9b (x1 : List AV) (H : Heap) (Q : Post) : Prop := AtJ Pg Hs 22 [1, 0, 9] Q [(1, .lbox x1), (11, .val (B false))] H
def f22_c1_14a (x1 : List AV) (x16 : AV) (H : Heap) (Q : Post) : Prop := AtJ Pg Hs 22 [1, 0, 14] Q [(1, .lbox x1), (16, .val x16)] H
def f22_c1_14b (x1 : List AV) (H : Heap) (Q : Post) : Prop := AtJ Pg Hs 22 [1, 0, 14] Q [(1, .lbox x1), (16, .val (B false))] H
def f22_c1_19a (x1 : List AV) (x21 : AV) (H : Heap) (Q : Post) : Prop := AtJ Pg Hs 22 [1, 0, 19] Q [(1, .lbox x1), (21, .val x21)] H
def f22_c1_19b (x1 : List AV) (H : Heap) (Q : Post) : Prop := AtJ Pg Hs 22 [1, 0, 19] Q [(1, .lbox x1), (21, .val (B false))] H
def f22_j4 (x2 : AV) (H : Heap) (Q : Post) : Prop := AtJ Pg Hs 22 [1, 1] Q [(2, .val x2)] H
theorem f22_c1_9a_eq (x1 : List AV) (x11 : AV) (H : Heap) (Q : Post) : f22_c1_9a x1 x11 H Q =
 cndA x11
 (ob (partA true 0 6 x1) fun r10 =>
 E 53 [r10] H fun r11 H12 =>
 f22_c1_14a x1 r11 H12 Q)
 (f22_c1_14b x1 H Q) :=
  (AtJ_eq Pg Hs 22 [1, 0, 9] Q _ H).trans (by kernel_rfl)
theorem f22_c1_9b_eq (x1 : List AV) (H : Heap) (Q : Post) : f22_c1_9b x1 H Q =
 f22_c1_14b x1 H Q :=
  (AtJ_eq Pg Hs 22 [1, 0, 9] Q _ H).trans (by kernel_rfl)
theorem f22_c1_14a_eq (x1 : List AV) (x16 : AV) (H : Heap) (Q : Post) : f22_c1_14a x1 x16 H Q =
 cndA x16
 (ob (partA false 8 1 x1) fun r13 =>
 ob (binA Pg .neq 3 true r13 (I 0)) fun r14 =>
 f22_c1_19a x1 r14 H Q)
 (f22_c1_19b x1 H Q) :=
  (AtJ_eq Pg Hs 22 [1, 0, 14] Q _ H).trans (by kernel_rfl)
theorem f22_c1_14b_eq (x1 : List AV) (H : Heap) (Q : Post) : f22_c1_14b x1 H Q =
 f22_c1_19b x1 H Q :=
  (AtJ_eq Pg Hs 22 [1, 0, 14] Q _ H).trans (by kernel_rfl)
theorem f22_c1_19a_eq (x1 : List AV) (x21 : AV) (H : Heap) (Q : Post) : f22_c1_19a x1 x21 H Q =
 f22_j4 x21 H Q :=
  (AtJ_eq Pg Hs 22 [1, 0, 19] Q _ H).trans (by kernel_rfl)
theorem f22_c1_19b_eq (x1 : List AV) (H : Heap) (Q : Post) : f22_c1_19b x1 H Q =
 f22_j4 (B false) H Q :=
  (AtJ_eq Pg Hs 22 [1, 0, 19] Q _ H).trans (by kernel_rfl)
theorem f22_j4_eq (x2 : AV) (H : Heap) (Q : Post) : f22_j4 x2 H Q =
 Q x2 H :=
  (AtJ_eq Pg Hs 22 [1, 1] Q _ H).trans (by kernel_rfl)
theorem f22_eq (a0 : AV) (H : Heap) (Q : Post) : E 22 [a0] H Q =
 ob (sizedA 11 a0) fun b1 =>
 ob (partA true 0 11 b1) fun r2 =>
 E 37 [r2] H fun r3 H4 =>
 ob (binA Pg .eql 3 true r3 (I 0)) fun r5 =>
 cndA r5
 (ob (partA true 0 6 b1) fun r6 =>
 E 47 [r6, (I 6)] H4 fun r7 H8 =>
 ob (unA .not r7) fun r9 =>
 f22_c1_9a b1 r9 H8 Q)
 (f22_c1_9b b1 H4 Q) :=
  Ev_eq.trans (by kernel_rfl)
/-! ### 23 haruspex/haruspexref09.Size -/
def f23_l8 (x1 : List AV) (x3 : AV) (x4 : AV) (H : Heap) (Q : Post) : Prop := AtF Pg Hs 23 [1, 1, 0, 1, 0] Q [(1, .lbox x1), (3, .val x3), (4, .val x4)] H
theorem f23_l8_eq (x1 : List AV) (x3 : AV) (x4 : AV) (H : Heap) (Q : Post) : f23_l8 x1 x3 x4 H Q =
 ob (partA false 6 1 x1) fun r2 =>
 ob (lenA r2) fun r3 =>
 ob (binA Pg .lss 3 false x4 r3) fun r4 =>
 cndA r4
 (ob (partA false 6 1 x1) fun r5 =>
 ob (ixaA 7 r5 x4) fun c6 =>
 ob (partA true 0 7 c6) fun r7 =>
 E 23 [r7] H fun r8 H9 =>
 ob (binA Pg .add 3 false x3 r8) fun r10 =>
 ob (binA Pg .add 3 true x4 (I 1)) fun r11 =>
 f23_l8 x1 r10 r11 H9 Q)
 (Q x3 H) :=
  (AtF_eq Pg Hs 23 [1, 1, 0, 1, 0] Q _ H).trans (by kernel_rfl)
theorem f23_eq (a0 : AV) (H : Heap) (Q : Post) : E 23 [a0] H Q =
 ob (sizedA 7 a0) fun b1 =>
 f23_l8 b1 (I 1) (I 0) H Q :=
  Ev_eq.trans (by kernel_rfl)
/-! ### 24 haruspex/haruspexlaw18.awake -/
def f24_j6 (x0 : AV) (H : Heap) (Q : Post) : Prop := AtJ Pg Hs 24 [1, 1, 1] Q [(0, .val x0)] H
theorem f24_j6_eq (x0 : AV) (H : Heap) (Q : Post) : f24_j6 x0 H Q =
 Q x0 H :=
  (AtJ_eq Pg Hs 24 [1, 1, 1] Q _ H).trans (by kernel_rfl)
theorem f24_eq (_u : Unit := ()) (H : Heap) (Q : Post) : E 24 [] H Q =
 E 54 [(S ⟨#[97, 46, 120, 32, 60, 32, 49]⟩)] H fun r1 H2 =>
 ob (extractA r1 0) fun r3 =>
 ob (extractA r1 1) fun r4 =>
 ob (extractA r1 2) fun r5 =>
 ob (sizedA 7 r3) fun b6 =>
 ob (spliceA 0 b6 [(I 0), (I 0), (I 0), (S ⟨#[]⟩), (S ⟨#[]⟩), (S ⟨#[]⟩), (AV.sl 0 true .full [])]) fun b7 =>
 ob (binA Pg .eql 31 true r5 (I 0)) fun r8 =>
 cndA r8
 (ob (binA Pg .eql 3 true r4 (I 7)) fun r9 =>
 cndA r9
 (ob (partA false 0 1 b7) fun r10 =>
 ob (binA Pg .eql 3 true r10 (I 11)) fun r11 =>
 f24_j6 r11 H2 Q)
 (f24_j6 (B false) H2 Q))
 (f24_j6 (B false) H2 Q) :=
  Ev_eq.trans (by kernel_rfl)
/-! ### 25 haruspex/cond.Print -/
theorem f25_eq (a0 : AV) (H : Heap) (Q : Post) : E 25 [a0] H Q =
 ob (sizedA 7 a0) fun b1 =>
 ob (partA true 0 7 b1) fun r2 =>
 E 55 [r2] H fun r3 H4 =>
 ob (binA Pg .neq 31 true r3 (I 0)) fun r5 =>
 cndA r5
 (Q (AV.tup [(S ⟨#[]⟩), r3]) H4)
 (ob (bldA [] [(AV.raw (.pointer none)), (AV.sl 0 true .full [])]) fun r6 =>
 ob (sizedA 2 r6) fun b7 =>
 newT H4 86 b7 fun r8 H9 =>
 ob (partA true 0 7 b1) fun r10 =>
 E 56 [r8, r10, (I 0)] H9 fun r11 H12 =>
 ob (nilA r8) fun r13 =>
 ob (addPA r13 0) fun r14 =>
 E 36 [r14] H12 fun r15 H16 =>
 Q (AV.tup [r15, (I 0)]) H16) :=
  Ev_eq.trans (by kernel_rfl)
/-! ### 26 haruspex/haruspexref18.Print -/
theorem f26_eq (a0 : AV) (H : Heap) (Q : Post) : E 26 [a0] H Q =
 ob (sizedA 7 a0) fun b1 =>
 ob (partA true 0 7 b1) fun r2 =>
 E 57 [r2] H fun r3 H4 =>
 ob (binA Pg .neq 3 true r3 (I 0)) fun r5 =>
 cndA r5
 (Q (AV.tup [(S ⟨#[]⟩), r3]) H4)
 (ob (partA true 0 7 b1) fun r6 =>
 E 58 [r6, (I 1)] H4 fun r7 H8 =>
 Q (AV.tup [r7, (I 0)]) H8) :=
  Ev_eq.trans (by kernel_rfl)
/-! ### 27 haruspex/cond.Row -/
def f27_l14 (x0 : AV) (x11 : AV) (x12 : AV) (x13 : AV) (H : Heap) (Q : Post) : Prop := AtF Pg Hs 27 [1, 1, 0, 1, 0] Q [(0, .val x0), (11, .val x11), (12, .val x12), (13, .val x13)] H
theorem f27_l14_eq (x0 : AV) (x11 : AV) (x12 : AV) (x13 : AV) (H : Heap) (Q : Post) : f27_l14 x0 x11 x12 x13 H Q =
 ob (binA Pg .lss 3 false x13 x12) fun r4 =>
 cndA r4
 (ob (ixaA 7 x11 x13) fun c5 =>
 ob (partA true 0 7 c5) fun r6 =>
 ob (sizedA 7 r6) fun b7 =>
 ob (spliceA 0 b7 [(I 0), (I 0), (I 0), (S ⟨#[]⟩), (S ⟨#[]⟩), (S ⟨#[]⟩), (AV.sl 0 true .full [])]) fun b8 =>
 ob (partA true 0 7 b8) fun r9 =>
 E 55 [r9] H fun r10 H11 =>
 ob (binA Pg .neq 31 true r10 (I 0)) fun r12 =>
 cndA r12
 (Q (AV.tup [(S ⟨#[]⟩), r10]) H11)
 (ob (binA Pg .add 3 true x13 (I 1)) fun r13 =>
 f27_l14 x0 x11 x12 r13 H11 Q))
 (ob (bldA [] [(AV.raw (.pointer none)), (AV.sl 0 true .full [])]) fun r14 =>
 ob (sizedA 2 r14) fun b15 =>
 newT H 86 b15 fun r16 H17 =>
 E 59 [r16, x0, (S ⟨#[32, 65, 78, 68, 32]⟩), (I 3)] H17 fun r18 H19 =>
 ob (nilA r16) fun r20 =>
 ob (addPA r20 0) fun r21 =>
 E 36 [r21] H19 fun r22 H23 =>
 Q (AV.tup [r22, (I 0)]) H23) :=
  (AtF_eq Pg Hs 27 [1, 1, 0, 1, 0] Q _ H).trans (by kernel_rfl)
theorem f27_eq (a0 : AV) (H : Heap) (Q : Post) : E 27 [a0] H Q =
 ob (lenA a0) fun r1 =>
 ob (binA Pg .eql 3 true r1 (I 0)) fun r2 =>
 cndA r2
 (Q (AV.tup [(S ⟨#[]⟩), (I 1)]) H)
 (ob (lenA a0) fun r3 =>
 f27_l14 a0 a0 r3 (I 0) H Q) :=
  Ev_eq.trans (by kernel_rfl)
/-! ### 28 haruspex/haruspexref18.Row -/
def f28_l14 (x0 : AV) (x4 : AV) (H : Heap) (Q : Post) : Prop := AtF Pg Hs 28 [1, 1, 0, 1, 0] Q [(0, .val x0), (4, .val x4)] H
theorem f28_l14_eq (x0 : AV) (x4 : AV) (H : Heap) (Q : Post) : f28_l14 x0 x4 H Q =
 ob (lenA x0) fun r3 =>
 ob (binA Pg .lss 3 false x4 r3) fun r4 =>
 cndA r4
 (ob (ixaA 7 x0 x4) fun c5 =>
 ob (partA true 0 7 c5) fun r6 =>
 E 57 [r6] H fun r7 H8 =>
 ob (binA Pg .neq 3 true r7 (I 0)) fun r9 =>
 cndA r9
 (Q (AV.tup [(S ⟨#[]⟩), r7]) H8)
 (ob (binA Pg .add 3 true x4 (I 1)) fun r10 =>
 f28_l14 x0 r10 H8 Q))
 (E 60 [x0, (S ⟨#[65, 78, 68]⟩), (I 3)] H fun r11 H12 =>
 Q (AV.tup [r11, (I 0)]) H12) :=
  (AtF_eq Pg Hs 28 [1, 1, 0, 1, 0] Q _ H).trans (by kernel_rfl)
theorem f28_eq (a0 : AV) (H : Heap) (Q : Post) : E 28 [a0] H Q =
 ob (lenA a0) fun r1 =>
 ob (binA Pg .eql 3 true r1 (I 0)) fun r2 =>
 cndA r2
 (Q (AV.tup [(S ⟨#[]⟩), (I 1)]) H)
 (f28_l14 a0 (I 0) H Q) :=
  Ev_eq.trans (by kernel_rfl)
/-! ### 29 haruspex/haruspexref12.Size -/
def f29_l8 (x1 : List AV) (x3 : AV) (x4 : AV) (H : Heap) (Q : Post) : Prop := AtF Pg Hs 29 [1, 1, 0, 1, 0] Q [(1, .lbox x1), (3, .val x3), (4, .val x4)] H
theorem f29_l8_eq (x1 : List AV) (x3 : AV) (x4 : AV) (H : Heap) (Q : Post) : f29_l8 x1 x3 x4 H Q =
 ob (partA false 5 1 x1) fun r2 =>
 ob (lenA r2) fun r3 =>
 ob (binA Pg .lss 3 false x4 r3) fun r4 =>
 cndA r4
 (ob (partA false 5 1 x1) fun r5 =>
 ob (ixaA 6 r5 x4) fun c6 =>
 ob (partA true 0 6 c6) fun r7 =>
 E 29 [r7] H fun r8 H9 =>
 ob (binA Pg .add 3 false x3 r8) fun r10 =>
 ob (binA Pg .add 3 true x4 (I 1)) fun r11 =>
 f29_l8 x1 r10 r11 H9 Q)
 (Q x3 H) :=
  (AtF_eq Pg Hs 29 [1, 1, 0, 1, 0] Q _ H).trans (by kernel_rfl)
theorem f29_eq (a0 : AV) (H : Heap) (Q : Post) : E 29 [a0] H Q =
 ob (sizedA 6 a0) fun b1 =>
 f29_l8 b1 (I 1) (I 0) H Q :=
  Ev_eq.trans (by kernel_rfl)
/-! ### 30 haruspex/clause.Check -/
theorem f30_eq (a0 : AV) (H : Heap) (Q : Post) : E 30 [a0] H Q =
 ob (sizedA 11 a0) fun b1 =>
 ob (partA true 0 11 b1) fun r2 =>
 E 61 [r2] H fun r3 H4 =>
 ob (binA Pg .neq 31 true r3 (I 0)) fun r5 =>
 cndA r5
 (Q r3 H4)
 (ob (partA true 0 6 b1) fun r6 =>
 E 62 [r6] H4 fun r7 H8 =>
 Q r7 H8) :=
  Ev_eq.trans (by kernel_rfl)
/-! ### 31 haruspex/epl.plain -/
def f31_c1_9a (x1 : List AV) (x11 : AV) (H : Heap) (Q : Post) : Prop := AtJ Pg Hs 31 [1, 0, 9] Q [(1, .lbox x1), (11, .val x11)] H
def f31_c1_9b (x1 : List AV) (H : Heap) (Q : Post) : Prop := AtJ Pg Hs 31 [1, 0, 9] Q [(1, .lbox x1), (11, .val (B false))] H
def f31_c1_15a (x1 : List AV) (x17 : AV) (H : Heap) (Q : Post) : Prop := AtJ Pg Hs 31 [1, 0, 15] Q [(1, .lbox x1), (17, .val x17)] H
def f31_c1_15b (x1 : List AV) (H : Heap) (Q : Post) : Prop := AtJ Pg Hs 31 [1, 0, 15] Q [(1, .lbox x1), (17, .val (B false))] H
def f31_c1_20a (x1 : List AV) (x22 : AV) (H : Heap) (Q : Post) : Prop := AtJ Pg Hs 31 [1, 0, 20] Q [(1, .lbox x1), (22, .val x22)] H
def f31_c1_20b (x1 : List AV) (H : Heap) (Q : Post) : Prop := AtJ Pg Hs 31 [1, 0, 20] Q [(1, .lbox x1), (22, .val (B false))] H
def f31_j4 (x2 : AV) (H : Heap) (Q : Post) : Prop := AtJ Pg Hs 31 [1, 1] Q [(2, .val x2)] H
theorem f31_c1_9a_eq (x1 : List AV) (x11 : AV) (H : Heap) (Q : Post) : f31_c1_9a x1 x11 H Q =
 cndA x11
 (ob (partA false 10 1 x1) fun r8 =>
 ob (lenA r8) fun r9 =>
 ob (binA Pg .eql 3 true r9 (I 0)) fun r10 =>
 f31_c1_15a x1 r10 H Q)
 (f31_c1_15b x1 H Q) :=
  (AtJ_eq Pg Hs 31 [1, 0, 9] Q _ H).trans (by kernel_rfl)
theorem f31_c1_9b_eq (x1 : List AV) (H : Heap) (Q : Post) : f31_c1_9b x1 H Q =
 f31_c1_15b x1 H Q :=
  (AtJ_eq Pg Hs 31 [1, 0, 9] Q _ H).trans (by kernel_rfl)
theorem f31_c1_15a_eq (x1 : List AV) (x17 : AV) (H : Heap) (Q : Post) : f31_c1_15a x1 x17 H Q =
 cndA x17
 (ob (partA false 8 1 x1) fun r11 =>
 ob (binA Pg .eql 3 true r11 (I 0)) fun r12 =>
 f31_c1_20a x1 r12 H Q)
 (f31_c1_20b x1 H Q) :=
  (AtJ_eq Pg Hs 31 [1, 0, 15] Q _ H).trans (by kernel_rfl)
theorem f31_c1_15b_eq (x1 : List AV) (H : Heap) (Q : Post) : f31_c1_15b x1 H Q =
 f31_c1_20b x1 H Q :=
  (AtJ_eq Pg Hs 31 [1, 0, 15] Q _ H).trans (by kernel_rfl)
theorem f31_c1_20a_eq (x1 : List AV) (x22 : AV) (H : Heap) (Q : Post) : f31_c1_20a x1 x22 H Q =
 f31_j4 x22 H Q :=
  (AtJ_eq Pg Hs 31 [1, 0, 20] Q _ H).trans (by kernel_rfl)
theorem f31_c1_20b_eq (x1 : List AV) (H : Heap) (Q : Post) : f31_c1_20b x1 H Q =
 f31_j4 (B false) H Q :=
  (AtJ_eq Pg Hs 31 [1, 0, 20] Q _ H).trans (by kernel_rfl)
theorem f31_j4_eq (x2 : AV) (H : Heap) (Q : Post) : f31_j4 x2 H Q =
 Q x2 H :=
  (AtJ_eq Pg Hs 31 [1, 1] Q _ H).trans (by kernel_rfl)
theorem f31_eq (a0 : AV) (H : Heap) (Q : Post) : E 31 [a0] H Q =
 ob (sizedA 11 a0) fun b1 =>
 ob (partA true 0 6 b1) fun r2 =>
 E 63 [r2] H fun r3 H4 =>
 ob (unA .not r3) fun r5 =>
 cndA r5
 (ob (partA false 7 1 b1) fun r6 =>
 ob (binA Pg .eql 9 true r6 (S ⟨#[]⟩)) fun r7 =>
 f31_c1_9a b1 r7 H4 Q)
 (f31_c1_9b b1 H4 Q) :=
  Ev_eq.trans (by kernel_rfl)
/-! ### 32 (*haruspex/clause.Printer).Put -/
def f32_l3 (x0 : AV) (x6 : AV) (x7 : AV) (x8 : AV) (H : Heap) (Q : Post) : Prop := AtF Pg Hs 32 [1, 0] Q [(0, .val x0), (6, .val x6), (7, .val x7), (8, .val x8)] H
theorem f32_l3_eq (x0 : AV) (x6 : AV) (x7 : AV) (x8 : AV) (H : Heap) (Q : Post) : f32_l3 x0 x6 x7 x8 H Q =
 ob (binA Pg .lss 3 false x8 x7) fun r2 =>
 cndA r2
 (ob (ixaA 1 x6 x8) fun c3 =>
 ob (partA false 0 1 c3) fun r4 =>
 ob (nilA x0) fun r5 =>
 ob (addPA r5 0) fun r6 =>
 E 64 [r6, r4] H fun r7 H8 =>
 ob (binA Pg .add 3 true x8 (I 1)) fun r9 =>
 f32_l3 x0 x6 x7 r9 H8 Q)
 (Q (AV.tup []) H) :=
  (AtF_eq Pg Hs 32 [1, 0] Q _ H).trans (by kernel_rfl)
theorem f32_eq (a0 a1 : AV) (H : Heap) (Q : Post) : E 32 [a0, a1] H Q =
 ob (lenA a1) fun r1 =>
 f32_l3 a0 a1 r1 (I 0) H Q :=
  Ev_eq.trans (by kernel_rfl)
/-! ### 33 (*haruspex/epl.printer).pattern -/
def f33_j18 (x0 : AV) (x2 : AV) (x4 : List AV) (x6 : AV) (x7 : AV) (H : Heap) (Q : Post) : Prop := AtJ Pg Hs 33 [1, 1, 1, 1] Q [(0, .val x0), (2, .val x2), (4, .lbox x4), (6, .val x6), (7, .val x7)] H
def f33_l22 (x0 : AV) (x2 : AV) (x6 : AV) (x7 : AV) (x30 : AV) (x31 : AV) (x32 : AV) (H : Heap) (Q : Post) : Prop := AtF Pg Hs 33 [1, 1, 1, 1, 0, 1, 0] Q [(0, .val x0), (2, .val x2), (6, .val x6), (7, .val x7), (30, .val x30), (31, .val x31), (32, .val x32)] H
def f33_j39 (x0 : AV) (x2 : AV) (x6 : AV) (x7 : AV) (x9 : List AV) (x30 : AV) (x31 : AV) (x32 : AV) (H : Heap) (Q : Post) : Prop := AtJ Pg Hs 33 [1, 1, 1, 1, 0, 1, 0, 0, 1, 1, 0, 0, 1, 1] Q [(0, .val x0), (2, .val x2), (6, .val x6), (7, .val x7), (9, .lbox x9), (30, .val x30), (31, .val x31), (32, .val x32)] H
theorem f33_j18_eq (x0 : AV) (x2 : AV) (x4 : List AV) (x6 : AV) (x7 : AV) (H : Heap) (Q : Post) : f33_j18 x0 x2 x4 x6 x7 H Q =
 ob (partA false 5 1 x4) fun r17 =>
 ob (lenA r17) fun r18 =>
 f33_l22 x0 x2 x6 x7 r17 r18 (I 0) H Q :=
  (AtJ_eq Pg Hs 33 [1, 1, 1, 1] Q _ H).trans (by kernel_rfl)
theorem f33_l22_eq (x0 : AV) (x2 : AV) (x6 : AV) (x7 : AV) (x30 : AV) (x31 : AV) (x32 : AV) (H : Heap) (Q : Post) : f33_l22 x0 x2 x6 x7 x30 x31 x32 H Q =
 ob (binA Pg .lss 3 false x32 x31) fun r19 =>
 cndA r19
 (ob (ixaA 6 x30 x32) fun c20 =>
 ob (partA true 0 6 c20) fun r21 =>
 ob (sizedA 6 r21) fun b22 =>
 ob (spliceA 0 b22 [(I 0), (S ⟨#[]⟩), (S ⟨#[]⟩), (I 0), (I 0), (AV.sl 0 true .full [])]) fun b23 =>
 ob (binA Pg .gtr 3 true x32 (I 0)) fun r24 =>
 cndA r24
 (ob (nilA x0) fun r25 =>
 ob (addPA r25 0) fun r26 =>
 ob (mkSlA 1 [x7]) fun r27 =>
 E 32 [r26, r27] H fun r28 H29 =>
 f33_j39 x0 x2 x6 x7 b23 x30 x31 x32 H29 Q)
 (f33_j39 x0 x2 x6 x7 b23 x30 x31 x32 H Q))
 (ob (binA Pg .lss 3 false x6 x2) fun r30 =>
 cndA r30
 (ob (nilA x0) fun r31 =>
 ob (addPA r31 0) fun r32 =>
 ob (mkSlA 1 [(S ⟨#[41]⟩)]) fun r33 =>
 E 32 [r32, r33] H fun r34 H35 =>
 Q (AV.tup []) H35)
 (Q (AV.tup []) H)) :=
  (AtF_eq Pg Hs 33 [1, 1, 1, 1, 0, 1, 0] Q _ H).trans (by kernel_rfl)
theorem f33_j39_eq (x0 : AV) (x2 : AV) (x6 : AV) (x7 : AV) (x9 : List AV) (x30 : AV) (x31 : AV) (x32 : AV) (H : Heap) (Q : Post) : f33_j39 x0 x2 x6 x7 x9 x30 x31 x32 H Q =
 ob (partA true 0 6 x9) fun r36 =>
 ob (binA Pg .add 3 true x6 (I 1)) fun r37 =>
 E 33 [x0, r36, r37] H fun r38 H39 =>
 ob (binA Pg .add 3 true x32 (I 1)) fun r40 =>
 f33_l22 x0 x2 x6 x7 x30 x31 r40 H39 Q :=
  (AtJ_eq Pg Hs 33 [1, 1, 1, 1, 0, 1, 0, 0, 1, 1, 0, 0, 1, 1] Q _ H).trans (by kernel_rfl)
theorem f33_eq (a0 a1 a2 : AV) (H : Heap) (Q : Post) : E 33 [a0, a1, a2] H Q =
 ob (sizedA 6 a1) fun b1 =>
 ob (partA false 0 1 b1) fun r2 =>
 E 65 [r2] H fun r3 H4 =>
 ob (extractA r3 0) fun r5 =>
 ob (extractA r3 1) fun r6 =>
 ob (binA Pg .eql 3 true r5 (I 4)) fun r7 =>
 cndA r7
 (ob (partA true 0 6 b1) fun r8 =>
 E 66 [a0, r8] H4 fun r9 H10 =>
 Q (AV.tup []) H10)
 (ob (binA Pg .lss 3 false r5 a2) fun r11 =>
 cndA r11
 (ob (nilA a0) fun r12 =>
 ob (addPA r12 0) fun r13 =>
 ob (mkSlA 1 [(S ⟨#[40]⟩)]) fun r14 =>
 E 32 [r13, r14] H4 fun r15 H16 =>
 f33_j18 a0 a2 b1 r5 r6 H16 Q)
 (f33_j18 a0 a2 b1 r5 r6 H4 Q)) :=
  Ev_eq.trans (by kernel_rfl)
/-! ### 34 (*haruspex/clause.Printer).PutWhere -/
theorem f34_eq (a0 a1 : AV) (H : Heap) (Q : Post) : E 34 [a0, a1] H Q =
 E 27 [a1] H fun r1 H2 =>
 ob (extractA r1 0) fun r3 =>
 ob (extractA r1 1) fun r4 =>
 ob (binA Pg .eql 31 true r4 (I 0)) fun r5 =>
 cndA r5
 (ob (mkSlA 1 [(S ⟨#[32, 87, 72, 69, 82, 69, 32]⟩), r3]) fun r6 =>
 E 32 [a0, r6] H2 fun r7 H8 =>
 Q (AV.tup []) H8)
 (Q (AV.tup []) H2) :=
  Ev_eq.trans (by kernel_rfl)
/-! ### 35 (*haruspex/clause.Printer).PutWithin -/
theorem f35_eq (a0 a1 : AV) (H : Heap) (Q : Post) : E 35 [a0, a1] H Q =
 ob (binA Pg .neq 2 true a1 (I 0)) fun r1 =>
 cndA r1
 (ob (mkSlA 1 [(S ⟨#[32, 87, 73, 84, 72, 73, 78, 32]⟩)]) fun r2 =>
 E 32 [a0, r2] H fun r3 H4 =>
 E 67 [a0, a1] H4 fun r5 H6 =>
 Q (AV.tup []) H6)
 (Q (AV.tup []) H) :=
  Ev_eq.trans (by kernel_rfl)
/-! ### 36 (*strings.Builder).String -/
theorem f36_eq (a0 : AV) (H : Heap) (Q : Post) : E 36 [a0] H Q =
 ob (nilA a0) fun r1 =>
 ob (addPA r1 1) fun r2 =>
 ob (ldH H false 1 r2) fun r3 =>
 ob (datA r3) fun r4 =>
 ob (nilA a0) fun r5 =>
 ob (addPA r5 1) fun r6 =>
 ob (ldH H false 1 r6) fun r7 =>
 ob (lenA r7) fun r8 =>
 strA Pg 99 r4 r8 H fun r9 H10 =>
 Q r9 H10 :=
  Ev_eq.trans (by kernel_rfl)
/-! ### 37 haruspex/haruspexref19.Fine -/
theorem f37_eq (a0 : AV) (H : Heap) (Q : Post) : E 37 [a0] H Q =
 ob (sizedA 11 a0) fun b1 =>
 ob (partA true 0 11 b1) fun r2 =>
 E 68 [r2] H fun r3 H4 =>
 ob (binA Pg .neq 3 true r3 (I 0)) fun r5 =>
 cndA r5
 (Q r3 H4)
 (ob (partA true 0 6 b1) fun r6 =>
 E 69 [r6] H4 fun r7 H8 =>
 Q r7 H8) :=
  Ev_eq.trans (by kernel_rfl)
/-! ### 38 haruspex/haruspexref20.put -/
def f38_j43 (x1 : AV) (x2 : List AV) (x5 : AV) (x6 : AV) (H : Heap) (Q : Post) : Prop := AtJ Pg Hs 38 [1, 1, 1, 1] Q [(1, .val x1), (2, .lbox x2), (5, .val x5), (6, .val x6)] H
def f38_l49 (x1 : AV) (x2 : List AV) (x5 : AV) (x6 : AV) (x7 : AV) (x8 : AV) (H : Heap) (Q : Post) : Prop := AtF Pg Hs 38 [1, 1, 1, 1, 1, 0, 1, 0] Q [(1, .val x1), (2, .lbox x2), (5, .val x5), (6, .val x6), (7, .val x7), (8, .val x8)] H
def f38_j64 (x1 : AV) (x2 : List AV) (x5 : AV) (x6 : AV) (x7 : AV) (x8 : AV) (H : Heap) (Q : Post) : Prop := AtJ Pg Hs 38 [1, 1, 1, 1, 1, 0, 1, 0, 0, 1, 0, 0, 1] Q [(1, .val x1), (2, .lbox x2), (5, .val x5), (6, .val x6), (7, .val x7), (8, .val x8)] H
theorem f38_j43_eq (x1 : AV) (x2 : List AV) (x5 : AV) (x6 : AV) (H : Heap) (Q : Post) : f38_j43 x1 x2 x5 x6 H Q =
 f38_l49 x1 x2 x5 x6 (S ⟨#[]⟩) (I 0) H Q :=
  (AtJ_eq Pg Hs 38 [1, 1, 1, 1] Q _ H).trans (by kernel_rfl)
theorem f38_l49_eq (x1 : AV) (x2 : List AV) (x5 : AV) (x6 : AV) (x7 : AV) (x8 : AV) (H : Heap) (Q : Post) : f38_l49 x1 x2 x5 x6 x7 x8 H Q =
 ob (partA false 5 1 x2) fun r27 =>
 ob (lenA r27) fun r28 =>
 ob (binA Pg .lss 3 false x8 r28) fun r29 =>
 cndA r29
 (ob (binA Pg .gtr 3 true x8 (I 0)) fun r30 =>
 cndA r30
 (ob (binA Pg .add 9 false x7 x6) fun r31 =>
 f38_j64 x1 x2 x5 x6 r31 x8 H Q)
 (f38_j64 x1 x2 x5 x6 x7 x8 H Q))
 (ob (binA Pg .lss 3 false x5 x1) fun r32 =>
 cndA r32
 (ob (binA Pg .add 9 true (S ⟨#[40]⟩) x7) fun r33 =>
 ob (binA Pg .add 9 true r33 (S ⟨#[41]⟩)) fun r34 =>
 Q r34 H)
 (Q x7 H)) :=
  (AtF_eq Pg Hs 38 [1, 1, 1, 1, 1, 0, 1, 0] Q _ H).trans (by kernel_rfl)
theorem f38_j64_eq (x1 : AV) (x2 : List AV) (x5 : AV) (x6 : AV) (x7 : AV) (x8 : AV) (H : Heap) (Q : Post) : f38_j64 x1 x2 x5 x6 x7 x8 H Q =
 ob (partA false 5 1 x2) fun r35 =>
 ob (ixaA 6 r35 x8) fun c36 =>
 ob (partA true 0 6 c36) fun r37 =>
 ob (binA Pg .add 3 true x5 (I 1)) fun r38 =>
 E 38 [r37, r38] H fun r39 H40 =>
 ob (binA Pg .add 9 false x7 r39) fun r41 =>
 ob (binA Pg .add 3 true x8 (I 1)) fun r42 =>
 f38_l49 x1 x2 x5 x6 r41 r42 H40 Q :=
  (AtJ_eq Pg Hs 38 [1, 1, 1, 1, 1, 0, 1, 0, 0, 1, 0, 0, 1] Q _ H).trans (by kernel_rfl)
theorem f38_eq (a0 a1 : AV) (H : Heap) (Q : Post) : E 38 [a0, a1] H Q =
 ob (sizedA 6 a0) fun b1 =>
 ob (partA false 0 1 b1) fun r2 =>
 ob (binA Pg .eql 3 true r2 (I 2)) fun r3 =>
 cndA r3
 (f38_j43 a1 b1 (I 1) (S ⟨#[32, 45, 62, 32]⟩) H Q)
 (ob (binA Pg .eql 3 true r2 (I 4)) fun r4 =>
 cndA r4
 (f38_j43 a1 b1 (I 2) (S ⟨#[32, 79, 82, 32]⟩) H Q)
 (ob (binA Pg .eql 3 true r2 (I 3)) fun r5 =>
 cndA r5
 (f38_j43 a1 b1 (I 3) (S ⟨#[32, 65, 78, 68, 32]⟩) H Q)
 (ob (binA Pg .eql 3 true r2 (I 6)) fun r6 =>
 cndA r6
 (ob (partA false 1 1 b1) fun r7 =>
 ob (binA Pg .add 9 true (S ⟨#[78, 79, 84, 32]⟩) r7) fun r8 =>
 ob (binA Pg .add 9 true r8 (S ⟨#[61]⟩)) fun r9 =>
 ob (partA false 2 1 b1) fun r10 =>
 ob (binA Pg .add 9 false r9 r10) fun r11 =>
 Q r11 H)
 (ob (binA Pg .eql 3 true r2 (I 5)) fun r12 =>
 cndA r12
 (ob (partA false 3 1 b1) fun r13 =>
 ob (partA false 1 1 b1) fun r14 =>
 ob (partA false 2 1 b1) fun r15 =>
 E 70 [r13] H fun r16 H17 =>
 ob (binA Pg .add 9 true (S ⟨#[91]⟩) r16) fun r18 =>
 ob (binA Pg .add 9 true r18 (S ⟨#[93, 32]⟩)) fun r19 =>
 ob (binA Pg .add 9 false r19 r14) fun r20 =>
 ob (binA Pg .add 9 true r20 (S ⟨#[61]⟩)) fun r21 =>
 ob (binA Pg .add 9 false r21 r15) fun r22 =>
 Q r22 H17)
 (ob (partA false 1 1 b1) fun r23 =>
 ob (binA Pg .add 9 true r23 (S ⟨#[61]⟩)) fun r24 =>
 ob (partA false 2 1 b1) fun r25 =>
 ob (binA Pg .add 9 false r24 r25) fun r26 =>
 Q r26 H))))) :=
  Ev_eq.trans (by kernel_rfl)
/-! ### 39 haruspex/haruspexref19.PutWhere -/
theorem f39_eq (a0 : AV) (H : Heap) (Q : Post) : E 39 [a0] H Q =
 ob (lenA a0) fun r1 =>
 ob (binA Pg .eql 3 true r1 (I 0)) fun r2 =>
 cndA r2
 (Q (S ⟨#[]⟩) H)
 (E 28 [a0] H fun r3 H4 =>
 ob (extractA r3 0) fun r5 =>
 ob (extractA r3 1) fun r6 =>
 ob (binA Pg .add 9 true (S ⟨#[32, 87, 72, 69, 82, 69, 32]⟩) r5) fun r7 =>
 Q r7 H4) :=
  Ev_eq.trans (by kernel_rfl)
/-! ### 40 haruspex/haruspexref19.PutWithin -/
theorem f40_eq (a0 : AV) (H : Heap) (Q : Post) : E 40 [a0] H Q =
 ob (binA Pg .eql 2 true a0 (I 0)) fun r1 =>
 cndA r1
 (Q (S ⟨#[]⟩) H)
 (E 70 [a0] H fun r2 H3 =>
 ob (binA Pg .add 9 true (S ⟨#[32, 87, 73, 84, 72, 73, 78, 32]⟩) r2) fun r4 =>
 Q r4 H3) :=
  Ev_eq.trans (by kernel_rfl)
/-! ### 41 haruspex/haruspexref20.exact -/
def f41_j5 (x1 : List AV) (x13 : AV) (H : Heap) (Q : Post) : Prop := AtJ Pg Hs 41 [1, 0, 1] Q [(1, .lbox x1), (13, .val x13)] H
def f41_l14 (x1 : List AV) (x3 : AV) (H : Heap) (Q : Post) : Prop := AtF Pg Hs 41 [1, 1, 0, 1, 0] Q [(1, .lbox x1), (3, .val x3)] H
theorem f41_j5_eq (x1 : List AV) (x13 : AV) (H : Heap) (Q : Post) : f41_j5 x1 x13 H Q =
 cndA x13
 (Q (B false) H)
 (f41_l14 x1 (I 0) H Q) :=
  (AtJ_eq Pg Hs 41 [1, 0, 1] Q _ H).trans (by kernel_rfl)
theorem f41_l14_eq (x1 : List AV) (x3 : AV) (H : Heap) (Q : Post) : f41_l14 x1 x3 H Q =
 ob (partA false 5 1 x1) fun r7 =>
 ob (lenA r7) fun r8 =>
 ob (binA Pg .lss 3 false x3 r8) fun r9 =>
 cndA r9
 (ob (partA false 5 1 x1) fun r10 =>
 ob (ixaA 6 r10 x3) fun c11 =>
 ob (partA true 0 6 c11) fun r12 =>
 E 41 [r12] H fun r13 H14 =>
 ob (unA .not r13) fun r15 =>
 cndA r15
 (Q (B false) H14)
 (ob (binA Pg .add 3 true x3 (I 1)) fun r16 =>
 f41_l14 x1 r16 H14 Q))
 (Q (B true) H) :=
  (AtF_eq Pg Hs 41 [1, 1, 0, 1, 0] Q _ H).trans (by kernel_rfl)
theorem f41_eq (a0 : AV) (H : Heap) (Q : Post) : E 41 [a0] H Q =
 ob (sizedA 6 a0) fun b1 =>
 ob (partA false 0 1 b1) fun r2 =>
 ob (binA Pg .eql 3 true r2 (I 5)) fun r3 =>
 cndA r3
 (ob (partA false 3 1 b1) fun r4 =>
 ob (partA false 4 1 b1) fun r5 =>
 ob (binA Pg .neq 3 false r4 r5) fun r6 =>
 f41_j5 b1 r6 H Q)
 (f41_j5 b1 (B false) H Q) :=
  Ev_eq.trans (by kernel_rfl)
/-! ### 42 haruspex/sase.and -/
def f42_j4 (x2 : AV) (H : Heap) (Q : Post) : Prop := AtJ Pg Hs 42 [1, 1] Q [(2, .val x2)] H
theorem f42_j4_eq (x2 : AV) (H : Heap) (Q : Post) : f42_j4 x2 H Q =
 Q x2 H :=
  (AtJ_eq Pg Hs 42 [1, 1] Q _ H).trans (by kernel_rfl)
theorem f42_eq (a0 : AV) (H : Heap) (Q : Post) : E 42 [a0] H Q =
 ob (sizedA 6 a0) fun b1 =>
 ob (partA false 0 1 b1) fun r2 =>
 ob (binA Pg .eql 3 true r2 (I 3)) fun r3 =>
 cndA r3
 (f42_j4 (B true) H Q)
 (ob (partA false 5 1 b1) fun r4 =>
 E 71 [r4, (AV.fn (.func 42) [] [])] H fun r5 H6 =>
 f42_j4 r5 H6 Q) :=
  Ev_eq.trans (by kernel_rfl)
/-! ### 43 (*haruspex/sase.printer).pattern -/
theorem f43_eq (a0 a1 : AV) (H : Heap) (Q : Post) : E 43 [a0, a1] H Q =
 ob (sizedA 6 a1) fun b1 =>
 ob (partA false 0 1 b1) fun r2 =>
 ob (binA Pg .eql 3 true r2 (I 2)) fun r3 =>
 cndA r3
 (ob (nilA a0) fun r4 =>
 ob (addPA r4 0) fun r5 =>
 ob (mkSlA 1 [(S ⟨#[83, 69, 81, 40]⟩)]) fun r6 =>
 E 32 [r5, r6] H fun r7 H8 =>
 ob (partA false 5 1 b1) fun r9 =>
 E 72 [a0, r9, (S ⟨#[44, 32]⟩)] H8 fun r10 H11 =>
 ob (nilA a0) fun r12 =>
 ob (addPA r12 0) fun r13 =>
 ob (mkSlA 1 [(S ⟨#[41]⟩)]) fun r14 =>
 E 32 [r13, r14] H11 fun r15 H16 =>
 Q (AV.tup []) H16)
 (ob (binA Pg .eql 3 true r2 (I 4)) fun r17 =>
 cndA r17
 (ob (partA false 5 1 b1) fun r18 =>
 E 72 [a0, r18, (S ⟨#[32, 124, 32]⟩)] H fun r19 H20 =>
 Q (AV.tup []) H20)
 (ob (binA Pg .eql 3 true r2 (I 6)) fun r21 =>
 cndA r21
 (ob (nilA a0) fun r22 =>
 ob (addPA r22 0) fun r23 =>
 ob (partA false 2 1 b1) fun r24 =>
 ob (partA false 1 1 b1) fun r25 =>
 ob (mkSlA 1 [(S ⟨#[33]⟩), r24, (S ⟨#[32]⟩), r25]) fun r26 =>
 E 32 [r23, r26] H fun r27 H28 =>
 Q (AV.tup []) H28)
 (ob (nilA a0) fun r29 =>
 ob (addPA r29 0) fun r30 =>
 ob (partA false 2 1 b1) fun r31 =>
 ob (partA false 1 1 b1) fun r32 =>
 ob (mkSlA 1 [r31, (S ⟨#[32]⟩), r32]) fun r33 =>
 E 32 [r30, r33] H fun r34 H35 =>
 ob (nilA a0) fun r36 =>
 ob (addPA r36 0) fun r37 =>
 ob (partA true 0 6 b1) fun r38 =>
 E 73 [r37, r38, (B false)] H35 fun r39 H40 =>
 Q (AV.tup []) H40))) :=
  Ev_eq.trans (by kernel_rfl)
/-! ### 44 (*haruspex/clause.Printer).PutItems -/
def f44_l3 (x0 : AV) (x8 : AV) (x9 : AV) (x10 : AV) (H : Heap) (Q : Post) : Prop := AtF Pg Hs 44 [1, 0] Q [(0, .val x0), (8, .val x8), (9, .val x9), (10, .val x10)] H
def f44_j20 (x0 : AV) (x5 : List AV) (x8 : AV) (x9 : AV) (x10 : AV) (H : Heap) (Q : Post) : Prop := AtJ Pg Hs 44 [1, 0, 0, 1, 1, 0, 0, 1, 1] Q [(0, .val x0), (5, .lbox x5), (8, .val x8), (9, .val x9), (10, .val x10)] H
def f44_l24 (x0 : AV) (x5 : List AV) (x8 : AV) (x9 : AV) (x10 : AV) (x20 : AV) (x21 : AV) (H : Heap) (Q : Post) : Prop := AtF Pg Hs 44 [1, 0, 0, 1, 1, 0, 0, 1, 1, 0, 1, 0] Q [(0, .val x0), (5, .lbox x5), (8, .val x8), (9, .val x9), (10, .val x10), (20, .val x20), (21, .val x21)] H
def f44_j40 (x0 : AV) (x5 : List AV) (x8 : AV) (x9 : AV) (x10 : AV) (x20 : AV) (x21 : AV) (H : Heap) (Q : Post) : Prop := AtJ Pg Hs 44 [1, 0, 0, 1, 1, 0, 0, 1, 1, 0, 1, 0, 0, 1, 1, 1] Q [(0, .val x0), (5, .lbox x5), (8, .val x8), (9, .val x9), (10, .val x10), (20, .val x20), (21, .val x21)] H
def f44_j49 (x0 : AV) (x5 : List AV) (x8 : AV) (x9 : AV) (x10 : AV) (H : Heap) (Q : Post) : Prop := AtJ Pg Hs 44 [1, 0, 0, 1, 1, 0, 0, 1, 1, 1, 1, 1] Q [(0, .val x0), (5, .lbox x5), (8, .val x8), (9, .val x9), (10, .val x10)] H
theorem f44_l3_eq (x0 : AV) (x8 : AV) (x9 : AV) (x10 : AV) (H : Heap) (Q : Post) : f44_l3 x0 x8 x9 x10 H Q =
 ob (binA Pg .lss 3 false x10 x9) fun r2 =>
 cndA r2
 (ob (ixaA 4 x8 x10) fun c3 =>
 ob (partA true 0 4 c3) fun r4 =>
 ob (sizedA 4 r4) fun b5 =>
 ob (spliceA 0 b5 [(S ⟨#[]⟩), (I 0), (S ⟨#[]⟩), (S ⟨#[]⟩)]) fun b6 =>
 ob (binA Pg .gtr 3 true x10 (I 0)) fun r7 =>
 cndA r7
 (ob (mkSlA 1 [(S ⟨#[44, 32]⟩)]) fun r8 =>
 E 32 [x0, r8] H fun r9 H10 =>
 f44_j20 x0 b6 x8 x9 x10 H10 Q)
 (f44_j20 x0 b6 x8 x9 x10 H Q))
 (Q (AV.tup []) H) :=
  (AtF_eq Pg Hs 44 [1, 0] Q _ H).trans (by kernel_rfl)
theorem f44_j20_eq (x0 : AV) (x5 : List AV) (x8 : AV) (x9 : AV) (x10 : AV) (H : Heap) (Q : Post) : f44_j20 x0 x5 x8 x9 x10 H Q =
 E 74 [] H fun r11 H12 =>
 f44_l24 x0 x5 x8 x9 x10 r11 (I 0) H12 Q :=
  (AtJ_eq Pg Hs 44 [1, 0, 0, 1, 1, 0, 0, 1, 1] Q _ H).trans (by kernel_rfl)
theorem f44_l24_eq (x0 : AV) (x5 : List AV) (x8 : AV) (x9 : AV) (x10 : AV) (x20 : AV) (x21 : AV) (H : Heap) (Q : Post) : f44_l24 x0 x5 x8 x9 x10 x20 x21 H Q =
 ob (binA Pg .lss 3 true x21 (I 4)) fun r13 =>
 cndA r13
 (ob (ixAgg 4 true 2 x20 x21) fun r14 =>
 ob (sizedA 2 r14) fun b15 =>
 ob (spliceA 0 b15 [(S ⟨#[]⟩), (I 0)]) fun b16 =>
 ob (partA false 1 1 b16) fun r17 =>
 ob (partA false 1 1 x5) fun r18 =>
 ob (binA Pg .eql 3 false r17 r18) fun r19 =>
 cndA r19
 (ob (partA false 0 1 b16) fun r20 =>
 ob (mkSlA 1 [r20]) fun r21 =>
 E 32 [x0, r21] H fun r22 H23 =>
 f44_j40 x0 x5 x8 x9 x10 x20 x21 H23 Q)
 (f44_j40 x0 x5 x8 x9 x10 x20 x21 H Q))
 (ob (partA false 2 1 x5) fun r24 =>
 ob (mkSlA 1 [(S ⟨#[40]⟩), r24]) fun r25 =>
 E 32 [x0, r25] H fun r26 H27 =>
 ob (partA false 1 1 x5) fun r28 =>
 ob (binA Pg .neq 3 true r28 (I 3)) fun r29 =>
 cndA r29
 (ob (partA false 3 1 x5) fun r30 =>
 ob (mkSlA 1 [(S ⟨#[46]⟩), r30]) fun r31 =>
 E 32 [x0, r31] H27 fun r32 H33 =>
 f44_j49 x0 x5 x8 x9 x10 H33 Q)
 (f44_j49 x0 x5 x8 x9 x10 H27 Q)) :=
  (AtF_eq Pg Hs 44 [1, 0, 0, 1, 1, 0, 0, 1, 1, 0, 1, 0] Q _ H).trans (by kernel_rfl)
theorem f44_j40_eq (x0 : AV) (x5 : List AV) (x8 : AV) (x9 : AV) (x10 : AV) (x20 : AV) (x21 : AV) (H : Heap) (Q : Post) : f44_j40 x0 x5 x8 x9 x10 x20 x21 H Q =
 ob (binA Pg .add 3 true x21 (I 1)) fun r34 =>
 f44_l24 x0 x5 x8 x9 x10 x20 r34 H Q :=
  (AtJ_eq Pg Hs 44 [1, 0, 0, 1, 1, 0, 0, 1, 1, 0, 1, 0, 0, 1, 1, 1] Q _ H).trans (by kernel_rfl)
theorem f44_j49_eq (x0 : AV) (x5 : List AV) (x8 : AV) (x9 : AV) (x10 : AV) (H : Heap) (Q : Post) : f44_j49 x0 x5 x8 x9 x10 H Q =
 ob (partA false 0 1 x5) fun r35 =>
 ob (mkSlA 1 [(S ⟨#[41, 32, 65, 83, 32]⟩), r35]) fun r36 =>
 E 32 [x0, r36] H fun r37 H38 =>
 ob (binA Pg .add 3 true x10 (I 1)) fun r39 =>
 f44_l3 x0 x8 x9 r39 H38 Q :=
  (AtJ_eq Pg Hs 44 [1, 0, 0, 1, 1, 0, 0, 1, 1, 1, 1, 1] Q _ H).trans (by kernel_rfl)
theorem f44_eq (a0 a1 : AV) (H : Heap) (Q : Post) : E 44 [a0, a1] H Q =
 ob (lenA a1) fun r1 =>
 f44_l3 a0 a1 r1 (I 0) H Q :=
  Ev_eq.trans (by kernel_rfl)
/-! ### 45 haruspex/haruspexref19.put -/
def f45_j14 (x1 : List AV) (x3 : AV) (x6 : AV) (x7 : AV) (H : Heap) (Q : Post) : Prop := AtJ Pg Hs 45 [1, 1, 0, 1, 0, 1] Q [(1, .lbox x1), (3, .val x3), (6, .val x6), (7, .val x7)] H
def f45_l19 (x1 : List AV) (x3 : AV) (x4 : AV) (H : Heap) (Q : Post) : Prop := AtF Pg Hs 45 [1, 1, 0, 1, 0, 1, 0, 0, 1, 0] Q [(1, .lbox x1), (3, .val x3), (4, .val x4)] H
def f45_j31 (x1 : List AV) (x3 : AV) (x4 : AV) (x23 : AV) (H : Heap) (Q : Post) : Prop := AtJ Pg Hs 45 [1, 1, 0, 1, 0, 1, 0, 0, 1, 0, 0, 1, 0, 0, 0, 1] Q [(1, .lbox x1), (3, .val x3), (4, .val x4), (23, .val x23)] H
def f45_j37 (x1 : List AV) (x3 : AV) (x4 : AV) (x32 : AV) (H : Heap) (Q : Post) : Prop := AtJ Pg Hs 45 [1, 1, 0, 1, 0, 1, 0, 0, 1, 0, 0, 1, 0, 0, 1, 0, 1] Q [(1, .lbox x1), (3, .val x3), (4, .val x4), (32, .val x32)] H
theorem f45_j14_eq (x1 : List AV) (x3 : AV) (x6 : AV) (x7 : AV) (H : Heap) (Q : Post) : f45_j14 x1 x3 x6 x7 H Q =
 cndA x7
 (f45_l19 x1 x3 (I 0) H Q)
 (ob (binA Pg .eql 3 true x6 (I 6)) fun r5 =>
 cndA r5
 (ob (partA false 2 1 x1) fun r6 =>
 ob (binA Pg .add 9 true (S ⟨#[33]⟩) r6) fun r7 =>
 ob (binA Pg .add 9 true r7 (S ⟨#[32]⟩)) fun r8 =>
 ob (partA false 1 1 x1) fun r9 =>
 ob (binA Pg .add 9 false r8 r9) fun r10 =>
 Q r10 H)
 (ob (partA false 2 1 x1) fun r11 =>
 ob (binA Pg .add 9 true r11 (S ⟨#[32]⟩)) fun r12 =>
 ob (partA false 1 1 x1) fun r13 =>
 ob (binA Pg .add 9 false r12 r13) fun r14 =>
 ob (partA true 0 6 x1) fun r15 =>
 E 75 [r15, (B false)] H fun r16 H17 =>
 ob (binA Pg .add 9 false r14 r16) fun r18 =>
 Q r18 H17)) :=
  (AtJ_eq Pg Hs 45 [1, 1, 0, 1, 0, 1] Q _ H).trans (by kernel_rfl)
theorem f45_l19_eq (x1 : List AV) (x3 : AV) (x4 : AV) (H : Heap) (Q : Post) : f45_l19 x1 x3 x4 H Q =
 ob (partA false 5 1 x1) fun r19 =>
 ob (lenA r19) fun r20 =>
 ob (binA Pg .lss 3 false x4 r20) fun r21 =>
 cndA r21
 (ob (binA Pg .gtr 3 true x4 (I 0)) fun r22 =>
 cndA r22
 (ob (partA false 0 1 x1) fun r23 =>
 ob (binA Pg .eql 3 true r23 (I 2)) fun r24 =>
 f45_j31 x1 x3 x4 r24 H Q)
 (f45_j31 x1 x3 x4 (B false) H Q))
 (ob (partA false 0 1 x1) fun r25 =>
 ob (binA Pg .eql 3 true r25 (I 2)) fun r26 =>
 cndA r26
 (ob (binA Pg .add 9 true (S ⟨#[83, 69, 81, 40]⟩) x3) fun r27 =>
 ob (binA Pg .add 9 true r27 (S ⟨#[41]⟩)) fun r28 =>
 Q r28 H)
 (Q x3 H)) :=
  (AtF_eq Pg Hs 45 [1, 1, 0, 1, 0, 1, 0, 0, 1, 0] Q _ H).trans (by kernel_rfl)
theorem f45_j31_eq (x1 : List AV) (x3 : AV) (x4 : AV) (x23 : AV) (H : Heap) (Q : Post) : f45_j31 x1 x3 x4 x23 H Q =
 cndA x23
 (ob (binA Pg .add 9 true x3 (S ⟨#[44, 32]⟩)) fun r29 =>
 ob (binA Pg .gtr 3 true x4 (I 0)) fun r30 =>
 cndA r30
 (ob (partA false 0 1 x1) fun r31 =>
 ob (binA Pg .eql 3 true r31 (I 4)) fun r32 =>
 f45_j37 x1 r29 x4 r32 H Q)
 (f45_j37 x1 r29 x4 (B false) H Q))
 (ob (binA Pg .gtr 3 true x4 (I 0)) fun r33 =>
 cndA r33
 (ob (partA false 0 1 x1) fun r34 =>
 ob (binA Pg .eql 3 true r34 (I 4)) fun r35 =>
 f45_j37 x1 x3 x4 r35 H Q)
 (f45_j37 x1 x3 x4 (B false) H Q)) :=
  (AtJ_eq Pg Hs 45 [1, 1, 0, 1, 0, 1, 0, 0, 1, 0, 0, 1, 0, 0, 0, 1] Q _ H).trans (by kernel_rfl)
theorem f45_j37_eq (x1 : List AV) (x3 : AV) (x4 : AV) (x32 : AV) (H : Heap) (Q : Post) : f45_j37 x1 x3 x4 x32 H Q =
 cndA x32
 (ob (binA Pg .add 9 true x3 (S ⟨#[32, 124, 32]⟩)) fun r36 =>
 ob (partA false 5 1 x1) fun r37 =>
 ob (ixaA 6 r37 x4) fun c38 =>
 ob (partA true 0 6 c38) fun r39 =>
 E 45 [r39] H fun r40 H41 =>
 ob (binA Pg .add 9 false r36 r40) fun r42 =>
 ob (binA Pg .add 3 true x4 (I 1)) fun r43 =>
 f45_l19 x1 r42 r43 H41 Q)
 (ob (partA false 5 1 x1) fun r44 =>
 ob (ixaA 6 r44 x4) fun c45 =>
 ob (partA true 0 6 c45) fun r46 =>
 E 45 [r46] H fun r47 H48 =>
 ob (binA Pg .add 9 false x3 r47) fun r49 =>
 ob (binA Pg .add 3 true x4 (I 1)) fun r50 =>
 f45_l19 x1 r49 r50 H48 Q) :=
  (AtJ_eq Pg Hs 45 [1, 1, 0, 1, 0, 1, 0, 0, 1, 0, 0, 1, 0, 0, 1, 0, 1] Q _ H).trans (by kernel_rfl)
theorem f45_eq (a0 : AV) (H : Heap) (Q : Post) : E 45 [a0] H Q =
 ob (sizedA 6 a0) fun b1 =>
 ob (partA false 0 1 b1) fun r2 =>
 ob (binA Pg .eql 3 true r2 (I 2)) fun r3 =>
 cndA r3
 (f45_j14 b1 (S ⟨#[]⟩) r2 r3 H Q)
 (ob (binA Pg .eql 3 true r2 (I 4)) fun r4 =>
 f45_j14 b1 (S ⟨#[]⟩) r2 r4 H Q) :=
  Ev_eq.trans (by kernel_rfl)
/-! ### 46 haruspex/haruspexref19.PutItems -/
def f46_l8 (x0 : AV) (x3 : AV) (x4 : AV) (H : Heap) (Q : Post) : Prop := AtF Pg Hs 46 [1, 1, 0, 1, 0] Q [(0, .val x0), (3, .val x3), (4, .val x4)] H
def f46_j23 (x0 : AV) (x3 : AV) (x4 : AV) (H : Heap) (Q : Post) : Prop := AtJ Pg Hs 46 [1, 1, 0, 1, 0, 0, 1, 0, 0, 1] Q [(0, .val x0), (3, .val x3), (4, .val x4)] H
def f46_j42 (x0 : AV) (x3 : AV) (x4 : AV) (x5 : List AV) (H : Heap) (Q : Post) : Prop := AtJ Pg Hs 46 [1, 1, 0, 1, 0, 0, 1, 0, 0, 1, 1, 1] Q [(0, .val x0), (3, .val x3), (4, .val x4), (5, .lbox x5)] H
theorem f46_l8_eq (x0 : AV) (x3 : AV) (x4 : AV) (H : Heap) (Q : Post) : f46_l8 x0 x3 x4 H Q =
 ob (lenA x0) fun r1 =>
 ob (binA Pg .lss 3 false x4 r1) fun r2 =>
 cndA r2
 (ob (binA Pg .gtr 3 true x4 (I 0)) fun r3 =>
 cndA r3
 (ob (binA Pg .add 9 true x3 (S ⟨#[44, 32]⟩)) fun r4 =>
 f46_j23 x0 r4 x4 H Q)
 (f46_j23 x0 x3 x4 H Q))
 (Q x3 H) :=
  (AtF_eq Pg Hs 46 [1, 1, 0, 1, 0] Q _ H).trans (by kernel_rfl)
theorem f46_j23_eq (x0 : AV) (x3 : AV) (x4 : AV) (H : Heap) (Q : Post) : f46_j23 x0 x3 x4 H Q =
 ob (ixaA 4 x0 x4) fun c5 =>
 ob (partA true 0 4 c5) fun r6 =>
 ob (sizedA 4 r6) fun b7 =>
 ob (spliceA 0 b7 [(S ⟨#[]⟩), (I 0), (S ⟨#[]⟩), (S ⟨#[]⟩)]) fun b8 =>
 ob (partA false 1 1 b8) fun r9 =>
 ob (binA Pg .eql 3 true r9 (I 1)) fun r10 =>
 cndA r10
 (ob (binA Pg .add 9 true x3 (S ⟨#[70, 73, 82, 83, 84, 40]⟩)) fun r11 =>
 ob (partA false 2 1 b8) fun r12 =>
 ob (binA Pg .add 9 false r11 r12) fun r13 =>
 ob (binA Pg .add 9 true r13 (S ⟨#[46]⟩)) fun r14 =>
 ob (partA false 3 1 b8) fun r15 =>
 ob (binA Pg .add 9 false r14 r15) fun r16 =>
 f46_j42 x0 r16 x4 b8 H Q)
 (ob (binA Pg .eql 3 true r9 (I 2)) fun r17 =>
 cndA r17
 (ob (binA Pg .add 9 true x3 (S ⟨#[76, 65, 83, 84, 40]⟩)) fun r18 =>
 ob (partA false 2 1 b8) fun r19 =>
 ob (binA Pg .add 9 false r18 r19) fun r20 =>
 ob (binA Pg .add 9 true r20 (S ⟨#[46]⟩)) fun r21 =>
 ob (partA false 3 1 b8) fun r22 =>
 ob (binA Pg .add 9 false r21 r22) fun r23 =>
 f46_j42 x0 r23 x4 b8 H Q)
 (ob (binA Pg .eql 3 true r9 (I 4)) fun r24 =>
 cndA r24
 (ob (binA Pg .add 9 true x3 (S ⟨#[83, 85, 77, 40]⟩)) fun r25 =>
 ob (partA false 2 1 b8) fun r26 =>
 ob (binA Pg .add 9 false r25 r26) fun r27 =>
 ob (binA Pg .add 9 true r27 (S ⟨#[46]⟩)) fun r28 =>
 ob (partA false 3 1 b8) fun r29 =>
 ob (binA Pg .add 9 false r28 r29) fun r30 =>
 f46_j42 x0 r30 x4 b8 H Q)
 (ob (binA Pg .add 9 true x3 (S ⟨#[67, 79, 85, 78, 84, 40]⟩)) fun r31 =>
 ob (partA false 2 1 b8) fun r32 =>
 ob (binA Pg .add 9 false r31 r32) fun r33 =>
 f46_j42 x0 r33 x4 b8 H Q))) :=
  (AtJ_eq Pg Hs 46 [1, 1, 0, 1, 0, 0, 1, 0, 0, 1] Q _ H).trans (by kernel_rfl)
theorem f46_j42_eq (x0 : AV) (x3 : AV) (x4 : AV) (x5 : List AV) (H : Heap) (Q : Post) : f46_j42 x0 x3 x4 x5 H Q =
 ob (binA Pg .add 9 true x3 (S ⟨#[41, 32, 65, 83, 32]⟩)) fun r34 =>
 ob (partA false 0 1 x5) fun r35 =>
 ob (binA Pg .add 9 false r34 r35) fun r36 =>
 ob (binA Pg .add 3 true x4 (I 1)) fun r37 =>
 f46_l8 x0 r36 r37 H Q :=
  (AtJ_eq Pg Hs 46 [1, 1, 0, 1, 0, 0, 1, 0, 0, 1, 1, 1] Q _ H).trans (by kernel_rfl)
theorem f46_eq (a0 : AV) (H : Heap) (Q : Post) : E 46 [a0] H Q =
 f46_l8 a0 (S ⟨#[]⟩) (I 0) H Q :=
  Ev_eq.trans (by kernel_rfl)
/-! ### 47 haruspex/haruspexref19.Has -/
def f47_l14 (x1 : AV) (x2 : List AV) (x5 : AV) (H : Heap) (Q : Post) : Prop := AtF Pg Hs 47 [1, 1, 0, 1, 0] Q [(1, .val x1), (2, .lbox x2), (5, .val x5)] H
theorem f47_l14_eq (x1 : AV) (x2 : List AV) (x5 : AV) (H : Heap) (Q : Post) : f47_l14 x1 x2 x5 H Q =
 ob (partA false 5 1 x2) fun r4 =>
 ob (lenA r4) fun r5 =>
 ob (binA Pg .lss 3 false x5 r5) fun r6 =>
 cndA r6
 (ob (partA false 5 1 x2) fun r7 =>
 ob (ixaA 6 r7 x5) fun c8 =>
 ob (partA true 0 6 c8) fun r9 =>
 E 47 [r9, x1] H fun r10 H11 =>
 cndA r10
 (Q (B true) H11)
 (ob (binA Pg .add 3 true x5 (I 1)) fun r12 =>
 f47_l14 x1 x2 r12 H11 Q))
 (Q (B false) H) :=
  (AtF_eq Pg Hs 47 [1, 1, 0, 1, 0] Q _ H).trans (by kernel_rfl)
theorem f47_eq (a0 a1 : AV) (H : Heap) (Q : Post) : E 47 [a0, a1] H Q =
 ob (sizedA 6 a0) fun b1 =>
 ob (partA false 0 1 b1) fun r2 =>
 ob (binA Pg .eql 3 false r2 a1) fun r3 =>
 cndA r3
 (Q (B true) H)
 (f47_l14 a1 b1 (I 0) H Q) :=
  Ev_eq.trans (by kernel_rfl)
/-! ### 48 haruspex/mr.plain -/
def f48_j4 (x2 : AV) (H : Heap) (Q : Post) : Prop := AtJ Pg Hs 48 [1, 1] Q [(2, .val x2)] H
theorem f48_j4_eq (x2 : AV) (H : Heap) (Q : Post) : f48_j4 x2 H Q =
 Q x2 H :=
  (AtJ_eq Pg Hs 48 [1, 1] Q _ H).trans (by kernel_rfl)
theorem f48_eq (a0 : AV) (H : Heap) (Q : Post) : E 48 [a0] H Q =
 ob (sizedA 11 a0) fun b1 =>
 ob (partA true 0 6 b1) fun r2 =>
 E 76 [r2] H fun r3 H4 =>
 ob (unA .not r3) fun r5 =>
 cndA r5
 (ob (partA false 8 1 b1) fun r6 =>
 ob (binA Pg .neq 3 true r6 (I 0)) fun r7 =>
 f48_j4 r7 H4 Q)
 (f48_j4 (B false) H4 Q) :=
  Ev_eq.trans (by kernel_rfl)
/-! ### 49 (*haruspex/mr.printer).pattern -/
def f49_j26 (x0 : AV) (x2 : AV) (x4 : List AV) (H : Heap) (Q : Post) : Prop := AtJ Pg Hs 49 [1, 1, 0, 1, 1, 1, 1, 1, 0, 1] Q [(0, .val x0), (2, .val x2), (4, .lbox x4)] H
theorem f49_j26_eq (x0 : AV) (x2 : AV) (x4 : List AV) (H : Heap) (Q : Post) : f49_j26 x0 x2 x4 H Q =
 ob (partA false 5 1 x4) fun r38 =>
 E 77 [x0, r38, (S ⟨#[32, 124, 32]⟩), (B false)] H fun r39 H40 =>
 cndA x2
 (ob (nilA x0) fun r41 =>
 ob (addPA r41 0) fun r42 =>
 ob (mkSlA 1 [(S ⟨#[41]⟩)]) fun r43 =>
 E 32 [r42, r43] H40 fun r44 H45 =>
 Q (AV.tup []) H45)
 (Q (AV.tup []) H40) :=
  (AtJ_eq Pg Hs 49 [1, 1, 0, 1, 1, 1, 1, 1, 0, 1] Q _ H).trans (by kernel_rfl)
theorem f49_eq (a0 a1 a2 : AV) (H : Heap) (Q : Post) : E 49 [a0, a1, a2] H Q =
 ob (sizedA 6 a1) fun b1 =>
 ob (partA false 0 1 b1) fun r2 =>
 ob (binA Pg .eql 3 true r2 (I 2)) fun r3 =>
 cndA r3
 (ob (partA false 5 1 b1) fun r4 =>
 E 77 [a0, r4, (S ⟨#[32]⟩), (B true)] H fun r5 H6 =>
 Q (AV.tup []) H6)
 (ob (binA Pg .eql 3 true r2 (I 3)) fun r7 =>
 cndA r7
 (ob (nilA a0) fun r8 =>
 ob (addPA r8 0) fun r9 =>
 ob (mkSlA 1 [(S ⟨#[80, 69, 82, 77, 85, 84, 69, 40]⟩)]) fun r10 =>
 E 32 [r9, r10] H fun r11 H12 =>
 ob (partA false 5 1 b1) fun r13 =>
 E 77 [a0, r13, (S ⟨#[44, 32]⟩), (B false)] H12 fun r14 H15 =>
 ob (nilA a0) fun r16 =>
 ob (addPA r16 0) fun r17 =>
 ob (mkSlA 1 [(S ⟨#[41]⟩)]) fun r18 =>
 E 32 [r17, r18] H15 fun r19 H20 =>
 Q (AV.tup []) H20)
 (ob (binA Pg .eql 3 true r2 (I 4)) fun r21 =>
 cndA r21
 (cndA a2
 (ob (nilA a0) fun r22 =>
 ob (addPA r22 0) fun r23 =>
 ob (mkSlA 1 [(S ⟨#[40]⟩)]) fun r24 =>
 E 32 [r23, r24] H fun r25 H26 =>
 f49_j26 a0 a2 b1 H26 Q)
 (f49_j26 a0 a2 b1 H Q))
 (ob (nilA a0) fun r27 =>
 ob (addPA r27 0) fun r28 =>
 ob (partA false 1 1 b1) fun r29 =>
 ob (mkSlA 1 [r29]) fun r30 =>
 E 32 [r28, r30] H fun r31 H32 =>
 ob (nilA a0) fun r33 =>
 ob (addPA r33 0) fun r34 =>
 ob (partA true 0 6 b1) fun r35 =>
 E 73 [r34, r35, (B true)] H32 fun r36 H37 =>
 Q (AV.tup []) H37))) :=
  Ev_eq.trans (by kernel_rfl)
/-! ### 50 (*haruspex/mr.printer).defines -/
def f50_l7 (x0 : AV) (x4 : AV) (x5 : AV) (x15 : AV) (x16 : AV) (H : Heap) (Q : Post) : Prop := AtF Pg Hs 50 [1, 1, 1, 0] Q [(0, .val x0), (4, .val x4), (5, .val x5), (15, .val x15), (16, .val x16)] H
def f50_j24 (x0 : AV) (x4 : AV) (x5 : AV) (x7 : AV) (x15 : AV) (x16 : AV) (H : Heap) (Q : Post) : Prop := AtJ Pg Hs 50 [1, 1, 1, 0, 0, 1, 1, 0, 0, 1, 1] Q [(0, .val x0), (4, .val x4), (5, .val x5), (7, .val x7), (15, .val x15), (16, .val x16)] H
theorem f50_l7_eq (x0 : AV) (x4 : AV) (x5 : AV) (x15 : AV) (x16 : AV) (H : Heap) (Q : Post) : f50_l7 x0 x4 x5 x15 x16 H Q =
 ob (binA Pg .lss 3 false x16 x15) fun r9 =>
 cndA r9
 (ob (binA Pg .gtr 3 true x16 (I 0)) fun r10 =>
 cndA r10
 (ob (nilA x0) fun r11 =>
 ob (addPA r11 0) fun r12 =>
 ob (mkSlA 1 [(S ⟨#[44, 32]⟩)]) fun r13 =>
 E 32 [r12, r13] H fun r14 H15 =>
 f50_j24 x0 x4 x5 x16 x15 x16 H15 Q)
 (f50_j24 x0 x4 x5 x16 x15 x16 H Q))
 (Q (AV.tup []) H) :=
  (AtF_eq Pg Hs 50 [1, 1, 1, 0] Q _ H).trans (by kernel_rfl)
theorem f50_j24_eq (x0 : AV) (x4 : AV) (x5 : AV) (x7 : AV) (x15 : AV) (x16 : AV) (H : Heap) (Q : Post) : f50_j24 x0 x4 x5 x7 x15 x16 H Q =
 ob (nilA x0) fun r16 =>
 ob (addPA r16 0) fun r17 =>
 ob (ixaA 1 x4 x7) fun c18 =>
 ob (partA false 0 1 c18) fun r19 =>
 ob (ixaA 1 x5 x7) fun c20 =>
 ob (partA false 0 1 c20) fun r21 =>
 ob (mkSlA 1 [r19, (S ⟨#[32, 65, 83, 32]⟩), r21]) fun r22 =>
 E 32 [r17, r22] H fun r23 H24 =>
 ob (binA Pg .add 3 true x16 (I 1)) fun r25 =>
 f50_l7 x0 x4 x5 x15 r25 H24 Q :=
  (AtJ_eq Pg Hs 50 [1, 1, 1, 0, 0, 1, 1, 0, 0, 1, 1] Q _ H).trans (by kernel_rfl)
theorem f50_eq (a0 a1 : AV) (H : Heap) (Q : Post) : E 50 [a0, a1] H Q =
 ob (sizedA 6 a1) fun b1 =>
 ob (partA true 0 6 b1) fun r2 =>
 E 78 [r2] H fun r3 H4 =>
 ob (extractA r3 0) fun r5 =>
 ob (extractA r3 1) fun r6 =>
 ob (extractA r3 2) fun r7 =>
 ob (lenA r5) fun r8 =>
 f50_l7 a0 r5 r6 r8 (I 0) H4 Q :=
  Ev_eq.trans (by kernel_rfl)
/-! ### 51 haruspex/haruspexref21.put -/
def f51_l8 (x1 : AV) (x2 : List AV) (x5 : AV) (x6 : AV) (H : Heap) (Q : Post) : Prop := AtF Pg Hs 51 [1, 1, 0, 1, 0] Q [(1, .val x1), (2, .lbox x2), (5, .val x5), (6, .val x6)] H
def f51_j20 (x1 : AV) (x2 : List AV) (x5 : AV) (x6 : AV) (x20 : AV) (H : Heap) (Q : Post) : Prop := AtJ Pg Hs 51 [1, 1, 0, 1, 0, 0, 1, 0, 0, 0, 1] Q [(1, .val x1), (2, .lbox x2), (5, .val x5), (6, .val x6), (20, .val x20)] H
def f51_j47 (x2 : List AV) (x5 : AV) (x59 : AV) (H : Heap) (Q : Post) : Prop := AtJ Pg Hs 51 [1, 1, 1, 0, 0, 1, 1, 1] Q [(2, .lbox x2), (5, .val x5), (59, .val x59)] H
def f51_j26 (x1 : AV) (x2 : List AV) (x5 : AV) (x6 : AV) (x29 : AV) (H : Heap) (Q : Post) : Prop := AtJ Pg Hs 51 [1, 1, 0, 1, 0, 0, 1, 0, 0, 1, 0, 1] Q [(1, .val x1), (2, .lbox x2), (5, .val x5), (6, .val x6), (29, .val x29)] H
def f51_j53 (x2 : List AV) (x5 : AV) (x69 : AV) (H : Heap) (Q : Post) : Prop := AtJ Pg Hs 51 [1, 1, 1, 0, 0, 1, 1, 1, 1, 1] Q [(2, .lbox x2), (5, .val x5), (69, .val x69)] H
def f51_j32 (x1 : AV) (x2 : List AV) (x5 : AV) (x6 : AV) (x38 : AV) (H : Heap) (Q : Post) : Prop := AtJ Pg Hs 51 [1, 1, 0, 1, 0, 0, 1, 0, 0, 1, 1, 0, 1] Q [(1, .val x1), (2, .lbox x2), (5, .val x5), (6, .val x6), (38, .val x38)] H
theorem f51_l8_eq (x1 : AV) (x2 : List AV) (x5 : AV) (x6 : AV) (H : Heap) (Q : Post) : f51_l8 x1 x2 x5 x6 H Q =
 ob (partA false 5 1 x2) fun r2 =>
 ob (lenA r2) fun r3 =>
 ob (binA Pg .lss 3 false x6 r3) fun r4 =>
 cndA r4
 (ob (binA Pg .gtr 3 true x6 (I 0)) fun r5 =>
 cndA r5
 (ob (partA false 0 1 x2) fun r6 =>
 ob (binA Pg .eql 3 true r6 (I 2)) fun r7 =>
 f51_j20 x1 x2 x5 x6 r7 H Q)
 (f51_j20 x1 x2 x5 x6 (B false) H Q))
 (ob (partA false 0 1 x2) fun r8 =>
 ob (binA Pg .eql 3 true r8 (I 3)) fun r9 =>
 cndA r9
 (ob (binA Pg .add 9 true (S ⟨#[80, 69, 82, 77, 85, 84, 69, 40]⟩) x5) fun r10 =>
 ob (binA Pg .add 9 true r10 (S ⟨#[41]⟩)) fun r11 =>
 Q r11 H)
 (ob (partA false 0 1 x2) fun r12 =>
 ob (binA Pg .eql 3 true r12 (I 4)) fun r13 =>
 cndA r13
 (f51_j47 x2 x5 x1 H Q)
 (f51_j47 x2 x5 (B false) H Q))) :=
  (AtF_eq Pg Hs 51 [1, 1, 0, 1, 0] Q _ H).trans (by kernel_rfl)
theorem f51_j20_eq (x1 : AV) (x2 : List AV) (x5 : AV) (x6 : AV) (x20 : AV) (H : Heap) (Q : Post) : f51_j20 x1 x2 x5 x6 x20 H Q =
 cndA x20
 (ob (binA Pg .add 9 true x5 (S ⟨#[32]⟩)) fun r14 =>
 ob (binA Pg .gtr 3 true x6 (I 0)) fun r15 =>
 cndA r15
 (ob (partA false 0 1 x2) fun r16 =>
 ob (binA Pg .eql 3 true r16 (I 4)) fun r17 =>
 f51_j26 x1 x2 r14 x6 r17 H Q)
 (f51_j26 x1 x2 r14 x6 (B false) H Q))
 (ob (binA Pg .gtr 3 true x6 (I 0)) fun r18 =>
 cndA r18
 (ob (partA false 0 1 x2) fun r19 =>
 ob (binA Pg .eql 3 true r19 (I 4)) fun r20 =>
 f51_j26 x1 x2 x5 x6 r20 H Q)
 (f51_j26 x1 x2 x5 x6 (B false) H Q)) :=
  (AtJ_eq Pg Hs 51 [1, 1, 0, 1, 0, 0, 1, 0, 0, 0, 1] Q _ H).trans (by kernel_rfl)
theorem f51_j47_eq (x2 : List AV) (x5 : AV) (x59 : AV) (H : Heap) (Q : Post) : f51_j47 x2 x5 x59 H Q =
 cndA x59
 (ob (binA Pg .add 9 true (S ⟨#[40]⟩) x5) fun r21 =>
 ob (binA Pg .add 9 true r21 (S ⟨#[41]⟩)) fun r22 =>
 Q r22 H)
 (ob (partA false 0 1 x2) fun r23 =>
 ob (binA Pg .eql 3 true r23 (I 4)) fun r24 =>
 cndA r24
 (f51_j53 x2 x5 (B true) H Q)
 (ob (partA false 0 1 x2) fun r25 =>
 ob (binA Pg .eql 3 true r25 (I 2)) fun r26 =>
 f51_j53 x2 x5 r26 H Q)) :=
  (AtJ_eq Pg Hs 51 [1, 1, 1, 0, 0, 1, 1, 1] Q _ H).trans (by kernel_rfl)
theorem f51_j26_eq (x1 : AV) (x2 : List AV) (x5 : AV) (x6 : AV) (x29 : AV) (H : Heap) (Q : Post) : f51_j26 x1 x2 x5 x6 x29 H Q =
 cndA x29
 (ob (binA Pg .add 9 true x5 (S ⟨#[32, 124, 32]⟩)) fun r27 =>
 ob (binA Pg .gtr 3 true x6 (I 0)) fun r28 =>
 cndA r28
 (ob (partA false 0 1 x2) fun r29 =>
 ob (binA Pg .eql 3 true r29 (I 3)) fun r30 =>
 f51_j32 x1 x2 r27 x6 r30 H Q)
 (f51_j32 x1 x2 r27 x6 (B false) H Q))
 (ob (binA Pg .gtr 3 true x6 (I 0)) fun r31 =>
 cndA r31
 (ob (partA false 0 1 x2) fun r32 =>
 ob (binA Pg .eql 3 true r32 (I 3)) fun r33 =>
 f51_j32 x1 x2 x5 x6 r33 H Q)
 (f51_j32 x1 x2 x5 x6 (B false) H Q)) :=
  (AtJ_eq Pg Hs 51 [1, 1, 0, 1, 0, 0, 1, 0, 0, 1, 0, 1] Q _ H).trans (by kernel_rfl)
theorem f51_j53_eq (x2 : List AV) (x5 : AV) (x69 : AV) (H : Heap) (Q : Post) : f51_j53 x2 x5 x69 H Q =
 cndA x69
 (Q x5 H)
 (ob (partA false 1 1 x2) fun r34 =>
 ob (partA true 0 6 x2) fun r35 =>
 E 75 [r35, (B true)] H fun r36 H37 =>
 ob (binA Pg .add 9 false r34 r36) fun r38 =>
 Q r38 H37) :=
  (AtJ_eq Pg Hs 51 [1, 1, 1, 0, 0, 1, 1, 1, 1, 1] Q _ H).trans (by kernel_rfl)
theorem f51_j32_eq (x1 : AV) (x2 : List AV) (x5 : AV) (x6 : AV) (x38 : AV) (H : Heap) (Q : Post) : f51_j32 x1 x2 x5 x6 x38 H Q =
 cndA x38
 (ob (binA Pg .add 9 true x5 (S ⟨#[44, 32]⟩)) fun r39 =>
 ob (partA false 5 1 x2) fun r40 =>
 ob (ixaA 6 r40 x6) fun c41 =>
 ob (partA true 0 6 c41) fun r42 =>
 ob (partA false 0 1 x2) fun r43 =>
 ob (binA Pg .eql 3 true r43 (I 2)) fun r44 =>
 E 51 [r42, r44] H fun r45 H46 =>
 ob (binA Pg .add 9 false r39 r45) fun r47 =>
 ob (binA Pg .add 3 true x6 (I 1)) fun r48 =>
 f51_l8 x1 x2 r47 r48 H46 Q)
 (ob (partA false 5 1 x2) fun r49 =>
 ob (ixaA 6 r49 x6) fun c50 =>
 ob (partA true 0 6 c50) fun r51 =>
 ob (partA false 0 1 x2) fun r52 =>
 ob (binA Pg .eql 3 true r52 (I 2)) fun r53 =>
 E 51 [r51, r53] H fun r54 H55 =>
 ob (binA Pg .add 9 false x5 r54) fun r56 =>
 ob (binA Pg .add 3 true x6 (I 1)) fun r57 =>
 f51_l8 x1 x2 r56 r57 H55 Q) :=
  (AtJ_eq Pg Hs 51 [1, 1, 0, 1, 0, 0, 1, 0, 0, 1, 1, 0, 1] Q _ H).trans (by kernel_rfl)
theorem f51_eq (a0 a1 : AV) (H : Heap) (Q : Post) : E 51 [a0, a1] H Q =
 ob (sizedA 6 a0) fun b1 =>
 f51_l8 a1 b1 (S ⟨#[]⟩) (I 0) H Q :=
  Ev_eq.trans (by kernel_rfl)
/-! ### 52 haruspex/haruspexref12.Vars -/
def f52_l14 (x5 : AV) (x6 : AV) (x7 : AV) (x8 : AV) (x9 : AV) (H : Heap) (Q : Post) : Prop := AtF Pg Hs 52 [1, 1, 1, 1, 1, 0, 1, 0] Q [(5, .val x5), (6, .val x6), (7, .val x7), (8, .val x8), (9, .val x9)] H
def f52_l29 (x5 : AV) (x6 : AV) (x7 : AV) (x8 : AV) (x9 : AV) (x10 : AV) (x11 : AV) (H : Heap) (Q : Post) : Prop := AtF Pg Hs 52 [1, 1, 1, 1, 1, 0, 1, 0, 0, 1, 0, 0, 1, 0, 1, 0] Q [(5, .val x5), (6, .val x6), (7, .val x7), (8, .val x8), (9, .val x9), (10, .val x10), (11, .val x11)] H
def f52_j39 (x5 : AV) (x6 : AV) (x7 : AV) (x8 : AV) (x9 : AV) (x10 : AV) (x11 : AV) (H : Heap) (Q : Post) : Prop := AtJ Pg Hs 52 [1, 1, 1, 1, 1, 0, 1, 0, 0, 1, 0, 0, 1, 0, 1, 0, 0, 1, 1] Q [(5, .val x5), (6, .val x6), (7, .val x7), (8, .val x8), (9, .val x9), (10, .val x10), (11, .val x11)] H
theorem f52_l14_eq (x5 : AV) (x6 : AV) (x7 : AV) (x8 : AV) (x9 : AV) (H : Heap) (Q : Post) : f52_l14 x5 x6 x7 x8 x9 H Q =
 ob (lenA x8) fun r5 =>
 ob (binA Pg .lss 3 false x9 r5) fun r6 =>
 cndA r6
 (f52_l29 x5 x6 x7 x8 x9 (B false) (I 0) H Q)
 (Q (AV.tup [x5, x6, x7]) H) :=
  (AtF_eq Pg Hs 52 [1, 1, 1, 1, 1, 0, 1, 0] Q _ H).trans (by kernel_rfl)
theorem f52_l29_eq (x5 : AV) (x6 : AV) (x7 : AV) (x8 : AV) (x9 : AV) (x10 : AV) (x11 : AV) (H : Heap) (Q : Post) : f52_l29 x5 x6 x7 x8 x9 x10 x11 H Q =
 ob (lenA x5) fun r7 =>
 ob (binA Pg .lss 3 false x11 r7) fun r8 =>
 cndA r8
 (cndA x10
 (f52_j39 x5 x6 x7 x8 x9 (B true) x11 H Q)
 (ob (ixaA 1 x5 x11) fun c9 =>
 ob (partA false 0 1 c9) fun r10 =>
 ob (ixaA 3 x8 x9) fun c11 =>
 ob (partA false 0 1 (c11.drop 0)) fun r12 =>
 ob (binA Pg .eql 9 false r10 r12) fun r13 =>
 f52_j39 x5 x6 x7 x8 x9 r13 x11 H Q))
 (ob (unA .not x10) fun r14 =>
 cndA r14
 (ob (ixaA 3 x8 x9) fun c15 =>
 ob (partA false 0 1 (c15.drop 0)) fun r16 =>
 ob (mkSlA 1 [r16]) fun r17 =>
 appA 1 16 x5 r17 H fun r18 H19 =>
 ob (ixaA 3 x8 x9) fun c20 =>
 ob (partA false 0 1 (c20.drop 1)) fun r21 =>
 ob (mkSlA 1 [r21]) fun r22 =>
 appA 1 16 x6 r22 H19 fun r23 H24 =>
 ob (ixaA 3 x8 x9) fun c25 =>
 ob (partA false 0 1 (c25.drop 2)) fun r26 =>
 ob (mkSlA 1 [r26]) fun r27 =>
 appA 1 8 x7 r27 H24 fun r28 H29 =>
 ob (binA Pg .add 3 true x9 (I 1)) fun r30 =>
 f52_l14 r18 r23 r28 x8 r30 H29 Q)
 (ob (binA Pg .add 3 true x9 (I 1)) fun r31 =>
 f52_l14 x5 x6 x7 x8 r31 H Q)) :=
  (AtF_eq Pg Hs 52 [1, 1, 1, 1, 1, 0, 1, 0, 0, 1, 0, 0, 1, 0, 1, 0] Q _ H).trans (by kernel_rfl)
theorem f52_j39_eq (x5 : AV) (x6 : AV) (x7 : AV) (x8 : AV) (x9 : AV) (x10 : AV) (x11 : AV) (H : Heap) (Q : Post) : f52_j39 x5 x6 x7 x8 x9 x10 x11 H Q =
 ob (binA Pg .add 3 true x11 (I 1)) fun r32 =>
 f52_l29 x5 x6 x7 x8 x9 x10 r32 H Q :=
  (AtJ_eq Pg Hs 52 [1, 1, 1, 1, 1, 0, 1, 0, 0, 1, 0, 0, 1, 0, 1, 0, 0, 1, 1] Q _ H).trans (by kernel_rfl)
theorem f52_eq (a0 : AV) (H : Heap) (Q : Post) : E 52 [a0] H Q =
 ob (sizedA 6 a0) fun b1 =>
 ob (partA true 0 6 b1) fun r2 =>
 E 79 [r2] H fun r3 H4 =>
 f52_l14 (AV.sl 0 true .full []) (AV.sl 0 true .full []) (AV.sl 0 true .full []) r3 (I 0) H4 Q :=
  Ev_eq.trans (by kernel_rfl)
/-! ### 53 haruspex/haruspexref21.atoms -/
def f53_l6 (x1 : List AV) (x3 : AV) (H : Heap) (Q : Post) : Prop := AtF Pg Hs 53 [1, 0, 1, 0] Q [(1, .lbox x1), (3, .val x3)] H
def f53_j17 (x1 : List AV) (x3 : AV) (x31 : AV) (H : Heap) (Q : Post) : Prop := AtJ Pg Hs 53 [1, 0, 1, 0, 0, 1, 0, 0, 1] Q [(1, .lbox x1), (3, .val x3), (31, .val x31)] H
theorem f53_l6_eq (x1 : List AV) (x3 : AV) (H : Heap) (Q : Post) : f53_l6 x1 x3 H Q =
 ob (partA false 5 1 x1) fun r2 =>
 ob (lenA r2) fun r3 =>
 ob (binA Pg .lss 3 false x3 r3) fun r4 =>
 cndA r4
 (ob (partA false 0 1 x1) fun r5 =>
 ob (binA Pg .eql 3 true r5 (I 3)) fun r6 =>
 cndA r6
 (ob (partA false 5 1 x1) fun r7 =>
 ob (ixaA 6 r7 x3) fun c8 =>
 ob (partA false 0 1 (c8.drop 0)) fun r9 =>
 ob (binA Pg .neq 3 true r9 (I 1)) fun r10 =>
 cndA r10
 (f53_j17 x1 x3 (B true) H Q)
 (ob (partA false 5 1 x1) fun r11 =>
 ob (ixaA 6 r11 x3) fun c12 =>
 ob (partA true 0 6 c12) fun r13 =>
 E 53 [r13] H fun r14 H15 =>
 ob (unA .not r14) fun r16 =>
 f53_j17 x1 x3 r16 H15 Q))
 (ob (partA false 5 1 x1) fun r17 =>
 ob (ixaA 6 r17 x3) fun c18 =>
 ob (partA true 0 6 c18) fun r19 =>
 E 53 [r19] H fun r20 H21 =>
 ob (unA .not r20) fun r22 =>
 f53_j17 x1 x3 r22 H21 Q))
 (Q (B true) H) :=
  (AtF_eq Pg Hs 53 [1, 0, 1, 0] Q _ H).trans (by kernel_rfl)
theorem f53_j17_eq (x1 : List AV) (x3 : AV) (x31 : AV) (H : Heap) (Q : Post) : f53_j17 x1 x3 x31 H Q =
 cndA x31
 (Q (B false) H)
 (ob (binA Pg .add 3 true x3 (I 1)) fun r23 =>
 f53_l6 x1 r23 H Q) :=
  (AtJ_eq Pg Hs 53 [1, 0, 1, 0, 0, 1, 0, 0, 1] Q _ H).trans (by kernel_rfl)
theorem f53_eq (a0 : AV) (H : Heap) (Q : Post) : E 53 [a0] H Q =
 ob (sizedA 6 a0) fun b1 =>
 f53_l6 b1 (I 0) H Q :=
  Ev_eq.trans (by kernel_rfl)
/-! ### 54 haruspex/cond.Text -/
theorem f54_eq (a0 : AV) (H : Heap) (Q : Post) : E 54 [a0] H Q =
 E 80 [a0] H fun r1 H2 =>
 ob (extractA r1 0) fun r3 =>
 ob (extractA r1 1) fun r4 =>
 ob (extractA r1 2) fun r5 =>
 ob (binA Pg .neq 31 true r5 (I 0)) fun r6 =>
 cndA r6
 (ob (bldA [] [(I 0), (I 0), (I 0), (S ⟨#[]⟩), (S ⟨#[]⟩), (S ⟨#[]⟩), (AV.sl 0 true .full [])]) fun r7 =>
 ob (sizedA 7 r7) fun b8 =>
 ob (spliceA 0 b8 [(I 0), (I 0), (I 0), (S ⟨#[]⟩), (S ⟨#[]⟩), (S ⟨#[]⟩), (AV.sl 0 true .full [])]) fun b9 =>
 ob (partA true 0 7 b9) fun r10 =>
 Q (AV.tup [r10, r4, r5]) H2)
 (E 81 [r3] H2 fun r11 H12 =>
 ob (extractA r11 0) fun r13 =>
 ob (extractA r11 1) fun r14 =>
 ob (extractA r11 2) fun r15 =>
 ob (sizedA 7 r13) fun b16 =>
 ob (spliceA 0 b16 [(I 0), (I 0), (I 0), (S ⟨#[]⟩), (S ⟨#[]⟩), (S ⟨#[]⟩), (AV.sl 0 true .full [])]) fun b17 =>
 ob (binA Pg .neq 31 true r15 (I 0)) fun r18 =>
 cndA r18
 (ob (bldA [] [(I 0), (I 0), (I 0), (S ⟨#[]⟩), (S ⟨#[]⟩), (S ⟨#[]⟩), (AV.sl 0 true .full [])]) fun r19 =>
 ob (sizedA 7 r19) fun b20 =>
 ob (spliceA 0 b20 [(I 0), (I 0), (I 0), (S ⟨#[]⟩), (S ⟨#[]⟩), (S ⟨#[]⟩), (AV.sl 0 true .full [])]) fun b21 =>
 ob (partA true 0 7 b21) fun r22 =>
 Q (AV.tup [r22, r14, r15]) H12)
 (E 82 [r3] H12 fun r23 H24 =>
 fldK false 0 1 r23 fun r25 =>
 ob (binA Pg .neq 3 true r25 (I 6)) fun r26 =>
 cndA r26
 (ob (bldA [] [(I 0), (I 0), (I 0), (S ⟨#[]⟩), (S ⟨#[]⟩), (S ⟨#[]⟩), (AV.sl 0 true .full [])]) fun r27 =>
 E 83 [r3] H24 fun r28 H29 =>
 ob (sizedA 7 r27) fun b30 =>
 ob (spliceA 0 b30 [(I 0), (I 0), (I 0), (S ⟨#[]⟩), (S ⟨#[]⟩), (S ⟨#[]⟩), (AV.sl 0 true .full [])]) fun b31 =>
 ob (partA true 0 7 b31) fun r32 =>
 Q (AV.tup [r32, r28, (I 4)]) H29)
 (ob (partA true 0 7 b17) fun r33 =>
 ob (lenSA a0) fun r34 =>
 ob (sizedA 7 r33) fun b35 =>
 ob (spliceA 0 b35 [(I 0), (I 0), (I 0), (S ⟨#[]⟩), (S ⟨#[]⟩), (S ⟨#[]⟩), (AV.sl 0 true .full [])]) fun b36 =>
 ob (partA true 0 7 b36) fun r37 =>
 Q (AV.tup [r37, r34, (I 0)]) H24))) :=
  Ev_eq.trans (by kernel_rfl)
/-! ### 55 haruspex/expr.Check -/
noncomputable def f55_L8 (y3 : AV) (y4 : AV) : LoopInfo := loopF Pg Hs 55 [1, 1, 0, 1, 0] 8 [(3, .val y3), (4, .val y4)]
def f55_j14 (x3 : AV) (x4 : AV) (H : Heap) (Q : Post) : Prop := AtJ Pg Hs 55 [1, 1, 1] Q [(3, .val x3), (4, .val x4)] H
theorem f55_j14_eq (x3 : AV) (x4 : AV) (H : Heap) (Q : Post) : f55_j14 x3 x4 H Q =
 ob (ldH H false 1 x3) fun r16 =>
 ob (binA Pg .gtr 3 true r16 (I 100)) fun r17 =>
 cndA r17
 (Q (I 2) H)
 (ob (ldH H false 1 x4) fun r18 =>
 ob (unA .not r18) fun r19 =>
 cndA r19
 (Q (I 1) H)
 (Q (I 0) H)) :=
  (AtJ_eq Pg Hs 55 [1, 1, 1] Q _ H).trans (by kernel_rfl)
theorem f55_y8_eq (y3 : AV) (y4 : AV) (l : Nat) (a0 a1 : AV) (H : Heap) (Q : Post) : EY Pg Hs (f55_L8 y3 y4) l [a0, a1] H Q =
 ob (sizedA 7 a1) fun b20 =>
 ob (spliceA 0 b20 [(I 0), (I 0), (I 0), (S ⟨#[]⟩), (S ⟨#[]⟩), (S ⟨#[]⟩), (AV.sl 0 true .full [])]) fun b21 =>
 beginA l H fun H22 =>
 ob (ldH H22 false 1 y3) fun r23 =>
 ob (binA Pg .add 3 true r23 (I 1)) fun r24 =>
 ob (stH H22 1 y3 r24) fun H25 =>
 ob (ldH H25 false 1 y4) fun r26 =>
 cndA r26
 (ob (partA true 0 7 b21) fun r27 =>
 E 85 [r27] H25 fun r28 H29 =>
 ob (stH H29 1 y4 r28) fun H30 =>
 endA l H30 true .ready Q)
 (ob (stH H25 1 y4 (B false)) fun H31 =>
 endA l H31 true .ready Q) := by kernel_rfl
theorem f55_eq (a0 : AV) (H : Heap) (Q : Post) : E 55 [a0] H Q =
 ob (sizedA 7 a0) fun b1 =>
 newH H [(I 0)] fun r2 H3 =>
 newH H3 [(B false)] fun r4 H5 =>
 ob (stH H5 1 r2 (I 0)) fun H6 =>
 ob (stH H6 1 r4 (B true)) fun H7 =>
 ob (partA true 0 7 b1) fun r8 =>
 E 84 [r8] H7 fun r9 H10 =>
 aroundA none H10 ∧ rngF (Ev Pg Hs) r9 (f55_L8 r2 r4) H10 fun l11 H12 =>
 overA l11 H12 (fun H13 =>
 f55_j14 r2 r4 H13 Q) (fun j H14 =>
 exA j 0 (f55_j14 r2 r4 H14 Q) (False)) (fun H15 =>
 Q (I 0) H15) :=
  Ev_eq.trans (by kernel_rfl)
/-! ### 56 (*haruspex/cond.printer).expr -/
theorem f56_eq (a0 a1 a2 : AV) (H : Heap) (Q : Post) : E 56 [a0, a1, a2] H Q =
 ob (sizedA 7 a1) fun b1 =>
 ob (partA true 0 7 b1) fun r2 =>
 E 86 [r2] H fun r3 H4 =>
 ob (binA Pg .geq 3 false r3 a2) fun r5 =>
 cndA r5
 (ob (partA true 0 7 b1) fun r6 =>
 E 87 [a0, r6] H4 fun r7 H8 =>
 Q (AV.tup []) H8)
 (ob (nilA a0) fun r9 =>
 ob (addPA r9 0) fun r10 =>
 E 88 [r10, (AV.raw (.int .u8 40))] H4 fun r11 H12 =>
 ob (partA true 0 7 b1) fun r13 =>
 E 87 [a0, r13] H12 fun r14 H15 =>
 ob (nilA a0) fun r16 =>
 ob (addPA r16 0) fun r17 =>
 E 88 [r17, (AV.raw (.int .u8 41))] H15 fun r18 H19 =>
 Q (AV.tup []) H19) :=
  Ev_eq.trans (by kernel_rfl)
/-! ### 57 haruspex/haruspexref09.Check -/
theorem f57_eq (a0 : AV) (H : Heap) (Q : Post) : E 57 [a0] H Q =
 ob (sizedA 7 a0) fun b1 =>
 ob (partA true 0 7 b1) fun r2 =>
 E 23 [r2] H fun r3 H4 =>
 ob (binA Pg .gtr 3 true r3 (I 100)) fun r5 =>
 cndA r5
 (Q (I 2) H4)
 (ob (partA true 0 7 b1) fun r6 =>
 E 89 [r6] H4 fun r7 H8 =>
 ob (unA .not r7) fun r9 =>
 cndA r9
 (Q (I 1) H8)
 (Q (I 0) H8)) :=
  Ev_eq.trans (by kernel_rfl)
/-! ### 58 haruspex/haruspexref18.put -/
def f58_j45 (x1 : AV) (x5 : AV) (x6 : AV) (H : Heap) (Q : Post) : Prop := AtJ Pg Hs 58 [1, 1, 1, 1] Q [(1, .val x1), (5, .val x5), (6, .val x6)] H
def f58_j37 (x1 : AV) (x6 : AV) (x9 : List AV) (x99 : AV) (H : Heap) (Q : Post) : Prop := AtJ Pg Hs 58 [1, 1, 1, 0, 0, 1, 1, 1, 1, 1, 1, 1, 1, 1, 1, 1, 0, 1, 1] Q [(1, .val x1), (6, .val x6), (9, .lbox x9), (99, .val x99)] H
theorem f58_j45_eq (x1 : AV) (x5 : AV) (x6 : AV) (H : Heap) (Q : Post) : f58_j45 x1 x5 x6 H Q =
 ob (binA Pg .lss 3 false x6 x1) fun r85 =>
 cndA r85
 (ob (binA Pg .add 9 true (S ⟨#[40]⟩) x5) fun r86 =>
 ob (binA Pg .add 9 true r86 (S ⟨#[41]⟩)) fun r87 =>
 Q r87 H)
 (Q x5 H) :=
  (AtJ_eq Pg Hs 58 [1, 1, 1, 1] Q _ H).trans (by kernel_rfl)
theorem f58_j37_eq (x1 : AV) (x6 : AV) (x9 : List AV) (x99 : AV) (H : Heap) (Q : Post) : f58_j37 x1 x6 x9 x99 H Q =
 cndA x99
 (ob (partA true 0 7 x9) fun r88 =>
 E 58 [r88, (I 1)] H fun r89 H90 =>
 ob (binA Pg .add 9 true (S ⟨#[45, 40]⟩) r89) fun r91 =>
 ob (binA Pg .add 9 true r91 (S ⟨#[41]⟩)) fun r92 =>
 f58_j45 x1 r92 x6 H90 Q)
 (ob (partA true 0 7 x9) fun r93 =>
 E 58 [r93, (I 7)] H fun r94 H95 =>
 ob (binA Pg .add 9 true (S ⟨#[45]⟩) r94) fun r96 =>
 f58_j45 x1 r96 x6 H95 Q) :=
  (AtJ_eq Pg Hs 58 [1, 1, 1, 0, 0, 1, 1, 1, 1, 1, 1, 1, 1, 1, 1, 1, 0, 1, 1] Q _ H).trans (by kernel_rfl)
theorem f58_eq (a0 a1 : AV) (H : Heap) (Q : Post) : E 58 [a0, a1] H Q =
 ob (sizedA 7 a0) fun b1 =>
 ob (partA true 0 7 b1) fun r2 =>
 E 90 [r2] H fun r3 H4 =>
 ob (partA false 0 1 b1) fun r5 =>
 ob (binA Pg .eql 3 true r5 (I 1)) fun r6 =>
 cndA r6
 (ob (partA true 1 3 b1) fun r7 =>
 E 91 [r7] H4 fun r8 H9 =>
 ob (extractA r8 0) fun r10 =>
 ob (extractA r8 1) fun r11 =>
 f58_j45 a1 r10 r3 H9 Q)
 (ob (partA false 0 1 b1) fun r12 =>
 ob (binA Pg .eql 3 true r12 (I 2)) fun r13 =>
 cndA r13
 (ob (partA false 4 1 b1) fun r14 =>
 ob (binA Pg .add 9 true r14 (S ⟨#[46]⟩)) fun r15 =>
 ob (partA false 5 1 b1) fun r16 =>
 ob (binA Pg .add 9 false r15 r16) fun r17 =>
 f58_j45 a1 r17 r3 H4 Q)
 (ob (partA false 0 1 b1) fun r18 =>
 ob (binA Pg .eql 3 true r18 (I 17)) fun r19 =>
 cndA r19
 (ob (partA false 6 1 b1) fun r20 =>
 E 60 [r20, (S ⟨#[79, 82]⟩), (I 2)] H4 fun r21 H22 =>
 f58_j45 a1 r21 r3 H22 Q)
 (ob (partA false 0 1 b1) fun r23 =>
 ob (binA Pg .eql 3 true r23 (I 16)) fun r24 =>
 cndA r24
 (ob (partA false 6 1 b1) fun r25 =>
 E 60 [r25, (S ⟨#[65, 78, 68]⟩), (I 3)] H4 fun r26 H27 =>
 f58_j45 a1 r26 r3 H27 Q)
 (ob (partA false 0 1 b1) fun r28 =>
 ob (binA Pg .eql 3 true r28 (I 15)) fun r29 =>
 cndA r29
 (ob (partA false 6 1 b1) fun r30 =>
 ob (ixaA 7 r30 (I 0)) fun c31 =>
 ob (partA true 0 7 c31) fun r32 =>
 E 58 [r32, (I 3)] H4 fun r33 H34 =>
 ob (binA Pg .add 9 true (S ⟨#[78, 79, 84, 32]⟩) r33) fun r35 =>
 f58_j45 a1 r35 r3 H34 Q)
 (ob (partA false 0 1 b1) fun r36 =>
 ob (binA Pg .eql 3 true r36 (I 3)) fun r37 =>
 cndA r37
 (ob (partA false 6 1 b1) fun r38 =>
 ob (ixaA 7 r38 (I 0)) fun c39 =>
 ob (partA true 0 7 c39) fun r40 =>
 ob (sizedA 7 r40) fun b41 =>
 ob (spliceA 0 b41 [(I 0), (I 0), (I 0), (S ⟨#[]⟩), (S ⟨#[]⟩), (S ⟨#[]⟩), (AV.sl 0 true .full [])]) fun b42 =>
 ob (partA false 0 1 b42) fun r43 =>
 ob (binA Pg .eql 3 true r43 (I 1)) fun r44 =>
 cndA r44
 (ob (partA false 1 1 b42) fun r45 =>
 ob (binA Pg .eql 3 true r45 (I 2)) fun r46 =>
 cndA r46
 (ob (partA false 2 1 b42) fun r47 =>
 ob (binA Pg .geq 2 true r47 (I 0)) fun r48 =>
 f58_j37 a1 r3 b42 r48 H4 Q)
 (f58_j37 a1 r3 b42 (B false) H4 Q))
 (f58_j37 a1 r3 b42 (B false) H4 Q))
 (ob (binA Pg .eql 3 true r3 (I 4)) fun r49 =>
 cndA r49
 (ob (partA false 6 1 b1) fun r50 =>
 ob (ixaA 7 r50 (I 0)) fun c51 =>
 ob (partA true 0 7 c51) fun r52 =>
 ob (partA false 0 1 b1) fun r53 =>
 ob (partA false 6 1 b1) fun r54 =>
 ob (ixaA 7 r54 (I 1)) fun c55 =>
 ob (partA true 0 7 c55) fun r56 =>
 E 58 [r52, (I 5)] H4 fun r57 H58 =>
 ob (binA Pg .add 9 true r57 (S ⟨#[32]⟩)) fun r59 =>
 E 92 [r53] H58 fun r60 H61 =>
 ob (binA Pg .add 9 false r59 r60) fun r62 =>
 ob (binA Pg .add 9 true r62 (S ⟨#[32]⟩)) fun r63 =>
 E 58 [r56, (I 5)] H61 fun r64 H65 =>
 ob (binA Pg .add 9 false r63 r64) fun r66 =>
 f58_j45 a1 r66 r3 H65 Q)
 (ob (partA false 6 1 b1) fun r67 =>
 ob (ixaA 7 r67 (I 0)) fun c68 =>
 ob (partA true 0 7 c68) fun r69 =>
 ob (partA false 0 1 b1) fun r70 =>
 ob (partA false 6 1 b1) fun r71 =>
 ob (ixaA 7 r71 (I 1)) fun c72 =>
 ob (partA true 0 7 c72) fun r73 =>
 ob (binA Pg .add 3 true r3 (I 1)) fun r74 =>
 E 58 [r69, r3] H4 fun r75 H76 =>
 ob (binA Pg .add 9 true r75 (S ⟨#[32]⟩)) fun r77 =>
 E 92 [r70] H76 fun r78 H79 =>
 ob (binA Pg .add 9 false r77 r78) fun r80 =>
 ob (binA Pg .add 9 true r80 (S ⟨#[32]⟩)) fun r81 =>
 E 58 [r73, r74] H79 fun r82 H83 =>
 ob (binA Pg .add 9 false r81 r82) fun r84 =>
 f58_j45 a1 r84 r3 H83 Q))))))) :=
  Ev_eq.trans (by kernel_rfl)
/-! ### 59 (*haruspex/cond.printer).row -/
def f59_l3 (x0 : AV) (x2 : AV) (x3 : AV) (x10 : AV) (x11 : AV) (x12 : AV) (H : Heap) (Q : Post) : Prop := AtF Pg Hs 59 [1, 0] Q [(0, .val x0), (2, .val x2), (3, .val x3), (10, .val x10), (11, .val x11), (12, .val x12)] H
def f59_j20 (x0 : AV) (x2 : AV) (x3 : AV) (x9 : List AV) (x10 : AV) (x11 : AV) (x12 : AV) (H : Heap) (Q : Post) : Prop := AtJ Pg Hs 59 [1, 0, 0, 1, 1, 0, 0, 1, 1] Q [(0, .val x0), (2, .val x2), (3, .val x3), (9, .lbox x9), (10, .val x10), (11, .val x11), (12, .val x12)] H
theorem f59_l3_eq (x0 : AV) (x2 : AV) (x3 : AV) (x10 : AV) (x11 : AV) (x12 : AV) (H : Heap) (Q : Post) : f59_l3 x0 x2 x3 x10 x11 x12 H Q =
 ob (binA Pg .lss 3 false x12 x11) fun r2 =>
 cndA r2
 (ob (ixaA 7 x10 x12) fun c3 =>
 ob (partA true 0 7 c3) fun r4 =>
 ob (sizedA 7 r4) fun b5 =>
 ob (spliceA 0 b5 [(I 0), (I 0), (I 0), (S ⟨#[]⟩), (S ⟨#[]⟩), (S ⟨#[]⟩), (AV.sl 0 true .full [])]) fun b6 =>
 ob (binA Pg .gtr 3 true x12 (I 0)) fun r7 =>
 cndA r7
 (ob (nilA x0) fun r8 =>
 ob (addPA r8 0) fun r9 =>
 E 64 [r9, x2] H fun r10 H11 =>
 f59_j20 x0 x2 x3 b6 x10 x11 x12 H11 Q)
 (f59_j20 x0 x2 x3 b6 x10 x11 x12 H Q))
 (Q (AV.tup []) H) :=
  (AtF_eq Pg Hs 59 [1, 0] Q _ H).trans (by kernel_rfl)
theorem f59_j20_eq (x0 : AV) (x2 : AV) (x3 : AV) (x9 : List AV) (x10 : AV) (x11 : AV) (x12 : AV) (H : Heap) (Q : Post) : f59_j20 x0 x2 x3 x9 x10 x11 x12 H Q =
 ob (partA true 0 7 x9) fun r12 =>
 E 56 [x0, r12, x3] H fun r13 H14 =>
 ob (binA Pg .add 3 true x12 (I 1)) fun r15 =>
 f59_l3 x0 x2 x3 x10 x11 r15 H14 Q :=
  (AtJ_eq Pg Hs 59 [1, 0, 0, 1, 1, 0, 0, 1, 1] Q _ H).trans (by kernel_rfl)
theorem f59_eq (a0 a1 a2 a3 : AV) (H : Heap) (Q : Post) : E 59 [a0, a1, a2, a3] H Q =
 ob (lenA a1) fun r1 =>
 f59_l3 a0 a2 a3 a1 r1 (I 0) H Q :=
  Ev_eq.trans (by kernel_rfl)
/-! ### 60 haruspex/haruspexref18.row -/
def f60_l8 (x0 : AV) (x1 : AV) (x2 : AV) (x7 : AV) (x8 : AV) (H : Heap) (Q : Post) : Prop := AtF Pg Hs 60 [1, 1, 0, 1, 0] Q [(0, .val x0), (1, .val x1), (2, .val x2), (7, .val x7), (8, .val x8)] H
def f60_j23 (x0 : AV) (x1 : AV) (x2 : AV) (x7 : AV) (x8 : AV) (H : Heap) (Q : Post) : Prop := AtJ Pg Hs 60 [1, 1, 0, 1, 0, 0, 1, 0, 0, 1] Q [(0, .val x0), (1, .val x1), (2, .val x2), (7, .val x7), (8, .val x8)] H
theorem f60_l8_eq (x0 : AV) (x1 : AV) (x2 : AV) (x7 : AV) (x8 : AV) (H : Heap) (Q : Post) : f60_l8 x0 x1 x2 x7 x8 H Q =
 ob (lenA x0) fun r1 =>
 ob (binA Pg .lss 3 false x8 r1) fun r2 =>
 cndA r2
 (ob (binA Pg .gtr 3 true x8 (I 0)) fun r3 =>
 cndA r3
 (ob (binA Pg .add 9 true x7 (S ⟨#[32]⟩)) fun r4 =>
 ob (binA Pg .add 9 false r4 x1) fun r5 =>
 ob (binA Pg .add 9 true r5 (S ⟨#[32]⟩)) fun r6 =>
 f60_j23 x0 x1 x2 r6 x8 H Q)
 (f60_j23 x0 x1 x2 x7 x8 H Q))
 (Q x7 H) :=
  (AtF_eq Pg Hs 60 [1, 1, 0, 1, 0] Q _ H).trans (by kernel_rfl)
theorem f60_j23_eq (x0 : AV) (x1 : AV) (x2 : AV) (x7 : AV) (x8 : AV) (H : Heap) (Q : Post) : f60_j23 x0 x1 x2 x7 x8 H Q =
 ob (ixaA 7 x0 x8) fun c7 =>
 ob (partA true 0 7 c7) fun r8 =>
 E 58 [r8, x2] H fun r9 H10 =>
 ob (binA Pg .add 9 false x7 r9) fun r11 =>
 ob (binA Pg .add 3 true x8 (I 1)) fun r12 =>
 f60_l8 x0 x1 x2 r11 r12 H10 Q :=
  (AtJ_eq Pg Hs 60 [1, 1, 0, 1, 0, 0, 1, 0, 0, 1] Q _ H).trans (by kernel_rfl)
theorem f60_eq (a0 a1 a2 : AV) (H : Heap) (Q : Post) : E 60 [a0, a1, a2] H Q =
 f60_l8 a0 a1 a2 (S ⟨#[]⟩) (I 0) H Q :=
  Ev_eq.trans (by kernel_rfl)
/-! ### 61 haruspex/query.Check -/
theorem f61_eq (a0 : AV) (H : Heap) (Q : Post) : E 61 [a0] H Q =
 ob (sizedA 11 a0) fun b1 =>
 ob (partA true 0 11 b1) fun r2 =>
 ob (bldA [(0, 11, r2)] [(I 0), (S ⟨#[]⟩), (S ⟨#[]⟩), (I 0), (I 0), (AV.sl 0 true .full []), (AV.sl 0 true .full []), (S ⟨#[]⟩), (I 0), (I 0), (AV.sl 0 true .full [])]) fun r3 =>
 ob (sizedA 11 r3) fun b4 =>
 ob (spliceA 0 b4 [(I 0), (S ⟨#[]⟩), (S ⟨#[]⟩), (I 0), (I 0), (AV.sl 0 true .full []), (AV.sl 0 true .full []), (S ⟨#[]⟩), (I 0), (I 0), (AV.sl 0 true .full [])]) fun b5 =>
 ob (partA true 0 11 b5) fun r6 =>
 E 93 [r6] H fun r7 H8 =>
 ob (binA Pg .neq 31 true r7 (I 0)) fun r9 =>
 cndA r9
 (Q r7 H8)
 (ob (partA true 0 11 b5) fun r10 =>
 callA (Ev Pg Hs) (AV.fn (.func 94) [r10] []) [] H8 fun r11 H12 =>
 ob (binA Pg .neq 31 true r11 (I 0)) fun r13 =>
 cndA r13
 (Q r11 H12)
 (ob (partA true 0 11 b5) fun r14 =>
 callA (Ev Pg Hs) (AV.fn (.func 95) [r14] []) [] H12 fun r15 H16 =>
 ob (binA Pg .neq 31 true r15 (I 0)) fun r17 =>
 cndA r17
 (Q r15 H16)
 (ob (partA true 0 11 b5) fun r18 =>
 E 96 [r18] H16 fun r19 H20 =>
 Q r19 H20))) :=
  Ev_eq.trans (by kernel_rfl)
/-! ### 62 haruspex/pat.Made -/
theorem f62_eq (a0 : AV) (H : Heap) (Q : Post) : E 62 [a0] H Q =
 ob (sizedA 6 a0) fun b1 =>
 ob (partA true 0 6 b1) fun r2 =>
 E 97 [r2] H fun r3 H4 =>
 ob (binA Pg .neq 31 true r3 (I 0)) fun r5 =>
 cndA r5
 (Q r3 H4)
 (ob (partA true 0 6 b1) fun r6 =>
 E 98 [r6] H4 fun r7 H8 =>
 ob (unA .not r7) fun r9 =>
 cndA r9
 (Q (I 4) H8)
 (Q (I 0) H8)) :=
  Ev_eq.trans (by kernel_rfl)
/-! ### 63 haruspex/epl.ranged -/
def f63_j4 (x2 : AV) (H : Heap) (Q : Post) : Prop := AtJ Pg Hs 63 [1, 1] Q [(2, .val x2)] H
theorem f63_j4_eq (x2 : AV) (H : Heap) (Q : Post) : f63_j4 x2 H Q =
 Q x2 H :=
  (AtJ_eq Pg Hs 63 [1, 1] Q _ H).trans (by kernel_rfl)
theorem f63_eq (a0 : AV) (H : Heap) (Q : Post) : E 63 [a0] H Q =
 ob (sizedA 6 a0) fun b1 =>
 ob (partA false 0 1 b1) fun r2 =>
 ob (binA Pg .eql 3 true r2 (I 5)) fun r3 =>
 cndA r3
 (ob (partA false 3 1 b1) fun r4 =>
 ob (partA false 4 1 b1) fun r5 =>
 ob (binA Pg .neq 3 false r4 r5) fun r6 =>
 cndA r6
 (f63_j4 (B true) H Q)
 (ob (partA false 5 1 b1) fun r7 =>
 E 71 [r7, (AV.fn (.func 63) [] [])] H fun r8 H9 =>
 f63_j4 r8 H9 Q))
 (ob (partA false 5 1 b1) fun r10 =>
 E 71 [r10, (AV.fn (.func 63) [] [])] H fun r11 H12 =>
 f63_j4 r11 H12 Q) :=
  Ev_eq.trans (by kernel_rfl)
/-! ### 64 (*strings.Builder).WriteString -/
theorem f64_eq (a0 a1 : AV) (H : Heap) (Q : Post) : E 64 [a0, a1] H Q =
 E 99 [a0] H fun r1 H2 =>
 ob (nilA a0) fun r3 =>
 ob (addPA r3 1) fun r4 =>
 ob (ldH H2 false 1 r4) fun r5 =>
 appB 5 r5 a1 H2 fun r6 H7 =>
 ob (nilA a0) fun r8 =>
 ob (addPA r8 1) fun r9 =>
 ob (stH H7 1 r9 r6) fun H10 =>
 ob (lenSA a1) fun r11 =>
 Q (AV.tup [r11, (AV.raw .nilIface)]) H10 :=
  Ev_eq.trans (by kernel_rfl)
/-! ### 65 haruspex/epl.level -/
theorem f65_eq (a0 : AV) (H : Heap) (Q : Post) : E 65 [a0] H Q =
 ob (binA Pg .eql 3 true a0 (I 2)) fun r1 =>
 cndA r1
 (Q (AV.tup [(I 1), (S ⟨#[32, 45, 62, 32]⟩)]) H)
 (ob (binA Pg .eql 3 true a0 (I 4)) fun r2 =>
 cndA r2
 (Q (AV.tup [(I 2), (S ⟨#[32, 79, 82, 32]⟩)]) H)
 (ob (binA Pg .eql 3 true a0 (I 3)) fun r3 =>
 cndA r3
 (Q (AV.tup [(I 3), (S ⟨#[32, 65, 78, 68, 32]⟩)]) H)
 (Q (AV.tup [(I 4), (S ⟨#[]⟩)]) H))) :=
  Ev_eq.trans (by kernel_rfl)
/-! ### 66 (*haruspex/epl.printer).leaf -/
def f66_j19 (x0 : AV) (x3 : List AV) (H : Heap) (Q : Post) : Prop := AtJ Pg Hs 66 [1, 1] Q [(0, .val x0), (3, .lbox x3)] H
theorem f66_j19_eq (x0 : AV) (x3 : List AV) (H : Heap) (Q : Post) : f66_j19 x0 x3 H Q =
 ob (nilA x0) fun r25 =>
 ob (addPA r25 0) fun r26 =>
 ob (partA false 1 1 x3) fun r27 =>
 ob (partA false 2 1 x3) fun r28 =>
 ob (mkSlA 1 [r27, (S ⟨#[61]⟩), r28]) fun r29 =>
 E 32 [r26, r29] H fun r30 H31 =>
 Q (AV.tup []) H31 :=
  (AtJ_eq Pg Hs 66 [1, 1] Q _ H).trans (by kernel_rfl)
theorem f66_eq (a0 a1 : AV) (H : Heap) (Q : Post) : E 66 [a0, a1] H Q =
 ob (sizedA 6 a1) fun b1 =>
 ob (partA false 0 1 b1) fun r2 =>
 ob (binA Pg .eql 3 true r2 (I 6)) fun r3 =>
 cndA r3
 (ob (nilA a0) fun r4 =>
 ob (addPA r4 0) fun r5 =>
 ob (mkSlA 1 [(S ⟨#[78, 79, 84, 32]⟩)]) fun r6 =>
 E 32 [r5, r6] H fun r7 H8 =>
 f66_j19 a0 b1 H8 Q)
 (ob (binA Pg .eql 3 true r2 (I 5)) fun r9 =>
 cndA r9
 (ob (nilA a0) fun r10 =>
 ob (addPA r10 0) fun r11 =>
 ob (mkSlA 1 [(S ⟨#[91]⟩)]) fun r12 =>
 E 32 [r11, r12] H fun r13 H14 =>
 ob (nilA a0) fun r15 =>
 ob (addPA r15 0) fun r16 =>
 ob (partA false 3 1 b1) fun r17 =>
 E 67 [r16, r17] H14 fun r18 H19 =>
 ob (nilA a0) fun r20 =>
 ob (addPA r20 0) fun r21 =>
 ob (mkSlA 1 [(S ⟨#[93, 32]⟩)]) fun r22 =>
 E 32 [r21, r22] H19 fun r23 H24 =>
 f66_j19 a0 b1 H24 Q)
 (f66_j19 a0 b1 H Q)) :=
  Ev_eq.trans (by kernel_rfl)
/-! ### 67 (*haruspex/clause.Printer).PutInt -/
theorem f67_eq (a0 a1 : AV) (H : Heap) (Q : Post) : E 67 [a0, a1] H Q =
 E 100 [a1] H fun r1 H2 =>
 ob (mkSlA 1 [r1]) fun r3 =>
 E 32 [a0, r3] H2 fun r4 H5 =>
 Q (AV.tup []) H5 :=
  Ev_eq.trans (by kernel_rfl)
/-! ### 68 haruspex/haruspexref13.Check -/
def f68_j15 (x1 : List AV) (x24 : AV) (H : Heap) (Q : Post) : Prop := AtJ Pg Hs 68 [1, 1, 1, 0, 1] Q [(1, .lbox x1), (24, .val x24)] H
def f68_c6_8a (x1 : List AV) (H : Heap) (Q : Post) : Prop := AtJ Pg Hs 68 [1, 1, 1, 1, 0, 8] Q [(1, .lbox x1), (32, .val (B true))] H
def f68_c6_8b (x1 : List AV) (x32 : AV) (H : Heap) (Q : Post) : Prop := AtJ Pg Hs 68 [1, 1, 1, 1, 0, 8] Q [(1, .lbox x1), (32, .val x32)] H
def f68_c6_13a (x1 : List AV) (x37 : AV) (H : Heap) (Q : Post) : Prop := AtJ Pg Hs 68 [1, 1, 1, 1, 0, 13] Q [(1, .lbox x1), (37, .val x37)] H
def f68_c6_13b (x1 : List AV) (H : Heap) (Q : Post) : Prop := AtJ Pg Hs 68 [1, 1, 1, 1, 0, 13] Q [(1, .lbox x1), (37, .val (B false))] H
def f68_c6_18a (x1 : List AV) (x42 : AV) (H : Heap) (Q : Post) : Prop := AtJ Pg Hs 68 [1, 1, 1, 1, 0, 18] Q [(1, .lbox x1), (42, .val x42)] H
def f68_c6_18b (x1 : List AV) (H : Heap) (Q : Post) : Prop := AtJ Pg Hs 68 [1, 1, 1, 1, 0, 18] Q [(1, .lbox x1), (42, .val (B false))] H
def f68_c6_23a (x1 : List AV) (x47 : AV) (H : Heap) (Q : Post) : Prop := AtJ Pg Hs 68 [1, 1, 1, 1, 0, 23] Q [(1, .lbox x1), (47, .val x47)] H
def f68_c6_23b (x1 : List AV) (H : Heap) (Q : Post) : Prop := AtJ Pg Hs 68 [1, 1, 1, 1, 0, 23] Q [(1, .lbox x1), (47, .val (B false))] H
def f68_c6_28a (x1 : List AV) (x52 : AV) (H : Heap) (Q : Post) : Prop := AtJ Pg Hs 68 [1, 1, 1, 1, 0, 28] Q [(1, .lbox x1), (52, .val x52)] H
def f68_c6_28b (x1 : List AV) (H : Heap) (Q : Post) : Prop := AtJ Pg Hs 68 [1, 1, 1, 1, 0, 28] Q [(1, .lbox x1), (52, .val (B false))] H
def f68_j22 (x1 : List AV) (x4 : AV) (H : Heap) (Q : Post) : Prop := AtJ Pg Hs 68 [1, 1, 1, 1, 1] Q [(1, .lbox x1), (4, .val x4)] H
def f68_l28 (x1 : List AV) (x4 : AV) (x5 : AV) (x6 : AV) (H : Heap) (Q : Post) : Prop := AtF Pg Hs 68 [1, 1, 1, 1, 1, 1, 0, 1, 0] Q [(1, .lbox x1), (4, .val x4), (5, .val x5), (6, .val x6)] H
def f68_j50 (x1 : List AV) (x4 : AV) (x5 : AV) (x6 : AV) (H : Heap) (Q : Post) : Prop := AtJ Pg Hs 68 [1, 1, 1, 1, 1, 1, 0, 1, 0, 0, 1, 1] Q [(1, .lbox x1), (4, .val x4), (5, .val x5), (6, .val x6)] H
def f68_l63 (x1 : List AV) (x4 : AV) (x7 : AV) (H : Heap) (Q : Post) : Prop := AtF Pg Hs 68 [1, 1, 1, 1, 1, 1, 1, 1, 0, 1, 0] Q [(1, .lbox x1), (4, .val x4), (7, .val x7)] H
def f68_j74 (x1 : List AV) (x4 : AV) (x7 : AV) (H : Heap) (Q : Post) : Prop := AtJ Pg Hs 68 [1, 1, 1, 1, 1, 1, 1, 1, 0, 1, 0, 0, 1, 0, 0, 1] Q [(1, .lbox x1), (4, .val x4), (7, .val x7)] H
def f68_l77 (x1 : List AV) (x4 : AV) (x7 : AV) (x8 : AV) (H : Heap) (Q : Post) : Prop := AtF Pg Hs 68 [1, 1, 1, 1, 1, 1, 1, 1, 0, 1, 0, 0, 1, 0, 0, 1, 1, 0] Q [(1, .lbox x1), (4, .val x4), (7, .val x7), (8, .val x8)] H
def f68_j87 (x1 : List AV) (x4 : AV) (x7 : AV) (x8 : AV) (H : Heap) (Q : Post) : Prop := AtJ Pg Hs 68 [1, 1, 1, 1, 1, 1, 1, 1, 0, 1, 0, 0, 1, 0, 0, 1, 1, 0, 0, 1, 1] Q [(1, .lbox x1), (4, .val x4), (7, .val x7), (8, .val x8)] H
theorem f68_j15_eq (x1 : List AV) (x24 : AV) (H : Heap) (Q : Post) : f68_j15 x1 x24 H Q =
 cndA x24
 (Q (I 2) H)
 (ob (partA false 7 1 x1) fun r12 =>
 ob (binA Pg .eql 9 true r12 (S ⟨#[]⟩)) fun r13 =>
 cndA r13
 (f68_c6_8a x1 H Q)
 (ob (partA false 7 1 x1) fun r14 =>
 E 102 [r14] H fun r15 H16 =>
 f68_c6_8b x1 r15 H16 Q)) :=
  (AtJ_eq Pg Hs 68 [1, 1, 1, 0, 1] Q _ H).trans (by kernel_rfl)
theorem f68_c6_8a_eq (x1 : List AV) (H : Heap) (Q : Post) : f68_c6_8a x1 H Q =
 ob (partA false 8 1 x1) fun r17 =>
 ob (binA Pg .geq 3 true r17 (I 0)) fun r18 =>
 f68_c6_13a x1 r18 H Q :=
  (AtJ_eq Pg Hs 68 [1, 1, 1, 1, 0, 8] Q _ H).trans (by kernel_rfl)
theorem f68_c6_8b_eq (x1 : List AV) (x32 : AV) (H : Heap) (Q : Post) : f68_c6_8b x1 x32 H Q =
 cndA x32
 (ob (partA false 8 1 x1) fun r19 =>
 ob (binA Pg .geq 3 true r19 (I 0)) fun r20 =>
 f68_c6_13a x1 r20 H Q)
 (f68_c6_13b x1 H Q) :=
  (AtJ_eq Pg Hs 68 [1, 1, 1, 1, 0, 8] Q _ H).trans (by kernel_rfl)
theorem f68_c6_13a_eq (x1 : List AV) (x37 : AV) (H : Heap) (Q : Post) : f68_c6_13a x1 x37 H Q =
 cndA x37
 (ob (partA false 8 1 x1) fun r21 =>
 ob (binA Pg .leq 3 true r21 (I 2)) fun r22 =>
 f68_c6_18a x1 r22 H Q)
 (f68_c6_18b x1 H Q) :=
  (AtJ_eq Pg Hs 68 [1, 1, 1, 1, 0, 13] Q _ H).trans (by kernel_rfl)
theorem f68_c6_13b_eq (x1 : List AV) (H : Heap) (Q : Post) : f68_c6_13b x1 H Q =
 f68_c6_18b x1 H Q :=
  (AtJ_eq Pg Hs 68 [1, 1, 1, 1, 0, 13] Q _ H).trans (by kernel_rfl)
theorem f68_c6_18a_eq (x1 : List AV) (x42 : AV) (H : Heap) (Q : Post) : f68_c6_18a x1 x42 H Q =
 cndA x42
 (ob (partA false 9 1 x1) fun r23 =>
 ob (binA Pg .geq 2 true r23 (I 0)) fun r24 =>
 f68_c6_23a x1 r24 H Q)
 (f68_c6_23b x1 H Q) :=
  (AtJ_eq Pg Hs 68 [1, 1, 1, 1, 0, 18] Q _ H).trans (by kernel_rfl)
theorem f68_c6_18b_eq (x1 : List AV) (H : Heap) (Q : Post) : f68_c6_18b x1 H Q =
 f68_c6_23b x1 H Q :=
  (AtJ_eq Pg Hs 68 [1, 1, 1, 1, 0, 18] Q _ H).trans (by kernel_rfl)
theorem f68_c6_23a_eq (x1 : List AV) (x47 : AV) (H : Heap) (Q : Post) : f68_c6_23a x1 x47 H Q =
 cndA x47
 (ob (partA false 9 1 x1) fun r25 =>
 ob (binA Pg .leq 2 true r25 (I 1099511627776)) fun r26 =>
 f68_c6_28a x1 r26 H Q)
 (f68_c6_28b x1 H Q) :=
  (AtJ_eq Pg Hs 68 [1, 1, 1, 1, 0, 23] Q _ H).trans (by kernel_rfl)
theorem f68_c6_23b_eq (x1 : List AV) (H : Heap) (Q : Post) : f68_c6_23b x1 H Q =
 f68_c6_28b x1 H Q :=
  (AtJ_eq Pg Hs 68 [1, 1, 1, 1, 0, 23] Q _ H).trans (by kernel_rfl)
theorem f68_c6_28a_eq (x1 : List AV) (x52 : AV) (H : Heap) (Q : Post) : f68_c6_28a x1 x52 H Q =
 f68_j22 x1 x52 H Q :=
  (AtJ_eq Pg Hs 68 [1, 1, 1, 1, 0, 28] Q _ H).trans (by kernel_rfl)
theorem f68_c6_28b_eq (x1 : List AV) (H : Heap) (Q : Post) : f68_c6_28b x1 H Q =
 f68_j22 x1 (B false) H Q :=
  (AtJ_eq Pg Hs 68 [1, 1, 1, 1, 0, 28] Q _ H).trans (by kernel_rfl)
theorem f68_j22_eq (x1 : List AV) (x4 : AV) (H : Heap) (Q : Post) : f68_j22 x1 x4 H Q =
 f68_l28 x1 x4 (I 0) (I 0) H Q :=
  (AtJ_eq Pg Hs 68 [1, 1, 1, 1, 1] Q _ H).trans (by kernel_rfl)
theorem f68_l28_eq (x1 : List AV) (x4 : AV) (x5 : AV) (x6 : AV) (H : Heap) (Q : Post) : f68_l28 x1 x4 x5 x6 H Q =
 ob (partA false 6 1 x1) fun r27 =>
 ob (lenA r27) fun r28 =>
 ob (binA Pg .lss 3 false x6 r28) fun r29 =>
 cndA r29
 (ob (partA false 6 1 x1) fun r30 =>
 ob (ixaA 7 r30 x6) fun c31 =>
 ob (partA true 0 7 c31) fun r32 =>
 E 57 [r32] H fun r33 H34 =>
 ob (binA Pg .neq 3 true r33 (I 0)) fun r35 =>
 cndA r35
 (Q r33 H34)
 (ob (partA false 6 1 x1) fun r36 =>
 ob (ixaA 7 r36 x6) fun c37 =>
 ob (partA true 0 7 c37) fun r38 =>
 E 23 [r38] H34 fun r39 H40 =>
 ob (binA Pg .add 3 false x5 r39) fun r41 =>
 cndA x4
 (ob (partA false 6 1 x1) fun r42 =>
 ob (ixaA 7 r42 x6) fun c43 =>
 ob (partA false 0 1 (c43.drop 0)) fun r44 =>
 ob (binA Pg .neq 3 true r44 (I 16)) fun r45 =>
 f68_j50 x1 r45 r41 x6 H40 Q)
 (f68_j50 x1 (B false) r41 x6 H40 Q)))
 (ob (binA Pg .geq 3 true x5 (I 100)) fun r46 =>
 cndA r46
 (Q (I 2) H)
 (f68_l63 x1 x4 (I 0) H Q)) :=
  (AtF_eq Pg Hs 68 [1, 1, 1, 1, 1, 1, 0, 1, 0] Q _ H).trans (by kernel_rfl)
theorem f68_j50_eq (x1 : List AV) (x4 : AV) (x5 : AV) (x6 : AV) (H : Heap) (Q : Post) : f68_j50 x1 x4 x5 x6 H Q =
 ob (binA Pg .add 3 true x6 (I 1)) fun r47 =>
 f68_l28 x1 x4 x5 r47 H Q :=
  (AtJ_eq Pg Hs 68 [1, 1, 1, 1, 1, 1, 0, 1, 0, 0, 1, 1] Q _ H).trans (by kernel_rfl)
theorem f68_l63_eq (x1 : List AV) (x4 : AV) (x7 : AV) (H : Heap) (Q : Post) : f68_l63 x1 x4 x7 H Q =
 ob (partA false 10 1 x1) fun r48 =>
 ob (lenA r48) fun r49 =>
 ob (binA Pg .lss 3 false x7 r49) fun r50 =>
 cndA r50
 (cndA x4
 (ob (partA false 10 1 x1) fun r51 =>
 ob (ixaA 4 r51 x7) fun c52 =>
 ob (partA true 0 4 c52) fun r53 =>
 E 103 [r53] H fun r54 H55 =>
 f68_j74 x1 r54 x7 H55 Q)
 (f68_j74 x1 (B false) x7 H Q))
 (ob (unA .not x4) fun r56 =>
 cndA r56
 (Q (I 1) H)
 (Q (I 0) H)) :=
  (AtF_eq Pg Hs 68 [1, 1, 1, 1, 1, 1, 1, 1, 0, 1, 0] Q _ H).trans (by kernel_rfl)
theorem f68_j74_eq (x1 : List AV) (x4 : AV) (x7 : AV) (H : Heap) (Q : Post) : f68_j74 x1 x4 x7 H Q =
 f68_l77 x1 x4 x7 (I 0) H Q :=
  (AtJ_eq Pg Hs 68 [1, 1, 1, 1, 1, 1, 1, 1, 0, 1, 0, 0, 1, 0, 0, 1] Q _ H).trans (by kernel_rfl)
theorem f68_l77_eq (x1 : List AV) (x4 : AV) (x7 : AV) (x8 : AV) (H : Heap) (Q : Post) : f68_l77 x1 x4 x7 x8 H Q =
 ob (binA Pg .lss 3 false x8 x7) fun r57 =>
 cndA r57
 (cndA x4
 (ob (partA false 10 1 x1) fun r58 =>
 ob (ixaA 4 r58 x8) fun c59 =>
 ob (partA false 0 1 (c59.drop 0)) fun r60 =>
 ob (partA false 10 1 x1) fun r61 =>
 ob (ixaA 4 r61 x7) fun c62 =>
 ob (partA false 0 1 (c62.drop 0)) fun r63 =>
 ob (binA Pg .neq 9 false r60 r63) fun r64 =>
 f68_j87 x1 r64 x7 x8 H Q)
 (f68_j87 x1 (B false) x7 x8 H Q))
 (ob (binA Pg .add 3 true x7 (I 1)) fun r65 =>
 f68_l63 x1 x4 r65 H Q) :=
  (AtF_eq Pg Hs 68 [1, 1, 1, 1, 1, 1, 1, 1, 0, 1, 0, 0, 1, 0, 0, 1, 1, 0] Q _ H).trans (by kernel_rfl)
theorem f68_j87_eq (x1 : List AV) (x4 : AV) (x7 : AV) (x8 : AV) (H : Heap) (Q : Post) : f68_j87 x1 x4 x7 x8 H Q =
 ob (binA Pg .add 3 true x8 (I 1)) fun r66 =>
 f68_l77 x1 x4 x7 r66 H Q :=
  (AtJ_eq Pg Hs 68 [1, 1, 1, 1, 1, 1, 1, 1, 0, 1, 0, 0, 1, 0, 0, 1, 1, 0, 0, 1, 1] Q _ H).trans (by kernel_rfl)
theorem f68_eq (a0 : AV) (H : Heap) (Q : Post) : E 68 [a0] H Q =
 ob (sizedA 11 a0) fun b1 =>
 ob (partA true 0 6 b1) fun r2 =>
 E 101 [r2] H fun r3 H4 =>
 ob (binA Pg .neq 3 true r3 (I 0)) fun r5 =>
 cndA r5
 (Q r3 H4)
 (ob (partA false 6 1 b1) fun r6 =>
 ob (lenA r6) fun r7 =>
 ob (binA Pg .gtr 3 true r7 (I 16)) fun r8 =>
 cndA r8
 (f68_j15 b1 (B true) H4 Q)
 (ob (partA false 10 1 b1) fun r9 =>
 ob (lenA r9) fun r10 =>
 ob (binA Pg .gtr 3 true r10 (I 16)) fun r11 =>
 f68_j15 b1 r11 H4 Q)) :=
  Ev_eq.trans (by kernel_rfl)
/-! ### 69 haruspex/haruspexref12.Made -/
def f69_j15 (x21 : AV) (H : Heap) (Q : Post) : Prop := AtJ Pg Hs 69 [1, 1, 1, 0, 1] Q [(21, .val x21)] H
theorem f69_j15_eq (x21 : AV) (H : Heap) (Q : Post) : f69_j15 x21 H Q =
 cndA x21
 (Q (I 4) H)
 (Q (I 0) H) :=
  (AtJ_eq Pg Hs 69 [1, 1, 1, 0, 1] Q _ H).trans (by kernel_rfl)
theorem f69_eq (a0 : AV) (H : Heap) (Q : Post) : E 69 [a0] H Q =
 ob (sizedA 6 a0) fun b1 =>
 ob (partA true 0 6 b1) fun r2 =>
 E 101 [r2] H fun r3 H4 =>
 ob (binA Pg .neq 3 true r3 (I 0)) fun r5 =>
 cndA r5
 (Q r3 H4)
 (ob (partA false 0 1 b1) fun r6 =>
 ob (binA Pg .eql 3 true r6 (I 6)) fun r7 =>
 cndA r7
 (f69_j15 (B true) H4 Q)
 (ob (partA true 0 6 b1) fun r8 =>
 E 104 [r8, (B true)] H4 fun r9 H10 =>
 ob (unA .not r9) fun r11 =>
 cndA r11
 (f69_j15 (B true) H10 Q)
 (ob (partA true 0 6 b1) fun r12 =>
 E 105 [r12] H10 fun r13 H14 =>
 ob (unA .not r13) fun r15 =>
 f69_j15 r15 H14 Q))) :=
  Ev_eq.trans (by kernel_rfl)
/-! ### 70 haruspex/haruspexref19.Num -/
theorem f70_eq (a0 : AV) (H : Heap) (Q : Post) : E 70 [a0] H Q =
 E 106 [a0] H fun r1 H2 =>
 Q r1 H2 :=
  Ev_eq.trans (by kernel_rfl)
/-! ### 71 slices.ContainsFunc[[]haruspex/api.Pat,haruspex/api.Pat] -/
theorem f71_eq (a0 a1 : AV) (H : Heap) (Q : Post) : E 71 [a0, a1] H Q =
 E 107 [a0, a1] H fun r1 H2 =>
 ob (binA Pg .geq 3 true r1 (I 0)) fun r3 =>
 Q r3 H2 :=
  Ev_eq.trans (by kernel_rfl)
/-! ### 72 (*haruspex/sase.printer).row -/
def f72_l3 (x0 : AV) (x2 : AV) (x8 : AV) (x9 : AV) (x10 : AV) (H : Heap) (Q : Post) : Prop := AtF Pg Hs 72 [1, 0] Q [(0, .val x0), (2, .val x2), (8, .val x8), (9, .val x9), (10, .val x10)] H
def f72_j20 (x0 : AV) (x2 : AV) (x7 : List AV) (x8 : AV) (x9 : AV) (x10 : AV) (H : Heap) (Q : Post) : Prop := AtJ Pg Hs 72 [1, 0, 0, 1, 1, 0, 0, 1, 1] Q [(0, .val x0), (2, .val x2), (7, .lbox x7), (8, .val x8), (9, .val x9), (10, .val x10)] H
theorem f72_l3_eq (x0 : AV) (x2 : AV) (x8 : AV) (x9 : AV) (x10 : AV) (H : Heap) (Q : Post) : f72_l3 x0 x2 x8 x9 x10 H Q =
 ob (binA Pg .lss 3 false x10 x9) fun r2 =>
 cndA r2
 (ob (ixaA 6 x8 x10) fun c3 =>
 ob (partA true 0 6 c3) fun r4 =>
 ob (sizedA 6 r4) fun b5 =>
 ob (spliceA 0 b5 [(I 0), (S ⟨#[]⟩), (S ⟨#[]⟩), (I 0), (I 0), (AV.sl 0 true .full [])]) fun b6 =>
 ob (binA Pg .gtr 3 true x10 (I 0)) fun r7 =>
 cndA r7
 (ob (nilA x0) fun r8 =>
 ob (addPA r8 0) fun r9 =>
 ob (mkSlA 1 [x2]) fun r10 =>
 E 32 [r9, r10] H fun r11 H12 =>
 f72_j20 x0 x2 b6 x8 x9 x10 H12 Q)
 (f72_j20 x0 x2 b6 x8 x9 x10 H Q))
 (Q (AV.tup []) H) :=
  (AtF_eq Pg Hs 72 [1, 0] Q _ H).trans (by kernel_rfl)
theorem f72_j20_eq (x0 : AV) (x2 : AV) (x7 : List AV) (x8 : AV) (x9 : AV) (x10 : AV) (H : Heap) (Q : Post) : f72_j20 x0 x2 x7 x8 x9 x10 H Q =
 ob (partA true 0 6 x7) fun r13 =>
 E 43 [x0, r13] H fun r14 H15 =>
 ob (binA Pg .add 3 true x10 (I 1)) fun r16 =>
 f72_l3 x0 x2 x8 x9 r16 H15 Q :=
  (AtJ_eq Pg Hs 72 [1, 0, 0, 1, 1, 0, 0, 1, 1] Q _ H).trans (by kernel_rfl)
theorem f72_eq (a0 a1 a2 : AV) (H : Heap) (Q : Post) : E 72 [a0, a1, a2] H Q =
 ob (lenA a1) fun r1 =>
 f72_l3 a0 a2 a1 r1 (I 0) H Q :=
  Ev_eq.trans (by kernel_rfl)
/-! ### 73 (*haruspex/clause.Printer).PutMany -/
def f73_j10 (x0 : AV) (x2 : AV) (x4 : List AV) (x10 : AV) (H : Heap) (Q : Post) : Prop := AtJ Pg Hs 73 [1, 0, 0, 1, 1, 1] Q [(0, .val x0), (2, .val x2), (4, .lbox x4), (10, .val x10)] H
def f73_j22 (x0 : AV) (x4 : List AV) (x37 : AV) (H : Heap) (Q : Post) : Prop := AtJ Pg Hs 73 [1, 1, 1, 1, 0, 1] Q [(0, .val x0), (4, .lbox x4), (37, .val x37)] H
theorem f73_j10_eq (x0 : AV) (x2 : AV) (x4 : List AV) (x10 : AV) (H : Heap) (Q : Post) : f73_j10 x0 x2 x4 x10 H Q =
 cndA x10
 (ob (mkSlA 1 [(S ⟨#[43]⟩)]) fun r8 =>
 E 32 [x0, r8] H fun r9 H10 =>
 Q (AV.tup []) H10)
 (ob (mkSlA 1 [(S ⟨#[123]⟩)]) fun r11 =>
 E 32 [x0, r11] H fun r12 H13 =>
 ob (partA false 3 1 x4) fun r14 =>
 E 67 [x0, r14] H13 fun r15 H16 =>
 ob (unA .not x2) fun r17 =>
 cndA r17
 (f73_j22 x0 x4 (B true) H16 Q)
 (ob (partA false 3 1 x4) fun r18 =>
 ob (partA false 4 1 x4) fun r19 =>
 ob (binA Pg .neq 3 false r18 r19) fun r20 =>
 f73_j22 x0 x4 r20 H16 Q)) :=
  (AtJ_eq Pg Hs 73 [1, 0, 0, 1, 1, 1] Q _ H).trans (by kernel_rfl)
theorem f73_j22_eq (x0 : AV) (x4 : List AV) (x37 : AV) (H : Heap) (Q : Post) : f73_j22 x0 x4 x37 H Q =
 cndA x37
 (ob (mkSlA 1 [(S ⟨#[44]⟩)]) fun r21 =>
 E 32 [x0, r21] H fun r22 H23 =>
 ob (partA false 4 1 x4) fun r24 =>
 ob (binA Pg .neq 3 true r24 (I 0)) fun r25 =>
 cndA r25
 (ob (partA false 4 1 x4) fun r26 =>
 E 67 [x0, r26] H23 fun r27 H28 =>
 ob (mkSlA 1 [(S ⟨#[125]⟩)]) fun r29 =>
 E 32 [x0, r29] H28 fun r30 H31 =>
 Q (AV.tup []) H31)
 (ob (mkSlA 1 [(S ⟨#[125]⟩)]) fun r32 =>
 E 32 [x0, r32] H23 fun r33 H34 =>
 Q (AV.tup []) H34))
 (ob (mkSlA 1 [(S ⟨#[125]⟩)]) fun r35 =>
 E 32 [x0, r35] H fun r36 H37 =>
 Q (AV.tup []) H37) :=
  (AtJ_eq Pg Hs 73 [1, 1, 1, 1, 0, 1] Q _ H).trans (by kernel_rfl)
theorem f73_eq (a0 a1 a2 : AV) (H : Heap) (Q : Post) : E 73 [a0, a1, a2] H Q =
 ob (sizedA 6 a1) fun b1 =>
 ob (partA false 0 1 b1) fun r2 =>
 ob (binA Pg .neq 3 true r2 (I 5)) fun r3 =>
 cndA r3
 (Q (AV.tup []) H)
 (ob (partA false 3 1 b1) fun r4 =>
 ob (binA Pg .eql 3 true r4 (I 1)) fun r5 =>
 cndA r5
 (ob (partA false 4 1 b1) fun r6 =>
 ob (binA Pg .eql 3 true r6 (I 0)) fun r7 =>
 f73_j10 a0 a2 b1 r7 H Q)
 (f73_j10 a0 a2 b1 (B false) H Q)) :=
  Ev_eq.trans (by kernel_rfl)
/-! ### 74 haruspex/clause.calls -/
theorem f74_eq (_u : Unit := ()) (H : Heap) (Q : Post) : E 74 [] H Q =
 newH H [(S ⟨#[]⟩), (I 0), (S ⟨#[]⟩), (I 0), (S ⟨#[]⟩), (I 0), (S ⟨#[]⟩), (I 0)] fun r1 H2 =>
 ob (bldA [(0, 1, (S ⟨#[70, 73, 82, 83, 84]⟩)), (1, 1, (I 1))] [(S ⟨#[]⟩), (I 0)]) fun r3 =>
 ob (bldA [(0, 1, (S ⟨#[76, 65, 83, 84]⟩)), (1, 1, (I 2))] [(S ⟨#[]⟩), (I 0)]) fun r4 =>
 ob (bldA [(0, 1, (S ⟨#[67, 79, 85, 78, 84]⟩)), (1, 1, (I 3))] [(S ⟨#[]⟩), (I 0)]) fun r5 =>
 ob (bldA [(0, 1, (S ⟨#[83, 85, 77]⟩)), (1, 1, (I 4))] [(S ⟨#[]⟩), (I 0)]) fun r6 =>
 ob (bldA [(0, 2, r3), (2, 2, r4), (4, 2, r5), (6, 2, r6)] [(S ⟨#[]⟩), (I 0), (S ⟨#[]⟩), (I 0), (S ⟨#[]⟩), (I 0), (S ⟨#[]⟩), (I 0)]) fun r7 =>
 ob (stH H2 8 r1 r7) fun H8 =>
 ob (ldH H8 true 8 r1) fun r9 =>
 Q r9 H8 :=
  Ev_eq.trans (by kernel_rfl)
/-! ### 75 haruspex/haruspexref19.Quant -/
def f75_j12 (x1 : AV) (x2 : List AV) (x9 : AV) (H : Heap) (Q : Post) : Prop := AtJ Pg Hs 75 [1, 0, 0, 1, 1, 1] Q [(1, .val x1), (2, .lbox x2), (9, .val x9)] H
def f75_j24 (x2 : List AV) (x27 : AV) (H : Heap) (Q : Post) : Prop := AtJ Pg Hs 75 [1, 0, 0, 1, 1, 1, 1, 1, 1, 1] Q [(2, .lbox x2), (27, .val x27)] H
theorem f75_j12_eq (x1 : AV) (x2 : List AV) (x9 : AV) (H : Heap) (Q : Post) : f75_j12 x1 x2 x9 H Q =
 cndA x9
 (Q (S ⟨#[43]⟩) H)
 (ob (partA false 4 1 x2) fun r8 =>
 ob (binA Pg .eql 3 true r8 (I 0)) fun r9 =>
 cndA r9
 (ob (partA false 3 1 x2) fun r10 =>
 E 70 [r10] H fun r11 H12 =>
 ob (binA Pg .add 9 true (S ⟨#[123]⟩) r11) fun r13 =>
 ob (binA Pg .add 9 true r13 (S ⟨#[44, 125]⟩)) fun r14 =>
 Q r14 H12)
 (cndA x1
 (ob (partA false 3 1 x2) fun r15 =>
 ob (partA false 4 1 x2) fun r16 =>
 ob (binA Pg .eql 3 false r15 r16) fun r17 =>
 f75_j24 x2 r17 H Q)
 (f75_j24 x2 (B false) H Q))) :=
  (AtJ_eq Pg Hs 75 [1, 0, 0, 1, 1, 1] Q _ H).trans (by kernel_rfl)
theorem f75_j24_eq (x2 : List AV) (x27 : AV) (H : Heap) (Q : Post) : f75_j24 x2 x27 H Q =
 cndA x27
 (ob (partA false 3 1 x2) fun r18 =>
 E 70 [r18] H fun r19 H20 =>
 ob (binA Pg .add 9 true (S ⟨#[123]⟩) r19) fun r21 =>
 ob (binA Pg .add 9 true r21 (S ⟨#[125]⟩)) fun r22 =>
 Q r22 H20)
 (ob (partA false 3 1 x2) fun r23 =>
 ob (partA false 4 1 x2) fun r24 =>
 E 70 [r23] H fun r25 H26 =>
 ob (binA Pg .add 9 true (S ⟨#[123]⟩) r25) fun r27 =>
 ob (binA Pg .add 9 true r27 (S ⟨#[44]⟩)) fun r28 =>
 E 70 [r24] H26 fun r29 H30 =>
 ob (binA Pg .add 9 false r28 r29) fun r31 =>
 ob (binA Pg .add 9 true r31 (S ⟨#[125]⟩)) fun r32 =>
 Q r32 H30) :=
  (AtJ_eq Pg Hs 75 [1, 0, 0, 1, 1, 1, 1, 1, 1, 1] Q _ H).trans (by kernel_rfl)
theorem f75_eq (a0 a1 : AV) (H : Heap) (Q : Post) : E 75 [a0, a1] H Q =
 ob (sizedA 6 a0) fun b1 =>
 ob (partA false 0 1 b1) fun r2 =>
 ob (binA Pg .neq 3 true r2 (I 5)) fun r3 =>
 cndA r3
 (Q (S ⟨#[]⟩) H)
 (ob (partA false 3 1 b1) fun r4 =>
 ob (binA Pg .eql 3 true r4 (I 1)) fun r5 =>
 cndA r5
 (ob (partA false 4 1 b1) fun r6 =>
 ob (binA Pg .eql 3 true r6 (I 0)) fun r7 =>
 f75_j12 a1 b1 r7 H Q)
 (f75_j12 a1 b1 (B false) H Q)) :=
  Ev_eq.trans (by kernel_rfl)
/-! ### 76 haruspex/mr.lacking -/
def f76_j6 (x2 : AV) (H : Heap) (Q : Post) : Prop := AtJ Pg Hs 76 [1, 1, 1] Q [(2, .val x2)] H
theorem f76_j6_eq (x2 : AV) (H : Heap) (Q : Post) : f76_j6 x2 H Q =
 Q x2 H :=
  (AtJ_eq Pg Hs 76 [1, 1, 1] Q _ H).trans (by kernel_rfl)
theorem f76_eq (a0 : AV) (H : Heap) (Q : Post) : E 76 [a0] H Q =
 ob (sizedA 6 a0) fun b1 =>
 newH H b1 fun r2 H3 =>
 ob (addPA r2 0) fun r4 =>
 ob (ldH H3 false 1 r4) fun r5 =>
 ob (binA Pg .eql 3 true r5 (I 6)) fun r6 =>
 cndA r6
 (f76_j6 (B true) H3 Q)
 (ob (addPA r2 5) fun r7 =>
 ob (ldH H3 false 1 r7) fun r8 =>
 E 71 [r8, (AV.fn (.func 108) [] [r2])] H3 fun r9 H10 =>
 f76_j6 r9 H10 Q) :=
  Ev_eq.trans (by kernel_rfl)
/-! ### 77 (*haruspex/mr.printer).row -/
def f77_l3 (x0 : AV) (x2 : AV) (x3 : AV) (x10 : AV) (x11 : AV) (x12 : AV) (H : Heap) (Q : Post) : Prop := AtF Pg Hs 77 [1, 0] Q [(0, .val x0), (2, .val x2), (3, .val x3), (10, .val x10), (11, .val x11), (12, .val x12)] H
def f77_j20 (x0 : AV) (x2 : AV) (x3 : AV) (x9 : List AV) (x10 : AV) (x11 : AV) (x12 : AV) (H : Heap) (Q : Post) : Prop := AtJ Pg Hs 77 [1, 0, 0, 1, 1, 0, 0, 1, 1] Q [(0, .val x0), (2, .val x2), (3, .val x3), (9, .lbox x9), (10, .val x10), (11, .val x11), (12, .val x12)] H
theorem f77_l3_eq (x0 : AV) (x2 : AV) (x3 : AV) (x10 : AV) (x11 : AV) (x12 : AV) (H : Heap) (Q : Post) : f77_l3 x0 x2 x3 x10 x11 x12 H Q =
 ob (binA Pg .lss 3 false x12 x11) fun r2 =>
 cndA r2
 (ob (ixaA 6 x10 x12) fun c3 =>
 ob (partA true 0 6 c3) fun r4 =>
 ob (sizedA 6 r4) fun b5 =>
 ob (spliceA 0 b5 [(I 0), (S ⟨#[]⟩), (S ⟨#[]⟩), (I 0), (I 0), (AV.sl 0 true .full [])]) fun b6 =>
 ob (binA Pg .gtr 3 true x12 (I 0)) fun r7 =>
 cndA r7
 (ob (nilA x0) fun r8 =>
 ob (addPA r8 0) fun r9 =>
 ob (mkSlA 1 [x2]) fun r10 =>
 E 32 [r9, r10] H fun r11 H12 =>
 f77_j20 x0 x2 x3 b6 x10 x11 x12 H12 Q)
 (f77_j20 x0 x2 x3 b6 x10 x11 x12 H Q))
 (Q (AV.tup []) H) :=
  (AtF_eq Pg Hs 77 [1, 0] Q _ H).trans (by kernel_rfl)
theorem f77_j20_eq (x0 : AV) (x2 : AV) (x3 : AV) (x9 : List AV) (x10 : AV) (x11 : AV) (x12 : AV) (H : Heap) (Q : Post) : f77_j20 x0 x2 x3 x9 x10 x11 x12 H Q =
 ob (partA true 0 6 x9) fun r13 =>
 E 49 [x0, r13, x3] H fun r14 H15 =>
 ob (binA Pg .add 3 true x12 (I 1)) fun r16 =>
 f77_l3 x0 x2 x3 x10 x11 r16 H15 Q :=
  (AtJ_eq Pg Hs 77 [1, 0, 0, 1, 1, 0, 0, 1, 1] Q _ H).trans (by kernel_rfl)
theorem f77_eq (a0 a1 a2 a3 : AV) (H : Heap) (Q : Post) : E 77 [a0, a1, a2, a3] H Q =
 ob (lenA a1) fun r1 =>
 f77_l3 a0 a2 a3 a1 r1 (I 0) H Q :=
  Ev_eq.trans (by kernel_rfl)
/-! ### 78 haruspex/pat.Vars -/
noncomputable def f78_L10 (y5 : AV) (y6 : AV) (y7 : AV) : LoopInfo := loopF Pg Hs 78 [1, 1, 1, 0, 1, 0] 10 [(5, .val y5), (6, .val y6), (7, .val y7)]
def f78_j20 (x5 : AV) (x6 : AV) (x7 : AV) (H : Heap) (Q : Post) : Prop := AtJ Pg Hs 78 [1, 1, 1, 1] Q [(5, .val x5), (6, .val x6), (7, .val x7)] H
def f78_j16 (y5 : AV) (y6 : AV) (y7 : AV) (l : Nat) (x5 : AV) (x6 : AV) (x7 : AV) (x8 : List AV) (x23 : AV) (H : Heap) (Q : Post) : Prop := AtYj Pg Hs (f78_L10 y5 y6 y7) l [0, 0, 1] Q [(5, .val x5), (6, .val x6), (7, .val x7), (8, .lbox x8), (23, .val x23)] H
theorem f78_j20_eq (x5 : AV) (x6 : AV) (x7 : AV) (H : Heap) (Q : Post) : f78_j20 x5 x6 x7 H Q =
 ob (ldH H false 1 x5) fun r16 =>
 ob (ldH H false 1 x6) fun r17 =>
 ob (ldH H false 1 x7) fun r18 =>
 Q (AV.tup [r16, r17, r18]) H :=
  (AtJ_eq Pg Hs 78 [1, 1, 1, 1] Q _ H).trans (by kernel_rfl)
theorem f78_j16_eq (y5 : AV) (y6 : AV) (y7 : AV) (l : Nat) (x5 : AV) (x6 : AV) (x7 : AV) (x8 : List AV) (x23 : AV) (H : Heap) (Q : Post) : f78_j16 y5 y6 y7 l x5 x6 x7 x8 x23 H Q =
 cndA x23
 (endA l H true .ready Q)
 (ob (ldH H false 1 x5) fun r30 =>
 ob (partA false 1 1 x8) fun r31 =>
 ob (mkSlA 1 [r31]) fun r32 =>
 apL x6 []
 (ob (ldH H false 1 x6) fun r33 =>
 ob (partA false 2 1 x8) fun r34 =>
 ob (mkSlA 1 [r34]) fun r35 =>
 apL x7 []
 (ob (ldH H false 1 x7) fun r36 =>
 ob (partA false 0 1 x8) fun r37 =>
 ob (mkSlA 1 [r37]) fun r38 =>
 appA 1 16 r30 r32 H fun r39 H40 =>
 appA 1 16 r33 r35 H40 fun r41 H42 =>
 appA 1 8 r36 r38 H42 fun r43 H44 =>
 ob (stH H44 1 x5 r39) fun H45 =>
 ob (stH H45 1 x6 r41) fun H46 =>
 ob (stH H46 1 x7 r43) fun H47 =>
 endA l H47 true .ready Q))) :=
  (AtYj_eq Pg Hs _ l [0, 0, 1] Q _ H).trans (by kernel_rfl)
theorem f78_y10_eq (y5 : AV) (y6 : AV) (y7 : AV) (l : Nat) (a0 : AV) (H : Heap) (Q : Post) : EY Pg Hs (f78_L10 y5 y6 y7) l [a0] H Q =
 ob (sizedA 7 a0) fun b19 =>
 ob (spliceA 0 b19 [(I 0), (S ⟨#[]⟩), (S ⟨#[]⟩), (I 0), (I 0), (AV.sl 0 true .full []), (I 0)]) fun b20 =>
 beginA l H fun H21 =>
 ob (partA false 0 1 b20) fun r22 =>
 E 110 [r22] H21 fun r23 H24 =>
 ob (unA .not r23) fun r25 =>
 cndA r25
 (f78_j16 y5 y6 y7 l y5 y6 y7 b20 (B true) H24 Q)
 (ob (ldH H24 false 1 y5) fun r26 =>
 ob (partA false 1 1 b20) fun r27 =>
 E 111 [r26, r27] H24 fun r28 H29 =>
 f78_j16 y5 y6 y7 l y5 y6 y7 b20 r28 H29 Q) := by kernel_rfl
theorem f78_eq (a0 : AV) (H : Heap) (Q : Post) : E 78 [a0] H Q =
 ob (sizedA 6 a0) fun b1 =>
 newH H [(AV.sl 0 true .full [])] fun r2 H3 =>
 newH H3 [(AV.sl 0 true .full [])] fun r4 H5 =>
 newH H5 [(AV.sl 0 true .full [])] fun r6 H7 =>
 ob (partA true 0 6 b1) fun r8 =>
 E 109 [r8] H7 fun r9 H10 =>
 aroundA none H10 ∧ rngF (Ev Pg Hs) r9 (f78_L10 r2 r4 r6) H10 fun l11 H12 =>
 overA l11 H12 (fun H13 =>
 f78_j20 r2 r4 r6 H13 Q) (fun j H14 =>
 exA j 0 (f78_j20 r2 r4 r6 H14 Q) (False)) (fun H15 =>
 Q (AV.tup [(AV.sl 0 true .full []), (AV.sl 0 true .full []), (AV.sl 0 true .full [])]) H15) :=
  Ev_eq.trans (by kernel_rfl)
/-! ### 79 haruspex/haruspexref12.Uses -/
def f79_j7 (x1 : List AV) (x3 : AV) (x17 : AV) (H : Heap) (Q : Post) : Prop := AtJ Pg Hs 79 [1, 1, 0, 1] Q [(1, .lbox x1), (3, .val x3), (17, .val x17)] H
def f79_l14 (x1 : List AV) (x3 : AV) (x4 : AV) (H : Heap) (Q : Post) : Prop := AtF Pg Hs 79 [1, 1, 1, 0, 1, 0] Q [(1, .lbox x1), (3, .val x3), (4, .val x4)] H
theorem f79_j7_eq (x1 : List AV) (x3 : AV) (x17 : AV) (H : Heap) (Q : Post) : f79_j7 x1 x3 x17 H Q =
 cndA x17
 (ob (partA false 1 1 x1) fun r8 =>
 ob (partA false 2 1 x1) fun r9 =>
 ob (partA false 0 1 x1) fun r10 =>
 ob (bldA [(0, 1, r8), (1, 1, r9), (2, 1, r10)] [(S ⟨#[]⟩), (S ⟨#[]⟩), (I 0)]) fun r11 =>
 ob (mkSlA 3 [r11]) fun r12 =>
 appA 3 40 x3 r12 H fun r13 H14 =>
 f79_l14 x1 r13 (I 0) H14 Q)
 (f79_l14 x1 x3 (I 0) H Q) :=
  (AtJ_eq Pg Hs 79 [1, 1, 0, 1] Q _ H).trans (by kernel_rfl)
theorem f79_l14_eq (x1 : List AV) (x3 : AV) (x4 : AV) (H : Heap) (Q : Post) : f79_l14 x1 x3 x4 H Q =
 ob (partA false 5 1 x1) fun r15 =>
 ob (lenA r15) fun r16 =>
 ob (binA Pg .lss 3 false x4 r16) fun r17 =>
 cndA r17
 (ob (partA false 5 1 x1) fun r18 =>
 ob (ixaA 6 r18 x4) fun c19 =>
 ob (partA true 0 6 c19) fun r20 =>
 E 79 [r20] H fun r21 H22 =>
 appA 3 40 x3 r21 H22 fun r23 H24 =>
 ob (binA Pg .add 3 true x4 (I 1)) fun r25 =>
 f79_l14 x1 r23 r25 H24 Q)
 (Q x3 H) :=
  (AtF_eq Pg Hs 79 [1, 1, 1, 0, 1, 0] Q _ H).trans (by kernel_rfl)
theorem f79_eq (a0 : AV) (H : Heap) (Q : Post) : E 79 [a0] H Q =
 ob (sizedA 6 a0) fun b1 =>
 ob (partA false 0 1 b1) fun r2 =>
 ob (binA Pg .eql 3 true r2 (I 1)) fun r3 =>
 cndA r3
 (f79_j7 b1 (AV.sl 0 true .full []) (B true) H Q)
 (ob (partA false 0 1 b1) fun r4 =>
 ob (binA Pg .eql 3 true r4 (I 5)) fun r5 =>
 cndA r5
 (f79_j7 b1 (AV.sl 0 true .full []) (B true) H Q)
 (ob (partA false 0 1 b1) fun r6 =>
 ob (binA Pg .eql 3 true r6 (I 6)) fun r7 =>
 f79_j7 b1 (AV.sl 0 true .full []) r7 H Q)) :=
  Ev_eq.trans (by kernel_rfl)
/-! ### 80 haruspex/lex.New -/
theorem f80_eq (a0 : AV) (H : Heap) (Q : Post) : E 80 [a0] H Q =
 E 112 [a0] H fun r1 H2 =>
 ob (extractA r1 0) fun r3 =>
 ob (extractA r1 1) fun r4 =>
 ob (extractA r1 2) fun r5 =>
 ob (binA Pg .neq 31 true r5 (I 0)) fun r6 =>
 cndA r6
 (Q (AV.tup [(AV.raw (.pointer none)), r4, r5]) H2)
 (ob (bldA [(0, 1, r3)] [(AV.sl 0 true .full []), (I 0)]) fun r7 =>
 ob (sizedA 2 r7) fun b8 =>
 newH H2 b8 fun r9 H10 =>
 Q (AV.tup [r9, r4, (I 0)]) H10) :=
  Ev_eq.trans (by kernel_rfl)
/-! ### 82 (*haruspex/lex.Reader).Peek -/
theorem f82_eq (a0 : AV) (H : Heap) (Q : Post) : E 82 [a0] H Q =
 E 114 [a0] H fun r1 H2 =>
 cndA r1
 (ob (bldA [(0, 1, (I 6))] [(I 0), (S ⟨#[]⟩), (I 0)]) fun r3 =>
 ob (sizedA 3 r3) fun b4 =>
 ob (spliceA 0 b4 [(I 0), (S ⟨#[]⟩), (I 0)]) fun b5 =>
 ob (partA true 0 3 b5) fun r6 =>
 Q r6 H2)
 (ob (nilA a0) fun r7 =>
 ob (addPA r7 0) fun r8 =>
 ob (ldH H2 false 1 r8) fun r9 =>
 ob (nilA a0) fun r10 =>
 ob (addPA r10 1) fun r11 =>
 ob (ldH H2 false 1 r11) fun r12 =>
 ob (ixaA 3 r9 r12) fun c13 =>
 ob (partA true 0 3 c13) fun r14 =>
 ob (sizedA 3 r14) fun b15 =>
 ob (spliceA 0 b15 [(I 0), (S ⟨#[]⟩), (I 0)]) fun b16 =>
 ob (partA true 0 3 b16) fun r17 =>
 Q r17 H2) :=
  Ev_eq.trans (by kernel_rfl)
/-! ### 83 (*haruspex/lex.Reader).At -/
theorem f83_eq (a0 : AV) (H : Heap) (Q : Post) : E 83 [a0] H Q =
 E 82 [a0] H fun r1 H2 =>
 fldK false 2 1 r1 fun r3 =>
 Q r3 H2 :=
  Ev_eq.trans (by kernel_rfl)
/-! ### 84 haruspex/expr.nodes -/
theorem f84_eq (a0 : AV) (H : Heap) (Q : Post) : E 84 [a0] H Q =
 ob (sizedA 7 a0) fun b1 =>
 newH H b1 fun r2 H3 =>
 Q (AV.fn (.func 115) [] [r2]) H3 :=
  Ev_eq.trans (by kernel_rfl)
/-! ### 85 haruspex/expr.right -/
def f85_c3_7a (x1 : List AV) (x18 : AV) (H : Heap) (Q : Post) : Prop := AtJ Pg Hs 85 [1, 1, 0, 0, 1, 0, 0, 7] Q [(1, .lbox x1), (18, .val x18)] H
def f85_c3_7b (x1 : List AV) (H : Heap) (Q : Post) : Prop := AtJ Pg Hs 85 [1, 1, 0, 0, 1, 0, 0, 7] Q [(1, .lbox x1), (18, .val (B false))] H
def f85_c5_8a (x1 : List AV) (x40 : AV) (H : Heap) (Q : Post) : Prop := AtJ Pg Hs 85 [1, 1, 0, 0, 1, 1, 1, 0, 0, 8] Q [(1, .lbox x1), (40, .val x40)] H
def f85_c5_8b (x1 : List AV) (H : Heap) (Q : Post) : Prop := AtJ Pg Hs 85 [1, 1, 0, 0, 1, 1, 1, 0, 0, 8] Q [(1, .lbox x1), (40, .val (B false))] H
def f85_j30 (x1 : List AV) (x3 : AV) (x55 : AV) (H : Heap) (Q : Post) : Prop := AtJ Pg Hs 85 [1, 1, 0, 0, 1, 1, 1, 1, 1, 1, 1] Q [(1, .lbox x1), (3, .val x3), (55, .val x55)] H
def f85_c3_12a (x1 : List AV) (x23 : AV) (H : Heap) (Q : Post) : Prop := AtJ Pg Hs 85 [1, 1, 0, 0, 1, 0, 0, 12] Q [(1, .lbox x1), (23, .val x23)] H
def f85_c3_12b (x1 : List AV) (H : Heap) (Q : Post) : Prop := AtJ Pg Hs 85 [1, 1, 0, 0, 1, 0, 0, 12] Q [(1, .lbox x1), (23, .val (B false))] H
def f85_c5_13a (x1 : List AV) (x45 : AV) (H : Heap) (Q : Post) : Prop := AtJ Pg Hs 85 [1, 1, 0, 0, 1, 1, 1, 0, 0, 13] Q [(1, .lbox x1), (45, .val x45)] H
def f85_c5_13b (x1 : List AV) (H : Heap) (Q : Post) : Prop := AtJ Pg Hs 85 [1, 1, 0, 0, 1, 1, 1, 0, 0, 13] Q [(1, .lbox x1), (45, .val (B false))] H
def f85_j36 (x1 : List AV) (x3 : AV) (x64 : AV) (H : Heap) (Q : Post) : Prop := AtJ Pg Hs 85 [1, 1, 0, 0, 1, 1, 1, 1, 1, 1, 1, 1, 1] Q [(1, .lbox x1), (3, .val x3), (64, .val x64)] H
def f85_c3_17a (x1 : List AV) (x28 : AV) (H : Heap) (Q : Post) : Prop := AtJ Pg Hs 85 [1, 1, 0, 0, 1, 0, 0, 17] Q [(1, .lbox x1), (28, .val x28)] H
def f85_c3_17b (x1 : List AV) (H : Heap) (Q : Post) : Prop := AtJ Pg Hs 85 [1, 1, 0, 0, 1, 0, 0, 17] Q [(1, .lbox x1), (28, .val (B false))] H
def f85_c5_18a (x1 : List AV) (x50 : AV) (H : Heap) (Q : Post) : Prop := AtJ Pg Hs 85 [1, 1, 0, 0, 1, 1, 1, 0, 0, 18] Q [(1, .lbox x1), (50, .val x50)] H
def f85_c5_18b (x1 : List AV) (H : Heap) (Q : Post) : Prop := AtJ Pg Hs 85 [1, 1, 0, 0, 1, 1, 1, 0, 0, 18] Q [(1, .lbox x1), (50, .val (B false))] H
def f85_j45 (x2 : AV) (H : Heap) (Q : Post) : Prop := AtJ Pg Hs 85 [1, 1, 1, 1, 1] Q [(2, .val x2)] H
def f85_j11 (x2 : AV) (H : Heap) (Q : Post) : Prop := AtJ Pg Hs 85 [1, 1, 0, 0, 1, 0, 1] Q [(2, .val x2)] H
def f85_j17 (x2 : AV) (H : Heap) (Q : Post) : Prop := AtJ Pg Hs 85 [1, 1, 0, 0, 1, 1, 1, 0, 1] Q [(2, .val x2)] H
theorem f85_c3_7a_eq (x1 : List AV) (x18 : AV) (H : Heap) (Q : Post) : f85_c3_7a x1 x18 H Q =
 cndA x18
 (ob (partA false 4 1 x1) fun r24 =>
 ob (binA Pg .eql 9 true r24 (S ⟨#[]⟩)) fun r25 =>
 f85_c3_12a x1 r25 H Q)
 (f85_c3_12b x1 H Q) :=
  (AtJ_eq Pg Hs 85 [1, 1, 0, 0, 1, 0, 0, 7] Q _ H).trans (by kernel_rfl)
theorem f85_c3_7b_eq (x1 : List AV) (H : Heap) (Q : Post) : f85_c3_7b x1 H Q =
 f85_c3_12b x1 H Q :=
  (AtJ_eq Pg Hs 85 [1, 1, 0, 0, 1, 0, 0, 7] Q _ H).trans (by kernel_rfl)
theorem f85_c5_8a_eq (x1 : List AV) (x40 : AV) (H : Heap) (Q : Post) : f85_c5_8a x1 x40 H Q =
 cndA x40
 (ob (partA false 4 1 x1) fun r26 =>
 E 118 [r26] H fun r27 H28 =>
 f85_c5_13a x1 r27 H28 Q)
 (f85_c5_13b x1 H Q) :=
  (AtJ_eq Pg Hs 85 [1, 1, 0, 0, 1, 1, 1, 0, 0, 8] Q _ H).trans (by kernel_rfl)
theorem f85_c5_8b_eq (x1 : List AV) (H : Heap) (Q : Post) : f85_c5_8b x1 H Q =
 f85_c5_13b x1 H Q :=
  (AtJ_eq Pg Hs 85 [1, 1, 0, 0, 1, 1, 1, 0, 0, 8] Q _ H).trans (by kernel_rfl)
theorem f85_j30_eq (x1 : List AV) (x3 : AV) (x55 : AV) (H : Heap) (Q : Post) : f85_j30 x1 x3 x55 H Q =
 cndA x55
 (ob (binA Pg .eql 3 true x3 (I 1)) fun r29 =>
 Q r29 H)
 (ob (partA false 0 1 x1) fun r30 =>
 ob (binA Pg .geq 3 true r30 (I 4)) fun r31 =>
 cndA r31
 (ob (partA false 0 1 x1) fun r32 =>
 ob (binA Pg .leq 3 true r32 (I 14)) fun r33 =>
 f85_j36 x1 x3 r33 H Q)
 (f85_j36 x1 x3 (B false) H Q)) :=
  (AtJ_eq Pg Hs 85 [1, 1, 0, 0, 1, 1, 1, 1, 1, 1, 1] Q _ H).trans (by kernel_rfl)
theorem f85_c3_12a_eq (x1 : List AV) (x23 : AV) (H : Heap) (Q : Post) : f85_c3_12a x1 x23 H Q =
 cndA x23
 (ob (partA false 5 1 x1) fun r34 =>
 ob (binA Pg .eql 9 true r34 (S ⟨#[]⟩)) fun r35 =>
 f85_c3_17a x1 r35 H Q)
 (f85_c3_17b x1 H Q) :=
  (AtJ_eq Pg Hs 85 [1, 1, 0, 0, 1, 0, 0, 12] Q _ H).trans (by kernel_rfl)
theorem f85_c3_12b_eq (x1 : List AV) (H : Heap) (Q : Post) : f85_c3_12b x1 H Q =
 f85_c3_17b x1 H Q :=
  (AtJ_eq Pg Hs 85 [1, 1, 0, 0, 1, 0, 0, 12] Q _ H).trans (by kernel_rfl)
theorem f85_c5_13a_eq (x1 : List AV) (x45 : AV) (H : Heap) (Q : Post) : f85_c5_13a x1 x45 H Q =
 cndA x45
 (ob (partA false 5 1 x1) fun r36 =>
 E 118 [r36] H fun r37 H38 =>
 f85_c5_18a x1 r37 H38 Q)
 (f85_c5_18b x1 H Q) :=
  (AtJ_eq Pg Hs 85 [1, 1, 0, 0, 1, 1, 1, 0, 0, 13] Q _ H).trans (by kernel_rfl)
theorem f85_c5_13b_eq (x1 : List AV) (H : Heap) (Q : Post) : f85_c5_13b x1 H Q =
 f85_c5_18b x1 H Q :=
  (AtJ_eq Pg Hs 85 [1, 1, 0, 0, 1, 1, 1, 0, 0, 13] Q _ H).trans (by kernel_rfl)
theorem f85_j36_eq (x1 : List AV) (x3 : AV) (x64 : AV) (H : Heap) (Q : Post) : f85_j36 x1 x3 x64 H Q =
 cndA x64
 (ob (binA Pg .eql 3 true x3 (I 2)) fun r39 =>
 Q r39 H)
 (newH H x1 fun r40 H41 =>
 ob (addPA r40 0) fun r42 =>
 ob (ldH H41 false 1 r42) fun r43 =>
 E 121 [r43] H41 fun r44 H45 =>
 cndA r44
 (ob (binA Pg .geq 3 true x3 (I 2)) fun r46 =>
 cndA r46
 (ob (addPA r40 6) fun r47 =>
 ob (ldH H45 false 1 r47) fun r48 =>
 E 122 [r48, (AV.fn (.func 120) [] [r40])] H45 fun r49 H50 =>
 ob (unA .not r49) fun r51 =>
 f85_j45 r51 H50 Q)
 (f85_j45 (B false) H45 Q))
 (f85_j45 (B false) H45 Q)) :=
  (AtJ_eq Pg Hs 85 [1, 1, 0, 0, 1, 1, 1, 1, 1, 1, 1, 1, 1] Q _ H).trans (by kernel_rfl)
theorem f85_c3_17a_eq (x1 : List AV) (x28 : AV) (H : Heap) (Q : Post) : f85_c3_17a x1 x28 H Q =
 f85_j11 x28 H Q :=
  (AtJ_eq Pg Hs 85 [1, 1, 0, 0, 1, 0, 0, 17] Q _ H).trans (by kernel_rfl)
theorem f85_c3_17b_eq (x1 : List AV) (H : Heap) (Q : Post) : f85_c3_17b x1 H Q =
 f85_j11 (B false) H Q :=
  (AtJ_eq Pg Hs 85 [1, 1, 0, 0, 1, 0, 0, 17] Q _ H).trans (by kernel_rfl)
theorem f85_c5_18a_eq (x1 : List AV) (x50 : AV) (H : Heap) (Q : Post) : f85_c5_18a x1 x50 H Q =
 f85_j17 x50 H Q :=
  (AtJ_eq Pg Hs 85 [1, 1, 0, 0, 1, 1, 1, 0, 0, 18] Q _ H).trans (by kernel_rfl)
theorem f85_c5_18b_eq (x1 : List AV) (H : Heap) (Q : Post) : f85_c5_18b x1 H Q =
 f85_j17 (B false) H Q :=
  (AtJ_eq Pg Hs 85 [1, 1, 0, 0, 1, 1, 1, 0, 0, 18] Q _ H).trans (by kernel_rfl)
theorem f85_j45_eq (x2 : AV) (H : Heap) (Q : Post) : f85_j45 x2 H Q =
 Q x2 H :=
  (AtJ_eq Pg Hs 85 [1, 1, 1, 1, 1] Q _ H).trans (by kernel_rfl)
theorem f85_j11_eq (x2 : AV) (H : Heap) (Q : Post) : f85_j11 x2 H Q =
 Q x2 H :=
  (AtJ_eq Pg Hs 85 [1, 1, 0, 0, 1, 0, 1] Q _ H).trans (by kernel_rfl)
theorem f85_j17_eq (x2 : AV) (H : Heap) (Q : Post) : f85_j17 x2 H Q =
 Q x2 H :=
  (AtJ_eq Pg Hs 85 [1, 1, 0, 0, 1, 1, 1, 0, 1] Q _ H).trans (by kernel_rfl)
theorem f85_eq (a0 : AV) (H : Heap) (Q : Post) : E 85 [a0] H Q =
 ob (sizedA 7 a0) fun b1 =>
 ob (partA false 6 1 b1) fun r2 =>
 ob (lenA r2) fun r3 =>
 ob (partA false 0 1 b1) fun r4 =>
 ob (binA Pg .eql 3 true r4 (I 1)) fun r5 =>
 cndA r5
 (ob (binA Pg .eql 3 true r3 (I 0)) fun r6 =>
 cndA r6
 (ob (partA true 1 3 b1) fun r7 =>
 E 117 [r7] H fun r8 H9 =>
 f85_c3_7a b1 r8 H9 Q)
 (f85_c3_7b b1 H Q))
 (ob (partA false 0 1 b1) fun r10 =>
 ob (binA Pg .eql 3 true r10 (I 2)) fun r11 =>
 cndA r11
 (ob (binA Pg .eql 3 true r3 (I 0)) fun r12 =>
 cndA r12
 (ob (partA true 1 3 b1) fun r13 =>
 ob (bldA [] [(I 0), (I 0), (S ⟨#[]⟩)]) fun r14 =>
 ob (binA Pg .eql 37 false r13 r14) fun r15 =>
 f85_c5_8a b1 r15 H Q)
 (f85_c5_8b b1 H Q))
 (ob (partA true 0 7 b1) fun r16 =>
 E 119 [r16] H fun r17 H18 =>
 ob (unA .not r17) fun r19 =>
 cndA r19
 (Q (B false) H18)
 (ob (partA false 0 1 b1) fun r20 =>
 ob (binA Pg .eql 3 true r20 (I 3)) fun r21 =>
 cndA r21
 (f85_j30 b1 r3 r21 H18 Q)
 (ob (partA false 0 1 b1) fun r22 =>
 ob (binA Pg .eql 3 true r22 (I 15)) fun r23 =>
 f85_j30 b1 r3 r23 H18 Q)))) :=
  Ev_eq.trans (by kernel_rfl)
/-! ### 86 haruspex/cond.level -/
def f86_j52 (x42 : AV) (H : Heap) (Q : Post) : Prop := AtJ Pg Hs 86 [1, 1, 0, 1, 1] Q [(42, .val x42)] H
theorem f86_j52_eq (x42 : AV) (H : Heap) (Q : Post) : f86_j52 x42 H Q =
 cndA x42
 (Q (I 7) H)
 (Q (I 8) H) :=
  (AtJ_eq Pg Hs 86 [1, 1, 0, 1, 1] Q _ H).trans (by kernel_rfl)
theorem f86_eq (a0 : AV) (H : Heap) (Q : Post) : E 86 [a0] H Q =
 ob (sizedA 7 a0) fun b1 =>
 ob (partA false 0 1 b1) fun r2 =>
 ob (binA Pg .eql 3 true r2 (I 17)) fun r3 =>
 cndA r3
 (Q (I 1) H)
 (ob (partA false 0 1 b1) fun r4 =>
 ob (binA Pg .eql 3 true r4 (I 16)) fun r5 =>
 cndA r5
 (Q (I 2) H)
 (ob (partA false 0 1 b1) fun r6 =>
 ob (binA Pg .eql 3 true r6 (I 15)) fun r7 =>
 cndA r7
 (Q (I 3) H)
 (ob (partA false 0 1 b1) fun r8 =>
 ob (binA Pg .geq 3 true r8 (I 9)) fun r9 =>
 cndA r9
 (Q (I 4) H)
 (ob (partA false 0 1 b1) fun r10 =>
 ob (binA Pg .geq 3 true r10 (I 6)) fun r11 =>
 cndA r11
 (Q (I 6) H)
 (ob (partA false 0 1 b1) fun r12 =>
 ob (binA Pg .geq 3 true r12 (I 4)) fun r13 =>
 cndA r13
 (Q (I 5) H)
 (ob (partA false 0 1 b1) fun r14 =>
 ob (binA Pg .eql 3 true r14 (I 3)) fun r15 =>
 cndA r15
 (Q (I 7) H)
 (ob (partA true 0 7 b1) fun r16 =>
 E 123 [r16] H fun r17 H18 =>
 ob (extractA r17 0) fun r19 =>
 ob (extractA r17 1) fun r20 =>
 cndA r20
 (ob (binA Pg .lss 2 true r19 (I 0)) fun r21 =>
 f86_j52 r21 H18 Q)
 (f86_j52 (B false) H18 Q)))))))) :=
  Ev_eq.trans (by kernel_rfl)
/-! ### 87 (*haruspex/cond.printer).bare -/
theorem f87_eq (a0 a1 : AV) (H : Heap) (Q : Post) : E 87 [a0, a1] H Q =
 ob (sizedA 7 a1) fun b1 =>
 ob (partA true 0 7 b1) fun r2 =>
 E 86 [r2] H fun r3 H4 =>
 ob (partA false 0 1 b1) fun r5 =>
 ob (binA Pg .eql 3 true r5 (I 1)) fun r6 =>
 cndA r6
 (ob (partA true 1 3 b1) fun r7 =>
 E 124 [r7] H4 fun r8 H9 =>
 ob (extractA r8 0) fun r10 =>
 ob (extractA r8 1) fun r11 =>
 ob (nilA a0) fun r12 =>
 ob (addPA r12 0) fun r13 =>
 E 64 [r13, r10] H9 fun r14 H15 =>
 Q (AV.tup []) H15)
 (ob (partA false 0 1 b1) fun r16 =>
 ob (binA Pg .eql 3 true r16 (I 2)) fun r17 =>
 cndA r17
 (ob (nilA a0) fun r18 =>
 ob (addPA r18 0) fun r19 =>
 ob (partA false 4 1 b1) fun r20 =>
 ob (binA Pg .add 9 true r20 (S ⟨#[46]⟩)) fun r21 =>
 ob (partA false 5 1 b1) fun r22 =>
 ob (binA Pg .add 9 false r21 r22) fun r23 =>
 E 64 [r19, r23] H4 fun r24 H25 =>
 Q (AV.tup []) H25)
 (ob (partA false 0 1 b1) fun r26 =>
 ob (binA Pg .eql 3 true r26 (I 3)) fun r27 =>
 cndA r27
 (ob (partA false 6 1 b1) fun r28 =>
 ob (ixaA 7 r28 (I 0)) fun c29 =>
 ob (partA true 0 7 c29) fun r30 =>
 E 125 [a0, r30] H4 fun r31 H32 =>
 Q (AV.tup []) H32)
 (ob (binA Pg .eql 3 true r3 (I 1)) fun r33 =>
 cndA r33
 (ob (partA false 6 1 b1) fun r34 =>
 E 59 [a0, r34, (S ⟨#[32, 79, 82, 32]⟩), (I 2)] H4 fun r35 H36 =>
 Q (AV.tup []) H36)
 (ob (binA Pg .eql 3 true r3 (I 2)) fun r37 =>
 cndA r37
 (ob (partA false 6 1 b1) fun r38 =>
 E 59 [a0, r38, (S ⟨#[32, 65, 78, 68, 32]⟩), (I 3)] H4 fun r39 H40 =>
 Q (AV.tup []) H40)
 (ob (binA Pg .eql 3 true r3 (I 3)) fun r41 =>
 cndA r41
 (ob (nilA a0) fun r42 =>
 ob (addPA r42 0) fun r43 =>
 E 64 [r43, (S ⟨#[78, 79, 84, 32]⟩)] H4 fun r44 H45 =>
 ob (partA false 6 1 b1) fun r46 =>
 ob (ixaA 7 r46 (I 0)) fun c47 =>
 ob (partA true 0 7 c47) fun r48 =>
 E 56 [a0, r48, (I 3)] H45 fun r49 H50 =>
 Q (AV.tup []) H50)
 (ob (binA Pg .eql 3 true r3 (I 4)) fun r51 =>
 cndA r51
 (ob (partA true 0 7 b1) fun r52 =>
 E 126 [a0, r52, (I 5), (I 5)] H4 fun r53 H54 =>
 Q (AV.tup []) H54)
 (ob (partA true 0 7 b1) fun r55 =>
 ob (binA Pg .add 3 true r3 (I 1)) fun r56 =>
 E 126 [a0, r55, r3, r56] H4 fun r57 H58 =>
 Q (AV.tup []) H58))))))) :=
  Ev_eq.trans (by kernel_rfl)
/-! ### 88 (*strings.Builder).WriteByte -/
theorem f88_eq (a0 a1 : AV) (H : Heap) (Q : Post) : E 88 [a0, a1] H Q =
 E 99 [a0] H fun r1 H2 =>
 ob (nilA a0) fun r3 =>
 ob (addPA r3 1) fun r4 =>
 ob (ldH H2 false 1 r4) fun r5 =>
 ob (mkSlA 1 [a1]) fun r6 =>
 appB 5 r5 r6 H2 fun r7 H8 =>
 ob (nilA a0) fun r9 =>
 ob (addPA r9 1) fun r10 =>
 ob (stH H8 1 r10 r7) fun H11 =>
 Q (AV.raw .nilIface) H11 :=
  Ev_eq.trans (by kernel_rfl)
/-! ### 89 haruspex/haruspexref09.right -/
def f89_c1_9a (x1 : List AV) (x13 : AV) (H : Heap) (Q : Post) : Prop := AtJ Pg Hs 89 [1, 0, 0, 9] Q [(1, .lbox x1), (13, .val x13)] H
def f89_c1_9b (x1 : List AV) (H : Heap) (Q : Post) : Prop := AtJ Pg Hs 89 [1, 0, 0, 9] Q [(1, .lbox x1), (13, .val (B false))] H
def f89_c1_22a (x1 : List AV) (H : Heap) (Q : Post) : Prop := AtJ Pg Hs 89 [1, 0, 0, 22] Q [(1, .lbox x1), (14, .val (B true)), (18, .nov), (26, .nov)] H
def f89_c1_22b (x1 : List AV) (H : Heap) (Q : Post) : Prop := AtJ Pg Hs 89 [1, 0, 0, 22] Q [(1, .lbox x1), (14, .val (B false)), (18, .val (B true)), (26, .val (B true))] H
def f89_c1_22c (x1 : List AV) (x26 : AV) (H : Heap) (Q : Post) : Prop := AtJ Pg Hs 89 [1, 0, 0, 22] Q [(1, .lbox x1), (14, .val (B false)), (18, .val (B true)), (26, .val x26)] H
def f89_c1_22d (x1 : List AV) (H : Heap) (Q : Post) : Prop := AtJ Pg Hs 89 [1, 0, 0, 22] Q [(1, .lbox x1), (14, .val (B false)), (18, .val (B false)), (26, .nov)] H
def f89_c1_23a (x1 : List AV) (H : Heap) (Q : Post) : Prop := AtJ Pg Hs 89 [1, 0, 0, 23] Q [(1, .lbox x1), (14, .val (B true)), (27, .nov)] H
def f89_c1_23b (x1 : List AV) (H : Heap) (Q : Post) : Prop := AtJ Pg Hs 89 [1, 0, 0, 23] Q [(1, .lbox x1), (14, .val (B false)), (27, .val (B true))] H
def f89_c1_23c (x1 : List AV) (x27 : AV) (H : Heap) (Q : Post) : Prop := AtJ Pg Hs 89 [1, 0, 0, 23] Q [(1, .lbox x1), (14, .val (B false)), (27, .val x27)] H
def f89_c1_23d (x1 : List AV) (H : Heap) (Q : Post) : Prop := AtJ Pg Hs 89 [1, 0, 0, 23] Q [(1, .lbox x1), (14, .val (B false)), (27, .val (B false))] H
def f89_j5 (x1 : List AV) (x28 : AV) (H : Heap) (Q : Post) : Prop := AtJ Pg Hs 89 [1, 0, 1] Q [(1, .lbox x1), (28, .val x28)] H
def f89_j19 (x2 : AV) (H : Heap) (Q : Post) : Prop := AtJ Pg Hs 89 [1, 1, 1, 0, 0, 1, 0, 1] Q [(2, .val x2)] H
def f89_j25 (x2 : AV) (H : Heap) (Q : Post) : Prop := AtJ Pg Hs 89 [1, 1, 1, 0, 0, 1, 1, 1, 0, 1] Q [(2, .val x2)] H
def f89_j28 (x1 : List AV) (x3 : AV) (x59 : AV) (H : Heap) (Q : Post) : Prop := AtJ Pg Hs 89 [1, 1, 1, 0, 0, 1, 1, 1, 1, 1] Q [(1, .lbox x1), (3, .val x3), (59, .val x59)] H
def f89_l63 (x1 : List AV) (x3 : AV) (x4 : AV) (H : Heap) (Q : Post) : Prop := AtF Pg Hs 89 [1, 1, 1, 1, 0, 1, 0] Q [(1, .lbox x1), (3, .val x3), (4, .val x4)] H
def f89_j38 (x1 : List AV) (x3 : AV) (x70 : AV) (H : Heap) (Q : Post) : Prop := AtJ Pg Hs 89 [1, 1, 1, 0, 0, 1, 1, 1, 1, 1, 1, 1] Q [(1, .lbox x1), (3, .val x3), (70, .val x70)] H
def f89_c21_16a (x1 : List AV) (x3 : AV) (x4 : AV) (H : Heap) (Q : Post) : Prop := AtJ Pg Hs 89 [1, 1, 1, 1, 0, 1, 0, 0, 1, 0, 0, 0, 16] Q [(1, .lbox x1), (3, .val x3), (4, .val x4), (104, .val (B true)), (112, .nov)] H
def f89_c21_16b (x1 : List AV) (x3 : AV) (x4 : AV) (H : Heap) (Q : Post) : Prop := AtJ Pg Hs 89 [1, 1, 1, 1, 0, 1, 0, 0, 1, 0, 0, 0, 16] Q [(1, .lbox x1), (3, .val x3), (4, .val x4), (104, .val (B false)), (112, .val (B true))] H
def f89_c21_16c (x1 : List AV) (x3 : AV) (x4 : AV) (x112 : AV) (H : Heap) (Q : Post) : Prop := AtJ Pg Hs 89 [1, 1, 1, 1, 0, 1, 0, 0, 1, 0, 0, 0, 16] Q [(1, .lbox x1), (3, .val x3), (4, .val x4), (104, .val (B false)), (112, .val x112)] H
def f89_j48 (x1 : List AV) (x3 : AV) (x81 : AV) (H : Heap) (Q : Post) : Prop := AtJ Pg Hs 89 [1, 1, 1, 0, 0, 1, 1, 1, 1, 1, 1, 1, 1, 1] Q [(1, .lbox x1), (3, .val x3), (81, .val x81)] H
def f89_c21_27a (x1 : List AV) (x3 : AV) (x4 : AV) (H : Heap) (Q : Post) : Prop := AtJ Pg Hs 89 [1, 1, 1, 1, 0, 1, 0, 0, 1, 0, 0, 0, 27] Q [(1, .lbox x1), (3, .val x3), (4, .val x4), (104, .val (B true)), (123, .nov)] H
def f89_c21_27b (x1 : List AV) (x3 : AV) (x4 : AV) (x123 : AV) (H : Heap) (Q : Post) : Prop := AtJ Pg Hs 89 [1, 1, 1, 1, 0, 1, 0, 0, 1, 0, 0, 0, 27] Q [(1, .lbox x1), (3, .val x3), (4, .val x4), (104, .val (B false)), (123, .val x123)] H
def f89_c21_27c (x1 : List AV) (x3 : AV) (x4 : AV) (H : Heap) (Q : Post) : Prop := AtJ Pg Hs 89 [1, 1, 1, 1, 0, 1, 0, 0, 1, 0, 0, 0, 27] Q [(1, .lbox x1), (3, .val x3), (4, .val x4), (104, .val (B false)), (123, .val (B false))] H
def f89_j74 (x1 : List AV) (x3 : AV) (x4 : AV) (x124 : AV) (H : Heap) (Q : Post) : Prop := AtJ Pg Hs 89 [1, 1, 1, 1, 0, 1, 0, 0, 1, 0, 0, 1] Q [(1, .lbox x1), (3, .val x3), (4, .val x4), (124, .val x124)] H
theorem f89_c1_9a_eq (x1 : List AV) (x13 : AV) (H : Heap) (Q : Post) : f89_c1_9a x1 x13 H Q =
 cndA x13
 (f89_c1_22a x1 H Q)
 (ob (partA false 0 1 x1) fun r7 =>
 ob (binA Pg .neq 3 true r7 (I 2)) fun r8 =>
 cndA r8
 (ob (partA false 4 1 x1) fun r9 =>
 ob (binA Pg .neq 9 true r9 (S ⟨#[]⟩)) fun r10 =>
 cndA r10
 (f89_c1_22b x1 H Q)
 (ob (partA false 5 1 x1) fun r11 =>
 ob (binA Pg .neq 9 true r11 (S ⟨#[]⟩)) fun r12 =>
 f89_c1_22c x1 r12 H Q))
 (f89_c1_22d x1 H Q)) :=
  (AtJ_eq Pg Hs 89 [1, 0, 0, 9] Q _ H).trans (by kernel_rfl)
theorem f89_c1_9b_eq (x1 : List AV) (H : Heap) (Q : Post) : f89_c1_9b x1 H Q =
 ob (partA false 0 1 x1) fun r13 =>
 ob (binA Pg .neq 3 true r13 (I 2)) fun r14 =>
 cndA r14
 (ob (partA false 4 1 x1) fun r15 =>
 ob (binA Pg .neq 9 true r15 (S ⟨#[]⟩)) fun r16 =>
 cndA r16
 (f89_c1_22b x1 H Q)
 (ob (partA false 5 1 x1) fun r17 =>
 ob (binA Pg .neq 9 true r17 (S ⟨#[]⟩)) fun r18 =>
 f89_c1_22c x1 r18 H Q))
 (f89_c1_22d x1 H Q) :=
  (AtJ_eq Pg Hs 89 [1, 0, 0, 9] Q _ H).trans (by kernel_rfl)
theorem f89_c1_22a_eq (x1 : List AV) (H : Heap) (Q : Post) : f89_c1_22a x1 H Q =
 f89_c1_23a x1 H Q :=
  (AtJ_eq Pg Hs 89 [1, 0, 0, 22] Q _ H).trans (by kernel_rfl)
theorem f89_c1_22b_eq (x1 : List AV) (H : Heap) (Q : Post) : f89_c1_22b x1 H Q =
 f89_c1_23b x1 H Q :=
  (AtJ_eq Pg Hs 89 [1, 0, 0, 22] Q _ H).trans (by kernel_rfl)
theorem f89_c1_22c_eq (x1 : List AV) (x26 : AV) (H : Heap) (Q : Post) : f89_c1_22c x1 x26 H Q =
 f89_c1_23c x1 x26 H Q :=
  (AtJ_eq Pg Hs 89 [1, 0, 0, 22] Q _ H).trans (by kernel_rfl)
theorem f89_c1_22d_eq (x1 : List AV) (H : Heap) (Q : Post) : f89_c1_22d x1 H Q =
 f89_c1_23d x1 H Q :=
  (AtJ_eq Pg Hs 89 [1, 0, 0, 22] Q _ H).trans (by kernel_rfl)
theorem f89_c1_23a_eq (x1 : List AV) (H : Heap) (Q : Post) : f89_c1_23a x1 H Q =
 f89_j5 x1 (B true) H Q :=
  (AtJ_eq Pg Hs 89 [1, 0, 0, 23] Q _ H).trans (by kernel_rfl)
theorem f89_c1_23b_eq (x1 : List AV) (H : Heap) (Q : Post) : f89_c1_23b x1 H Q =
 f89_j5 x1 (B true) H Q :=
  (AtJ_eq Pg Hs 89 [1, 0, 0, 23] Q _ H).trans (by kernel_rfl)
theorem f89_c1_23c_eq (x1 : List AV) (x27 : AV) (H : Heap) (Q : Post) : f89_c1_23c x1 x27 H Q =
 f89_j5 x1 x27 H Q :=
  (AtJ_eq Pg Hs 89 [1, 0, 0, 23] Q _ H).trans (by kernel_rfl)
theorem f89_c1_23d_eq (x1 : List AV) (H : Heap) (Q : Post) : f89_c1_23d x1 H Q =
 f89_j5 x1 (B false) H Q :=
  (AtJ_eq Pg Hs 89 [1, 0, 0, 23] Q _ H).trans (by kernel_rfl)
theorem f89_j5_eq (x1 : List AV) (x28 : AV) (H : Heap) (Q : Post) : f89_j5 x1 x28 H Q =
 cndA x28
 (Q (B false) H)
 (ob (partA false 6 1 x1) fun r19 =>
 ob (lenA r19) fun r20 =>
 ob (partA false 0 1 x1) fun r21 =>
 ob (binA Pg .eql 3 true r21 (I 1)) fun r22 =>
 cndA r22
 (ob (binA Pg .eql 3 true r20 (I 0)) fun r23 =>
 cndA r23
 (ob (partA true 1 3 x1) fun r24 =>
 E 127 [r24] H fun r25 H26 =>
 f89_j19 r25 H26 Q)
 (f89_j19 (B false) H Q))
 (ob (partA false 0 1 x1) fun r27 =>
 ob (binA Pg .eql 3 true r27 (I 2)) fun r28 =>
 cndA r28
 (ob (binA Pg .eql 3 true r20 (I 0)) fun r29 =>
 cndA r29
 (ob (partA false 4 1 x1) fun r30 =>
 E 102 [r30] H fun r31 H32 =>
 cndA r31
 (ob (partA false 5 1 x1) fun r33 =>
 E 102 [r33] H32 fun r34 H35 =>
 f89_j25 r34 H35 Q)
 (f89_j25 (B false) H32 Q))
 (f89_j25 (B false) H Q))
 (ob (partA false 0 1 x1) fun r36 =>
 ob (binA Pg .eql 3 true r36 (I 3)) fun r37 =>
 cndA r37
 (f89_j28 x1 r20 (B true) H Q)
 (ob (partA false 0 1 x1) fun r38 =>
 ob (binA Pg .eql 3 true r38 (I 15)) fun r39 =>
 f89_j28 x1 r20 r39 H Q)))) :=
  (AtJ_eq Pg Hs 89 [1, 0, 1] Q _ H).trans (by kernel_rfl)
theorem f89_j19_eq (x2 : AV) (H : Heap) (Q : Post) : f89_j19 x2 H Q =
 Q x2 H :=
  (AtJ_eq Pg Hs 89 [1, 1, 1, 0, 0, 1, 0, 1] Q _ H).trans (by kernel_rfl)
theorem f89_j25_eq (x2 : AV) (H : Heap) (Q : Post) : f89_j25 x2 H Q =
 Q x2 H :=
  (AtJ_eq Pg Hs 89 [1, 1, 1, 0, 0, 1, 1, 1, 0, 1] Q _ H).trans (by kernel_rfl)
theorem f89_j28_eq (x1 : List AV) (x3 : AV) (x59 : AV) (H : Heap) (Q : Post) : f89_j28 x1 x3 x59 H Q =
 cndA x59
 (ob (binA Pg .neq 3 true x3 (I 1)) fun r40 =>
 cndA r40
 (Q (B false) H)
 (f89_l63 x1 x3 (I 0) H Q))
 (ob (partA false 0 1 x1) fun r41 =>
 ob (binA Pg .geq 3 true r41 (I 4)) fun r42 =>
 cndA r42
 (ob (partA false 0 1 x1) fun r43 =>
 ob (binA Pg .leq 3 true r43 (I 14)) fun r44 =>
 f89_j38 x1 x3 r44 H Q)
 (f89_j38 x1 x3 (B false) H Q)) :=
  (AtJ_eq Pg Hs 89 [1, 1, 1, 0, 0, 1, 1, 1, 1, 1] Q _ H).trans (by kernel_rfl)
theorem f89_l63_eq (x1 : List AV) (x3 : AV) (x4 : AV) (H : Heap) (Q : Post) : f89_l63 x1 x3 x4 H Q =
 ob (binA Pg .lss 3 false x4 x3) fun r45 =>
 cndA r45
 (ob (partA false 6 1 x1) fun r46 =>
 ob (ixaA 7 r46 x4) fun c47 =>
 ob (partA true 0 7 c47) fun r48 =>
 E 89 [r48] H fun r49 H50 =>
 ob (unA .not r49) fun r51 =>
 cndA r51
 (f89_c21_16a x1 x3 x4 H50 Q)
 (ob (partA false 0 1 x1) fun r52 =>
 ob (binA Pg .eql 3 true r52 (I 16)) fun r53 =>
 cndA r53
 (f89_c21_16b x1 x3 x4 H50 Q)
 (ob (partA false 0 1 x1) fun r54 =>
 ob (binA Pg .eql 3 true r54 (I 17)) fun r55 =>
 f89_c21_16c x1 x3 x4 r55 H50 Q)))
 (Q (B true) H) :=
  (AtF_eq Pg Hs 89 [1, 1, 1, 1, 0, 1, 0] Q _ H).trans (by kernel_rfl)
theorem f89_j38_eq (x1 : List AV) (x3 : AV) (x70 : AV) (H : Heap) (Q : Post) : f89_j38 x1 x3 x70 H Q =
 cndA x70
 (ob (binA Pg .neq 3 true x3 (I 2)) fun r56 =>
 cndA r56
 (Q (B false) H)
 (f89_l63 x1 x3 (I 0) H Q))
 (ob (partA false 0 1 x1) fun r57 =>
 ob (binA Pg .eql 3 true r57 (I 16)) fun r58 =>
 cndA r58
 (f89_j48 x1 x3 (B true) H Q)
 (ob (partA false 0 1 x1) fun r59 =>
 ob (binA Pg .eql 3 true r59 (I 17)) fun r60 =>
 f89_j48 x1 x3 r60 H Q)) :=
  (AtJ_eq Pg Hs 89 [1, 1, 1, 0, 0, 1, 1, 1, 1, 1, 1, 1] Q _ H).trans (by kernel_rfl)
theorem f89_c21_16a_eq (x1 : List AV) (x3 : AV) (x4 : AV) (H : Heap) (Q : Post) : f89_c21_16a x1 x3 x4 H Q =
 f89_c21_27a x1 x3 x4 H Q :=
  (AtJ_eq Pg Hs 89 [1, 1, 1, 1, 0, 1, 0, 0, 1, 0, 0, 0, 16] Q _ H).trans (by kernel_rfl)
theorem f89_c21_16b_eq (x1 : List AV) (x3 : AV) (x4 : AV) (H : Heap) (Q : Post) : f89_c21_16b x1 x3 x4 H Q =
 ob (partA false 6 1 x1) fun r61 =>
 ob (ixaA 7 r61 x4) fun c62 =>
 ob (partA false 0 1 (c62.drop 0)) fun r63 =>
 ob (partA false 0 1 x1) fun r64 =>
 ob (binA Pg .eql 3 false r63 r64) fun r65 =>
 f89_c21_27b x1 x3 x4 r65 H Q :=
  (AtJ_eq Pg Hs 89 [1, 1, 1, 1, 0, 1, 0, 0, 1, 0, 0, 0, 16] Q _ H).trans (by kernel_rfl)
theorem f89_c21_16c_eq (x1 : List AV) (x3 : AV) (x4 : AV) (x112 : AV) (H : Heap) (Q : Post) : f89_c21_16c x1 x3 x4 x112 H Q =
 cndA x112
 (ob (partA false 6 1 x1) fun r66 =>
 ob (ixaA 7 r66 x4) fun c67 =>
 ob (partA false 0 1 (c67.drop 0)) fun r68 =>
 ob (partA false 0 1 x1) fun r69 =>
 ob (binA Pg .eql 3 false r68 r69) fun r70 =>
 f89_c21_27b x1 x3 x4 r70 H Q)
 (f89_c21_27c x1 x3 x4 H Q) :=
  (AtJ_eq Pg Hs 89 [1, 1, 1, 1, 0, 1, 0, 0, 1, 0, 0, 0, 16] Q _ H).trans (by kernel_rfl)
theorem f89_j48_eq (x1 : List AV) (x3 : AV) (x81 : AV) (H : Heap) (Q : Post) : f89_j48 x1 x3 x81 H Q =
 cndA x81
 (ob (binA Pg .lss 3 true x3 (I 2)) fun r71 =>
 cndA r71
 (Q (B false) H)
 (f89_l63 x1 x3 (I 0) H Q))
 (Q (B false) H) :=
  (AtJ_eq Pg Hs 89 [1, 1, 1, 0, 0, 1, 1, 1, 1, 1, 1, 1, 1, 1] Q _ H).trans (by kernel_rfl)
theorem f89_c21_27a_eq (x1 : List AV) (x3 : AV) (x4 : AV) (H : Heap) (Q : Post) : f89_c21_27a x1 x3 x4 H Q =
 f89_j74 x1 x3 x4 (B true) H Q :=
  (AtJ_eq Pg Hs 89 [1, 1, 1, 1, 0, 1, 0, 0, 1, 0, 0, 0, 27] Q _ H).trans (by kernel_rfl)
theorem f89_c21_27b_eq (x1 : List AV) (x3 : AV) (x4 : AV) (x123 : AV) (H : Heap) (Q : Post) : f89_c21_27b x1 x3 x4 x123 H Q =
 f89_j74 x1 x3 x4 x123 H Q :=
  (AtJ_eq Pg Hs 89 [1, 1, 1, 1, 0, 1, 0, 0, 1, 0, 0, 0, 27] Q _ H).trans (by kernel_rfl)
theorem f89_c21_27c_eq (x1 : List AV) (x3 : AV) (x4 : AV) (H : Heap) (Q : Post) : f89_c21_27c x1 x3 x4 H Q =
 f89_j74 x1 x3 x4 (B false) H Q :=
  (AtJ_eq Pg Hs 89 [1, 1, 1, 1, 0, 1, 0, 0, 1, 0, 0, 0, 27] Q _ H).trans (by kernel_rfl)
theorem f89_j74_eq (x1 : List AV) (x3 : AV) (x4 : AV) (x124 : AV) (H : Heap) (Q : Post) : f89_j74 x1 x3 x4 x124 H Q =
 cndA x124
 (Q (B false) H)
 (ob (binA Pg .add 3 true x4 (I 1)) fun r72 =>
 f89_l63 x1 x3 r72 H Q) :=
  (AtJ_eq Pg Hs 89 [1, 1, 1, 1, 0, 1, 0, 0, 1, 0, 0, 1] Q _ H).trans (by kernel_rfl)
theorem f89_eq (a0 : AV) (H : Heap) (Q : Post) : E 89 [a0] H Q =
 ob (sizedA 7 a0) fun b1 =>
 ob (partA false 0 1 b1) fun r2 =>
 ob (binA Pg .neq 3 true r2 (I 1)) fun r3 =>
 cndA r3
 (ob (partA true 1 3 b1) fun r4 =>
 ob (bldA [] [(I 0), (I 0), (S ⟨#[]⟩)]) fun r5 =>
 ob (binA Pg .neq 37 false r4 r5) fun r6 =>
 f89_c1_9a b1 r6 H Q)
 (f89_c1_9b b1 H Q) :=
  Ev_eq.trans (by kernel_rfl)
/-! ### 90 haruspex/haruspexref18.level -/
def f90_j24 (x1 : List AV) (x15 : AV) (H : Heap) (Q : Post) : Prop := AtJ Pg Hs 90 [1, 0, 0, 1, 1, 1, 1, 1, 1, 1] Q [(1, .lbox x1), (15, .val x15)] H
def f90_j30 (x1 : List AV) (x24 : AV) (H : Heap) (Q : Post) : Prop := AtJ Pg Hs 90 [1, 0, 0, 1, 1, 1, 1, 1, 1, 1, 1, 1] Q [(1, .lbox x1), (24, .val x24)] H
def f90_j36 (x1 : List AV) (x33 : AV) (H : Heap) (Q : Post) : Prop := AtJ Pg Hs 90 [1, 0, 0, 1, 1, 1, 1, 1, 1, 1, 1, 1, 1, 1] Q [(1, .lbox x1), (33, .val x33)] H
def f90_c13_13a (x1 : List AV) (H : Heap) (Q : Post) : Prop := AtJ Pg Hs 90 [1, 0, 0, 1, 1, 1, 1, 1, 1, 1, 1, 1, 1, 1, 1, 0, 13] Q [(1, .lbox x1), (46, .val (B true)), (55, .nov)] H
def f90_c13_13b (x1 : List AV) (x55 : AV) (H : Heap) (Q : Post) : Prop := AtJ Pg Hs 90 [1, 0, 0, 1, 1, 1, 1, 1, 1, 1, 1, 1, 1, 1, 1, 0, 13] Q [(1, .lbox x1), (46, .val (B false)), (55, .val x55)] H
def f90_c13_13c (x1 : List AV) (H : Heap) (Q : Post) : Prop := AtJ Pg Hs 90 [1, 0, 0, 1, 1, 1, 1, 1, 1, 1, 1, 1, 1, 1, 1, 0, 13] Q [(1, .lbox x1), (46, .val (B false)), (55, .val (B false))] H
def f90_c13_19a (x1 : List AV) (H : Heap) (Q : Post) : Prop := AtJ Pg Hs 90 [1, 0, 0, 1, 1, 1, 1, 1, 1, 1, 1, 1, 1, 1, 1, 0, 19] Q [(1, .lbox x1), (46, .val (B true)), (61, .nov)] H
def f90_c13_19b (x1 : List AV) (x61 : AV) (H : Heap) (Q : Post) : Prop := AtJ Pg Hs 90 [1, 0, 0, 1, 1, 1, 1, 1, 1, 1, 1, 1, 1, 1, 1, 0, 19] Q [(1, .lbox x1), (46, .val (B false)), (61, .val x61)] H
def f90_c13_19c (x1 : List AV) (H : Heap) (Q : Post) : Prop := AtJ Pg Hs 90 [1, 0, 0, 1, 1, 1, 1, 1, 1, 1, 1, 1, 1, 1, 1, 0, 19] Q [(1, .lbox x1), (46, .val (B false)), (61, .val (B false))] H
def f90_c13_20a (x1 : List AV) (H : Heap) (Q : Post) : Prop := AtJ Pg Hs 90 [1, 0, 0, 1, 1, 1, 1, 1, 1, 1, 1, 1, 1, 1, 1, 0, 20] Q [(1, .lbox x1), (62, .val (B true))] H
def f90_c13_20b (x1 : List AV) (x62 : AV) (H : Heap) (Q : Post) : Prop := AtJ Pg Hs 90 [1, 0, 0, 1, 1, 1, 1, 1, 1, 1, 1, 1, 1, 1, 1, 0, 20] Q [(1, .lbox x1), (62, .val x62)] H
def f90_c13_20c (x1 : List AV) (H : Heap) (Q : Post) : Prop := AtJ Pg Hs 90 [1, 0, 0, 1, 1, 1, 1, 1, 1, 1, 1, 1, 1, 1, 1, 0, 20] Q [(1, .lbox x1), (62, .val (B false))] H
def f90_j42 (x42 : AV) (H : Heap) (Q : Post) : Prop := AtJ Pg Hs 90 [1, 0, 0, 1, 1, 1, 1, 1, 1, 1, 1, 1, 1, 1, 1, 1] Q [(42, .val x42)] H
theorem f90_j24_eq (x1 : List AV) (x15 : AV) (H : Heap) (Q : Post) : f90_j24 x1 x15 H Q =
 cndA x15
 (Q (I 4) H)
 (ob (partA false 0 1 x1) fun r12 =>
 ob (binA Pg .eql 3 true r12 (I 4)) fun r13 =>
 cndA r13
 (f90_j30 x1 (B true) H Q)
 (ob (partA false 0 1 x1) fun r14 =>
 ob (binA Pg .eql 3 true r14 (I 5)) fun r15 =>
 f90_j30 x1 r15 H Q)) :=
  (AtJ_eq Pg Hs 90 [1, 0, 0, 1, 1, 1, 1, 1, 1, 1] Q _ H).trans (by kernel_rfl)
theorem f90_j30_eq (x1 : List AV) (x24 : AV) (H : Heap) (Q : Post) : f90_j30 x1 x24 H Q =
 cndA x24
 (Q (I 5) H)
 (ob (partA false 0 1 x1) fun r16 =>
 ob (binA Pg .geq 3 true r16 (I 6)) fun r17 =>
 cndA r17
 (ob (partA false 0 1 x1) fun r18 =>
 ob (binA Pg .leq 3 true r18 (I 8)) fun r19 =>
 f90_j36 x1 r19 H Q)
 (f90_j36 x1 (B false) H Q)) :=
  (AtJ_eq Pg Hs 90 [1, 0, 0, 1, 1, 1, 1, 1, 1, 1, 1, 1] Q _ H).trans (by kernel_rfl)
theorem f90_j36_eq (x1 : List AV) (x33 : AV) (H : Heap) (Q : Post) : f90_j36 x1 x33 H Q =
 cndA x33
 (Q (I 6) H)
 (ob (partA false 0 1 x1) fun r20 =>
 ob (binA Pg .eql 3 true r20 (I 3)) fun r21 =>
 cndA r21
 (f90_c13_13a x1 H Q)
 (ob (partA false 0 1 x1) fun r22 =>
 ob (binA Pg .eql 3 true r22 (I 1)) fun r23 =>
 cndA r23
 (ob (partA false 1 1 x1) fun r24 =>
 ob (binA Pg .eql 3 true r24 (I 2)) fun r25 =>
 f90_c13_13b x1 r25 H Q)
 (f90_c13_13c x1 H Q))) :=
  (AtJ_eq Pg Hs 90 [1, 0, 0, 1, 1, 1, 1, 1, 1, 1, 1, 1, 1, 1] Q _ H).trans (by kernel_rfl)
theorem f90_c13_13a_eq (x1 : List AV) (H : Heap) (Q : Post) : f90_c13_13a x1 H Q =
 f90_c13_19a x1 H Q :=
  (AtJ_eq Pg Hs 90 [1, 0, 0, 1, 1, 1, 1, 1, 1, 1, 1, 1, 1, 1, 1, 0, 13] Q _ H).trans (by kernel_rfl)
theorem f90_c13_13b_eq (x1 : List AV) (x55 : AV) (H : Heap) (Q : Post) : f90_c13_13b x1 x55 H Q =
 cndA x55
 (ob (partA false 2 1 x1) fun r26 =>
 ob (binA Pg .lss 2 true r26 (I 0)) fun r27 =>
 f90_c13_19b x1 r27 H Q)
 (f90_c13_19c x1 H Q) :=
  (AtJ_eq Pg Hs 90 [1, 0, 0, 1, 1, 1, 1, 1, 1, 1, 1, 1, 1, 1, 1, 0, 13] Q _ H).trans (by kernel_rfl)
theorem f90_c13_13c_eq (x1 : List AV) (H : Heap) (Q : Post) : f90_c13_13c x1 H Q =
 f90_c13_19c x1 H Q :=
  (AtJ_eq Pg Hs 90 [1, 0, 0, 1, 1, 1, 1, 1, 1, 1, 1, 1, 1, 1, 1, 0, 13] Q _ H).trans (by kernel_rfl)
theorem f90_c13_19a_eq (x1 : List AV) (H : Heap) (Q : Post) : f90_c13_19a x1 H Q =
 f90_c13_20a x1 H Q :=
  (AtJ_eq Pg Hs 90 [1, 0, 0, 1, 1, 1, 1, 1, 1, 1, 1, 1, 1, 1, 1, 0, 19] Q _ H).trans (by kernel_rfl)
theorem f90_c13_19b_eq (x1 : List AV) (x61 : AV) (H : Heap) (Q : Post) : f90_c13_19b x1 x61 H Q =
 f90_c13_20b x1 x61 H Q :=
  (AtJ_eq Pg Hs 90 [1, 0, 0, 1, 1, 1, 1, 1, 1, 1, 1, 1, 1, 1, 1, 0, 19] Q _ H).trans (by kernel_rfl)
theorem f90_c13_19c_eq (x1 : List AV) (H : Heap) (Q : Post) : f90_c13_19c x1 H Q =
 f90_c13_20c x1 H Q :=
  (AtJ_eq Pg Hs 90 [1, 0, 0, 1, 1, 1, 1, 1, 1, 1, 1, 1, 1, 1, 1, 0, 19] Q _ H).trans (by kernel_rfl)
theorem f90_c13_20a_eq (x1 : List AV) (H : Heap) (Q : Post) : f90_c13_20a x1 H Q =
 f90_j42 (B true) H Q :=
  (AtJ_eq Pg Hs 90 [1, 0, 0, 1, 1, 1, 1, 1, 1, 1, 1, 1, 1, 1, 1, 0, 20] Q _ H).trans (by kernel_rfl)
theorem f90_c13_20b_eq (x1 : List AV) (x62 : AV) (H : Heap) (Q : Post) : f90_c13_20b x1 x62 H Q =
 f90_j42 x62 H Q :=
  (AtJ_eq Pg Hs 90 [1, 0, 0, 1, 1, 1, 1, 1, 1, 1, 1, 1, 1, 1, 1, 0, 20] Q _ H).trans (by kernel_rfl)
theorem f90_c13_20c_eq (x1 : List AV) (H : Heap) (Q : Post) : f90_c13_20c x1 H Q =
 f90_j42 (B false) H Q :=
  (AtJ_eq Pg Hs 90 [1, 0, 0, 1, 1, 1, 1, 1, 1, 1, 1, 1, 1, 1, 1, 0, 20] Q _ H).trans (by kernel_rfl)
theorem f90_j42_eq (x42 : AV) (H : Heap) (Q : Post) : f90_j42 x42 H Q =
 cndA x42
 (Q (I 7) H)
 (Q (I 8) H) :=
  (AtJ_eq Pg Hs 90 [1, 0, 0, 1, 1, 1, 1, 1, 1, 1, 1, 1, 1, 1, 1, 1] Q _ H).trans (by kernel_rfl)
theorem f90_eq (a0 : AV) (H : Heap) (Q : Post) : E 90 [a0] H Q =
 ob (sizedA 7 a0) fun b1 =>
 ob (partA false 0 1 b1) fun r2 =>
 ob (binA Pg .eql 3 true r2 (I 17)) fun r3 =>
 cndA r3
 (Q (I 1) H)
 (ob (partA false 0 1 b1) fun r4 =>
 ob (binA Pg .eql 3 true r4 (I 16)) fun r5 =>
 cndA r5
 (Q (I 2) H)
 (ob (partA false 0 1 b1) fun r6 =>
 ob (binA Pg .eql 3 true r6 (I 15)) fun r7 =>
 cndA r7
 (Q (I 3) H)
 (ob (partA false 0 1 b1) fun r8 =>
 ob (binA Pg .geq 3 true r8 (I 9)) fun r9 =>
 cndA r9
 (ob (partA false 0 1 b1) fun r10 =>
 ob (binA Pg .leq 3 true r10 (I 14)) fun r11 =>
 f90_j24 b1 r11 H Q)
 (f90_j24 b1 (B false) H Q)))) :=
  Ev_eq.trans (by kernel_rfl)
/-! ### 91 haruspex/haruspexref06.Print -/
theorem f91_eq (a0 : AV) (H : Heap) (Q : Post) : E 91 [a0] H Q =
 ob (sizedA 3 a0) fun b1 =>
 ob (partA true 0 3 b1) fun r2 =>
 E 127 [r2] H fun r3 H4 =>
 ob (unA .not r3) fun r5 =>
 cndA r5
 (Q (AV.tup [(S ⟨#[]⟩), (I 1)]) H4)
 (ob (partA false 0 1 b1) fun r6 =>
 ob (binA Pg .eql 3 true r6 (I 0)) fun r7 =>
 cndA r7
 (Q (AV.tup [(S ⟨#[78, 85, 76, 76]⟩), (I 0)]) H4)
 (ob (binA Pg .eql 3 true r6 (I 1)) fun r8 =>
 cndA r8
 (ob (partA false 1 1 b1) fun r9 =>
 ob (binA Pg .eql 2 true r9 (I 1)) fun r10 =>
 cndA r10
 (Q (AV.tup [(S ⟨#[84, 82, 85, 69]⟩), (I 0)]) H4)
 (Q (AV.tup [(S ⟨#[70, 65, 76, 83, 69]⟩), (I 0)]) H4))
 (ob (binA Pg .eql 3 true r6 (I 2)) fun r11 =>
 cndA r11
 (ob (partA false 1 1 b1) fun r12 =>
 E 106 [r12] H4 fun r13 H14 =>
 Q (AV.tup [r13, (I 0)]) H14)
 (ob (partA false 2 1 b1) fun r15 =>
 E 128 [r15] H4 fun r16 H17 =>
 ob (extractA r16 0) fun r18 =>
 ob (extractA r16 1) fun r19 =>
 Q (AV.tup [r18, r19]) H17)))) :=
  Ev_eq.trans (by kernel_rfl)
/-! ### 92 haruspex/haruspexref18.sign -/
theorem f92_eq (a0 : AV) (H : Heap) (Q : Post) : E 92 [a0] H Q =
 ob (mkSlA 1 [(S ⟨#[43]⟩), (S ⟨#[45]⟩), (S ⟨#[42]⟩), (S ⟨#[47]⟩), (S ⟨#[37]⟩), (S ⟨#[61]⟩), (S ⟨#[60, 62]⟩), (S ⟨#[60]⟩), (S ⟨#[60, 61]⟩), (S ⟨#[62]⟩), (S ⟨#[62, 61]⟩)]) fun r1 =>
 ob (binA Pg .sub 3 true a0 (I 4)) fun r2 =>
 ob (ixaA 1 r1 r2) fun c3 =>
 ob (partA false 0 1 c3) fun r4 =>
 Q r4 H :=
  Ev_eq.trans (by kernel_rfl)
/-! ### 93 (haruspex/query.clauses).pattern -/
theorem f93_eq (a0 : AV) (H : Heap) (Q : Post) : E 93 [a0] H Q =
 ob (sizedA 11 a0) fun b1 =>
 ob (partA true 0 6 b1) fun r2 =>
 E 97 [r2] H fun r3 H4 =>
 Q r3 H4 :=
  Ev_eq.trans (by kernel_rfl)
/-! ### 94 (haruspex/query.clauses).counts -/
def f94_j5 (x14 : AV) (H : Heap) (Q : Post) : Prop := AtJ Pg Hs 94 [1, 0, 1] Q [(14, .val x14)] H
theorem f94_j5_eq (x14 : AV) (H : Heap) (Q : Post) : f94_j5 x14 H Q =
 cndA x14
 (Q (I 2) H)
 (Q (I 0) H) :=
  (AtJ_eq Pg Hs 94 [1, 0, 1] Q _ H).trans (by kernel_rfl)
theorem f94_eq (a0 : AV) (H : Heap) (Q : Post) : E 94 [a0] H Q =
 ob (sizedA 11 a0) fun b1 =>
 ob (partA false 6 1 b1) fun r2 =>
 ob (lenA r2) fun r3 =>
 ob (binA Pg .gtr 3 true r3 (I 16)) fun r4 =>
 cndA r4
 (f94_j5 (B true) H Q)
 (ob (partA false 10 1 b1) fun r5 =>
 ob (lenA r5) fun r6 =>
 ob (binA Pg .gtr 3 true r6 (I 16)) fun r7 =>
 f94_j5 r7 H Q) :=
  Ev_eq.trans (by kernel_rfl)
/-! ### 95 (haruspex/query.clauses).where -/
def f95_l8 (x3 : AV) (x9 : AV) (x10 : AV) (x11 : AV) (H : Heap) (Q : Post) : Prop := AtF Pg Hs 95 [1, 1, 0, 1, 0] Q [(3, .val x3), (9, .val x9), (10, .val x10), (11, .val x11)] H
theorem f95_l8_eq (x3 : AV) (x9 : AV) (x10 : AV) (x11 : AV) (H : Heap) (Q : Post) : f95_l8 x3 x9 x10 x11 H Q =
 ob (binA Pg .lss 3 false x11 x10) fun r4 =>
 cndA r4
 (ob (ixaA 7 x9 x11) fun c5 =>
 ob (partA true 0 7 c5) fun r6 =>
 ob (sizedA 7 r6) fun b7 =>
 ob (spliceA 0 b7 [(I 0), (I 0), (I 0), (S ⟨#[]⟩), (S ⟨#[]⟩), (S ⟨#[]⟩), (AV.sl 0 true .full [])]) fun b8 =>
 ob (partA true 0 7 b8) fun r9 =>
 E 55 [r9] H fun r10 H11 =>
 ob (binA Pg .neq 31 true r10 (I 0)) fun r12 =>
 cndA r12
 (Q r10 H11)
 (ob (partA true 0 7 b8) fun r13 =>
 E 129 [r13] H11 fun r14 H15 =>
 ob (binA Pg .add 3 false x3 r14) fun r16 =>
 ob (binA Pg .add 3 true x11 (I 1)) fun r17 =>
 f95_l8 r16 x9 x10 r17 H15 Q))
 (ob (binA Pg .geq 3 true x3 (I 100)) fun r18 =>
 cndA r18
 (Q (I 2) H)
 (Q (I 0) H)) :=
  (AtF_eq Pg Hs 95 [1, 1, 0, 1, 0] Q _ H).trans (by kernel_rfl)
theorem f95_eq (a0 : AV) (H : Heap) (Q : Post) : E 95 [a0] H Q =
 ob (sizedA 11 a0) fun b1 =>
 ob (partA false 6 1 b1) fun r2 =>
 ob (lenA r2) fun r3 =>
 f95_l8 (I 0) r2 r3 (I 0) H Q :=
  Ev_eq.trans (by kernel_rfl)
/-! ### 96 (haruspex/query.clauses).rest -/
def f96_j14 (x3 : List AV) (x4 : AV) (x6 : AV) (x11 : AV) (H : Heap) (Q : Post) : Prop := AtJ Pg Hs 96 [1, 1, 1, 1, 1, 0, 0, 1] Q [(3, .lbox x3), (4, .val x4), (6, .val x6), (11, .val x11)] H
def f96_j32 (x3 : List AV) (x4 : AV) (x6 : AV) (x21 : AV) (H : Heap) (Q : Post) : Prop := AtJ Pg Hs 96 [1, 1, 1, 1, 1, 0, 0, 1, 1, 1] Q [(3, .lbox x3), (4, .val x4), (6, .val x6), (21, .val x21)] H
def f96_j42 (x34 : AV) (H : Heap) (Q : Post) : Prop := AtJ Pg Hs 96 [1, 1, 1, 1, 1, 0, 0, 1, 1, 1, 1, 1] Q [(34, .val x34)] H
theorem f96_j14_eq (x3 : List AV) (x4 : AV) (x6 : AV) (x11 : AV) (H : Heap) (Q : Post) : f96_j14 x3 x4 x6 x11 H Q =
 cndA x11
 (Q (I 1) H)
 (ob (partA false 8 1 x3) fun r17 =>
 ob (binA Pg .lss 3 true r17 (I 0)) fun r18 =>
 cndA r18
 (f96_j32 x3 x4 x6 r18 H Q)
 (ob (partA false 8 1 x3) fun r19 =>
 ob (binA Pg .gtr 3 true r19 (I 2)) fun r20 =>
 cndA r20
 (f96_j32 x3 x4 x6 r20 H Q)
 (ob (partA false 9 1 x3) fun r21 =>
 ob (binA Pg .lss 2 true r21 (I 0)) fun r22 =>
 cndA r22
 (f96_j32 x3 x4 x6 r22 H Q)
 (ob (partA false 9 1 x3) fun r23 =>
 ob (binA Pg .gtr 2 true r23 (I 1099511627776)) fun r24 =>
 f96_j32 x3 x4 x6 r24 H Q)))) :=
  (AtJ_eq Pg Hs 96 [1, 1, 1, 1, 1, 0, 0, 1] Q _ H).trans (by kernel_rfl)
theorem f96_j32_eq (x3 : List AV) (x4 : AV) (x6 : AV) (x21 : AV) (H : Heap) (Q : Post) : f96_j32 x3 x4 x6 x21 H Q =
 cndA x21
 (Q (I 1) H)
 (ob (partA false 6 1 x3) fun r25 =>
 E 122 [r25, x4] H fun r26 H27 =>
 cndA r26
 (f96_j42 r26 H27 Q)
 (ob (partA false 10 1 x3) fun r28 =>
 E 133 [r28, x6] H27 fun r29 H30 =>
 f96_j42 r29 H30 Q)) :=
  (AtJ_eq Pg Hs 96 [1, 1, 1, 1, 1, 0, 0, 1, 1, 1] Q _ H).trans (by kernel_rfl)
theorem f96_j42_eq (x34 : AV) (H : Heap) (Q : Post) : f96_j42 x34 H Q =
 cndA x34
 (Q (I 1) H)
 (Q (I 0) H) :=
  (AtJ_eq Pg Hs 96 [1, 1, 1, 1, 1, 0, 0, 1, 1, 1, 1, 1] Q _ H).trans (by kernel_rfl)
theorem f96_eq (a0 : AV) (H : Heap) (Q : Post) : E 96 [a0] H Q =
 ob (sizedA 11 a0) fun b1 =>
 ob (partA true 0 11 b1) fun r2 =>
 ob (sizedA 11 r2) fun b3 =>
 ob (spliceA 0 b3 [(I 0), (S ⟨#[]⟩), (S ⟨#[]⟩), (I 0), (I 0), (AV.sl 0 true .full []), (AV.sl 0 true .full []), (S ⟨#[]⟩), (I 0), (I 0), (AV.sl 0 true .full [])]) fun b4 =>
 mkMapA H fun r5 H6 =>
 ob (sizedA 1 r5) fun b7 =>
 ob (spliceA 0 b7 [(AV.raw (.map none))]) fun b8 =>
 newH H6 b8 fun r9 H10 =>
 ob (partA false 7 1 b4) fun r11 =>
 ob (binA Pg .neq 9 true r11 (S ⟨#[]⟩)) fun r12 =>
 cndA r12
 (ob (partA false 7 1 b4) fun r13 =>
 E 118 [r13] H10 fun r14 H15 =>
 ob (unA .not r14) fun r16 =>
 f96_j14 b4 (AV.fn (.func 130) [] []) (AV.fn (.func 131) [] [r9]) r16 H15 Q)
 (f96_j14 b4 (AV.fn (.func 130) [] []) (AV.fn (.func 131) [] [r9]) (B false) H10 Q) :=
  Ev_eq.trans (by kernel_rfl)
/-! ### 97 haruspex/pat.Check -/
noncomputable def f97_L8 (y3 : AV) (y4 : AV) (y5 : AV) : LoopInfo := loopF Pg Hs 97 [1, 1, 0, 1, 0] 8 [(3, .val y3), (4, .val y4), (5, .val y5)]
def f97_j16 (x3 : AV) (x4 : AV) (x5 : AV) (H : Heap) (Q : Post) : Prop := AtJ Pg Hs 97 [1, 1, 1] Q [(3, .val x3), (4, .val x4), (5, .val x5)] H
def f97_j24 (x5 : AV) (x22 : AV) (H : Heap) (Q : Post) : Prop := AtJ Pg Hs 97 [1, 1, 1, 0, 0, 1] Q [(5, .val x5), (22, .val x22)] H
theorem f97_j16_eq (x3 : AV) (x4 : AV) (x5 : AV) (H : Heap) (Q : Post) : f97_j16 x3 x4 x5 H Q =
 ob (ldH H false 1 x3) fun r19 =>
 ob (binA Pg .gtr 3 true r19 (I 64)) fun r20 =>
 cndA r20
 (f97_j24 x5 r20 H Q)
 (ob (ldH H false 1 x4) fun r21 =>
 ob (binA Pg .gtr 3 true r21 (I 8)) fun r22 =>
 f97_j24 x5 r22 H Q) :=
  (AtJ_eq Pg Hs 97 [1, 1, 1] Q _ H).trans (by kernel_rfl)
theorem f97_j24_eq (x5 : AV) (x22 : AV) (H : Heap) (Q : Post) : f97_j24 x5 x22 H Q =
 cndA x22
 (Q (I 2) H)
 (ob (ldH H false 1 x5) fun r23 =>
 ob (unA .not r23) fun r24 =>
 cndA r24
 (Q (I 1) H)
 (Q (I 0) H)) :=
  (AtJ_eq Pg Hs 97 [1, 1, 1, 0, 0, 1] Q _ H).trans (by kernel_rfl)
theorem f97_y8_eq (y3 : AV) (y4 : AV) (y5 : AV) (l : Nat) (a0 : AV) (H : Heap) (Q : Post) : EY Pg Hs (f97_L8 y3 y4 y5) l [a0] H Q =
 ob (sizedA 7 a0) fun b25 =>
 ob (spliceA 0 b25 [(I 0), (S ⟨#[]⟩), (S ⟨#[]⟩), (I 0), (I 0), (AV.sl 0 true .full []), (I 0)]) fun b26 =>
 beginA l H fun H27 =>
 ob (ldH H27 false 1 y3) fun r28 =>
 ob (binA Pg .add 3 true r28 (I 1)) fun r29 =>
 ob (stH H27 1 y3 r29) fun H30 =>
 ob (ldH H30 false 1 y4) fun r31 =>
 ob (partA false 6 1 b26) fun r32 =>
 ob (max2A r31 r32) fun r33 =>
 ob (stH H30 1 y4 r33) fun H34 =>
 ob (ldH H34 false 1 y5) fun r35 =>
 cndA r35
 (ob (partA true 0 6 b26) fun r36 =>
 E 134 [r36] H34 fun r37 H38 =>
 ob (stH H38 1 y5 r37) fun H39 =>
 endA l H39 true .ready Q)
 (ob (stH H34 1 y5 (B false)) fun H40 =>
 endA l H40 true .ready Q) := by kernel_rfl
theorem f97_eq (a0 : AV) (H : Heap) (Q : Post) : E 97 [a0] H Q =
 ob (sizedA 6 a0) fun b1 =>
 newH H [(I 0)] fun r2 H3 =>
 newH H3 [(I 0)] fun r4 H5 =>
 newH H5 [(B false)] fun r6 H7 =>
 ob (stH H7 1 r2 (I 0)) fun H8 =>
 ob (stH H8 1 r4 (I 0)) fun H9 =>
 ob (stH H9 1 r6 (B true)) fun H10 =>
 ob (partA true 0 6 b1) fun r11 =>
 E 109 [r11] H10 fun r12 H13 =>
 aroundA none H13 ∧ rngF (Ev Pg Hs) r12 (f97_L8 r2 r4 r6) H13 fun l14 H15 =>
 overA l14 H15 (fun H16 =>
 f97_j16 r2 r4 r6 H16 Q) (fun j H17 =>
 exA j 0 (f97_j16 r2 r4 r6 H17 Q) (False)) (fun H18 =>
 Q (I 0) H18) :=
  Ev_eq.trans (by kernel_rfl)
/-! ### 98 haruspex/pat.made -/
def f98_j6 (x2 : AV) (H : Heap) (Q : Post) : Prop := AtJ Pg Hs 98 [1, 1, 1] Q [(2, .val x2)] H
theorem f98_j6_eq (x2 : AV) (H : Heap) (Q : Post) : f98_j6 x2 H Q =
 Q x2 H :=
  (AtJ_eq Pg Hs 98 [1, 1, 1] Q _ H).trans (by kernel_rfl)
theorem f98_eq (a0 : AV) (H : Heap) (Q : Post) : E 98 [a0] H Q =
 ob (sizedA 6 a0) fun b1 =>
 ob (partA true 0 6 b1) fun r2 =>
 E 135 [r2] H fun r3 H4 =>
 ob (extractA r3 0) fun r5 =>
 ob (extractA r3 1) fun r6 =>
 cndA r6
 (ob (partA false 0 1 b1) fun r7 =>
 ob (binA Pg .neq 3 true r7 (I 6)) fun r8 =>
 cndA r8
 (ob (partA true 0 6 b1) fun r9 =>
 E 136 [r9, (B true)] H4 fun r10 H11 =>
 f98_j6 r10 H11 Q)
 (f98_j6 (B false) H4 Q))
 (f98_j6 (B false) H4 Q) :=
  Ev_eq.trans (by kernel_rfl)
/-! ### 99 (*strings.Builder).copyCheck -/
theorem f99_eq (a0 : AV) (H : Heap) (Q : Post) : E 99 [a0] H Q =
 ob (nilA a0) fun r1 =>
 ob (addPA r1 0) fun r2 =>
 ob (ldH H false 1 r2) fun r3 =>
 ob (binA Pg .eql 49 true r3 (AV.raw (.pointer none))) fun r4 =>
 cndA r4
 (convP Pg 49 164 a0 H fun r5 =>
 primA Pg 137 [r5] fun r6 =>
 convP Pg 164 49 r6 H fun r7 =>
 ob (nilA a0) fun r8 =>
 ob (addPA r8 0) fun r9 =>
 ob (stH H 1 r9 r7) fun H10 =>
 Q (AV.tup []) H10)
 (ob (nilA a0) fun r11 =>
 ob (addPA r11 0) fun r12 =>
 ob (ldH H false 1 r12) fun r13 =>
 ob (binA Pg .neq 49 false r13 a0) fun r14 =>
 cndA r14
 (False)
 (Q (AV.tup []) H)) :=
  Ev_eq.trans (by kernel_rfl)
/-! ### 100 haruspex/num.Text -/
def f100_j12 (x0 : AV) (x3 : AV) (x4 : AV) (H : Heap) (Q : Post) : Prop := AtJ Pg Hs 100 [1, 1, 1, 1] Q [(0, .val x0), (3, .val x3), (4, .val x4)] H
def f100_l18 (x0 : AV) (x3 : AV) (x4 : AV) (x5 : AV) (x6 : AV) (H : Heap) (Q : Post) : Prop := AtF Pg Hs 100 [1, 1, 1, 1, 1, 1, 0, 0] Q [(0, .val x0), (3, .val x3), (4, .val x4), (5, .val x5), (6, .val x6)] H
def f100_j39 (x5 : AV) (x6 : AV) (H : Heap) (Q : Post) : Prop := AtJ Pg Hs 100 [1, 1, 1, 1, 1, 1, 1, 1] Q [(5, .val x5), (6, .val x6)] H
theorem f100_j12_eq (x0 : AV) (x3 : AV) (x4 : AV) (H : Heap) (Q : Post) : f100_j12 x0 x3 x4 H Q =
 newH H [(AV.raw (.int .u8 0)), (AV.raw (.int .u8 0)), (AV.raw (.int .u8 0)), (AV.raw (.int .u8 0)), (AV.raw (.int .u8 0)), (AV.raw (.int .u8 0)), (AV.raw (.int .u8 0)), (AV.raw (.int .u8 0)), (AV.raw (.int .u8 0)), (AV.raw (.int .u8 0)), (AV.raw (.int .u8 0)), (AV.raw (.int .u8 0)), (AV.raw (.int .u8 0)), (AV.raw (.int .u8 0)), (AV.raw (.int .u8 0)), (AV.raw (.int .u8 0)), (AV.raw (.int .u8 0)), (AV.raw (.int .u8 0)), (AV.raw (.int .u8 0)), (AV.raw (.int .u8 0))] fun r10 H11 =>
 f100_l18 x0 x3 x4 r10 (I 20) H11 Q :=
  (AtJ_eq Pg Hs 100 [1, 1, 1, 1] Q _ H).trans (by kernel_rfl)
theorem f100_l18_eq (x0 : AV) (x3 : AV) (x4 : AV) (x5 : AV) (x6 : AV) (H : Heap) (Q : Post) : f100_l18 x0 x3 x4 x5 x6 H Q =
 ob (binA Pg .sub 3 true x6 (I 1)) fun r12 =>
 ob (binA Pg .rem 168 true x4 (AV.raw (.int .u64 10))) fun r13 =>
 ob (ixPA 10 1 x3 r13) fun r14 =>
 ob (ldH H false 1 r14) fun r15 =>
 ob (ixPA 20 1 x5 r12) fun r16 =>
 ob (stH H 1 r16 r15) fun H17 =>
 ob (binA Pg .quo 168 true x4 (AV.raw (.int .u64 10))) fun r18 =>
 ob (binA Pg .eql 168 true r18 (AV.raw (.int .u64 0))) fun r19 =>
 cndA r19
 (ob (binA Pg .lss 2 true x0 (I 0)) fun r20 =>
 cndA r20
 (ob (binA Pg .sub 3 true r12 (I 1)) fun r21 =>
 ob (ixPA 20 1 x5 r21) fun r22 =>
 ob (stH H17 1 r22 (AV.raw (.int .u8 45))) fun H23 =>
 f100_j39 x5 r21 H23 Q)
 (f100_j39 x5 r12 H17 Q))
 (f100_l18 x0 x3 r18 x5 r12 H17 Q) :=
  (AtF_eq Pg Hs 100 [1, 1, 1, 1, 1, 1, 0, 0] Q _ H).trans (by kernel_rfl)
theorem f100_j39_eq (x5 : AV) (x6 : AV) (H : Heap) (Q : Post) : f100_j39 x5 x6 H Q =
 slArr 20 x5 x6 H fun r24 H25 =>
 bsA r24 fun r26 =>
 Q r26 H25 :=
  (AtJ_eq Pg Hs 100 [1, 1, 1, 1, 1, 1, 1, 1] Q _ H).trans (by kernel_rfl)
theorem f100_eq (a0 : AV) (H : Heap) (Q : Post) : E 100 [a0] H Q =
 E 138 [] H fun r1 H2 =>
 newH H2 [(AV.raw (.int .u8 0)), (AV.raw (.int .u8 0)), (AV.raw (.int .u8 0)), (AV.raw (.int .u8 0)), (AV.raw (.int .u8 0)), (AV.raw (.int .u8 0)), (AV.raw (.int .u8 0)), (AV.raw (.int .u8 0)), (AV.raw (.int .u8 0)), (AV.raw (.int .u8 0))] fun r3 H4 =>
 ob (stH H4 10 r3 r1) fun H5 =>
 ob (cvtIA .u64 a0) fun r7 =>
 ob (binA Pg .lss 2 true a0 (I 0)) fun r8 =>
 cndA r8
 (ob (unA .neg r7) fun r9 =>
 f100_j12 a0 r3 r9 H5 Q)
 (f100_j12 a0 r3 r7 H5 Q) :=
  Ev_eq.trans (by kernel_rfl)
/-! ### 101 haruspex/haruspexref12.Check -/
def f101_j5 (x1 : List AV) (x10 : AV) (H : Heap) (Q : Post) : Prop := AtJ Pg Hs 101 [1, 0, 1] Q [(1, .lbox x1), (10, .val x10)] H
theorem f101_j5_eq (x1 : List AV) (x10 : AV) (H : Heap) (Q : Post) : f101_j5 x1 x10 H Q =
 cndA x10
 (Q (I 2) H)
 (ob (partA true 0 6 x1) fun r10 =>
 E 140 [r10] H fun r11 H12 =>
 ob (unA .not r11) fun r13 =>
 cndA r13
 (Q (I 1) H12)
 (Q (I 0) H12)) :=
  (AtJ_eq Pg Hs 101 [1, 0, 1] Q _ H).trans (by kernel_rfl)
theorem f101_eq (a0 : AV) (H : Heap) (Q : Post) : E 101 [a0] H Q =
 ob (sizedA 6 a0) fun b1 =>
 ob (partA true 0 6 b1) fun r2 =>
 E 29 [r2] H fun r3 H4 =>
 ob (binA Pg .gtr 3 true r3 (I 64)) fun r5 =>
 cndA r5
 (f101_j5 b1 (B true) H4 Q)
 (ob (partA true 0 6 b1) fun r6 =>
 E 139 [r6] H4 fun r7 H8 =>
 ob (binA Pg .gtr 3 true r7 (I 8)) fun r9 =>
 f101_j5 b1 r9 H8 Q) :=
  Ev_eq.trans (by kernel_rfl)
/-! ### 102 haruspex/haruspexref05.Name -/
def f102_l6 (x0 : AV) (x3 : AV) (H : Heap) (Q : Post) : Prop := AtF Pg Hs 102 [1, 0, 1, 0] Q [(0, .val x0), (3, .val x3)] H
def f102_j25 (x2 : AV) (H : Heap) (Q : Post) : Prop := AtJ Pg Hs 102 [1, 1, 1] Q [(2, .val x2)] H
theorem f102_l6_eq (x0 : AV) (x3 : AV) (H : Heap) (Q : Post) : f102_l6 x0 x3 H Q =
 ob (lenSA x0) fun r1 =>
 ob (binA Pg .lss 3 false x3 r1) fun r2 =>
 cndA r2
 (ob (ixA x0 x3) fun r3 =>
 E 141 [r3] H fun r4 H5 =>
 ob (unA .not r4) fun r6 =>
 cndA r6
 (Q (B false) H5)
 (ob (binA Pg .add 3 true x3 (I 1)) fun r7 =>
 f102_l6 x0 r7 H5 Q))
 (ob (lenSA x0) fun r8 =>
 ob (binA Pg .geq 3 true r8 (I 1)) fun r9 =>
 cndA r9
 (ob (lenSA x0) fun r10 =>
 ob (binA Pg .leq 3 true r10 (I 32)) fun r11 =>
 cndA r11
 (ob (ixA x0 (I 0)) fun r12 =>
 E 142 [r12] H fun r13 H14 =>
 f102_j25 r13 H14 Q)
 (f102_j25 (B false) H Q))
 (f102_j25 (B false) H Q)) :=
  (AtF_eq Pg Hs 102 [1, 0, 1, 0] Q _ H).trans (by kernel_rfl)
theorem f102_j25_eq (x2 : AV) (H : Heap) (Q : Post) : f102_j25 x2 H Q =
 Q x2 H :=
  (AtJ_eq Pg Hs 102 [1, 1, 1] Q _ H).trans (by kernel_rfl)
theorem f102_eq (a0 : AV) (H : Heap) (Q : Post) : E 102 [a0] H Q =
 f102_l6 a0 (I 0) H Q :=
  Ev_eq.trans (by kernel_rfl)
/-! ### 103 haruspex/haruspexref13.item -/
def f103_c1_8a (x1 : List AV) (x10 : AV) (H : Heap) (Q : Post) : Prop := AtJ Pg Hs 103 [1, 0, 8] Q [(1, .lbox x1), (10, .val x10)] H
def f103_c1_8b (x1 : List AV) (H : Heap) (Q : Post) : Prop := AtJ Pg Hs 103 [1, 0, 8] Q [(1, .lbox x1), (10, .val (B false))] H
def f103_c1_17a (x1 : List AV) (x19 : AV) (H : Heap) (Q : Post) : Prop := AtJ Pg Hs 103 [1, 0, 17] Q [(1, .lbox x1), (11, .val (B true)), (19, .val x19)] H
def f103_c1_17b (x1 : List AV) (H : Heap) (Q : Post) : Prop := AtJ Pg Hs 103 [1, 0, 17] Q [(1, .lbox x1), (11, .val (B true)), (19, .val (B false))] H
def f103_c1_17c (x1 : List AV) (H : Heap) (Q : Post) : Prop := AtJ Pg Hs 103 [1, 0, 17] Q [(1, .lbox x1), (11, .val (B false)), (19, .nov)] H
def f103_c1_26a (x1 : List AV) (H : Heap) (Q : Post) : Prop := AtJ Pg Hs 103 [1, 0, 26] Q [(1, .lbox x1), (11, .val (B true)), (20, .val (B true)), (28, .nov)] H
def f103_c1_26b (x1 : List AV) (H : Heap) (Q : Post) : Prop := AtJ Pg Hs 103 [1, 0, 26] Q [(1, .lbox x1), (11, .val (B true)), (20, .val (B false)), (28, .val (B true))] H
def f103_c1_26c (x1 : List AV) (x28 : AV) (H : Heap) (Q : Post) : Prop := AtJ Pg Hs 103 [1, 0, 26] Q [(1, .lbox x1), (11, .val (B true)), (20, .val (B false)), (28, .val x28)] H
def f103_c1_26d (x1 : List AV) (H : Heap) (Q : Post) : Prop := AtJ Pg Hs 103 [1, 0, 26] Q [(1, .lbox x1), (11, .val (B false)), (20, .nov), (28, .nov)] H
def f103_c1_31a (x1 : List AV) (H : Heap) (Q : Post) : Prop := AtJ Pg Hs 103 [1, 0, 31] Q [(1, .lbox x1), (11, .val (B true)), (20, .val (B true)), (33, .nov)] H
def f103_c1_31b (x1 : List AV) (H : Heap) (Q : Post) : Prop := AtJ Pg Hs 103 [1, 0, 31] Q [(1, .lbox x1), (11, .val (B true)), (20, .val (B false)), (33, .val (B true))] H
def f103_c1_31c (x1 : List AV) (x33 : AV) (H : Heap) (Q : Post) : Prop := AtJ Pg Hs 103 [1, 0, 31] Q [(1, .lbox x1), (11, .val (B true)), (20, .val (B false)), (33, .val x33)] H
def f103_c1_31d (x1 : List AV) (H : Heap) (Q : Post) : Prop := AtJ Pg Hs 103 [1, 0, 31] Q [(1, .lbox x1), (11, .val (B false)), (20, .nov), (33, .nov)] H
def f103_c1_36a (x1 : List AV) (H : Heap) (Q : Post) : Prop := AtJ Pg Hs 103 [1, 0, 36] Q [(1, .lbox x1), (11, .val (B true)), (20, .val (B true)), (38, .nov)] H
def f103_c1_36b (x1 : List AV) (x38 : AV) (H : Heap) (Q : Post) : Prop := AtJ Pg Hs 103 [1, 0, 36] Q [(1, .lbox x1), (11, .val (B true)), (20, .val (B false)), (38, .val x38)] H
def f103_c1_36c (x1 : List AV) (H : Heap) (Q : Post) : Prop := AtJ Pg Hs 103 [1, 0, 36] Q [(1, .lbox x1), (11, .val (B true)), (20, .val (B false)), (38, .val (B false))] H
def f103_c1_36d (x1 : List AV) (H : Heap) (Q : Post) : Prop := AtJ Pg Hs 103 [1, 0, 36] Q [(1, .lbox x1), (11, .val (B false)), (20, .nov), (38, .nov)] H
def f103_c1_37a (x1 : List AV) (H : Heap) (Q : Post) : Prop := AtJ Pg Hs 103 [1, 0, 37] Q [(1, .lbox x1), (11, .val (B true)), (39, .val (B true))] H
def f103_c1_37b (x1 : List AV) (x39 : AV) (H : Heap) (Q : Post) : Prop := AtJ Pg Hs 103 [1, 0, 37] Q [(1, .lbox x1), (11, .val (B true)), (39, .val x39)] H
def f103_c1_37c (x1 : List AV) (H : Heap) (Q : Post) : Prop := AtJ Pg Hs 103 [1, 0, 37] Q [(1, .lbox x1), (11, .val (B true)), (39, .val (B false))] H
def f103_c1_37d (x1 : List AV) (H : Heap) (Q : Post) : Prop := AtJ Pg Hs 103 [1, 0, 37] Q [(1, .lbox x1), (11, .val (B false)), (39, .nov)] H
def f103_c1_38a (x1 : List AV) (H : Heap) (Q : Post) : Prop := AtJ Pg Hs 103 [1, 0, 38] Q [(1, .lbox x1), (40, .val (B true))] H
def f103_c1_38b (x1 : List AV) (x40 : AV) (H : Heap) (Q : Post) : Prop := AtJ Pg Hs 103 [1, 0, 38] Q [(1, .lbox x1), (40, .val x40)] H
def f103_c1_38c (x1 : List AV) (H : Heap) (Q : Post) : Prop := AtJ Pg Hs 103 [1, 0, 38] Q [(1, .lbox x1), (40, .val (B false))] H
def f103_j4 (x2 : AV) (H : Heap) (Q : Post) : Prop := AtJ Pg Hs 103 [1, 1] Q [(2, .val x2)] H
theorem f103_c1_8a_eq (x1 : List AV) (x10 : AV) (H : Heap) (Q : Post) : f103_c1_8a x1 x10 H Q =
 cndA x10
 (ob (partA false 1 1 x1) fun r8 =>
 ob (binA Pg .eql 3 true r8 (I 3)) fun r9 =>
 cndA r9
 (ob (partA false 3 1 x1) fun r10 =>
 ob (binA Pg .eql 9 true r10 (S ⟨#[]⟩)) fun r11 =>
 f103_c1_17a x1 r11 H Q)
 (f103_c1_17b x1 H Q))
 (f103_c1_17c x1 H Q) :=
  (AtJ_eq Pg Hs 103 [1, 0, 8] Q _ H).trans (by kernel_rfl)
theorem f103_c1_8b_eq (x1 : List AV) (H : Heap) (Q : Post) : f103_c1_8b x1 H Q =
 f103_c1_17c x1 H Q :=
  (AtJ_eq Pg Hs 103 [1, 0, 8] Q _ H).trans (by kernel_rfl)
theorem f103_c1_17a_eq (x1 : List AV) (x19 : AV) (H : Heap) (Q : Post) : f103_c1_17a x1 x19 H Q =
 cndA x19
 (f103_c1_26a x1 H Q)
 (ob (partA false 1 1 x1) fun r12 =>
 ob (binA Pg .eql 3 true r12 (I 1)) fun r13 =>
 cndA r13
 (f103_c1_26b x1 H Q)
 (ob (partA false 1 1 x1) fun r14 =>
 ob (binA Pg .eql 3 true r14 (I 2)) fun r15 =>
 f103_c1_26c x1 r15 H Q)) :=
  (AtJ_eq Pg Hs 103 [1, 0, 17] Q _ H).trans (by kernel_rfl)
theorem f103_c1_17b_eq (x1 : List AV) (H : Heap) (Q : Post) : f103_c1_17b x1 H Q =
 ob (partA false 1 1 x1) fun r16 =>
 ob (binA Pg .eql 3 true r16 (I 1)) fun r17 =>
 cndA r17
 (f103_c1_26b x1 H Q)
 (ob (partA false 1 1 x1) fun r18 =>
 ob (binA Pg .eql 3 true r18 (I 2)) fun r19 =>
 f103_c1_26c x1 r19 H Q) :=
  (AtJ_eq Pg Hs 103 [1, 0, 17] Q _ H).trans (by kernel_rfl)
theorem f103_c1_17c_eq (x1 : List AV) (H : Heap) (Q : Post) : f103_c1_17c x1 H Q =
 f103_c1_26d x1 H Q :=
  (AtJ_eq Pg Hs 103 [1, 0, 17] Q _ H).trans (by kernel_rfl)
theorem f103_c1_26a_eq (x1 : List AV) (H : Heap) (Q : Post) : f103_c1_26a x1 H Q =
 f103_c1_31a x1 H Q :=
  (AtJ_eq Pg Hs 103 [1, 0, 26] Q _ H).trans (by kernel_rfl)
theorem f103_c1_26b_eq (x1 : List AV) (H : Heap) (Q : Post) : f103_c1_26b x1 H Q =
 f103_c1_31b x1 H Q :=
  (AtJ_eq Pg Hs 103 [1, 0, 26] Q _ H).trans (by kernel_rfl)
theorem f103_c1_26c_eq (x1 : List AV) (x28 : AV) (H : Heap) (Q : Post) : f103_c1_26c x1 x28 H Q =
 cndA x28
 (f103_c1_31b x1 H Q)
 (ob (partA false 1 1 x1) fun r20 =>
 ob (binA Pg .eql 3 true r20 (I 4)) fun r21 =>
 f103_c1_31c x1 r21 H Q) :=
  (AtJ_eq Pg Hs 103 [1, 0, 26] Q _ H).trans (by kernel_rfl)
theorem f103_c1_26d_eq (x1 : List AV) (H : Heap) (Q : Post) : f103_c1_26d x1 H Q =
 f103_c1_31d x1 H Q :=
  (AtJ_eq Pg Hs 103 [1, 0, 26] Q _ H).trans (by kernel_rfl)
theorem f103_c1_31a_eq (x1 : List AV) (H : Heap) (Q : Post) : f103_c1_31a x1 H Q =
 f103_c1_36a x1 H Q :=
  (AtJ_eq Pg Hs 103 [1, 0, 31] Q _ H).trans (by kernel_rfl)
theorem f103_c1_31b_eq (x1 : List AV) (H : Heap) (Q : Post) : f103_c1_31b x1 H Q =
 ob (partA false 3 1 x1) fun r22 =>
 E 102 [r22] H fun r23 H24 =>
 f103_c1_36b x1 r23 H24 Q :=
  (AtJ_eq Pg Hs 103 [1, 0, 31] Q _ H).trans (by kernel_rfl)
theorem f103_c1_31c_eq (x1 : List AV) (x33 : AV) (H : Heap) (Q : Post) : f103_c1_31c x1 x33 H Q =
 cndA x33
 (ob (partA false 3 1 x1) fun r25 =>
 E 102 [r25] H fun r26 H27 =>
 f103_c1_36b x1 r26 H27 Q)
 (f103_c1_36c x1 H Q) :=
  (AtJ_eq Pg Hs 103 [1, 0, 31] Q _ H).trans (by kernel_rfl)
theorem f103_c1_31d_eq (x1 : List AV) (H : Heap) (Q : Post) : f103_c1_31d x1 H Q =
 f103_c1_36d x1 H Q :=
  (AtJ_eq Pg Hs 103 [1, 0, 31] Q _ H).trans (by kernel_rfl)
theorem f103_c1_36a_eq (x1 : List AV) (H : Heap) (Q : Post) : f103_c1_36a x1 H Q =
 f103_c1_37a x1 H Q :=
  (AtJ_eq Pg Hs 103 [1, 0, 36] Q _ H).trans (by kernel_rfl)
theorem f103_c1_36b_eq (x1 : List AV) (x38 : AV) (H : Heap) (Q : Post) : f103_c1_36b x1 x38 H Q =
 f103_c1_37b x1 x38 H Q :=
  (AtJ_eq Pg Hs 103 [1, 0, 36] Q _ H).trans (by kernel_rfl)
theorem f103_c1_36c_eq (x1 : List AV) (H : Heap) (Q : Post) : f103_c1_36c x1 H Q =
 f103_c1_37c x1 H Q :=
  (AtJ_eq Pg Hs 103 [1, 0, 36] Q _ H).trans (by kernel_rfl)
theorem f103_c1_36d_eq (x1 : List AV) (H : Heap) (Q : Post) : f103_c1_36d x1 H Q =
 f103_c1_37d x1 H Q :=
  (AtJ_eq Pg Hs 103 [1, 0, 36] Q _ H).trans (by kernel_rfl)
theorem f103_c1_37a_eq (x1 : List AV) (H : Heap) (Q : Post) : f103_c1_37a x1 H Q =
 f103_c1_38a x1 H Q :=
  (AtJ_eq Pg Hs 103 [1, 0, 37] Q _ H).trans (by kernel_rfl)
theorem f103_c1_37b_eq (x1 : List AV) (x39 : AV) (H : Heap) (Q : Post) : f103_c1_37b x1 x39 H Q =
 f103_c1_38b x1 x39 H Q :=
  (AtJ_eq Pg Hs 103 [1, 0, 37] Q _ H).trans (by kernel_rfl)
theorem f103_c1_37c_eq (x1 : List AV) (H : Heap) (Q : Post) : f103_c1_37c x1 H Q =
 f103_c1_38c x1 H Q :=
  (AtJ_eq Pg Hs 103 [1, 0, 37] Q _ H).trans (by kernel_rfl)
theorem f103_c1_37d_eq (x1 : List AV) (H : Heap) (Q : Post) : f103_c1_37d x1 H Q =
 f103_c1_38c x1 H Q :=
  (AtJ_eq Pg Hs 103 [1, 0, 37] Q _ H).trans (by kernel_rfl)
theorem f103_c1_38a_eq (x1 : List AV) (H : Heap) (Q : Post) : f103_c1_38a x1 H Q =
 f103_j4 (B true) H Q :=
  (AtJ_eq Pg Hs 103 [1, 0, 38] Q _ H).trans (by kernel_rfl)
theorem f103_c1_38b_eq (x1 : List AV) (x40 : AV) (H : Heap) (Q : Post) : f103_c1_38b x1 x40 H Q =
 f103_j4 x40 H Q :=
  (AtJ_eq Pg Hs 103 [1, 0, 38] Q _ H).trans (by kernel_rfl)
theorem f103_c1_38c_eq (x1 : List AV) (H : Heap) (Q : Post) : f103_c1_38c x1 H Q =
 f103_j4 (B false) H Q :=
  (AtJ_eq Pg Hs 103 [1, 0, 38] Q _ H).trans (by kernel_rfl)
theorem f103_j4_eq (x2 : AV) (H : Heap) (Q : Post) : f103_j4 x2 H Q =
 Q x2 H :=
  (AtJ_eq Pg Hs 103 [1, 1] Q _ H).trans (by kernel_rfl)
theorem f103_eq (a0 : AV) (H : Heap) (Q : Post) : E 103 [a0] H Q =
 ob (sizedA 4 a0) fun b1 =>
 ob (partA false 0 1 b1) fun r2 =>
 E 102 [r2] H fun r3 H4 =>
 cndA r3
 (ob (partA false 2 1 b1) fun r5 =>
 E 102 [r5] H4 fun r6 H7 =>
 f103_c1_8a b1 r6 H7 Q)
 (f103_c1_8b b1 H4 Q) :=
  Ev_eq.trans (by kernel_rfl)
end Go.Hx
