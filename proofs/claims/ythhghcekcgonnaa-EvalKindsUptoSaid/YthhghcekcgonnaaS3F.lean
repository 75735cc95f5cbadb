/- Printed by gen.py (own work): each function as the abstract machine has it. -/
import Derived.Test.YthhghcekcgonnaaS3H
import Derived.KernelRfl
set_option linter.unusedVariables false
namespace Go.Hx
/-! ### 2 gosem.cut.init -/
theorem f2_eq (_u : Unit := ()) (H : Heap) (Q : Post) : E 2 [] H Q =
 primA Pg 1 [] fun r1 =>
 Q (AV.tup []) H :=
  Ev_eq.trans (by kernel_rfl)
/-! ### 3 haruspex/haruspexlaw10.TypingZero -/
def f3_c7_8a (x2 : List AV) (x5 : AV) (x6 : AV) (x11 : AV) (x12 : AV) (x13 : AV) (x38 : AV) (H : Heap) (Q : Post) : Prop := AtJ Pg Hs 3 [1, 1, 1, 1, 1, 1, 1, 0, 8] Q [(2, .lbox x2), (5, .val x5), (6, .val x6), (11, .val x11), (12, .val x12), (13, .val x13), (38, .val x38)] H
def f3_c7_8b (x2 : List AV) (x5 : AV) (x6 : AV) (x11 : AV) (x12 : AV) (x13 : AV) (H : Heap) (Q : Post) : Prop := AtJ Pg Hs 3 [1, 1, 1, 1, 1, 1, 1, 0, 8] Q [(2, .lbox x2), (5, .val x5), (6, .val x6), (11, .val x11), (12, .val x12), (13, .val x13), (38, .val (B false))] H
def f3_c7_15a (x2 : List AV) (x6 : AV) (x11 : AV) (x12 : AV) (x13 : AV) (x45 : AV) (H : Heap) (Q : Post) : Prop := AtJ Pg Hs 3 [1, 1, 1, 1, 1, 1, 1, 0, 15] Q [(2, .lbox x2), (6, .val x6), (11, .val x11), (12, .val x12), (13, .val x13), (45, .val x45)] H
def f3_c7_15b (x2 : List AV) (x6 : AV) (x11 : AV) (x12 : AV) (x13 : AV) (H : Heap) (Q : Post) : Prop := AtJ Pg Hs 3 [1, 1, 1, 1, 1, 1, 1, 0, 15] Q [(2, .lbox x2), (6, .val x6), (11, .val x11), (12, .val x12), (13, .val x13), (45, .val (B false))] H
def f3_c7_21a (x2 : List AV) (x11 : AV) (x12 : AV) (x51 : AV) (H : Heap) (Q : Post) : Prop := AtJ Pg Hs 3 [1, 1, 1, 1, 1, 1, 1, 0, 21] Q [(2, .lbox x2), (11, .val x11), (12, .val x12), (51, .val x51)] H
def f3_c7_21b (x2 : List AV) (x11 : AV) (x12 : AV) (H : Heap) (Q : Post) : Prop := AtJ Pg Hs 3 [1, 1, 1, 1, 1, 1, 1, 0, 21] Q [(2, .lbox x2), (11, .val x11), (12, .val x12), (51, .val (B false))] H
def f3_c7_25a (x2 : List AV) (x12 : AV) (x55 : AV) (H : Heap) (Q : Post) : Prop := AtJ Pg Hs 3 [1, 1, 1, 1, 1, 1, 1, 0, 25] Q [(2, .lbox x2), (12, .val x12), (55, .val x55)] H
def f3_c7_25b (x2 : List AV) (x12 : AV) (H : Heap) (Q : Post) : Prop := AtJ Pg Hs 3 [1, 1, 1, 1, 1, 1, 1, 0, 25] Q [(2, .lbox x2), (12, .val x12), (55, .val (B false))] H
def f3_c7_29a (x2 : List AV) (x59 : AV) (H : Heap) (Q : Post) : Prop := AtJ Pg Hs 3 [1, 1, 1, 1, 1, 1, 1, 0, 29] Q [(2, .lbox x2), (59, .val x59)] H
def f3_c7_29b (x2 : List AV) (H : Heap) (Q : Post) : Prop := AtJ Pg Hs 3 [1, 1, 1, 1, 1, 1, 1, 0, 29] Q [(2, .lbox x2), (59, .val (B false))] H
def f3_j16 (x4 : AV) (H : Heap) (Q : Post) : Prop := AtJ Pg Hs 3 [1, 1, 1, 1, 1, 1, 1, 1] Q [(4, .val x4)] H
theorem f3_c7_8a_eq (x2 : List AV) (x5 : AV) (x6 : AV) (x11 : AV) (x12 : AV) (x13 : AV) (x38 : AV) (H : Heap) (Q : Post) : f3_c7_8a x2 x5 x6 x11 x12 x13 x38 H Q =
 cndA x38
 (ob (partA true 0 7 x2) fun r20 =>
 E 12 [x5, r20] H fun r21 H22 =>
 ob (binA Pg .eql 32 false r21 x13) fun r23 =>
 f3_c7_15a x2 x6 x11 x12 x13 r23 H22 Q)
 (f3_c7_15b x2 x6 x11 x12 x13 H Q) :=
  (AtJ_eq Pg Hs 3 [1, 1, 1, 1, 1, 1, 1, 0, 8] Q _ H).trans (by kernel_rfl)
theorem f3_c7_8b_eq (x2 : List AV) (x5 : AV) (x6 : AV) (x11 : AV) (x12 : AV) (x13 : AV) (H : Heap) (Q : Post) : f3_c7_8b x2 x5 x6 x11 x12 x13 H Q =
 f3_c7_15b x2 x6 x11 x12 x13 H Q :=
  (AtJ_eq Pg Hs 3 [1, 1, 1, 1, 1, 1, 1, 0, 8] Q _ H).trans (by kernel_rfl)
theorem f3_c7_15a_eq (x2 : List AV) (x6 : AV) (x11 : AV) (x12 : AV) (x13 : AV) (x45 : AV) (H : Heap) (Q : Post) : f3_c7_15a x2 x6 x11 x12 x13 x45 H Q =
 cndA x45
 (ob (partA true 0 7 x2) fun r24 =>
 E 12 [x6, r24] H fun r25 H26 =>
 ob (binA Pg .eql 32 false r25 x13) fun r27 =>
 f3_c7_21a x2 x11 x12 r27 H26 Q)
 (f3_c7_21b x2 x11 x12 H Q) :=
  (AtJ_eq Pg Hs 3 [1, 1, 1, 1, 1, 1, 1, 0, 15] Q _ H).trans (by kernel_rfl)
theorem f3_c7_15b_eq (x2 : List AV) (x6 : AV) (x11 : AV) (x12 : AV) (x13 : AV) (H : Heap) (Q : Post) : f3_c7_15b x2 x6 x11 x12 x13 H Q =
 f3_c7_21b x2 x11 x12 H Q :=
  (AtJ_eq Pg Hs 3 [1, 1, 1, 1, 1, 1, 1, 0, 15] Q _ H).trans (by kernel_rfl)
theorem f3_c7_21a_eq (x2 : List AV) (x11 : AV) (x12 : AV) (x51 : AV) (H : Heap) (Q : Post) : f3_c7_21a x2 x11 x12 x51 H Q =
 cndA x51
 (ob (binA Pg .eql 9 true x11 (S ⟨#[]⟩)) fun r28 =>
 f3_c7_25a x2 x12 r28 H Q)
 (f3_c7_25b x2 x12 H Q) :=
  (AtJ_eq Pg Hs 3 [1, 1, 1, 1, 1, 1, 1, 0, 21] Q _ H).trans (by kernel_rfl)
theorem f3_c7_21b_eq (x2 : List AV) (x11 : AV) (x12 : AV) (H : Heap) (Q : Post) : f3_c7_21b x2 x11 x12 H Q =
 f3_c7_25b x2 x12 H Q :=
  (AtJ_eq Pg Hs 3 [1, 1, 1, 1, 1, 1, 1, 0, 21] Q _ H).trans (by kernel_rfl)
theorem f3_c7_25a_eq (x2 : List AV) (x12 : AV) (x55 : AV) (H : Heap) (Q : Post) : f3_c7_25a x2 x12 x55 H Q =
 cndA x55
 (ob (unA .not x12) fun r29 =>
 f3_c7_29a x2 r29 H Q)
 (f3_c7_29b x2 H Q) :=
  (AtJ_eq Pg Hs 3 [1, 1, 1, 1, 1, 1, 1, 0, 25] Q _ H).trans (by kernel_rfl)
theorem f3_c7_25b_eq (x2 : List AV) (x12 : AV) (H : Heap) (Q : Post) : f3_c7_25b x2 x12 H Q =
 f3_c7_29b x2 H Q :=
  (AtJ_eq Pg Hs 3 [1, 1, 1, 1, 1, 1, 1, 0, 25] Q _ H).trans (by kernel_rfl)
theorem f3_c7_29a_eq (x2 : List AV) (x59 : AV) (H : Heap) (Q : Post) : f3_c7_29a x2 x59 H Q =
 f3_j16 x59 H Q :=
  (AtJ_eq Pg Hs 3 [1, 1, 1, 1, 1, 1, 1, 0, 29] Q _ H).trans (by kernel_rfl)
theorem f3_c7_29b_eq (x2 : List AV) (H : Heap) (Q : Post) : f3_c7_29b x2 H Q =
 f3_j16 (B false) H Q :=
  (AtJ_eq Pg Hs 3 [1, 1, 1, 1, 1, 1, 1, 0, 29] Q _ H).trans (by kernel_rfl)
theorem f3_j16_eq (x4 : AV) (H : Heap) (Q : Post) : f3_j16 x4 H Q =
 Q x4 H :=
  (AtJ_eq Pg Hs 3 [1, 1, 1, 1, 1, 1, 1, 1] Q _ H).trans (by kernel_rfl)
theorem f3_eq (a0 a1 : AV) (H : Heap) (Q : Post) : E 3 [a0, a1] H Q =
 ob (sizedA 7 a0) fun b1 =>
 newH H [(AV.sl 0 true .full []), (AV.sl 0 true .full []), (AV.sl 0 true .full []), (B false)] fun r2 H3 =>
 ob (partA true 0 7 b1) fun r4 =>
 E 10 [(AV.raw (.pointer none)), r4] H3 fun r5 H6 =>
 ob (extractA r5 0) fun r7 =>
 ob (extractA r5 1) fun r8 =>
 ob (partA true 0 7 b1) fun r9 =>
 E 10 [r2, r9] H6 fun r10 H11 =>
 ob (extractA r10 0) fun r12 =>
 ob (extractA r10 1) fun r13 =>
 E 11 [(AV.raw (.pointer none)), a1] H11 fun r14 H15 =>
 ob (extractA r14 0) fun r16 =>
 ob (extractA r14 1) fun r17 =>
 ob (binA Pg .eql 32 false r8 (I 7)) fun r18 =>
 cndA r18
 (ob (binA Pg .eql 32 false r13 (I 7)) fun r19 =>
 f3_c7_8a b1 (AV.raw (.pointer none)) r2 r16 r17 (I 7) r19 H15 Q)
 (f3_c7_8b b1 (AV.raw (.pointer none)) r2 r16 r17 (I 7) H15 Q) :=
  Ev_eq.trans (by kernel_rfl)
/-! ### 4 haruspex/haruspexlaw10.TypingKinds -/
def f4_j9 (x4 : AV) (x8 : List AV) (x11 : AV) (x13 : AV) (x46 : AV) (H : Heap) (Q : Post) : Prop := AtJ Pg Hs 4 [1, 1, 1, 0, 1] Q [(4, .val x4), (8, .lbox x8), (11, .val x11), (13, .val x13), (46, .val x46)] H
def f4_c11_8a (x8 : List AV) (x11 : AV) (x13 : AV) (x19 : AV) (x20 : AV) (x21 : AV) (x22 : AV) (x81 : AV) (H : Heap) (Q : Post) : Prop := AtJ Pg Hs 4 [1, 1, 1, 1, 1, 1, 1, 1, 1, 0, 8] Q [(8, .lbox x8), (11, .val x11), (13, .val x13), (19, .val x19), (20, .val x20), (21, .val x21), (22, .val x22), (81, .val x81)] H
def f4_c11_8b (x8 : List AV) (x11 : AV) (x13 : AV) (x19 : AV) (x20 : AV) (x21 : AV) (x22 : AV) (H : Heap) (Q : Post) : Prop := AtJ Pg Hs 4 [1, 1, 1, 1, 1, 1, 1, 1, 1, 0, 8] Q [(8, .lbox x8), (11, .val x11), (13, .val x13), (19, .val x19), (20, .val x20), (21, .val x21), (22, .val x22), (81, .val (B false))] H
def f4_c11_17a (x8 : List AV) (x19 : AV) (x20 : AV) (x21 : AV) (x22 : AV) (x90 : AV) (H : Heap) (Q : Post) : Prop := AtJ Pg Hs 4 [1, 1, 1, 1, 1, 1, 1, 1, 1, 0, 17] Q [(8, .lbox x8), (19, .val x19), (20, .val x20), (21, .val x21), (22, .val x22), (90, .val x90)] H
def f4_c11_17b (x8 : List AV) (x19 : AV) (x20 : AV) (x21 : AV) (x22 : AV) (H : Heap) (Q : Post) : Prop := AtJ Pg Hs 4 [1, 1, 1, 1, 1, 1, 1, 1, 1, 0, 17] Q [(8, .lbox x8), (19, .val x19), (20, .val x20), (21, .val x21), (22, .val x22), (90, .val (B false))] H
def f4_c11_22a (x8 : List AV) (x20 : AV) (x22 : AV) (x95 : AV) (H : Heap) (Q : Post) : Prop := AtJ Pg Hs 4 [1, 1, 1, 1, 1, 1, 1, 1, 1, 0, 22] Q [(8, .lbox x8), (20, .val x20), (22, .val x22), (95, .val x95)] H
def f4_c11_22b (x8 : List AV) (x20 : AV) (x22 : AV) (H : Heap) (Q : Post) : Prop := AtJ Pg Hs 4 [1, 1, 1, 1, 1, 1, 1, 1, 1, 0, 22] Q [(8, .lbox x8), (20, .val x20), (22, .val x22), (95, .val (B false))] H
def f4_c11_27a (x8 : List AV) (x100 : AV) (H : Heap) (Q : Post) : Prop := AtJ Pg Hs 4 [1, 1, 1, 1, 1, 1, 1, 1, 1, 0, 27] Q [(8, .lbox x8), (100, .val x100)] H
def f4_c11_27b (x8 : List AV) (H : Heap) (Q : Post) : Prop := AtJ Pg Hs 4 [1, 1, 1, 1, 1, 1, 1, 1, 1, 0, 27] Q [(8, .lbox x8), (100, .val (B false))] H
def f4_c11_30a (x8 : List AV) (x103 : AV) (H : Heap) (Q : Post) : Prop := AtJ Pg Hs 4 [1, 1, 1, 1, 1, 1, 1, 1, 1, 0, 30] Q [(8, .lbox x8), (103, .val x103)] H
def f4_c11_30b (x8 : List AV) (H : Heap) (Q : Post) : Prop := AtJ Pg Hs 4 [1, 1, 1, 1, 1, 1, 1, 1, 1, 0, 30] Q [(8, .lbox x8), (103, .val (B false))] H
def f4_j32 (x10 : AV) (H : Heap) (Q : Post) : Prop := AtJ Pg Hs 4 [1, 1, 1, 1, 1, 1, 1, 1, 1, 1] Q [(10, .val x10)] H
theorem f4_j9_eq (x4 : AV) (x8 : List AV) (x11 : AV) (x13 : AV) (x46 : AV) (H : Heap) (Q : Post) : f4_j9 x4 x8 x11 x13 x46 H Q =
 cndA x46
 (Q (B false) H)
 (ob (binA Pg .eql 41 true x13 (AV.raw (.pointer none))) fun r14 =>
 cndA r14
 (E 15 [] H fun r15 H16 =>
 Q r15 H16)
 (ob (partA true 0 7 x8) fun r17 =>
 E 10 [x11, r17] H fun r18 H19 =>
 ob (extractA r18 0) fun r20 =>
 ob (extractA r18 1) fun r21 =>
 ob (partA true 0 7 x8) fun r22 =>
 E 16 [x13, r22] H19 fun r23 H24 =>
 ob (extractA r23 0) fun r25 =>
 ob (extractA r23 1) fun r26 =>
 E 11 [x11, x4] H24 fun r27 H28 =>
 ob (extractA r27 0) fun r29 =>
 ob (extractA r27 1) fun r30 =>
 E 17 [x13, x4] H28 fun r31 H32 =>
 ob (extractA r31 0) fun r33 =>
 ob (extractA r31 1) fun r34 =>
 ob (binA Pg .eql 3 false r20 r25) fun r35 =>
 cndA r35
 (ob (binA Pg .eql 3 false r21 r26) fun r36 =>
 f4_c11_8a x8 x11 x13 r29 r30 r33 r34 r36 H32 Q)
 (f4_c11_8b x8 x11 x13 r29 r30 r33 r34 H32 Q))) :=
  (AtJ_eq Pg Hs 4 [1, 1, 1, 0, 1] Q _ H).trans (by kernel_rfl)
theorem f4_c11_8a_eq (x8 : List AV) (x11 : AV) (x13 : AV) (x19 : AV) (x20 : AV) (x21 : AV) (x22 : AV) (x81 : AV) (H : Heap) (Q : Post) : f4_c11_8a x8 x11 x13 x19 x20 x21 x22 x81 H Q =
 cndA x81
 (ob (partA true 0 7 x8) fun r37 =>
 ob (partA true 0 7 x8) fun r38 =>
 E 12 [x11, r37] H fun r39 H40 =>
 E 18 [x13, r38] H40 fun r41 H42 =>
 ob (binA Pg .eql 3 false r39 r41) fun r43 =>
 f4_c11_17a x8 x19 x20 x21 x22 r43 H42 Q)
 (f4_c11_17b x8 x19 x20 x21 x22 H Q) :=
  (AtJ_eq Pg Hs 4 [1, 1, 1, 1, 1, 1, 1, 1, 1, 0, 8] Q _ H).trans (by kernel_rfl)
theorem f4_c11_8b_eq (x8 : List AV) (x11 : AV) (x13 : AV) (x19 : AV) (x20 : AV) (x21 : AV) (x22 : AV) (H : Heap) (Q : Post) : f4_c11_8b x8 x11 x13 x19 x20 x21 x22 H Q =
 f4_c11_17b x8 x19 x20 x21 x22 H Q :=
  (AtJ_eq Pg Hs 4 [1, 1, 1, 1, 1, 1, 1, 1, 1, 0, 8] Q _ H).trans (by kernel_rfl)
theorem f4_c11_17a_eq (x8 : List AV) (x19 : AV) (x20 : AV) (x21 : AV) (x22 : AV) (x90 : AV) (H : Heap) (Q : Post) : f4_c11_17a x8 x19 x20 x21 x22 x90 H Q =
 cndA x90
 (ob (binA Pg .eql 9 false x19 x21) fun r44 =>
 f4_c11_22a x8 x20 x22 r44 H Q)
 (f4_c11_22b x8 x20 x22 H Q) :=
  (AtJ_eq Pg Hs 4 [1, 1, 1, 1, 1, 1, 1, 1, 1, 0, 17] Q _ H).trans (by kernel_rfl)
theorem f4_c11_17b_eq (x8 : List AV) (x19 : AV) (x20 : AV) (x21 : AV) (x22 : AV) (H : Heap) (Q : Post) : f4_c11_17b x8 x19 x20 x21 x22 H Q =
 f4_c11_22b x8 x20 x22 H Q :=
  (AtJ_eq Pg Hs 4 [1, 1, 1, 1, 1, 1, 1, 1, 1, 0, 17] Q _ H).trans (by kernel_rfl)
theorem f4_c11_22a_eq (x8 : List AV) (x20 : AV) (x22 : AV) (x95 : AV) (H : Heap) (Q : Post) : f4_c11_22a x8 x20 x22 x95 H Q =
 cndA x95
 (ob (binA Pg .eql 4 false x20 x22) fun r45 =>
 f4_c11_27a x8 r45 H Q)
 (f4_c11_27b x8 H Q) :=
  (AtJ_eq Pg Hs 4 [1, 1, 1, 1, 1, 1, 1, 1, 1, 0, 22] Q _ H).trans (by kernel_rfl)
theorem f4_c11_22b_eq (x8 : List AV) (x20 : AV) (x22 : AV) (H : Heap) (Q : Post) : f4_c11_22b x8 x20 x22 H Q =
 f4_c11_27b x8 H Q :=
  (AtJ_eq Pg Hs 4 [1, 1, 1, 1, 1, 1, 1, 1, 1, 0, 22] Q _ H).trans (by kernel_rfl)
theorem f4_c11_27a_eq (x8 : List AV) (x100 : AV) (H : Heap) (Q : Post) : f4_c11_27a x8 x100 H Q =
 cndA x100
 (E 15 [] H fun r46 H47 =>
 f4_c11_30a x8 r46 H47 Q)
 (f4_c11_30b x8 H Q) :=
  (AtJ_eq Pg Hs 4 [1, 1, 1, 1, 1, 1, 1, 1, 1, 0, 27] Q _ H).trans (by kernel_rfl)
theorem f4_c11_27b_eq (x8 : List AV) (H : Heap) (Q : Post) : f4_c11_27b x8 H Q =
 f4_c11_30b x8 H Q :=
  (AtJ_eq Pg Hs 4 [1, 1, 1, 1, 1, 1, 1, 1, 1, 0, 27] Q _ H).trans (by kernel_rfl)
theorem f4_c11_30a_eq (x8 : List AV) (x103 : AV) (H : Heap) (Q : Post) : f4_c11_30a x8 x103 H Q =
 f4_j32 x103 H Q :=
  (AtJ_eq Pg Hs 4 [1, 1, 1, 1, 1, 1, 1, 1, 1, 0, 30] Q _ H).trans (by kernel_rfl)
theorem f4_c11_30b_eq (x8 : List AV) (H : Heap) (Q : Post) : f4_c11_30b x8 H Q =
 f4_j32 (B false) H Q :=
  (AtJ_eq Pg Hs 4 [1, 1, 1, 1, 1, 1, 1, 1, 1, 0, 30] Q _ H).trans (by kernel_rfl)
theorem f4_j32_eq (x10 : AV) (H : Heap) (Q : Post) : f4_j32 x10 H Q =
 Q x10 H :=
  (AtJ_eq Pg Hs 4 [1, 1, 1, 1, 1, 1, 1, 1, 1, 1] Q _ H).trans (by kernel_rfl)
theorem f4_eq (a0 a1 a2 a3 a4 : AV) (H : Heap) (Q : Post) : E 4 [a0, a1, a2, a3, a4] H Q =
 ob (sizedA 7 a3) fun b1 =>
 E 13 [a0, a1, a2] H fun r2 H3 =>
 ob (extractA r2 0) fun r4 =>
 ob (extractA r2 1) fun r5 =>
 E 14 [a0, a1, a2] H3 fun r6 H7 =>
 ob (extractA r6 0) fun r8 =>
 ob (extractA r6 1) fun r9 =>
 ob (binA Pg .neq 3 false r5 r9) fun r10 =>
 cndA r10
 (f4_j9 a4 b1 r4 r8 (B true) H7 Q)
 (ob (binA Pg .eql 27 true r4 (AV.raw (.pointer none))) fun r11 =>
 ob (binA Pg .eql 41 true r8 (AV.raw (.pointer none))) fun r12 =>
 ob (binA Pg .neq 4 false r11 r12) fun r13 =>
 f4_j9 a4 b1 r4 r8 r13 H7 Q) :=
  Ev_eq.trans (by kernel_rfl)
/-! ### 5 haruspex/haruspexlaw11.EvalSays -/
def f5_c10_8a (x6 : List AV) (x13 : List AV) (x14 : AV) (x15 : List AV) (x17 : List AV) (x19 : List AV) (x20 : AV) (x21 : List AV) (x22 : AV) (x23 : List AV) (x24 : AV) (x73 : AV) (H : Heap) (Q : Post) : Prop := AtJ Pg Hs 5 [1, 1, 1, 1, 1, 1, 1, 1, 1, 0, 8] Q [(6, .lbox x6), (13, .lbox x13), (14, .val x14), (15, .lbox x15), (17, .lbox x17), (19, .lbox x19), (20, .val x20), (21, .lbox x21), (22, .val x22), (23, .lbox x23), (24, .val x24), (73, .val x73)] H
def f5_c10_8b (x6 : List AV) (x13 : List AV) (x14 : AV) (x15 : List AV) (x17 : List AV) (x19 : List AV) (x20 : AV) (x21 : List AV) (x22 : AV) (x23 : List AV) (x24 : AV) (H : Heap) (Q : Post) : Prop := AtJ Pg Hs 5 [1, 1, 1, 1, 1, 1, 1, 1, 1, 0, 8] Q [(6, .lbox x6), (13, .lbox x13), (14, .val x14), (15, .lbox x15), (17, .lbox x17), (19, .lbox x19), (20, .val x20), (21, .lbox x21), (22, .val x22), (23, .lbox x23), (24, .val x24), (73, .val (B false))] H
def f5_c10_17a (x6 : List AV) (x13 : List AV) (x15 : List AV) (x17 : List AV) (x19 : List AV) (x20 : AV) (x21 : List AV) (x22 : AV) (x23 : List AV) (x24 : AV) (x82 : AV) (H : Heap) (Q : Post) : Prop := AtJ Pg Hs 5 [1, 1, 1, 1, 1, 1, 1, 1, 1, 0, 17] Q [(6, .lbox x6), (13, .lbox x13), (15, .lbox x15), (17, .lbox x17), (19, .lbox x19), (20, .val x20), (21, .lbox x21), (22, .val x22), (23, .lbox x23), (24, .val x24), (82, .val x82)] H
def f5_c10_17b (x6 : List AV) (x13 : List AV) (x15 : List AV) (x17 : List AV) (x19 : List AV) (x20 : AV) (x21 : List AV) (x22 : AV) (x23 : List AV) (x24 : AV) (H : Heap) (Q : Post) : Prop := AtJ Pg Hs 5 [1, 1, 1, 1, 1, 1, 1, 1, 1, 0, 17] Q [(6, .lbox x6), (13, .lbox x13), (15, .lbox x15), (17, .lbox x17), (19, .lbox x19), (20, .val x20), (21, .lbox x21), (22, .val x22), (23, .lbox x23), (24, .val x24), (82, .val (B false))] H
def f5_c10_22a (x6 : List AV) (x13 : List AV) (x15 : List AV) (x17 : List AV) (x19 : List AV) (x20 : AV) (x21 : List AV) (x22 : AV) (x23 : List AV) (x24 : AV) (x87 : AV) (H : Heap) (Q : Post) : Prop := AtJ Pg Hs 5 [1, 1, 1, 1, 1, 1, 1, 1, 1, 0, 22] Q [(6, .lbox x6), (13, .lbox x13), (15, .lbox x15), (17, .lbox x17), (19, .lbox x19), (20, .val x20), (21, .lbox x21), (22, .val x22), (23, .lbox x23), (24, .val x24), (87, .val x87)] H
def f5_c10_22b (x6 : List AV) (x13 : List AV) (x15 : List AV) (x17 : List AV) (x19 : List AV) (x20 : AV) (x21 : List AV) (x22 : AV) (x23 : List AV) (x24 : AV) (H : Heap) (Q : Post) : Prop := AtJ Pg Hs 5 [1, 1, 1, 1, 1, 1, 1, 1, 1, 0, 22] Q [(6, .lbox x6), (13, .lbox x13), (15, .lbox x15), (17, .lbox x17), (19, .lbox x19), (20, .val x20), (21, .lbox x21), (22, .val x22), (23, .lbox x23), (24, .val x24), (87, .val (B false))] H
def f5_c10_27a (x6 : List AV) (x13 : List AV) (x15 : List AV) (x17 : List AV) (x19 : List AV) (x21 : List AV) (x23 : List AV) (x24 : AV) (x92 : AV) (H : Heap) (Q : Post) : Prop := AtJ Pg Hs 5 [1, 1, 1, 1, 1, 1, 1, 1, 1, 0, 27] Q [(6, .lbox x6), (13, .lbox x13), (15, .lbox x15), (17, .lbox x17), (19, .lbox x19), (21, .lbox x21), (23, .lbox x23), (24, .val x24), (92, .val x92)] H
def f5_c10_27b (x6 : List AV) (x13 : List AV) (x15 : List AV) (x17 : List AV) (x19 : List AV) (x21 : List AV) (x23 : List AV) (x24 : AV) (H : Heap) (Q : Post) : Prop := AtJ Pg Hs 5 [1, 1, 1, 1, 1, 1, 1, 1, 1, 0, 27] Q [(6, .lbox x6), (13, .lbox x13), (15, .lbox x15), (17, .lbox x17), (19, .lbox x19), (21, .lbox x21), (23, .lbox x23), (24, .val x24), (92, .val (B false))] H
def f5_c10_31a (x6 : List AV) (x13 : List AV) (x15 : List AV) (x17 : List AV) (x19 : List AV) (x21 : List AV) (x23 : List AV) (x96 : AV) (H : Heap) (Q : Post) : Prop := AtJ Pg Hs 5 [1, 1, 1, 1, 1, 1, 1, 1, 1, 0, 31] Q [(6, .lbox x6), (13, .lbox x13), (15, .lbox x15), (17, .lbox x17), (19, .lbox x19), (21, .lbox x21), (23, .lbox x23), (96, .val x96)] H
def f5_c10_31b (x6 : List AV) (x13 : List AV) (x15 : List AV) (x17 : List AV) (x19 : List AV) (x21 : List AV) (x23 : List AV) (H : Heap) (Q : Post) : Prop := AtJ Pg Hs 5 [1, 1, 1, 1, 1, 1, 1, 1, 1, 0, 31] Q [(6, .lbox x6), (13, .lbox x13), (15, .lbox x15), (17, .lbox x17), (19, .lbox x19), (21, .lbox x21), (23, .lbox x23), (96, .val (B false))] H
def f5_c10_34a (x6 : List AV) (x13 : List AV) (x15 : List AV) (x17 : List AV) (x19 : List AV) (x21 : List AV) (x23 : List AV) (x99 : AV) (H : Heap) (Q : Post) : Prop := AtJ Pg Hs 5 [1, 1, 1, 1, 1, 1, 1, 1, 1, 0, 34] Q [(6, .lbox x6), (13, .lbox x13), (15, .lbox x15), (17, .lbox x17), (19, .lbox x19), (21, .lbox x21), (23, .lbox x23), (99, .val x99)] H
def f5_c10_34b (x6 : List AV) (x13 : List AV) (x15 : List AV) (x17 : List AV) (x19 : List AV) (x21 : List AV) (x23 : List AV) (H : Heap) (Q : Post) : Prop := AtJ Pg Hs 5 [1, 1, 1, 1, 1, 1, 1, 1, 1, 0, 34] Q [(6, .lbox x6), (13, .lbox x13), (15, .lbox x15), (17, .lbox x17), (19, .lbox x19), (21, .lbox x21), (23, .lbox x23), (99, .val (B false))] H
def f5_j26 (x12 : AV) (H : Heap) (Q : Post) : Prop := AtJ Pg Hs 5 [1, 1, 1, 1, 1, 1, 1, 1, 1, 1] Q [(12, .val x12)] H
theorem f5_c10_8a_eq (x6 : List AV) (x13 : List AV) (x14 : AV) (x15 : List AV) (x17 : List AV) (x19 : List AV) (x20 : AV) (x21 : List AV) (x22 : AV) (x23 : List AV) (x24 : AV) (x73 : AV) (H : Heap) (Q : Post) : f5_c10_8a x6 x13 x14 x15 x17 x19 x20 x21 x22 x23 x24 x73 H Q =
 cndA x73
 (ob (partA true 0 7 x6) fun r47 =>
 ob (partA true 0 7 x6) fun r48 =>
 ob (partA true 0 3 x13) fun r49 =>
 E 23 [r47, x14] H fun r50 H51 =>
 E 24 [r48, r49] H51 fun r52 H53 =>
 ob (binA Pg .eql 4 false r50 r52) fun r54 =>
 f5_c10_17a x6 x13 x15 x17 x19 x20 x21 x22 x23 x24 r54 H53 Q)
 (f5_c10_17b x6 x13 x15 x17 x19 x20 x21 x22 x23 x24 H Q) :=
  (AtJ_eq Pg Hs 5 [1, 1, 1, 1, 1, 1, 1, 1, 1, 0, 8] Q _ H).trans (by kernel_rfl)
theorem f5_c10_8b_eq (x6 : List AV) (x13 : List AV) (x14 : AV) (x15 : List AV) (x17 : List AV) (x19 : List AV) (x20 : AV) (x21 : List AV) (x22 : AV) (x23 : List AV) (x24 : AV) (H : Heap) (Q : Post) : f5_c10_8b x6 x13 x14 x15 x17 x19 x20 x21 x22 x23 x24 H Q =
 f5_c10_17b x6 x13 x15 x17 x19 x20 x21 x22 x23 x24 H Q :=
  (AtJ_eq Pg Hs 5 [1, 1, 1, 1, 1, 1, 1, 1, 1, 0, 8] Q _ H).trans (by kernel_rfl)
theorem f5_c10_17a_eq (x6 : List AV) (x13 : List AV) (x15 : List AV) (x17 : List AV) (x19 : List AV) (x20 : AV) (x21 : List AV) (x22 : AV) (x23 : List AV) (x24 : AV) (x82 : AV) (H : Heap) (Q : Post) : f5_c10_17a x6 x13 x15 x17 x19 x20 x21 x22 x23 x24 x82 H Q =
 cndA x82
 (ob (partA true 0 3 x19) fun r55 =>
 ob (partA true 0 3 x21) fun r56 =>
 ob (binA Pg .eql 23 false r55 r56) fun r57 =>
 f5_c10_22a x6 x13 x15 x17 x19 x20 x21 x22 x23 x24 r57 H Q)
 (f5_c10_22b x6 x13 x15 x17 x19 x20 x21 x22 x23 x24 H Q) :=
  (AtJ_eq Pg Hs 5 [1, 1, 1, 1, 1, 1, 1, 1, 1, 0, 17] Q _ H).trans (by kernel_rfl)
theorem f5_c10_17b_eq (x6 : List AV) (x13 : List AV) (x15 : List AV) (x17 : List AV) (x19 : List AV) (x20 : AV) (x21 : List AV) (x22 : AV) (x23 : List AV) (x24 : AV) (H : Heap) (Q : Post) : f5_c10_17b x6 x13 x15 x17 x19 x20 x21 x22 x23 x24 H Q =
 f5_c10_22b x6 x13 x15 x17 x19 x20 x21 x22 x23 x24 H Q :=
  (AtJ_eq Pg Hs 5 [1, 1, 1, 1, 1, 1, 1, 1, 1, 0, 17] Q _ H).trans (by kernel_rfl)
theorem f5_c10_22a_eq (x6 : List AV) (x13 : List AV) (x15 : List AV) (x17 : List AV) (x19 : List AV) (x20 : AV) (x21 : List AV) (x22 : AV) (x23 : List AV) (x24 : AV) (x87 : AV) (H : Heap) (Q : Post) : f5_c10_22a x6 x13 x15 x17 x19 x20 x21 x22 x23 x24 x87 H Q =
 cndA x87
 (ob (binA Pg .eql 4 false x20 x22) fun r58 =>
 f5_c10_27a x6 x13 x15 x17 x19 x21 x23 x24 r58 H Q)
 (f5_c10_27b x6 x13 x15 x17 x19 x21 x23 x24 H Q) :=
  (AtJ_eq Pg Hs 5 [1, 1, 1, 1, 1, 1, 1, 1, 1, 0, 22] Q _ H).trans (by kernel_rfl)
theorem f5_c10_22b_eq (x6 : List AV) (x13 : List AV) (x15 : List AV) (x17 : List AV) (x19 : List AV) (x20 : AV) (x21 : List AV) (x22 : AV) (x23 : List AV) (x24 : AV) (H : Heap) (Q : Post) : f5_c10_22b x6 x13 x15 x17 x19 x20 x21 x22 x23 x24 H Q =
 f5_c10_27b x6 x13 x15 x17 x19 x21 x23 x24 H Q :=
  (AtJ_eq Pg Hs 5 [1, 1, 1, 1, 1, 1, 1, 1, 1, 0, 22] Q _ H).trans (by kernel_rfl)
theorem f5_c10_27a_eq (x6 : List AV) (x13 : List AV) (x15 : List AV) (x17 : List AV) (x19 : List AV) (x21 : List AV) (x23 : List AV) (x24 : AV) (x92 : AV) (H : Heap) (Q : Post) : f5_c10_27a x6 x13 x15 x17 x19 x21 x23 x24 x92 H Q =
 cndA x92
 (ob (binA Pg .eql 32 true x24 (I 1)) fun r59 =>
 f5_c10_31a x6 x13 x15 x17 x19 x21 x23 r59 H Q)
 (f5_c10_31b x6 x13 x15 x17 x19 x21 x23 H Q) :=
  (AtJ_eq Pg Hs 5 [1, 1, 1, 1, 1, 1, 1, 1, 1, 0, 27] Q _ H).trans (by kernel_rfl)
theorem f5_c10_27b_eq (x6 : List AV) (x13 : List AV) (x15 : List AV) (x17 : List AV) (x19 : List AV) (x21 : List AV) (x23 : List AV) (x24 : AV) (H : Heap) (Q : Post) : f5_c10_27b x6 x13 x15 x17 x19 x21 x23 x24 H Q =
 f5_c10_31b x6 x13 x15 x17 x19 x21 x23 H Q :=
  (AtJ_eq Pg Hs 5 [1, 1, 1, 1, 1, 1, 1, 1, 1, 0, 27] Q _ H).trans (by kernel_rfl)
theorem f5_c10_31a_eq (x6 : List AV) (x13 : List AV) (x15 : List AV) (x17 : List AV) (x19 : List AV) (x21 : List AV) (x23 : List AV) (x96 : AV) (H : Heap) (Q : Post) : f5_c10_31a x6 x13 x15 x17 x19 x21 x23 x96 H Q =
 cndA x96
 (E 25 [] H fun r60 H61 =>
 f5_c10_34a x6 x13 x15 x17 x19 x21 x23 r60 H61 Q)
 (f5_c10_34b x6 x13 x15 x17 x19 x21 x23 H Q) :=
  (AtJ_eq Pg Hs 5 [1, 1, 1, 1, 1, 1, 1, 1, 1, 0, 31] Q _ H).trans (by kernel_rfl)
theorem f5_c10_31b_eq (x6 : List AV) (x13 : List AV) (x15 : List AV) (x17 : List AV) (x19 : List AV) (x21 : List AV) (x23 : List AV) (H : Heap) (Q : Post) : f5_c10_31b x6 x13 x15 x17 x19 x21 x23 H Q =
 f5_c10_34b x6 x13 x15 x17 x19 x21 x23 H Q :=
  (AtJ_eq Pg Hs 5 [1, 1, 1, 1, 1, 1, 1, 1, 1, 0, 31] Q _ H).trans (by kernel_rfl)
theorem f5_c10_34a_eq (x6 : List AV) (x13 : List AV) (x15 : List AV) (x17 : List AV) (x19 : List AV) (x21 : List AV) (x23 : List AV) (x99 : AV) (H : Heap) (Q : Post) : f5_c10_34a x6 x13 x15 x17 x19 x21 x23 x99 H Q =
 f5_j26 x99 H Q :=
  (AtJ_eq Pg Hs 5 [1, 1, 1, 1, 1, 1, 1, 1, 1, 0, 34] Q _ H).trans (by kernel_rfl)
theorem f5_c10_34b_eq (x6 : List AV) (x13 : List AV) (x15 : List AV) (x17 : List AV) (x19 : List AV) (x21 : List AV) (x23 : List AV) (H : Heap) (Q : Post) : f5_c10_34b x6 x13 x15 x17 x19 x21 x23 H Q =
 f5_j26 (B false) H Q :=
  (AtJ_eq Pg Hs 5 [1, 1, 1, 1, 1, 1, 1, 1, 1, 0, 34] Q _ H).trans (by kernel_rfl)
theorem f5_j26_eq (x12 : AV) (H : Heap) (Q : Post) : f5_j26 x12 H Q =
 Q x12 H :=
  (AtJ_eq Pg Hs 5 [1, 1, 1, 1, 1, 1, 1, 1, 1, 1] Q _ H).trans (by kernel_rfl)
theorem f5_eq (a0 a1 a2 a3 a4 a5 : AV) (H : Heap) (Q : Post) : E 5 [a0, a1, a2, a3, a4, a5] H Q =
 ob (sizedA 7 a0) fun b1 =>
 ob (bldA [(0, 1, a1), (1, 1, a2), (2, 1, a3)] [(AV.sl 0 true .full []), (AV.sl 0 true .full []), (AV.sl 0 true .full [])]) fun r2 =>
 ob (sizedA 3 r2) fun b3 =>
 ob (spliceA 0 b3 [(AV.sl 0 true .full []), (AV.sl 0 true .full []), (AV.sl 0 true .full [])]) fun b4 =>
 E 19 [a1, a2, a3] H fun r5 H6 =>
 ob (binA Pg .eql 52 true r5 (AV.raw .nilFunc)) fun r7 =>
 cndA r7
 (Q (B false) H6)
 (ob (partA true 0 7 b1) fun r8 =>
 E 20 [r8, r5] H6 fun r9 H10 =>
 ob (extractA r9 0) fun r11 =>
 ob (extractA r9 1) fun r12 =>
 ob (sizedA 3 r11) fun b13 =>
 ob (spliceA 0 b13 [(I 0), (I 0), (S ⟨#[]⟩)]) fun b14 =>
 ob (partA true 0 7 b1) fun r15 =>
 ob (partA true 0 3 b4) fun r16 =>
 E 21 [r15, r16] H10 fun r17 H18 =>
 ob (extractA r17 0) fun r19 =>
 ob (extractA r17 1) fun r20 =>
 ob (sizedA 3 r19) fun b21 =>
 ob (spliceA 0 b21 [(I 0), (I 0), (S ⟨#[]⟩)]) fun b22 =>
 callA (Ev Pg Hs) r5 [a4, a5] H18 fun r23 H24 =>
 ob (extractA r23 0) fun r25 =>
 ob (extractA r23 1) fun r26 =>
 ob (sizedA 3 r25) fun b27 =>
 ob (spliceA 0 b27 [(I 0), (I 0), (S ⟨#[]⟩)]) fun b28 =>
 ob (partA true 0 3 b4) fun r29 =>
 E 22 [r29, a4, a5] H24 fun r30 H31 =>
 ob (extractA r30 0) fun r32 =>
 ob (extractA r30 1) fun r33 =>
 ob (sizedA 3 r32) fun b34 =>
 ob (spliceA 0 b34 [(I 0), (I 0), (S ⟨#[]⟩)]) fun b35 =>
 ob (partA true 0 7 b1) fun r36 =>
 E 20 [r36, (AV.raw .nilFunc)] H31 fun r37 H38 =>
 ob (extractA r37 0) fun r39 =>
 ob (extractA r37 1) fun r40 =>
 ob (sizedA 3 r39) fun b41 =>
 ob (spliceA 0 b41 [(I 0), (I 0), (S ⟨#[]⟩)]) fun b42 =>
 ob (partA true 0 3 b14) fun r43 =>
 ob (partA true 0 3 b22) fun r44 =>
 ob (binA Pg .eql 23 false r43 r44) fun r45 =>
 cndA r45
 (ob (binA Pg .eql 3 false r12 r20) fun r46 =>
 f5_c10_8a b1 b4 r5 b14 b22 b28 r26 b35 r33 b42 r40 r46 H38 Q)
 (f5_c10_8b b1 b4 r5 b14 b22 b28 r26 b35 r33 b42 r40 H38 Q)) :=
  Ev_eq.trans (by kernel_rfl)
/-! ### 6 haruspex/haruspexlaw11.EvalNot -/
def f6_j25 (x11 : List AV) (x12 : AV) (x13 : AV) (x14 : AV) (x51 : AV) (H : Heap) (Q : Post) : Prop := AtJ Pg Hs 6 [1, 1, 1, 1, 1, 1, 1, 1, 0, 1] Q [(11, .lbox x11), (12, .val x12), (13, .val x13), (14, .val x14), (51, .val x51)] H
def f6_j28 (x8 : AV) (H : Heap) (Q : Post) : Prop := AtJ Pg Hs 6 [1, 1, 1, 1, 1, 1, 1, 1, 0, 1, 0, 1] Q [(8, .val x8)] H
def f6_c11_4a (x11 : List AV) (x12 : AV) (x13 : AV) (H : Heap) (Q : Post) : Prop := AtJ Pg Hs 6 [1, 1, 1, 1, 1, 1, 1, 1, 1, 0, 4] Q [(11, .lbox x11), (12, .val x12), (13, .val x13), (63, .val (B true))] H
def f6_c11_4b (x11 : List AV) (x12 : AV) (x13 : AV) (x63 : AV) (H : Heap) (Q : Post) : Prop := AtJ Pg Hs 6 [1, 1, 1, 1, 1, 1, 1, 1, 1, 0, 4] Q [(11, .lbox x11), (12, .val x12), (13, .val x13), (63, .val x63)] H
def f6_c11_15a (x11 : List AV) (x12 : AV) (x13 : AV) (H : Heap) (Q : Post) : Prop := AtJ Pg Hs 6 [1, 1, 1, 1, 1, 1, 1, 1, 1, 0, 15] Q [(11, .lbox x11), (12, .val x12), (13, .val x13), (63, .val (B true)), (66, .val (B true)), (74, .val (B true))] H
def f6_c11_15b (x11 : List AV) (x12 : AV) (x13 : AV) (x74 : AV) (H : Heap) (Q : Post) : Prop := AtJ Pg Hs 6 [1, 1, 1, 1, 1, 1, 1, 1, 1, 0, 15] Q [(11, .lbox x11), (12, .val x12), (13, .val x13), (63, .val (B true)), (66, .val (B true)), (74, .val x74)] H
def f6_c11_15c (x11 : List AV) (x12 : AV) (x13 : AV) (H : Heap) (Q : Post) : Prop := AtJ Pg Hs 6 [1, 1, 1, 1, 1, 1, 1, 1, 1, 0, 15] Q [(11, .lbox x11), (12, .val x12), (13, .val x13), (63, .val (B true)), (66, .val (B false)), (74, .nov)] H
def f6_c11_15d (x11 : List AV) (x12 : AV) (x13 : AV) (x63 : AV) (H : Heap) (Q : Post) : Prop := AtJ Pg Hs 6 [1, 1, 1, 1, 1, 1, 1, 1, 1, 0, 15] Q [(11, .lbox x11), (12, .val x12), (13, .val x13), (63, .val x63), (66, .val (B true)), (74, .val (B true))] H
def f6_c11_15e (x11 : List AV) (x12 : AV) (x13 : AV) (x63 : AV) (x74 : AV) (H : Heap) (Q : Post) : Prop := AtJ Pg Hs 6 [1, 1, 1, 1, 1, 1, 1, 1, 1, 0, 15] Q [(11, .lbox x11), (12, .val x12), (13, .val x13), (63, .val x63), (66, .val (B true)), (74, .val x74)] H
def f6_c11_15f (x11 : List AV) (x12 : AV) (x13 : AV) (x63 : AV) (H : Heap) (Q : Post) : Prop := AtJ Pg Hs 6 [1, 1, 1, 1, 1, 1, 1, 1, 1, 0, 15] Q [(11, .lbox x11), (12, .val x12), (13, .val x13), (63, .val x63), (66, .val (B false)), (74, .nov)] H
def f6_c11_16a (x11 : List AV) (x12 : AV) (x13 : AV) (H : Heap) (Q : Post) : Prop := AtJ Pg Hs 6 [1, 1, 1, 1, 1, 1, 1, 1, 1, 0, 16] Q [(11, .lbox x11), (12, .val x12), (13, .val x13), (63, .val (B true)), (75, .val (B true))] H
def f6_c11_16b (x11 : List AV) (x12 : AV) (x13 : AV) (x75 : AV) (H : Heap) (Q : Post) : Prop := AtJ Pg Hs 6 [1, 1, 1, 1, 1, 1, 1, 1, 1, 0, 16] Q [(11, .lbox x11), (12, .val x12), (13, .val x13), (63, .val (B true)), (75, .val x75)] H
def f6_c11_16c (x11 : List AV) (x12 : AV) (x13 : AV) (H : Heap) (Q : Post) : Prop := AtJ Pg Hs 6 [1, 1, 1, 1, 1, 1, 1, 1, 1, 0, 16] Q [(11, .lbox x11), (12, .val x12), (13, .val x13), (63, .val (B true)), (75, .val (B false))] H
def f6_c11_16d (x11 : List AV) (x12 : AV) (x13 : AV) (x63 : AV) (H : Heap) (Q : Post) : Prop := AtJ Pg Hs 6 [1, 1, 1, 1, 1, 1, 1, 1, 1, 0, 16] Q [(11, .lbox x11), (12, .val x12), (13, .val x13), (63, .val x63), (75, .val (B true))] H
def f6_c11_16e (x11 : List AV) (x12 : AV) (x13 : AV) (x63 : AV) (x75 : AV) (H : Heap) (Q : Post) : Prop := AtJ Pg Hs 6 [1, 1, 1, 1, 1, 1, 1, 1, 1, 0, 16] Q [(11, .lbox x11), (12, .val x12), (13, .val x13), (63, .val x63), (75, .val x75)] H
def f6_c11_16f (x11 : List AV) (x12 : AV) (x13 : AV) (x63 : AV) (H : Heap) (Q : Post) : Prop := AtJ Pg Hs 6 [1, 1, 1, 1, 1, 1, 1, 1, 1, 0, 16] Q [(11, .lbox x11), (12, .val x12), (13, .val x13), (63, .val x63), (75, .val (B false))] H
def f6_c11_24a (x11 : List AV) (x12 : AV) (H : Heap) (Q : Post) : Prop := AtJ Pg Hs 6 [1, 1, 1, 1, 1, 1, 1, 1, 1, 0, 24] Q [(11, .lbox x11), (12, .val x12), (77, .val (B true)), (83, .val (B true))] H
def f6_c11_24b (x11 : List AV) (x12 : AV) (x83 : AV) (H : Heap) (Q : Post) : Prop := AtJ Pg Hs 6 [1, 1, 1, 1, 1, 1, 1, 1, 1, 0, 24] Q [(11, .lbox x11), (12, .val x12), (77, .val (B true)), (83, .val x83)] H
def f6_c11_24c (x11 : List AV) (x12 : AV) (H : Heap) (Q : Post) : Prop := AtJ Pg Hs 6 [1, 1, 1, 1, 1, 1, 1, 1, 1, 0, 24] Q [(11, .lbox x11), (12, .val x12), (77, .val (B false)), (83, .nov)] H
def f6_c11_29a (x11 : List AV) (x12 : AV) (H : Heap) (Q : Post) : Prop := AtJ Pg Hs 6 [1, 1, 1, 1, 1, 1, 1, 1, 1, 0, 29] Q [(11, .lbox x11), (12, .val x12), (77, .val (B true)), (88, .val (B true))] H
def f6_c11_29b (x11 : List AV) (x12 : AV) (x88 : AV) (H : Heap) (Q : Post) : Prop := AtJ Pg Hs 6 [1, 1, 1, 1, 1, 1, 1, 1, 1, 0, 29] Q [(11, .lbox x11), (12, .val x12), (77, .val (B true)), (88, .val x88)] H
def f6_c11_29c (x11 : List AV) (x12 : AV) (H : Heap) (Q : Post) : Prop := AtJ Pg Hs 6 [1, 1, 1, 1, 1, 1, 1, 1, 1, 0, 29] Q [(11, .lbox x11), (12, .val x12), (77, .val (B false)), (88, .nov)] H
def f6_c11_33a (x11 : List AV) (H : Heap) (Q : Post) : Prop := AtJ Pg Hs 6 [1, 1, 1, 1, 1, 1, 1, 1, 1, 0, 33] Q [(11, .lbox x11), (77, .val (B true)), (92, .val (B true))] H
def f6_c11_33b (x11 : List AV) (x92 : AV) (H : Heap) (Q : Post) : Prop := AtJ Pg Hs 6 [1, 1, 1, 1, 1, 1, 1, 1, 1, 0, 33] Q [(11, .lbox x11), (77, .val (B true)), (92, .val x92)] H
def f6_c11_33c (x11 : List AV) (H : Heap) (Q : Post) : Prop := AtJ Pg Hs 6 [1, 1, 1, 1, 1, 1, 1, 1, 1, 0, 33] Q [(11, .lbox x11), (77, .val (B false)), (92, .nov)] H
def f6_c11_34a (x11 : List AV) (H : Heap) (Q : Post) : Prop := AtJ Pg Hs 6 [1, 1, 1, 1, 1, 1, 1, 1, 1, 0, 34] Q [(11, .lbox x11), (93, .val (B true))] H
def f6_c11_34b (x11 : List AV) (x93 : AV) (H : Heap) (Q : Post) : Prop := AtJ Pg Hs 6 [1, 1, 1, 1, 1, 1, 1, 1, 1, 0, 34] Q [(11, .lbox x11), (93, .val x93)] H
def f6_c11_34c (x11 : List AV) (H : Heap) (Q : Post) : Prop := AtJ Pg Hs 6 [1, 1, 1, 1, 1, 1, 1, 1, 1, 0, 34] Q [(11, .lbox x11), (93, .val (B false))] H
def f6_c11_37a (x11 : List AV) (x96 : AV) (H : Heap) (Q : Post) : Prop := AtJ Pg Hs 6 [1, 1, 1, 1, 1, 1, 1, 1, 1, 0, 37] Q [(11, .lbox x11), (96, .val x96)] H
def f6_c11_37b (x11 : List AV) (H : Heap) (Q : Post) : Prop := AtJ Pg Hs 6 [1, 1, 1, 1, 1, 1, 1, 1, 1, 0, 37] Q [(11, .lbox x11), (96, .val (B false))] H
def f6_j32 (x8 : AV) (H : Heap) (Q : Post) : Prop := AtJ Pg Hs 6 [1, 1, 1, 1, 1, 1, 1, 1, 1, 1] Q [(8, .val x8)] H
theorem f6_j25_eq (x11 : List AV) (x12 : AV) (x13 : AV) (x14 : AV) (x51 : AV) (H : Heap) (Q : Post) : f6_j25 x11 x12 x13 x14 x51 H Q =
 cndA x51
 (cndA x13
 (ob (unA .not x14) fun r32 =>
 cndA r32
 (E 25 [] H fun r33 H34 =>
 f6_j28 r33 H34 Q)
 (f6_j28 (B false) H Q))
 (ob (unA .not (B false)) fun r35 =>
 cndA r35
 (E 25 [] H fun r36 H37 =>
 f6_j28 r36 H37 Q)
 (f6_j28 (B false) H Q)))
 (cndA x13
 (f6_c11_4a x11 x12 x13 H Q)
 (f6_c11_4b x11 x12 x13 x14 H Q)) :=
  (AtJ_eq Pg Hs 6 [1, 1, 1, 1, 1, 1, 1, 1, 0, 1] Q _ H).trans (by kernel_rfl)
theorem f6_j28_eq (x8 : AV) (H : Heap) (Q : Post) : f6_j28 x8 H Q =
 Q x8 H :=
  (AtJ_eq Pg Hs 6 [1, 1, 1, 1, 1, 1, 1, 1, 0, 1, 0, 1] Q _ H).trans (by kernel_rfl)
theorem f6_c11_4a_eq (x11 : List AV) (x12 : AV) (x13 : AV) (H : Heap) (Q : Post) : f6_c11_4a x11 x12 x13 H Q =
 ob (binA Pg .eql 32 true x12 (I 0)) fun r38 =>
 cndA r38
 (ob (partA false 0 1 x11) fun r39 =>
 ob (binA Pg .eql 3 true r39 (I 1)) fun r40 =>
 cndA r40
 (f6_c11_15a x11 x12 x13 H Q)
 (ob (partA false 0 1 x11) fun r41 =>
 ob (binA Pg .eql 3 true r41 (I 0)) fun r42 =>
 f6_c11_15b x11 x12 x13 r42 H Q))
 (f6_c11_15c x11 x12 x13 H Q) :=
  (AtJ_eq Pg Hs 6 [1, 1, 1, 1, 1, 1, 1, 1, 1, 0, 4] Q _ H).trans (by kernel_rfl)
theorem f6_c11_4b_eq (x11 : List AV) (x12 : AV) (x13 : AV) (x63 : AV) (H : Heap) (Q : Post) : f6_c11_4b x11 x12 x13 x63 H Q =
 ob (binA Pg .eql 32 true x12 (I 0)) fun r43 =>
 cndA r43
 (ob (partA false 0 1 x11) fun r44 =>
 ob (binA Pg .eql 3 true r44 (I 1)) fun r45 =>
 cndA r45
 (f6_c11_15d x11 x12 x13 x63 H Q)
 (ob (partA false 0 1 x11) fun r46 =>
 ob (binA Pg .eql 3 true r46 (I 0)) fun r47 =>
 f6_c11_15e x11 x12 x13 x63 r47 H Q))
 (f6_c11_15f x11 x12 x13 x63 H Q) :=
  (AtJ_eq Pg Hs 6 [1, 1, 1, 1, 1, 1, 1, 1, 1, 0, 4] Q _ H).trans (by kernel_rfl)
theorem f6_c11_15a_eq (x11 : List AV) (x12 : AV) (x13 : AV) (H : Heap) (Q : Post) : f6_c11_15a x11 x12 x13 H Q =
 f6_c11_16a x11 x12 x13 H Q :=
  (AtJ_eq Pg Hs 6 [1, 1, 1, 1, 1, 1, 1, 1, 1, 0, 15] Q _ H).trans (by kernel_rfl)
theorem f6_c11_15b_eq (x11 : List AV) (x12 : AV) (x13 : AV) (x74 : AV) (H : Heap) (Q : Post) : f6_c11_15b x11 x12 x13 x74 H Q =
 f6_c11_16b x11 x12 x13 x74 H Q :=
  (AtJ_eq Pg Hs 6 [1, 1, 1, 1, 1, 1, 1, 1, 1, 0, 15] Q _ H).trans (by kernel_rfl)
theorem f6_c11_15c_eq (x11 : List AV) (x12 : AV) (x13 : AV) (H : Heap) (Q : Post) : f6_c11_15c x11 x12 x13 H Q =
 f6_c11_16c x11 x12 x13 H Q :=
  (AtJ_eq Pg Hs 6 [1, 1, 1, 1, 1, 1, 1, 1, 1, 0, 15] Q _ H).trans (by kernel_rfl)
theorem f6_c11_15d_eq (x11 : List AV) (x12 : AV) (x13 : AV) (x63 : AV) (H : Heap) (Q : Post) : f6_c11_15d x11 x12 x13 x63 H Q =
 f6_c11_16d x11 x12 x13 x63 H Q :=
  (AtJ_eq Pg Hs 6 [1, 1, 1, 1, 1, 1, 1, 1, 1, 0, 15] Q _ H).trans (by kernel_rfl)
theorem f6_c11_15e_eq (x11 : List AV) (x12 : AV) (x13 : AV) (x63 : AV) (x74 : AV) (H : Heap) (Q : Post) : f6_c11_15e x11 x12 x13 x63 x74 H Q =
 f6_c11_16e x11 x12 x13 x63 x74 H Q :=
  (AtJ_eq Pg Hs 6 [1, 1, 1, 1, 1, 1, 1, 1, 1, 0, 15] Q _ H).trans (by kernel_rfl)
theorem f6_c11_15f_eq (x11 : List AV) (x12 : AV) (x13 : AV) (x63 : AV) (H : Heap) (Q : Post) : f6_c11_15f x11 x12 x13 x63 H Q =
 f6_c11_16f x11 x12 x13 x63 H Q :=
  (AtJ_eq Pg Hs 6 [1, 1, 1, 1, 1, 1, 1, 1, 1, 0, 15] Q _ H).trans (by kernel_rfl)
theorem f6_c11_16a_eq (x11 : List AV) (x12 : AV) (x13 : AV) (H : Heap) (Q : Post) : f6_c11_16a x11 x12 x13 H Q =
 ob (binA Pg .eql 4 false (B true) (B true)) fun r48 =>
 cndA r48
 (cndA x13
 (f6_c11_24a x11 x12 H Q)
 (ob (partA false 1 1 x11) fun r49 =>
 ob (binA Pg .neq 2 true r49 (I 1)) fun r50 =>
 f6_c11_24b x11 x12 r50 H Q))
 (f6_c11_24c x11 x12 H Q) :=
  (AtJ_eq Pg Hs 6 [1, 1, 1, 1, 1, 1, 1, 1, 1, 0, 16] Q _ H).trans (by kernel_rfl)
theorem f6_c11_16b_eq (x11 : List AV) (x12 : AV) (x13 : AV) (x75 : AV) (H : Heap) (Q : Post) : f6_c11_16b x11 x12 x13 x75 H Q =
 ob (binA Pg .eql 4 false (B true) x75) fun r51 =>
 cndA r51
 (cndA x13
 (f6_c11_24a x11 x12 H Q)
 (ob (partA false 1 1 x11) fun r52 =>
 ob (binA Pg .neq 2 true r52 (I 1)) fun r53 =>
 f6_c11_24b x11 x12 r53 H Q))
 (f6_c11_24c x11 x12 H Q) :=
  (AtJ_eq Pg Hs 6 [1, 1, 1, 1, 1, 1, 1, 1, 1, 0, 16] Q _ H).trans (by kernel_rfl)
theorem f6_c11_16c_eq (x11 : List AV) (x12 : AV) (x13 : AV) (H : Heap) (Q : Post) : f6_c11_16c x11 x12 x13 H Q =
 ob (binA Pg .eql 4 false (B true) (B false)) fun r54 =>
 cndA r54
 (cndA x13
 (f6_c11_24a x11 x12 H Q)
 (ob (partA false 1 1 x11) fun r55 =>
 ob (binA Pg .neq 2 true r55 (I 1)) fun r56 =>
 f6_c11_24b x11 x12 r56 H Q))
 (f6_c11_24c x11 x12 H Q) :=
  (AtJ_eq Pg Hs 6 [1, 1, 1, 1, 1, 1, 1, 1, 1, 0, 16] Q _ H).trans (by kernel_rfl)
theorem f6_c11_16d_eq (x11 : List AV) (x12 : AV) (x13 : AV) (x63 : AV) (H : Heap) (Q : Post) : f6_c11_16d x11 x12 x13 x63 H Q =
 ob (binA Pg .eql 4 false x63 (B true)) fun r57 =>
 cndA r57
 (cndA x13
 (f6_c11_24a x11 x12 H Q)
 (ob (partA false 1 1 x11) fun r58 =>
 ob (binA Pg .neq 2 true r58 (I 1)) fun r59 =>
 f6_c11_24b x11 x12 r59 H Q))
 (f6_c11_24c x11 x12 H Q) :=
  (AtJ_eq Pg Hs 6 [1, 1, 1, 1, 1, 1, 1, 1, 1, 0, 16] Q _ H).trans (by kernel_rfl)
theorem f6_c11_16e_eq (x11 : List AV) (x12 : AV) (x13 : AV) (x63 : AV) (x75 : AV) (H : Heap) (Q : Post) : f6_c11_16e x11 x12 x13 x63 x75 H Q =
 ob (binA Pg .eql 4 false x63 x75) fun r60 =>
 cndA r60
 (cndA x13
 (f6_c11_24a x11 x12 H Q)
 (ob (partA false 1 1 x11) fun r61 =>
 ob (binA Pg .neq 2 true r61 (I 1)) fun r62 =>
 f6_c11_24b x11 x12 r62 H Q))
 (f6_c11_24c x11 x12 H Q) :=
  (AtJ_eq Pg Hs 6 [1, 1, 1, 1, 1, 1, 1, 1, 1, 0, 16] Q _ H).trans (by kernel_rfl)
theorem f6_c11_16f_eq (x11 : List AV) (x12 : AV) (x13 : AV) (x63 : AV) (H : Heap) (Q : Post) : f6_c11_16f x11 x12 x13 x63 H Q =
 ob (binA Pg .eql 4 false x63 (B false)) fun r63 =>
 cndA r63
 (cndA x13
 (f6_c11_24a x11 x12 H Q)
 (ob (partA false 1 1 x11) fun r64 =>
 ob (binA Pg .neq 2 true r64 (I 1)) fun r65 =>
 f6_c11_24b x11 x12 r65 H Q))
 (f6_c11_24c x11 x12 H Q) :=
  (AtJ_eq Pg Hs 6 [1, 1, 1, 1, 1, 1, 1, 1, 1, 0, 16] Q _ H).trans (by kernel_rfl)
theorem f6_c11_24a_eq (x11 : List AV) (x12 : AV) (H : Heap) (Q : Post) : f6_c11_24a x11 x12 H Q =
 f6_c11_29a x11 x12 H Q :=
  (AtJ_eq Pg Hs 6 [1, 1, 1, 1, 1, 1, 1, 1, 1, 0, 24] Q _ H).trans (by kernel_rfl)
theorem f6_c11_24b_eq (x11 : List AV) (x12 : AV) (x83 : AV) (H : Heap) (Q : Post) : f6_c11_24b x11 x12 x83 H Q =
 cndA x83
 (f6_c11_29a x11 x12 H Q)
 (ob (partA false 0 1 x11) fun r66 =>
 ob (binA Pg .neq 3 true r66 (I 1)) fun r67 =>
 f6_c11_29b x11 x12 r67 H Q) :=
  (AtJ_eq Pg Hs 6 [1, 1, 1, 1, 1, 1, 1, 1, 1, 0, 24] Q _ H).trans (by kernel_rfl)
theorem f6_c11_24c_eq (x11 : List AV) (x12 : AV) (H : Heap) (Q : Post) : f6_c11_24c x11 x12 H Q =
 f6_c11_29c x11 x12 H Q :=
  (AtJ_eq Pg Hs 6 [1, 1, 1, 1, 1, 1, 1, 1, 1, 0, 24] Q _ H).trans (by kernel_rfl)
theorem f6_c11_29a_eq (x11 : List AV) (x12 : AV) (H : Heap) (Q : Post) : f6_c11_29a x11 x12 H Q =
 f6_c11_33a x11 H Q :=
  (AtJ_eq Pg Hs 6 [1, 1, 1, 1, 1, 1, 1, 1, 1, 0, 29] Q _ H).trans (by kernel_rfl)
theorem f6_c11_29b_eq (x11 : List AV) (x12 : AV) (x88 : AV) (H : Heap) (Q : Post) : f6_c11_29b x11 x12 x88 H Q =
 cndA x88
 (f6_c11_33a x11 H Q)
 (ob (binA Pg .neq 32 true x12 (I 0)) fun r68 =>
 f6_c11_33b x11 r68 H Q) :=
  (AtJ_eq Pg Hs 6 [1, 1, 1, 1, 1, 1, 1, 1, 1, 0, 29] Q _ H).trans (by kernel_rfl)
theorem f6_c11_29c_eq (x11 : List AV) (x12 : AV) (H : Heap) (Q : Post) : f6_c11_29c x11 x12 H Q =
 f6_c11_33c x11 H Q :=
  (AtJ_eq Pg Hs 6 [1, 1, 1, 1, 1, 1, 1, 1, 1, 0, 29] Q _ H).trans (by kernel_rfl)
theorem f6_c11_33a_eq (x11 : List AV) (H : Heap) (Q : Post) : f6_c11_33a x11 H Q =
 f6_c11_34a x11 H Q :=
  (AtJ_eq Pg Hs 6 [1, 1, 1, 1, 1, 1, 1, 1, 1, 0, 33] Q _ H).trans (by kernel_rfl)
theorem f6_c11_33b_eq (x11 : List AV) (x92 : AV) (H : Heap) (Q : Post) : f6_c11_33b x11 x92 H Q =
 f6_c11_34b x11 x92 H Q :=
  (AtJ_eq Pg Hs 6 [1, 1, 1, 1, 1, 1, 1, 1, 1, 0, 33] Q _ H).trans (by kernel_rfl)
theorem f6_c11_33c_eq (x11 : List AV) (H : Heap) (Q : Post) : f6_c11_33c x11 H Q =
 f6_c11_34c x11 H Q :=
  (AtJ_eq Pg Hs 6 [1, 1, 1, 1, 1, 1, 1, 1, 1, 0, 33] Q _ H).trans (by kernel_rfl)
theorem f6_c11_34a_eq (x11 : List AV) (H : Heap) (Q : Post) : f6_c11_34a x11 H Q =
 E 25 [] H fun r69 H70 =>
 f6_c11_37a x11 r69 H70 Q :=
  (AtJ_eq Pg Hs 6 [1, 1, 1, 1, 1, 1, 1, 1, 1, 0, 34] Q _ H).trans (by kernel_rfl)
theorem f6_c11_34b_eq (x11 : List AV) (x93 : AV) (H : Heap) (Q : Post) : f6_c11_34b x11 x93 H Q =
 cndA x93
 (E 25 [] H fun r71 H72 =>
 f6_c11_37a x11 r71 H72 Q)
 (f6_c11_37b x11 H Q) :=
  (AtJ_eq Pg Hs 6 [1, 1, 1, 1, 1, 1, 1, 1, 1, 0, 34] Q _ H).trans (by kernel_rfl)
theorem f6_c11_34c_eq (x11 : List AV) (H : Heap) (Q : Post) : f6_c11_34c x11 H Q =
 f6_c11_37b x11 H Q :=
  (AtJ_eq Pg Hs 6 [1, 1, 1, 1, 1, 1, 1, 1, 1, 0, 34] Q _ H).trans (by kernel_rfl)
theorem f6_c11_37a_eq (x11 : List AV) (x96 : AV) (H : Heap) (Q : Post) : f6_c11_37a x11 x96 H Q =
 f6_j32 x96 H Q :=
  (AtJ_eq Pg Hs 6 [1, 1, 1, 1, 1, 1, 1, 1, 1, 0, 37] Q _ H).trans (by kernel_rfl)
theorem f6_c11_37b_eq (x11 : List AV) (H : Heap) (Q : Post) : f6_c11_37b x11 H Q =
 f6_j32 (B false) H Q :=
  (AtJ_eq Pg Hs 6 [1, 1, 1, 1, 1, 1, 1, 1, 1, 0, 37] Q _ H).trans (by kernel_rfl)
theorem f6_j32_eq (x8 : AV) (H : Heap) (Q : Post) : f6_j32 x8 H Q =
 Q x8 H :=
  (AtJ_eq Pg Hs 6 [1, 1, 1, 1, 1, 1, 1, 1, 1, 1] Q _ H).trans (by kernel_rfl)
theorem f6_eq (a0 a1 a2 a3 : AV) (H : Heap) (Q : Post) : E 6 [a0, a1, a2, a3] H Q =
 ob (sizedA 7 a0) fun b1 =>
 E 19 [a1, a2, a3] H fun r2 H3 =>
 ob (binA Pg .eql 52 true r2 (AV.raw .nilFunc)) fun r4 =>
 cndA r4
 (Q (B false) H3)
 (ob (partA true 0 7 b1) fun r5 =>
 ob (mkSlA 7 [r5]) fun r6 =>
 ob (bldA [(0, 1, (I 15)), (6, 1, r6)] [(I 0), (I 0), (I 0), (S ⟨#[]⟩), (S ⟨#[]⟩), (S ⟨#[]⟩), (AV.sl 0 true .full [])]) fun r7 =>
 ob (sizedA 7 r7) fun b8 =>
 ob (spliceA 0 b8 [(I 0), (I 0), (I 0), (S ⟨#[]⟩), (S ⟨#[]⟩), (S ⟨#[]⟩), (AV.sl 0 true .full [])]) fun b9 =>
 ob (partA true 0 7 b1) fun r10 =>
 E 20 [r10, r2] H3 fun r11 H12 =>
 ob (extractA r11 0) fun r13 =>
 ob (extractA r11 1) fun r14 =>
 ob (sizedA 3 r13) fun b15 =>
 ob (spliceA 0 b15 [(I 0), (I 0), (S ⟨#[]⟩)]) fun b16 =>
 ob (partA true 0 7 b1) fun r17 =>
 E 23 [r17, r2] H12 fun r18 H19 =>
 ob (partA true 0 7 b9) fun r20 =>
 E 23 [r20, r2] H19 fun r21 H22 =>
 ob (partA true 0 7 b9) fun r23 =>
 E 20 [r23, r2] H22 fun r24 H25 =>
 ob (extractA r24 0) fun r26 =>
 ob (extractA r24 1) fun r27 =>
 ob (sizedA 3 r26) fun b28 =>
 ob (spliceA 0 b28 [(I 0), (I 0), (S ⟨#[]⟩)]) fun b29 =>
 cndA r18
 (cndA r21
 (f6_j25 b16 r14 r18 r21 (B true) H25 Q)
 (ob (binA Pg .eql 32 true r27 (I 1)) fun r30 =>
 f6_j25 b16 r14 r18 r21 r30 H25 Q))
 (ob (binA Pg .eql 32 true r27 (I 1)) fun r31 =>
 f6_j25 b16 r14 r18 r21 r31 H25 Q)) :=
  Ev_eq.trans (by kernel_rfl)
/-! ### 7 haruspex/haruspexlaw11.EvalRows -/
def f7_j7 (x0 : AV) (x9 : AV) (x33 : AV) (H : Heap) (Q : Post) : Prop := AtJ Pg Hs 7 [1, 1, 0, 1] Q [(0, .val x0), (9, .val x9), (33, .val x33)] H
def f7_j10 (x8 : AV) (H : Heap) (Q : Post) : Prop := AtJ Pg Hs 7 [1, 1, 0, 1, 0, 1] Q [(8, .val x8)] H
def f7_l20 (x0 : AV) (x9 : AV) (x10 : AV) (x11 : AV) (x12 : AV) (H : Heap) (Q : Post) : Prop := AtF Pg Hs 7 [1, 1, 1, 1, 1, 0, 1, 0] Q [(0, .val x0), (9, .val x9), (10, .val x10), (11, .val x11), (12, .val x12)] H
def f7_c10_11a (x0 : AV) (x9 : AV) (x10 : AV) (x11 : AV) (x12 : AV) (x13 : List AV) (H : Heap) (Q : Post) : Prop := AtJ Pg Hs 7 [1, 1, 1, 1, 1, 0, 1, 0, 0, 1, 0, 0, 1, 0, 0, 11] Q [(0, .val x0), (9, .val x9), (10, .val x10), (11, .val x11), (12, .val x12), (13, .lbox x13), (56, .val (B true)), (64, .nov)] H
def f7_c10_11b (x0 : AV) (x9 : AV) (x10 : AV) (x11 : AV) (x12 : AV) (x13 : List AV) (x64 : AV) (H : Heap) (Q : Post) : Prop := AtJ Pg Hs 7 [1, 1, 1, 1, 1, 0, 1, 0, 0, 1, 0, 0, 1, 0, 0, 11] Q [(0, .val x0), (9, .val x9), (10, .val x10), (11, .val x11), (12, .val x12), (13, .lbox x13), (56, .val (B false)), (64, .val x64)] H
def f7_c10_11c (x0 : AV) (x9 : AV) (x10 : AV) (x11 : AV) (x12 : AV) (x13 : List AV) (H : Heap) (Q : Post) : Prop := AtJ Pg Hs 7 [1, 1, 1, 1, 1, 0, 1, 0, 0, 1, 0, 0, 1, 0, 0, 11] Q [(0, .val x0), (9, .val x9), (10, .val x10), (11, .val x11), (12, .val x12), (13, .lbox x13), (56, .val (B false)), (64, .val (B false))] H
def f7_j53 (x8 : AV) (H : Heap) (Q : Post) : Prop := AtJ Pg Hs 7 [1, 1, 1, 1, 1, 1, 1, 0, 1, 0, 1] Q [(8, .val x8)] H
def f7_j57 (x8 : AV) (H : Heap) (Q : Post) : Prop := AtJ Pg Hs 7 [1, 1, 1, 1, 1, 1, 1, 1, 1] Q [(8, .val x8)] H
def f7_c10_12a (x0 : AV) (x9 : AV) (x10 : AV) (x11 : AV) (x12 : AV) (x13 : List AV) (H : Heap) (Q : Post) : Prop := AtJ Pg Hs 7 [1, 1, 1, 1, 1, 0, 1, 0, 0, 1, 0, 0, 1, 0, 0, 12] Q [(0, .val x0), (9, .val x9), (10, .val x10), (11, .val x11), (12, .val x12), (13, .lbox x13), (65, .val (B true))] H
def f7_c10_12b (x0 : AV) (x9 : AV) (x10 : AV) (x11 : AV) (x12 : AV) (x13 : List AV) (x65 : AV) (H : Heap) (Q : Post) : Prop := AtJ Pg Hs 7 [1, 1, 1, 1, 1, 0, 1, 0, 0, 1, 0, 0, 1, 0, 0, 12] Q [(0, .val x0), (9, .val x9), (10, .val x10), (11, .val x11), (12, .val x12), (13, .lbox x13), (65, .val x65)] H
def f7_c10_12c (x0 : AV) (x9 : AV) (x10 : AV) (x11 : AV) (x12 : AV) (x13 : List AV) (H : Heap) (Q : Post) : Prop := AtJ Pg Hs 7 [1, 1, 1, 1, 1, 0, 1, 0, 0, 1, 0, 0, 1, 0, 0, 12] Q [(0, .val x0), (9, .val x9), (10, .val x10), (11, .val x11), (12, .val x12), (13, .lbox x13), (65, .val (B false))] H
def f7_c10_20a (x0 : AV) (x9 : AV) (x10 : AV) (x11 : AV) (x12 : AV) (x13 : List AV) (H : Heap) (Q : Post) : Prop := AtJ Pg Hs 7 [1, 1, 1, 1, 1, 0, 1, 0, 0, 1, 0, 0, 1, 0, 0, 20] Q [(0, .val x0), (9, .val x9), (10, .val x10), (11, .val x11), (12, .val x12), (13, .lbox x13), (73, .val (B true))] H
def f7_c10_20b (x0 : AV) (x9 : AV) (x10 : AV) (x11 : AV) (x12 : AV) (x13 : List AV) (x73 : AV) (H : Heap) (Q : Post) : Prop := AtJ Pg Hs 7 [1, 1, 1, 1, 1, 0, 1, 0, 0, 1, 0, 0, 1, 0, 0, 20] Q [(0, .val x0), (9, .val x9), (10, .val x10), (11, .val x11), (12, .val x12), (13, .lbox x13), (73, .val x73)] H
def f7_j34 (x0 : AV) (x9 : AV) (x10 : AV) (x11 : AV) (x12 : AV) (x81 : AV) (H : Heap) (Q : Post) : Prop := AtJ Pg Hs 7 [1, 1, 1, 1, 1, 0, 1, 0, 0, 1, 0, 0, 1, 0, 1] Q [(0, .val x0), (9, .val x9), (10, .val x10), (11, .val x11), (12, .val x12), (81, .val x81)] H
def f7_j43 (x0 : AV) (x9 : AV) (x10 : AV) (x11 : AV) (x12 : AV) (x15 : AV) (H : Heap) (Q : Post) : Prop := AtJ Pg Hs 7 [1, 1, 1, 1, 1, 0, 1, 0, 0, 1, 0, 0, 1, 1, 1, 1] Q [(0, .val x0), (9, .val x9), (10, .val x10), (11, .val x11), (12, .val x12), (15, .val x15)] H
theorem f7_j7_eq (x0 : AV) (x9 : AV) (x33 : AV) (H : Heap) (Q : Post) : f7_j7 x0 x9 x33 H Q =
 cndA x33
 (ob (binA Pg .neq 52 true x9 (AV.raw .nilFunc)) fun r8 =>
 cndA r8
 (E 25 [] H fun r9 H10 =>
 f7_j10 r9 H10 Q)
 (f7_j10 (B false) H Q))
 (f7_l20 x0 x9 (B true) (B false) (I 0) H Q) :=
  (AtJ_eq Pg Hs 7 [1, 1, 0, 1] Q _ H).trans (by kernel_rfl)
theorem f7_j10_eq (x8 : AV) (H : Heap) (Q : Post) : f7_j10 x8 H Q =
 Q x8 H :=
  (AtJ_eq Pg Hs 7 [1, 1, 0, 1, 0, 1] Q _ H).trans (by kernel_rfl)
theorem f7_l20_eq (x0 : AV) (x9 : AV) (x10 : AV) (x11 : AV) (x12 : AV) (H : Heap) (Q : Post) : f7_l20 x0 x9 x10 x11 x12 H Q =
 ob (lenA x0) fun r11 =>
 ob (binA Pg .lss 3 false x12 r11) fun r12 =>
 cndA r12
 (ob (ixaA 7 x0 x12) fun c13 =>
 ob (partA true 0 7 c13) fun r14 =>
 E 20 [r14, x9] H fun r15 H16 =>
 ob (extractA r15 0) fun r17 =>
 ob (extractA r15 1) fun r18 =>
 ob (sizedA 3 r17) fun b19 =>
 ob (spliceA 0 b19 [(I 0), (I 0), (S ⟨#[]⟩)]) fun b20 =>
 ob (binA Pg .neq 32 true r18 (I 0)) fun r21 =>
 cndA r21
 (f7_c10_11a x0 x9 x10 x11 x12 b20 H16 Q)
 (ob (partA false 0 1 b20) fun r22 =>
 ob (binA Pg .neq 3 true r22 (I 1)) fun r23 =>
 cndA r23
 (ob (partA false 0 1 b20) fun r24 =>
 ob (binA Pg .neq 3 true r24 (I 0)) fun r25 =>
 f7_c10_11b x0 x9 x10 x11 x12 b20 r25 H16 Q)
 (f7_c10_11c x0 x9 x10 x11 x12 b20 H16 Q)))
 (ob (bldA [(0, 1, (I 16)), (6, 1, x0)] [(I 0), (I 0), (I 0), (S ⟨#[]⟩), (S ⟨#[]⟩), (S ⟨#[]⟩), (AV.sl 0 true .full [])]) fun r26 =>
 E 20 [r26, x9] H fun r27 H28 =>
 ob (extractA r27 0) fun r29 =>
 ob (extractA r27 1) fun r30 =>
 ob (sizedA 3 r29) fun b31 =>
 ob (spliceA 0 b31 [(I 0), (I 0), (S ⟨#[]⟩)]) fun b32 =>
 ob (binA Pg .neq 32 true r30 (I 0)) fun r33 =>
 cndA r33
 (ob (binA Pg .eql 32 true r30 (I 1)) fun r34 =>
 cndA r34
 (E 25 [] H28 fun r35 H36 =>
 f7_j53 r35 H36 Q)
 (f7_j53 (B false) H28 Q))
 (ob (bldA [(0, 1, (I 16)), (6, 1, x0)] [(I 0), (I 0), (I 0), (S ⟨#[]⟩), (S ⟨#[]⟩), (S ⟨#[]⟩), (AV.sl 0 true .full [])]) fun r37 =>
 E 23 [r37, x9] H28 fun r38 H39 =>
 ob (binA Pg .eql 4 false r38 x10) fun r40 =>
 cndA r40
 (ob (bldA [(0, 1, (I 17)), (6, 1, x0)] [(I 0), (I 0), (I 0), (S ⟨#[]⟩), (S ⟨#[]⟩), (S ⟨#[]⟩), (AV.sl 0 true .full [])]) fun r41 =>
 E 23 [r41, x9] H39 fun r42 H43 =>
 ob (binA Pg .eql 4 false r42 x11) fun r44 =>
 cndA r44
 (E 25 [] H43 fun r45 H46 =>
 f7_j57 r45 H46 Q)
 (f7_j57 (B false) H43 Q))
 (f7_j57 (B false) H39 Q))) :=
  (AtF_eq Pg Hs 7 [1, 1, 1, 1, 1, 0, 1, 0] Q _ H).trans (by kernel_rfl)
theorem f7_c10_11a_eq (x0 : AV) (x9 : AV) (x10 : AV) (x11 : AV) (x12 : AV) (x13 : List AV) (H : Heap) (Q : Post) : f7_c10_11a x0 x9 x10 x11 x12 x13 H Q =
 f7_c10_12a x0 x9 x10 x11 x12 x13 H Q :=
  (AtJ_eq Pg Hs 7 [1, 1, 1, 1, 1, 0, 1, 0, 0, 1, 0, 0, 1, 0, 0, 11] Q _ H).trans (by kernel_rfl)
theorem f7_c10_11b_eq (x0 : AV) (x9 : AV) (x10 : AV) (x11 : AV) (x12 : AV) (x13 : List AV) (x64 : AV) (H : Heap) (Q : Post) : f7_c10_11b x0 x9 x10 x11 x12 x13 x64 H Q =
 f7_c10_12b x0 x9 x10 x11 x12 x13 x64 H Q :=
  (AtJ_eq Pg Hs 7 [1, 1, 1, 1, 1, 0, 1, 0, 0, 1, 0, 0, 1, 0, 0, 11] Q _ H).trans (by kernel_rfl)
theorem f7_c10_11c_eq (x0 : AV) (x9 : AV) (x10 : AV) (x11 : AV) (x12 : AV) (x13 : List AV) (H : Heap) (Q : Post) : f7_c10_11c x0 x9 x10 x11 x12 x13 H Q =
 f7_c10_12c x0 x9 x10 x11 x12 x13 H Q :=
  (AtJ_eq Pg Hs 7 [1, 1, 1, 1, 1, 0, 1, 0, 0, 1, 0, 0, 1, 0, 0, 11] Q _ H).trans (by kernel_rfl)
theorem f7_j53_eq (x8 : AV) (H : Heap) (Q : Post) : f7_j53 x8 H Q =
 Q x8 H :=
  (AtJ_eq Pg Hs 7 [1, 1, 1, 1, 1, 1, 1, 0, 1, 0, 1] Q _ H).trans (by kernel_rfl)
theorem f7_j57_eq (x8 : AV) (H : Heap) (Q : Post) : f7_j57 x8 H Q =
 Q x8 H :=
  (AtJ_eq Pg Hs 7 [1, 1, 1, 1, 1, 1, 1, 1, 1] Q _ H).trans (by kernel_rfl)
theorem f7_c10_12a_eq (x0 : AV) (x9 : AV) (x10 : AV) (x11 : AV) (x12 : AV) (x13 : List AV) (H : Heap) (Q : Post) : f7_c10_12a x0 x9 x10 x11 x12 x13 H Q =
 f7_c10_20a x0 x9 x10 x11 x12 x13 H Q :=
  (AtJ_eq Pg Hs 7 [1, 1, 1, 1, 1, 0, 1, 0, 0, 1, 0, 0, 1, 0, 0, 12] Q _ H).trans (by kernel_rfl)
theorem f7_c10_12b_eq (x0 : AV) (x9 : AV) (x10 : AV) (x11 : AV) (x12 : AV) (x13 : List AV) (x65 : AV) (H : Heap) (Q : Post) : f7_c10_12b x0 x9 x10 x11 x12 x13 x65 H Q =
 cndA x65
 (f7_c10_20a x0 x9 x10 x11 x12 x13 H Q)
 (ob (ixaA 7 x0 x12) fun c47 =>
 ob (partA false 0 1 (c47.drop 0)) fun r48 =>
 ob (binA Pg .eql 3 true r48 (I 16)) fun r49 =>
 f7_c10_20b x0 x9 x10 x11 x12 x13 r49 H Q) :=
  (AtJ_eq Pg Hs 7 [1, 1, 1, 1, 1, 0, 1, 0, 0, 1, 0, 0, 1, 0, 0, 12] Q _ H).trans (by kernel_rfl)
theorem f7_c10_12c_eq (x0 : AV) (x9 : AV) (x10 : AV) (x11 : AV) (x12 : AV) (x13 : List AV) (H : Heap) (Q : Post) : f7_c10_12c x0 x9 x10 x11 x12 x13 H Q =
 ob (ixaA 7 x0 x12) fun c50 =>
 ob (partA false 0 1 (c50.drop 0)) fun r51 =>
 ob (binA Pg .eql 3 true r51 (I 16)) fun r52 =>
 f7_c10_20b x0 x9 x10 x11 x12 x13 r52 H Q :=
  (AtJ_eq Pg Hs 7 [1, 1, 1, 1, 1, 0, 1, 0, 0, 1, 0, 0, 1, 0, 0, 12] Q _ H).trans (by kernel_rfl)
theorem f7_c10_20a_eq (x0 : AV) (x9 : AV) (x10 : AV) (x11 : AV) (x12 : AV) (x13 : List AV) (H : Heap) (Q : Post) : f7_c10_20a x0 x9 x10 x11 x12 x13 H Q =
 f7_j34 x0 x9 x10 x11 x12 (B true) H Q :=
  (AtJ_eq Pg Hs 7 [1, 1, 1, 1, 1, 0, 1, 0, 0, 1, 0, 0, 1, 0, 0, 20] Q _ H).trans (by kernel_rfl)
theorem f7_c10_20b_eq (x0 : AV) (x9 : AV) (x10 : AV) (x11 : AV) (x12 : AV) (x13 : List AV) (x73 : AV) (H : Heap) (Q : Post) : f7_c10_20b x0 x9 x10 x11 x12 x13 x73 H Q =
 cndA x73
 (f7_j34 x0 x9 x10 x11 x12 (B true) H Q)
 (ob (ixaA 7 x0 x12) fun c53 =>
 ob (partA false 0 1 (c53.drop 0)) fun r54 =>
 ob (binA Pg .eql 3 true r54 (I 17)) fun r55 =>
 f7_j34 x0 x9 x10 x11 x12 r55 H Q) :=
  (AtJ_eq Pg Hs 7 [1, 1, 1, 1, 1, 0, 1, 0, 0, 1, 0, 0, 1, 0, 0, 20] Q _ H).trans (by kernel_rfl)
theorem f7_j34_eq (x0 : AV) (x9 : AV) (x10 : AV) (x11 : AV) (x12 : AV) (x81 : AV) (H : Heap) (Q : Post) : f7_j34 x0 x9 x10 x11 x12 x81 H Q =
 cndA x81
 (E 25 [] H fun r56 H57 =>
 Q r56 H57)
 (ob (ixaA 7 x0 x12) fun c58 =>
 ob (partA true 0 7 c58) fun r59 =>
 E 23 [r59, x9] H fun r60 H61 =>
 cndA x10
 (f7_j43 x0 x9 r60 x11 x12 r60 H61 Q)
 (f7_j43 x0 x9 (B false) x11 x12 r60 H61 Q)) :=
  (AtJ_eq Pg Hs 7 [1, 1, 1, 1, 1, 0, 1, 0, 0, 1, 0, 0, 1, 0, 1] Q _ H).trans (by kernel_rfl)
theorem f7_j43_eq (x0 : AV) (x9 : AV) (x10 : AV) (x11 : AV) (x12 : AV) (x15 : AV) (H : Heap) (Q : Post) : f7_j43 x0 x9 x10 x11 x12 x15 H Q =
 cndA x11
 (ob (binA Pg .add 3 true x12 (I 1)) fun r62 =>
 f7_l20 x0 x9 x10 (B true) r62 H Q)
 (ob (binA Pg .add 3 true x12 (I 1)) fun r63 =>
 f7_l20 x0 x9 x10 x15 r63 H Q) :=
  (AtJ_eq Pg Hs 7 [1, 1, 1, 1, 1, 0, 1, 0, 0, 1, 0, 0, 1, 1, 1, 1] Q _ H).trans (by kernel_rfl)
theorem f7_eq (a0 a1 a2 a3 : AV) (H : Heap) (Q : Post) : E 7 [a0, a1, a2, a3] H Q =
 E 19 [a1, a2, a3] H fun r1 H2 =>
 ob (binA Pg .eql 52 true r1 (AV.raw .nilFunc)) fun r3 =>
 cndA r3
 (f7_j7 a0 r1 (B true) H2 Q)
 (ob (lenA a0) fun r4 =>
 ob (binA Pg .lss 3 true r4 (I 2)) fun r5 =>
 cndA r5
 (f7_j7 a0 r1 (B true) H2 Q)
 (ob (lenA a0) fun r6 =>
 ob (binA Pg .gtr 3 true r6 (I 20)) fun r7 =>
 f7_j7 a0 r1 r7 H2 Q)) :=
  Ev_eq.trans (by kernel_rfl)
/-! ### 8 haruspex/haruspexlaw11.EvalOver -/
def f8_c13_6a (x12 : List AV) (x13 : List AV) (x14 : List AV) (x15 : List AV) (x16 : List AV) (x17 : List AV) (x20 : AV) (x70 : AV) (H : Heap) (Q : Post) : Prop := AtJ Pg Hs 8 [1, 1, 1, 1, 1, 1, 1, 1, 1, 1, 1, 0, 1, 0, 0, 6] Q [(12, .lbox x12), (13, .lbox x13), (14, .lbox x14), (15, .lbox x15), (16, .lbox x16), (17, .lbox x17), (20, .val x20), (70, .val x70)] H
def f8_c13_6b (x12 : List AV) (x13 : List AV) (x14 : List AV) (x15 : List AV) (x16 : List AV) (x17 : List AV) (x20 : AV) (H : Heap) (Q : Post) : Prop := AtJ Pg Hs 8 [1, 1, 1, 1, 1, 1, 1, 1, 1, 1, 1, 0, 1, 0, 0, 6] Q [(12, .lbox x12), (13, .lbox x13), (14, .lbox x14), (15, .lbox x15), (16, .lbox x16), (17, .lbox x17), (20, .val x20), (70, .val (B false))] H
def f8_j38 (x10 : AV) (H : Heap) (Q : Post) : Prop := AtJ Pg Hs 8 [1, 1, 1, 1, 1, 1, 1, 1, 1, 1, 1, 1, 1] Q [(10, .val x10)] H
def f8_c13_10a (x12 : List AV) (x13 : List AV) (x14 : List AV) (x15 : List AV) (x16 : List AV) (x17 : List AV) (x74 : AV) (H : Heap) (Q : Post) : Prop := AtJ Pg Hs 8 [1, 1, 1, 1, 1, 1, 1, 1, 1, 1, 1, 0, 1, 0, 0, 10] Q [(12, .lbox x12), (13, .lbox x13), (14, .lbox x14), (15, .lbox x15), (16, .lbox x16), (17, .lbox x17), (74, .val x74)] H
def f8_c13_10b (x12 : List AV) (x13 : List AV) (x14 : List AV) (x15 : List AV) (x16 : List AV) (x17 : List AV) (H : Heap) (Q : Post) : Prop := AtJ Pg Hs 8 [1, 1, 1, 1, 1, 1, 1, 1, 1, 1, 1, 0, 1, 0, 0, 10] Q [(12, .lbox x12), (13, .lbox x13), (14, .lbox x14), (15, .lbox x15), (16, .lbox x16), (17, .lbox x17), (74, .val (B false))] H
def f8_c13_13a (x12 : List AV) (x13 : List AV) (x14 : List AV) (x15 : List AV) (x16 : List AV) (x17 : List AV) (x77 : AV) (H : Heap) (Q : Post) : Prop := AtJ Pg Hs 8 [1, 1, 1, 1, 1, 1, 1, 1, 1, 1, 1, 0, 1, 0, 0, 13] Q [(12, .lbox x12), (13, .lbox x13), (14, .lbox x14), (15, .lbox x15), (16, .lbox x16), (17, .lbox x17), (77, .val x77)] H
def f8_c13_13b (x12 : List AV) (x13 : List AV) (x14 : List AV) (x15 : List AV) (x16 : List AV) (x17 : List AV) (H : Heap) (Q : Post) : Prop := AtJ Pg Hs 8 [1, 1, 1, 1, 1, 1, 1, 1, 1, 1, 1, 0, 1, 0, 0, 13] Q [(12, .lbox x12), (13, .lbox x13), (14, .lbox x14), (15, .lbox x15), (16, .lbox x16), (17, .lbox x17), (77, .val (B false))] H
def f8_j34 (x10 : AV) (H : Heap) (Q : Post) : Prop := AtJ Pg Hs 8 [1, 1, 1, 1, 1, 1, 1, 1, 1, 1, 1, 0, 1, 0, 1] Q [(10, .val x10)] H
theorem f8_c13_6a_eq (x12 : List AV) (x13 : List AV) (x14 : List AV) (x15 : List AV) (x16 : List AV) (x17 : List AV) (x20 : AV) (x70 : AV) (H : Heap) (Q : Post) : f8_c13_6a x12 x13 x14 x15 x16 x17 x20 x70 H Q =
 cndA x70
 (ob (unA .not x20) fun r55 =>
 f8_c13_10a x12 x13 x14 x15 x16 x17 r55 H Q)
 (f8_c13_10b x12 x13 x14 x15 x16 x17 H Q) :=
  (AtJ_eq Pg Hs 8 [1, 1, 1, 1, 1, 1, 1, 1, 1, 1, 1, 0, 1, 0, 0, 6] Q _ H).trans (by kernel_rfl)
theorem f8_c13_6b_eq (x12 : List AV) (x13 : List AV) (x14 : List AV) (x15 : List AV) (x16 : List AV) (x17 : List AV) (x20 : AV) (H : Heap) (Q : Post) : f8_c13_6b x12 x13 x14 x15 x16 x17 x20 H Q =
 f8_c13_10b x12 x13 x14 x15 x16 x17 H Q :=
  (AtJ_eq Pg Hs 8 [1, 1, 1, 1, 1, 1, 1, 1, 1, 1, 1, 0, 1, 0, 0, 6] Q _ H).trans (by kernel_rfl)
theorem f8_j38_eq (x10 : AV) (H : Heap) (Q : Post) : f8_j38 x10 H Q =
 Q x10 H :=
  (AtJ_eq Pg Hs 8 [1, 1, 1, 1, 1, 1, 1, 1, 1, 1, 1, 1, 1] Q _ H).trans (by kernel_rfl)
theorem f8_c13_10a_eq (x12 : List AV) (x13 : List AV) (x14 : List AV) (x15 : List AV) (x16 : List AV) (x17 : List AV) (x74 : AV) (H : Heap) (Q : Post) : f8_c13_10a x12 x13 x14 x15 x16 x17 x74 H Q =
 cndA x74
 (E 25 [] H fun r56 H57 =>
 f8_c13_13a x12 x13 x14 x15 x16 x17 r56 H57 Q)
 (f8_c13_13b x12 x13 x14 x15 x16 x17 H Q) :=
  (AtJ_eq Pg Hs 8 [1, 1, 1, 1, 1, 1, 1, 1, 1, 1, 1, 0, 1, 0, 0, 10] Q _ H).trans (by kernel_rfl)
theorem f8_c13_10b_eq (x12 : List AV) (x13 : List AV) (x14 : List AV) (x15 : List AV) (x16 : List AV) (x17 : List AV) (H : Heap) (Q : Post) : f8_c13_10b x12 x13 x14 x15 x16 x17 H Q =
 f8_c13_13b x12 x13 x14 x15 x16 x17 H Q :=
  (AtJ_eq Pg Hs 8 [1, 1, 1, 1, 1, 1, 1, 1, 1, 1, 1, 0, 1, 0, 0, 10] Q _ H).trans (by kernel_rfl)
theorem f8_c13_13a_eq (x12 : List AV) (x13 : List AV) (x14 : List AV) (x15 : List AV) (x16 : List AV) (x17 : List AV) (x77 : AV) (H : Heap) (Q : Post) : f8_c13_13a x12 x13 x14 x15 x16 x17 x77 H Q =
 f8_j34 x77 H Q :=
  (AtJ_eq Pg Hs 8 [1, 1, 1, 1, 1, 1, 1, 1, 1, 1, 1, 0, 1, 0, 0, 13] Q _ H).trans (by kernel_rfl)
theorem f8_c13_13b_eq (x12 : List AV) (x13 : List AV) (x14 : List AV) (x15 : List AV) (x16 : List AV) (x17 : List AV) (H : Heap) (Q : Post) : f8_c13_13b x12 x13 x14 x15 x16 x17 H Q =
 f8_j34 (B false) H Q :=
  (AtJ_eq Pg Hs 8 [1, 1, 1, 1, 1, 1, 1, 1, 1, 1, 1, 0, 1, 0, 0, 13] Q _ H).trans (by kernel_rfl)
theorem f8_j34_eq (x10 : AV) (H : Heap) (Q : Post) : f8_j34 x10 H Q =
 Q x10 H :=
  (AtJ_eq Pg Hs 8 [1, 1, 1, 1, 1, 1, 1, 1, 1, 1, 1, 0, 1, 0, 1] Q _ H).trans (by kernel_rfl)
theorem f8_eq (a0 a1 a2 a3 a4 : AV) (H : Heap) (Q : Post) : E 8 [a0, a1, a2, a3, a4] H Q =
 E 19 [(AV.sl 0 true .full []), (AV.sl 0 true .full []), (AV.sl 0 true .full [])] H fun r1 H2 =>
 ob (binA Pg .eql 52 true r1 (AV.raw .nilFunc)) fun r3 =>
 cndA r3
 (Q (B false) H2)
 (ob (bldA [(0, 1, (I 2)), (1, 1, a0)] [(I 0), (I 0), (S ⟨#[]⟩)]) fun r4 =>
 ob (bldA [(0, 1, (I 1)), (1, 3, r4)] [(I 0), (I 0), (I 0), (S ⟨#[]⟩), (S ⟨#[]⟩), (S ⟨#[]⟩), (AV.sl 0 true .full [])]) fun r5 =>
 ob (sizedA 7 r5) fun b6 =>
 ob (spliceA 0 b6 [(I 0), (I 0), (I 0), (S ⟨#[]⟩), (S ⟨#[]⟩), (S ⟨#[]⟩), (AV.sl 0 true .full [])]) fun b7 =>
 ob (bldA [(0, 1, (I 2)), (1, 1, a1)] [(I 0), (I 0), (S ⟨#[]⟩)]) fun r8 =>
 ob (bldA [(0, 1, (I 1)), (1, 3, r8)] [(I 0), (I 0), (I 0), (S ⟨#[]⟩), (S ⟨#[]⟩), (S ⟨#[]⟩), (AV.sl 0 true .full [])]) fun r9 =>
 ob (sizedA 7 r9) fun b10 =>
 ob (spliceA 0 b10 [(I 0), (I 0), (I 0), (S ⟨#[]⟩), (S ⟨#[]⟩), (S ⟨#[]⟩), (AV.sl 0 true .full [])]) fun b11 =>
 ob (bldA [(0, 1, (I 2)), (1, 1, a4)] [(I 0), (I 0), (S ⟨#[]⟩)]) fun r12 =>
 ob (bldA [(0, 1, (I 1)), (1, 3, r12)] [(I 0), (I 0), (I 0), (S ⟨#[]⟩), (S ⟨#[]⟩), (S ⟨#[]⟩), (AV.sl 0 true .full [])]) fun r13 =>
 ob (sizedA 7 r13) fun b14 =>
 ob (spliceA 0 b14 [(I 0), (I 0), (I 0), (S ⟨#[]⟩), (S ⟨#[]⟩), (S ⟨#[]⟩), (AV.sl 0 true .full [])]) fun b15 =>
 ob (binA Pg .rem 5 true a2 (AV.raw (.int .u8 5))) fun r16 =>
 ob (cvtIA .i64 r16) fun r17 =>
 ob (binA Pg .add 3 true (I 4) r17) fun r18 =>
 ob (partA true 0 7 b7) fun r19 =>
 ob (partA true 0 7 b11) fun r20 =>
 ob (mkSlA 7 [r19, r20]) fun r21 =>
 ob (bldA [(0, 1, r18), (6, 1, r21)] [(I 0), (I 0), (I 0), (S ⟨#[]⟩), (S ⟨#[]⟩), (S ⟨#[]⟩), (AV.sl 0 true .full [])]) fun r22 =>
 ob (sizedA 7 r22) fun b23 =>
 ob (spliceA 0 b23 [(I 0), (I 0), (I 0), (S ⟨#[]⟩), (S ⟨#[]⟩), (S ⟨#[]⟩), (AV.sl 0 true .full [])]) fun b24 =>
 ob (binA Pg .rem 5 true a3 (AV.raw (.int .u8 6))) fun r25 =>
 ob (cvtIA .i64 r25) fun r26 =>
 ob (binA Pg .add 3 true (I 9) r26) fun r27 =>
 ob (partA true 0 7 b24) fun r28 =>
 ob (partA true 0 7 b15) fun r29 =>
 ob (mkSlA 7 [r28, r29]) fun r30 =>
 ob (bldA [(0, 1, r27), (6, 1, r30)] [(I 0), (I 0), (I 0), (S ⟨#[]⟩), (S ⟨#[]⟩), (S ⟨#[]⟩), (AV.sl 0 true .full [])]) fun r31 =>
 ob (sizedA 7 r31) fun b32 =>
 ob (spliceA 0 b32 [(I 0), (I 0), (I 0), (S ⟨#[]⟩), (S ⟨#[]⟩), (S ⟨#[]⟩), (AV.sl 0 true .full [])]) fun b33 =>
 ob (partA true 0 7 b24) fun r34 =>
 E 20 [r34, r1] H2 fun r35 H36 =>
 ob (extractA r35 0) fun r37 =>
 ob (extractA r35 1) fun r38 =>
 ob (sizedA 3 r37) fun b39 =>
 ob (spliceA 0 b39 [(I 0), (I 0), (S ⟨#[]⟩)]) fun b40 =>
 ob (partA true 0 7 b33) fun r41 =>
 E 23 [r41, r1] H36 fun r42 H43 =>
 ob (partA true 0 7 b33) fun r44 =>
 ob (mkSlA 7 [r44]) fun r45 =>
 ob (bldA [(0, 1, (I 15)), (6, 1, r45)] [(I 0), (I 0), (I 0), (S ⟨#[]⟩), (S ⟨#[]⟩), (S ⟨#[]⟩), (AV.sl 0 true .full [])]) fun r46 =>
 E 23 [r46, r1] H43 fun r47 H48 =>
 ob (binA Pg .neq 32 true r38 (I 0)) fun r49 =>
 cndA r49
 (ob (binA Pg .eql 32 true r38 (I 10)) fun r50 =>
 cndA r50
 (ob (unA .not r42) fun r51 =>
 f8_c13_6a b7 b11 b15 b24 b33 b40 r47 r51 H48 Q)
 (f8_c13_6b b7 b11 b15 b24 b33 b40 r47 H48 Q))
 (ob (binA Pg .neq 4 false r42 r47) fun r52 =>
 cndA r52
 (E 25 [] H48 fun r53 H54 =>
 f8_j38 r53 H54 Q)
 (f8_j38 (B false) H48 Q))) :=
  Ev_eq.trans (by kernel_rfl)
/-! ### 9 haruspex/haruspexlaw11.EvalKinds -/
def f9_l10 (x1 : AV) (x2 : AV) (x3 : List AV) (x7 : AV) (x8 : List AV) (x9 : AV) (H : Heap) (Q : Post) : Prop := AtF Pg Hs 9 [1, 1, 1, 0, 1, 0] Q [(1, .val x1), (2, .val x2), (3, .lbox x3), (7, .val x7), (8, .lbox x8), (9, .val x9)] H
def f9_j14 (x1 : AV) (x2 : AV) (x3 : List AV) (x7 : AV) (x8 : List AV) (x9 : AV) (x27 : AV) (H : Heap) (Q : Post) : Prop := AtJ Pg Hs 9 [1, 1, 1, 0, 1, 0, 0, 0, 1] Q [(1, .val x1), (2, .val x2), (3, .lbox x3), (7, .val x7), (8, .lbox x8), (9, .val x9), (27, .val x27)] H
def f9_l24 (x1 : AV) (x2 : AV) (x3 : List AV) (x7 : AV) (x8 : List AV) (x9 : AV) (x10 : AV) (H : Heap) (Q : Post) : Prop := AtF Pg Hs 9 [1, 1, 1, 0, 1, 0, 0, 1, 0, 0, 1, 1, 0] Q [(1, .val x1), (2, .val x2), (3, .lbox x3), (7, .val x7), (8, .lbox x8), (9, .val x9), (10, .val x10)] H
def f9_j55 (x3 : List AV) (x8 : List AV) (x13 : AV) (x110 : AV) (H : Heap) (Q : Post) : Prop := AtJ Pg Hs 9 [1, 1, 1, 1, 1, 0, 1] Q [(3, .lbox x3), (8, .lbox x8), (13, .val x13), (110, .val x110)] H
def f9_j40 (x1 : AV) (x2 : AV) (x3 : List AV) (x7 : AV) (x8 : List AV) (x9 : AV) (x10 : AV) (x11 : List AV) (x12 : List AV) (x64 : AV) (H : Heap) (Q : Post) : Prop := AtJ Pg Hs 9 [1, 1, 1, 0, 1, 0, 0, 1, 0, 0, 1, 1, 0, 0, 1, 0, 0, 1, 1, 0, 1] Q [(1, .val x1), (2, .val x2), (3, .lbox x3), (7, .val x7), (8, .lbox x8), (9, .val x9), (10, .val x10), (11, .lbox x11), (12, .lbox x12), (64, .val x64)] H
def f9_j68 (x6 : AV) (H : Heap) (Q : Post) : Prop := AtJ Pg Hs 9 [1, 1, 1, 1, 1, 1, 1, 0, 1, 0, 1] Q [(6, .val x6)] H
def f9_j78 (x6 : AV) (H : Heap) (Q : Post) : Prop := AtJ Pg Hs 9 [1, 1, 1, 1, 1, 1, 1, 1, 1, 0, 1, 0, 1] Q [(6, .val x6)] H
def f9_c26_9a (x3 : List AV) (x8 : List AV) (x15 : AV) (x17 : List AV) (H : Heap) (Q : Post) : Prop := AtJ Pg Hs 9 [1, 1, 1, 1, 1, 1, 1, 1, 1, 1, 0, 9] Q [(3, .lbox x3), (8, .lbox x8), (15, .val x15), (17, .lbox x17), (155, .val (B true))] H
def f9_c26_9b (x3 : List AV) (x8 : List AV) (x15 : AV) (x17 : List AV) (x155 : AV) (H : Heap) (Q : Post) : Prop := AtJ Pg Hs 9 [1, 1, 1, 1, 1, 1, 1, 1, 1, 1, 0, 9] Q [(3, .lbox x3), (8, .lbox x8), (15, .val x15), (17, .lbox x17), (155, .val x155)] H
def f9_c26_13a (x3 : List AV) (x8 : List AV) (x17 : List AV) (H : Heap) (Q : Post) : Prop := AtJ Pg Hs 9 [1, 1, 1, 1, 1, 1, 1, 1, 1, 1, 0, 13] Q [(3, .lbox x3), (8, .lbox x8), (17, .lbox x17), (159, .val (B true))] H
def f9_c26_13b (x3 : List AV) (x8 : List AV) (x17 : List AV) (x159 : AV) (H : Heap) (Q : Post) : Prop := AtJ Pg Hs 9 [1, 1, 1, 1, 1, 1, 1, 1, 1, 1, 0, 13] Q [(3, .lbox x3), (8, .lbox x8), (17, .lbox x17), (159, .val x159)] H
def f9_c26_16a (x3 : List AV) (x8 : List AV) (x17 : List AV) (x162 : AV) (H : Heap) (Q : Post) : Prop := AtJ Pg Hs 9 [1, 1, 1, 1, 1, 1, 1, 1, 1, 1, 0, 16] Q [(3, .lbox x3), (8, .lbox x8), (17, .lbox x17), (162, .val x162)] H
def f9_c26_16b (x3 : List AV) (x8 : List AV) (x17 : List AV) (H : Heap) (Q : Post) : Prop := AtJ Pg Hs 9 [1, 1, 1, 1, 1, 1, 1, 1, 1, 1, 0, 16] Q [(3, .lbox x3), (8, .lbox x8), (17, .lbox x17), (162, .val (B false))] H
def f9_j82 (x6 : AV) (H : Heap) (Q : Post) : Prop := AtJ Pg Hs 9 [1, 1, 1, 1, 1, 1, 1, 1, 1, 1, 1] Q [(6, .val x6)] H
theorem f9_l10_eq (x1 : AV) (x2 : AV) (x3 : List AV) (x7 : AV) (x8 : List AV) (x9 : AV) (H : Heap) (Q : Post) : f9_l10 x1 x2 x3 x7 x8 x9 H Q =
 ob (lenA x1) fun r5 =>
 ob (binA Pg .lss 3 false x9 r5) fun r6 =>
 cndA r6
 (ob (binA Pg .lss 3 true x9 (I 8)) fun r7 =>
 f9_j14 x1 x2 x3 x7 x8 x9 r7 H Q)
 (f9_j14 x1 x2 x3 x7 x8 x9 (B false) H Q) :=
  (AtF_eq Pg Hs 9 [1, 1, 1, 0, 1, 0] Q _ H).trans (by kernel_rfl)
theorem f9_j14_eq (x1 : AV) (x2 : AV) (x3 : List AV) (x7 : AV) (x8 : List AV) (x9 : AV) (x27 : AV) (H : Heap) (Q : Post) : f9_j14 x1 x2 x3 x7 x8 x9 x27 H Q =
 cndA x27
 (ob (mkSlA 1 [(S ⟨#[98, 117, 121]⟩)]) fun r8 =>
 appA 1 16 x7 r8 H fun r9 H10 =>
 f9_l24 x1 x2 x3 r9 x8 x9 (I 0) H10 Q)
 (ob (lenA x1) fun r11 =>
 ob (min2A r11 (I 8)) fun r12 =>
 ob (sliceA 1 x1 none (some r12) none) fun r13 =>
 E 26 [] H fun r14 H15 =>
 E 13 [r14, r13, x7] H15 fun r16 H17 =>
 ob (extractA r16 0) fun r18 =>
 ob (extractA r16 1) fun r19 =>
 ob (binA Pg .eql 27 true r18 (AV.raw (.pointer none))) fun r20 =>
 cndA r20
 (f9_j55 x3 x8 r18 (B true) H17 Q)
 (ob (binA Pg .neq 32 true r19 (I 0)) fun r21 =>
 f9_j55 x3 x8 r18 r21 H17 Q)) :=
  (AtJ_eq Pg Hs 9 [1, 1, 1, 0, 1, 0, 0, 0, 1] Q _ H).trans (by kernel_rfl)
theorem f9_l24_eq (x1 : AV) (x2 : AV) (x3 : List AV) (x7 : AV) (x8 : List AV) (x9 : AV) (x10 : AV) (H : Heap) (Q : Post) : f9_l24 x1 x2 x3 x7 x8 x9 x10 H Q =
 ob (binA Pg .lss 3 true x10 (I 3)) fun r22 =>
 cndA r22
 (E 26 [] H fun r23 H24 =>
 ob (ixaA 2 r23 (I 0)) fun c25 =>
 ob (partA false 0 1 (c25.drop 1)) fun r26 =>
 ob (ixaA 2 r26 x10) fun c27 =>
 ob (partA true 0 2 c27) fun r28 =>
 ob (sizedA 2 r28) fun b29 =>
 ob (spliceA 0 b29 [(S ⟨#[]⟩), (I 0)]) fun b30 =>
 ob (bldA [] [(I 0), (I 0), (S ⟨#[]⟩)]) fun r31 =>
 ob (sizedA 3 r31) fun b32 =>
 ob (spliceA 0 b32 [(I 0), (I 0), (S ⟨#[]⟩)]) fun b33 =>
 ob (binA Pg .mul 3 true (I 3) x9) fun r34 =>
 ob (binA Pg .add 3 false r34 x10) fun r35 =>
 ob (lenA x2) fun r36 =>
 ob (binA Pg .lss 3 false r35 r36) fun r37 =>
 cndA r37
 (ob (binA Pg .mul 3 true (I 3) x9) fun r38 =>
 ob (binA Pg .add 3 false r38 x10) fun r39 =>
 ob (ixaA 3 x2 r39) fun c40 =>
 ob (partA false 0 1 (c40.drop 0)) fun r41 =>
 ob (partA false 1 1 b30) fun r42 =>
 ob (binA Pg .eql 3 false r41 r42) fun r43 =>
 f9_j40 x1 x2 x3 x7 x8 x9 x10 b30 b33 r43 H24 Q)
 (f9_j40 x1 x2 x3 x7 x8 x9 x10 b30 b33 (B false) H24 Q))
 (ob (binA Pg .add 3 true x9 (I 1)) fun r44 =>
 f9_l10 x1 x2 x3 x7 x8 r44 H Q) :=
  (AtF_eq Pg Hs 9 [1, 1, 1, 0, 1, 0, 0, 1, 0, 0, 1, 1, 0] Q _ H).trans (by kernel_rfl)
theorem f9_j55_eq (x3 : List AV) (x8 : List AV) (x13 : AV) (x110 : AV) (H : Heap) (Q : Post) : f9_j55 x3 x8 x13 x110 H Q =
 cndA x110
 (Q (B false) H)
 (ob (partA true 0 7 x3) fun r45 =>
 E 10 [x13, r45] H fun r46 H47 =>
 ob (extractA r46 0) fun r48 =>
 ob (extractA r46 1) fun r49 =>
 ob (binA Pg .neq 32 true r49 (I 0)) fun r50 =>
 cndA r50
 (ob (binA Pg .eql 3 true r48 (I 0)) fun r51 =>
 cndA r51
 (E 25 [] H47 fun r52 H53 =>
 f9_j68 r52 H53 Q)
 (f9_j68 (B false) H47 Q))
 (ob (partA true 0 7 x3) fun r54 =>
 ob (partA false 0 1 x8) fun r55 =>
 ob (partA false 1 1 x8) fun r56 =>
 ob (partA false 2 1 x8) fun r57 =>
 E 19 [r55, r56, r57] H47 fun r58 H59 =>
 E 20 [r54, r58] H59 fun r60 H61 =>
 ob (extractA r60 0) fun r62 =>
 ob (extractA r60 1) fun r63 =>
 ob (sizedA 3 r62) fun b64 =>
 ob (spliceA 0 b64 [(I 0), (I 0), (S ⟨#[]⟩)]) fun b65 =>
 ob (binA Pg .neq 32 true r63 (I 0)) fun r66 =>
 cndA r66
 (ob (binA Pg .eql 32 true r63 (I 10)) fun r67 =>
 cndA r67
 (E 25 [] H61 fun r68 H69 =>
 f9_j78 r68 H69 Q)
 (ob (binA Pg .eql 32 true r63 (I 1)) fun r70 =>
 cndA r70
 (E 25 [] H61 fun r71 H72 =>
 f9_j78 r71 H72 Q)
 (f9_j78 (B false) H61 Q)))
 (ob (partA false 0 1 b65) fun r73 =>
 ob (binA Pg .eql 3 false r73 r48) fun r74 =>
 cndA r74
 (f9_c26_9a x3 x8 r48 b65 H61 Q)
 (ob (partA false 0 1 b65) fun r75 =>
 ob (binA Pg .eql 3 true r75 (I 0)) fun r76 =>
 f9_c26_9b x3 x8 r48 b65 r76 H61 Q)))) :=
  (AtJ_eq Pg Hs 9 [1, 1, 1, 1, 1, 0, 1] Q _ H).trans (by kernel_rfl)
theorem f9_j40_eq (x1 : AV) (x2 : AV) (x3 : List AV) (x7 : AV) (x8 : List AV) (x9 : AV) (x10 : AV) (x11 : List AV) (x12 : List AV) (x64 : AV) (H : Heap) (Q : Post) : f9_j40 x1 x2 x3 x7 x8 x9 x10 x11 x12 x64 H Q =
 cndA x64
 (ob (binA Pg .mul 3 true (I 3) x9) fun r77 =>
 ob (binA Pg .add 3 false r77 x10) fun r78 =>
 ob (ixaA 3 x2 r78) fun c79 =>
 ob (partA true 0 3 c79) fun r80 =>
 ob (sizedA 3 r80) fun b81 =>
 ob (spliceA 0 b81 x12) fun b82 =>
 ob (partA false 0 1 x8) fun r83 =>
 ob (ixaA 1 x1 x9) fun c84 =>
 ob (partA false 0 1 c84) fun r85 =>
 ob (mkSlA 1 [r85]) fun r86 =>
 appA 1 16 r83 r86 H fun r87 H88 =>
 ob (sizedA 1 r87) fun b89 =>
 ob (spliceA 0 b89 x8) fun b90 =>
 ob (partA false 1 1 b90) fun r91 =>
 ob (partA false 0 1 x11) fun r92 =>
 ob (mkSlA 1 [r92]) fun r93 =>
 appA 1 16 r91 r93 H88 fun r94 H95 =>
 ob (sizedA 1 r94) fun b96 =>
 ob (spliceA 1 b96 b90) fun b97 =>
 ob (partA false 2 1 b97) fun r98 =>
 ob (partA true 0 3 b82) fun r99 =>
 ob (mkSlA 3 [r99]) fun r100 =>
 appA 3 32 r98 r100 H95 fun r101 H102 =>
 ob (sizedA 1 r101) fun b103 =>
 ob (spliceA 2 b103 b97) fun b104 =>
 ob (binA Pg .add 3 true x10 (I 1)) fun r105 =>
 f9_l24 x1 x2 x3 x7 b104 x9 r105 H102 Q)
 (ob (partA false 0 1 x8) fun r106 =>
 ob (ixaA 1 x1 x9) fun c107 =>
 ob (partA false 0 1 c107) fun r108 =>
 ob (mkSlA 1 [r108]) fun r109 =>
 appA 1 16 r106 r109 H fun r110 H111 =>
 ob (sizedA 1 r110) fun b112 =>
 ob (spliceA 0 b112 x8) fun b113 =>
 ob (partA false 1 1 b113) fun r114 =>
 ob (partA false 0 1 x11) fun r115 =>
 ob (mkSlA 1 [r115]) fun r116 =>
 appA 1 16 r114 r116 H111 fun r117 H118 =>
 ob (sizedA 1 r117) fun b119 =>
 ob (spliceA 1 b119 b113) fun b120 =>
 ob (partA false 2 1 b120) fun r121 =>
 ob (partA true 0 3 x12) fun r122 =>
 ob (mkSlA 3 [r122]) fun r123 =>
 appA 3 32 r121 r123 H118 fun r124 H125 =>
 ob (sizedA 1 r124) fun b126 =>
 ob (spliceA 2 b126 b120) fun b127 =>
 ob (binA Pg .add 3 true x10 (I 1)) fun r128 =>
 f9_l24 x1 x2 x3 x7 b127 x9 r128 H125 Q) :=
  (AtJ_eq Pg Hs 9 [1, 1, 1, 0, 1, 0, 0, 1, 0, 0, 1, 1, 0, 0, 1, 0, 0, 1, 1, 0, 1] Q _ H).trans (by kernel_rfl)
theorem f9_j68_eq (x6 : AV) (H : Heap) (Q : Post) : f9_j68 x6 H Q =
 Q x6 H :=
  (AtJ_eq Pg Hs 9 [1, 1, 1, 1, 1, 1, 1, 0, 1, 0, 1] Q _ H).trans (by kernel_rfl)
theorem f9_j78_eq (x6 : AV) (H : Heap) (Q : Post) : f9_j78 x6 H Q =
 Q x6 H :=
  (AtJ_eq Pg Hs 9 [1, 1, 1, 1, 1, 1, 1, 1, 1, 0, 1, 0, 1] Q _ H).trans (by kernel_rfl)
theorem f9_c26_9a_eq (x3 : List AV) (x8 : List AV) (x15 : AV) (x17 : List AV) (H : Heap) (Q : Post) : f9_c26_9a x3 x8 x15 x17 H Q =
 f9_c26_13a x3 x8 x17 H Q :=
  (AtJ_eq Pg Hs 9 [1, 1, 1, 1, 1, 1, 1, 1, 1, 1, 0, 9] Q _ H).trans (by kernel_rfl)
theorem f9_c26_9b_eq (x3 : List AV) (x8 : List AV) (x15 : AV) (x17 : List AV) (x155 : AV) (H : Heap) (Q : Post) : f9_c26_9b x3 x8 x15 x17 x155 H Q =
 cndA x155
 (f9_c26_13a x3 x8 x17 H Q)
 (ob (binA Pg .eql 3 true x15 (I 0)) fun r129 =>
 f9_c26_13b x3 x8 x17 r129 H Q) :=
  (AtJ_eq Pg Hs 9 [1, 1, 1, 1, 1, 1, 1, 1, 1, 1, 0, 9] Q _ H).trans (by kernel_rfl)
theorem f9_c26_13a_eq (x3 : List AV) (x8 : List AV) (x17 : List AV) (H : Heap) (Q : Post) : f9_c26_13a x3 x8 x17 H Q =
 E 25 [] H fun r130 H131 =>
 f9_c26_16a x3 x8 x17 r130 H131 Q :=
  (AtJ_eq Pg Hs 9 [1, 1, 1, 1, 1, 1, 1, 1, 1, 1, 0, 13] Q _ H).trans (by kernel_rfl)
theorem f9_c26_13b_eq (x3 : List AV) (x8 : List AV) (x17 : List AV) (x159 : AV) (H : Heap) (Q : Post) : f9_c26_13b x3 x8 x17 x159 H Q =
 cndA x159
 (E 25 [] H fun r132 H133 =>
 f9_c26_16a x3 x8 x17 r132 H133 Q)
 (f9_c26_16b x3 x8 x17 H Q) :=
  (AtJ_eq Pg Hs 9 [1, 1, 1, 1, 1, 1, 1, 1, 1, 1, 0, 13] Q _ H).trans (by kernel_rfl)
theorem f9_c26_16a_eq (x3 : List AV) (x8 : List AV) (x17 : List AV) (x162 : AV) (H : Heap) (Q : Post) : f9_c26_16a x3 x8 x17 x162 H Q =
 f9_j82 x162 H Q :=
  (AtJ_eq Pg Hs 9 [1, 1, 1, 1, 1, 1, 1, 1, 1, 1, 0, 16] Q _ H).trans (by kernel_rfl)
theorem f9_c26_16b_eq (x3 : List AV) (x8 : List AV) (x17 : List AV) (H : Heap) (Q : Post) : f9_c26_16b x3 x8 x17 H Q =
 f9_j82 (B false) H Q :=
  (AtJ_eq Pg Hs 9 [1, 1, 1, 1, 1, 1, 1, 1, 1, 1, 0, 16] Q _ H).trans (by kernel_rfl)
theorem f9_j82_eq (x6 : AV) (H : Heap) (Q : Post) : f9_j82 x6 H Q =
 Q x6 H :=
  (AtJ_eq Pg Hs 9 [1, 1, 1, 1, 1, 1, 1, 1, 1, 1, 1] Q _ H).trans (by kernel_rfl)
theorem f9_eq (a0 a1 a2 : AV) (H : Heap) (Q : Post) : E 9 [a0, a1, a2] H Q =
 ob (sizedA 7 a0) fun b1 =>
 ob (bldA [] [(AV.sl 0 true .full []), (AV.sl 0 true .full []), (AV.sl 0 true .full [])]) fun r2 =>
 ob (sizedA 3 r2) fun b3 =>
 ob (spliceA 0 b3 [(AV.sl 0 true .full []), (AV.sl 0 true .full []), (AV.sl 0 true .full [])]) fun b4 =>
 f9_l10 a1 a2 b1 (AV.sl 0 true .full []) b4 (I 0) H Q :=
  Ev_eq.trans (by kernel_rfl)
/-! ### 10 (*haruspex/typing.Names).Kind -/
theorem f10_eq (a0 a1 : AV) (H : Heap) (Q : Post) : E 10 [a0, a1] H Q =
 ob (sizedA 7 a1) fun b1 =>
 E 27 [a0] H fun r2 H3 =>
 cndA r2
 (Q (AV.tup [(I 0), (I 7)]) H3)
 (ob (partA true 0 7 b1) fun r4 =>
 E 28 [r4] H3 fun r5 H6 =>
 ob (binA Pg .neq 32 true r5 (I 0)) fun r7 =>
 cndA r7
 (Q (AV.tup [(I 0), (I 1)]) H6)
 (ob (partA true 0 7 b1) fun r8 =>
 E 29 [a0, r8] H6 fun r9 H10 =>
 ob (extractA r9 0) fun r11 =>
 ob (extractA r9 1) fun r12 =>
 E 30 [r12] H10 fun r13 H14 =>
 Q (AV.tup [r11, r13]) H14)) :=
  Ev_eq.trans (by kernel_rfl)
/-! ### 11 (*haruspex/typing.Names).Type -/
theorem f11_eq (a0 a1 : AV) (H : Heap) (Q : Post) : E 11 [a0, a1] H Q =
 E 27 [a0] H fun r1 H2 =>
 cndA r1
 (Q (AV.tup [(S ⟨#[]⟩), (B false)]) H2)
 (ob (nilA a0) fun r3 =>
 ob (addPA r3 1) fun r4 =>
 ob (ldH H2 false 1 r4) fun r5 =>
 E 31 [r5, a1] H2 fun r6 H7 =>
 ob (binA Pg .lss 3 true r6 (I 0)) fun r8 =>
 cndA r8
 (Q (AV.tup [(S ⟨#[]⟩), (B false)]) H7)
 (ob (nilA a0) fun r9 =>
 ob (addPA r9 2) fun r10 =>
 ob (ldH H7 false 1 r10) fun r11 =>
 ob (ixaA 1 r11 r6) fun c12 =>
 ob (partA false 0 1 c12) fun r13 =>
 Q (AV.tup [r13, (B true)]) H7)) :=
  Ev_eq.trans (by kernel_rfl)
/-! ### 12 (*haruspex/typing.Names).Cond -/
theorem f12_eq (a0 a1 : AV) (H : Heap) (Q : Post) : E 12 [a0, a1] H Q =
 ob (sizedA 7 a1) fun b1 =>
 ob (partA true 0 7 b1) fun r2 =>
 E 10 [a0, r2] H fun r3 H4 =>
 ob (extractA r3 0) fun r5 =>
 ob (extractA r3 1) fun r6 =>
 ob (binA Pg .neq 32 true r6 (I 0)) fun r7 =>
 cndA r7
 (Q r6 H4)
 (ob (binA Pg .neq 3 true r5 (I 1)) fun r8 =>
 cndA r8
 (Q (I 5) H4)
 (Q (I 0) H4)) :=
  Ev_eq.trans (by kernel_rfl)
/-! ### 13 haruspex/typing.New -/
def f13_j5 (x0 : AV) (x1 : AV) (x2 : AV) (x21 : AV) (H : Heap) (Q : Post) : Prop := AtJ Pg Hs 13 [1, 0, 1] Q [(0, .val x0), (1, .val x1), (2, .val x2), (21, .val x21)] H
def f13_l14 (x0 : AV) (x1 : AV) (x2 : AV) (x22 : AV) (x23 : AV) (x24 : AV) (H : Heap) (Q : Post) : Prop := AtF Pg Hs 13 [1, 1, 0, 1, 0] Q [(0, .val x0), (1, .val x1), (2, .val x2), (22, .val x22), (23, .val x23), (24, .val x24)] H
theorem f13_j5_eq (x0 : AV) (x1 : AV) (x2 : AV) (x21 : AV) (H : Heap) (Q : Post) : f13_j5 x0 x1 x2 x21 H Q =
 cndA x21
 (Q (AV.tup [(AV.raw (.pointer none)), (I 1)]) H)
 (ob (lenA x2) fun r7 =>
 f13_l14 x0 x1 x2 x2 r7 (I 0) H Q) :=
  (AtJ_eq Pg Hs 13 [1, 0, 1] Q _ H).trans (by kernel_rfl)
theorem f13_l14_eq (x0 : AV) (x1 : AV) (x2 : AV) (x22 : AV) (x23 : AV) (x24 : AV) (H : Heap) (Q : Post) : f13_l14 x0 x1 x2 x22 x23 x24 H Q =
 ob (binA Pg .lss 3 false x24 x23) fun r8 =>
 cndA r8
 (ob (ixaA 1 x22 x24) fun c9 =>
 ob (partA false 0 1 c9) fun r10 =>
 E 33 [x0, r10] H fun r11 H12 =>
 ob (extractA r11 0) fun r13 =>
 ob (extractA r11 1) fun r14 =>
 ob (unA .not r14) fun r15 =>
 cndA r15
 (Q (AV.tup [(AV.raw (.pointer none)), (I 6)]) H12)
 (ob (binA Pg .add 3 true x24 (I 1)) fun r16 =>
 f13_l14 x0 x1 x2 x22 x23 r16 H12 Q))
 (E 34 [x0] H fun r17 H18 =>
 E 35 [x1] H18 fun r19 H20 =>
 E 35 [x2] H20 fun r21 H22 =>
 ob (bldA [(0, 1, r17), (1, 1, r19), (2, 1, r21), (3, 1, (B true))] [(AV.sl 0 true .full []), (AV.sl 0 true .full []), (AV.sl 0 true .full []), (B false)]) fun r23 =>
 ob (sizedA 4 r23) fun b24 =>
 newH H22 b24 fun r25 H26 =>
 Q (AV.tup [r25, (I 0)]) H26) :=
  (AtF_eq Pg Hs 13 [1, 1, 0, 1, 0] Q _ H).trans (by kernel_rfl)
theorem f13_eq (a0 a1 a2 : AV) (H : Heap) (Q : Post) : E 13 [a0, a1, a2] H Q =
 E 32 [a0] H fun r1 H2 =>
 ob (binA Pg .neq 32 true r1 (I 0)) fun r3 =>
 cndA r3
 (f13_j5 a0 a1 a2 (B true) H2 Q)
 (ob (lenA a1) fun r4 =>
 ob (lenA a2) fun r5 =>
 ob (binA Pg .neq 3 false r4 r5) fun r6 =>
 f13_j5 a0 a1 a2 r6 H2 Q) :=
  Ev_eq.trans (by kernel_rfl)
/-! ### 14 haruspex/haruspexref10.New -/
def f14_j5 (x0 : AV) (x1 : AV) (x2 : AV) (x20 : AV) (H : Heap) (Q : Post) : Prop := AtJ Pg Hs 14 [1, 0, 1] Q [(0, .val x0), (1, .val x1), (2, .val x2), (20, .val x20)] H
def f14_l14 (x0 : AV) (x1 : AV) (x2 : AV) (x8 : AV) (H : Heap) (Q : Post) : Prop := AtF Pg Hs 14 [1, 1, 0, 1, 0] Q [(0, .val x0), (1, .val x1), (2, .val x2), (8, .val x8)] H
theorem f14_j5_eq (x0 : AV) (x1 : AV) (x2 : AV) (x20 : AV) (H : Heap) (Q : Post) : f14_j5 x0 x1 x2 x20 H Q =
 cndA x20
 (Q (AV.tup [(AV.raw (.pointer none)), (I 1)]) H)
 (f14_l14 x0 x1 x2 (I 0) H Q) :=
  (AtJ_eq Pg Hs 14 [1, 0, 1] Q _ H).trans (by kernel_rfl)
theorem f14_l14_eq (x0 : AV) (x1 : AV) (x2 : AV) (x8 : AV) (H : Heap) (Q : Post) : f14_l14 x0 x1 x2 x8 H Q =
 ob (lenA x2) fun r7 =>
 ob (binA Pg .lss 3 false x8 r7) fun r8 =>
 cndA r8
 (ob (ixaA 1 x2 x8) fun c9 =>
 ob (partA false 0 1 c9) fun r10 =>
 E 37 [x0, r10] H fun r11 H12 =>
 ob (extractA r11 0) fun r13 =>
 ob (extractA r11 1) fun r14 =>
 ob (unA .not r14) fun r15 =>
 cndA r15
 (Q (AV.tup [(AV.raw (.pointer none)), (I 6)]) H12)
 (ob (binA Pg .add 3 true x8 (I 1)) fun r16 =>
 f14_l14 x0 x1 x2 r16 H12 Q))
 (ob (bldA [(0, 1, x0), (1, 1, x1), (2, 1, x2)] [(AV.sl 0 true .full []), (AV.sl 0 true .full []), (AV.sl 0 true .full [])]) fun r17 =>
 ob (sizedA 3 r17) fun b18 =>
 newH H b18 fun r19 H20 =>
 Q (AV.tup [r19, (I 0)]) H20) :=
  (AtF_eq Pg Hs 14 [1, 1, 0, 1, 0] Q _ H).trans (by kernel_rfl)
theorem f14_eq (a0 a1 a2 : AV) (H : Heap) (Q : Post) : E 14 [a0, a1, a2] H Q =
 E 36 [a0] H fun r1 H2 =>
 ob (binA Pg .neq 3 true r1 (I 0)) fun r3 =>
 cndA r3
 (f14_j5 a0 a1 a2 (B true) H2 Q)
 (ob (lenA a1) fun r4 =>
 ob (lenA a2) fun r5 =>
 ob (binA Pg .neq 3 false r4 r5) fun r6 =>
 f14_j5 a0 a1 a2 r6 H2 Q) :=
  Ev_eq.trans (by kernel_rfl)
/-! ### 15 haruspex/haruspexlaw10.awake -/
def f15_j7 (x1 : AV) (x17 : AV) (H : Heap) (Q : Post) : Prop := AtJ Pg Hs 15 [1, 1, 0, 1] Q [(1, .val x1), (17, .val x17)] H
def f15_j16 (x0 : AV) (H : Heap) (Q : Post) : Prop := AtJ Pg Hs 15 [1, 1, 1, 1, 1] Q [(0, .val x0)] H
theorem f15_j7_eq (x1 : AV) (x17 : AV) (H : Heap) (Q : Post) : f15_j7 x1 x17 H Q =
 cndA x17
 (Q (B false) H)
 (ob (bldA [(0, 1, (I 2)), (4, 1, (S ⟨#[97]⟩)), (5, 1, (S ⟨#[120]⟩))] [(I 0), (I 0), (I 0), (S ⟨#[]⟩), (S ⟨#[]⟩), (S ⟨#[]⟩), (AV.sl 0 true .full [])]) fun r11 =>
 E 10 [x1, r11] H fun r12 H13 =>
 ob (extractA r12 0) fun r14 =>
 ob (extractA r12 1) fun r15 =>
 ob (binA Pg .eql 32 true r15 (I 0)) fun r16 =>
 cndA r16
 (ob (binA Pg .eql 3 true r14 (I 2)) fun r17 =>
 f15_j16 r17 H13 Q)
 (f15_j16 (B false) H13 Q)) :=
  (AtJ_eq Pg Hs 15 [1, 1, 0, 1] Q _ H).trans (by kernel_rfl)
theorem f15_j16_eq (x0 : AV) (H : Heap) (Q : Post) : f15_j16 x0 H Q =
 Q x0 H :=
  (AtJ_eq Pg Hs 15 [1, 1, 1, 1, 1] Q _ H).trans (by kernel_rfl)
theorem f15_eq (_u : Unit := ()) (H : Heap) (Q : Post) : E 15 [] H Q =
 E 38 [] H fun r1 H2 =>
 ob (mkSlA 1 [(S ⟨#[97]⟩)]) fun r3 =>
 ob (mkSlA 1 [(S ⟨#[98, 117, 121]⟩)]) fun r4 =>
 E 13 [r1, r3, r4] H2 fun r5 H6 =>
 ob (extractA r5 0) fun r7 =>
 ob (extractA r5 1) fun r8 =>
 ob (binA Pg .eql 27 true r7 (AV.raw (.pointer none))) fun r9 =>
 cndA r9
 (f15_j7 r7 (B true) H6 Q)
 (ob (binA Pg .neq 32 true r8 (I 0)) fun r10 =>
 f15_j7 r7 r10 H6 Q) :=
  Ev_eq.trans (by kernel_rfl)
/-! ### 16 (*haruspex/haruspexref10.Names).Kind -/
theorem f16_eq (a0 a1 : AV) (H : Heap) (Q : Post) : E 16 [a0, a1] H Q =
 ob (sizedA 7 a1) fun b1 =>
 ob (partA true 0 7 b1) fun r2 =>
 E 39 [r2] H fun r3 H4 =>
 ob (binA Pg .neq 3 true r3 (I 0)) fun r5 =>
 cndA r5
 (Q (AV.tup [(I 0), (I 1)]) H4)
 (ob (partA true 0 7 b1) fun r6 =>
 E 40 [a0, r6] H4 fun r7 H8 =>
 ob (extractA r7 0) fun r9 =>
 ob (extractA r7 1) fun r10 =>
 Q (AV.tup [r9, r10]) H8) :=
  Ev_eq.trans (by kernel_rfl)
/-! ### 17 (*haruspex/haruspexref10.Names).Type -/
def f17_l6 (x0 : AV) (x1 : AV) (x6 : AV) (H : Heap) (Q : Post) : Prop := AtF Pg Hs 17 [1, 0, 1, 0] Q [(0, .val x0), (1, .val x1), (6, .val x6)] H
def f17_j10 (x0 : AV) (x1 : AV) (x6 : AV) (x22 : AV) (H : Heap) (Q : Post) : Prop := AtJ Pg Hs 17 [1, 0, 1, 0, 0, 0, 1] Q [(0, .val x0), (1, .val x1), (6, .val x6), (22, .val x22)] H
theorem f17_l6_eq (x0 : AV) (x1 : AV) (x6 : AV) (H : Heap) (Q : Post) : f17_l6 x0 x1 x6 H Q =
 ob (nilA x0) fun r1 =>
 ob (addPA r1 1) fun r2 =>
 ob (ldH H false 1 r2) fun r3 =>
 ob (lenA r3) fun r4 =>
 ob (binA Pg .lss 3 false x6 r4) fun r5 =>
 cndA r5
 (ob (nilA x0) fun r6 =>
 ob (addPA r6 2) fun r7 =>
 ob (ldH H false 1 r7) fun r8 =>
 ob (lenA r8) fun r9 =>
 ob (binA Pg .lss 3 false x6 r9) fun r10 =>
 f17_j10 x0 x1 x6 r10 H Q)
 (f17_j10 x0 x1 x6 (B false) H Q) :=
  (AtF_eq Pg Hs 17 [1, 0, 1, 0] Q _ H).trans (by kernel_rfl)
theorem f17_j10_eq (x0 : AV) (x1 : AV) (x6 : AV) (x22 : AV) (H : Heap) (Q : Post) : f17_j10 x0 x1 x6 x22 H Q =
 cndA x22
 (ob (nilA x0) fun r11 =>
 ob (addPA r11 1) fun r12 =>
 ob (ldH H false 1 r12) fun r13 =>
 ob (ixaA 1 r13 x6) fun c14 =>
 ob (partA false 0 1 c14) fun r15 =>
 ob (binA Pg .eql 9 false r15 x1) fun r16 =>
 cndA r16
 (ob (nilA x0) fun r17 =>
 ob (addPA r17 2) fun r18 =>
 ob (ldH H false 1 r18) fun r19 =>
 ob (ixaA 1 r19 x6) fun c20 =>
 ob (partA false 0 1 c20) fun r21 =>
 Q (AV.tup [r21, (B true)]) H)
 (ob (binA Pg .add 3 true x6 (I 1)) fun r22 =>
 f17_l6 x0 x1 r22 H Q))
 (Q (AV.tup [(S ⟨#[]⟩), (B false)]) H) :=
  (AtJ_eq Pg Hs 17 [1, 0, 1, 0, 0, 0, 1] Q _ H).trans (by kernel_rfl)
theorem f17_eq (a0 a1 : AV) (H : Heap) (Q : Post) : E 17 [a0, a1] H Q =
 f17_l6 a0 a1 (I 0) H Q :=
  Ev_eq.trans (by kernel_rfl)
/-! ### 18 (*haruspex/haruspexref10.Names).Cond -/
theorem f18_eq (a0 a1 : AV) (H : Heap) (Q : Post) : E 18 [a0, a1] H Q =
 ob (sizedA 7 a1) fun b1 =>
 ob (partA true 0 7 b1) fun r2 =>
 E 16 [a0, r2] H fun r3 H4 =>
 ob (extractA r3 0) fun r5 =>
 ob (extractA r3 1) fun r6 =>
 ob (binA Pg .neq 3 true r6 (I 0)) fun r7 =>
 cndA r7
 (Q r6 H4)
 (ob (binA Pg .neq 3 true r5 (I 1)) fun r8 =>
 cndA r8
 (Q (I 5) H4)
 (Q (I 0) H4)) :=
  Ev_eq.trans (by kernel_rfl)
/-! ### 19 haruspex/eval.Table -/
theorem f19_eq (a0 a1 a2 : AV) (H : Heap) (Q : Post) : E 19 [a0, a1, a2] H Q =
 ob (sizedA 1 a0) fun b1 =>
 ob (sizedA 1 a1) fun b2 =>
 ob (sizedA 1 a2) fun b3 =>
 ob (partA false 0 1 b1) fun r4 =>
 ob (partA false 0 1 b2) fun r5 =>
 ob (partA false 0 1 b3) fun r6 =>
 E 35 [r4] H fun r7 H8 =>
 E 35 [r5] H8 fun r9 H10 =>
 E 41 [r6] H10 fun r11 H12 =>
 ob (sizedA 1 r7) fun b13 =>
 ob (spliceA 0 b13 b1) fun b14 =>
 ob (sizedA 1 r9) fun b15 =>
 ob (spliceA 0 b15 b2) fun b16 =>
 ob (sizedA 1 r11) fun b17 =>
 ob (spliceA 0 b17 b3) fun b18 =>
 newH H12 b14 fun r19 H20 =>
 newH H20 b16 fun r21 H22 =>
 newH H22 b18 fun r23 H24 =>
 Q (AV.fn (.func 42) [] [r19, r21, r23]) H24 :=
  Ev_eq.trans (by kernel_rfl)
/-! ### 20 haruspex/eval.Say -/
def f20_j5 (x1 : AV) (x2 : List AV) (x4 : List AV) (x12 : AV) (H : Heap) (Q : Post) : Prop := AtJ Pg Hs 20 [1, 0, 1] Q [(1, .val x1), (2, .lbox x2), (4, .lbox x4), (12, .val x12)] H
theorem f20_j5_eq (x1 : AV) (x2 : List AV) (x4 : List AV) (x12 : AV) (H : Heap) (Q : Post) : f20_j5 x1 x2 x4 x12 H Q =
 cndA x12
 (E 43 [] H fun r7 H8 =>
 ob (sizedA 3 r7) fun b9 =>
 ob (spliceA 0 b9 x4) fun b10 =>
 ob (partA true 0 3 b10) fun r11 =>
 Q (AV.tup [r11, (I 1)]) H8)
 (ob (partA true 0 7 x2) fun r12 =>
 E 44 [r12, x1] H fun r13 H14 =>
 ob (extractA r13 0) fun r15 =>
 ob (extractA r13 1) fun r16 =>
 ob (sizedA 3 r15) fun b17 =>
 ob (spliceA 0 b17 x4) fun b18 =>
 ob (partA true 0 3 b18) fun r19 =>
 Q (AV.tup [r19, r16]) H14) :=
  (AtJ_eq Pg Hs 20 [1, 0, 1] Q _ H).trans (by kernel_rfl)
theorem f20_eq (a0 a1 : AV) (H : Heap) (Q : Post) : E 20 [a0, a1] H Q =
 ob (sizedA 7 a0) fun b1 =>
 ob (partA true 0 7 b1) fun r2 =>
 E 28 [r2] H fun r3 H4 =>
 ob (binA Pg .neq 32 true r3 (I 0)) fun r5 =>
 cndA r5
 (f20_j5 a1 b1 [(I 0), (I 0), (S ⟨#[]⟩)] (B true) H4 Q)
 (ob (binA Pg .eql 52 true a1 (AV.raw .nilFunc)) fun r6 =>
 f20_j5 a1 b1 [(I 0), (I 0), (S ⟨#[]⟩)] r6 H4 Q) :=
  Ev_eq.trans (by kernel_rfl)
/-! ### 21 haruspex/haruspexref11.Say -/
theorem f21_eq (a0 a1 : AV) (H : Heap) (Q : Post) : E 21 [a0, a1] H Q =
 ob (sizedA 7 a0) fun b1 =>
 ob (sizedA 3 a1) fun b2 =>
 ob (partA true 0 7 b1) fun r3 =>
 E 39 [r3] H fun r4 H5 =>
 ob (binA Pg .neq 3 true r4 (I 0)) fun r6 =>
 cndA r6
 (ob (bldA [] [(I 0), (I 0), (S ⟨#[]⟩)]) fun r7 =>
 ob (sizedA 3 r7) fun b8 =>
 ob (spliceA 0 b8 [(I 0), (I 0), (S ⟨#[]⟩)]) fun b9 =>
 ob (partA true 0 3 b9) fun r10 =>
 Q (AV.tup [r10, (I 1)]) H5)
 (ob (partA true 0 7 b1) fun r11 =>
 ob (partA true 0 3 b2) fun r12 =>
 E 45 [r11, r12] H5 fun r13 H14 =>
 ob (extractA r13 0) fun r15 =>
 ob (extractA r13 1) fun r16 =>
 ob (sizedA 3 r15) fun b17 =>
 ob (spliceA 0 b17 [(I 0), (I 0), (S ⟨#[]⟩)]) fun b18 =>
 ob (partA true 0 3 b18) fun r19 =>
 Q (AV.tup [r19, r16]) H14) :=
  Ev_eq.trans (by kernel_rfl)
/-! ### 22 (haruspex/haruspexref11.Table).Look -/
def f22_l6 (x1 : AV) (x2 : AV) (x3 : List AV) (x6 : List AV) (x8 : AV) (H : Heap) (Q : Post) : Prop := AtF Pg Hs 22 [1, 0, 1, 0] Q [(1, .val x1), (2, .val x2), (3, .lbox x3), (6, .lbox x6), (8, .val x8)] H
def f22_j10 (x1 : AV) (x2 : AV) (x3 : List AV) (x6 : List AV) (x8 : AV) (x20 : AV) (H : Heap) (Q : Post) : Prop := AtJ Pg Hs 22 [1, 0, 1, 0, 0, 0, 1] Q [(1, .val x1), (2, .val x2), (3, .lbox x3), (6, .lbox x6), (8, .val x8), (20, .val x20)] H
def f22_j17 (x1 : AV) (x2 : AV) (x3 : List AV) (x6 : List AV) (x8 : AV) (x38 : AV) (H : Heap) (Q : Post) : Prop := AtJ Pg Hs 22 [1, 0, 1, 0, 0, 1, 0, 0, 1] Q [(1, .val x1), (2, .val x2), (3, .lbox x3), (6, .lbox x6), (8, .val x8), (38, .val x38)] H
theorem f22_l6_eq (x1 : AV) (x2 : AV) (x3 : List AV) (x6 : List AV) (x8 : AV) (H : Heap) (Q : Post) : f22_l6 x1 x2 x3 x6 x8 H Q =
 ob (partA false 0 1 x3) fun r2 =>
 ob (lenA r2) fun r3 =>
 ob (binA Pg .lss 3 false x8 r3) fun r4 =>
 cndA r4
 (ob (partA false 1 1 x3) fun r5 =>
 ob (lenA r5) fun r6 =>
 ob (binA Pg .lss 3 false x8 r6) fun r7 =>
 f22_j10 x1 x2 x3 x6 x8 r7 H Q)
 (f22_j10 x1 x2 x3 x6 x8 (B false) H Q) :=
  (AtF_eq Pg Hs 22 [1, 0, 1, 0] Q _ H).trans (by kernel_rfl)
theorem f22_j10_eq (x1 : AV) (x2 : AV) (x3 : List AV) (x6 : List AV) (x8 : AV) (x20 : AV) (H : Heap) (Q : Post) : f22_j10 x1 x2 x3 x6 x8 x20 H Q =
 cndA x20
 (ob (partA false 0 1 x3) fun r8 =>
 ob (ixaA 1 r8 x8) fun c9 =>
 ob (partA false 0 1 c9) fun r10 =>
 ob (binA Pg .eql 9 false r10 x1) fun r11 =>
 cndA r11
 (ob (partA false 1 1 x3) fun r12 =>
 ob (ixaA 1 r12 x8) fun c13 =>
 ob (partA false 0 1 c13) fun r14 =>
 ob (binA Pg .eql 9 false r14 x2) fun r15 =>
 f22_j17 x1 x2 x3 x6 x8 r15 H Q)
 (f22_j17 x1 x2 x3 x6 x8 (B false) H Q))
 (ob (bldA [] [(I 0), (I 0), (S ⟨#[]⟩)]) fun r16 =>
 ob (sizedA 3 r16) fun b17 =>
 ob (spliceA 0 b17 x6) fun b18 =>
 ob (partA true 0 3 b18) fun r19 =>
 Q (AV.tup [r19, (B false)]) H) :=
  (AtJ_eq Pg Hs 22 [1, 0, 1, 0, 0, 0, 1] Q _ H).trans (by kernel_rfl)
theorem f22_j17_eq (x1 : AV) (x2 : AV) (x3 : List AV) (x6 : List AV) (x8 : AV) (x38 : AV) (H : Heap) (Q : Post) : f22_j17 x1 x2 x3 x6 x8 x38 H Q =
 cndA x38
 (ob (partA false 2 1 x3) fun r20 =>
 ob (lenA r20) fun r21 =>
 ob (binA Pg .lss 3 false x8 r21) fun r22 =>
 cndA r22
 (ob (partA false 2 1 x3) fun r23 =>
 ob (ixaA 3 r23 x8) fun c24 =>
 ob (partA true 0 3 c24) fun r25 =>
 ob (sizedA 3 r25) fun b26 =>
 ob (spliceA 0 b26 x6) fun b27 =>
 ob (partA true 0 3 b27) fun r28 =>
 Q (AV.tup [r28, (B true)]) H)
 (ob (bldA [] [(I 0), (I 0), (S ⟨#[]⟩)]) fun r29 =>
 ob (sizedA 3 r29) fun b30 =>
 ob (spliceA 0 b30 x6) fun b31 =>
 ob (partA true 0 3 b31) fun r32 =>
 Q (AV.tup [r32, (B false)]) H))
 (ob (binA Pg .add 3 true x8 (I 1)) fun r33 =>
 f22_l6 x1 x2 x3 x6 r33 H Q) :=
  (AtJ_eq Pg Hs 22 [1, 0, 1, 0, 0, 1, 0, 0, 1] Q _ H).trans (by kernel_rfl)
theorem f22_eq (a0 a1 a2 : AV) (H : Heap) (Q : Post) : E 22 [a0, a1, a2] H Q =
 ob (sizedA 3 a0) fun b1 =>
 f22_l6 a1 a2 b1 [(I 0), (I 0), (S ⟨#[]⟩)] (I 0) H Q :=
  Ev_eq.trans (by kernel_rfl)
/-! ### 23 haruspex/eval.Holds -/
def f23_j6 (x4 : AV) (H : Heap) (Q : Post) : Prop := AtJ Pg Hs 23 [1, 1, 1] Q [(4, .val x4)] H
theorem f23_j6_eq (x4 : AV) (H : Heap) (Q : Post) : f23_j6 x4 H Q =
 Q x4 H :=
  (AtJ_eq Pg Hs 23 [1, 1, 1] Q _ H).trans (by kernel_rfl)
theorem f23_eq (a0 a1 : AV) (H : Heap) (Q : Post) : E 23 [a0, a1] H Q =
 ob (sizedA 7 a0) fun b1 =>
 ob (partA true 0 7 b1) fun r2 =>
 E 20 [r2, a1] H fun r3 H4 =>
 ob (extractA r3 0) fun r5 =>
 ob (extractA r3 1) fun r6 =>
 ob (sizedA 3 r5) fun b7 =>
 ob (spliceA 0 b7 [(I 0), (I 0), (S ⟨#[]⟩)]) fun b8 =>
 ob (binA Pg .eql 32 true r6 (I 0)) fun r9 =>
 cndA r9
 (ob (partA true 0 3 b8) fun r10 =>
 E 46 [(B true)] H4 fun r11 H12 =>
 ob (binA Pg .eql 23 false r10 r11) fun r13 =>
 f23_j6 r13 H12 Q)
 (f23_j6 (B false) H4 Q) :=
  Ev_eq.trans (by kernel_rfl)
/-! ### 24 haruspex/haruspexref11.Holds -/
def f24_j6 (x4 : AV) (H : Heap) (Q : Post) : Prop := AtJ Pg Hs 24 [1, 1, 1] Q [(4, .val x4)] H
theorem f24_j6_eq (x4 : AV) (H : Heap) (Q : Post) : f24_j6 x4 H Q =
 Q x4 H :=
  (AtJ_eq Pg Hs 24 [1, 1, 1] Q _ H).trans (by kernel_rfl)
theorem f24_eq (a0 a1 : AV) (H : Heap) (Q : Post) : E 24 [a0, a1] H Q =
 ob (sizedA 7 a0) fun b1 =>
 ob (sizedA 3 a1) fun b2 =>
 ob (partA true 0 7 b1) fun r3 =>
 ob (partA true 0 3 b2) fun r4 =>
 E 21 [r3, r4] H fun r5 H6 =>
 ob (extractA r5 0) fun r7 =>
 ob (extractA r5 1) fun r8 =>
 ob (sizedA 3 r7) fun b9 =>
 ob (spliceA 0 b9 [(I 0), (I 0), (S ⟨#[]⟩)]) fun b10 =>
 ob (binA Pg .eql 3 true r8 (I 0)) fun r11 =>
 cndA r11
 (ob (partA true 0 3 b10) fun r12 =>
 E 47 [(B true)] H6 fun r13 H14 =>
 ob (binA Pg .eql 23 false r12 r13) fun r15 =>
 f24_j6 r15 H14 Q)
 (f24_j6 (B false) H6 Q) :=
  Ev_eq.trans (by kernel_rfl)
/-! ### 25 haruspex/haruspexlaw11.awake -/
theorem f25_eq (_u : Unit := ()) (H : Heap) (Q : Post) : E 25 [] H Q =
 ob (bldA [(0, 1, (I 1)), (1, 1, (I 1))] [(I 0), (I 0), (S ⟨#[]⟩)]) fun r1 =>
 ob (bldA [(0, 1, (I 1)), (1, 3, r1)] [(I 0), (I 0), (I 0), (S ⟨#[]⟩), (S ⟨#[]⟩), (S ⟨#[]⟩), (AV.sl 0 true .full [])]) fun r2 =>
 E 19 [(AV.sl 0 true .full []), (AV.sl 0 true .full []), (AV.sl 0 true .full [])] H fun r3 H4 =>
 E 23 [r2, r3] H4 fun r5 H6 =>
 Q r5 H6 :=
  Ev_eq.trans (by kernel_rfl)
/-! ### 26 haruspex/haruspexlaw11.book -/
theorem f26_eq (_u : Unit := ()) (H : Heap) (Q : Post) : E 26 [] H Q =
 ob (bldA [(0, 1, (S ⟨#[120]⟩)), (1, 1, (I 2))] [(S ⟨#[]⟩), (I 0)]) fun r1 =>
 ob (bldA [(0, 1, (S ⟨#[107]⟩)), (1, 1, (I 3))] [(S ⟨#[]⟩), (I 0)]) fun r2 =>
 ob (bldA [(0, 1, (S ⟨#[98]⟩)), (1, 1, (I 1))] [(S ⟨#[]⟩), (I 0)]) fun r3 =>
 ob (mkSlA 2 [r1, r2, r3]) fun r4 =>
 ob (bldA [(0, 1, (S ⟨#[98, 117, 121]⟩)), (1, 1, r4)] [(S ⟨#[]⟩), (AV.sl 0 true .full [])]) fun r5 =>
 ob (mkSlA 2 [r5]) fun r6 =>
 Q r6 H :=
  Ev_eq.trans (by kernel_rfl)
/-! ### 27 (*haruspex/typing.Names).none -/
def f27_j4 (x2 : AV) (H : Heap) (Q : Post) : Prop := AtJ Pg Hs 27 [1, 1] Q [(2, .val x2)] H
theorem f27_j4_eq (x2 : AV) (H : Heap) (Q : Post) : f27_j4 x2 H Q =
 Q x2 H :=
  (AtJ_eq Pg Hs 27 [1, 1] Q _ H).trans (by kernel_rfl)
theorem f27_eq (a0 : AV) (H : Heap) (Q : Post) : E 27 [a0] H Q =
 ob (binA Pg .eql 27 true a0 (AV.raw (.pointer none))) fun r1 =>
 cndA r1
 (f27_j4 (B true) H Q)
 (ob (nilA a0) fun r2 =>
 ob (addPA r2 3) fun r3 =>
 ob (ldH H false 1 r3) fun r4 =>
 ob (unA .not r4) fun r5 =>
 f27_j4 r5 H Q) :=
  Ev_eq.trans (by kernel_rfl)
/-! ### 28 haruspex/expr.Check -/
noncomputable def f28_L8 (y3 : AV) (y4 : AV) : LoopInfo := loopF Pg Hs 28 [1, 1, 0, 1, 0] 8 [(3, .val y3), (4, .val y4)]
def f28_j14 (x3 : AV) (x4 : AV) (H : Heap) (Q : Post) : Prop := AtJ Pg Hs 28 [1, 1, 1] Q [(3, .val x3), (4, .val x4)] H
theorem f28_j14_eq (x3 : AV) (x4 : AV) (H : Heap) (Q : Post) : f28_j14 x3 x4 H Q =
 ob (ldH H false 1 x3) fun r16 =>
 ob (binA Pg .gtr 3 true r16 (I 100)) fun r17 =>
 cndA r17
 (Q (I 2) H)
 (ob (ldH H false 1 x4) fun r18 =>
 ob (unA .not r18) fun r19 =>
 cndA r19
 (Q (I 1) H)
 (Q (I 0) H)) :=
  (AtJ_eq Pg Hs 28 [1, 1, 1] Q _ H).trans (by kernel_rfl)
theorem f28_y8_eq (y3 : AV) (y4 : AV) (l : Nat) (a0 a1 : AV) (H : Heap) (Q : Post) : EY Pg Hs (f28_L8 y3 y4) l [a0, a1] H Q =
 ob (sizedA 7 a1) fun b20 =>
 ob (spliceA 0 b20 [(I 0), (I 0), (I 0), (S ⟨#[]⟩), (S ⟨#[]⟩), (S ⟨#[]⟩), (AV.sl 0 true .full [])]) fun b21 =>
 beginA l H fun H22 =>
 ob (ldH H22 false 1 y3) fun r23 =>
 ob (binA Pg .add 3 true r23 (I 1)) fun r24 =>
 ob (stH H22 1 y3 r24) fun H25 =>
 ob (ldH H25 false 1 y4) fun r26 =>
 cndA r26
 (ob (partA true 0 7 b21) fun r27 =>
 E 49 [r27] H25 fun r28 H29 =>
 ob (stH H29 1 y4 r28) fun H30 =>
 endA l H30 true .ready Q)
 (ob (stH H25 1 y4 (B false)) fun H31 =>
 endA l H31 true .ready Q) := by kernel_rfl
theorem f28_eq (a0 : AV) (H : Heap) (Q : Post) : E 28 [a0] H Q =
 ob (sizedA 7 a0) fun b1 =>
 newH H [(I 0)] fun r2 H3 =>
 newH H3 [(B false)] fun r4 H5 =>
 ob (stH H5 1 r2 (I 0)) fun H6 =>
 ob (stH H6 1 r4 (B true)) fun H7 =>
 ob (partA true 0 7 b1) fun r8 =>
 E 48 [r8] H7 fun r9 H10 =>
 aroundA none H10 ∧ rngF (Ev Pg Hs) r9 (f28_L8 r2 r4) H10 fun l11 H12 =>
 overA l11 H12 (fun H13 =>
 f28_j14 r2 r4 H13 Q) (fun j H14 =>
 exA j 0 (f28_j14 r2 r4 H14 Q) (False)) (fun H15 =>
 Q (I 0) H15) :=
  Ev_eq.trans (by kernel_rfl)
/-! ### 29 (*haruspex/typing.Names).kind -/
def f29_l25 (x0 : AV) (x3 : List AV) (x6 : AV) (x30 : AV) (x31 : AV) (x32 : AV) (H : Heap) (Q : Post) : Prop := AtF Pg Hs 29 [1, 1, 1, 0, 1, 0] Q [(0, .val x0), (3, .lbox x3), (6, .val x6), (30, .val x30), (31, .val x31), (32, .val x32)] H
theorem f29_l25_eq (x0 : AV) (x3 : List AV) (x6 : AV) (x30 : AV) (x31 : AV) (x32 : AV) (H : Heap) (Q : Post) : f29_l25 x0 x3 x6 x30 x31 x32 H Q =
 ob (binA Pg .lss 3 false x32 x31) fun r14 =>
 cndA r14
 (ob (ixaA 7 x30 x32) fun c15 =>
 ob (partA true 0 7 c15) fun r16 =>
 ob (sizedA 7 r16) fun b17 =>
 ob (spliceA 0 b17 [(I 0), (I 0), (I 0), (S ⟨#[]⟩), (S ⟨#[]⟩), (S ⟨#[]⟩), (AV.sl 0 true .full [])]) fun b18 =>
 ob (partA true 0 7 b18) fun r19 =>
 E 29 [x0, r19] H fun r20 H21 =>
 ob (extractA r20 0) fun r22 =>
 ob (extractA r20 1) fun r23 =>
 ob (binA Pg .neq 73 true r23 (AV.raw .nilIface)) fun r24 =>
 cndA r24
 (Q (AV.tup [(I 0), r23]) H21)
 (ob (mkSlA 1 [r22]) fun r25 =>
 appA 1 8 x6 r25 H21 fun r26 H27 =>
 ob (binA Pg .add 3 true x32 (I 1)) fun r28 =>
 f29_l25 x0 x3 r26 x30 x31 r28 H27 Q))
 (ob (partA false 0 1 x3) fun r29 =>
 E 51 [r29] H fun r30 H31 =>
 ob (sizedA 2 r30) fun b32 =>
 ob (spliceA 0 b32 [(AV.raw .nilFunc), (I 0)]) fun b33 =>
 ob (partA false 0 1 b33) fun r34 =>
 callA (Ev Pg Hs) r34 [x6] H31 fun r35 H36 =>
 ob (unA .not r35) fun r37 =>
 cndA r37
 (E 52 [] H36 fun r38 H39 =>
 Q (AV.tup [(I 0), r38]) H39)
 (ob (partA false 1 1 b33) fun r40 =>
 Q (AV.tup [r40, (AV.raw .nilIface)]) H36)) :=
  (AtF_eq Pg Hs 29 [1, 1, 1, 0, 1, 0] Q _ H).trans (by kernel_rfl)
theorem f29_eq (a0 a1 : AV) (H : Heap) (Q : Post) : E 29 [a0, a1] H Q =
 ob (sizedA 7 a1) fun b1 =>
 ob (partA false 0 1 b1) fun r2 =>
 ob (binA Pg .eql 3 true r2 (I 1)) fun r3 =>
 cndA r3
 (ob (partA false 1 1 b1) fun r4 =>
 Q (AV.tup [r4, (AV.raw .nilIface)]) H)
 (ob (binA Pg .eql 3 true r2 (I 2)) fun r5 =>
 cndA r5
 (ob (partA false 4 1 b1) fun r6 =>
 ob (partA false 5 1 b1) fun r7 =>
 E 50 [a0, r6, r7] H fun r8 H9 =>
 ob (extractA r8 0) fun r10 =>
 ob (extractA r8 1) fun r11 =>
 Q (AV.tup [r10, r11]) H9)
 (ob (partA false 6 1 b1) fun r12 =>
 ob (lenA r12) fun r13 =>
 f29_l25 a0 b1 (AV.sl 0 true .full []) r12 r13 (I 0) H Q)) :=
  Ev_eq.trans (by kernel_rfl)
/-! ### 30 haruspex/typing.number -/
theorem f30_eq (a0 : AV) (H : Heap) (Q : Post) : E 30 [a0] H Q =
 ob (binA Pg .eql 73 true a0 (AV.raw .nilIface)) fun r1 =>
 cndA r1
 (Q (I 0) H)
 (E 53 [a0, (AV.iface 100 (I 6))] H fun r2 H3 =>
 cndA r2
 (Q (I 6) H3)
 (Q (I 5) H3)) :=
  Ev_eq.trans (by kernel_rfl)
/-! ### 31 slices.Index[[]string,string] -/
def f31_l6 (x0 : AV) (x1 : AV) (x7 : AV) (x8 : AV) (H : Heap) (Q : Post) : Prop := AtF Pg Hs 31 [1, 0, 1, 0] Q [(0, .val x0), (1, .val x1), (7, .val x7), (8, .val x8)] H
theorem f31_l6_eq (x0 : AV) (x1 : AV) (x7 : AV) (x8 : AV) (H : Heap) (Q : Post) : f31_l6 x0 x1 x7 x8 H Q =
 ob (binA Pg .lss 3 false x8 x7) fun r2 =>
 cndA r2
 (ob (ixaA 1 x0 x8) fun c3 =>
 ob (partA false 0 1 c3) fun r4 =>
 ob (binA Pg .eql 9 false x1 r4) fun r5 =>
 cndA r5
 (Q x8 H)
 (ob (binA Pg .add 3 true x8 (I 1)) fun r6 =>
 f31_l6 x0 x1 x7 r6 H Q))
 (Q (I (-1)) H) :=
  (AtF_eq Pg Hs 31 [1, 0, 1, 0] Q _ H).trans (by kernel_rfl)
theorem f31_eq (a0 a1 : AV) (H : Heap) (Q : Post) : E 31 [a0, a1] H Q =
 ob (lenA a0) fun r1 =>
 f31_l6 a0 a1 r1 (I 0) H Q :=
  Ev_eq.trans (by kernel_rfl)
/-! ### 32 haruspex/schema.Book -/
def f32_l14 (x0 : AV) (x12 : AV) (x13 : AV) (x14 : AV) (H : Heap) (Q : Post) : Prop := AtF Pg Hs 32 [1, 1, 0, 1, 0] Q [(0, .val x0), (12, .val x12), (13, .val x13), (14, .val x14)] H
def f32_l41 (x6 : AV) (x25 : AV) (x26 : AV) (x27 : AV) (H : Heap) (Q : Post) : Prop := AtF Pg Hs 32 [1, 1, 1, 1, 0, 1, 0] Q [(6, .val x6), (25, .val x25), (26, .val x26), (27, .val x27)] H
theorem f32_l14_eq (x0 : AV) (x12 : AV) (x13 : AV) (x14 : AV) (H : Heap) (Q : Post) : f32_l14 x0 x12 x13 x14 H Q =
 ob (binA Pg .lss 3 false x14 x13) fun r4 =>
 cndA r4
 (ob (ixaA 2 x12 x14) fun c5 =>
 ob (partA true 0 2 c5) fun r6 =>
 ob (sizedA 2 r6) fun b7 =>
 ob (spliceA 0 b7 [(S ⟨#[]⟩), (AV.sl 0 true .full [])]) fun b8 =>
 ob (partA true 0 2 b8) fun r9 =>
 E 54 [r9] H fun r10 H11 =>
 ob (binA Pg .neq 32 true r10 (I 0)) fun r12 =>
 cndA r12
 (Q r10 H11)
 (ob (binA Pg .add 3 true x14 (I 1)) fun r13 =>
 f32_l14 x0 x12 x13 r13 H11 Q))
 (mkMapA H fun r14 H15 =>
 ob (lenA x0) fun r16 =>
 f32_l41 r14 x0 r16 (I 0) H15 Q) :=
  (AtF_eq Pg Hs 32 [1, 1, 0, 1, 0] Q _ H).trans (by kernel_rfl)
theorem f32_l41_eq (x6 : AV) (x25 : AV) (x26 : AV) (x27 : AV) (H : Heap) (Q : Post) : f32_l41 x6 x25 x26 x27 H Q =
 ob (binA Pg .lss 3 false x27 x26) fun r17 =>
 cndA r17
 (ob (ixaA 2 x25 x27) fun c18 =>
 ob (partA true 0 2 c18) fun r19 =>
 ob (sizedA 2 r19) fun b20 =>
 ob (spliceA 0 b20 [(S ⟨#[]⟩), (AV.sl 0 true .full [])]) fun b21 =>
 ob (partA false 0 1 b21) fun r22 =>
 E 55 [x6, r22] H fun r23 H24 =>
 cndA r23
 (Q (I 4) H24)
 (ob (binA Pg .add 3 true x27 (I 1)) fun r25 =>
 f32_l41 x6 x25 x26 r25 H24 Q))
 (Q (I 0) H) :=
  (AtF_eq Pg Hs 32 [1, 1, 1, 1, 0, 1, 0] Q _ H).trans (by kernel_rfl)
theorem f32_eq (a0 : AV) (H : Heap) (Q : Post) : E 32 [a0] H Q =
 ob (lenA a0) fun r1 =>
 ob (binA Pg .gtr 3 true r1 (I 16)) fun r2 =>
 cndA r2
 (Q (I 2) H)
 (ob (lenA a0) fun r3 =>
 f32_l14 a0 a0 r3 (I 0) H Q) :=
  Ev_eq.trans (by kernel_rfl)
/-! ### 33 haruspex/schema.Find -/
theorem f33_eq (a0 a1 : AV) (H : Heap) (Q : Post) : E 33 [a0, a1] H Q =
 ob (sizedA 1 a1) fun b1 =>
 newH H b1 fun r2 H3 =>
 E 56 [a0, (AV.fn (.func 57) [] [r2])] H3 fun r4 H5 =>
 ob (max2A r4 (I 0)) fun r6 =>
 ob (binA Pg .geq 3 true r4 (I 0)) fun r7 =>
 Q (AV.tup [r6, r7]) H5 :=
  Ev_eq.trans (by kernel_rfl)
/-! ### 34 slices.Clone[[]haruspex/api.Schema,haruspex/api.Schema] -/
theorem f34_eq (a0 : AV) (H : Heap) (Q : Post) : E 34 [a0] H Q =
 ob (binA Pg .eql 28 true a0 (AV.sl 0 true .full [])) fun r1 =>
 cndA r1
 (Q (AV.sl 0 true .full []) H)
 (ob (mkSlA 2 []) fun r2 =>
 appA 2 40 r2 a0 H fun r3 H4 =>
 Q r3 H4) :=
  Ev_eq.trans (by kernel_rfl)
/-! ### 35 slices.Clone[[]string,string] -/
theorem f35_eq (a0 : AV) (H : Heap) (Q : Post) : E 35 [a0] H Q =
 ob (binA Pg .eql 29 true a0 (AV.sl 0 true .full [])) fun r1 =>
 cndA r1
 (Q (AV.sl 0 true .full []) H)
 (ob (mkSlA 1 []) fun r2 =>
 appA 1 16 r2 a0 H fun r3 H4 =>
 Q r3 H4) :=
  Ev_eq.trans (by kernel_rfl)
/-! ### 36 haruspex/haruspexref07.Book -/
def f36_l14 (x0 : AV) (x3 : AV) (H : Heap) (Q : Post) : Prop := AtF Pg Hs 36 [1, 1, 0, 1, 0] Q [(0, .val x0), (3, .val x3)] H
def f36_l37 (x0 : AV) (x5 : AV) (H : Heap) (Q : Post) : Prop := AtF Pg Hs 36 [1, 1, 1, 0, 1, 0] Q [(0, .val x0), (5, .val x5)] H
def f36_l49 (x0 : AV) (x5 : AV) (x6 : AV) (H : Heap) (Q : Post) : Prop := AtF Pg Hs 36 [1, 1, 1, 0, 1, 0, 0, 1, 0, 0, 1, 0] Q [(0, .val x0), (5, .val x5), (6, .val x6)] H
theorem f36_l14_eq (x0 : AV) (x3 : AV) (H : Heap) (Q : Post) : f36_l14 x0 x3 H Q =
 ob (lenA x0) fun r3 =>
 ob (binA Pg .lss 3 false x3 r3) fun r4 =>
 cndA r4
 (ob (ixaA 2 x0 x3) fun c5 =>
 ob (partA true 0 2 c5) fun r6 =>
 E 58 [r6] H fun r7 H8 =>
 ob (binA Pg .neq 3 true r7 (I 0)) fun r9 =>
 cndA r9
 (Q r7 H8)
 (ob (binA Pg .add 3 true x3 (I 1)) fun r10 =>
 f36_l14 x0 r10 H8 Q))
 (f36_l37 x0 (I 0) H Q) :=
  (AtF_eq Pg Hs 36 [1, 1, 0, 1, 0] Q _ H).trans (by kernel_rfl)
theorem f36_l37_eq (x0 : AV) (x5 : AV) (H : Heap) (Q : Post) : f36_l37 x0 x5 H Q =
 ob (lenA x0) fun r11 =>
 ob (binA Pg .lss 3 false x5 r11) fun r12 =>
 cndA r12
 (f36_l49 x0 x5 (I 0) H Q)
 (Q (I 0) H) :=
  (AtF_eq Pg Hs 36 [1, 1, 1, 0, 1, 0] Q _ H).trans (by kernel_rfl)
theorem f36_l49_eq (x0 : AV) (x5 : AV) (x6 : AV) (H : Heap) (Q : Post) : f36_l49 x0 x5 x6 H Q =
 ob (binA Pg .lss 3 false x6 x5) fun r13 =>
 cndA r13
 (ob (ixaA 2 x0 x6) fun c14 =>
 ob (partA false 0 1 (c14.drop 0)) fun r15 =>
 ob (ixaA 2 x0 x5) fun c16 =>
 ob (partA false 0 1 (c16.drop 0)) fun r17 =>
 ob (binA Pg .eql 9 false r15 r17) fun r18 =>
 cndA r18
 (Q (I 4) H)
 (ob (binA Pg .add 3 true x6 (I 1)) fun r19 =>
 f36_l49 x0 x5 r19 H Q))
 (ob (binA Pg .add 3 true x5 (I 1)) fun r20 =>
 f36_l37 x0 r20 H Q) :=
  (AtF_eq Pg Hs 36 [1, 1, 1, 0, 1, 0, 0, 1, 0, 0, 1, 0] Q _ H).trans (by kernel_rfl)
theorem f36_eq (a0 : AV) (H : Heap) (Q : Post) : E 36 [a0] H Q =
 ob (lenA a0) fun r1 =>
 ob (binA Pg .gtr 3 true r1 (I 16)) fun r2 =>
 cndA r2
 (Q (I 2) H)
 (f36_l14 a0 (I 0) H Q) :=
  Ev_eq.trans (by kernel_rfl)
/-! ### 37 haruspex/haruspexref07.Find -/
def f37_l6 (x0 : AV) (x1 : AV) (x6 : AV) (H : Heap) (Q : Post) : Prop := AtF Pg Hs 37 [1, 0, 1, 0] Q [(0, .val x0), (1, .val x1), (6, .val x6)] H
theorem f37_l6_eq (x0 : AV) (x1 : AV) (x6 : AV) (H : Heap) (Q : Post) : f37_l6 x0 x1 x6 H Q =
 ob (lenA x0) fun r1 =>
 ob (binA Pg .lss 3 false x6 r1) fun r2 =>
 cndA r2
 (ob (ixaA 2 x0 x6) fun c3 =>
 ob (partA false 0 1 (c3.drop 0)) fun r4 =>
 ob (binA Pg .eql 9 false r4 x1) fun r5 =>
 cndA r5
 (Q (AV.tup [x6, (B true)]) H)
 (ob (binA Pg .add 3 true x6 (I 1)) fun r6 =>
 f37_l6 x0 x1 r6 H Q))
 (Q (AV.tup [(I 0), (B false)]) H) :=
  (AtF_eq Pg Hs 37 [1, 0, 1, 0] Q _ H).trans (by kernel_rfl)
theorem f37_eq (a0 a1 : AV) (H : Heap) (Q : Post) : E 37 [a0, a1] H Q =
 f37_l6 a0 a1 (I 0) H Q :=
  Ev_eq.trans (by kernel_rfl)
/-! ### 38 haruspex/haruspexlaw10.book -/
theorem f38_eq (_u : Unit := ()) (H : Heap) (Q : Post) : E 38 [] H Q =
 ob (bldA [(0, 1, (S ⟨#[120]⟩)), (1, 1, (I 2))] [(S ⟨#[]⟩), (I 0)]) fun r1 =>
 ob (bldA [(0, 1, (S ⟨#[107]⟩)), (1, 1, (I 3))] [(S ⟨#[]⟩), (I 0)]) fun r2 =>
 ob (bldA [(0, 1, (S ⟨#[98]⟩)), (1, 1, (I 1))] [(S ⟨#[]⟩), (I 0)]) fun r3 =>
 ob (mkSlA 2 [r1, r2, r3]) fun r4 =>
 ob (bldA [(0, 1, (S ⟨#[98, 117, 121]⟩)), (1, 1, r4)] [(S ⟨#[]⟩), (AV.sl 0 true .full [])]) fun r5 =>
 ob (mkSlA 2 [r5]) fun r6 =>
 Q r6 H :=
  Ev_eq.trans (by kernel_rfl)
/-! ### 39 haruspex/haruspexref09.Check -/
theorem f39_eq (a0 : AV) (H : Heap) (Q : Post) : E 39 [a0] H Q =
 ob (sizedA 7 a0) fun b1 =>
 ob (partA true 0 7 b1) fun r2 =>
 E 59 [r2] H fun r3 H4 =>
 ob (binA Pg .gtr 3 true r3 (I 100)) fun r5 =>
 cndA r5
 (Q (I 2) H4)
 (ob (partA true 0 7 b1) fun r6 =>
 E 60 [r6] H4 fun r7 H8 =>
 ob (unA .not r7) fun r9 =>
 cndA r9
 (Q (I 1) H8)
 (Q (I 0) H8)) :=
  Ev_eq.trans (by kernel_rfl)
/-! ### 40 (*haruspex/haruspexref10.Names).kind -/
def f40_l8 (x0 : AV) (x3 : List AV) (x6 : AV) (x7 : AV) (H : Heap) (Q : Post) : Prop := AtF Pg Hs 40 [1, 1, 0, 1, 0] Q [(0, .val x0), (3, .lbox x3), (6, .val x6), (7, .val x7)] H
def f40_j49 (x3 : List AV) (x6 : AV) (x11 : AV) (x57 : AV) (H : Heap) (Q : Post) : Prop := AtJ Pg Hs 40 [1, 1, 1, 1, 1, 0, 0, 1, 1, 1, 1, 1] Q [(3, .lbox x3), (6, .val x6), (11, .val x11), (57, .val x57)] H
def f40_j55 (x3 : List AV) (x6 : AV) (x11 : AV) (x68 : AV) (H : Heap) (Q : Post) : Prop := AtJ Pg Hs 40 [1, 1, 1, 1, 1, 0, 0, 1, 1, 1, 1, 1, 1, 1] Q [(3, .lbox x3), (6, .val x6), (11, .val x11), (68, .val x68)] H
def f40_j59 (x6 : AV) (x11 : AV) (x96 : AV) (H : Heap) (Q : Post) : Prop := AtJ Pg Hs 40 [1, 1, 1, 1, 1, 0, 0, 1, 1, 1, 1, 1, 1, 1, 1, 1] Q [(6, .val x6), (11, .val x11), (96, .val x96)] H
theorem f40_l8_eq (x0 : AV) (x3 : List AV) (x6 : AV) (x7 : AV) (H : Heap) (Q : Post) : f40_l8 x0 x3 x6 x7 H Q =
 ob (partA false 6 1 x3) fun r2 =>
 ob (lenA r2) fun r3 =>
 ob (binA Pg .lss 3 false x7 r3) fun r4 =>
 cndA r4
 (ob (partA false 6 1 x3) fun r5 =>
 ob (ixaA 7 r5 x7) fun c6 =>
 ob (partA true 0 7 c6) fun r7 =>
 E 40 [x0, r7] H fun r8 H9 =>
 ob (extractA r8 0) fun r10 =>
 ob (extractA r8 1) fun r11 =>
 ob (binA Pg .neq 3 true r11 (I 0)) fun r12 =>
 cndA r12
 (Q (AV.tup [(I 0), r11]) H9)
 (ob (mkSlA 1 [r10]) fun r13 =>
 appA 1 8 x6 r13 H9 fun r14 H15 =>
 ob (binA Pg .add 3 true x7 (I 1)) fun r16 =>
 f40_l8 x0 x3 r14 r16 H15 Q))
 (ob (partA false 0 1 x3) fun r17 =>
 ob (binA Pg .eql 3 true r17 (I 1)) fun r18 =>
 cndA r18
 (ob (partA false 1 1 x3) fun r19 =>
 Q (AV.tup [r19, (I 0)]) H)
 (ob (partA false 0 1 x3) fun r20 =>
 ob (binA Pg .eql 3 true r20 (I 2)) fun r21 =>
 cndA r21
 (ob (partA false 4 1 x3) fun r22 =>
 ob (partA false 5 1 x3) fun r23 =>
 E 61 [x0, r22, r23] H fun r24 H25 =>
 ob (extractA r24 0) fun r26 =>
 ob (extractA r24 1) fun r27 =>
 Q (AV.tup [r26, r27]) H25)
 (ob (partA false 0 1 x3) fun r28 =>
 ob (binA Pg .geq 3 true r28 (I 3)) fun r29 =>
 cndA r29
 (ob (partA false 0 1 x3) fun r30 =>
 ob (binA Pg .leq 3 true r30 (I 8)) fun r31 =>
 f40_j49 x3 x6 (I 1) r31 H Q)
 (f40_j49 x3 x6 (I 1) (B false) H Q)))) :=
  (AtF_eq Pg Hs 40 [1, 1, 0, 1, 0] Q _ H).trans (by kernel_rfl)
theorem f40_j49_eq (x3 : List AV) (x6 : AV) (x11 : AV) (x57 : AV) (H : Heap) (Q : Post) : f40_j49 x3 x6 x11 x57 H Q =
 cndA x57
 (E 62 [x6, (I 2)] H fun r32 H33 =>
 ob (unA .not r32) fun r34 =>
 cndA r34
 (Q (AV.tup [(I 0), (I 5)]) H33)
 (Q (AV.tup [(I 2), (I 0)]) H33))
 (ob (partA false 0 1 x3) fun r35 =>
 ob (binA Pg .eql 3 true r35 (I 9)) fun r36 =>
 cndA r36
 (f40_j55 x3 x6 x11 (B true) H Q)
 (ob (partA false 0 1 x3) fun r37 =>
 ob (binA Pg .eql 3 true r37 (I 10)) fun r38 =>
 f40_j55 x3 x6 x11 r38 H Q)) :=
  (AtJ_eq Pg Hs 40 [1, 1, 1, 1, 1, 0, 0, 1, 1, 1, 1, 1] Q _ H).trans (by kernel_rfl)
theorem f40_j55_eq (x3 : List AV) (x6 : AV) (x11 : AV) (x68 : AV) (H : Heap) (Q : Post) : f40_j55 x3 x6 x11 x68 H Q =
 cndA x68
 (ob (ixaA 1 x6 (I 0)) fun c39 =>
 ob (partA false 0 1 c39) fun r40 =>
 ob (ixaA 1 x6 (I 1)) fun c41 =>
 ob (partA false 0 1 c41) fun r42 =>
 ob (binA Pg .eql 3 false r40 r42) fun r43 =>
 cndA r43
 (ob (unA .not (B true)) fun r44 =>
 cndA r44
 (Q (AV.tup [(I 0), (I 5)]) H)
 (Q (AV.tup [x11, (I 0)]) H))
 (ob (ixaA 1 x6 (I 0)) fun c45 =>
 ob (partA false 0 1 c45) fun r46 =>
 ob (binA Pg .eql 3 true r46 (I 0)) fun r47 =>
 cndA r47
 (ob (unA .not (B true)) fun r48 =>
 cndA r48
 (Q (AV.tup [(I 0), (I 5)]) H)
 (Q (AV.tup [x11, (I 0)]) H))
 (ob (ixaA 1 x6 (I 1)) fun c49 =>
 ob (partA false 0 1 c49) fun r50 =>
 ob (binA Pg .eql 3 true r50 (I 0)) fun r51 =>
 ob (unA .not r51) fun r52 =>
 cndA r52
 (Q (AV.tup [(I 0), (I 5)]) H)
 (Q (AV.tup [x11, (I 0)]) H))))
 (ob (partA false 0 1 x3) fun r53 =>
 ob (binA Pg .geq 3 true r53 (I 11)) fun r54 =>
 cndA r54
 (ob (partA false 0 1 x3) fun r55 =>
 ob (binA Pg .leq 3 true r55 (I 14)) fun r56 =>
 f40_j59 x6 x11 r56 H Q)
 (f40_j59 x6 x11 (B false) H Q)) :=
  (AtJ_eq Pg Hs 40 [1, 1, 1, 1, 1, 0, 0, 1, 1, 1, 1, 1, 1, 1] Q _ H).trans (by kernel_rfl)
theorem f40_j59_eq (x6 : AV) (x11 : AV) (x96 : AV) (H : Heap) (Q : Post) : f40_j59 x6 x11 x96 H Q =
 cndA x96
 (E 62 [x6, (I 2)] H fun r57 H58 =>
 cndA r57
 (ob (unA .not (B true)) fun r59 =>
 cndA r59
 (Q (AV.tup [(I 0), (I 5)]) H58)
 (Q (AV.tup [x11, (I 0)]) H58))
 (E 62 [x6, (I 3)] H58 fun r60 H61 =>
 ob (unA .not r60) fun r62 =>
 cndA r62
 (Q (AV.tup [(I 0), (I 5)]) H61)
 (Q (AV.tup [x11, (I 0)]) H61)))
 (E 62 [x6, (I 1)] H fun r63 H64 =>
 ob (unA .not r63) fun r65 =>
 cndA r65
 (Q (AV.tup [(I 0), (I 5)]) H64)
 (Q (AV.tup [x11, (I 0)]) H64)) :=
  (AtJ_eq Pg Hs 40 [1, 1, 1, 1, 1, 0, 0, 1, 1, 1, 1, 1, 1, 1, 1, 1] Q _ H).trans (by kernel_rfl)
theorem f40_eq (a0 a1 : AV) (H : Heap) (Q : Post) : E 40 [a0, a1] H Q =
 ob (sizedA 7 a1) fun b1 =>
 f40_l8 a0 b1 (AV.sl 0 true .full []) (I 0) H Q :=
  Ev_eq.trans (by kernel_rfl)
/-! ### 41 slices.Clone[[]haruspex/api.Value,haruspex/api.Value] -/
theorem f41_eq (a0 : AV) (H : Heap) (Q : Post) : E 41 [a0] H Q =
 ob (binA Pg .eql 49 true a0 (AV.sl 0 true .full [])) fun r1 =>
 cndA r1
 (Q (AV.sl 0 true .full []) H)
 (ob (mkSlA 3 []) fun r2 =>
 appA 3 32 r2 a0 H fun r3 H4 =>
 Q r3 H4) :=
  Ev_eq.trans (by kernel_rfl)
/-! ### 42 haruspex/eval.Table$1 -/
def f42_l6 (x0 : AV) (x1 : AV) (x2 : AV) (x3 : AV) (x4 : AV) (x7 : List AV) (x14 : AV) (x15 : AV) (H : Heap) (Q : Post) : Prop := AtF Pg Hs 42 [1, 0, 1, 0] Q [(0, .val x0), (1, .val x1), (2, .val x2), (3, .val x3), (4, .val x4), (7, .lbox x7), (14, .val x14), (15, .val x15)] H
def f42_j20 (x0 : AV) (x1 : AV) (x2 : AV) (x3 : AV) (x4 : AV) (x7 : List AV) (x9 : AV) (x14 : AV) (x15 : AV) (x31 : AV) (H : Heap) (Q : Post) : Prop := AtJ Pg Hs 42 [1, 0, 1, 0, 0, 1, 1, 0, 0, 1, 0, 1] Q [(0, .val x0), (1, .val x1), (2, .val x2), (3, .val x3), (4, .val x4), (7, .lbox x7), (9, .val x9), (14, .val x14), (15, .val x15), (31, .val x31)] H
theorem f42_l6_eq (x0 : AV) (x1 : AV) (x2 : AV) (x3 : AV) (x4 : AV) (x7 : List AV) (x14 : AV) (x15 : AV) (H : Heap) (Q : Post) : f42_l6 x0 x1 x2 x3 x4 x7 x14 x15 H Q =
 ob (binA Pg .lss 3 false x15 x14) fun r6 =>
 cndA r6
 (ob (ldH H false 1 x2) fun r7 =>
 ob (ixaA 1 r7 x15) fun c8 =>
 ob (partA false 0 1 c8) fun r9 =>
 ob (binA Pg .neq 9 false r9 x0) fun r10 =>
 cndA r10
 (f42_j20 x0 x1 x2 x3 x4 x7 x15 x14 x15 (B true) H Q)
 (ob (ldH H false 1 x3) fun r11 =>
 ob (ixaA 1 r11 x15) fun c12 =>
 ob (partA false 0 1 c12) fun r13 =>
 ob (binA Pg .neq 9 false r13 x1) fun r14 =>
 f42_j20 x0 x1 x2 x3 x4 x7 x15 x14 x15 r14 H Q))
 (E 43 [] H fun r15 H16 =>
 ob (sizedA 3 r15) fun b17 =>
 ob (spliceA 0 b17 x7) fun b18 =>
 ob (partA true 0 3 b18) fun r19 =>
 Q (AV.tup [r19, (B false)]) H16) :=
  (AtF_eq Pg Hs 42 [1, 0, 1, 0] Q _ H).trans (by kernel_rfl)
theorem f42_j20_eq (x0 : AV) (x1 : AV) (x2 : AV) (x3 : AV) (x4 : AV) (x7 : List AV) (x9 : AV) (x14 : AV) (x15 : AV) (x31 : AV) (H : Heap) (Q : Post) : f42_j20 x0 x1 x2 x3 x4 x7 x9 x14 x15 x31 H Q =
 cndA x31
 (ob (binA Pg .add 3 true x15 (I 1)) fun r20 =>
 f42_l6 x0 x1 x2 x3 x4 x7 x14 r20 H Q)
 (ob (ldH H false 1 x4) fun r21 =>
 ob (lenA r21) fun r22 =>
 ob (binA Pg .lss 3 false x9 r22) fun r23 =>
 cndA r23
 (ob (ldH H false 1 x4) fun r24 =>
 ob (ixaA 3 r24 x9) fun c25 =>
 ob (partA true 0 3 c25) fun r26 =>
 ob (sizedA 3 r26) fun b27 =>
 ob (spliceA 0 b27 x7) fun b28 =>
 ob (partA true 0 3 b28) fun r29 =>
 Q (AV.tup [r29, (B true)]) H)
 (E 43 [] H fun r30 H31 =>
 ob (sizedA 3 r30) fun b32 =>
 ob (spliceA 0 b32 x7) fun b33 =>
 ob (partA true 0 3 b33) fun r34 =>
 Q (AV.tup [r34, (B false)]) H31)) :=
  (AtJ_eq Pg Hs 42 [1, 0, 1, 0, 0, 1, 1, 0, 0, 1, 0, 1] Q _ H).trans (by kernel_rfl)
theorem f42_eq (a0 a1 a2 a3 a4 : AV) (H : Heap) (Q : Post) : E 42 [a0, a1, a2, a3, a4] H Q =
 ob (ldH H false 1 a2) fun r1 =>
 ob (lenA r1) fun r2 =>
 ob (ldH H false 1 a3) fun r3 =>
 ob (lenA r3) fun r4 =>
 ob (min2A r2 r4) fun r5 =>
 f42_l6 a0 a1 a2 a3 a4 [(I 0), (I 0), (S ⟨#[]⟩)] r5 (I 0) H Q :=
  Ev_eq.trans (by kernel_rfl)
/-! ### 43 haruspex/value.Null -/
theorem f43_eq (_u : Unit := ()) (H : Heap) (Q : Post) : E 43 [] H Q =
 ob (bldA [] [(I 0), (I 0), (S ⟨#[]⟩)]) fun r1 =>
 ob (sizedA 3 r1) fun b2 =>
 ob (spliceA 0 b2 [(I 0), (I 0), (S ⟨#[]⟩)]) fun b3 =>
 ob (partA true 0 3 b3) fun r4 =>
 Q r4 H :=
  Ev_eq.trans (by kernel_rfl)
/-! ### 44 haruspex/eval.say -/
def f44_l8 (x1 : AV) (x2 : List AV) (x4 : List AV) (x6 : AV) (x12 : AV) (x13 : AV) (x14 : AV) (H : Heap) (Q : Post) : Prop := AtF Pg Hs 44 [1, 1, 0, 1, 0] Q [(1, .val x1), (2, .lbox x2), (4, .lbox x4), (6, .val x6), (12, .val x12), (13, .val x13), (14, .val x14)] H
def f44_j62 (x2 : List AV) (x4 : List AV) (x6 : AV) (x34 : AV) (x39 : AV) (H : Heap) (Q : Post) : Prop := AtJ Pg Hs 44 [1, 1, 1, 0, 1, 0, 0, 0, 0, 0, 0, 0, 0, 0, 1, 1, 0, 1] Q [(2, .lbox x2), (4, .lbox x4), (6, .val x6), (34, .val x34), (39, .val x39)] H
theorem f44_l8_eq (x1 : AV) (x2 : List AV) (x4 : List AV) (x6 : AV) (x12 : AV) (x13 : AV) (x14 : AV) (H : Heap) (Q : Post) : f44_l8 x1 x2 x4 x6 x12 x13 x14 H Q =
 ob (binA Pg .lss 3 false x14 x13) fun r4 =>
 cndA r4
 (ob (ixaA 7 x12 x14) fun c5 =>
 ob (partA true 0 7 c5) fun r6 =>
 ob (sizedA 7 r6) fun b7 =>
 ob (spliceA 0 b7 [(I 0), (I 0), (I 0), (S ⟨#[]⟩), (S ⟨#[]⟩), (S ⟨#[]⟩), (AV.sl 0 true .full [])]) fun b8 =>
 ob (partA true 0 7 b8) fun r9 =>
 E 44 [r9, x1] H fun r10 H11 =>
 ob (extractA r10 0) fun r12 =>
 ob (extractA r10 1) fun r13 =>
 ob (sizedA 3 r12) fun b14 =>
 ob (spliceA 0 b14 [(I 0), (I 0), (S ⟨#[]⟩)]) fun b15 =>
 ob (binA Pg .neq 32 true r13 (I 0)) fun r16 =>
 cndA r16
 (E 43 [] H11 fun r17 H18 =>
 ob (sizedA 3 r17) fun b19 =>
 ob (spliceA 0 b19 x4) fun b20 =>
 ob (partA true 0 3 b20) fun r21 =>
 Q (AV.tup [r21, r13]) H18)
 (ob (partA true 0 3 b15) fun r22 =>
 ob (mkSlA 3 [r22]) fun r23 =>
 appA 3 32 x6 r23 H11 fun r24 H25 =>
 ob (binA Pg .add 3 true x14 (I 1)) fun r26 =>
 f44_l8 x1 x2 x4 r24 x12 x13 r26 H25 Q))
 (ob (partA false 0 1 x2) fun r27 =>
 ob (binA Pg .eql 3 true r27 (I 1)) fun r28 =>
 cndA r28
 (ob (partA true 1 3 x2) fun r29 =>
 ob (sizedA 3 r29) fun b30 =>
 ob (spliceA 0 b30 x4) fun b31 =>
 ob (partA true 0 3 b31) fun r32 =>
 Q (AV.tup [r32, (I 0)]) H)
 (ob (binA Pg .eql 3 true r27 (I 2)) fun r33 =>
 cndA r33
 (ob (partA true 0 7 x2) fun r34 =>
 E 63 [r34, x1] H fun r35 H36 =>
 ob (extractA r35 0) fun r37 =>
 ob (extractA r35 1) fun r38 =>
 ob (sizedA 3 r37) fun b39 =>
 ob (spliceA 0 b39 x4) fun b40 =>
 ob (partA true 0 3 b40) fun r41 =>
 Q (AV.tup [r41, r38]) H36)
 (ob (binA Pg .eql 3 true r27 (I 15)) fun r42 =>
 cndA r42
 (f44_j62 x2 x4 x6 r27 r42 H Q)
 (ob (binA Pg .eql 3 true r27 (I 16)) fun r43 =>
 f44_j62 x2 x4 x6 r27 r43 H Q)))) :=
  (AtF_eq Pg Hs 44 [1, 1, 0, 1, 0] Q _ H).trans (by kernel_rfl)
theorem f44_j62_eq (x2 : List AV) (x4 : List AV) (x6 : AV) (x34 : AV) (x39 : AV) (H : Heap) (Q : Post) : f44_j62 x2 x4 x6 x34 x39 H Q =
 cndA x39
 (ob (partA false 0 1 x2) fun r44 =>
 E 64 [r44, x6] H fun r45 H46 =>
 ob (extractA r45 0) fun r47 =>
 ob (extractA r45 1) fun r48 =>
 ob (sizedA 3 r47) fun b49 =>
 ob (spliceA 0 b49 x4) fun b50 =>
 ob (partA true 0 3 b50) fun r51 =>
 Q (AV.tup [r51, r48]) H46)
 (ob (binA Pg .eql 3 true x34 (I 17)) fun r52 =>
 cndA r52
 (ob (partA false 0 1 x2) fun r53 =>
 E 64 [r53, x6] H fun r54 H55 =>
 ob (extractA r54 0) fun r56 =>
 ob (extractA r54 1) fun r57 =>
 ob (sizedA 3 r56) fun b58 =>
 ob (spliceA 0 b58 x4) fun b59 =>
 ob (partA true 0 3 b59) fun r60 =>
 Q (AV.tup [r60, r57]) H55)
 (ob (partA false 0 1 x2) fun r61 =>
 ob (binA Pg .leq 3 true r61 (I 8)) fun r62 =>
 cndA r62
 (ob (partA false 0 1 x2) fun r63 =>
 E 65 [r63, x6] H fun r64 H65 =>
 ob (extractA r64 0) fun r66 =>
 ob (extractA r64 1) fun r67 =>
 ob (sizedA 3 r66) fun b68 =>
 ob (spliceA 0 b68 x4) fun b69 =>
 ob (partA true 0 3 b69) fun r70 =>
 Q (AV.tup [r70, r67]) H65)
 (ob (partA false 0 1 x2) fun r71 =>
 ob (ixaA 3 x6 (I 0)) fun c72 =>
 ob (partA true 0 3 c72) fun r73 =>
 ob (ixaA 3 x6 (I 1)) fun c74 =>
 ob (partA true 0 3 c74) fun r75 =>
 E 66 [r71, r73, r75] H fun r76 H77 =>
 ob (extractA r76 0) fun r78 =>
 ob (extractA r76 1) fun r79 =>
 ob (sizedA 3 r78) fun b80 =>
 ob (spliceA 0 b80 x4) fun b81 =>
 ob (partA true 0 3 b81) fun r82 =>
 Q (AV.tup [r82, r79]) H77))) :=
  (AtJ_eq Pg Hs 44 [1, 1, 1, 0, 1, 0, 0, 0, 0, 0, 0, 0, 0, 0, 1, 1, 0, 1] Q _ H).trans (by kernel_rfl)
theorem f44_eq (a0 a1 : AV) (H : Heap) (Q : Post) : E 44 [a0, a1] H Q =
 ob (sizedA 7 a0) fun b1 =>
 ob (partA false 6 1 b1) fun r2 =>
 ob (lenA r2) fun r3 =>
 f44_l8 a1 b1 [(I 0), (I 0), (S ⟨#[]⟩)] (AV.sl 0 true .full []) r2 r3 (I 0) H Q :=
  Ev_eq.trans (by kernel_rfl)
/-! ### 45 haruspex/haruspexref11.say -/
def f45_l8 (x2 : List AV) (x3 : List AV) (x4 : List AV) (x6 : AV) (x7 : AV) (H : Heap) (Q : Post) : Prop := AtF Pg Hs 45 [1, 1, 0, 1, 0] Q [(2, .lbox x2), (3, .lbox x3), (4, .lbox x4), (6, .val x6), (7, .val x7)] H
def f45_j62 (x2 : List AV) (x4 : List AV) (x6 : AV) (x70 : AV) (H : Heap) (Q : Post) : Prop := AtJ Pg Hs 45 [1, 1, 1, 0, 1, 1, 1, 1, 1] Q [(2, .lbox x2), (4, .lbox x4), (6, .val x6), (70, .val x70)] H
def f45_j68 (x2 : List AV) (x4 : List AV) (x6 : AV) (x85 : AV) (H : Heap) (Q : Post) : Prop := AtJ Pg Hs 45 [1, 1, 1, 0, 1, 1, 1, 1, 1, 1, 1] Q [(2, .lbox x2), (4, .lbox x4), (6, .val x6), (85, .val x85)] H
theorem f45_l8_eq (x2 : List AV) (x3 : List AV) (x4 : List AV) (x6 : AV) (x7 : AV) (H : Heap) (Q : Post) : f45_l8 x2 x3 x4 x6 x7 H Q =
 ob (partA false 6 1 x2) fun r3 =>
 ob (lenA r3) fun r4 =>
 ob (binA Pg .lss 3 false x7 r4) fun r5 =>
 cndA r5
 (ob (partA false 6 1 x2) fun r6 =>
 ob (ixaA 7 r6 x7) fun c7 =>
 ob (partA true 0 7 c7) fun r8 =>
 ob (partA true 0 3 x3) fun r9 =>
 E 45 [r8, r9] H fun r10 H11 =>
 ob (extractA r10 0) fun r12 =>
 ob (extractA r10 1) fun r13 =>
 ob (sizedA 3 r12) fun b14 =>
 ob (spliceA 0 b14 [(I 0), (I 0), (S ⟨#[]⟩)]) fun b15 =>
 ob (binA Pg .neq 3 true r13 (I 0)) fun r16 =>
 cndA r16
 (ob (bldA [] [(I 0), (I 0), (S ⟨#[]⟩)]) fun r17 =>
 ob (sizedA 3 r17) fun b18 =>
 ob (spliceA 0 b18 x4) fun b19 =>
 ob (partA true 0 3 b19) fun r20 =>
 Q (AV.tup [r20, r13]) H11)
 (ob (partA true 0 3 b15) fun r21 =>
 ob (mkSlA 3 [r21]) fun r22 =>
 appA 3 32 x6 r22 H11 fun r23 H24 =>
 ob (binA Pg .add 3 true x7 (I 1)) fun r25 =>
 f45_l8 x2 x3 x4 r23 r25 H24 Q))
 (ob (partA false 0 1 x2) fun r26 =>
 ob (binA Pg .eql 3 true r26 (I 1)) fun r27 =>
 cndA r27
 (ob (partA true 1 3 x2) fun r28 =>
 ob (sizedA 3 r28) fun b29 =>
 ob (spliceA 0 b29 x4) fun b30 =>
 ob (partA true 0 3 b30) fun r31 =>
 Q (AV.tup [r31, (I 0)]) H)
 (ob (partA false 0 1 x2) fun r32 =>
 ob (binA Pg .eql 3 true r32 (I 2)) fun r33 =>
 cndA r33
 (ob (partA true 0 3 x3) fun r34 =>
 ob (partA false 4 1 x2) fun r35 =>
 ob (partA false 5 1 x2) fun r36 =>
 E 22 [r34, r35, r36] H fun r37 H38 =>
 ob (extractA r37 0) fun r39 =>
 ob (extractA r37 1) fun r40 =>
 ob (sizedA 3 r39) fun b41 =>
 ob (spliceA 0 b41 [(I 0), (I 0), (S ⟨#[]⟩)]) fun b42 =>
 ob (unA .not r40) fun r43 =>
 cndA r43
 (ob (bldA [] [(I 0), (I 0), (S ⟨#[]⟩)]) fun r44 =>
 ob (sizedA 3 r44) fun b45 =>
 ob (spliceA 0 b45 x4) fun b46 =>
 ob (partA true 0 3 b46) fun r47 =>
 Q (AV.tup [r47, (I 6)]) H38)
 (ob (partA true 0 3 b42) fun r48 =>
 E 67 [r48] H38 fun r49 H50 =>
 ob (unA .not r49) fun r51 =>
 cndA r51
 (ob (bldA [] [(I 0), (I 0), (S ⟨#[]⟩)]) fun r52 =>
 ob (sizedA 3 r52) fun b53 =>
 ob (spliceA 0 b53 x4) fun b54 =>
 ob (partA true 0 3 b54) fun r55 =>
 Q (AV.tup [r55, (I 1)]) H50)
 (ob (partA true 0 3 b42) fun r56 =>
 ob (sizedA 3 r56) fun b57 =>
 ob (spliceA 0 b57 x4) fun b58 =>
 ob (partA true 0 3 b58) fun r59 =>
 Q (AV.tup [r59, (I 0)]) H50)))
 (ob (partA false 0 1 x2) fun r60 =>
 ob (binA Pg .geq 3 true r60 (I 3)) fun r61 =>
 cndA r61
 (ob (partA false 0 1 x2) fun r62 =>
 ob (binA Pg .leq 3 true r62 (I 8)) fun r63 =>
 f45_j62 x2 x4 x6 r63 H Q)
 (f45_j62 x2 x4 x6 (B false) H Q)))) :=
  (AtF_eq Pg Hs 45 [1, 1, 0, 1, 0] Q _ H).trans (by kernel_rfl)
theorem f45_j62_eq (x2 : List AV) (x4 : List AV) (x6 : AV) (x70 : AV) (H : Heap) (Q : Post) : f45_j62 x2 x4 x6 x70 H Q =
 cndA x70
 (ob (partA false 0 1 x2) fun r64 =>
 E 68 [r64, x6] H fun r65 H66 =>
 ob (extractA r65 0) fun r67 =>
 ob (extractA r65 1) fun r68 =>
 ob (sizedA 3 r67) fun b69 =>
 ob (spliceA 0 b69 x4) fun b70 =>
 ob (partA true 0 3 b70) fun r71 =>
 Q (AV.tup [r71, r68]) H66)
 (ob (partA false 0 1 x2) fun r72 =>
 ob (binA Pg .geq 3 true r72 (I 9)) fun r73 =>
 cndA r73
 (ob (partA false 0 1 x2) fun r74 =>
 ob (binA Pg .leq 3 true r74 (I 14)) fun r75 =>
 f45_j68 x2 x4 x6 r75 H Q)
 (f45_j68 x2 x4 x6 (B false) H Q)) :=
  (AtJ_eq Pg Hs 45 [1, 1, 1, 0, 1, 1, 1, 1, 1] Q _ H).trans (by kernel_rfl)
theorem f45_j68_eq (x2 : List AV) (x4 : List AV) (x6 : AV) (x85 : AV) (H : Heap) (Q : Post) : f45_j68 x2 x4 x6 x85 H Q =
 cndA x85
 (ob (partA false 0 1 x2) fun r76 =>
 ob (ixaA 3 x6 (I 0)) fun c77 =>
 ob (partA true 0 3 c77) fun r78 =>
 ob (ixaA 3 x6 (I 1)) fun c79 =>
 ob (partA true 0 3 c79) fun r80 =>
 E 69 [r76, r78, r80] H fun r81 H82 =>
 ob (extractA r81 0) fun r83 =>
 ob (extractA r81 1) fun r84 =>
 ob (sizedA 3 r83) fun b85 =>
 ob (spliceA 0 b85 x4) fun b86 =>
 ob (partA true 0 3 b86) fun r87 =>
 Q (AV.tup [r87, r84]) H82)
 (ob (partA false 0 1 x2) fun r88 =>
 E 70 [r88, x6] H fun r89 H90 =>
 ob (extractA r89 0) fun r91 =>
 ob (extractA r89 1) fun r92 =>
 ob (sizedA 3 r91) fun b93 =>
 ob (spliceA 0 b93 x4) fun b94 =>
 ob (partA true 0 3 b94) fun r95 =>
 Q (AV.tup [r95, r92]) H90) :=
  (AtJ_eq Pg Hs 45 [1, 1, 1, 0, 1, 1, 1, 1, 1, 1, 1] Q _ H).trans (by kernel_rfl)
theorem f45_eq (a0 a1 : AV) (H : Heap) (Q : Post) : E 45 [a0, a1] H Q =
 ob (sizedA 7 a0) fun b1 =>
 ob (sizedA 3 a1) fun b2 =>
 f45_l8 b1 b2 [(I 0), (I 0), (S ⟨#[]⟩)] (AV.sl 0 true .full []) (I 0) H Q :=
  Ev_eq.trans (by kernel_rfl)
/-! ### 46 haruspex/value.Bool -/
def f46_j10 (x2 : List AV) (x3 : List AV) (H : Heap) (Q : Post) : Prop := AtJ Pg Hs 46 [1, 1, 1] Q [(2, .lbox x2), (3, .lbox x3)] H
theorem f46_j10_eq (x2 : List AV) (x3 : List AV) (H : Heap) (Q : Post) : f46_j10 x2 x3 H Q =
 ob (partA true 0 3 x3) fun r6 =>
 ob (sizedA 3 r6) fun b7 =>
 ob (spliceA 0 b7 x2) fun b8 =>
 ob (partA true 0 3 b8) fun r9 =>
 Q r9 H :=
  (AtJ_eq Pg Hs 46 [1, 1, 1] Q _ H).trans (by kernel_rfl)
theorem f46_eq (a0 : AV) (H : Heap) (Q : Post) : E 46 [a0] H Q =
 ob (bldA [(0, 1, (I 1))] [(I 0), (I 0), (S ⟨#[]⟩)]) fun r1 =>
 ob (sizedA 3 r1) fun b2 =>
 ob (spliceA 0 b2 [(I 0), (I 0), (S ⟨#[]⟩)]) fun b3 =>
 cndA a0
 (ob (sizedA 1 (I 1)) fun b4 =>
 ob (spliceA 1 b4 b3) fun b5 =>
 f46_j10 [(I 0), (I 0), (S ⟨#[]⟩)] b5 H Q)
 (f46_j10 [(I 0), (I 0), (S ⟨#[]⟩)] b3 H Q) :=
  Ev_eq.trans (by kernel_rfl)
/-! ### 47 haruspex/haruspexref06.Bool -/
theorem f47_eq (a0 : AV) (H : Heap) (Q : Post) : E 47 [a0] H Q =
 cndA a0
 (ob (bldA [(0, 1, (I 1)), (1, 1, (I 1))] [(I 0), (I 0), (S ⟨#[]⟩)]) fun r1 =>
 ob (sizedA 3 r1) fun b2 =>
 ob (spliceA 0 b2 [(I 0), (I 0), (S ⟨#[]⟩)]) fun b3 =>
 ob (partA true 0 3 b3) fun r4 =>
 Q r4 H)
 (ob (bldA [(0, 1, (I 1))] [(I 0), (I 0), (S ⟨#[]⟩)]) fun r5 =>
 ob (sizedA 3 r5) fun b6 =>
 ob (spliceA 0 b6 [(I 0), (I 0), (S ⟨#[]⟩)]) fun b7 =>
 ob (partA true 0 3 b7) fun r8 =>
 Q r8 H) :=
  Ev_eq.trans (by kernel_rfl)
/-! ### 48 haruspex/expr.nodes -/
theorem f48_eq (a0 : AV) (H : Heap) (Q : Post) : E 48 [a0] H Q =
 ob (sizedA 7 a0) fun b1 =>
 newH H b1 fun r2 H3 =>
 Q (AV.fn (.func 71) [] [r2]) H3 :=
  Ev_eq.trans (by kernel_rfl)
/-! ### 49 haruspex/expr.right -/
def f49_c3_7a (x1 : List AV) (x18 : AV) (H : Heap) (Q : Post) : Prop := AtJ Pg Hs 49 [1, 1, 0, 0, 1, 0, 0, 7] Q [(1, .lbox x1), (18, .val x18)] H
def f49_c3_7b (x1 : List AV) (H : Heap) (Q : Post) : Prop := AtJ Pg Hs 49 [1, 1, 0, 0, 1, 0, 0, 7] Q [(1, .lbox x1), (18, .val (B false))] H
def f49_c5_8a (x1 : List AV) (x40 : AV) (H : Heap) (Q : Post) : Prop := AtJ Pg Hs 49 [1, 1, 0, 0, 1, 1, 1, 0, 0, 8] Q [(1, .lbox x1), (40, .val x40)] H
def f49_c5_8b (x1 : List AV) (H : Heap) (Q : Post) : Prop := AtJ Pg Hs 49 [1, 1, 0, 0, 1, 1, 1, 0, 0, 8] Q [(1, .lbox x1), (40, .val (B false))] H
def f49_j30 (x1 : List AV) (x3 : AV) (x55 : AV) (H : Heap) (Q : Post) : Prop := AtJ Pg Hs 49 [1, 1, 0, 0, 1, 1, 1, 1, 1, 1, 1] Q [(1, .lbox x1), (3, .val x3), (55, .val x55)] H
def f49_c3_12a (x1 : List AV) (x23 : AV) (H : Heap) (Q : Post) : Prop := AtJ Pg Hs 49 [1, 1, 0, 0, 1, 0, 0, 12] Q [(1, .lbox x1), (23, .val x23)] H
def f49_c3_12b (x1 : List AV) (H : Heap) (Q : Post) : Prop := AtJ Pg Hs 49 [1, 1, 0, 0, 1, 0, 0, 12] Q [(1, .lbox x1), (23, .val (B false))] H
def f49_c5_13a (x1 : List AV) (x45 : AV) (H : Heap) (Q : Post) : Prop := AtJ Pg Hs 49 [1, 1, 0, 0, 1, 1, 1, 0, 0, 13] Q [(1, .lbox x1), (45, .val x45)] H
def f49_c5_13b (x1 : List AV) (H : Heap) (Q : Post) : Prop := AtJ Pg Hs 49 [1, 1, 0, 0, 1, 1, 1, 0, 0, 13] Q [(1, .lbox x1), (45, .val (B false))] H
def f49_j36 (x1 : List AV) (x3 : AV) (x64 : AV) (H : Heap) (Q : Post) : Prop := AtJ Pg Hs 49 [1, 1, 0, 0, 1, 1, 1, 1, 1, 1, 1, 1, 1] Q [(1, .lbox x1), (3, .val x3), (64, .val x64)] H
def f49_c3_17a (x1 : List AV) (x28 : AV) (H : Heap) (Q : Post) : Prop := AtJ Pg Hs 49 [1, 1, 0, 0, 1, 0, 0, 17] Q [(1, .lbox x1), (28, .val x28)] H
def f49_c3_17b (x1 : List AV) (H : Heap) (Q : Post) : Prop := AtJ Pg Hs 49 [1, 1, 0, 0, 1, 0, 0, 17] Q [(1, .lbox x1), (28, .val (B false))] H
def f49_c5_18a (x1 : List AV) (x50 : AV) (H : Heap) (Q : Post) : Prop := AtJ Pg Hs 49 [1, 1, 0, 0, 1, 1, 1, 0, 0, 18] Q [(1, .lbox x1), (50, .val x50)] H
def f49_c5_18b (x1 : List AV) (H : Heap) (Q : Post) : Prop := AtJ Pg Hs 49 [1, 1, 0, 0, 1, 1, 1, 0, 0, 18] Q [(1, .lbox x1), (50, .val (B false))] H
def f49_j45 (x2 : AV) (H : Heap) (Q : Post) : Prop := AtJ Pg Hs 49 [1, 1, 1, 1, 1] Q [(2, .val x2)] H
def f49_j11 (x2 : AV) (H : Heap) (Q : Post) : Prop := AtJ Pg Hs 49 [1, 1, 0, 0, 1, 0, 1] Q [(2, .val x2)] H
def f49_j17 (x2 : AV) (H : Heap) (Q : Post) : Prop := AtJ Pg Hs 49 [1, 1, 0, 0, 1, 1, 1, 0, 1] Q [(2, .val x2)] H
theorem f49_c3_7a_eq (x1 : List AV) (x18 : AV) (H : Heap) (Q : Post) : f49_c3_7a x1 x18 H Q =
 cndA x18
 (ob (partA false 4 1 x1) fun r24 =>
 ob (binA Pg .eql 9 true r24 (S ⟨#[]⟩)) fun r25 =>
 f49_c3_12a x1 r25 H Q)
 (f49_c3_12b x1 H Q) :=
  (AtJ_eq Pg Hs 49 [1, 1, 0, 0, 1, 0, 0, 7] Q _ H).trans (by kernel_rfl)
theorem f49_c3_7b_eq (x1 : List AV) (H : Heap) (Q : Post) : f49_c3_7b x1 H Q =
 f49_c3_12b x1 H Q :=
  (AtJ_eq Pg Hs 49 [1, 1, 0, 0, 1, 0, 0, 7] Q _ H).trans (by kernel_rfl)
theorem f49_c5_8a_eq (x1 : List AV) (x40 : AV) (H : Heap) (Q : Post) : f49_c5_8a x1 x40 H Q =
 cndA x40
 (ob (partA false 4 1 x1) fun r26 =>
 E 74 [r26] H fun r27 H28 =>
 f49_c5_13a x1 r27 H28 Q)
 (f49_c5_13b x1 H Q) :=
  (AtJ_eq Pg Hs 49 [1, 1, 0, 0, 1, 1, 1, 0, 0, 8] Q _ H).trans (by kernel_rfl)
theorem f49_c5_8b_eq (x1 : List AV) (H : Heap) (Q : Post) : f49_c5_8b x1 H Q =
 f49_c5_13b x1 H Q :=
  (AtJ_eq Pg Hs 49 [1, 1, 0, 0, 1, 1, 1, 0, 0, 8] Q _ H).trans (by kernel_rfl)
theorem f49_j30_eq (x1 : List AV) (x3 : AV) (x55 : AV) (H : Heap) (Q : Post) : f49_j30 x1 x3 x55 H Q =
 cndA x55
 (ob (binA Pg .eql 3 true x3 (I 1)) fun r29 =>
 Q r29 H)
 (ob (partA false 0 1 x1) fun r30 =>
 ob (binA Pg .geq 3 true r30 (I 4)) fun r31 =>
 cndA r31
 (ob (partA false 0 1 x1) fun r32 =>
 ob (binA Pg .leq 3 true r32 (I 14)) fun r33 =>
 f49_j36 x1 x3 r33 H Q)
 (f49_j36 x1 x3 (B false) H Q)) :=
  (AtJ_eq Pg Hs 49 [1, 1, 0, 0, 1, 1, 1, 1, 1, 1, 1] Q _ H).trans (by kernel_rfl)
theorem f49_c3_12a_eq (x1 : List AV) (x23 : AV) (H : Heap) (Q : Post) : f49_c3_12a x1 x23 H Q =
 cndA x23
 (ob (partA false 5 1 x1) fun r34 =>
 ob (binA Pg .eql 9 true r34 (S ⟨#[]⟩)) fun r35 =>
 f49_c3_17a x1 r35 H Q)
 (f49_c3_17b x1 H Q) :=
  (AtJ_eq Pg Hs 49 [1, 1, 0, 0, 1, 0, 0, 12] Q _ H).trans (by kernel_rfl)
theorem f49_c3_12b_eq (x1 : List AV) (H : Heap) (Q : Post) : f49_c3_12b x1 H Q =
 f49_c3_17b x1 H Q :=
  (AtJ_eq Pg Hs 49 [1, 1, 0, 0, 1, 0, 0, 12] Q _ H).trans (by kernel_rfl)
theorem f49_c5_13a_eq (x1 : List AV) (x45 : AV) (H : Heap) (Q : Post) : f49_c5_13a x1 x45 H Q =
 cndA x45
 (ob (partA false 5 1 x1) fun r36 =>
 E 74 [r36] H fun r37 H38 =>
 f49_c5_18a x1 r37 H38 Q)
 (f49_c5_18b x1 H Q) :=
  (AtJ_eq Pg Hs 49 [1, 1, 0, 0, 1, 1, 1, 0, 0, 13] Q _ H).trans (by kernel_rfl)
theorem f49_c5_13b_eq (x1 : List AV) (H : Heap) (Q : Post) : f49_c5_13b x1 H Q =
 f49_c5_18b x1 H Q :=
  (AtJ_eq Pg Hs 49 [1, 1, 0, 0, 1, 1, 1, 0, 0, 13] Q _ H).trans (by kernel_rfl)
theorem f49_j36_eq (x1 : List AV) (x3 : AV) (x64 : AV) (H : Heap) (Q : Post) : f49_j36 x1 x3 x64 H Q =
 cndA x64
 (ob (binA Pg .eql 3 true x3 (I 2)) fun r39 =>
 Q r39 H)
 (newH H x1 fun r40 H41 =>
 ob (addPA r40 0) fun r42 =>
 ob (ldH H41 false 1 r42) fun r43 =>
 E 77 [r43] H41 fun r44 H45 =>
 cndA r44
 (ob (binA Pg .geq 3 true x3 (I 2)) fun r46 =>
 cndA r46
 (ob (addPA r40 6) fun r47 =>
 ob (ldH H45 false 1 r47) fun r48 =>
 E 78 [r48, (AV.fn (.func 76) [] [r40])] H45 fun r49 H50 =>
 ob (unA .not r49) fun r51 =>
 f49_j45 r51 H50 Q)
 (f49_j45 (B false) H45 Q))
 (f49_j45 (B false) H45 Q)) :=
  (AtJ_eq Pg Hs 49 [1, 1, 0, 0, 1, 1, 1, 1, 1, 1, 1, 1, 1] Q _ H).trans (by kernel_rfl)
theorem f49_c3_17a_eq (x1 : List AV) (x28 : AV) (H : Heap) (Q : Post) : f49_c3_17a x1 x28 H Q =
 f49_j11 x28 H Q :=
  (AtJ_eq Pg Hs 49 [1, 1, 0, 0, 1, 0, 0, 17] Q _ H).trans (by kernel_rfl)
theorem f49_c3_17b_eq (x1 : List AV) (H : Heap) (Q : Post) : f49_c3_17b x1 H Q =
 f49_j11 (B false) H Q :=
  (AtJ_eq Pg Hs 49 [1, 1, 0, 0, 1, 0, 0, 17] Q _ H).trans (by kernel_rfl)
theorem f49_c5_18a_eq (x1 : List AV) (x50 : AV) (H : Heap) (Q : Post) : f49_c5_18a x1 x50 H Q =
 f49_j17 x50 H Q :=
  (AtJ_eq Pg Hs 49 [1, 1, 0, 0, 1, 1, 1, 0, 0, 18] Q _ H).trans (by kernel_rfl)
theorem f49_c5_18b_eq (x1 : List AV) (H : Heap) (Q : Post) : f49_c5_18b x1 H Q =
 f49_j17 (B false) H Q :=
  (AtJ_eq Pg Hs 49 [1, 1, 0, 0, 1, 1, 1, 0, 0, 18] Q _ H).trans (by kernel_rfl)
theorem f49_j45_eq (x2 : AV) (H : Heap) (Q : Post) : f49_j45 x2 H Q =
 Q x2 H :=
  (AtJ_eq Pg Hs 49 [1, 1, 1, 1, 1] Q _ H).trans (by kernel_rfl)
theorem f49_j11_eq (x2 : AV) (H : Heap) (Q : Post) : f49_j11 x2 H Q =
 Q x2 H :=
  (AtJ_eq Pg Hs 49 [1, 1, 0, 0, 1, 0, 1] Q _ H).trans (by kernel_rfl)
theorem f49_j17_eq (x2 : AV) (H : Heap) (Q : Post) : f49_j17 x2 H Q =
 Q x2 H :=
  (AtJ_eq Pg Hs 49 [1, 1, 0, 0, 1, 1, 1, 0, 1] Q _ H).trans (by kernel_rfl)
theorem f49_eq (a0 : AV) (H : Heap) (Q : Post) : E 49 [a0] H Q =
 ob (sizedA 7 a0) fun b1 =>
 ob (partA false 6 1 b1) fun r2 =>
 ob (lenA r2) fun r3 =>
 ob (partA false 0 1 b1) fun r4 =>
 ob (binA Pg .eql 3 true r4 (I 1)) fun r5 =>
 cndA r5
 (ob (binA Pg .eql 3 true r3 (I 0)) fun r6 =>
 cndA r6
 (ob (partA true 1 3 b1) fun r7 =>
 E 73 [r7] H fun r8 H9 =>
 f49_c3_7a b1 r8 H9 Q)
 (f49_c3_7b b1 H Q))
 (ob (partA false 0 1 b1) fun r10 =>
 ob (binA Pg .eql 3 true r10 (I 2)) fun r11 =>
 cndA r11
 (ob (binA Pg .eql 3 true r3 (I 0)) fun r12 =>
 cndA r12
 (ob (partA true 1 3 b1) fun r13 =>
 ob (bldA [] [(I 0), (I 0), (S ⟨#[]⟩)]) fun r14 =>
 ob (binA Pg .eql 23 false r13 r14) fun r15 =>
 f49_c5_8a b1 r15 H Q)
 (f49_c5_8b b1 H Q))
 (ob (partA true 0 7 b1) fun r16 =>
 E 75 [r16] H fun r17 H18 =>
 ob (unA .not r17) fun r19 =>
 cndA r19
 (Q (B false) H18)
 (ob (partA false 0 1 b1) fun r20 =>
 ob (binA Pg .eql 3 true r20 (I 3)) fun r21 =>
 cndA r21
 (f49_j30 b1 r3 r21 H18 Q)
 (ob (partA false 0 1 b1) fun r22 =>
 ob (binA Pg .eql 3 true r22 (I 15)) fun r23 =>
 f49_j30 b1 r3 r23 H18 Q)))) :=
  Ev_eq.trans (by kernel_rfl)
/-! ### 50 (*haruspex/typing.Names).field -/
theorem f50_eq (a0 a1 a2 : AV) (H : Heap) (Q : Post) : E 50 [a0, a1, a2] H Q =
 E 11 [a0, a1] H fun r1 H2 =>
 ob (extractA r1 0) fun r3 =>
 ob (extractA r1 1) fun r4 =>
 ob (unA .not r4) fun r5 =>
 cndA r5
 (E 79 [] H2 fun r6 H7 =>
 Q (AV.tup [(I 0), r6]) H7)
 (ob (nilA a0) fun r8 =>
 ob (addPA r8 0) fun r9 =>
 ob (ldH H2 false 1 r9) fun r10 =>
 E 33 [r10, r3] H2 fun r11 H12 =>
 ob (extractA r11 0) fun r13 =>
 ob (extractA r11 1) fun r14 =>
 ob (nilA a0) fun r15 =>
 ob (addPA r15 0) fun r16 =>
 ob (ldH H12 false 1 r16) fun r17 =>
 ob (ixaA 2 r17 r13) fun c18 =>
 ob (partA true 0 2 c18) fun r19 =>
 E 80 [r19, a2] H12 fun r20 H21 =>
 ob (extractA r20 0) fun r22 =>
 ob (extractA r20 1) fun r23 =>
 ob (extractA r20 2) fun r24 =>
 ob (unA .not r24) fun r25 =>
 cndA r25
 (E 79 [] H21 fun r26 H27 =>
 Q (AV.tup [(I 0), r26]) H27)
 (Q (AV.tup [r23, (AV.raw .nilIface)]) H21)) :=
  Ev_eq.trans (by kernel_rfl)
/-! ### 51 haruspex/typing.ruled -/
theorem f51_eq (a0 : AV) (H : Heap) (Q : Post) : E 51 [a0] H Q =
 ob (binA Pg .leq 3 true a0 (I 8)) fun r1 =>
 cndA r1
 (E 81 [(I 2)] H fun r2 H3 =>
 ob (bldA [(0, 1, r2), (1, 1, (I 2))] [(AV.raw .nilFunc), (I 0)]) fun r4 =>
 ob (sizedA 2 r4) fun b5 =>
 ob (spliceA 0 b5 [(AV.raw .nilFunc), (I 0)]) fun b6 =>
 ob (partA true 0 2 b6) fun r7 =>
 Q r7 H3)
 (ob (binA Pg .leq 3 true a0 (I 10)) fun r8 =>
 cndA r8
 (ob (bldA [(0, 1, (AV.fn (.func 82) [] [])), (1, 1, (I 1))] [(AV.raw .nilFunc), (I 0)]) fun r9 =>
 ob (sizedA 2 r9) fun b10 =>
 ob (spliceA 0 b10 [(AV.raw .nilFunc), (I 0)]) fun b11 =>
 ob (partA true 0 2 b11) fun r12 =>
 Q r12 H)
 (ob (binA Pg .leq 3 true a0 (I 14)) fun r13 =>
 cndA r13
 (ob (bldA [(0, 1, (AV.fn (.func 83) [] [])), (1, 1, (I 1))] [(AV.raw .nilFunc), (I 0)]) fun r14 =>
 ob (sizedA 2 r14) fun b15 =>
 ob (spliceA 0 b15 [(AV.raw .nilFunc), (I 0)]) fun b16 =>
 ob (partA true 0 2 b16) fun r17 =>
 Q r17 H)
 (E 81 [(I 1)] H fun r18 H19 =>
 ob (bldA [(0, 1, r18), (1, 1, (I 1))] [(AV.raw .nilFunc), (I 0)]) fun r20 =>
 ob (sizedA 2 r20) fun b21 =>
 ob (spliceA 0 b21 [(AV.raw .nilFunc), (I 0)]) fun b22 =>
 ob (partA true 0 2 b22) fun r23 =>
 Q r23 H19))) :=
  Ev_eq.trans (by kernel_rfl)
/-! ### 52 haruspex/typing.noType -/
theorem f52_eq (_u : Unit := ()) (H : Heap) (Q : Post) : E 52 [] H Q =
 ob (bldA [(0, 1, (AV.iface 100 (I 5)))] [(AV.raw .nilIface)]) fun r1 =>
 Q (AV.iface 122 r1) H :=
  Ev_eq.trans (by kernel_rfl)
/-! ### 53 errors.Is -/
def f53_j5 (x0 : AV) (x1 : AV) (x11 : AV) (H : Heap) (Q : Post) : Prop := AtJ Pg Hs 53 [1, 0, 1] Q [(0, .val x0), (1, .val x1), (11, .val x11)] H
theorem f53_j5_eq (x0 : AV) (x1 : AV) (x11 : AV) (H : Heap) (Q : Post) : f53_j5 x0 x1 x11 H Q =
 cndA x11
 (ob (binA Pg .eql 73 false x0 x1) fun r3 =>
 Q r3 H)
 (primA Pg 84 [x1] fun r4 =>
 invA Pg (Ev Pg Hs) "Comparable" r4 [] H fun r5 H6 =>
 E 85 [x0, x1, r5] H6 fun r7 H8 =>
 Q r7 H8) :=
  (AtJ_eq Pg Hs 53 [1, 0, 1] Q _ H).trans (by kernel_rfl)
theorem f53_eq (a0 a1 : AV) (H : Heap) (Q : Post) : E 53 [a0, a1] H Q =
 ob (binA Pg .eql 73 true a0 (AV.raw .nilIface)) fun r1 =>
 cndA r1
 (f53_j5 a0 a1 (B true) H Q)
 (ob (binA Pg .eql 73 true a1 (AV.raw .nilIface)) fun r2 =>
 f53_j5 a0 a1 r2 H Q) :=
  Ev_eq.trans (by kernel_rfl)
/-! ### 54 haruspex/schema.Check -/
def f54_j17 (x20 : AV) (H : Heap) (Q : Post) : Prop := AtJ Pg Hs 54 [1, 1, 1, 1, 0, 1] Q [(20, .val x20)] H
theorem f54_j17_eq (x20 : AV) (H : Heap) (Q : Post) : f54_j17 x20 H Q =
 cndA x20
 (Q (I 1) H)
 (Q (I 0) H) :=
  (AtJ_eq Pg Hs 54 [1, 1, 1, 1, 0, 1] Q _ H).trans (by kernel_rfl)
theorem f54_eq (a0 : AV) (H : Heap) (Q : Post) : E 54 [a0] H Q =
 ob (sizedA 2 a0) fun b1 =>
 ob (partA false 1 1 b1) fun r2 =>
 ob (lenA r2) fun r3 =>
 ob (binA Pg .gtr 3 true r3 (I 16)) fun r4 =>
 cndA r4
 (Q (I 2) H)
 (mkMapA H fun r5 H6 =>
 ob (sizedA 1 r5) fun b7 =>
 ob (spliceA 0 b7 [(AV.raw (.map none))]) fun b8 =>
 newH H6 b8 fun r9 H10 =>
 ob (partA false 0 1 b1) fun r11 =>
 E 74 [r11] H10 fun r12 H13 =>
 ob (unA .not r12) fun r14 =>
 cndA r14
 (f54_j17 (B true) H13 Q)
 (ob (partA false 1 1 b1) fun r15 =>
 E 87 [r15, (AV.fn (.func 86) [] [r9])] H13 fun r16 H17 =>
 f54_j17 r16 H17 Q)) :=
  Ev_eq.trans (by kernel_rfl)
/-! ### 55 (haruspex/schema.names).again -/
theorem f55_eq (a0 a1 : AV) (H : Heap) (Q : Post) : E 55 [a0, a1] H Q =
 ob (lookA H (B false) a0 a1 false) fun r1 =>
 cndA r1
 (Q (B true) H)
 (updA H a0 a1 (B true) fun H2 =>
 Q (B false) H2) :=
  Ev_eq.trans (by kernel_rfl)
/-! ### 56 slices.IndexFunc[[]haruspex/api.Schema,haruspex/api.Schema] -/
def f56_l6 (x0 : AV) (x1 : AV) (x7 : AV) (x8 : AV) (H : Heap) (Q : Post) : Prop := AtF Pg Hs 56 [1, 0, 1, 0] Q [(0, .val x0), (1, .val x1), (7, .val x7), (8, .val x8)] H
theorem f56_l6_eq (x0 : AV) (x1 : AV) (x7 : AV) (x8 : AV) (H : Heap) (Q : Post) : f56_l6 x0 x1 x7 x8 H Q =
 ob (binA Pg .lss 3 false x8 x7) fun r2 =>
 cndA r2
 (ob (ixaA 2 x0 x8) fun c3 =>
 ob (partA true 0 2 c3) fun r4 =>
 callA (Ev Pg Hs) x1 [r4] H fun r5 H6 =>
 cndA r5
 (Q x8 H6)
 (ob (binA Pg .add 3 true x8 (I 1)) fun r7 =>
 f56_l6 x0 x1 x7 r7 H6 Q))
 (Q (I (-1)) H) :=
  (AtF_eq Pg Hs 56 [1, 0, 1, 0] Q _ H).trans (by kernel_rfl)
theorem f56_eq (a0 a1 : AV) (H : Heap) (Q : Post) : E 56 [a0, a1] H Q =
 ob (lenA a0) fun r1 =>
 f56_l6 a0 a1 r1 (I 0) H Q :=
  Ev_eq.trans (by kernel_rfl)
/-! ### 57 haruspex/schema.Find$1 -/
theorem f57_eq (a0 a1 : AV) (H : Heap) (Q : Post) : E 57 [a0, a1] H Q =
 ob (sizedA 2 a0) fun b1 =>
 ob (partA false 0 1 b1) fun r2 =>
 ob (ldH H false 1 a1) fun r3 =>
 ob (binA Pg .eql 9 false r2 r3) fun r4 =>
 Q r4 H :=
  Ev_eq.trans (by kernel_rfl)
/-! ### 58 haruspex/haruspexref07.Check -/
def f58_l16 (x1 : List AV) (x3 : AV) (x4 : AV) (H : Heap) (Q : Post) : Prop := AtF Pg Hs 58 [1, 1, 1, 0, 1, 0] Q [(1, .lbox x1), (3, .val x3), (4, .val x4)] H
def f58_c8_6a (x1 : List AV) (x4 : AV) (x5 : List AV) (x31 : AV) (H : Heap) (Q : Post) : Prop := AtJ Pg Hs 58 [1, 1, 1, 0, 1, 0, 0, 1, 0, 0, 1, 0, 6] Q [(1, .lbox x1), (4, .val x4), (5, .lbox x5), (31, .val x31)] H
def f58_c8_6b (x1 : List AV) (x4 : AV) (x5 : List AV) (H : Heap) (Q : Post) : Prop := AtJ Pg Hs 58 [1, 1, 1, 0, 1, 0, 0, 1, 0, 0, 1, 0, 6] Q [(1, .lbox x1), (4, .val x4), (5, .lbox x5), (31, .val (B false))] H
def f58_c8_11a (x1 : List AV) (x4 : AV) (x5 : List AV) (x36 : AV) (H : Heap) (Q : Post) : Prop := AtJ Pg Hs 58 [1, 1, 1, 0, 1, 0, 0, 1, 0, 0, 1, 0, 11] Q [(1, .lbox x1), (4, .val x4), (5, .lbox x5), (36, .val x36)] H
def f58_c8_11b (x1 : List AV) (x4 : AV) (x5 : List AV) (H : Heap) (Q : Post) : Prop := AtJ Pg Hs 58 [1, 1, 1, 0, 1, 0, 0, 1, 0, 0, 1, 0, 11] Q [(1, .lbox x1), (4, .val x4), (5, .lbox x5), (36, .val (B false))] H
def f58_c8_16a (x1 : List AV) (x4 : AV) (x5 : List AV) (x41 : AV) (H : Heap) (Q : Post) : Prop := AtJ Pg Hs 58 [1, 1, 1, 0, 1, 0, 0, 1, 0, 0, 1, 0, 16] Q [(1, .lbox x1), (4, .val x4), (5, .lbox x5), (41, .val x41)] H
def f58_c8_16b (x1 : List AV) (x4 : AV) (x5 : List AV) (H : Heap) (Q : Post) : Prop := AtJ Pg Hs 58 [1, 1, 1, 0, 1, 0, 0, 1, 0, 0, 1, 0, 16] Q [(1, .lbox x1), (4, .val x4), (5, .lbox x5), (41, .val (B false))] H
def f58_j29 (x1 : List AV) (x3 : AV) (x4 : AV) (x5 : List AV) (H : Heap) (Q : Post) : Prop := AtJ Pg Hs 58 [1, 1, 1, 0, 1, 0, 0, 1, 0, 0, 1, 1] Q [(1, .lbox x1), (3, .val x3), (4, .val x4), (5, .lbox x5)] H
def f58_l32 (x1 : List AV) (x3 : AV) (x4 : AV) (x5 : List AV) (x6 : AV) (H : Heap) (Q : Post) : Prop := AtF Pg Hs 58 [1, 1, 1, 0, 1, 0, 0, 1, 0, 0, 1, 1, 1, 0] Q [(1, .lbox x1), (3, .val x3), (4, .val x4), (5, .lbox x5), (6, .val x6)] H
def f58_j42 (x1 : List AV) (x3 : AV) (x4 : AV) (x5 : List AV) (x6 : AV) (H : Heap) (Q : Post) : Prop := AtJ Pg Hs 58 [1, 1, 1, 0, 1, 0, 0, 1, 0, 0, 1, 1, 1, 0, 0, 1, 1] Q [(1, .lbox x1), (3, .val x3), (4, .val x4), (5, .lbox x5), (6, .val x6)] H
theorem f58_l16_eq (x1 : List AV) (x3 : AV) (x4 : AV) (H : Heap) (Q : Post) : f58_l16 x1 x3 x4 H Q =
 ob (partA false 1 1 x1) fun r8 =>
 ob (lenA r8) fun r9 =>
 ob (binA Pg .lss 3 false x4 r9) fun r10 =>
 cndA r10
 (ob (partA false 1 1 x1) fun r11 =>
 ob (ixaA 2 r11 x4) fun c12 =>
 ob (partA true 0 2 c12) fun r13 =>
 ob (sizedA 2 r13) fun b14 =>
 ob (spliceA 0 b14 [(S ⟨#[]⟩), (I 0)]) fun b15 =>
 cndA x3
 (ob (partA false 0 1 b15) fun r16 =>
 E 88 [r16] H fun r17 H18 =>
 f58_c8_6a x1 x4 b15 r17 H18 Q)
 (f58_c8_6b x1 x4 b15 H Q))
 (ob (unA .not x3) fun r19 =>
 cndA r19
 (Q (I 1) H)
 (Q (I 0) H)) :=
  (AtF_eq Pg Hs 58 [1, 1, 1, 0, 1, 0] Q _ H).trans (by kernel_rfl)
theorem f58_c8_6a_eq (x1 : List AV) (x4 : AV) (x5 : List AV) (x31 : AV) (H : Heap) (Q : Post) : f58_c8_6a x1 x4 x5 x31 H Q =
 cndA x31
 (ob (partA false 1 1 x5) fun r20 =>
 ob (binA Pg .geq 3 true r20 (I 1)) fun r21 =>
 f58_c8_11a x1 x4 x5 r21 H Q)
 (f58_c8_11b x1 x4 x5 H Q) :=
  (AtJ_eq Pg Hs 58 [1, 1, 1, 0, 1, 0, 0, 1, 0, 0, 1, 0, 6] Q _ H).trans (by kernel_rfl)
theorem f58_c8_6b_eq (x1 : List AV) (x4 : AV) (x5 : List AV) (H : Heap) (Q : Post) : f58_c8_6b x1 x4 x5 H Q =
 f58_c8_11b x1 x4 x5 H Q :=
  (AtJ_eq Pg Hs 58 [1, 1, 1, 0, 1, 0, 0, 1, 0, 0, 1, 0, 6] Q _ H).trans (by kernel_rfl)
theorem f58_c8_11a_eq (x1 : List AV) (x4 : AV) (x5 : List AV) (x36 : AV) (H : Heap) (Q : Post) : f58_c8_11a x1 x4 x5 x36 H Q =
 cndA x36
 (ob (partA false 1 1 x5) fun r22 =>
 ob (binA Pg .leq 3 true r22 (I 3)) fun r23 =>
 f58_c8_16a x1 x4 x5 r23 H Q)
 (f58_c8_16b x1 x4 x5 H Q) :=
  (AtJ_eq Pg Hs 58 [1, 1, 1, 0, 1, 0, 0, 1, 0, 0, 1, 0, 11] Q _ H).trans (by kernel_rfl)
theorem f58_c8_11b_eq (x1 : List AV) (x4 : AV) (x5 : List AV) (H : Heap) (Q : Post) : f58_c8_11b x1 x4 x5 H Q =
 f58_c8_16b x1 x4 x5 H Q :=
  (AtJ_eq Pg Hs 58 [1, 1, 1, 0, 1, 0, 0, 1, 0, 0, 1, 0, 11] Q _ H).trans (by kernel_rfl)
theorem f58_c8_16a_eq (x1 : List AV) (x4 : AV) (x5 : List AV) (x41 : AV) (H : Heap) (Q : Post) : f58_c8_16a x1 x4 x5 x41 H Q =
 f58_j29 x1 x41 x4 x5 H Q :=
  (AtJ_eq Pg Hs 58 [1, 1, 1, 0, 1, 0, 0, 1, 0, 0, 1, 0, 16] Q _ H).trans (by kernel_rfl)
theorem f58_c8_16b_eq (x1 : List AV) (x4 : AV) (x5 : List AV) (H : Heap) (Q : Post) : f58_c8_16b x1 x4 x5 H Q =
 f58_j29 x1 (B false) x4 x5 H Q :=
  (AtJ_eq Pg Hs 58 [1, 1, 1, 0, 1, 0, 0, 1, 0, 0, 1, 0, 16] Q _ H).trans (by kernel_rfl)
theorem f58_j29_eq (x1 : List AV) (x3 : AV) (x4 : AV) (x5 : List AV) (H : Heap) (Q : Post) : f58_j29 x1 x3 x4 x5 H Q =
 f58_l32 x1 x3 x4 x5 (I 0) H Q :=
  (AtJ_eq Pg Hs 58 [1, 1, 1, 0, 1, 0, 0, 1, 0, 0, 1, 1] Q _ H).trans (by kernel_rfl)
theorem f58_l32_eq (x1 : List AV) (x3 : AV) (x4 : AV) (x5 : List AV) (x6 : AV) (H : Heap) (Q : Post) : f58_l32 x1 x3 x4 x5 x6 H Q =
 ob (binA Pg .lss 3 false x6 x4) fun r24 =>
 cndA r24
 (cndA x3
 (ob (partA false 1 1 x1) fun r25 =>
 ob (ixaA 2 r25 x6) fun c26 =>
 ob (partA false 0 1 (c26.drop 0)) fun r27 =>
 ob (partA false 0 1 x5) fun r28 =>
 ob (binA Pg .neq 9 false r27 r28) fun r29 =>
 f58_j42 x1 r29 x4 x5 x6 H Q)
 (f58_j42 x1 (B false) x4 x5 x6 H Q))
 (ob (binA Pg .add 3 true x4 (I 1)) fun r30 =>
 f58_l16 x1 x3 r30 H Q) :=
  (AtF_eq Pg Hs 58 [1, 1, 1, 0, 1, 0, 0, 1, 0, 0, 1, 1, 1, 0] Q _ H).trans (by kernel_rfl)
theorem f58_j42_eq (x1 : List AV) (x3 : AV) (x4 : AV) (x5 : List AV) (x6 : AV) (H : Heap) (Q : Post) : f58_j42 x1 x3 x4 x5 x6 H Q =
 ob (binA Pg .add 3 true x6 (I 1)) fun r31 =>
 f58_l32 x1 x3 x4 x5 r31 H Q :=
  (AtJ_eq Pg Hs 58 [1, 1, 1, 0, 1, 0, 0, 1, 0, 0, 1, 1, 1, 0, 0, 1, 1] Q _ H).trans (by kernel_rfl)
theorem f58_eq (a0 : AV) (H : Heap) (Q : Post) : E 58 [a0] H Q =
 ob (sizedA 2 a0) fun b1 =>
 ob (partA false 1 1 b1) fun r2 =>
 ob (lenA r2) fun r3 =>
 ob (binA Pg .gtr 3 true r3 (I 16)) fun r4 =>
 cndA r4
 (Q (I 2) H)
 (ob (partA false 0 1 b1) fun r5 =>
 E 88 [r5] H fun r6 H7 =>
 f58_l16 b1 r6 (I 0) H7 Q) :=
  Ev_eq.trans (by kernel_rfl)
/-! ### 59 haruspex/haruspexref09.Size -/
def f59_l8 (x1 : List AV) (x3 : AV) (x4 : AV) (H : Heap) (Q : Post) : Prop := AtF Pg Hs 59 [1, 1, 0, 1, 0] Q [(1, .lbox x1), (3, .val x3), (4, .val x4)] H
theorem f59_l8_eq (x1 : List AV) (x3 : AV) (x4 : AV) (H : Heap) (Q : Post) : f59_l8 x1 x3 x4 H Q =
 ob (partA false 6 1 x1) fun r2 =>
 ob (lenA r2) fun r3 =>
 ob (binA Pg .lss 3 false x4 r3) fun r4 =>
 cndA r4
 (ob (partA false 6 1 x1) fun r5 =>
 ob (ixaA 7 r5 x4) fun c6 =>
 ob (partA true 0 7 c6) fun r7 =>
 E 59 [r7] H fun r8 H9 =>
 ob (binA Pg .add 3 false x3 r8) fun r10 =>
 ob (binA Pg .add 3 true x4 (I 1)) fun r11 =>
 f59_l8 x1 r10 r11 H9 Q)
 (Q x3 H) :=
  (AtF_eq Pg Hs 59 [1, 1, 0, 1, 0] Q _ H).trans (by kernel_rfl)
theorem f59_eq (a0 : AV) (H : Heap) (Q : Post) : E 59 [a0] H Q =
 ob (sizedA 7 a0) fun b1 =>
 f59_l8 b1 (I 1) (I 0) H Q :=
  Ev_eq.trans (by kernel_rfl)
/-! ### 60 haruspex/haruspexref09.right -/
def f60_c1_9a (x1 : List AV) (x13 : AV) (H : Heap) (Q : Post) : Prop := AtJ Pg Hs 60 [1, 0, 0, 9] Q [(1, .lbox x1), (13, .val x13)] H
def f60_c1_9b (x1 : List AV) (H : Heap) (Q : Post) : Prop := AtJ Pg Hs 60 [1, 0, 0, 9] Q [(1, .lbox x1), (13, .val (B false))] H
def f60_c1_22a (x1 : List AV) (H : Heap) (Q : Post) : Prop := AtJ Pg Hs 60 [1, 0, 0, 22] Q [(1, .lbox x1), (14, .val (B true)), (18, .nov), (26, .nov)] H
def f60_c1_22b (x1 : List AV) (H : Heap) (Q : Post) : Prop := AtJ Pg Hs 60 [1, 0, 0, 22] Q [(1, .lbox x1), (14, .val (B false)), (18, .val (B true)), (26, .val (B true))] H
def f60_c1_22c (x1 : List AV) (x26 : AV) (H : Heap) (Q : Post) : Prop := AtJ Pg Hs 60 [1, 0, 0, 22] Q [(1, .lbox x1), (14, .val (B false)), (18, .val (B true)), (26, .val x26)] H
def f60_c1_22d (x1 : List AV) (H : Heap) (Q : Post) : Prop := AtJ Pg Hs 60 [1, 0, 0, 22] Q [(1, .lbox x1), (14, .val (B false)), (18, .val (B false)), (26, .nov)] H
def f60_c1_23a (x1 : List AV) (H : Heap) (Q : Post) : Prop := AtJ Pg Hs 60 [1, 0, 0, 23] Q [(1, .lbox x1), (14, .val (B true)), (27, .nov)] H
def f60_c1_23b (x1 : List AV) (H : Heap) (Q : Post) : Prop := AtJ Pg Hs 60 [1, 0, 0, 23] Q [(1, .lbox x1), (14, .val (B false)), (27, .val (B true))] H
def f60_c1_23c (x1 : List AV) (x27 : AV) (H : Heap) (Q : Post) : Prop := AtJ Pg Hs 60 [1, 0, 0, 23] Q [(1, .lbox x1), (14, .val (B false)), (27, .val x27)] H
def f60_c1_23d (x1 : List AV) (H : Heap) (Q : Post) : Prop := AtJ Pg Hs 60 [1, 0, 0, 23] Q [(1, .lbox x1), (14, .val (B false)), (27, .val (B false))] H
def f60_j5 (x1 : List AV) (x28 : AV) (H : Heap) (Q : Post) : Prop := AtJ Pg Hs 60 [1, 0, 1] Q [(1, .lbox x1), (28, .val x28)] H
def f60_j19 (x2 : AV) (H : Heap) (Q : Post) : Prop := AtJ Pg Hs 60 [1, 1, 1, 0, 0, 1, 0, 1] Q [(2, .val x2)] H
def f60_j25 (x2 : AV) (H : Heap) (Q : Post) : Prop := AtJ Pg Hs 60 [1, 1, 1, 0, 0, 1, 1, 1, 0, 1] Q [(2, .val x2)] H
def f60_j28 (x1 : List AV) (x3 : AV) (x59 : AV) (H : Heap) (Q : Post) : Prop := AtJ Pg Hs 60 [1, 1, 1, 0, 0, 1, 1, 1, 1, 1] Q [(1, .lbox x1), (3, .val x3), (59, .val x59)] H
def f60_l63 (x1 : List AV) (x3 : AV) (x4 : AV) (H : Heap) (Q : Post) : Prop := AtF Pg Hs 60 [1, 1, 1, 1, 0, 1, 0] Q [(1, .lbox x1), (3, .val x3), (4, .val x4)] H
def f60_j38 (x1 : List AV) (x3 : AV) (x70 : AV) (H : Heap) (Q : Post) : Prop := AtJ Pg Hs 60 [1, 1, 1, 0, 0, 1, 1, 1, 1, 1, 1, 1] Q [(1, .lbox x1), (3, .val x3), (70, .val x70)] H
def f60_c21_16a (x1 : List AV) (x3 : AV) (x4 : AV) (H : Heap) (Q : Post) : Prop := AtJ Pg Hs 60 [1, 1, 1, 1, 0, 1, 0, 0, 1, 0, 0, 0, 16] Q [(1, .lbox x1), (3, .val x3), (4, .val x4), (104, .val (B true)), (112, .nov)] H
def f60_c21_16b (x1 : List AV) (x3 : AV) (x4 : AV) (H : Heap) (Q : Post) : Prop := AtJ Pg Hs 60 [1, 1, 1, 1, 0, 1, 0, 0, 1, 0, 0, 0, 16] Q [(1, .lbox x1), (3, .val x3), (4, .val x4), (104, .val (B false)), (112, .val (B true))] H
def f60_c21_16c (x1 : List AV) (x3 : AV) (x4 : AV) (x112 : AV) (H : Heap) (Q : Post) : Prop := AtJ Pg Hs 60 [1, 1, 1, 1, 0, 1, 0, 0, 1, 0, 0, 0, 16] Q [(1, .lbox x1), (3, .val x3), (4, .val x4), (104, .val (B false)), (112, .val x112)] H
def f60_j48 (x1 : List AV) (x3 : AV) (x81 : AV) (H : Heap) (Q : Post) : Prop := AtJ Pg Hs 60 [1, 1, 1, 0, 0, 1, 1, 1, 1, 1, 1, 1, 1, 1] Q [(1, .lbox x1), (3, .val x3), (81, .val x81)] H
def f60_c21_27a (x1 : List AV) (x3 : AV) (x4 : AV) (H : Heap) (Q : Post) : Prop := AtJ Pg Hs 60 [1, 1, 1, 1, 0, 1, 0, 0, 1, 0, 0, 0, 27] Q [(1, .lbox x1), (3, .val x3), (4, .val x4), (104, .val (B true)), (123, .nov)] H
def f60_c21_27b (x1 : List AV) (x3 : AV) (x4 : AV) (x123 : AV) (H : Heap) (Q : Post) : Prop := AtJ Pg Hs 60 [1, 1, 1, 1, 0, 1, 0, 0, 1, 0, 0, 0, 27] Q [(1, .lbox x1), (3, .val x3), (4, .val x4), (104, .val (B false)), (123, .val x123)] H
def f60_c21_27c (x1 : List AV) (x3 : AV) (x4 : AV) (H : Heap) (Q : Post) : Prop := AtJ Pg Hs 60 [1, 1, 1, 1, 0, 1, 0, 0, 1, 0, 0, 0, 27] Q [(1, .lbox x1), (3, .val x3), (4, .val x4), (104, .val (B false)), (123, .val (B false))] H
def f60_j74 (x1 : List AV) (x3 : AV) (x4 : AV) (x124 : AV) (H : Heap) (Q : Post) : Prop := AtJ Pg Hs 60 [1, 1, 1, 1, 0, 1, 0, 0, 1, 0, 0, 1] Q [(1, .lbox x1), (3, .val x3), (4, .val x4), (124, .val x124)] H
theorem f60_c1_9a_eq (x1 : List AV) (x13 : AV) (H : Heap) (Q : Post) : f60_c1_9a x1 x13 H Q =
 cndA x13
 (f60_c1_22a x1 H Q)
 (ob (partA false 0 1 x1) fun r7 =>
 ob (binA Pg .neq 3 true r7 (I 2)) fun r8 =>
 cndA r8
 (ob (partA false 4 1 x1) fun r9 =>
 ob (binA Pg .neq 9 true r9 (S ⟨#[]⟩)) fun r10 =>
 cndA r10
 (f60_c1_22b x1 H Q)
 (ob (partA false 5 1 x1) fun r11 =>
 ob (binA Pg .neq 9 true r11 (S ⟨#[]⟩)) fun r12 =>
 f60_c1_22c x1 r12 H Q))
 (f60_c1_22d x1 H Q)) :=
  (AtJ_eq Pg Hs 60 [1, 0, 0, 9] Q _ H).trans (by kernel_rfl)
theorem f60_c1_9b_eq (x1 : List AV) (H : Heap) (Q : Post) : f60_c1_9b x1 H Q =
 ob (partA false 0 1 x1) fun r13 =>
 ob (binA Pg .neq 3 true r13 (I 2)) fun r14 =>
 cndA r14
 (ob (partA false 4 1 x1) fun r15 =>
 ob (binA Pg .neq 9 true r15 (S ⟨#[]⟩)) fun r16 =>
 cndA r16
 (f60_c1_22b x1 H Q)
 (ob (partA false 5 1 x1) fun r17 =>
 ob (binA Pg .neq 9 true r17 (S ⟨#[]⟩)) fun r18 =>
 f60_c1_22c x1 r18 H Q))
 (f60_c1_22d x1 H Q) :=
  (AtJ_eq Pg Hs 60 [1, 0, 0, 9] Q _ H).trans (by kernel_rfl)
theorem f60_c1_22a_eq (x1 : List AV) (H : Heap) (Q : Post) : f60_c1_22a x1 H Q =
 f60_c1_23a x1 H Q :=
  (AtJ_eq Pg Hs 60 [1, 0, 0, 22] Q _ H).trans (by kernel_rfl)
theorem f60_c1_22b_eq (x1 : List AV) (H : Heap) (Q : Post) : f60_c1_22b x1 H Q =
 f60_c1_23b x1 H Q :=
  (AtJ_eq Pg Hs 60 [1, 0, 0, 22] Q _ H).trans (by kernel_rfl)
theorem f60_c1_22c_eq (x1 : List AV) (x26 : AV) (H : Heap) (Q : Post) : f60_c1_22c x1 x26 H Q =
 f60_c1_23c x1 x26 H Q :=
  (AtJ_eq Pg Hs 60 [1, 0, 0, 22] Q _ H).trans (by kernel_rfl)
theorem f60_c1_22d_eq (x1 : List AV) (H : Heap) (Q : Post) : f60_c1_22d x1 H Q =
 f60_c1_23d x1 H Q :=
  (AtJ_eq Pg Hs 60 [1, 0, 0, 22] Q _ H).trans (by kernel_rfl)
theorem f60_c1_23a_eq (x1 : List AV) (H : Heap) (Q : Post) : f60_c1_23a x1 H Q =
 f60_j5 x1 (B true) H Q :=
  (AtJ_eq Pg Hs 60 [1, 0, 0, 23] Q _ H).trans (by kernel_rfl)
theorem f60_c1_23b_eq (x1 : List AV) (H : Heap) (Q : Post) : f60_c1_23b x1 H Q =
 f60_j5 x1 (B true) H Q :=
  (AtJ_eq Pg Hs 60 [1, 0, 0, 23] Q _ H).trans (by kernel_rfl)
theorem f60_c1_23c_eq (x1 : List AV) (x27 : AV) (H : Heap) (Q : Post) : f60_c1_23c x1 x27 H Q =
 f60_j5 x1 x27 H Q :=
  (AtJ_eq Pg Hs 60 [1, 0, 0, 23] Q _ H).trans (by kernel_rfl)
theorem f60_c1_23d_eq (x1 : List AV) (H : Heap) (Q : Post) : f60_c1_23d x1 H Q =
 f60_j5 x1 (B false) H Q :=
  (AtJ_eq Pg Hs 60 [1, 0, 0, 23] Q _ H).trans (by kernel_rfl)
theorem f60_j5_eq (x1 : List AV) (x28 : AV) (H : Heap) (Q : Post) : f60_j5 x1 x28 H Q =
 cndA x28
 (Q (B false) H)
 (ob (partA false 6 1 x1) fun r19 =>
 ob (lenA r19) fun r20 =>
 ob (partA false 0 1 x1) fun r21 =>
 ob (binA Pg .eql 3 true r21 (I 1)) fun r22 =>
 cndA r22
 (ob (binA Pg .eql 3 true r20 (I 0)) fun r23 =>
 cndA r23
 (ob (partA true 1 3 x1) fun r24 =>
 E 67 [r24] H fun r25 H26 =>
 f60_j19 r25 H26 Q)
 (f60_j19 (B false) H Q))
 (ob (partA false 0 1 x1) fun r27 =>
 ob (binA Pg .eql 3 true r27 (I 2)) fun r28 =>
 cndA r28
 (ob (binA Pg .eql 3 true r20 (I 0)) fun r29 =>
 cndA r29
 (ob (partA false 4 1 x1) fun r30 =>
 E 88 [r30] H fun r31 H32 =>
 cndA r31
 (ob (partA false 5 1 x1) fun r33 =>
 E 88 [r33] H32 fun r34 H35 =>
 f60_j25 r34 H35 Q)
 (f60_j25 (B false) H32 Q))
 (f60_j25 (B false) H Q))
 (ob (partA false 0 1 x1) fun r36 =>
 ob (binA Pg .eql 3 true r36 (I 3)) fun r37 =>
 cndA r37
 (f60_j28 x1 r20 (B true) H Q)
 (ob (partA false 0 1 x1) fun r38 =>
 ob (binA Pg .eql 3 true r38 (I 15)) fun r39 =>
 f60_j28 x1 r20 r39 H Q)))) :=
  (AtJ_eq Pg Hs 60 [1, 0, 1] Q _ H).trans (by kernel_rfl)
theorem f60_j19_eq (x2 : AV) (H : Heap) (Q : Post) : f60_j19 x2 H Q =
 Q x2 H :=
  (AtJ_eq Pg Hs 60 [1, 1, 1, 0, 0, 1, 0, 1] Q _ H).trans (by kernel_rfl)
theorem f60_j25_eq (x2 : AV) (H : Heap) (Q : Post) : f60_j25 x2 H Q =
 Q x2 H :=
  (AtJ_eq Pg Hs 60 [1, 1, 1, 0, 0, 1, 1, 1, 0, 1] Q _ H).trans (by kernel_rfl)
theorem f60_j28_eq (x1 : List AV) (x3 : AV) (x59 : AV) (H : Heap) (Q : Post) : f60_j28 x1 x3 x59 H Q =
 cndA x59
 (ob (binA Pg .neq 3 true x3 (I 1)) fun r40 =>
 cndA r40
 (Q (B false) H)
 (f60_l63 x1 x3 (I 0) H Q))
 (ob (partA false 0 1 x1) fun r41 =>
 ob (binA Pg .geq 3 true r41 (I 4)) fun r42 =>
 cndA r42
 (ob (partA false 0 1 x1) fun r43 =>
 ob (binA Pg .leq 3 true r43 (I 14)) fun r44 =>
 f60_j38 x1 x3 r44 H Q)
 (f60_j38 x1 x3 (B false) H Q)) :=
  (AtJ_eq Pg Hs 60 [1, 1, 1, 0, 0, 1, 1, 1, 1, 1] Q _ H).trans (by kernel_rfl)
theorem f60_l63_eq (x1 : List AV) (x3 : AV) (x4 : AV) (H : Heap) (Q : Post) : f60_l63 x1 x3 x4 H Q =
 ob (binA Pg .lss 3 false x4 x3) fun r45 =>
 cndA r45
 (ob (partA false 6 1 x1) fun r46 =>
 ob (ixaA 7 r46 x4) fun c47 =>
 ob (partA true 0 7 c47) fun r48 =>
 E 60 [r48] H fun r49 H50 =>
 ob (unA .not r49) fun r51 =>
 cndA r51
 (f60_c21_16a x1 x3 x4 H50 Q)
 (ob (partA false 0 1 x1) fun r52 =>
 ob (binA Pg .eql 3 true r52 (I 16)) fun r53 =>
 cndA r53
 (f60_c21_16b x1 x3 x4 H50 Q)
 (ob (partA false 0 1 x1) fun r54 =>
 ob (binA Pg .eql 3 true r54 (I 17)) fun r55 =>
 f60_c21_16c x1 x3 x4 r55 H50 Q)))
 (Q (B true) H) :=
  (AtF_eq Pg Hs 60 [1, 1, 1, 1, 0, 1, 0] Q _ H).trans (by kernel_rfl)
theorem f60_j38_eq (x1 : List AV) (x3 : AV) (x70 : AV) (H : Heap) (Q : Post) : f60_j38 x1 x3 x70 H Q =
 cndA x70
 (ob (binA Pg .neq 3 true x3 (I 2)) fun r56 =>
 cndA r56
 (Q (B false) H)
 (f60_l63 x1 x3 (I 0) H Q))
 (ob (partA false 0 1 x1) fun r57 =>
 ob (binA Pg .eql 3 true r57 (I 16)) fun r58 =>
 cndA r58
 (f60_j48 x1 x3 (B true) H Q)
 (ob (partA false 0 1 x1) fun r59 =>
 ob (binA Pg .eql 3 true r59 (I 17)) fun r60 =>
 f60_j48 x1 x3 r60 H Q)) :=
  (AtJ_eq Pg Hs 60 [1, 1, 1, 0, 0, 1, 1, 1, 1, 1, 1, 1] Q _ H).trans (by kernel_rfl)
theorem f60_c21_16a_eq (x1 : List AV) (x3 : AV) (x4 : AV) (H : Heap) (Q : Post) : f60_c21_16a x1 x3 x4 H Q =
 f60_c21_27a x1 x3 x4 H Q :=
  (AtJ_eq Pg Hs 60 [1, 1, 1, 1, 0, 1, 0, 0, 1, 0, 0, 0, 16] Q _ H).trans (by kernel_rfl)
theorem f60_c21_16b_eq (x1 : List AV) (x3 : AV) (x4 : AV) (H : Heap) (Q : Post) : f60_c21_16b x1 x3 x4 H Q =
 ob (partA false 6 1 x1) fun r61 =>
 ob (ixaA 7 r61 x4) fun c62 =>
 ob (partA false 0 1 (c62.drop 0)) fun r63 =>
 ob (partA false 0 1 x1) fun r64 =>
 ob (binA Pg .eql 3 false r63 r64) fun r65 =>
 f60_c21_27b x1 x3 x4 r65 H Q :=
  (AtJ_eq Pg Hs 60 [1, 1, 1, 1, 0, 1, 0, 0, 1, 0, 0, 0, 16] Q _ H).trans (by kernel_rfl)
theorem f60_c21_16c_eq (x1 : List AV) (x3 : AV) (x4 : AV) (x112 : AV) (H : Heap) (Q : Post) : f60_c21_16c x1 x3 x4 x112 H Q =
 cndA x112
 (ob (partA false 6 1 x1) fun r66 =>
 ob (ixaA 7 r66 x4) fun c67 =>
 ob (partA false 0 1 (c67.drop 0)) fun r68 =>
 ob (partA false 0 1 x1) fun r69 =>
 ob (binA Pg .eql 3 false r68 r69) fun r70 =>
 f60_c21_27b x1 x3 x4 r70 H Q)
 (f60_c21_27c x1 x3 x4 H Q) :=
  (AtJ_eq Pg Hs 60 [1, 1, 1, 1, 0, 1, 0, 0, 1, 0, 0, 0, 16] Q _ H).trans (by kernel_rfl)
theorem f60_j48_eq (x1 : List AV) (x3 : AV) (x81 : AV) (H : Heap) (Q : Post) : f60_j48 x1 x3 x81 H Q =
 cndA x81
 (ob (binA Pg .lss 3 true x3 (I 2)) fun r71 =>
 cndA r71
 (Q (B false) H)
 (f60_l63 x1 x3 (I 0) H Q))
 (Q (B false) H) :=
  (AtJ_eq Pg Hs 60 [1, 1, 1, 0, 0, 1, 1, 1, 1, 1, 1, 1, 1, 1] Q _ H).trans (by kernel_rfl)
theorem f60_c21_27a_eq (x1 : List AV) (x3 : AV) (x4 : AV) (H : Heap) (Q : Post) : f60_c21_27a x1 x3 x4 H Q =
 f60_j74 x1 x3 x4 (B true) H Q :=
  (AtJ_eq Pg Hs 60 [1, 1, 1, 1, 0, 1, 0, 0, 1, 0, 0, 0, 27] Q _ H).trans (by kernel_rfl)
theorem f60_c21_27b_eq (x1 : List AV) (x3 : AV) (x4 : AV) (x123 : AV) (H : Heap) (Q : Post) : f60_c21_27b x1 x3 x4 x123 H Q =
 f60_j74 x1 x3 x4 x123 H Q :=
  (AtJ_eq Pg Hs 60 [1, 1, 1, 1, 0, 1, 0, 0, 1, 0, 0, 0, 27] Q _ H).trans (by kernel_rfl)
theorem f60_c21_27c_eq (x1 : List AV) (x3 : AV) (x4 : AV) (H : Heap) (Q : Post) : f60_c21_27c x1 x3 x4 H Q =
 f60_j74 x1 x3 x4 (B false) H Q :=
  (AtJ_eq Pg Hs 60 [1, 1, 1, 1, 0, 1, 0, 0, 1, 0, 0, 0, 27] Q _ H).trans (by kernel_rfl)
theorem f60_j74_eq (x1 : List AV) (x3 : AV) (x4 : AV) (x124 : AV) (H : Heap) (Q : Post) : f60_j74 x1 x3 x4 x124 H Q =
 cndA x124
 (Q (B false) H)
 (ob (binA Pg .add 3 true x4 (I 1)) fun r72 =>
 f60_l63 x1 x3 r72 H Q) :=
  (AtJ_eq Pg Hs 60 [1, 1, 1, 1, 0, 1, 0, 0, 1, 0, 0, 1] Q _ H).trans (by kernel_rfl)
theorem f60_eq (a0 : AV) (H : Heap) (Q : Post) : E 60 [a0] H Q =
 ob (sizedA 7 a0) fun b1 =>
 ob (partA false 0 1 b1) fun r2 =>
 ob (binA Pg .neq 3 true r2 (I 1)) fun r3 =>
 cndA r3
 (ob (partA true 1 3 b1) fun r4 =>
 ob (bldA [] [(I 0), (I 0), (S ⟨#[]⟩)]) fun r5 =>
 ob (binA Pg .neq 23 false r4 r5) fun r6 =>
 f60_c1_9a b1 r6 H Q)
 (f60_c1_9b b1 H Q) :=
  Ev_eq.trans (by kernel_rfl)
/-! ### 61 (*haruspex/haruspexref10.Names).field -/
theorem f61_eq (a0 a1 a2 : AV) (H : Heap) (Q : Post) : E 61 [a0, a1, a2] H Q =
 E 17 [a0, a1] H fun r1 H2 =>
 ob (extractA r1 0) fun r3 =>
 ob (extractA r1 1) fun r4 =>
 ob (unA .not r4) fun r5 =>
 cndA r5
 (Q (AV.tup [(I 0), (I 6)]) H2)
 (ob (nilA a0) fun r6 =>
 ob (addPA r6 0) fun r7 =>
 ob (ldH H2 false 1 r7) fun r8 =>
 E 37 [r8, r3] H2 fun r9 H10 =>
 ob (extractA r9 0) fun r11 =>
 ob (extractA r9 1) fun r12 =>
 ob (nilA a0) fun r13 =>
 ob (addPA r13 0) fun r14 =>
 ob (ldH H10 false 1 r14) fun r15 =>
 ob (ixaA 2 r15 r11) fun c16 =>
 ob (partA true 0 2 c16) fun r17 =>
 E 89 [r17, a2] H10 fun r18 H19 =>
 ob (extractA r18 0) fun r20 =>
 ob (extractA r18 1) fun r21 =>
 ob (extractA r18 2) fun r22 =>
 ob (unA .not r22) fun r23 =>
 cndA r23
 (Q (AV.tup [(I 0), (I 6)]) H19)
 (Q (AV.tup [r21, (I 0)]) H19)) :=
  Ev_eq.trans (by kernel_rfl)
/-! ### 62 haruspex/haruspexref10.all -/
def f62_l6 (x0 : AV) (x1 : AV) (x5 : AV) (H : Heap) (Q : Post) : Prop := AtF Pg Hs 62 [1, 0, 1, 0] Q [(0, .val x0), (1, .val x1), (5, .val x5)] H
theorem f62_l6_eq (x0 : AV) (x1 : AV) (x5 : AV) (H : Heap) (Q : Post) : f62_l6 x0 x1 x5 H Q =
 ob (lenA x0) fun r1 =>
 ob (binA Pg .lss 3 false x5 r1) fun r2 =>
 cndA r2
 (ob (ixaA 1 x0 x5) fun c3 =>
 ob (partA false 0 1 c3) fun r4 =>
 ob (binA Pg .neq 3 false r4 x1) fun r5 =>
 cndA r5
 (Q (B false) H)
 (ob (binA Pg .add 3 true x5 (I 1)) fun r6 =>
 f62_l6 x0 x1 r6 H Q))
 (Q (B true) H) :=
  (AtF_eq Pg Hs 62 [1, 0, 1, 0] Q _ H).trans (by kernel_rfl)
theorem f62_eq (a0 a1 : AV) (H : Heap) (Q : Post) : E 62 [a0, a1] H Q =
 f62_l6 a0 a1 (I 0) H Q :=
  Ev_eq.trans (by kernel_rfl)
/-! ### 63 haruspex/eval.field -/
theorem f63_eq (a0 a1 : AV) (H : Heap) (Q : Post) : E 63 [a0, a1] H Q =
 ob (sizedA 7 a0) fun b1 =>
 ob (partA false 4 1 b1) fun r2 =>
 ob (partA false 5 1 b1) fun r3 =>
 callA (Ev Pg Hs) a1 [r2, r3] H fun r4 H5 =>
 ob (extractA r4 0) fun r6 =>
 ob (extractA r4 1) fun r7 =>
 ob (sizedA 3 r6) fun b8 =>
 ob (spliceA 0 b8 [(I 0), (I 0), (S ⟨#[]⟩)]) fun b9 =>
 ob (unA .not r7) fun r10 =>
 cndA r10
 (E 43 [] H5 fun r11 H12 =>
 ob (sizedA 3 r11) fun b13 =>
 ob (spliceA 0 b13 [(I 0), (I 0), (S ⟨#[]⟩)]) fun b14 =>
 ob (partA true 0 3 b14) fun r15 =>
 Q (AV.tup [r15, (I 6)]) H12)
 (ob (partA true 0 3 b9) fun r16 =>
 E 73 [r16] H5 fun r17 H18 =>
 ob (unA .not r17) fun r19 =>
 cndA r19
 (E 43 [] H18 fun r20 H21 =>
 ob (sizedA 3 r20) fun b22 =>
 ob (spliceA 0 b22 [(I 0), (I 0), (S ⟨#[]⟩)]) fun b23 =>
 ob (partA true 0 3 b23) fun r24 =>
 Q (AV.tup [r24, (I 1)]) H21)
 (ob (partA true 0 3 b9) fun r25 =>
 ob (sizedA 3 r25) fun b26 =>
 ob (spliceA 0 b26 [(I 0), (I 0), (S ⟨#[]⟩)]) fun b27 =>
 ob (partA true 0 3 b27) fun r28 =>
 Q (AV.tup [r28, (I 0)]) H18)) :=
  Ev_eq.trans (by kernel_rfl)
/-! ### 64 haruspex/eval.logic -/
def f64_l8 (x0 : AV) (x4 : List AV) (x6 : AV) (x7 : AV) (x11 : AV) (x12 : AV) (x13 : AV) (H : Heap) (Q : Post) : Prop := AtF Pg Hs 64 [1, 1, 0, 1, 0] Q [(0, .val x0), (4, .lbox x4), (6, .val x6), (7, .val x7), (11, .val x11), (12, .val x12), (13, .val x13)] H
def f64_j22 (x0 : AV) (x4 : List AV) (x6 : AV) (x7 : AV) (x9 : List AV) (x11 : AV) (x12 : AV) (x13 : AV) (x24 : AV) (H : Heap) (Q : Post) : Prop := AtJ Pg Hs 64 [1, 1, 0, 1, 0, 0, 1, 1, 0, 0, 1, 0, 1] Q [(0, .val x0), (4, .lbox x4), (6, .val x6), (7, .val x7), (9, .lbox x9), (11, .val x11), (12, .val x12), (13, .val x13), (24, .val x24)] H
theorem f64_l8_eq (x0 : AV) (x4 : List AV) (x6 : AV) (x7 : AV) (x11 : AV) (x12 : AV) (x13 : AV) (H : Heap) (Q : Post) : f64_l8 x0 x4 x6 x7 x11 x12 x13 H Q =
 ob (binA Pg .lss 3 false x13 x12) fun r2 =>
 cndA r2
 (ob (ixaA 3 x11 x13) fun c3 =>
 ob (partA true 0 3 c3) fun r4 =>
 ob (sizedA 3 r4) fun b5 =>
 ob (spliceA 0 b5 [(I 0), (I 0), (S ⟨#[]⟩)]) fun b6 =>
 ob (partA true 0 3 b6) fun r7 =>
 E 90 [r7] H fun r8 H9 =>
 ob (unA .not r8) fun r10 =>
 cndA r10
 (ob (partA false 0 1 b6) fun r11 =>
 ob (binA Pg .neq 3 true r11 (I 1)) fun r12 =>
 f64_j22 x0 x4 x6 x7 b6 x11 x12 x13 r12 H9 Q)
 (f64_j22 x0 x4 x6 x7 b6 x11 x12 x13 (B false) H9 Q))
 (ob (binA Pg .eql 3 true x0 (I 15)) fun r13 =>
 cndA r13
 (ob (unA .not x6) fun r14 =>
 E 46 [r14] H fun r15 H16 =>
 ob (sizedA 3 r15) fun b17 =>
 ob (spliceA 0 b17 x4) fun b18 =>
 ob (partA true 0 3 b18) fun r19 =>
 Q (AV.tup [r19, (I 0)]) H16)
 (ob (binA Pg .eql 3 true x0 (I 16)) fun r20 =>
 cndA r20
 (E 46 [x7] H fun r21 H22 =>
 ob (sizedA 3 r21) fun b23 =>
 ob (spliceA 0 b23 x4) fun b24 =>
 ob (partA true 0 3 b24) fun r25 =>
 Q (AV.tup [r25, (I 0)]) H22)
 (E 46 [x6] H fun r26 H27 =>
 ob (sizedA 3 r26) fun b28 =>
 ob (spliceA 0 b28 x4) fun b29 =>
 ob (partA true 0 3 b29) fun r30 =>
 Q (AV.tup [r30, (I 0)]) H27))) :=
  (AtF_eq Pg Hs 64 [1, 1, 0, 1, 0] Q _ H).trans (by kernel_rfl)
theorem f64_j22_eq (x0 : AV) (x4 : List AV) (x6 : AV) (x7 : AV) (x9 : List AV) (x11 : AV) (x12 : AV) (x13 : AV) (x24 : AV) (H : Heap) (Q : Post) : f64_j22 x0 x4 x6 x7 x9 x11 x12 x13 x24 H Q =
 cndA x24
 (E 43 [] H fun r31 H32 =>
 ob (sizedA 3 r31) fun b33 =>
 ob (spliceA 0 b33 x4) fun b34 =>
 ob (partA true 0 3 b34) fun r35 =>
 Q (AV.tup [r35, (I 5)]) H32)
 (ob (partA true 0 3 x9) fun r36 =>
 E 46 [(B true)] H fun r37 H38 =>
 ob (binA Pg .eql 23 false r36 r37) fun r39 =>
 cndA x6
 (cndA x7
 (ob (binA Pg .add 3 true x13 (I 1)) fun r40 =>
 f64_l8 x0 x4 (B true) r39 x11 x12 r40 H38 Q)
 (ob (binA Pg .add 3 true x13 (I 1)) fun r41 =>
 f64_l8 x0 x4 (B true) (B false) x11 x12 r41 H38 Q))
 (cndA x7
 (ob (binA Pg .add 3 true x13 (I 1)) fun r42 =>
 f64_l8 x0 x4 r39 r39 x11 x12 r42 H38 Q)
 (ob (binA Pg .add 3 true x13 (I 1)) fun r43 =>
 f64_l8 x0 x4 r39 (B false) x11 x12 r43 H38 Q))) :=
  (AtJ_eq Pg Hs 64 [1, 1, 0, 1, 0, 0, 1, 1, 0, 0, 1, 0, 1] Q _ H).trans (by kernel_rfl)
theorem f64_eq (a0 a1 : AV) (H : Heap) (Q : Post) : E 64 [a0, a1] H Q =
 ob (lenA a1) fun r1 =>
 f64_l8 a0 [(I 0), (I 0), (S ⟨#[]⟩)] (B false) (B true) a1 r1 (I 0) H Q :=
  Ev_eq.trans (by kernel_rfl)
/-! ### 65 haruspex/eval.number -/
def f65_l16 (x0 : AV) (x4 : List AV) (x6 : AV) (x14 : AV) (x15 : AV) (x16 : AV) (H : Heap) (Q : Post) : Prop := AtF Pg Hs 65 [1, 1, 1, 0, 1, 0] Q [(0, .val x0), (4, .lbox x4), (6, .val x6), (14, .val x14), (15, .val x15), (16, .val x16)] H
theorem f65_l16_eq (x0 : AV) (x4 : List AV) (x6 : AV) (x14 : AV) (x15 : AV) (x16 : AV) (H : Heap) (Q : Post) : f65_l16 x0 x4 x6 x14 x15 x16 H Q =
 ob (binA Pg .lss 3 false x16 x15) fun r9 =>
 cndA r9
 (ob (ixaA 3 x14 x16) fun c10 =>
 ob (partA true 0 3 c10) fun r11 =>
 ob (sizedA 3 r11) fun b12 =>
 ob (spliceA 0 b12 [(I 0), (I 0), (S ⟨#[]⟩)]) fun b13 =>
 ob (partA false 0 1 b13) fun r14 =>
 ob (binA Pg .neq 3 true r14 (I 2)) fun r15 =>
 cndA r15
 (E 43 [] H fun r16 H17 =>
 ob (sizedA 3 r16) fun b18 =>
 ob (spliceA 0 b18 x4) fun b19 =>
 ob (partA true 0 3 b19) fun r20 =>
 Q (AV.tup [r20, (I 5)]) H17)
 (ob (partA false 1 1 b13) fun r21 =>
 ob (mkSlA 1 [r21]) fun r22 =>
 appA 1 8 x6 r22 H fun r23 H24 =>
 ob (binA Pg .add 3 true x16 (I 1)) fun r25 =>
 f65_l16 x0 x4 r23 x14 x15 r25 H24 Q))
 (E 92 [x0, x6] H fun r26 H27 =>
 ob (extractA r26 0) fun r28 =>
 ob (extractA r26 1) fun r29 =>
 ob (binA Pg .neq 32 true r29 (I 0)) fun r30 =>
 cndA r30
 (E 43 [] H27 fun r31 H32 =>
 ob (sizedA 3 r31) fun b33 =>
 ob (spliceA 0 b33 x4) fun b34 =>
 ob (partA true 0 3 b34) fun r35 =>
 Q (AV.tup [r35, r29]) H32)
 (E 93 [r28] H27 fun r36 H37 =>
 ob (sizedA 3 r36) fun b38 =>
 ob (spliceA 0 b38 x4) fun b39 =>
 ob (partA true 0 3 b39) fun r40 =>
 Q (AV.tup [r40, (I 0)]) H37)) :=
  (AtF_eq Pg Hs 65 [1, 1, 1, 0, 1, 0] Q _ H).trans (by kernel_rfl)
theorem f65_eq (a0 a1 : AV) (H : Heap) (Q : Post) : E 65 [a0, a1] H Q =
 E 91 [a1, (AV.fn (.func 90) [] [])] H fun r1 H2 =>
 cndA r1
 (E 43 [] H2 fun r3 H4 =>
 ob (sizedA 3 r3) fun b5 =>
 ob (spliceA 0 b5 [(I 0), (I 0), (S ⟨#[]⟩)]) fun b6 =>
 ob (partA true 0 3 b6) fun r7 =>
 Q (AV.tup [r7, (I 0)]) H4)
 (ob (lenA a1) fun r8 =>
 f65_l16 a0 [(I 0), (I 0), (S ⟨#[]⟩)] (AV.sl 0 true .full []) a1 r8 (I 0) H2 Q) :=
  Ev_eq.trans (by kernel_rfl)
/-! ### 66 haruspex/eval.compared -/
def f66_j55 (x6 : List AV) (x9 : AV) (H : Heap) (Q : Post) : Prop := AtJ Pg Hs 66 [1, 0, 1, 1, 1, 1] Q [(6, .lbox x6), (9, .val x9)] H
def f66_j24 (x0 : AV) (x4 : List AV) (x5 : List AV) (x6 : List AV) (x8 : AV) (x9 : AV) (x19 : AV) (H : Heap) (Q : Post) : Prop := AtJ Pg Hs 66 [1, 0, 1, 1, 1, 0, 1, 0, 1, 1, 1, 1, 0, 1] Q [(0, .val x0), (4, .lbox x4), (5, .lbox x5), (6, .lbox x6), (8, .val x8), (9, .val x9), (19, .val x19)] H
theorem f66_j55_eq (x6 : List AV) (x9 : AV) (H : Heap) (Q : Post) : f66_j55 x6 x9 H Q =
 E 46 [x9] H fun r17 H18 =>
 ob (sizedA 3 r17) fun b19 =>
 ob (spliceA 0 b19 x6) fun b20 =>
 ob (partA true 0 3 b20) fun r21 =>
 Q (AV.tup [r21, (I 0)]) H18 :=
  (AtJ_eq Pg Hs 66 [1, 0, 1, 1, 1, 1] Q _ H).trans (by kernel_rfl)
theorem f66_j24_eq (x0 : AV) (x4 : List AV) (x5 : List AV) (x6 : List AV) (x8 : AV) (x9 : AV) (x19 : AV) (H : Heap) (Q : Post) : f66_j24 x0 x4 x5 x6 x8 x9 x19 H Q =
 cndA x19
 (f66_j55 x6 x9 H Q)
 (ob (partA true 0 3 x4) fun r22 =>
 ob (partA true 0 3 x5) fun r23 =>
 E 95 [r22, r23] H fun r24 H25 =>
 ob (unA .not r24) fun r26 =>
 cndA r26
 (E 43 [] H25 fun r27 H28 =>
 ob (sizedA 3 r27) fun b29 =>
 ob (spliceA 0 b29 x6) fun b30 =>
 ob (partA true 0 3 b30) fun r31 =>
 Q (AV.tup [r31, (I 5)]) H28)
 (ob (binA Pg .eql 3 true x0 (I 11)) fun r32 =>
 cndA r32
 (ob (binA Pg .lss 3 true x8 (I 0)) fun r33 =>
 f66_j55 x6 r33 H25 Q)
 (ob (binA Pg .eql 3 true x0 (I 13)) fun r34 =>
 cndA r34
 (ob (binA Pg .gtr 3 true x8 (I 0)) fun r35 =>
 f66_j55 x6 r35 H25 Q)
 (ob (binA Pg .eql 3 true x0 (I 12)) fun r36 =>
 cndA r36
 (ob (binA Pg .leq 3 true x8 (I 0)) fun r37 =>
 f66_j55 x6 r37 H25 Q)
 (ob (binA Pg .geq 3 true x8 (I 0)) fun r38 =>
 f66_j55 x6 r38 H25 Q))))) :=
  (AtJ_eq Pg Hs 66 [1, 0, 1, 1, 1, 0, 1, 0, 1, 1, 1, 1, 0, 1] Q _ H).trans (by kernel_rfl)
theorem f66_eq (a0 a1 a2 : AV) (H : Heap) (Q : Post) : E 66 [a0, a1, a2] H Q =
 ob (sizedA 3 a1) fun b1 =>
 ob (sizedA 3 a2) fun b2 =>
 ob (partA true 0 3 b1) fun r3 =>
 ob (partA true 0 3 b2) fun r4 =>
 E 94 [r3, r4] H fun r5 H6 =>
 ob (binA Pg .eql 3 true a0 (I 9)) fun r7 =>
 cndA r7
 (ob (binA Pg .eql 3 true r5 (I 0)) fun r8 =>
 f66_j55 [(I 0), (I 0), (S ⟨#[]⟩)] r8 H6 Q)
 (ob (binA Pg .eql 3 true a0 (I 10)) fun r9 =>
 cndA r9
 (ob (binA Pg .neq 3 true r5 (I 0)) fun r10 =>
 f66_j55 [(I 0), (I 0), (S ⟨#[]⟩)] r10 H6 Q)
 (ob (partA true 0 3 b1) fun r11 =>
 E 90 [r11] H6 fun r12 H13 =>
 cndA r12
 (f66_j24 a0 b1 b2 [(I 0), (I 0), (S ⟨#[]⟩)] r5 (B false) (B true) H13 Q)
 (ob (partA true 0 3 b2) fun r14 =>
 E 90 [r14] H13 fun r15 H16 =>
 f66_j24 a0 b1 b2 [(I 0), (I 0), (S ⟨#[]⟩)] r5 (B false) r15 H16 Q))) :=
  Ev_eq.trans (by kernel_rfl)
/-! ### 67 haruspex/haruspexref06.Right -/
def f67_j11 (x2 : AV) (H : Heap) (Q : Post) : Prop := AtJ Pg Hs 67 [1, 0, 1, 0, 1, 0, 1] Q [(2, .val x2)] H
def f67_j17 (x2 : AV) (H : Heap) (Q : Post) : Prop := AtJ Pg Hs 67 [1, 0, 1, 0, 1, 1, 1, 0, 1] Q [(2, .val x2)] H
def f67_j29 (x2 : AV) (H : Heap) (Q : Post) : Prop := AtJ Pg Hs 67 [1, 0, 1, 0, 1, 1, 1, 1, 1, 1, 1, 0, 1] Q [(2, .val x2)] H
theorem f67_j11_eq (x2 : AV) (H : Heap) (Q : Post) : f67_j11 x2 H Q =
 Q x2 H :=
  (AtJ_eq Pg Hs 67 [1, 0, 1, 0, 1, 0, 1] Q _ H).trans (by kernel_rfl)
theorem f67_j17_eq (x2 : AV) (H : Heap) (Q : Post) : f67_j17 x2 H Q =
 Q x2 H :=
  (AtJ_eq Pg Hs 67 [1, 0, 1, 0, 1, 1, 1, 0, 1] Q _ H).trans (by kernel_rfl)
theorem f67_j29_eq (x2 : AV) (H : Heap) (Q : Post) : f67_j29 x2 H Q =
 Q x2 H :=
  (AtJ_eq Pg Hs 67 [1, 0, 1, 0, 1, 1, 1, 1, 1, 1, 1, 0, 1] Q _ H).trans (by kernel_rfl)
theorem f67_eq (a0 : AV) (H : Heap) (Q : Post) : E 67 [a0] H Q =
 ob (sizedA 3 a0) fun b1 =>
 ob (partA false 0 1 b1) fun r2 =>
 ob (binA Pg .eql 3 true r2 (I 0)) fun r3 =>
 cndA r3
 (ob (partA false 1 1 b1) fun r4 =>
 ob (binA Pg .eql 2 true r4 (I 0)) fun r5 =>
 cndA r5
 (ob (partA false 2 1 b1) fun r6 =>
 ob (binA Pg .eql 9 true r6 (S ⟨#[]⟩)) fun r7 =>
 f67_j11 r7 H Q)
 (f67_j11 (B false) H Q))
 (ob (binA Pg .eql 3 true r2 (I 1)) fun r8 =>
 cndA r8
 (ob (partA false 1 1 b1) fun r9 =>
 ob (binA Pg .eql 2 true r9 (I 0)) fun r10 =>
 cndA r10
 (ob (partA false 2 1 b1) fun r11 =>
 ob (binA Pg .eql 9 true r11 (S ⟨#[]⟩)) fun r12 =>
 f67_j17 r12 H Q)
 (ob (partA false 1 1 b1) fun r13 =>
 ob (binA Pg .eql 2 true r13 (I 1)) fun r14 =>
 cndA r14
 (ob (partA false 2 1 b1) fun r15 =>
 ob (binA Pg .eql 9 true r15 (S ⟨#[]⟩)) fun r16 =>
 f67_j17 r16 H Q)
 (f67_j17 (B false) H Q)))
 (ob (binA Pg .eql 3 true r2 (I 2)) fun r17 =>
 cndA r17
 (ob (partA false 2 1 b1) fun r18 =>
 ob (binA Pg .eql 9 true r18 (S ⟨#[]⟩)) fun r19 =>
 Q r19 H)
 (ob (binA Pg .eql 3 true r2 (I 3)) fun r20 =>
 cndA r20
 (ob (partA false 1 1 b1) fun r21 =>
 ob (binA Pg .eql 2 true r21 (I 0)) fun r22 =>
 cndA r22
 (ob (partA false 2 1 b1) fun r23 =>
 ob (lenSA r23) fun r24 =>
 ob (binA Pg .leq 3 true r24 (I 256)) fun r25 =>
 f67_j29 r25 H Q)
 (f67_j29 (B false) H Q))
 (Q (B false) H)))) :=
  Ev_eq.trans (by kernel_rfl)
/-! ### 68 haruspex/haruspexref11.number -/
def f68_l6 (x0 : AV) (x1 : AV) (x4 : List AV) (x6 : AV) (H : Heap) (Q : Post) : Prop := AtF Pg Hs 68 [1, 0, 1, 0] Q [(0, .val x0), (1, .val x1), (4, .lbox x4), (6, .val x6)] H
def f68_l27 (x0 : AV) (x1 : AV) (x4 : List AV) (x7 : AV) (H : Heap) (Q : Post) : Prop := AtF Pg Hs 68 [1, 1, 0, 1, 0] Q [(0, .val x0), (1, .val x1), (4, .lbox x4), (7, .val x7)] H
theorem f68_l6_eq (x0 : AV) (x1 : AV) (x4 : List AV) (x6 : AV) (H : Heap) (Q : Post) : f68_l6 x0 x1 x4 x6 H Q =
 ob (lenA x1) fun r1 =>
 ob (binA Pg .lss 3 false x6 r1) fun r2 =>
 cndA r2
 (ob (ixaA 3 x1 x6) fun c3 =>
 ob (partA false 0 1 (c3.drop 0)) fun r4 =>
 ob (binA Pg .eql 3 true r4 (I 0)) fun r5 =>
 cndA r5
 (ob (bldA [] [(I 0), (I 0), (S ⟨#[]⟩)]) fun r6 =>
 ob (sizedA 3 r6) fun b7 =>
 ob (spliceA 0 b7 x4) fun b8 =>
 ob (partA true 0 3 b8) fun r9 =>
 Q (AV.tup [r9, (I 0)]) H)
 (ob (binA Pg .add 3 true x6 (I 1)) fun r10 =>
 f68_l6 x0 x1 x4 r10 H Q))
 (f68_l27 x0 x1 x4 (I 0) H Q) :=
  (AtF_eq Pg Hs 68 [1, 0, 1, 0] Q _ H).trans (by kernel_rfl)
theorem f68_l27_eq (x0 : AV) (x1 : AV) (x4 : List AV) (x7 : AV) (H : Heap) (Q : Post) : f68_l27 x0 x1 x4 x7 H Q =
 ob (lenA x1) fun r11 =>
 ob (binA Pg .lss 3 false x7 r11) fun r12 =>
 cndA r12
 (ob (ixaA 3 x1 x7) fun c13 =>
 ob (partA false 0 1 (c13.drop 0)) fun r14 =>
 ob (binA Pg .neq 3 true r14 (I 2)) fun r15 =>
 cndA r15
 (ob (bldA [] [(I 0), (I 0), (S ⟨#[]⟩)]) fun r16 =>
 ob (sizedA 3 r16) fun b17 =>
 ob (spliceA 0 b17 x4) fun b18 =>
 ob (partA true 0 3 b18) fun r19 =>
 Q (AV.tup [r19, (I 5)]) H)
 (ob (binA Pg .add 3 true x7 (I 1)) fun r20 =>
 f68_l27 x0 x1 x4 r20 H Q))
 (ob (ixaA 3 x1 (I 0)) fun c21 =>
 ob (partA false 0 1 (c21.drop 1)) fun r22 =>
 ob (lenA x1) fun r23 =>
 ob (binA Pg .sub 3 true r23 (I 1)) fun r24 =>
 ob (ixaA 3 x1 r24) fun c25 =>
 ob (partA false 0 1 (c25.drop 1)) fun r26 =>
 E 96 [x0, r22, r26] H fun r27 H28 =>
 ob (extractA r27 0) fun r29 =>
 ob (extractA r27 1) fun r30 =>
 ob (binA Pg .neq 3 true r30 (I 0)) fun r31 =>
 cndA r31
 (ob (bldA [] [(I 0), (I 0), (S ⟨#[]⟩)]) fun r32 =>
 ob (sizedA 3 r32) fun b33 =>
 ob (spliceA 0 b33 x4) fun b34 =>
 ob (partA true 0 3 b34) fun r35 =>
 Q (AV.tup [r35, r30]) H28)
 (E 97 [r29] H28 fun r36 H37 =>
 ob (sizedA 3 r36) fun b38 =>
 ob (spliceA 0 b38 x4) fun b39 =>
 ob (partA true 0 3 b39) fun r40 =>
 Q (AV.tup [r40, (I 0)]) H37)) :=
  (AtF_eq Pg Hs 68 [1, 1, 0, 1, 0] Q _ H).trans (by kernel_rfl)
theorem f68_eq (a0 a1 : AV) (H : Heap) (Q : Post) : E 68 [a0, a1] H Q =
 f68_l6 a0 a1 [(I 0), (I 0), (S ⟨#[]⟩)] (I 0) H Q :=
  Ev_eq.trans (by kernel_rfl)
/-! ### 69 haruspex/haruspexref11.compared -/
def f69_j24 (x0 : AV) (x4 : List AV) (x5 : List AV) (x6 : List AV) (x8 : AV) (x30 : AV) (H : Heap) (Q : Post) : Prop := AtJ Pg Hs 69 [1, 1, 1, 0, 1] Q [(0, .val x0), (4, .lbox x4), (5, .lbox x5), (6, .lbox x6), (8, .val x8), (30, .val x30)] H
def f69_j32 (x0 : AV) (x6 : List AV) (x8 : AV) (x46 : AV) (H : Heap) (Q : Post) : Prop := AtJ Pg Hs 69 [1, 1, 1, 1, 0, 1] Q [(0, .val x0), (6, .lbox x6), (8, .val x8), (46, .val x46)] H
theorem f69_j24_eq (x0 : AV) (x4 : List AV) (x5 : List AV) (x6 : List AV) (x8 : AV) (x30 : AV) (H : Heap) (Q : Post) : f69_j24 x0 x4 x5 x6 x8 x30 H Q =
 cndA x30
 (E 47 [(B false)] H fun r25 H26 =>
 ob (sizedA 3 r25) fun b27 =>
 ob (spliceA 0 b27 x6) fun b28 =>
 ob (partA true 0 3 b28) fun r29 =>
 Q (AV.tup [r29, (I 0)]) H26)
 (ob (partA false 0 1 x4) fun r30 =>
 ob (partA false 0 1 x5) fun r31 =>
 ob (binA Pg .neq 3 false r30 r31) fun r32 =>
 cndA r32
 (f69_j32 x0 x6 x8 (B true) H Q)
 (ob (partA false 0 1 x4) fun r33 =>
 ob (binA Pg .neq 3 true r33 (I 2)) fun r34 =>
 cndA r34
 (ob (partA false 0 1 x4) fun r35 =>
 ob (binA Pg .neq 3 true r35 (I 3)) fun r36 =>
 f69_j32 x0 x6 x8 r36 H Q)
 (f69_j32 x0 x6 x8 (B false) H Q))) :=
  (AtJ_eq Pg Hs 69 [1, 1, 1, 0, 1] Q _ H).trans (by kernel_rfl)
theorem f69_j32_eq (x0 : AV) (x6 : List AV) (x8 : AV) (x46 : AV) (H : Heap) (Q : Post) : f69_j32 x0 x6 x8 x46 H Q =
 cndA x46
 (ob (bldA [] [(I 0), (I 0), (S ⟨#[]⟩)]) fun r37 =>
 ob (sizedA 3 r37) fun b38 =>
 ob (spliceA 0 b38 x6) fun b39 =>
 ob (partA true 0 3 b39) fun r40 =>
 Q (AV.tup [r40, (I 5)]) H)
 (ob (binA Pg .eql 3 true x0 (I 11)) fun r41 =>
 cndA r41
 (ob (binA Pg .lss 3 true x8 (I 0)) fun r42 =>
 E 47 [r42] H fun r43 H44 =>
 ob (sizedA 3 r43) fun b45 =>
 ob (spliceA 0 b45 x6) fun b46 =>
 ob (partA true 0 3 b46) fun r47 =>
 Q (AV.tup [r47, (I 0)]) H44)
 (ob (binA Pg .eql 3 true x0 (I 12)) fun r48 =>
 cndA r48
 (ob (binA Pg .leq 3 true x8 (I 0)) fun r49 =>
 E 47 [r49] H fun r50 H51 =>
 ob (sizedA 3 r50) fun b52 =>
 ob (spliceA 0 b52 x6) fun b53 =>
 ob (partA true 0 3 b53) fun r54 =>
 Q (AV.tup [r54, (I 0)]) H51)
 (ob (binA Pg .eql 3 true x0 (I 13)) fun r55 =>
 cndA r55
 (ob (binA Pg .gtr 3 true x8 (I 0)) fun r56 =>
 E 47 [r56] H fun r57 H58 =>
 ob (sizedA 3 r57) fun b59 =>
 ob (spliceA 0 b59 x6) fun b60 =>
 ob (partA true 0 3 b60) fun r61 =>
 Q (AV.tup [r61, (I 0)]) H58)
 (ob (binA Pg .geq 3 true x8 (I 0)) fun r62 =>
 E 47 [r62] H fun r63 H64 =>
 ob (sizedA 3 r63) fun b65 =>
 ob (spliceA 0 b65 x6) fun b66 =>
 ob (partA true 0 3 b66) fun r67 =>
 Q (AV.tup [r67, (I 0)]) H64)))) :=
  (AtJ_eq Pg Hs 69 [1, 1, 1, 1, 0, 1] Q _ H).trans (by kernel_rfl)
theorem f69_eq (a0 a1 a2 : AV) (H : Heap) (Q : Post) : E 69 [a0, a1, a2] H Q =
 ob (sizedA 3 a1) fun b1 =>
 ob (sizedA 3 a2) fun b2 =>
 ob (partA true 0 3 b1) fun r3 =>
 ob (partA true 0 3 b2) fun r4 =>
 E 98 [r3, r4] H fun r5 H6 =>
 ob (binA Pg .eql 3 true a0 (I 9)) fun r7 =>
 cndA r7
 (ob (binA Pg .eql 3 true r5 (I 0)) fun r8 =>
 E 47 [r8] H6 fun r9 H10 =>
 ob (sizedA 3 r9) fun b11 =>
 ob (spliceA 0 b11 [(I 0), (I 0), (S ⟨#[]⟩)]) fun b12 =>
 ob (partA true 0 3 b12) fun r13 =>
 Q (AV.tup [r13, (I 0)]) H10)
 (ob (binA Pg .eql 3 true a0 (I 10)) fun r14 =>
 cndA r14
 (ob (binA Pg .neq 3 true r5 (I 0)) fun r15 =>
 E 47 [r15] H6 fun r16 H17 =>
 ob (sizedA 3 r16) fun b18 =>
 ob (spliceA 0 b18 [(I 0), (I 0), (S ⟨#[]⟩)]) fun b19 =>
 ob (partA true 0 3 b19) fun r20 =>
 Q (AV.tup [r20, (I 0)]) H17)
 (ob (partA false 0 1 b1) fun r21 =>
 ob (binA Pg .eql 3 true r21 (I 0)) fun r22 =>
 cndA r22
 (f69_j24 a0 b1 b2 [(I 0), (I 0), (S ⟨#[]⟩)] r5 (B true) H6 Q)
 (ob (partA false 0 1 b2) fun r23 =>
 ob (binA Pg .eql 3 true r23 (I 0)) fun r24 =>
 f69_j24 a0 b1 b2 [(I 0), (I 0), (S ⟨#[]⟩)] r5 r24 H6 Q))) :=
  Ev_eq.trans (by kernel_rfl)
/-! ### 70 haruspex/haruspexref11.logic -/
def f70_l10 (x0 : AV) (x1 : AV) (x4 : List AV) (x6 : AV) (x7 : AV) (x8 : AV) (H : Heap) (Q : Post) : Prop := AtF Pg Hs 70 [1, 1, 1, 0, 1, 0] Q [(0, .val x0), (1, .val x1), (4, .lbox x4), (6, .val x6), (7, .val x7), (8, .val x8)] H
def f70_j22 (x0 : AV) (x1 : AV) (x4 : List AV) (x6 : AV) (x7 : AV) (x8 : AV) (x29 : AV) (H : Heap) (Q : Post) : Prop := AtJ Pg Hs 70 [1, 1, 1, 0, 1, 0, 0, 1, 0, 0, 0, 1] Q [(0, .val x0), (1, .val x1), (4, .lbox x4), (6, .val x6), (7, .val x7), (8, .val x8), (29, .val x29)] H
def f70_j31 (x0 : AV) (x1 : AV) (x4 : List AV) (x6 : AV) (x7 : AV) (x8 : AV) (x9 : AV) (H : Heap) (Q : Post) : Prop := AtJ Pg Hs 70 [1, 1, 1, 0, 1, 0, 0, 1, 0, 0, 1, 1, 1] Q [(0, .val x0), (1, .val x1), (4, .lbox x4), (6, .val x6), (7, .val x7), (8, .val x8), (9, .val x9)] H
theorem f70_l10_eq (x0 : AV) (x1 : AV) (x4 : List AV) (x6 : AV) (x7 : AV) (x8 : AV) (H : Heap) (Q : Post) : f70_l10 x0 x1 x4 x6 x7 x8 H Q =
 ob (lenA x1) fun r1 =>
 ob (binA Pg .lss 3 false x8 r1) fun r2 =>
 cndA r2
 (ob (ixaA 3 x1 x8) fun c3 =>
 ob (partA false 0 1 (c3.drop 0)) fun r4 =>
 ob (binA Pg .neq 3 true r4 (I 0)) fun r5 =>
 cndA r5
 (ob (ixaA 3 x1 x8) fun c6 =>
 ob (partA false 0 1 (c6.drop 0)) fun r7 =>
 ob (binA Pg .neq 3 true r7 (I 1)) fun r8 =>
 f70_j22 x0 x1 x4 x6 x7 x8 r8 H Q)
 (f70_j22 x0 x1 x4 x6 x7 x8 (B false) H Q))
 (ob (binA Pg .eql 3 true x0 (I 15)) fun r9 =>
 cndA r9
 (ob (unA .not x7) fun r10 =>
 E 47 [r10] H fun r11 H12 =>
 ob (sizedA 3 r11) fun b13 =>
 ob (spliceA 0 b13 x4) fun b14 =>
 ob (partA true 0 3 b14) fun r15 =>
 Q (AV.tup [r15, (I 0)]) H12)
 (ob (binA Pg .eql 3 true x0 (I 16)) fun r16 =>
 cndA r16
 (E 47 [x6] H fun r17 H18 =>
 ob (sizedA 3 r17) fun b19 =>
 ob (spliceA 0 b19 x4) fun b20 =>
 ob (partA true 0 3 b20) fun r21 =>
 Q (AV.tup [r21, (I 0)]) H18)
 (E 47 [x7] H fun r22 H23 =>
 ob (sizedA 3 r22) fun b24 =>
 ob (spliceA 0 b24 x4) fun b25 =>
 ob (partA true 0 3 b25) fun r26 =>
 Q (AV.tup [r26, (I 0)]) H23))) :=
  (AtF_eq Pg Hs 70 [1, 1, 1, 0, 1, 0] Q _ H).trans (by kernel_rfl)
theorem f70_j22_eq (x0 : AV) (x1 : AV) (x4 : List AV) (x6 : AV) (x7 : AV) (x8 : AV) (x29 : AV) (H : Heap) (Q : Post) : f70_j22 x0 x1 x4 x6 x7 x8 x29 H Q =
 cndA x29
 (ob (bldA [] [(I 0), (I 0), (S ⟨#[]⟩)]) fun r27 =>
 ob (sizedA 3 r27) fun b28 =>
 ob (spliceA 0 b28 x4) fun b29 =>
 ob (partA true 0 3 b29) fun r30 =>
 Q (AV.tup [r30, (I 5)]) H)
 (ob (ixaA 3 x1 x8) fun c31 =>
 ob (partA false 0 1 (c31.drop 1)) fun r32 =>
 ob (binA Pg .eql 2 true r32 (I 1)) fun r33 =>
 cndA x6
 (f70_j31 x0 x1 x4 r33 x7 x8 r33 H Q)
 (f70_j31 x0 x1 x4 (B false) x7 x8 r33 H Q)) :=
  (AtJ_eq Pg Hs 70 [1, 1, 1, 0, 1, 0, 0, 1, 0, 0, 0, 1] Q _ H).trans (by kernel_rfl)
theorem f70_j31_eq (x0 : AV) (x1 : AV) (x4 : List AV) (x6 : AV) (x7 : AV) (x8 : AV) (x9 : AV) (H : Heap) (Q : Post) : f70_j31 x0 x1 x4 x6 x7 x8 x9 H Q =
 cndA x7
 (ob (binA Pg .add 3 true x8 (I 1)) fun r34 =>
 f70_l10 x0 x1 x4 x6 (B true) r34 H Q)
 (ob (binA Pg .add 3 true x8 (I 1)) fun r35 =>
 f70_l10 x0 x1 x4 x6 x9 r35 H Q) :=
  (AtJ_eq Pg Hs 70 [1, 1, 1, 0, 1, 0, 0, 1, 0, 0, 1, 1, 1] Q _ H).trans (by kernel_rfl)
theorem f70_eq (a0 a1 : AV) (H : Heap) (Q : Post) : E 70 [a0, a1] H Q =
 f70_l10 a0 a1 [(I 0), (I 0), (S ⟨#[]⟩)] (B true) (B false) (I 0) H Q :=
  Ev_eq.trans (by kernel_rfl)
/-! ### 71 haruspex/expr.nodes$1 -/
theorem f71_eq (a0 a1 : AV) (H : Heap) (Q : Post) : E 71 [a0, a1] H Q =
 ob (sizedA 1 a0) fun b1 =>
 newH H b1 fun r2 H3 =>
 newH H3 [(AV.raw .nilFunc)] fun r4 H5 =>
 ob (stH H5 1 r4 (AV.fn (.func 72) [] [r2, r4])) fun H6 =>
 ob (ldH H6 false 1 r4) fun r7 =>
 ob (ldH H6 true 7 a1) fun r8 =>
 callA (Ev Pg Hs) r7 [(I 1), r8] H6 fun r9 H10 =>
 Q (AV.tup []) H10 :=
  Ev_eq.trans (by kernel_rfl)
/-! ### 72 haruspex/expr.nodes$1$1 -/
def f72_l14 (x0 : AV) (x3 : AV) (x15 : AV) (x16 : AV) (x17 : AV) (H : Heap) (Q : Post) : Prop := AtF Pg Hs 72 [1, 1, 0, 1, 0] Q [(0, .val x0), (3, .val x3), (15, .val x15), (16, .val x16), (17, .val x17)] H
theorem f72_l14_eq (x0 : AV) (x3 : AV) (x15 : AV) (x16 : AV) (x17 : AV) (H : Heap) (Q : Post) : f72_l14 x0 x3 x15 x16 x17 H Q =
 ob (binA Pg .lss 3 false x17 x16) fun r9 =>
 cndA r9
 (ob (ixaA 7 x15 x17) fun c10 =>
 ob (partA true 0 7 c10) fun r11 =>
 ob (sizedA 7 r11) fun b12 =>
 ob (spliceA 0 b12 [(I 0), (I 0), (I 0), (S ⟨#[]⟩), (S ⟨#[]⟩), (S ⟨#[]⟩), (AV.sl 0 true .full [])]) fun b13 =>
 ob (ldH H false 1 x3) fun r14 =>
 ob (binA Pg .add 3 true x0 (I 1)) fun r15 =>
 ob (partA true 0 7 b13) fun r16 =>
 callA (Ev Pg Hs) r14 [r15, r16] H fun r17 H18 =>
 ob (unA .not r17) fun r19 =>
 cndA r19
 (Q (B false) H18)
 (ob (binA Pg .add 3 true x17 (I 1)) fun r20 =>
 f72_l14 x0 x3 x15 x16 r20 H18 Q))
 (Q (B true) H) :=
  (AtF_eq Pg Hs 72 [1, 1, 0, 1, 0] Q _ H).trans (by kernel_rfl)
theorem f72_eq (a0 a1 a2 a3 : AV) (H : Heap) (Q : Post) : E 72 [a0, a1, a2, a3] H Q =
 ob (sizedA 7 a1) fun b1 =>
 ob (ldH H false 1 a2) fun r2 =>
 ob (partA true 0 7 b1) fun r3 =>
 callA (Ev Pg Hs) r2 [a0, r3] H fun r4 H5 =>
 ob (unA .not r4) fun r6 =>
 cndA r6
 (Q (B false) H5)
 (ob (partA false 6 1 b1) fun r7 =>
 ob (lenA r7) fun r8 =>
 f72_l14 a0 a3 r7 r8 (I 0) H5 Q) :=
  Ev_eq.trans (by kernel_rfl)
/-! ### 73 haruspex/value.Right -/
def f73_j17 (x2 : AV) (H : Heap) (Q : Post) : Prop := AtJ Pg Hs 73 [1, 0, 1, 0, 1, 1, 1, 0, 1] Q [(2, .val x2)] H
def f73_j29 (x2 : AV) (H : Heap) (Q : Post) : Prop := AtJ Pg Hs 73 [1, 0, 1, 0, 1, 1, 1, 1, 1, 1, 1, 0, 1] Q [(2, .val x2)] H
theorem f73_j17_eq (x2 : AV) (H : Heap) (Q : Post) : f73_j17 x2 H Q =
 Q x2 H :=
  (AtJ_eq Pg Hs 73 [1, 0, 1, 0, 1, 1, 1, 0, 1] Q _ H).trans (by kernel_rfl)
theorem f73_j29_eq (x2 : AV) (H : Heap) (Q : Post) : f73_j29 x2 H Q =
 Q x2 H :=
  (AtJ_eq Pg Hs 73 [1, 0, 1, 0, 1, 1, 1, 1, 1, 1, 1, 0, 1] Q _ H).trans (by kernel_rfl)
theorem f73_eq (a0 : AV) (H : Heap) (Q : Post) : E 73 [a0] H Q =
 ob (sizedA 3 a0) fun b1 =>
 ob (partA false 0 1 b1) fun r2 =>
 ob (binA Pg .eql 3 true r2 (I 0)) fun r3 =>
 cndA r3
 (ob (partA true 0 3 b1) fun r4 =>
 ob (bldA [] [(I 0), (I 0), (S ⟨#[]⟩)]) fun r5 =>
 ob (binA Pg .eql 23 false r4 r5) fun r6 =>
 Q r6 H)
 (ob (binA Pg .eql 3 true r2 (I 1)) fun r7 =>
 cndA r7
 (ob (partA false 2 1 b1) fun r8 =>
 ob (binA Pg .eql 9 true r8 (S ⟨#[]⟩)) fun r9 =>
 cndA r9
 (ob (partA false 1 1 b1) fun r10 =>
 ob (binA Pg .andNot 2 true r10 (I 1)) fun r11 =>
 ob (binA Pg .eql 2 true r11 (I 0)) fun r12 =>
 f73_j17 r12 H Q)
 (f73_j17 (B false) H Q))
 (ob (binA Pg .eql 3 true r2 (I 2)) fun r13 =>
 cndA r13
 (ob (partA false 2 1 b1) fun r14 =>
 ob (binA Pg .eql 9 true r14 (S ⟨#[]⟩)) fun r15 =>
 Q r15 H)
 (ob (binA Pg .eql 3 true r2 (I 3)) fun r16 =>
 cndA r16
 (ob (partA false 1 1 b1) fun r17 =>
 ob (binA Pg .eql 2 true r17 (I 0)) fun r18 =>
 cndA r18
 (ob (partA false 2 1 b1) fun r19 =>
 ob (lenSA r19) fun r20 =>
 ob (binA Pg .leq 3 true r20 (I 256)) fun r21 =>
 f73_j29 r21 H Q)
 (f73_j29 (B false) H Q))
 (Q (B false) H)))) :=
  Ev_eq.trans (by kernel_rfl)
/-! ### 74 haruspex/word.Name -/
def f74_l6 (x0 : AV) (x6 : AV) (H : Heap) (Q : Post) : Prop := AtF Pg Hs 74 [1, 0, 1, 0] Q [(0, .val x0), (6, .val x6)] H
def f74_j18 (x0 : AV) (x6 : AV) (x22 : AV) (H : Heap) (Q : Post) : Prop := AtJ Pg Hs 74 [1, 0, 1, 0, 0, 1, 1, 0, 1, 1] Q [(0, .val x0), (6, .val x6), (22, .val x22)] H
def f74_j25 (x2 : AV) (H : Heap) (Q : Post) : Prop := AtJ Pg Hs 74 [1, 1, 1] Q [(2, .val x2)] H
theorem f74_l6_eq (x0 : AV) (x6 : AV) (H : Heap) (Q : Post) : f74_l6 x0 x6 H Q =
 nextA x6 H fun r3 H4 =>
 ob (extractA r3 0) fun r5 =>
 cndA r5
 (ob (extractA r3 1) fun r6 =>
 ob (extractA r3 2) fun r7 =>
 E 99 [r7] H4 fun r8 H9 =>
 ob (unA .not r8) fun r10 =>
 cndA r10
 (f74_j18 x0 x6 (B true) H9 Q)
 (ob (binA Pg .eql 3 true r6 (I 0)) fun r11 =>
 cndA r11
 (E 100 [r7] H9 fun r12 H13 =>
 ob (unA .not r12) fun r14 =>
 f74_j18 x0 x6 r14 H13 Q)
 (f74_j18 x0 x6 (B false) H9 Q)))
 (ob (binA Pg .neq 9 true x0 (S ⟨#[]⟩)) fun r15 =>
 cndA r15
 (ob (lenSA x0) fun r16 =>
 ob (binA Pg .leq 3 true r16 (I 32)) fun r17 =>
 f74_j25 r17 H4 Q)
 (f74_j25 (B false) H4 Q)) :=
  (AtF_eq Pg Hs 74 [1, 0, 1, 0] Q _ H).trans (by kernel_rfl)
theorem f74_j18_eq (x0 : AV) (x6 : AV) (x22 : AV) (H : Heap) (Q : Post) : f74_j18 x0 x6 x22 H Q =
 cndA x22
 (Q (B false) H)
 (f74_l6 x0 x6 H Q) :=
  (AtJ_eq Pg Hs 74 [1, 0, 1, 0, 0, 1, 1, 0, 1, 1] Q _ H).trans (by kernel_rfl)
theorem f74_j25_eq (x2 : AV) (H : Heap) (Q : Post) : f74_j25 x2 H Q =
 Q x2 H :=
  (AtJ_eq Pg Hs 74 [1, 1, 1] Q _ H).trans (by kernel_rfl)
theorem f74_eq (a0 : AV) (H : Heap) (Q : Post) : E 74 [a0] H Q =
 rngA a0 H fun r1 H2 =>
 f74_l6 a0 r1 H2 Q :=
  Ev_eq.trans (by kernel_rfl)
/-! ### 75 haruspex/expr.bare -/
def f75_j4 (x2 : AV) (H : Heap) (Q : Post) : Prop := AtJ Pg Hs 75 [1, 1] Q [(2, .val x2)] H
theorem f75_j4_eq (x2 : AV) (H : Heap) (Q : Post) : f75_j4 x2 H Q =
 Q x2 H :=
  (AtJ_eq Pg Hs 75 [1, 1] Q _ H).trans (by kernel_rfl)
theorem f75_eq (a0 : AV) (H : Heap) (Q : Post) : E 75 [a0] H Q =
 ob (sizedA 7 a0) fun b1 =>
 ob (partA true 1 3 b1) fun r2 =>
 ob (bldA [] [(I 0), (I 0), (S ⟨#[]⟩)]) fun r3 =>
 ob (binA Pg .eql 23 false r2 r3) fun r4 =>
 cndA r4
 (ob (partA false 4 1 b1) fun r5 =>
 ob (binA Pg .eql 9 true r5 (S ⟨#[]⟩)) fun r6 =>
 cndA r6
 (ob (partA false 5 1 b1) fun r7 =>
 ob (binA Pg .eql 9 true r7 (S ⟨#[]⟩)) fun r8 =>
 f75_j4 r8 H Q)
 (f75_j4 (B false) H Q))
 (f75_j4 (B false) H Q) :=
  Ev_eq.trans (by kernel_rfl)
/-! ### 76 haruspex/expr.right$1 -/
theorem f76_eq (a0 a1 : AV) (H : Heap) (Q : Post) : E 76 [a0, a1] H Q =
 ob (sizedA 7 a0) fun b1 =>
 ob (partA false 0 1 b1) fun r2 =>
 ob (addPA a1 0) fun r3 =>
 ob (ldH H false 1 r3) fun r4 =>
 ob (binA Pg .eql 3 false r2 r4) fun r5 =>
 Q r5 H :=
  Ev_eq.trans (by kernel_rfl)
/-! ### 77 haruspex/expr.isRow -/
def f77_j4 (x2 : AV) (H : Heap) (Q : Post) : Prop := AtJ Pg Hs 77 [1, 1] Q [(2, .val x2)] H
theorem f77_j4_eq (x2 : AV) (H : Heap) (Q : Post) : f77_j4 x2 H Q =
 Q x2 H :=
  (AtJ_eq Pg Hs 77 [1, 1] Q _ H).trans (by kernel_rfl)
theorem f77_eq (a0 : AV) (H : Heap) (Q : Post) : E 77 [a0] H Q =
 ob (binA Pg .eql 3 true a0 (I 16)) fun r1 =>
 cndA r1
 (f77_j4 (B true) H Q)
 (ob (binA Pg .eql 3 true a0 (I 17)) fun r2 =>
 f77_j4 r2 H Q) :=
  Ev_eq.trans (by kernel_rfl)
/-! ### 78 slices.ContainsFunc[[]haruspex/api.Expr,haruspex/api.Expr] -/
theorem f78_eq (a0 a1 : AV) (H : Heap) (Q : Post) : E 78 [a0, a1] H Q =
 E 101 [a0, a1] H fun r1 H2 =>
 ob (binA Pg .geq 3 true r1 (I 0)) fun r3 =>
 Q r3 H2 :=
  Ev_eq.trans (by kernel_rfl)
/-! ### 79 haruspex/typing.noName -/
theorem f79_eq (_u : Unit := ()) (H : Heap) (Q : Post) : E 79 [] H Q =
 ob (bldA [(0, 1, (AV.iface 100 (I 6)))] [(AV.raw .nilIface)]) fun r1 =>
 Q (AV.iface 122 r1) H :=
  Ev_eq.trans (by kernel_rfl)
/-! ### 80 haruspex/schema.Field -/
theorem f80_eq (a0 a1 : AV) (H : Heap) (Q : Post) : E 80 [a0, a1] H Q =
 ob (sizedA 2 a0) fun b1 =>
 ob (sizedA 1 a1) fun b2 =>
 ob (partA false 1 1 b1) fun r3 =>
 newH H b2 fun r4 H5 =>
 E 102 [r3, (AV.fn (.func 103) [] [r4])] H5 fun r6 H7 =>
 ob (binA Pg .lss 3 true r6 (I 0)) fun r8 =>
 cndA r8
 (Q (AV.tup [(I 0), (I 0), (B false)]) H7)
 (ob (partA false 1 1 b1) fun r9 =>
 ob (ixaA 2 r9 r6) fun c10 =>
 ob (partA false 0 1 (c10.drop 1)) fun r11 =>
 Q (AV.tup [r6, r11, (B true)]) H7) :=
  Ev_eq.trans (by kernel_rfl)
/-! ### 81 haruspex/typing.all -/
theorem f81_eq (a0 : AV) (H : Heap) (Q : Post) : E 81 [a0] H Q =
 ob (sizedA 1 a0) fun b1 =>
 newH H b1 fun r2 H3 =>
 Q (AV.fn (.func 104) [] [r2]) H3 :=
  Ev_eq.trans (by kernel_rfl)
/-! ### 82 haruspex/typing.alike -/
def f82_j4 (x2 : AV) (H : Heap) (Q : Post) : Prop := AtJ Pg Hs 82 [1, 1] Q [(2, .val x2)] H
theorem f82_j4_eq (x2 : AV) (H : Heap) (Q : Post) : f82_j4 x2 H Q =
 Q x2 H :=
  (AtJ_eq Pg Hs 82 [1, 1] Q _ H).trans (by kernel_rfl)
theorem f82_eq (a0 : AV) (H : Heap) (Q : Post) : E 82 [a0] H Q =
 ob (ixaA 1 a0 (I 0)) fun c1 =>
 ob (partA false 0 1 c1) fun r2 =>
 ob (ixaA 1 a0 (I 1)) fun c3 =>
 ob (partA false 0 1 c3) fun r4 =>
 ob (binA Pg .eql 3 false r2 r4) fun r5 =>
 cndA r5
 (f82_j4 (B true) H Q)
 (ob (ixaA 1 a0 (I 0)) fun c6 =>
 ob (partA false 0 1 c6) fun r7 =>
 ob (binA Pg .eql 3 true r7 (I 0)) fun r8 =>
 cndA r8
 (f82_j4 (B true) H Q)
 (ob (ixaA 1 a0 (I 1)) fun c9 =>
 ob (partA false 0 1 c9) fun r10 =>
 ob (binA Pg .eql 3 true r10 (I 0)) fun r11 =>
 f82_j4 r11 H Q)) :=
  Ev_eq.trans (by kernel_rfl)
/-! ### 83 haruspex/typing.ordered -/
def f83_j4 (x2 : AV) (H : Heap) (Q : Post) : Prop := AtJ Pg Hs 83 [1, 1] Q [(2, .val x2)] H
theorem f83_j4_eq (x2 : AV) (H : Heap) (Q : Post) : f83_j4 x2 H Q =
 Q x2 H :=
  (AtJ_eq Pg Hs 83 [1, 1] Q _ H).trans (by kernel_rfl)
theorem f83_eq (a0 : AV) (H : Heap) (Q : Post) : E 83 [a0] H Q =
 E 81 [(I 2)] H fun r1 H2 =>
 callA (Ev Pg Hs) r1 [a0] H2 fun r3 H4 =>
 cndA r3
 (f83_j4 (B true) H4 Q)
 (E 81 [(I 3)] H4 fun r5 H6 =>
 callA (Ev Pg Hs) r5 [a0] H6 fun r7 H8 =>
 f83_j4 r7 H8 Q) :=
  Ev_eq.trans (by kernel_rfl)
/-! ### 85 errors.is -/
def f85_l3 (x0 : AV) (x1 : AV) (x2 : AV) (H : Heap) (Q : Post) : Prop := AtF Pg Hs 85 [1, 0] Q [(0, .val x0), (1, .val x1), (2, .val x2)] H
def f85_j8 (x0 : AV) (x1 : AV) (x2 : AV) (x19 : AV) (H : Heap) (Q : Post) : Prop := AtJ Pg Hs 85 [1, 0, 0, 0, 0, 1] Q [(0, .val x0), (1, .val x1), (2, .val x2), (19, .val x19)] H
def f85_j18 (x0 : AV) (x1 : AV) (x2 : AV) (x30 : AV) (H : Heap) (Q : Post) : Prop := AtJ Pg Hs 85 [1, 0, 0, 0, 1, 0, 1, 1] Q [(0, .val x0), (1, .val x1), (2, .val x2), (30, .val x30)] H
def f85_l49 (x1 : AV) (x2 : AV) (x43 : AV) (x44 : AV) (x45 : AV) (H : Heap) (Q : Post) : Prop := AtF Pg Hs 85 [1, 0, 0, 0, 1, 1, 1, 0, 1, 1, 1, 0, 1, 0, 1, 0] Q [(1, .val x1), (2, .val x2), (43, .val x43), (44, .val x44), (45, .val x45)] H
theorem f85_l3_eq (x0 : AV) (x1 : AV) (x2 : AV) (H : Heap) (Q : Post) : f85_l3 x0 x1 x2 H Q =
 cndA x2
 (ob (binA Pg .eql 73 false x0 x1) fun r1 =>
 f85_j8 x0 x1 x2 r1 H Q)
 (f85_j8 x0 x1 x2 (B false) H Q) :=
  (AtF_eq Pg Hs 85 [1, 0] Q _ H).trans (by kernel_rfl)
theorem f85_j8_eq (x0 : AV) (x1 : AV) (x2 : AV) (x19 : AV) (H : Heap) (Q : Post) : f85_j8 x0 x1 x2 x19 H Q =
 cndA x19
 (Q (B true) H)
 (ob (asrtA Pg 145 x0) fun r2 =>
 ob (extractA r2 0) fun r3 =>
 ob (extractA r2 1) fun r4 =>
 cndA r4
 (invA Pg (Ev Pg Hs) "Is" r3 [x1] H fun r5 H6 =>
 f85_j18 x0 x1 x2 r5 H6 Q)
 (f85_j18 x0 x1 x2 (B false) H Q)) :=
  (AtJ_eq Pg Hs 85 [1, 0, 0, 0, 0, 1] Q _ H).trans (by kernel_rfl)
theorem f85_j18_eq (x0 : AV) (x1 : AV) (x2 : AV) (x30 : AV) (H : Heap) (Q : Post) : f85_j18 x0 x1 x2 x30 H Q =
 cndA x30
 (Q (B true) H)
 (ob (asrtA Pg 148 x0) fun r7 =>
 ob (extractA r7 1) fun r8 =>
 ob (extractA r7 0) fun r9 =>
 cndA r8
 (invA Pg (Ev Pg Hs) "Unwrap" r9 [] H fun r10 H11 =>
 ob (binA Pg .eql 73 true r10 (AV.raw .nilIface)) fun r12 =>
 cndA r12
 (Q (B false) H11)
 (f85_l3 r10 x1 x2 H11 Q))
 (ob (asrtA Pg 149 x0) fun r13 =>
 ob (extractA r13 1) fun r14 =>
 ob (extractA r13 0) fun r15 =>
 cndA r14
 (invA Pg (Ev Pg Hs) "Unwrap" r15 [] H fun r16 H17 =>
 ob (lenA r16) fun r18 =>
 f85_l49 x1 x2 r16 r18 (I 0) H17 Q)
 (Q (B false) H))) :=
  (AtJ_eq Pg Hs 85 [1, 0, 0, 0, 1, 0, 1, 1] Q _ H).trans (by kernel_rfl)
theorem f85_l49_eq (x1 : AV) (x2 : AV) (x43 : AV) (x44 : AV) (x45 : AV) (H : Heap) (Q : Post) : f85_l49 x1 x2 x43 x44 x45 H Q =
 ob (binA Pg .lss 3 false x45 x44) fun r19 =>
 cndA r19
 (ob (ixaA 1 x43 x45) fun c20 =>
 ob (partA false 0 1 c20) fun r21 =>
 E 85 [r21, x1, x2] H fun r22 H23 =>
 cndA r22
 (Q (B true) H23)
 (ob (binA Pg .add 3 true x45 (I 1)) fun r24 =>
 f85_l49 x1 x2 x43 x44 r24 H23 Q))
 (Q (B false) H) :=
  (AtF_eq Pg Hs 85 [1, 0, 0, 0, 1, 1, 1, 0, 1, 1, 1, 0, 1, 0, 1, 0] Q _ H).trans (by kernel_rfl)
theorem f85_eq (a0 a1 a2 : AV) (H : Heap) (Q : Post) : E 85 [a0, a1, a2] H Q =
 f85_l3 a0 a1 a2 H Q :=
  Ev_eq.trans (by kernel_rfl)
/-! ### 86 haruspex/schema.Check$1 -/
def f86_c1_9a (x1 : AV) (x2 : List AV) (H : Heap) (Q : Post) : Prop := AtJ Pg Hs 86 [1, 0, 9] Q [(1, .val x1), (2, .lbox x2), (12, .val (B true))] H
def f86_c1_9b (x1 : AV) (x2 : List AV) (x12 : AV) (H : Heap) (Q : Post) : Prop := AtJ Pg Hs 86 [1, 0, 9] Q [(1, .val x1), (2, .lbox x2), (12, .val x12)] H
def f86_c1_14a (x1 : AV) (x2 : List AV) (H : Heap) (Q : Post) : Prop := AtJ Pg Hs 86 [1, 0, 14] Q [(1, .val x1), (2, .lbox x2), (17, .val (B true))] H
def f86_c1_14b (x1 : AV) (x2 : List AV) (x17 : AV) (H : Heap) (Q : Post) : Prop := AtJ Pg Hs 86 [1, 0, 14] Q [(1, .val x1), (2, .lbox x2), (17, .val x17)] H
def f86_c1_20a (x2 : List AV) (H : Heap) (Q : Post) : Prop := AtJ Pg Hs 86 [1, 0, 20] Q [(2, .lbox x2), (23, .val (B true))] H
def f86_c1_20b (x2 : List AV) (x23 : AV) (H : Heap) (Q : Post) : Prop := AtJ Pg Hs 86 [1, 0, 20] Q [(2, .lbox x2), (23, .val x23)] H
def f86_j4 (x3 : AV) (H : Heap) (Q : Post) : Prop := AtJ Pg Hs 86 [1, 1] Q [(3, .val x3)] H
theorem f86_c1_9a_eq (x1 : AV) (x2 : List AV) (H : Heap) (Q : Post) : f86_c1_9a x1 x2 H Q =
 f86_c1_14a x1 x2 H Q :=
  (AtJ_eq Pg Hs 86 [1, 0, 9] Q _ H).trans (by kernel_rfl)
theorem f86_c1_9b_eq (x1 : AV) (x2 : List AV) (x12 : AV) (H : Heap) (Q : Post) : f86_c1_9b x1 x2 x12 H Q =
 cndA x12
 (f86_c1_14a x1 x2 H Q)
 (ob (partA false 1 1 x2) fun r8 =>
 ob (binA Pg .gtr 3 true r8 (I 3)) fun r9 =>
 f86_c1_14b x1 x2 r9 H Q) :=
  (AtJ_eq Pg Hs 86 [1, 0, 9] Q _ H).trans (by kernel_rfl)
theorem f86_c1_14a_eq (x1 : AV) (x2 : List AV) (H : Heap) (Q : Post) : f86_c1_14a x1 x2 H Q =
 f86_c1_20a x2 H Q :=
  (AtJ_eq Pg Hs 86 [1, 0, 14] Q _ H).trans (by kernel_rfl)
theorem f86_c1_14b_eq (x1 : AV) (x2 : List AV) (x17 : AV) (H : Heap) (Q : Post) : f86_c1_14b x1 x2 x17 H Q =
 cndA x17
 (f86_c1_20a x2 H Q)
 (ob (ldH H false 1 x1) fun r10 =>
 ob (partA false 0 1 x2) fun r11 =>
 E 55 [r10, r11] H fun r12 H13 =>
 f86_c1_20b x2 r12 H13 Q) :=
  (AtJ_eq Pg Hs 86 [1, 0, 14] Q _ H).trans (by kernel_rfl)
theorem f86_c1_20a_eq (x2 : List AV) (H : Heap) (Q : Post) : f86_c1_20a x2 H Q =
 f86_j4 (B true) H Q :=
  (AtJ_eq Pg Hs 86 [1, 0, 20] Q _ H).trans (by kernel_rfl)
theorem f86_c1_20b_eq (x2 : List AV) (x23 : AV) (H : Heap) (Q : Post) : f86_c1_20b x2 x23 H Q =
 f86_j4 x23 H Q :=
  (AtJ_eq Pg Hs 86 [1, 0, 20] Q _ H).trans (by kernel_rfl)
theorem f86_j4_eq (x3 : AV) (H : Heap) (Q : Post) : f86_j4 x3 H Q =
 Q x3 H :=
  (AtJ_eq Pg Hs 86 [1, 1] Q _ H).trans (by kernel_rfl)
theorem f86_eq (a0 a1 : AV) (H : Heap) (Q : Post) : E 86 [a0, a1] H Q =
 ob (sizedA 2 a0) fun b1 =>
 ob (partA false 0 1 b1) fun r2 =>
 E 74 [r2] H fun r3 H4 =>
 ob (unA .not r3) fun r5 =>
 cndA r5
 (f86_c1_9a a1 b1 H4 Q)
 (ob (partA false 1 1 b1) fun r6 =>
 ob (binA Pg .lss 3 true r6 (I 1)) fun r7 =>
 f86_c1_9b a1 b1 r7 H4 Q) :=
  Ev_eq.trans (by kernel_rfl)
/-! ### 87 slices.ContainsFunc[[]haruspex/api.Field,haruspex/api.Field] -/
theorem f87_eq (a0 a1 : AV) (H : Heap) (Q : Post) : E 87 [a0, a1] H Q =
 E 102 [a0, a1] H fun r1 H2 =>
 ob (binA Pg .geq 3 true r1 (I 0)) fun r3 =>
 Q r3 H2 :=
  Ev_eq.trans (by kernel_rfl)
/-! ### 88 haruspex/haruspexref05.Name -/
def f88_l6 (x0 : AV) (x3 : AV) (H : Heap) (Q : Post) : Prop := AtF Pg Hs 88 [1, 0, 1, 0] Q [(0, .val x0), (3, .val x3)] H
def f88_j25 (x2 : AV) (H : Heap) (Q : Post) : Prop := AtJ Pg Hs 88 [1, 1, 1] Q [(2, .val x2)] H
theorem f88_l6_eq (x0 : AV) (x3 : AV) (H : Heap) (Q : Post) : f88_l6 x0 x3 H Q =
 ob (lenSA x0) fun r1 =>
 ob (binA Pg .lss 3 false x3 r1) fun r2 =>
 cndA r2
 (ob (ixA x0 x3) fun r3 =>
 E 107 [r3] H fun r4 H5 =>
 ob (unA .not r4) fun r6 =>
 cndA r6
 (Q (B false) H5)
 (ob (binA Pg .add 3 true x3 (I 1)) fun r7 =>
 f88_l6 x0 r7 H5 Q))
 (ob (lenSA x0) fun r8 =>
 ob (binA Pg .geq 3 true r8 (I 1)) fun r9 =>
 cndA r9
 (ob (lenSA x0) fun r10 =>
 ob (binA Pg .leq 3 true r10 (I 32)) fun r11 =>
 cndA r11
 (ob (ixA x0 (I 0)) fun r12 =>
 E 108 [r12] H fun r13 H14 =>
 f88_j25 r13 H14 Q)
 (f88_j25 (B false) H Q))
 (f88_j25 (B false) H Q)) :=
  (AtF_eq Pg Hs 88 [1, 0, 1, 0] Q _ H).trans (by kernel_rfl)
theorem f88_j25_eq (x2 : AV) (H : Heap) (Q : Post) : f88_j25 x2 H Q =
 Q x2 H :=
  (AtJ_eq Pg Hs 88 [1, 1, 1] Q _ H).trans (by kernel_rfl)
theorem f88_eq (a0 : AV) (H : Heap) (Q : Post) : E 88 [a0] H Q =
 f88_l6 a0 (I 0) H Q :=
  Ev_eq.trans (by kernel_rfl)
/-! ### 89 haruspex/haruspexref07.Field -/
def f89_l6 (x1 : AV) (x2 : List AV) (x7 : AV) (H : Heap) (Q : Post) : Prop := AtF Pg Hs 89 [1, 0, 1, 0] Q [(1, .val x1), (2, .lbox x2), (7, .val x7)] H
theorem f89_l6_eq (x1 : AV) (x2 : List AV) (x7 : AV) (H : Heap) (Q : Post) : f89_l6 x1 x2 x7 H Q =
 ob (partA false 1 1 x2) fun r2 =>
 ob (lenA r2) fun r3 =>
 ob (binA Pg .lss 3 false x7 r3) fun r4 =>
 cndA r4
 (ob (partA false 1 1 x2) fun r5 =>
 ob (ixaA 2 r5 x7) fun c6 =>
 ob (partA false 0 1 (c6.drop 0)) fun r7 =>
 ob (binA Pg .eql 9 false r7 x1) fun r8 =>
 cndA r8
 (ob (partA false 1 1 x2) fun r9 =>
 ob (ixaA 2 r9 x7) fun c10 =>
 ob (partA false 0 1 (c10.drop 1)) fun r11 =>
 Q (AV.tup [x7, r11, (B true)]) H)
 (ob (binA Pg .add 3 true x7 (I 1)) fun r12 =>
 f89_l6 x1 x2 r12 H Q))
 (Q (AV.tup [(I 0), (I 0), (B false)]) H) :=
  (AtF_eq Pg Hs 89 [1, 0, 1, 0] Q _ H).trans (by kernel_rfl)
theorem f89_eq (a0 a1 : AV) (H : Heap) (Q : Post) : E 89 [a0, a1] H Q =
 ob (sizedA 2 a0) fun b1 =>
 f89_l6 a1 b1 (I 0) H Q :=
  Ev_eq.trans (by kernel_rfl)
/-! ### 90 haruspex/eval.isNull -/
theorem f90_eq (a0 : AV) (H : Heap) (Q : Post) : E 90 [a0] H Q =
 ob (sizedA 3 a0) fun b1 =>
 ob (partA false 0 1 b1) fun r2 =>
 ob (binA Pg .eql 3 true r2 (I 0)) fun r3 =>
 Q r3 H :=
  Ev_eq.trans (by kernel_rfl)
/-! ### 91 slices.ContainsFunc[[]haruspex/api.Value,haruspex/api.Value] -/
theorem f91_eq (a0 a1 : AV) (H : Heap) (Q : Post) : E 91 [a0, a1] H Q =
 E 109 [a0, a1] H fun r1 H2 =>
 ob (binA Pg .geq 3 true r1 (I 0)) fun r3 =>
 Q r3 H2 :=
  Ev_eq.trans (by kernel_rfl)
/-! ### 92 haruspex/eval.reckon -/
theorem f92_eq (a0 a1 : AV) (H : Heap) (Q : Post) : E 92 [a0, a1] H Q =
 ob (ixaA 1 a1 (I 0)) fun c1 =>
 ob (partA false 0 1 c1) fun r2 =>
 ob (lenA a1) fun r3 =>
 ob (binA Pg .sub 3 true r3 (I 1)) fun r4 =>
 ob (ixaA 1 a1 r4) fun c5 =>
 ob (partA false 0 1 c5) fun r6 =>
 ob (binA Pg .eql 3 true a0 (I 3)) fun r7 =>
 cndA r7
 (E 110 [r2] H fun r8 H9 =>
 ob (extractA r8 0) fun r10 =>
 ob (extractA r8 1) fun r11 =>
 Q (AV.tup [r10, r11]) H9)
 (ob (binA Pg .eql 3 true a0 (I 4)) fun r12 =>
 cndA r12
 (E 111 [r2, r6] H fun r13 H14 =>
 ob (extractA r13 0) fun r15 =>
 ob (extractA r13 1) fun r16 =>
 Q (AV.tup [r15, r16]) H14)
 (ob (binA Pg .eql 3 true a0 (I 5)) fun r17 =>
 cndA r17
 (E 112 [r2, r6] H fun r18 H19 =>
 ob (extractA r18 0) fun r20 =>
 ob (extractA r18 1) fun r21 =>
 Q (AV.tup [r20, r21]) H19)
 (ob (binA Pg .eql 3 true a0 (I 6)) fun r22 =>
 cndA r22
 (E 113 [r2, r6] H fun r23 H24 =>
 ob (extractA r23 0) fun r25 =>
 ob (extractA r23 1) fun r26 =>
 Q (AV.tup [r25, r26]) H24)
 (ob (binA Pg .eql 3 true a0 (I 7)) fun r27 =>
 cndA r27
 (E 114 [r2, r6] H fun r28 H29 =>
 ob (extractA r28 0) fun r30 =>
 ob (extractA r28 1) fun r31 =>
 Q (AV.tup [r30, r31]) H29)
 (E 115 [r2, r6] H fun r32 H33 =>
 ob (extractA r32 0) fun r34 =>
 ob (extractA r32 1) fun r35 =>
 Q (AV.tup [r34, r35]) H33))))) :=
  Ev_eq.trans (by kernel_rfl)
/-! ### 93 haruspex/value.Int -/
theorem f93_eq (a0 : AV) (H : Heap) (Q : Post) : E 93 [a0] H Q =
 ob (bldA [(0, 1, (I 2)), (1, 1, a0)] [(I 0), (I 0), (S ⟨#[]⟩)]) fun r1 =>
 ob (sizedA 3 r1) fun b2 =>
 ob (spliceA 0 b2 [(I 0), (I 0), (S ⟨#[]⟩)]) fun b3 =>
 ob (partA true 0 3 b3) fun r4 =>
 Q r4 H :=
  Ev_eq.trans (by kernel_rfl)
/-! ### 94 haruspex/value.Order -/
theorem f94_eq (a0 a1 : AV) (H : Heap) (Q : Post) : E 94 [a0, a1] H Q =
 ob (sizedA 3 a0) fun b1 =>
 ob (sizedA 3 a1) fun b2 =>
 ob (partA false 0 1 b1) fun r3 =>
 ob (partA false 0 1 b2) fun r4 =>
 E 116 [r3, r4] H fun r5 H6 =>
 ob (binA Pg .neq 3 true r5 (I 0)) fun r7 =>
 cndA r7
 (Q r5 H6)
 (ob (partA false 1 1 b1) fun r8 =>
 ob (partA false 1 1 b2) fun r9 =>
 E 117 [r8, r9] H6 fun r10 H11 =>
 ob (binA Pg .neq 3 true r10 (I 0)) fun r12 =>
 cndA r12
 (Q r10 H11)
 (ob (partA false 2 1 b1) fun r13 =>
 ob (partA false 2 1 b2) fun r14 =>
 E 118 [r13, r14] H11 fun r15 H16 =>
 Q r15 H16)) :=
  Ev_eq.trans (by kernel_rfl)
/-! ### 95 haruspex/eval.ordered -/
def f95_j4 (x4 : AV) (H : Heap) (Q : Post) : Prop := AtJ Pg Hs 95 [1, 1] Q [(4, .val x4)] H
theorem f95_j4_eq (x4 : AV) (H : Heap) (Q : Post) : f95_j4 x4 H Q =
 Q x4 H :=
  (AtJ_eq Pg Hs 95 [1, 1] Q _ H).trans (by kernel_rfl)
theorem f95_eq (a0 a1 : AV) (H : Heap) (Q : Post) : E 95 [a0, a1] H Q =
 ob (sizedA 3 a0) fun b1 =>
 ob (sizedA 3 a1) fun b2 =>
 ob (partA false 0 1 b1) fun r3 =>
 ob (partA false 0 1 b2) fun r4 =>
 ob (binA Pg .eql 3 false r3 r4) fun r5 =>
 cndA r5
 (ob (partA false 0 1 b1) fun r6 =>
 ob (binA Pg .eql 3 true r6 (I 2)) fun r7 =>
 cndA r7
 (f95_j4 (B true) H Q)
 (ob (partA false 0 1 b1) fun r8 =>
 ob (binA Pg .eql 3 true r8 (I 3)) fun r9 =>
 f95_j4 r9 H Q))
 (f95_j4 (B false) H Q) :=
  Ev_eq.trans (by kernel_rfl)
/-! ### 96 haruspex/haruspexref11.reckon -/
theorem f96_eq (a0 a1 a2 : AV) (H : Heap) (Q : Post) : E 96 [a0, a1, a2] H Q =
 ob (binA Pg .eql 3 true a0 (I 3)) fun r1 =>
 cndA r1
 (E 119 [a1] H fun r2 H3 =>
 ob (extractA r2 0) fun r4 =>
 ob (extractA r2 1) fun r5 =>
 Q (AV.tup [r4, r5]) H3)
 (ob (binA Pg .eql 3 true a0 (I 4)) fun r6 =>
 cndA r6
 (E 120 [a1, a2] H fun r7 H8 =>
 ob (extractA r7 0) fun r9 =>
 ob (extractA r7 1) fun r10 =>
 Q (AV.tup [r9, r10]) H8)
 (ob (binA Pg .eql 3 true a0 (I 5)) fun r11 =>
 cndA r11
 (E 121 [a1, a2] H fun r12 H13 =>
 ob (extractA r12 0) fun r14 =>
 ob (extractA r12 1) fun r15 =>
 Q (AV.tup [r14, r15]) H13)
 (ob (binA Pg .eql 3 true a0 (I 6)) fun r16 =>
 cndA r16
 (E 122 [a1, a2] H fun r17 H18 =>
 ob (extractA r17 0) fun r19 =>
 ob (extractA r17 1) fun r20 =>
 Q (AV.tup [r19, r20]) H18)
 (ob (binA Pg .eql 3 true a0 (I 7)) fun r21 =>
 cndA r21
 (E 123 [a1, a2] H fun r22 H23 =>
 ob (extractA r22 0) fun r24 =>
 ob (extractA r22 1) fun r25 =>
 Q (AV.tup [r24, r25]) H23)
 (E 124 [a1, a2] H fun r26 H27 =>
 ob (extractA r26 0) fun r28 =>
 ob (extractA r26 1) fun r29 =>
 Q (AV.tup [r28, r29]) H27))))) :=
  Ev_eq.trans (by kernel_rfl)
/-! ### 97 haruspex/haruspexref06.Int -/
theorem f97_eq (a0 : AV) (H : Heap) (Q : Post) : E 97 [a0] H Q =
 ob (bldA [(0, 1, (I 2)), (1, 1, a0)] [(I 0), (I 0), (S ⟨#[]⟩)]) fun r1 =>
 ob (sizedA 3 r1) fun b2 =>
 ob (spliceA 0 b2 [(I 0), (I 0), (S ⟨#[]⟩)]) fun b3 =>
 ob (partA true 0 3 b3) fun r4 =>
 Q r4 H :=
  Ev_eq.trans (by kernel_rfl)
/-! ### 98 haruspex/haruspexref06.Order -/
def f98_c3_30a (x2 : List AV) (x3 : List AV) (H : Heap) (Q : Post) : Prop := AtJ Pg Hs 98 [1, 1, 0, 0, 30] Q [(2, .lbox x2), (3, .lbox x3), (13, .val (B true)), (19, .nov), (25, .nov), (37, .nov)] H
def f98_c3_30b (x2 : List AV) (x3 : List AV) (H : Heap) (Q : Post) : Prop := AtJ Pg Hs 98 [1, 1, 0, 0, 30] Q [(2, .lbox x2), (3, .lbox x3), (13, .val (B false)), (19, .val (B true)), (25, .val (B true)), (37, .nov)] H
def f98_c3_30c (x2 : List AV) (x3 : List AV) (x37 : AV) (H : Heap) (Q : Post) : Prop := AtJ Pg Hs 98 [1, 1, 0, 0, 30] Q [(2, .lbox x2), (3, .lbox x3), (13, .val (B false)), (19, .val (B true)), (25, .val (B false)), (37, .val x37)] H
def f98_c3_30d (x2 : List AV) (x3 : List AV) (H : Heap) (Q : Post) : Prop := AtJ Pg Hs 98 [1, 1, 0, 0, 30] Q [(2, .lbox x2), (3, .lbox x3), (13, .val (B false)), (19, .val (B true)), (25, .val (B false)), (37, .val (B false))] H
def f98_c3_30e (x2 : List AV) (x3 : List AV) (H : Heap) (Q : Post) : Prop := AtJ Pg Hs 98 [1, 1, 0, 0, 30] Q [(2, .lbox x2), (3, .lbox x3), (13, .val (B false)), (19, .val (B false)), (25, .nov), (37, .nov)] H
def f98_c3_31a (x2 : List AV) (x3 : List AV) (H : Heap) (Q : Post) : Prop := AtJ Pg Hs 98 [1, 1, 0, 0, 31] Q [(2, .lbox x2), (3, .lbox x3), (13, .val (B true)), (19, .nov), (38, .nov)] H
def f98_c3_31b (x2 : List AV) (x3 : List AV) (H : Heap) (Q : Post) : Prop := AtJ Pg Hs 98 [1, 1, 0, 0, 31] Q [(2, .lbox x2), (3, .lbox x3), (13, .val (B false)), (19, .val (B true)), (38, .val (B true))] H
def f98_c3_31c (x2 : List AV) (x3 : List AV) (x38 : AV) (H : Heap) (Q : Post) : Prop := AtJ Pg Hs 98 [1, 1, 0, 0, 31] Q [(2, .lbox x2), (3, .lbox x3), (13, .val (B false)), (19, .val (B true)), (38, .val x38)] H
def f98_c3_31d (x2 : List AV) (x3 : List AV) (H : Heap) (Q : Post) : Prop := AtJ Pg Hs 98 [1, 1, 0, 0, 31] Q [(2, .lbox x2), (3, .lbox x3), (13, .val (B false)), (19, .val (B true)), (38, .val (B false))] H
def f98_c3_31e (x2 : List AV) (x3 : List AV) (H : Heap) (Q : Post) : Prop := AtJ Pg Hs 98 [1, 1, 0, 0, 31] Q [(2, .lbox x2), (3, .lbox x3), (13, .val (B false)), (19, .val (B false)), (38, .nov)] H
def f98_c3_32a (x2 : List AV) (x3 : List AV) (H : Heap) (Q : Post) : Prop := AtJ Pg Hs 98 [1, 1, 0, 0, 32] Q [(2, .lbox x2), (3, .lbox x3), (13, .val (B true)), (39, .nov)] H
def f98_c3_32b (x2 : List AV) (x3 : List AV) (H : Heap) (Q : Post) : Prop := AtJ Pg Hs 98 [1, 1, 0, 0, 32] Q [(2, .lbox x2), (3, .lbox x3), (13, .val (B false)), (39, .val (B true))] H
def f98_c3_32c (x2 : List AV) (x3 : List AV) (x39 : AV) (H : Heap) (Q : Post) : Prop := AtJ Pg Hs 98 [1, 1, 0, 0, 32] Q [(2, .lbox x2), (3, .lbox x3), (13, .val (B false)), (39, .val x39)] H
def f98_c3_32d (x2 : List AV) (x3 : List AV) (H : Heap) (Q : Post) : Prop := AtJ Pg Hs 98 [1, 1, 0, 0, 32] Q [(2, .lbox x2), (3, .lbox x3), (13, .val (B false)), (39, .val (B false))] H
def f98_j13 (x40 : AV) (H : Heap) (Q : Post) : Prop := AtJ Pg Hs 98 [1, 1, 0, 1] Q [(40, .val x40)] H
theorem f98_c3_30a_eq (x2 : List AV) (x3 : List AV) (H : Heap) (Q : Post) : f98_c3_30a x2 x3 H Q =
 f98_c3_31a x2 x3 H Q :=
  (AtJ_eq Pg Hs 98 [1, 1, 0, 0, 30] Q _ H).trans (by kernel_rfl)
theorem f98_c3_30b_eq (x2 : List AV) (x3 : List AV) (H : Heap) (Q : Post) : f98_c3_30b x2 x3 H Q =
 f98_c3_31b x2 x3 H Q :=
  (AtJ_eq Pg Hs 98 [1, 1, 0, 0, 30] Q _ H).trans (by kernel_rfl)
theorem f98_c3_30c_eq (x2 : List AV) (x3 : List AV) (x37 : AV) (H : Heap) (Q : Post) : f98_c3_30c x2 x3 x37 H Q =
 f98_c3_31c x2 x3 x37 H Q :=
  (AtJ_eq Pg Hs 98 [1, 1, 0, 0, 30] Q _ H).trans (by kernel_rfl)
theorem f98_c3_30d_eq (x2 : List AV) (x3 : List AV) (H : Heap) (Q : Post) : f98_c3_30d x2 x3 H Q =
 f98_c3_31d x2 x3 H Q :=
  (AtJ_eq Pg Hs 98 [1, 1, 0, 0, 30] Q _ H).trans (by kernel_rfl)
theorem f98_c3_30e_eq (x2 : List AV) (x3 : List AV) (H : Heap) (Q : Post) : f98_c3_30e x2 x3 H Q =
 f98_c3_31e x2 x3 H Q :=
  (AtJ_eq Pg Hs 98 [1, 1, 0, 0, 30] Q _ H).trans (by kernel_rfl)
theorem f98_c3_31a_eq (x2 : List AV) (x3 : List AV) (H : Heap) (Q : Post) : f98_c3_31a x2 x3 H Q =
 f98_c3_32a x2 x3 H Q :=
  (AtJ_eq Pg Hs 98 [1, 1, 0, 0, 31] Q _ H).trans (by kernel_rfl)
theorem f98_c3_31b_eq (x2 : List AV) (x3 : List AV) (H : Heap) (Q : Post) : f98_c3_31b x2 x3 H Q =
 f98_c3_32b x2 x3 H Q :=
  (AtJ_eq Pg Hs 98 [1, 1, 0, 0, 31] Q _ H).trans (by kernel_rfl)
theorem f98_c3_31c_eq (x2 : List AV) (x3 : List AV) (x38 : AV) (H : Heap) (Q : Post) : f98_c3_31c x2 x3 x38 H Q =
 f98_c3_32c x2 x3 x38 H Q :=
  (AtJ_eq Pg Hs 98 [1, 1, 0, 0, 31] Q _ H).trans (by kernel_rfl)
theorem f98_c3_31d_eq (x2 : List AV) (x3 : List AV) (H : Heap) (Q : Post) : f98_c3_31d x2 x3 H Q =
 f98_c3_32d x2 x3 H Q :=
  (AtJ_eq Pg Hs 98 [1, 1, 0, 0, 31] Q _ H).trans (by kernel_rfl)
theorem f98_c3_31e_eq (x2 : List AV) (x3 : List AV) (H : Heap) (Q : Post) : f98_c3_31e x2 x3 H Q =
 f98_c3_32d x2 x3 H Q :=
  (AtJ_eq Pg Hs 98 [1, 1, 0, 0, 31] Q _ H).trans (by kernel_rfl)
theorem f98_c3_32a_eq (x2 : List AV) (x3 : List AV) (H : Heap) (Q : Post) : f98_c3_32a x2 x3 H Q =
 f98_j13 (B true) H Q :=
  (AtJ_eq Pg Hs 98 [1, 1, 0, 0, 32] Q _ H).trans (by kernel_rfl)
theorem f98_c3_32b_eq (x2 : List AV) (x3 : List AV) (H : Heap) (Q : Post) : f98_c3_32b x2 x3 H Q =
 f98_j13 (B true) H Q :=
  (AtJ_eq Pg Hs 98 [1, 1, 0, 0, 32] Q _ H).trans (by kernel_rfl)
theorem f98_c3_32c_eq (x2 : List AV) (x3 : List AV) (x39 : AV) (H : Heap) (Q : Post) : f98_c3_32c x2 x3 x39 H Q =
 f98_j13 x39 H Q :=
  (AtJ_eq Pg Hs 98 [1, 1, 0, 0, 32] Q _ H).trans (by kernel_rfl)
theorem f98_c3_32d_eq (x2 : List AV) (x3 : List AV) (H : Heap) (Q : Post) : f98_c3_32d x2 x3 H Q =
 f98_j13 (B false) H Q :=
  (AtJ_eq Pg Hs 98 [1, 1, 0, 0, 32] Q _ H).trans (by kernel_rfl)
theorem f98_j13_eq (x40 : AV) (H : Heap) (Q : Post) : f98_j13 x40 H Q =
 cndA x40
 (Q (I (-1)) H)
 (Q (I 1) H) :=
  (AtJ_eq Pg Hs 98 [1, 1, 0, 1] Q _ H).trans (by kernel_rfl)
theorem f98_eq (a0 a1 : AV) (H : Heap) (Q : Post) : E 98 [a0, a1] H Q =
 ob (sizedA 3 a0) fun b1 =>
 ob (sizedA 3 a1) fun b2 =>
 ob (partA true 0 3 b1) fun r3 =>
 ob (partA true 0 3 b2) fun r4 =>
 ob (binA Pg .eql 23 false r3 r4) fun r5 =>
 cndA r5
 (Q (I 0) H)
 (ob (partA false 0 1 b1) fun r6 =>
 ob (partA false 0 1 b2) fun r7 =>
 ob (binA Pg .lss 3 false r6 r7) fun r8 =>
 cndA r8
 (f98_c3_30a b1 b2 H Q)
 (ob (partA false 0 1 b1) fun r9 =>
 ob (partA false 0 1 b2) fun r10 =>
 ob (binA Pg .eql 3 false r9 r10) fun r11 =>
 cndA r11
 (ob (partA false 1 1 b1) fun r12 =>
 ob (partA false 1 1 b2) fun r13 =>
 ob (binA Pg .lss 2 false r12 r13) fun r14 =>
 cndA r14
 (f98_c3_30b b1 b2 H Q)
 (ob (partA false 1 1 b1) fun r15 =>
 ob (partA false 1 1 b2) fun r16 =>
 ob (binA Pg .eql 2 false r15 r16) fun r17 =>
 cndA r17
 (ob (partA false 2 1 b1) fun r18 =>
 ob (partA false 2 1 b2) fun r19 =>
 ob (binA Pg .lss 9 false r18 r19) fun r20 =>
 f98_c3_30c b1 b2 r20 H Q)
 (f98_c3_30d b1 b2 H Q)))
 (f98_c3_30e b1 b2 H Q))) :=
  Ev_eq.trans (by kernel_rfl)
/-! ### 99 haruspex/word.isSign -/
def f99_j4 (x2 : AV) (H : Heap) (Q : Post) : Prop := AtJ Pg Hs 99 [1, 1] Q [(2, .val x2)] H
theorem f99_j4_eq (x2 : AV) (H : Heap) (Q : Post) : f99_j4 x2 H Q =
 Q x2 H :=
  (AtJ_eq Pg Hs 99 [1, 1] Q _ H).trans (by kernel_rfl)
theorem f99_eq (a0 : AV) (H : Heap) (Q : Post) : E 99 [a0] H Q =
 E 100 [a0] H fun r1 H2 =>
 cndA r1
 (f99_j4 (B true) H2 Q)
 (E 125 [a0] H2 fun r3 H4 =>
 cndA r3
 (f99_j4 (B true) H4 Q)
 (ob (binA Pg .eql 21 true a0 (AV.raw (.int .i32 95))) fun r5 =>
 f99_j4 r5 H4 Q)) :=
  Ev_eq.trans (by kernel_rfl)
/-! ### 100 haruspex/word.isLower -/
def f100_j4 (x2 : AV) (H : Heap) (Q : Post) : Prop := AtJ Pg Hs 100 [1, 1] Q [(2, .val x2)] H
theorem f100_j4_eq (x2 : AV) (H : Heap) (Q : Post) : f100_j4 x2 H Q =
 Q x2 H :=
  (AtJ_eq Pg Hs 100 [1, 1] Q _ H).trans (by kernel_rfl)
theorem f100_eq (a0 : AV) (H : Heap) (Q : Post) : E 100 [a0] H Q =
 ob (binA Pg .geq 21 true a0 (AV.raw (.int .i32 97))) fun r1 =>
 cndA r1
 (ob (binA Pg .leq 21 true a0 (AV.raw (.int .i32 122))) fun r2 =>
 f100_j4 r2 H Q)
 (f100_j4 (B false) H Q) :=
  Ev_eq.trans (by kernel_rfl)
/-! ### 101 slices.IndexFunc[[]haruspex/api.Expr,haruspex/api.Expr] -/
def f101_l6 (x0 : AV) (x1 : AV) (x7 : AV) (x8 : AV) (H : Heap) (Q : Post) : Prop := AtF Pg Hs 101 [1, 0, 1, 0] Q [(0, .val x0), (1, .val x1), (7, .val x7), (8, .val x8)] H
theorem f101_l6_eq (x0 : AV) (x1 : AV) (x7 : AV) (x8 : AV) (H : Heap) (Q : Post) : f101_l6 x0 x1 x7 x8 H Q =
 ob (binA Pg .lss 3 false x8 x7) fun r2 =>
 cndA r2
 (ob (ixaA 7 x0 x8) fun c3 =>
 ob (partA true 0 7 c3) fun r4 =>
 callA (Ev Pg Hs) x1 [r4] H fun r5 H6 =>
 cndA r5
 (Q x8 H6)
 (ob (binA Pg .add 3 true x8 (I 1)) fun r7 =>
 f101_l6 x0 x1 x7 r7 H6 Q))
 (Q (I (-1)) H) :=
  (AtF_eq Pg Hs 101 [1, 0, 1, 0] Q _ H).trans (by kernel_rfl)
theorem f101_eq (a0 a1 : AV) (H : Heap) (Q : Post) : E 101 [a0, a1] H Q =
 ob (lenA a0) fun r1 =>
 f101_l6 a0 a1 r1 (I 0) H Q :=
  Ev_eq.trans (by kernel_rfl)
/-! ### 102 slices.IndexFunc[[]haruspex/api.Field,haruspex/api.Field] -/
def f102_l6 (x0 : AV) (x1 : AV) (x7 : AV) (x8 : AV) (H : Heap) (Q : Post) : Prop := AtF Pg Hs 102 [1, 0, 1, 0] Q [(0, .val x0), (1, .val x1), (7, .val x7), (8, .val x8)] H
theorem f102_l6_eq (x0 : AV) (x1 : AV) (x7 : AV) (x8 : AV) (H : Heap) (Q : Post) : f102_l6 x0 x1 x7 x8 H Q =
 ob (binA Pg .lss 3 false x8 x7) fun r2 =>
 cndA r2
 (ob (ixaA 2 x0 x8) fun c3 =>
 ob (partA true 0 2 c3) fun r4 =>
 callA (Ev Pg Hs) x1 [r4] H fun r5 H6 =>
 cndA r5
 (Q x8 H6)
 (ob (binA Pg .add 3 true x8 (I 1)) fun r7 =>
 f102_l6 x0 x1 x7 r7 H6 Q))
 (Q (I (-1)) H) :=
  (AtF_eq Pg Hs 102 [1, 0, 1, 0] Q _ H).trans (by kernel_rfl)
theorem f102_eq (a0 a1 : AV) (H : Heap) (Q : Post) : E 102 [a0, a1] H Q =
 ob (lenA a0) fun r1 =>
 f102_l6 a0 a1 r1 (I 0) H Q :=
  Ev_eq.trans (by kernel_rfl)
/-! ### 103 haruspex/schema.Field$1 -/
theorem f103_eq (a0 a1 : AV) (H : Heap) (Q : Post) : E 103 [a0, a1] H Q =
 ob (sizedA 2 a0) fun b1 =>
 ob (partA false 0 1 b1) fun r2 =>
 ob (ldH H false 1 a1) fun r3 =>
 ob (binA Pg .eql 9 false r2 r3) fun r4 =>
 Q r4 H :=
  Ev_eq.trans (by kernel_rfl)
/-! ### 104 haruspex/typing.all$1 -/
theorem f104_eq (a0 a1 : AV) (H : Heap) (Q : Post) : E 104 [a0, a1] H Q =
 E 105 [a0, (AV.fn (.func 106) [] [a1])] H fun r1 H2 =>
 ob (unA .not r1) fun r3 =>
 Q r3 H2 :=
  Ev_eq.trans (by kernel_rfl)
/-! ### 105 slices.ContainsFunc[[]int,int] -/
theorem f105_eq (a0 a1 : AV) (H : Heap) (Q : Post) : E 105 [a0, a1] H Q =
 E 126 [a0, a1] H fun r1 H2 =>
 ob (binA Pg .geq 3 true r1 (I 0)) fun r3 =>
 Q r3 H2 :=
  Ev_eq.trans (by kernel_rfl)
/-! ### 106 haruspex/typing.all$1$1 -/
theorem f106_eq (a0 a1 : AV) (H : Heap) (Q : Post) : E 106 [a0, a1] H Q =
 ob (ldH H false 1 a1) fun r1 =>
 ob (binA Pg .neq 3 false a0 r1) fun r2 =>
 Q r2 H :=
  Ev_eq.trans (by kernel_rfl)
/-! ### 107 haruspex/haruspexref05.Sign -/
def f107_j4 (x2 : AV) (H : Heap) (Q : Post) : Prop := AtJ Pg Hs 107 [1, 1] Q [(2, .val x2)] H
theorem f107_j4_eq (x2 : AV) (H : Heap) (Q : Post) : f107_j4 x2 H Q =
 Q x2 H :=
  (AtJ_eq Pg Hs 107 [1, 1] Q _ H).trans (by kernel_rfl)
theorem f107_eq (a0 : AV) (H : Heap) (Q : Post) : E 107 [a0] H Q =
 E 108 [a0] H fun r1 H2 =>
 cndA r1
 (f107_j4 (B true) H2 Q)
 (E 127 [a0] H2 fun r3 H4 =>
 cndA r3
 (f107_j4 (B true) H4 Q)
 (ob (binA Pg .eql 5 true a0 (AV.raw (.int .u8 95))) fun r5 =>
 f107_j4 r5 H4 Q)) :=
  Ev_eq.trans (by kernel_rfl)
/-! ### 108 haruspex/haruspexref05.lower -/
def f108_j4 (x2 : AV) (H : Heap) (Q : Post) : Prop := AtJ Pg Hs 108 [1, 1] Q [(2, .val x2)] H
theorem f108_j4_eq (x2 : AV) (H : Heap) (Q : Post) : f108_j4 x2 H Q =
 Q x2 H :=
  (AtJ_eq Pg Hs 108 [1, 1] Q _ H).trans (by kernel_rfl)
theorem f108_eq (a0 : AV) (H : Heap) (Q : Post) : E 108 [a0] H Q =
 ob (binA Pg .geq 5 true a0 (AV.raw (.int .u8 97))) fun r1 =>
 cndA r1
 (ob (binA Pg .leq 5 true a0 (AV.raw (.int .u8 122))) fun r2 =>
 f108_j4 r2 H Q)
 (f108_j4 (B false) H Q) :=
  Ev_eq.trans (by kernel_rfl)
/-! ### 109 slices.IndexFunc[[]haruspex/api.Value,haruspex/api.Value] -/
def f109_l6 (x0 : AV) (x1 : AV) (x7 : AV) (x8 : AV) (H : Heap) (Q : Post) : Prop := AtF Pg Hs 109 [1, 0, 1, 0] Q [(0, .val x0), (1, .val x1), (7, .val x7), (8, .val x8)] H
theorem f109_l6_eq (x0 : AV) (x1 : AV) (x7 : AV) (x8 : AV) (H : Heap) (Q : Post) : f109_l6 x0 x1 x7 x8 H Q =
 ob (binA Pg .lss 3 false x8 x7) fun r2 =>
 cndA r2
 (ob (ixaA 3 x0 x8) fun c3 =>
 ob (partA true 0 3 c3) fun r4 =>
 callA (Ev Pg Hs) x1 [r4] H fun r5 H6 =>
 cndA r5
 (Q x8 H6)
 (ob (binA Pg .add 3 true x8 (I 1)) fun r7 =>
 f109_l6 x0 x1 x7 r7 H6 Q))
 (Q (I (-1)) H) :=
  (AtF_eq Pg Hs 109 [1, 0, 1, 0] Q _ H).trans (by kernel_rfl)
theorem f109_eq (a0 a1 : AV) (H : Heap) (Q : Post) : E 109 [a0, a1] H Q =
 ob (lenA a0) fun r1 =>
 f109_l6 a0 a1 r1 (I 0) H Q :=
  Ev_eq.trans (by kernel_rfl)
/-! ### 110 haruspex/num.Neg -/
theorem f110_eq (a0 : AV) (H : Heap) (Q : Post) : E 110 [a0] H Q =
 ob (binA Pg .eql 2 true a0 (I (-9223372036854775808))) fun r1 =>
 cndA r1
 (Q (AV.tup [(I 0), (I 10)]) H)
 (ob (unA .neg a0) fun r2 =>
 Q (AV.tup [r2, (I 0)]) H) :=
  Ev_eq.trans (by kernel_rfl)
/-! ### 111 haruspex/num.Add -/
def f111_j7 (x6 : AV) (x19 : AV) (H : Heap) (Q : Post) : Prop := AtJ Pg Hs 111 [1, 1, 0, 1] Q [(6, .val x6), (19, .val x19)] H
theorem f111_j7_eq (x6 : AV) (x19 : AV) (H : Heap) (Q : Post) : f111_j7 x6 x19 H Q =
 cndA x19
 (Q (AV.tup [(I 0), (I 10)]) H)
 (Q (AV.tup [x6, (I 0)]) H) :=
  (AtJ_eq Pg Hs 111 [1, 1, 0, 1] Q _ H).trans (by kernel_rfl)
theorem f111_eq (a0 a1 : AV) (H : Heap) (Q : Post) : E 111 [a0, a1] H Q =
 ob (binA Pg .add 2 false a0 a1) fun r1 =>
 ob (binA Pg .xor 2 false a0 r1) fun r2 =>
 ob (binA Pg .lss 2 true r2 (I 0)) fun r3 =>
 cndA r3
 (ob (binA Pg .xor 2 false a1 r1) fun r4 =>
 ob (binA Pg .lss 2 true r4 (I 0)) fun r5 =>
 f111_j7 r1 r5 H Q)
 (f111_j7 r1 (B false) H Q) :=
  Ev_eq.trans (by kernel_rfl)
/-! ### 112 haruspex/num.Sub -/
def f112_j7 (x6 : AV) (x19 : AV) (H : Heap) (Q : Post) : Prop := AtJ Pg Hs 112 [1, 1, 0, 1] Q [(6, .val x6), (19, .val x19)] H
theorem f112_j7_eq (x6 : AV) (x19 : AV) (H : Heap) (Q : Post) : f112_j7 x6 x19 H Q =
 cndA x19
 (Q (AV.tup [(I 0), (I 10)]) H)
 (Q (AV.tup [x6, (I 0)]) H) :=
  (AtJ_eq Pg Hs 112 [1, 1, 0, 1] Q _ H).trans (by kernel_rfl)
theorem f112_eq (a0 a1 : AV) (H : Heap) (Q : Post) : E 112 [a0, a1] H Q =
 ob (binA Pg .sub 2 false a0 a1) fun r1 =>
 ob (binA Pg .xor 2 false a0 a1) fun r2 =>
 ob (binA Pg .lss 2 true r2 (I 0)) fun r3 =>
 cndA r3
 (ob (binA Pg .xor 2 false a0 r1) fun r4 =>
 ob (binA Pg .lss 2 true r4 (I 0)) fun r5 =>
 f112_j7 r1 r5 H Q)
 (f112_j7 r1 (B false) H Q) :=
  Ev_eq.trans (by kernel_rfl)
/-! ### 113 haruspex/num.Mul -/
def f113_c5_8a (x0 : AV) (x1 : AV) (x24 : AV) (H : Heap) (Q : Post) : Prop := AtJ Pg Hs 113 [1, 0, 1, 0, 0, 0, 0, 0, 0, 1, 0, 0, 8] Q [(0, .val x0), (1, .val x1), (24, .val x24)] H
def f113_c5_8b (x0 : AV) (x1 : AV) (H : Heap) (Q : Post) : Prop := AtJ Pg Hs 113 [1, 0, 1, 0, 0, 0, 0, 0, 0, 1, 0, 0, 8] Q [(0, .val x0), (1, .val x1), (24, .val (B false))] H
def f113_c7_8a (x0 : AV) (x1 : AV) (x42 : AV) (H : Heap) (Q : Post) : Prop := AtJ Pg Hs 113 [1, 0, 1, 0, 0, 0, 0, 1, 0, 0, 8] Q [(0, .val x0), (1, .val x1), (42, .val x42)] H
def f113_c7_8b (x0 : AV) (x1 : AV) (H : Heap) (Q : Post) : Prop := AtJ Pg Hs 113 [1, 0, 1, 0, 0, 0, 0, 1, 0, 0, 8] Q [(0, .val x0), (1, .val x1), (42, .val (B false))] H
def f113_j50 (H : Heap) (Q : Post) : Prop := AtJ Pg Hs 113 [1, 0, 1, 0, 1] Q [] H
def f113_c5_17a (x0 : AV) (x1 : AV) (H : Heap) (Q : Post) : Prop := AtJ Pg Hs 113 [1, 0, 1, 0, 0, 0, 0, 0, 0, 1, 0, 0, 17] Q [(0, .val x0), (1, .val x1), (25, .val (B true)), (33, .nov)] H
def f113_c5_17b (x0 : AV) (x1 : AV) (x33 : AV) (H : Heap) (Q : Post) : Prop := AtJ Pg Hs 113 [1, 0, 1, 0, 0, 0, 0, 0, 0, 1, 0, 0, 17] Q [(0, .val x0), (1, .val x1), (25, .val (B false)), (33, .val x33)] H
def f113_c5_17c (x0 : AV) (x1 : AV) (H : Heap) (Q : Post) : Prop := AtJ Pg Hs 113 [1, 0, 1, 0, 0, 0, 0, 0, 0, 1, 0, 0, 17] Q [(0, .val x0), (1, .val x1), (25, .val (B false)), (33, .val (B false))] H
def f113_c7_17a (x0 : AV) (x1 : AV) (H : Heap) (Q : Post) : Prop := AtJ Pg Hs 113 [1, 0, 1, 0, 0, 0, 0, 1, 0, 0, 17] Q [(0, .val x0), (1, .val x1), (43, .val (B true)), (51, .nov)] H
def f113_c7_17b (x0 : AV) (x1 : AV) (x51 : AV) (H : Heap) (Q : Post) : Prop := AtJ Pg Hs 113 [1, 0, 1, 0, 0, 0, 0, 1, 0, 0, 17] Q [(0, .val x0), (1, .val x1), (43, .val (B false)), (51, .val x51)] H
def f113_c7_17c (x0 : AV) (x1 : AV) (H : Heap) (Q : Post) : Prop := AtJ Pg Hs 113 [1, 0, 1, 0, 0, 0, 0, 1, 0, 0, 17] Q [(0, .val x0), (1, .val x1), (43, .val (B false)), (51, .val (B false))] H
def f113_j35 (x0 : AV) (x1 : AV) (x34 : AV) (H : Heap) (Q : Post) : Prop := AtJ Pg Hs 113 [1, 0, 1, 0, 0, 0, 0, 0, 0, 1, 0, 1] Q [(0, .val x0), (1, .val x1), (34, .val x34)] H
def f113_j44 (x0 : AV) (x1 : AV) (x52 : AV) (H : Heap) (Q : Post) : Prop := AtJ Pg Hs 113 [1, 0, 1, 0, 0, 0, 0, 1, 0, 1] Q [(0, .val x0), (1, .val x1), (52, .val x52)] H
theorem f113_c5_8a_eq (x0 : AV) (x1 : AV) (x24 : AV) (H : Heap) (Q : Post) : f113_c5_8a x0 x1 x24 H Q =
 cndA x24
 (f113_c5_17a x0 x1 H Q)
 (ob (binA Pg .lss 2 true x0 (I 0)) fun r15 =>
 cndA r15
 (ob (binA Pg .quo 2 true (I 9223372036854775807) x0) fun r16 =>
 ob (binA Pg .lss 2 false x1 r16) fun r17 =>
 f113_c5_17b x0 x1 r17 H Q)
 (f113_c5_17c x0 x1 H Q)) :=
  (AtJ_eq Pg Hs 113 [1, 0, 1, 0, 0, 0, 0, 0, 0, 1, 0, 0, 8] Q _ H).trans (by kernel_rfl)
theorem f113_c5_8b_eq (x0 : AV) (x1 : AV) (H : Heap) (Q : Post) : f113_c5_8b x0 x1 H Q =
 ob (binA Pg .lss 2 true x0 (I 0)) fun r18 =>
 cndA r18
 (ob (binA Pg .quo 2 true (I 9223372036854775807) x0) fun r19 =>
 ob (binA Pg .lss 2 false x1 r19) fun r20 =>
 f113_c5_17b x0 x1 r20 H Q)
 (f113_c5_17c x0 x1 H Q) :=
  (AtJ_eq Pg Hs 113 [1, 0, 1, 0, 0, 0, 0, 0, 0, 1, 0, 0, 8] Q _ H).trans (by kernel_rfl)
theorem f113_c7_8a_eq (x0 : AV) (x1 : AV) (x42 : AV) (H : Heap) (Q : Post) : f113_c7_8a x0 x1 x42 H Q =
 cndA x42
 (f113_c7_17a x0 x1 H Q)
 (ob (binA Pg .gtr 2 true x1 (I 0)) fun r21 =>
 cndA r21
 (ob (binA Pg .quo 2 true (I (-9223372036854775808)) x1) fun r22 =>
 ob (binA Pg .lss 2 false x0 r22) fun r23 =>
 f113_c7_17b x0 x1 r23 H Q)
 (f113_c7_17c x0 x1 H Q)) :=
  (AtJ_eq Pg Hs 113 [1, 0, 1, 0, 0, 0, 0, 1, 0, 0, 8] Q _ H).trans (by kernel_rfl)
theorem f113_c7_8b_eq (x0 : AV) (x1 : AV) (H : Heap) (Q : Post) : f113_c7_8b x0 x1 H Q =
 ob (binA Pg .gtr 2 true x1 (I 0)) fun r24 =>
 cndA r24
 (ob (binA Pg .quo 2 true (I (-9223372036854775808)) x1) fun r25 =>
 ob (binA Pg .lss 2 false x0 r25) fun r26 =>
 f113_c7_17b x0 x1 r26 H Q)
 (f113_c7_17c x0 x1 H Q) :=
  (AtJ_eq Pg Hs 113 [1, 0, 1, 0, 0, 0, 0, 1, 0, 0, 8] Q _ H).trans (by kernel_rfl)
theorem f113_j50_eq (H : Heap) (Q : Post) : f113_j50 H Q =
 Q (AV.tup [(I 0), (I 0)]) H :=
  (AtJ_eq Pg Hs 113 [1, 0, 1, 0, 1] Q _ H).trans (by kernel_rfl)
theorem f113_c5_17a_eq (x0 : AV) (x1 : AV) (H : Heap) (Q : Post) : f113_c5_17a x0 x1 H Q =
 f113_j35 x0 x1 (B true) H Q :=
  (AtJ_eq Pg Hs 113 [1, 0, 1, 0, 0, 0, 0, 0, 0, 1, 0, 0, 17] Q _ H).trans (by kernel_rfl)
theorem f113_c5_17b_eq (x0 : AV) (x1 : AV) (x33 : AV) (H : Heap) (Q : Post) : f113_c5_17b x0 x1 x33 H Q =
 f113_j35 x0 x1 x33 H Q :=
  (AtJ_eq Pg Hs 113 [1, 0, 1, 0, 0, 0, 0, 0, 0, 1, 0, 0, 17] Q _ H).trans (by kernel_rfl)
theorem f113_c5_17c_eq (x0 : AV) (x1 : AV) (H : Heap) (Q : Post) : f113_c5_17c x0 x1 H Q =
 f113_j35 x0 x1 (B false) H Q :=
  (AtJ_eq Pg Hs 113 [1, 0, 1, 0, 0, 0, 0, 0, 0, 1, 0, 0, 17] Q _ H).trans (by kernel_rfl)
theorem f113_c7_17a_eq (x0 : AV) (x1 : AV) (H : Heap) (Q : Post) : f113_c7_17a x0 x1 H Q =
 f113_j44 x0 x1 (B true) H Q :=
  (AtJ_eq Pg Hs 113 [1, 0, 1, 0, 0, 0, 0, 1, 0, 0, 17] Q _ H).trans (by kernel_rfl)
theorem f113_c7_17b_eq (x0 : AV) (x1 : AV) (x51 : AV) (H : Heap) (Q : Post) : f113_c7_17b x0 x1 x51 H Q =
 f113_j44 x0 x1 x51 H Q :=
  (AtJ_eq Pg Hs 113 [1, 0, 1, 0, 0, 0, 0, 1, 0, 0, 17] Q _ H).trans (by kernel_rfl)
theorem f113_c7_17c_eq (x0 : AV) (x1 : AV) (H : Heap) (Q : Post) : f113_c7_17c x0 x1 H Q =
 f113_j44 x0 x1 (B false) H Q :=
  (AtJ_eq Pg Hs 113 [1, 0, 1, 0, 0, 0, 0, 1, 0, 0, 17] Q _ H).trans (by kernel_rfl)
theorem f113_j35_eq (x0 : AV) (x1 : AV) (x34 : AV) (H : Heap) (Q : Post) : f113_j35 x0 x1 x34 H Q =
 cndA x34
 (Q (AV.tup [(I 0), (I 10)]) H)
 (ob (binA Pg .mul 2 false x0 x1) fun r27 =>
 Q (AV.tup [r27, (I 0)]) H) :=
  (AtJ_eq Pg Hs 113 [1, 0, 1, 0, 0, 0, 0, 0, 0, 1, 0, 1] Q _ H).trans (by kernel_rfl)
theorem f113_j44_eq (x0 : AV) (x1 : AV) (x52 : AV) (H : Heap) (Q : Post) : f113_j44 x0 x1 x52 H Q =
 cndA x52
 (Q (AV.tup [(I 0), (I 10)]) H)
 (ob (binA Pg .mul 2 false x0 x1) fun r28 =>
 Q (AV.tup [r28, (I 0)]) H) :=
  (AtJ_eq Pg Hs 113 [1, 0, 1, 0, 0, 0, 0, 1, 0, 1] Q _ H).trans (by kernel_rfl)
theorem f113_eq (a0 a1 : AV) (H : Heap) (Q : Post) : E 113 [a0, a1] H Q =
 E 128 [a0] H fun r1 H2 =>
 E 128 [a1] H2 fun r3 H4 =>
 ob (binA Pg .mul 3 false r1 r3) fun r5 =>
 ob (binA Pg .eql 3 true r5 (I 1)) fun r6 =>
 cndA r6
 (ob (binA Pg .gtr 2 true a0 (I 0)) fun r7 =>
 cndA r7
 (ob (binA Pg .quo 2 true (I 9223372036854775807) a0) fun r8 =>
 ob (binA Pg .gtr 2 false a1 r8) fun r9 =>
 f113_c5_8a a0 a1 r9 H4 Q)
 (f113_c5_8b a0 a1 H4 Q))
 (ob (binA Pg .eql 3 true r5 (I (-1))) fun r10 =>
 cndA r10
 (ob (binA Pg .gtr 2 true a0 (I 0)) fun r11 =>
 cndA r11
 (ob (binA Pg .quo 2 true (I (-9223372036854775808)) a0) fun r12 =>
 ob (binA Pg .lss 2 false a1 r12) fun r13 =>
 f113_c7_8a a0 a1 r13 H4 Q)
 (f113_c7_8b a0 a1 H4 Q))
 (ob (binA Pg .eql 3 true r5 (I 0)) fun r14 =>
 cndA r14
 (f113_j50 H4 Q)
 (f113_j50 H4 Q))) :=
  Ev_eq.trans (by kernel_rfl)
/-! ### 114 haruspex/num.Div -/
def f114_j16 (x0 : AV) (x1 : AV) (x9 : AV) (H : Heap) (Q : Post) : Prop := AtJ Pg Hs 114 [1, 0, 0, 0, 0, 0, 0, 1, 1] Q [(0, .val x0), (1, .val x1), (9, .val x9)] H
theorem f114_j16_eq (x0 : AV) (x1 : AV) (x9 : AV) (H : Heap) (Q : Post) : f114_j16 x0 x1 x9 H Q =
 cndA x9
 (Q (AV.tup [(I 0), (I 10)]) H)
 (ob (binA Pg .quo 2 false x0 x1) fun r4 =>
 Q (AV.tup [r4, (I 0)]) H) :=
  (AtJ_eq Pg Hs 114 [1, 0, 0, 0, 0, 0, 0, 1, 1] Q _ H).trans (by kernel_rfl)
theorem f114_eq (a0 a1 : AV) (H : Heap) (Q : Post) : E 114 [a0, a1] H Q =
 ob (binA Pg .eql 2 true a1 (I 0)) fun r1 =>
 cndA r1
 (Q (AV.tup [(I 0), (I 10)]) H)
 (ob (binA Pg .eql 2 true a0 (I (-9223372036854775808))) fun r2 =>
 cndA r2
 (ob (binA Pg .eql 2 true a1 (I (-1))) fun r3 =>
 f114_j16 a0 a1 r3 H Q)
 (f114_j16 a0 a1 (B false) H Q)) :=
  Ev_eq.trans (by kernel_rfl)
/-! ### 115 haruspex/num.Mod -/
theorem f115_eq (a0 a1 : AV) (H : Heap) (Q : Post) : E 115 [a0, a1] H Q =
 ob (binA Pg .eql 2 true a1 (I 0)) fun r1 =>
 cndA r1
 (Q (AV.tup [(I 0), (I 10)]) H)
 (ob (binA Pg .eql 2 true a1 (I (-1))) fun r2 =>
 cndA r2
 (Q (AV.tup [(I 0), (I 0)]) H)
 (ob (binA Pg .rem 2 false a0 a1) fun r3 =>
 Q (AV.tup [r3, (I 0)]) H)) :=
  Ev_eq.trans (by kernel_rfl)
/-! ### 116 cmp.Compare[int] -/
theorem f116_eq (a0 a1 : AV) (H : Heap) (Q : Post) : E 116 [a0, a1] H Q =
 E 129 [a0] H fun r1 H2 =>
 E 129 [a1] H2 fun r3 H4 =>
 cndA r1
 (cndA r3
 (Q (I 0) H4)
 (Q (I (-1)) H4))
 (cndA r3
 (Q (I 1) H4)
 (ob (binA Pg .lss 3 false a0 a1) fun r5 =>
 cndA r5
 (Q (I (-1)) H4)
 (ob (binA Pg .gtr 3 false a0 a1) fun r6 =>
 cndA r6
 (Q (I 1) H4)
 (Q (I 0) H4)))) :=
  Ev_eq.trans (by kernel_rfl)
/-! ### 117 cmp.Compare[int64] -/
theorem f117_eq (a0 a1 : AV) (H : Heap) (Q : Post) : E 117 [a0, a1] H Q =
 E 130 [a0] H fun r1 H2 =>
 E 130 [a1] H2 fun r3 H4 =>
 cndA r1
 (cndA r3
 (Q (I 0) H4)
 (Q (I (-1)) H4))
 (cndA r3
 (Q (I 1) H4)
 (ob (binA Pg .lss 2 false a0 a1) fun r5 =>
 cndA r5
 (Q (I (-1)) H4)
 (ob (binA Pg .gtr 2 false a0 a1) fun r6 =>
 cndA r6
 (Q (I 1) H4)
 (Q (I 0) H4)))) :=
  Ev_eq.trans (by kernel_rfl)
/-! ### 118 cmp.Compare[string] -/
theorem f118_eq (a0 a1 : AV) (H : Heap) (Q : Post) : E 118 [a0, a1] H Q =
 E 131 [a0] H fun r1 H2 =>
 E 131 [a1] H2 fun r3 H4 =>
 cndA r1
 (cndA r3
 (Q (I 0) H4)
 (Q (I (-1)) H4))
 (cndA r3
 (Q (I 1) H4)
 (ob (binA Pg .lss 9 false a0 a1) fun r5 =>
 cndA r5
 (Q (I (-1)) H4)
 (ob (binA Pg .gtr 9 false a0 a1) fun r6 =>
 cndA r6
 (Q (I 1) H4)
 (Q (I 0) H4)))) :=
  Ev_eq.trans (by kernel_rfl)
/-! ### 119 haruspex/haruspexref04.Neg -/
theorem f119_eq (a0 : AV) (H : Heap) (Q : Post) : E 119 [a0] H Q =
 ob (binA Pg .eql 2 true a0 (I (-9223372036854775808))) fun r1 =>
 cndA r1
 (Q (AV.tup [(I 0), (I 10)]) H)
 (ob (unA .neg a0) fun r2 =>
 Q (AV.tup [r2, (I 0)]) H) :=
  Ev_eq.trans (by kernel_rfl)
/-! ### 120 haruspex/haruspexref04.Add -/
def f120_c1_8a (x0 : AV) (x1 : AV) (x13 : AV) (H : Heap) (Q : Post) : Prop := AtJ Pg Hs 120 [1, 0, 0, 8] Q [(0, .val x0), (1, .val x1), (13, .val x13)] H
def f120_c1_8b (x0 : AV) (x1 : AV) (H : Heap) (Q : Post) : Prop := AtJ Pg Hs 120 [1, 0, 0, 8] Q [(0, .val x0), (1, .val x1), (13, .val (B false))] H
def f120_c1_17a (x0 : AV) (x1 : AV) (H : Heap) (Q : Post) : Prop := AtJ Pg Hs 120 [1, 0, 0, 17] Q [(0, .val x0), (1, .val x1), (14, .val (B true)), (22, .nov)] H
def f120_c1_17b (x0 : AV) (x1 : AV) (x22 : AV) (H : Heap) (Q : Post) : Prop := AtJ Pg Hs 120 [1, 0, 0, 17] Q [(0, .val x0), (1, .val x1), (14, .val (B false)), (22, .val x22)] H
def f120_c1_17c (x0 : AV) (x1 : AV) (H : Heap) (Q : Post) : Prop := AtJ Pg Hs 120 [1, 0, 0, 17] Q [(0, .val x0), (1, .val x1), (14, .val (B false)), (22, .val (B false))] H
def f120_j5 (x0 : AV) (x1 : AV) (x23 : AV) (H : Heap) (Q : Post) : Prop := AtJ Pg Hs 120 [1, 0, 1] Q [(0, .val x0), (1, .val x1), (23, .val x23)] H
theorem f120_c1_8a_eq (x0 : AV) (x1 : AV) (x13 : AV) (H : Heap) (Q : Post) : f120_c1_8a x0 x1 x13 H Q =
 cndA x13
 (f120_c1_17a x0 x1 H Q)
 (ob (binA Pg .lss 2 true x1 (I 0)) fun r4 =>
 cndA r4
 (ob (binA Pg .sub 2 true (I (-9223372036854775808)) x1) fun r5 =>
 ob (binA Pg .lss 2 false x0 r5) fun r6 =>
 f120_c1_17b x0 x1 r6 H Q)
 (f120_c1_17c x0 x1 H Q)) :=
  (AtJ_eq Pg Hs 120 [1, 0, 0, 8] Q _ H).trans (by kernel_rfl)
theorem f120_c1_8b_eq (x0 : AV) (x1 : AV) (H : Heap) (Q : Post) : f120_c1_8b x0 x1 H Q =
 ob (binA Pg .lss 2 true x1 (I 0)) fun r7 =>
 cndA r7
 (ob (binA Pg .sub 2 true (I (-9223372036854775808)) x1) fun r8 =>
 ob (binA Pg .lss 2 false x0 r8) fun r9 =>
 f120_c1_17b x0 x1 r9 H Q)
 (f120_c1_17c x0 x1 H Q) :=
  (AtJ_eq Pg Hs 120 [1, 0, 0, 8] Q _ H).trans (by kernel_rfl)
theorem f120_c1_17a_eq (x0 : AV) (x1 : AV) (H : Heap) (Q : Post) : f120_c1_17a x0 x1 H Q =
 f120_j5 x0 x1 (B true) H Q :=
  (AtJ_eq Pg Hs 120 [1, 0, 0, 17] Q _ H).trans (by kernel_rfl)
theorem f120_c1_17b_eq (x0 : AV) (x1 : AV) (x22 : AV) (H : Heap) (Q : Post) : f120_c1_17b x0 x1 x22 H Q =
 f120_j5 x0 x1 x22 H Q :=
  (AtJ_eq Pg Hs 120 [1, 0, 0, 17] Q _ H).trans (by kernel_rfl)
theorem f120_c1_17c_eq (x0 : AV) (x1 : AV) (H : Heap) (Q : Post) : f120_c1_17c x0 x1 H Q =
 f120_j5 x0 x1 (B false) H Q :=
  (AtJ_eq Pg Hs 120 [1, 0, 0, 17] Q _ H).trans (by kernel_rfl)
theorem f120_j5_eq (x0 : AV) (x1 : AV) (x23 : AV) (H : Heap) (Q : Post) : f120_j5 x0 x1 x23 H Q =
 cndA x23
 (Q (AV.tup [(I 0), (I 10)]) H)
 (ob (binA Pg .add 2 false x0 x1) fun r10 =>
 Q (AV.tup [r10, (I 0)]) H) :=
  (AtJ_eq Pg Hs 120 [1, 0, 1] Q _ H).trans (by kernel_rfl)
theorem f120_eq (a0 a1 : AV) (H : Heap) (Q : Post) : E 120 [a0, a1] H Q =
 ob (binA Pg .gtr 2 true a1 (I 0)) fun r1 =>
 cndA r1
 (ob (binA Pg .sub 2 true (I 9223372036854775807) a1) fun r2 =>
 ob (binA Pg .gtr 2 false a0 r2) fun r3 =>
 f120_c1_8a a0 a1 r3 H Q)
 (f120_c1_8b a0 a1 H Q) :=
  Ev_eq.trans (by kernel_rfl)
/-! ### 121 haruspex/haruspexref04.Sub -/
theorem f121_eq (a0 a1 : AV) (H : Heap) (Q : Post) : E 121 [a0, a1] H Q =
 ob (binA Pg .eql 2 true a1 (I (-9223372036854775808))) fun r1 =>
 cndA r1
 (ob (binA Pg .geq 2 true a0 (I 0)) fun r2 =>
 cndA r2
 (Q (AV.tup [(I 0), (I 10)]) H)
 (ob (binA Pg .sub 2 false a0 a1) fun r3 =>
 Q (AV.tup [r3, (I 0)]) H))
 (ob (unA .neg a1) fun r4 =>
 E 120 [a0, r4] H fun r5 H6 =>
 ob (extractA r5 0) fun r7 =>
 ob (extractA r5 1) fun r8 =>
 Q (AV.tup [r7, r8]) H6) :=
  Ev_eq.trans (by kernel_rfl)
/-! ### 122 haruspex/haruspexref04.Mul -/
def f122_j5 (x0 : AV) (x1 : AV) (x12 : AV) (H : Heap) (Q : Post) : Prop := AtJ Pg Hs 122 [1, 0, 1] Q [(0, .val x0), (1, .val x1), (12, .val x12)] H
def f122_c3_6a (x0 : AV) (x1 : AV) (x18 : AV) (H : Heap) (Q : Post) : Prop := AtJ Pg Hs 122 [1, 1, 0, 0, 6] Q [(0, .val x0), (1, .val x1), (18, .val x18)] H
def f122_c3_6b (x0 : AV) (x1 : AV) (H : Heap) (Q : Post) : Prop := AtJ Pg Hs 122 [1, 1, 0, 0, 6] Q [(0, .val x0), (1, .val x1), (18, .val (B false))] H
def f122_c3_13a (x0 : AV) (x1 : AV) (H : Heap) (Q : Post) : Prop := AtJ Pg Hs 122 [1, 1, 0, 0, 13] Q [(0, .val x0), (1, .val x1), (19, .val (B true)), (25, .nov)] H
def f122_c3_13b (x0 : AV) (x1 : AV) (x25 : AV) (H : Heap) (Q : Post) : Prop := AtJ Pg Hs 122 [1, 1, 0, 0, 13] Q [(0, .val x0), (1, .val x1), (19, .val (B false)), (25, .val x25)] H
def f122_c3_13c (x0 : AV) (x1 : AV) (H : Heap) (Q : Post) : Prop := AtJ Pg Hs 122 [1, 1, 0, 0, 13] Q [(0, .val x0), (1, .val x1), (19, .val (B false)), (25, .val (B false))] H
def f122_j13 (x0 : AV) (x1 : AV) (x26 : AV) (H : Heap) (Q : Post) : Prop := AtJ Pg Hs 122 [1, 1, 0, 1] Q [(0, .val x0), (1, .val x1), (26, .val x26)] H
def f122_c6_12a (x0 : AV) (x1 : AV) (x6 : AV) (H : Heap) (Q : Post) : Prop := AtJ Pg Hs 122 [1, 1, 1, 1, 0, 0, 12] Q [(0, .val x0), (1, .val x1), (6, .val x6), (35, .val (B true)), (41, .nov)] H
def f122_c6_12b (x0 : AV) (x1 : AV) (x6 : AV) (x41 : AV) (H : Heap) (Q : Post) : Prop := AtJ Pg Hs 122 [1, 1, 1, 1, 0, 0, 12] Q [(0, .val x0), (1, .val x1), (6, .val x6), (35, .val (B false)), (41, .val x41)] H
def f122_c6_12c (x0 : AV) (x1 : AV) (x6 : AV) (H : Heap) (Q : Post) : Prop := AtJ Pg Hs 122 [1, 1, 1, 1, 0, 0, 12] Q [(0, .val x0), (1, .val x1), (6, .val x6), (35, .val (B false)), (41, .val (B false))] H
def f122_c6_19a (x6 : AV) (H : Heap) (Q : Post) : Prop := AtJ Pg Hs 122 [1, 1, 1, 1, 0, 0, 19] Q [(6, .val x6), (35, .val (B true)), (48, .nov)] H
def f122_c6_19b (x6 : AV) (x48 : AV) (H : Heap) (Q : Post) : Prop := AtJ Pg Hs 122 [1, 1, 1, 1, 0, 0, 19] Q [(6, .val x6), (35, .val (B false)), (48, .val x48)] H
def f122_c6_19c (x6 : AV) (H : Heap) (Q : Post) : Prop := AtJ Pg Hs 122 [1, 1, 1, 1, 0, 0, 19] Q [(6, .val x6), (35, .val (B false)), (48, .val (B false))] H
def f122_j23 (x6 : AV) (x49 : AV) (H : Heap) (Q : Post) : Prop := AtJ Pg Hs 122 [1, 1, 1, 1, 0, 1] Q [(6, .val x6), (49, .val x49)] H
theorem f122_j5_eq (x0 : AV) (x1 : AV) (x12 : AV) (H : Heap) (Q : Post) : f122_j5 x0 x1 x12 H Q =
 cndA x12
 (Q (AV.tup [(I 0), (I 0)]) H)
 (ob (binA Pg .eql 2 true x0 (I (-9223372036854775808))) fun r3 =>
 cndA r3
 (ob (binA Pg .eql 2 true x1 (I (-1))) fun r4 =>
 f122_c3_6a x0 x1 r4 H Q)
 (f122_c3_6b x0 x1 H Q)) :=
  (AtJ_eq Pg Hs 122 [1, 0, 1] Q _ H).trans (by kernel_rfl)
theorem f122_c3_6a_eq (x0 : AV) (x1 : AV) (x18 : AV) (H : Heap) (Q : Post) : f122_c3_6a x0 x1 x18 H Q =
 cndA x18
 (f122_c3_13a x0 x1 H Q)
 (ob (binA Pg .eql 2 true x1 (I (-9223372036854775808))) fun r5 =>
 cndA r5
 (ob (binA Pg .eql 2 true x0 (I (-1))) fun r6 =>
 f122_c3_13b x0 x1 r6 H Q)
 (f122_c3_13c x0 x1 H Q)) :=
  (AtJ_eq Pg Hs 122 [1, 1, 0, 0, 6] Q _ H).trans (by kernel_rfl)
theorem f122_c3_6b_eq (x0 : AV) (x1 : AV) (H : Heap) (Q : Post) : f122_c3_6b x0 x1 H Q =
 ob (binA Pg .eql 2 true x1 (I (-9223372036854775808))) fun r7 =>
 cndA r7
 (ob (binA Pg .eql 2 true x0 (I (-1))) fun r8 =>
 f122_c3_13b x0 x1 r8 H Q)
 (f122_c3_13c x0 x1 H Q) :=
  (AtJ_eq Pg Hs 122 [1, 1, 0, 0, 6] Q _ H).trans (by kernel_rfl)
theorem f122_c3_13a_eq (x0 : AV) (x1 : AV) (H : Heap) (Q : Post) : f122_c3_13a x0 x1 H Q =
 f122_j13 x0 x1 (B true) H Q :=
  (AtJ_eq Pg Hs 122 [1, 1, 0, 0, 13] Q _ H).trans (by kernel_rfl)
theorem f122_c3_13b_eq (x0 : AV) (x1 : AV) (x25 : AV) (H : Heap) (Q : Post) : f122_c3_13b x0 x1 x25 H Q =
 f122_j13 x0 x1 x25 H Q :=
  (AtJ_eq Pg Hs 122 [1, 1, 0, 0, 13] Q _ H).trans (by kernel_rfl)
theorem f122_c3_13c_eq (x0 : AV) (x1 : AV) (H : Heap) (Q : Post) : f122_c3_13c x0 x1 H Q =
 f122_j13 x0 x1 (B false) H Q :=
  (AtJ_eq Pg Hs 122 [1, 1, 0, 0, 13] Q _ H).trans (by kernel_rfl)
theorem f122_j13_eq (x0 : AV) (x1 : AV) (x26 : AV) (H : Heap) (Q : Post) : f122_j13 x0 x1 x26 H Q =
 cndA x26
 (Q (AV.tup [(I 0), (I 10)]) H)
 (ob (binA Pg .mul 2 false x0 x1) fun r9 =>
 ob (binA Pg .quo 2 false r9 x1) fun r10 =>
 ob (binA Pg .neq 2 false r10 x0) fun r11 =>
 cndA r11
 (f122_c6_12a x0 x1 r9 H Q)
 (ob (binA Pg .eql 2 true x0 (I (-9223372036854775808))) fun r12 =>
 cndA r12
 (ob (binA Pg .neq 2 true x1 (I 1)) fun r13 =>
 f122_c6_12b x0 x1 r9 r13 H Q)
 (f122_c6_12c x0 x1 r9 H Q))) :=
  (AtJ_eq Pg Hs 122 [1, 1, 0, 1] Q _ H).trans (by kernel_rfl)
theorem f122_c6_12a_eq (x0 : AV) (x1 : AV) (x6 : AV) (H : Heap) (Q : Post) : f122_c6_12a x0 x1 x6 H Q =
 f122_c6_19a x6 H Q :=
  (AtJ_eq Pg Hs 122 [1, 1, 1, 1, 0, 0, 12] Q _ H).trans (by kernel_rfl)
theorem f122_c6_12b_eq (x0 : AV) (x1 : AV) (x6 : AV) (x41 : AV) (H : Heap) (Q : Post) : f122_c6_12b x0 x1 x6 x41 H Q =
 cndA x41
 (ob (binA Pg .quo 2 false x6 x0) fun r14 =>
 ob (binA Pg .neq 2 false r14 x1) fun r15 =>
 f122_c6_19b x6 r15 H Q)
 (f122_c6_19c x6 H Q) :=
  (AtJ_eq Pg Hs 122 [1, 1, 1, 1, 0, 0, 12] Q _ H).trans (by kernel_rfl)
theorem f122_c6_12c_eq (x0 : AV) (x1 : AV) (x6 : AV) (H : Heap) (Q : Post) : f122_c6_12c x0 x1 x6 H Q =
 f122_c6_19c x6 H Q :=
  (AtJ_eq Pg Hs 122 [1, 1, 1, 1, 0, 0, 12] Q _ H).trans (by kernel_rfl)
theorem f122_c6_19a_eq (x6 : AV) (H : Heap) (Q : Post) : f122_c6_19a x6 H Q =
 f122_j23 x6 (B true) H Q :=
  (AtJ_eq Pg Hs 122 [1, 1, 1, 1, 0, 0, 19] Q _ H).trans (by kernel_rfl)
theorem f122_c6_19b_eq (x6 : AV) (x48 : AV) (H : Heap) (Q : Post) : f122_c6_19b x6 x48 H Q =
 f122_j23 x6 x48 H Q :=
  (AtJ_eq Pg Hs 122 [1, 1, 1, 1, 0, 0, 19] Q _ H).trans (by kernel_rfl)
theorem f122_c6_19c_eq (x6 : AV) (H : Heap) (Q : Post) : f122_c6_19c x6 H Q =
 f122_j23 x6 (B false) H Q :=
  (AtJ_eq Pg Hs 122 [1, 1, 1, 1, 0, 0, 19] Q _ H).trans (by kernel_rfl)
theorem f122_j23_eq (x6 : AV) (x49 : AV) (H : Heap) (Q : Post) : f122_j23 x6 x49 H Q =
 cndA x49
 (Q (AV.tup [(I 0), (I 10)]) H)
 (Q (AV.tup [x6, (I 0)]) H) :=
  (AtJ_eq Pg Hs 122 [1, 1, 1, 1, 0, 1] Q _ H).trans (by kernel_rfl)
theorem f122_eq (a0 a1 : AV) (H : Heap) (Q : Post) : E 122 [a0, a1] H Q =
 ob (binA Pg .eql 2 true a0 (I 0)) fun r1 =>
 cndA r1
 (f122_j5 a0 a1 (B true) H Q)
 (ob (binA Pg .eql 2 true a1 (I 0)) fun r2 =>
 f122_j5 a0 a1 r2 H Q) :=
  Ev_eq.trans (by kernel_rfl)
/-! ### 123 haruspex/haruspexref04.Div -/
def f123_j5 (x0 : AV) (x1 : AV) (x15 : AV) (H : Heap) (Q : Post) : Prop := AtJ Pg Hs 123 [1, 0, 1] Q [(0, .val x0), (1, .val x1), (15, .val x15)] H
theorem f123_j5_eq (x0 : AV) (x1 : AV) (x15 : AV) (H : Heap) (Q : Post) : f123_j5 x0 x1 x15 H Q =
 cndA x15
 (Q (AV.tup [(I 0), (I 10)]) H)
 (ob (binA Pg .quo 2 false x0 x1) fun r4 =>
 Q (AV.tup [r4, (I 0)]) H) :=
  (AtJ_eq Pg Hs 123 [1, 0, 1] Q _ H).trans (by kernel_rfl)
theorem f123_eq (a0 a1 : AV) (H : Heap) (Q : Post) : E 123 [a0, a1] H Q =
 ob (binA Pg .eql 2 true a1 (I 0)) fun r1 =>
 cndA r1
 (f123_j5 a0 a1 (B true) H Q)
 (ob (binA Pg .eql 2 true a0 (I (-9223372036854775808))) fun r2 =>
 cndA r2
 (ob (binA Pg .eql 2 true a1 (I (-1))) fun r3 =>
 f123_j5 a0 a1 r3 H Q)
 (f123_j5 a0 a1 (B false) H Q)) :=
  Ev_eq.trans (by kernel_rfl)
/-! ### 124 haruspex/haruspexref04.Mod -/
theorem f124_eq (a0 a1 : AV) (H : Heap) (Q : Post) : E 124 [a0, a1] H Q =
 ob (binA Pg .eql 2 true a1 (I 0)) fun r1 =>
 cndA r1
 (Q (AV.tup [(I 0), (I 10)]) H)
 (ob (binA Pg .eql 2 true a1 (I (-1))) fun r2 =>
 cndA r2
 (Q (AV.tup [(I 0), (I 0)]) H)
 (ob (binA Pg .rem 2 false a0 a1) fun r3 =>
 Q (AV.tup [r3, (I 0)]) H)) :=
  Ev_eq.trans (by kernel_rfl)
/-! ### 125 haruspex/word.isDigit -/
def f125_j4 (x2 : AV) (H : Heap) (Q : Post) : Prop := AtJ Pg Hs 125 [1, 1] Q [(2, .val x2)] H
theorem f125_j4_eq (x2 : AV) (H : Heap) (Q : Post) : f125_j4 x2 H Q =
 Q x2 H :=
  (AtJ_eq Pg Hs 125 [1, 1] Q _ H).trans (by kernel_rfl)
theorem f125_eq (a0 : AV) (H : Heap) (Q : Post) : E 125 [a0] H Q =
 ob (binA Pg .geq 21 true a0 (AV.raw (.int .i32 48))) fun r1 =>
 cndA r1
 (ob (binA Pg .leq 21 true a0 (AV.raw (.int .i32 57))) fun r2 =>
 f125_j4 r2 H Q)
 (f125_j4 (B false) H Q) :=
  Ev_eq.trans (by kernel_rfl)
/-! ### 126 slices.IndexFunc[[]int,int] -/
def f126_l6 (x0 : AV) (x1 : AV) (x7 : AV) (x8 : AV) (H : Heap) (Q : Post) : Prop := AtF Pg Hs 126 [1, 0, 1, 0] Q [(0, .val x0), (1, .val x1), (7, .val x7), (8, .val x8)] H
theorem f126_l6_eq (x0 : AV) (x1 : AV) (x7 : AV) (x8 : AV) (H : Heap) (Q : Post) : f126_l6 x0 x1 x7 x8 H Q =
 ob (binA Pg .lss 3 false x8 x7) fun r2 =>
 cndA r2
 (ob (ixaA 1 x0 x8) fun c3 =>
 ob (partA false 0 1 c3) fun r4 =>
 callA (Ev Pg Hs) x1 [r4] H fun r5 H6 =>
 cndA r5
 (Q x8 H6)
 (ob (binA Pg .add 3 true x8 (I 1)) fun r7 =>
 f126_l6 x0 x1 x7 r7 H6 Q))
 (Q (I (-1)) H) :=
  (AtF_eq Pg Hs 126 [1, 0, 1, 0] Q _ H).trans (by kernel_rfl)
theorem f126_eq (a0 a1 : AV) (H : Heap) (Q : Post) : E 126 [a0, a1] H Q =
 ob (lenA a0) fun r1 =>
 f126_l6 a0 a1 r1 (I 0) H Q :=
  Ev_eq.trans (by kernel_rfl)
/-! ### 127 haruspex/haruspexref05.digit -/
def f127_j4 (x2 : AV) (H : Heap) (Q : Post) : Prop := AtJ Pg Hs 127 [1, 1] Q [(2, .val x2)] H
theorem f127_j4_eq (x2 : AV) (H : Heap) (Q : Post) : f127_j4 x2 H Q =
 Q x2 H :=
  (AtJ_eq Pg Hs 127 [1, 1] Q _ H).trans (by kernel_rfl)
theorem f127_eq (a0 : AV) (H : Heap) (Q : Post) : E 127 [a0] H Q =
 ob (binA Pg .geq 5 true a0 (AV.raw (.int .u8 48))) fun r1 =>
 cndA r1
 (ob (binA Pg .leq 5 true a0 (AV.raw (.int .u8 57))) fun r2 =>
 f127_j4 r2 H Q)
 (f127_j4 (B false) H Q) :=
  Ev_eq.trans (by kernel_rfl)
/-! ### 128 haruspex/num.sign -/
theorem f128_eq (a0 : AV) (H : Heap) (Q : Post) : E 128 [a0] H Q =
 ob (binA Pg .lss 2 true a0 (I 0)) fun r1 =>
 cndA r1
 (Q (I (-1)) H)
 (ob (binA Pg .gtr 2 true a0 (I 0)) fun r2 =>
 cndA r2
 (Q (I 1) H)
 (Q (I 0) H)) :=
  Ev_eq.trans (by kernel_rfl)
/-! ### 129 cmp.isNaN[int] -/
theorem f129_eq (a0 : AV) (H : Heap) (Q : Post) : E 129 [a0] H Q =
 ob (binA Pg .neq 3 false a0 a0) fun r1 =>
 Q r1 H :=
  Ev_eq.trans (by kernel_rfl)
/-! ### 130 cmp.isNaN[int64] -/
theorem f130_eq (a0 : AV) (H : Heap) (Q : Post) : E 130 [a0] H Q =
 ob (binA Pg .neq 2 false a0 a0) fun r1 =>
 Q r1 H :=
  Ev_eq.trans (by kernel_rfl)
/-! ### 131 cmp.isNaN[string] -/
theorem f131_eq (a0 : AV) (H : Heap) (Q : Post) : E 131 [a0] H Q =
 ob (binA Pg .neq 9 false a0 a0) fun r1 =>
 Q r1 H :=
  Ev_eq.trans (by kernel_rfl)
/-! ### 149 (haruspex/typing.refused).Unwrap -/
theorem f149_eq (a0 : AV) (H : Heap) (Q : Post) : E 149 [a0] H Q =
 ob (sizedA 1 a0) fun b1 =>
 ob (partA false 0 1 b1) fun r2 =>
 Q r2 H :=
  Ev_eq.trans (by kernel_rfl)
end Go.Hx
