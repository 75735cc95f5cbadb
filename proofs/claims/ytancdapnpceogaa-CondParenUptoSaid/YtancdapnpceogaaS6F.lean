/- Printed by gen.py (own work): each function as the abstract machine has it. -/
import Derived.Test.YtancdapnpceogaaS6H
import Derived.KernelRfl
set_option linter.unusedVariables false
namespace Go.Hx
/-! ### 2 gosem.cut.init -/
theorem f2_eq (_u : Unit := ()) (H : Heap) (Q : Post) : E 2 [] H Q =
 primA Pg 1 [] fun r1 =>
 Q (AV.tup []) H :=
  Ev_eq.trans (by kernel_rfl)
/-! ### 3 haruspex/haruspexlaw18.CondParen -/
def f3_j7 (x0 : AV) (x3 : List AV) (x21 : AV) (H : Heap) (Q : Post) : Prop := AtJ Pg Hs 3 [1, 1, 0, 1] Q [(0, .val x0), (3, .lbox x3), (21, .val x21)] H
def f3_c7_9a (x3 : List AV) (x6 : List AV) (x42 : AV) (H : Heap) (Q : Post) : Prop := AtJ Pg Hs 3 [1, 1, 1, 1, 1, 0, 9] Q [(3, .lbox x3), (6, .lbox x6), (42, .val x42)] H
def f3_c7_9b (x3 : List AV) (x6 : List AV) (H : Heap) (Q : Post) : Prop := AtJ Pg Hs 3 [1, 1, 1, 1, 1, 0, 9] Q [(3, .lbox x3), (6, .lbox x6), (42, .val (B false))] H
def f3_c7_14a (x3 : List AV) (x6 : List AV) (x47 : AV) (H : Heap) (Q : Post) : Prop := AtJ Pg Hs 3 [1, 1, 1, 1, 1, 0, 14] Q [(3, .lbox x3), (6, .lbox x6), (47, .val x47)] H
def f3_c7_14b (x3 : List AV) (x6 : List AV) (H : Heap) (Q : Post) : Prop := AtJ Pg Hs 3 [1, 1, 1, 1, 1, 0, 14] Q [(3, .lbox x3), (6, .lbox x6), (47, .val (B false))] H
def f3_c7_17a (x3 : List AV) (x6 : List AV) (x50 : AV) (H : Heap) (Q : Post) : Prop := AtJ Pg Hs 3 [1, 1, 1, 1, 1, 0, 17] Q [(3, .lbox x3), (6, .lbox x6), (50, .val x50)] H
def f3_c7_17b (x3 : List AV) (x6 : List AV) (H : Heap) (Q : Post) : Prop := AtJ Pg Hs 3 [1, 1, 1, 1, 1, 0, 17] Q [(3, .lbox x3), (6, .lbox x6), (50, .val (B false))] H
def f3_j24 (x2 : AV) (H : Heap) (Q : Post) : Prop := AtJ Pg Hs 3 [1, 1, 1, 1, 1, 1] Q [(2, .val x2)] H
theorem f3_j7_eq (x0 : AV) (x3 : List AV) (x21 : AV) (H : Heap) (Q : Post) : f3_j7 x0 x3 x21 H Q =
 cndA x21
 (E 5 [] H fun r11 H12 =>
 Q r11 H12)
 (ob (binA Pg .add 9 true (S ⟨#[40]⟩) x0) fun r13 =>
 ob (binA Pg .add 9 true r13 (S ⟨#[41]⟩)) fun r14 =>
 E 4 [r14] H fun r15 H16 =>
 ob (extractA r15 0) fun r17 =>
 ob (extractA r15 1) fun r18 =>
 ob (extractA r15 2) fun r19 =>
 ob (sizedA 7 r17) fun b20 =>
 ob (spliceA 0 b20 [(I 0), (I 0), (I 0), (S ⟨#[]⟩), (S ⟨#[]⟩), (S ⟨#[]⟩), (AV.sl 0 true .full [])]) fun b21 =>
 ob (binA Pg .eql 27 true r19 (I 2)) fun r22 =>
 cndA r22
 (E 5 [] H16 fun r23 H24 =>
 Q r23 H24)
 (ob (binA Pg .eql 27 true r19 (I 0)) fun r25 =>
 cndA r25
 (ob (lenSA x0) fun r26 =>
 ob (binA Pg .add 3 true r26 (I 2)) fun r27 =>
 ob (binA Pg .eql 3 false r18 r27) fun r28 =>
 f3_c7_9a x3 b21 r28 H16 Q)
 (f3_c7_9b x3 b21 H16 Q))) :=
  (AtJ_eq Pg Hs 3 [1, 1, 0, 1] Q _ H).trans (by kernel_rfl)
theorem f3_c7_9a_eq (x3 : List AV) (x6 : List AV) (x42 : AV) (H : Heap) (Q : Post) : f3_c7_9a x3 x6 x42 H Q =
 cndA x42
 (ob (partA true 0 7 x3) fun r29 =>
 ob (partA true 0 7 x6) fun r30 =>
 E 6 [r29, r30] H fun r31 H32 =>
 f3_c7_14a x3 x6 r31 H32 Q)
 (f3_c7_14b x3 x6 H Q) :=
  (AtJ_eq Pg Hs 3 [1, 1, 1, 1, 1, 0, 9] Q _ H).trans (by kernel_rfl)
theorem f3_c7_9b_eq (x3 : List AV) (x6 : List AV) (H : Heap) (Q : Post) : f3_c7_9b x3 x6 H Q =
 f3_c7_14b x3 x6 H Q :=
  (AtJ_eq Pg Hs 3 [1, 1, 1, 1, 1, 0, 9] Q _ H).trans (by kernel_rfl)
theorem f3_c7_14a_eq (x3 : List AV) (x6 : List AV) (x47 : AV) (H : Heap) (Q : Post) : f3_c7_14a x3 x6 x47 H Q =
 cndA x47
 (E 5 [] H fun r33 H34 =>
 f3_c7_17a x3 x6 r33 H34 Q)
 (f3_c7_17b x3 x6 H Q) :=
  (AtJ_eq Pg Hs 3 [1, 1, 1, 1, 1, 0, 14] Q _ H).trans (by kernel_rfl)
theorem f3_c7_14b_eq (x3 : List AV) (x6 : List AV) (H : Heap) (Q : Post) : f3_c7_14b x3 x6 H Q =
 f3_c7_17b x3 x6 H Q :=
  (AtJ_eq Pg Hs 3 [1, 1, 1, 1, 1, 0, 14] Q _ H).trans (by kernel_rfl)
theorem f3_c7_17a_eq (x3 : List AV) (x6 : List AV) (x50 : AV) (H : Heap) (Q : Post) : f3_c7_17a x3 x6 x50 H Q =
 f3_j24 x50 H Q :=
  (AtJ_eq Pg Hs 3 [1, 1, 1, 1, 1, 0, 17] Q _ H).trans (by kernel_rfl)
theorem f3_c7_17b_eq (x3 : List AV) (x6 : List AV) (H : Heap) (Q : Post) : f3_c7_17b x3 x6 H Q =
 f3_j24 (B false) H Q :=
  (AtJ_eq Pg Hs 3 [1, 1, 1, 1, 1, 0, 17] Q _ H).trans (by kernel_rfl)
theorem f3_j24_eq (x2 : AV) (H : Heap) (Q : Post) : f3_j24 x2 H Q =
 Q x2 H :=
  (AtJ_eq Pg Hs 3 [1, 1, 1, 1, 1, 1] Q _ H).trans (by kernel_rfl)
theorem f3_eq (a0 : AV) (H : Heap) (Q : Post) : E 3 [a0] H Q =
 E 4 [a0] H fun r1 H2 =>
 ob (extractA r1 0) fun r3 =>
 ob (extractA r1 1) fun r4 =>
 ob (extractA r1 2) fun r5 =>
 ob (sizedA 7 r3) fun b6 =>
 ob (spliceA 0 b6 [(I 0), (I 0), (I 0), (S ⟨#[]⟩), (S ⟨#[]⟩), (S ⟨#[]⟩), (AV.sl 0 true .full [])]) fun b7 =>
 ob (binA Pg .neq 27 true r5 (I 0)) fun r8 =>
 cndA r8
 (f3_j7 a0 b7 (B true) H2 Q)
 (ob (lenSA a0) fun r9 =>
 ob (binA Pg .gtr 3 true r9 (I 8190)) fun r10 =>
 f3_j7 a0 b7 r10 H2 Q) :=
  Ev_eq.trans (by kernel_rfl)
/-! ### 4 haruspex/cond.Text -/
theorem f4_eq (a0 : AV) (H : Heap) (Q : Post) : E 4 [a0] H Q =
 E 7 [a0] H fun r1 H2 =>
 ob (extractA r1 0) fun r3 =>
 ob (extractA r1 1) fun r4 =>
 ob (extractA r1 2) fun r5 =>
 ob (binA Pg .neq 27 true r5 (I 0)) fun r6 =>
 cndA r6
 (ob (bldA [] [(I 0), (I 0), (I 0), (S ⟨#[]⟩), (S ⟨#[]⟩), (S ⟨#[]⟩), (AV.sl 0 true .full [])]) fun r7 =>
 ob (sizedA 7 r7) fun b8 =>
 ob (spliceA 0 b8 [(I 0), (I 0), (I 0), (S ⟨#[]⟩), (S ⟨#[]⟩), (S ⟨#[]⟩), (AV.sl 0 true .full [])]) fun b9 =>
 ob (partA true 0 7 b9) fun r10 =>
 Q (AV.tup [r10, r4, r5]) H2)
 (E 8 [r3] H2 fun r11 H12 =>
 ob (extractA r11 0) fun r13 =>
 ob (extractA r11 1) fun r14 =>
 ob (extractA r11 2) fun r15 =>
 ob (sizedA 7 r13) fun b16 =>
 ob (spliceA 0 b16 [(I 0), (I 0), (I 0), (S ⟨#[]⟩), (S ⟨#[]⟩), (S ⟨#[]⟩), (AV.sl 0 true .full [])]) fun b17 =>
 ob (binA Pg .neq 27 true r15 (I 0)) fun r18 =>
 cndA r18
 (ob (bldA [] [(I 0), (I 0), (I 0), (S ⟨#[]⟩), (S ⟨#[]⟩), (S ⟨#[]⟩), (AV.sl 0 true .full [])]) fun r19 =>
 ob (sizedA 7 r19) fun b20 =>
 ob (spliceA 0 b20 [(I 0), (I 0), (I 0), (S ⟨#[]⟩), (S ⟨#[]⟩), (S ⟨#[]⟩), (AV.sl 0 true .full [])]) fun b21 =>
 ob (partA true 0 7 b21) fun r22 =>
 Q (AV.tup [r22, r14, r15]) H12)
 (E 9 [r3] H12 fun r23 H24 =>
 fldK false 0 1 r23 fun r25 =>
 ob (binA Pg .neq 3 true r25 (I 6)) fun r26 =>
 cndA r26
 (ob (bldA [] [(I 0), (I 0), (I 0), (S ⟨#[]⟩), (S ⟨#[]⟩), (S ⟨#[]⟩), (AV.sl 0 true .full [])]) fun r27 =>
 E 10 [r3] H24 fun r28 H29 =>
 ob (sizedA 7 r27) fun b30 =>
 ob (spliceA 0 b30 [(I 0), (I 0), (I 0), (S ⟨#[]⟩), (S ⟨#[]⟩), (S ⟨#[]⟩), (AV.sl 0 true .full [])]) fun b31 =>
 ob (partA true 0 7 b31) fun r32 =>
 Q (AV.tup [r32, r28, (I 4)]) H29)
 (ob (partA true 0 7 b17) fun r33 =>
 ob (lenSA a0) fun r34 =>
 ob (sizedA 7 r33) fun b35 =>
 ob (spliceA 0 b35 [(I 0), (I 0), (I 0), (S ⟨#[]⟩), (S ⟨#[]⟩), (S ⟨#[]⟩), (AV.sl 0 true .full [])]) fun b36 =>
 ob (partA true 0 7 b36) fun r37 =>
 Q (AV.tup [r37, r34, (I 0)]) H24))) :=
  Ev_eq.trans (by kernel_rfl)
/-! ### 5 haruspex/haruspexlaw18.awake -/
def f5_j6 (x0 : AV) (H : Heap) (Q : Post) : Prop := AtJ Pg Hs 5 [1, 1, 1] Q [(0, .val x0)] H
theorem f5_j6_eq (x0 : AV) (H : Heap) (Q : Post) : f5_j6 x0 H Q =
 Q x0 H :=
  (AtJ_eq Pg Hs 5 [1, 1, 1] Q _ H).trans (by kernel_rfl)
theorem f5_eq (_u : Unit := ()) (H : Heap) (Q : Post) : E 5 [] H Q =
 E 4 [(S ⟨#[97, 46, 120, 32, 60, 32, 49]⟩)] H fun r1 H2 =>
 ob (extractA r1 0) fun r3 =>
 ob (extractA r1 1) fun r4 =>
 ob (extractA r1 2) fun r5 =>
 ob (sizedA 7 r3) fun b6 =>
 ob (spliceA 0 b6 [(I 0), (I 0), (I 0), (S ⟨#[]⟩), (S ⟨#[]⟩), (S ⟨#[]⟩), (AV.sl 0 true .full [])]) fun b7 =>
 ob (binA Pg .eql 27 true r5 (I 0)) fun r8 =>
 cndA r8
 (ob (binA Pg .eql 3 true r4 (I 7)) fun r9 =>
 cndA r9
 (ob (partA false 0 1 b7) fun r10 =>
 ob (binA Pg .eql 3 true r10 (I 11)) fun r11 =>
 f5_j6 r11 H2 Q)
 (f5_j6 (B false) H2 Q))
 (f5_j6 (B false) H2 Q) :=
  Ev_eq.trans (by kernel_rfl)
/-! ### 6 haruspex/expr.Same -/
theorem f6_eq (a0 a1 : AV) (H : Heap) (Q : Post) : E 6 [a0, a1] H Q =
 ob (sizedA 7 a0) fun b1 =>
 ob (sizedA 7 a1) fun b2 =>
 ob (partA true 0 7 b1) fun r3 =>
 ob (partA true 0 7 b2) fun r4 =>
 E 11 [r3, r4] H fun r5 H6 =>
 ob (binA Pg .eql 3 true r5 (I 0)) fun r7 =>
 Q r7 H6 :=
  Ev_eq.trans (by kernel_rfl)
/-! ### 7 haruspex/lex.New -/
theorem f7_eq (a0 : AV) (H : Heap) (Q : Post) : E 7 [a0] H Q =
 E 12 [a0] H fun r1 H2 =>
 ob (extractA r1 0) fun r3 =>
 ob (extractA r1 1) fun r4 =>
 ob (extractA r1 2) fun r5 =>
 ob (binA Pg .neq 27 true r5 (I 0)) fun r6 =>
 cndA r6
 (Q (AV.tup [(AV.raw (.pointer none)), r4, r5]) H2)
 (ob (bldA [(0, 1, r3)] [(AV.sl 0 true .full []), (I 0)]) fun r7 =>
 ob (sizedA 2 r7) fun b8 =>
 newH H2 b8 fun r9 H10 =>
 Q (AV.tup [r9, r4, (I 0)]) H10) :=
  Ev_eq.trans (by kernel_rfl)
/-! ### 8 haruspex/cond.Parse -/
theorem f8_eq (a0 : AV) (H : Heap) (Q : Post) : E 8 [a0] H Q =
 E 10 [a0] H fun r1 H2 =>
 ob (bldA [(0, 1, a0)] [(AV.raw (.pointer none)), (I 0), (I 0), (I 0)]) fun r3 =>
 ob (sizedA 4 r3) fun b4 =>
 newH H2 b4 fun r5 H6 =>
 E 13 [r5] H6 fun r7 H8 =>
 ob (sizedA 7 r7) fun b9 =>
 ob (spliceA 0 b9 [(I 0), (I 0), (I 0), (S ⟨#[]⟩), (S ⟨#[]⟩), (S ⟨#[]⟩), (AV.sl 0 true .full [])]) fun b10 =>
 ob (nilA r5) fun r11 =>
 ob (addPA r11 2) fun r12 =>
 ob (ldH H8 false 1 r12) fun r13 =>
 ob (binA Pg .neq 27 true r13 (I 0)) fun r14 =>
 cndA r14
 (ob (bldA [] [(I 0), (I 0), (I 0), (S ⟨#[]⟩), (S ⟨#[]⟩), (S ⟨#[]⟩), (AV.sl 0 true .full [])]) fun r15 =>
 ob (nilA r5) fun r16 =>
 ob (addPA r16 3) fun r17 =>
 apL r17 []
 (ob (ldH H8 false 1 r17) fun r18 =>
 ob (nilA r5) fun r19 =>
 ob (addPA r19 2) fun r20 =>
 apL r20 []
 (ob (ldH H8 false 1 r20) fun r21 =>
 ob (sizedA 7 r15) fun b22 =>
 ob (spliceA 0 b22 [(I 0), (I 0), (I 0), (S ⟨#[]⟩), (S ⟨#[]⟩), (S ⟨#[]⟩), (AV.sl 0 true .full [])]) fun b23 =>
 ob (partA true 0 7 b23) fun r24 =>
 Q (AV.tup [r24, r18, r21]) H8)))
 (ob (partA true 0 7 b10) fun r25 =>
 E 14 [r25] H8 fun r26 H27 =>
 ob (binA Pg .neq 27 true r26 (I 0)) fun r28 =>
 cndA r28
 (ob (bldA [] [(I 0), (I 0), (I 0), (S ⟨#[]⟩), (S ⟨#[]⟩), (S ⟨#[]⟩), (AV.sl 0 true .full [])]) fun r29 =>
 ob (sizedA 7 r29) fun b30 =>
 ob (spliceA 0 b30 [(I 0), (I 0), (I 0), (S ⟨#[]⟩), (S ⟨#[]⟩), (S ⟨#[]⟩), (AV.sl 0 true .full [])]) fun b31 =>
 ob (partA true 0 7 b31) fun r32 =>
 Q (AV.tup [r32, r1, (I 2)]) H27)
 (ob (partA true 0 7 b10) fun r33 =>
 E 10 [a0] H27 fun r34 H35 =>
 ob (sizedA 7 r33) fun b36 =>
 ob (spliceA 0 b36 [(I 0), (I 0), (I 0), (S ⟨#[]⟩), (S ⟨#[]⟩), (S ⟨#[]⟩), (AV.sl 0 true .full [])]) fun b37 =>
 ob (partA true 0 7 b37) fun r38 =>
 Q (AV.tup [r38, r34, (I 0)]) H35)) :=
  Ev_eq.trans (by kernel_rfl)
/-! ### 9 (*haruspex/lex.Reader).Peek -/
theorem f9_eq (a0 : AV) (H : Heap) (Q : Post) : E 9 [a0] H Q =
 E 15 [a0] H fun r1 H2 =>
 cndA r1
 (ob (bldA [(0, 1, (I 6))] [(I 0), (S ⟨#[]⟩), (I 0)]) fun r3 =>
 ob (sizedA 3 r3) fun b4 =>
 ob (spliceA 0 b4 [(I 0), (S ⟨#[]⟩), (I 0)]) fun b5 =>
 ob (partA true 0 3 b5) fun r6 =>
 Q r6 H2)
 (ob (nilA a0) fun r7 =>
 ob (addPA r7 0) fun r8 =>
 ob (ldH H2 false 1 r8) fun r9 =>
 ob (nilA a0) fun r10 =>
 ob (addPA r10 1) fun r11 =>
 ob (ldH H2 false 1 r11) fun r12 =>
 ob (ixaA 3 r9 r12) fun c13 =>
 ob (partA true 0 3 c13) fun r14 =>
 ob (sizedA 3 r14) fun b15 =>
 ob (spliceA 0 b15 [(I 0), (S ⟨#[]⟩), (I 0)]) fun b16 =>
 ob (partA true 0 3 b16) fun r17 =>
 Q r17 H2) :=
  Ev_eq.trans (by kernel_rfl)
/-! ### 10 (*haruspex/lex.Reader).At -/
theorem f10_eq (a0 : AV) (H : Heap) (Q : Post) : E 10 [a0] H Q =
 E 9 [a0] H fun r1 H2 =>
 fldK false 2 1 r1 fun r3 =>
 Q r3 H2 :=
  Ev_eq.trans (by kernel_rfl)
/-! ### 11 haruspex/expr.Order -/
def f11_l16 (x3 : List AV) (x16 : AV) (x17 : AV) (x18 : AV) (H : Heap) (Q : Post) : Prop := AtF Pg Hs 11 [1, 1, 0, 1, 0] Q [(3, .lbox x3), (16, .val x16), (17, .val x17), (18, .val x18)] H
theorem f11_l16_eq (x3 : List AV) (x16 : AV) (x17 : AV) (x18 : AV) (H : Heap) (Q : Post) : f11_l16 x3 x16 x17 x18 H Q =
 ob (binA Pg .lss 3 false x18 x17) fun r10 =>
 cndA r10
 (ob (ixaA 7 x16 x18) fun c11 =>
 ob (partA true 0 7 c11) fun r12 =>
 ob (sizedA 7 r12) fun b13 =>
 ob (spliceA 0 b13 [(I 0), (I 0), (I 0), (S ⟨#[]⟩), (S ⟨#[]⟩), (S ⟨#[]⟩), (AV.sl 0 true .full [])]) fun b14 =>
 ob (partA true 0 7 b14) fun r15 =>
 ob (partA false 6 1 x3) fun r16 =>
 ob (ixaA 7 r16 x18) fun c17 =>
 ob (partA true 0 7 c17) fun r18 =>
 E 11 [r15, r18] H fun r19 H20 =>
 ob (binA Pg .neq 3 true r19 (I 0)) fun r21 =>
 cndA r21
 (Q r19 H20)
 (ob (binA Pg .add 3 true x18 (I 1)) fun r22 =>
 f11_l16 x3 x16 x17 r22 H20 Q))
 (Q (I 0) H) :=
  (AtF_eq Pg Hs 11 [1, 1, 0, 1, 0] Q _ H).trans (by kernel_rfl)
theorem f11_eq (a0 a1 : AV) (H : Heap) (Q : Post) : E 11 [a0, a1] H Q =
 ob (sizedA 7 a0) fun b1 =>
 ob (sizedA 7 a1) fun b2 =>
 ob (partA true 0 7 b1) fun r3 =>
 ob (partA true 0 7 b2) fun r4 =>
 E 16 [r3, r4] H fun r5 H6 =>
 ob (binA Pg .neq 3 true r5 (I 0)) fun r7 =>
 cndA r7
 (Q r5 H6)
 (ob (partA false 6 1 b1) fun r8 =>
 ob (lenA r8) fun r9 =>
 f11_l16 b2 r8 r9 (I 0) H6 Q) :=
  Ev_eq.trans (by kernel_rfl)
/-! ### 12 haruspex/lex.All -/
def f12_l18 (x0 : AV) (x5 : AV) (x6 : AV) (H : Heap) (Q : Post) : Prop := AtF Pg Hs 12 [1, 1, 1, 1, 0, 1, 0] Q [(0, .val x0), (5, .val x5), (6, .val x6)] H
theorem f12_l18_eq (x0 : AV) (x5 : AV) (x6 : AV) (H : Heap) (Q : Post) : f12_l18 x0 x5 x6 H Q =
 ob (nilA x5) fun r9 =>
 ob (addPA r9 1) fun r10 =>
 ob (ldH H false 1 r10) fun r11 =>
 ob (lenSA x0) fun r12 =>
 ob (binA Pg .lss 3 false r11 r12) fun r13 =>
 cndA r13
 (E 18 [x5] H fun r14 H15 =>
 ob (extractA r14 0) fun r16 =>
 ob (extractA r14 1) fun r17 =>
 ob (extractA r14 2) fun r18 =>
 ob (sizedA 3 r16) fun b19 =>
 ob (spliceA 0 b19 [(I 0), (S ⟨#[]⟩), (I 0)]) fun b20 =>
 ob (binA Pg .neq 27 true r18 (I 0)) fun r21 =>
 cndA r21
 (Q (AV.tup [(AV.sl 0 true .full []), r17, r18]) H15)
 (ob (partA true 0 3 b20) fun r22 =>
 ob (mkSlA 3 [r22]) fun r23 =>
 appA 3 32 x6 r23 H15 fun r24 H25 =>
 E 17 [x5] H25 fun r26 H27 =>
 f12_l18 x0 x5 r24 H27 Q))
 (ob (lenSA x0) fun r28 =>
 ob (bldA [(0, 1, (I 6)), (2, 1, r28)] [(I 0), (S ⟨#[]⟩), (I 0)]) fun r29 =>
 ob (mkSlA 3 [r29]) fun r30 =>
 appA 3 32 x6 r30 H fun r31 H32 =>
 ob (lenSA x0) fun r33 =>
 Q (AV.tup [r31, r33, (I 0)]) H32) :=
  (AtF_eq Pg Hs 12 [1, 1, 1, 1, 0, 1, 0] Q _ H).trans (by kernel_rfl)
theorem f12_eq (a0 : AV) (H : Heap) (Q : Post) : E 12 [a0] H Q =
 ob (lenSA a0) fun r1 =>
 ob (binA Pg .gtr 3 true r1 (I 8192)) fun r2 =>
 cndA r2
 (Q (AV.tup [(AV.sl 0 true .full []), (I 0), (I 2)]) H)
 (ob (bldA [(0, 1, a0)] [(S ⟨#[]⟩), (I 0)]) fun r3 =>
 ob (sizedA 2 r3) fun b4 =>
 newH H b4 fun r5 H6 =>
 E 17 [r5] H6 fun r7 H8 =>
 f12_l18 a0 r5 (AV.sl 0 true .full []) H8 Q) :=
  Ev_eq.trans (by kernel_rfl)
/-! ### 13 (*haruspex/cond.parser).or -/
theorem f13_eq (a0 : AV) (H : Heap) (Q : Post) : E 13 [a0] H Q =
 E 19 [a0, (I 17), (S ⟨#[79, 82]⟩), (AV.fn (.func 20) [a0] [])] H fun r1 H2 =>
 ob (sizedA 7 r1) fun b3 =>
 ob (spliceA 0 b3 [(I 0), (I 0), (I 0), (S ⟨#[]⟩), (S ⟨#[]⟩), (S ⟨#[]⟩), (AV.sl 0 true .full [])]) fun b4 =>
 ob (partA true 0 7 b4) fun r5 =>
 Q r5 H2 :=
  Ev_eq.trans (by kernel_rfl)
/-! ### 14 haruspex/expr.Check -/
noncomputable def f14_L8 (y3 : AV) (y4 : AV) : LoopInfo := loopF Pg Hs 14 [1, 1, 0, 1, 0] 8 [(3, .val y3), (4, .val y4)]
def f14_j14 (x3 : AV) (x4 : AV) (H : Heap) (Q : Post) : Prop := AtJ Pg Hs 14 [1, 1, 1] Q [(3, .val x3), (4, .val x4)] H
theorem f14_j14_eq (x3 : AV) (x4 : AV) (H : Heap) (Q : Post) : f14_j14 x3 x4 H Q =
 ob (ldH H false 1 x3) fun r16 =>
 ob (binA Pg .gtr 3 true r16 (I 100)) fun r17 =>
 cndA r17
 (Q (I 2) H)
 (ob (ldH H false 1 x4) fun r18 =>
 ob (unA .not r18) fun r19 =>
 cndA r19
 (Q (I 1) H)
 (Q (I 0) H)) :=
  (AtJ_eq Pg Hs 14 [1, 1, 1] Q _ H).trans (by kernel_rfl)
theorem f14_y8_eq (y3 : AV) (y4 : AV) (l : Nat) (a0 a1 : AV) (H : Heap) (Q : Post) : EY Pg Hs (f14_L8 y3 y4) l [a0, a1] H Q =
 ob (sizedA 7 a1) fun b20 =>
 ob (spliceA 0 b20 [(I 0), (I 0), (I 0), (S ⟨#[]⟩), (S ⟨#[]⟩), (S ⟨#[]⟩), (AV.sl 0 true .full [])]) fun b21 =>
 beginA l H fun H22 =>
 ob (ldH H22 false 1 y3) fun r23 =>
 ob (binA Pg .add 3 true r23 (I 1)) fun r24 =>
 ob (stH H22 1 y3 r24) fun H25 =>
 ob (ldH H25 false 1 y4) fun r26 =>
 cndA r26
 (ob (partA true 0 7 b21) fun r27 =>
 E 22 [r27] H25 fun r28 H29 =>
 ob (stH H29 1 y4 r28) fun H30 =>
 endA l H30 true .ready Q)
 (ob (stH H25 1 y4 (B false)) fun H31 =>
 endA l H31 true .ready Q) := by kernel_rfl
theorem f14_eq (a0 : AV) (H : Heap) (Q : Post) : E 14 [a0] H Q =
 ob (sizedA 7 a0) fun b1 =>
 newH H [(I 0)] fun r2 H3 =>
 newH H3 [(B false)] fun r4 H5 =>
 ob (stH H5 1 r2 (I 0)) fun H6 =>
 ob (stH H6 1 r4 (B true)) fun H7 =>
 ob (partA true 0 7 b1) fun r8 =>
 E 21 [r8] H7 fun r9 H10 =>
 aroundA none H10 ∧ rngF (Ev Pg Hs) r9 (f14_L8 r2 r4) H10 fun l11 H12 =>
 overA l11 H12 (fun H13 =>
 f14_j14 r2 r4 H13 Q) (fun j H14 =>
 exA j 0 (f14_j14 r2 r4 H14 Q) (False)) (fun H15 =>
 Q (I 0) H15) :=
  Ev_eq.trans (by kernel_rfl)
/-! ### 15 (*haruspex/lex.Reader).none -/
def f15_j4 (x2 : AV) (H : Heap) (Q : Post) : Prop := AtJ Pg Hs 15 [1, 1] Q [(2, .val x2)] H
theorem f15_j4_eq (x2 : AV) (H : Heap) (Q : Post) : f15_j4 x2 H Q =
 Q x2 H :=
  (AtJ_eq Pg Hs 15 [1, 1] Q _ H).trans (by kernel_rfl)
theorem f15_eq (a0 : AV) (H : Heap) (Q : Post) : E 15 [a0] H Q =
 ob (binA Pg .eql 33 true a0 (AV.raw (.pointer none))) fun r1 =>
 cndA r1
 (f15_j4 (B true) H Q)
 (ob (nilA a0) fun r2 =>
 ob (addPA r2 0) fun r3 =>
 ob (ldH H false 1 r3) fun r4 =>
 ob (lenA r4) fun r5 =>
 ob (binA Pg .eql 3 true r5 (I 0)) fun r6 =>
 f15_j4 r6 H Q) :=
  Ev_eq.trans (by kernel_rfl)
/-! ### 16 haruspex/expr.node -/
theorem f16_eq (a0 a1 : AV) (H : Heap) (Q : Post) : E 16 [a0, a1] H Q =
 ob (sizedA 7 a0) fun b1 =>
 ob (sizedA 7 a1) fun b2 =>
 ob (partA false 0 1 b1) fun r3 =>
 ob (partA false 0 1 b2) fun r4 =>
 ob (partA true 1 3 b1) fun r5 =>
 ob (partA true 1 3 b2) fun r6 =>
 ob (partA false 4 1 b1) fun r7 =>
 ob (partA false 4 1 b2) fun r8 =>
 ob (partA false 5 1 b1) fun r9 =>
 ob (partA false 5 1 b2) fun r10 =>
 ob (partA false 6 1 b1) fun r11 =>
 ob (lenA r11) fun r12 =>
 ob (partA false 6 1 b2) fun r13 =>
 ob (lenA r13) fun r14 =>
 E 24 [r3, r4] H fun r15 H16 =>
 E 25 [r5, r6] H16 fun r17 H18 =>
 E 26 [r7, r8] H18 fun r19 H20 =>
 E 26 [r9, r10] H20 fun r21 H22 =>
 E 24 [r12, r14] H22 fun r23 H24 =>
 ob (mkSlA 1 [r15, r17, r19, r21, r23]) fun r25 =>
 E 23 [r25] H24 fun r26 H27 =>
 Q r26 H27 :=
  Ev_eq.trans (by kernel_rfl)
/-! ### 17 (*haruspex/lex.scanner).blanks -/
def f17_l1 (x0 : AV) (H : Heap) (Q : Post) : Prop := AtF Pg Hs 17 [0] Q [(0, .val x0)] H
def f17_j5 (x0 : AV) (x23 : AV) (H : Heap) (Q : Post) : Prop := AtJ Pg Hs 17 [0, 0, 0, 1] Q [(0, .val x0), (23, .val x23)] H
theorem f17_l1_eq (x0 : AV) (H : Heap) (Q : Post) : f17_l1 x0 H Q =
 ob (nilA x0) fun r1 =>
 ob (addPA r1 1) fun r2 =>
 ob (ldH H false 1 r2) fun r3 =>
 ob (nilA x0) fun r4 =>
 ob (addPA r4 0) fun r5 =>
 ob (ldH H false 1 r5) fun r6 =>
 ob (lenSA r6) fun r7 =>
 ob (binA Pg .lss 3 false r3 r7) fun r8 =>
 cndA r8
 (ob (nilA x0) fun r9 =>
 ob (addPA r9 0) fun r10 =>
 ob (ldH H false 1 r10) fun r11 =>
 ob (nilA x0) fun r12 =>
 ob (addPA r12 1) fun r13 =>
 ob (ldH H false 1 r13) fun r14 =>
 ob (ixA r11 r14) fun r15 =>
 E 27 [r15] H fun r16 H17 =>
 f17_j5 x0 r16 H17 Q)
 (f17_j5 x0 (B false) H Q) :=
  (AtF_eq Pg Hs 17 [0] Q _ H).trans (by kernel_rfl)
theorem f17_j5_eq (x0 : AV) (x23 : AV) (H : Heap) (Q : Post) : f17_j5 x0 x23 H Q =
 cndA x23
 (ob (nilA x0) fun r18 =>
 ob (addPA r18 1) fun r19 =>
 ob (ldH H false 1 r19) fun r20 =>
 ob (binA Pg .add 3 true r20 (I 1)) fun r21 =>
 ob (nilA x0) fun r22 =>
 ob (addPA r22 1) fun r23 =>
 ob (stH H 1 r23 r21) fun H24 =>
 f17_l1 x0 H24 Q)
 (Q (AV.tup []) H) :=
  (AtJ_eq Pg Hs 17 [0, 0, 0, 1] Q _ H).trans (by kernel_rfl)
theorem f17_eq (a0 : AV) (H : Heap) (Q : Post) : E 17 [a0] H Q =
 f17_l1 a0 H Q :=
  Ev_eq.trans (by kernel_rfl)
/-! ### 18 (*haruspex/lex.scanner).next -/
def f18_j27 (x0 : AV) (x2 : List AV) (x5 : AV) (H : Heap) (Q : Post) : Prop := AtJ Pg Hs 18 [1, 1, 1] Q [(0, .val x0), (2, .lbox x2), (5, .val x5)] H
def f18_j55 (x0 : AV) (x2 : List AV) (x5 : AV) (x7 : AV) (x8 : List AV) (x44 : AV) (H : Heap) (Q : Post) : Prop := AtJ Pg Hs 18 [1, 1, 1, 1, 1, 1, 0, 1, 0, 0, 0, 0, 0, 0, 0, 1, 1] Q [(0, .val x0), (2, .lbox x2), (5, .val x5), (7, .val x7), (8, .lbox x8), (44, .val x44)] H
theorem f18_j27_eq (x0 : AV) (x2 : List AV) (x5 : AV) (H : Heap) (Q : Post) : f18_j27 x0 x2 x5 H Q =
 ob (nilA x0) fun r25 =>
 ob (addPA r25 1) fun r26 =>
 ob (ldH H false 1 r26) fun r27 =>
 ob (binA Pg .eql 3 true x5 (I 1)) fun r28 =>
 cndA r28
 (E 32 [x0, x5] H fun r29 H30 =>
 ob (extractA r29 0) fun r31 =>
 ob (extractA r29 1) fun r32 =>
 ob (sizedA 3 r31) fun b33 =>
 ob (spliceA 0 b33 [(I 0), (S ⟨#[]⟩), (I 0)]) fun b34 =>
 ob (unA .not r32) fun r35 =>
 cndA r35
 (ob (bldA [] [(I 0), (S ⟨#[]⟩), (I 0)]) fun r36 =>
 ob (sizedA 3 r36) fun b37 =>
 ob (spliceA 0 b37 x2) fun b38 =>
 ob (partA true 0 3 b38) fun r39 =>
 Q (AV.tup [r39, r27, (I 4)]) H30)
 (ob (partA true 0 3 b34) fun r40 =>
 ob (nilA x0) fun r41 =>
 ob (addPA r41 1) fun r42 =>
 apL r42 []
 (ob (ldH H30 false 1 r42) fun r43 =>
 ob (sizedA 3 r40) fun b44 =>
 ob (spliceA 0 b44 x2) fun b45 =>
 ob (partA true 0 3 b45) fun r46 =>
 Q (AV.tup [r46, r43, (I 0)]) H30)))
 (ob (binA Pg .eql 3 true x5 (I 2)) fun r47 =>
 cndA r47
 (f18_j55 x0 x2 x5 r27 [(I 0), (S ⟨#[]⟩), (I 0)] r47 H Q)
 (ob (binA Pg .eql 3 true x5 (I 3)) fun r48 =>
 f18_j55 x0 x2 x5 r27 [(I 0), (S ⟨#[]⟩), (I 0)] r48 H Q)) :=
  (AtJ_eq Pg Hs 18 [1, 1, 1] Q _ H).trans (by kernel_rfl)
theorem f18_j55_eq (x0 : AV) (x2 : List AV) (x5 : AV) (x7 : AV) (x8 : List AV) (x44 : AV) (H : Heap) (Q : Post) : f18_j55 x0 x2 x5 x7 x8 x44 H Q =
 cndA x44
 (E 32 [x0, x5] H fun r49 H50 =>
 ob (extractA r49 0) fun r51 =>
 ob (extractA r49 1) fun r52 =>
 ob (sizedA 3 r51) fun b53 =>
 ob (spliceA 0 b53 x8) fun b54 =>
 ob (unA .not r52) fun r55 =>
 cndA r55
 (ob (bldA [] [(I 0), (S ⟨#[]⟩), (I 0)]) fun r56 =>
 ob (sizedA 3 r56) fun b57 =>
 ob (spliceA 0 b57 x2) fun b58 =>
 ob (partA true 0 3 b58) fun r59 =>
 Q (AV.tup [r59, x7, (I 4)]) H50)
 (ob (partA true 0 3 b54) fun r60 =>
 ob (nilA x0) fun r61 =>
 ob (addPA r61 1) fun r62 =>
 apL r62 []
 (ob (ldH H50 false 1 r62) fun r63 =>
 ob (sizedA 3 r60) fun b64 =>
 ob (spliceA 0 b64 x2) fun b65 =>
 ob (partA true 0 3 b65) fun r66 =>
 Q (AV.tup [r66, r63, (I 0)]) H50)))
 (E 33 [x0] H fun r67 H68 =>
 ob (extractA r67 0) fun r69 =>
 ob (extractA r67 1) fun r70 =>
 ob (sizedA 3 r69) fun b71 =>
 ob (spliceA 0 b71 x8) fun b72 =>
 ob (unA .not r70) fun r73 =>
 cndA r73
 (ob (bldA [] [(I 0), (S ⟨#[]⟩), (I 0)]) fun r74 =>
 ob (sizedA 3 r74) fun b75 =>
 ob (spliceA 0 b75 x2) fun b76 =>
 ob (partA true 0 3 b76) fun r77 =>
 Q (AV.tup [r77, x7, (I 4)]) H68)
 (ob (partA true 0 3 b72) fun r78 =>
 ob (nilA x0) fun r79 =>
 ob (addPA r79 1) fun r80 =>
 apL r80 []
 (ob (ldH H68 false 1 r80) fun r81 =>
 ob (sizedA 3 r78) fun b82 =>
 ob (spliceA 0 b82 x2) fun b83 =>
 ob (partA true 0 3 b83) fun r84 =>
 Q (AV.tup [r84, r81, (I 0)]) H68))) :=
  (AtJ_eq Pg Hs 18 [1, 1, 1, 1, 1, 1, 0, 1, 0, 0, 0, 0, 0, 0, 0, 1, 1] Q _ H).trans (by kernel_rfl)
theorem f18_eq (a0 : AV) (H : Heap) (Q : Post) : E 18 [a0] H Q =
 ob (nilA a0) fun r1 =>
 ob (addPA r1 0) fun r2 =>
 ob (ldH H false 1 r2) fun r3 =>
 ob (nilA a0) fun r4 =>
 ob (addPA r4 1) fun r5 =>
 ob (ldH H false 1 r5) fun r6 =>
 ob (ixA r3 r6) fun r7 =>
 ob (cvtIA .i32 r7) fun r9 =>
 ob (binA Pg .eql 21 true r9 (AV.raw (.int .i32 39))) fun r10 =>
 cndA r10
 (E 28 [a0] H fun r11 H12 =>
 ob (extractA r11 0) fun r13 =>
 ob (extractA r11 1) fun r14 =>
 ob (extractA r11 2) fun r15 =>
 ob (sizedA 3 r13) fun b16 =>
 ob (spliceA 0 b16 [(I 0), (S ⟨#[]⟩), (I 0)]) fun b17 =>
 ob (partA true 0 3 b17) fun r18 =>
 Q (AV.tup [r18, r14, r15]) H12)
 (E 29 [r9] H fun r19 H20 =>
 cndA r19
 (f18_j27 a0 [(I 0), (S ⟨#[]⟩), (I 0)] (I 1) H20 Q)
 (E 30 [r9] H20 fun r21 H22 =>
 cndA r21
 (f18_j27 a0 [(I 0), (S ⟨#[]⟩), (I 0)] (I 2) H22 Q)
 (E 31 [r9] H22 fun r23 H24 =>
 cndA r23
 (f18_j27 a0 [(I 0), (S ⟨#[]⟩), (I 0)] (I 3) H24 Q)
 (f18_j27 a0 [(I 0), (S ⟨#[]⟩), (I 0)] (I 5) H24 Q)))) :=
  Ev_eq.trans (by kernel_rfl)
/-! ### 19 (*haruspex/cond.parser).row -/
def f19_l6 (x0 : AV) (x1 : AV) (x2 : AV) (x3 : AV) (x8 : List AV) (x9 : AV) (H : Heap) (Q : Post) : Prop := AtF Pg Hs 19 [1, 1, 0, 0] Q [(0, .val x0), (1, .val x1), (2, .val x2), (3, .val x3), (8, .lbox x8), (9, .val x9)] H
def f19_j10 (x0 : AV) (x1 : AV) (x2 : AV) (x3 : AV) (x8 : List AV) (x9 : AV) (x25 : AV) (H : Heap) (Q : Post) : Prop := AtJ Pg Hs 19 [1, 1, 0, 0, 0, 0, 1] Q [(0, .val x0), (1, .val x1), (2, .val x2), (3, .val x3), (8, .lbox x8), (9, .val x9), (25, .val x25)] H
theorem f19_l6_eq (x0 : AV) (x1 : AV) (x2 : AV) (x3 : AV) (x8 : List AV) (x9 : AV) (H : Heap) (Q : Post) : f19_l6 x0 x1 x2 x3 x8 x9 H Q =
 ob (nilA x0) fun r4 =>
 ob (addPA r4 2) fun r5 =>
 ob (ldH H false 1 r5) fun r6 =>
 ob (binA Pg .eql 27 true r6 (I 0)) fun r7 =>
 cndA r7
 (ob (nilA x0) fun r8 =>
 ob (addPA r8 0) fun r9 =>
 ob (ldH H false 1 r9) fun r10 =>
 E 34 [r10, x2] H fun r11 H12 =>
 f19_j10 x0 x1 x2 x3 x8 x9 r11 H12 Q)
 (f19_j10 x0 x1 x2 x3 x8 x9 (B false) H Q) :=
  (AtF_eq Pg Hs 19 [1, 1, 0, 0] Q _ H).trans (by kernel_rfl)
theorem f19_j10_eq (x0 : AV) (x1 : AV) (x2 : AV) (x3 : AV) (x8 : List AV) (x9 : AV) (x25 : AV) (H : Heap) (Q : Post) : f19_j10 x0 x1 x2 x3 x8 x9 x25 H Q =
 cndA x25
 (callA (Ev Pg Hs) x3 [] H fun r13 H14 =>
 ob (mkSlA 7 [r13]) fun r15 =>
 appA 7 96 x9 r15 H14 fun r16 H17 =>
 f19_l6 x0 x1 x2 x3 x8 r16 H17 Q)
 (E 35 [x1, x9] H fun r18 H19 =>
 ob (sizedA 7 r18) fun b20 =>
 ob (spliceA 0 b20 x8) fun b21 =>
 ob (partA true 0 7 b21) fun r22 =>
 Q r22 H19) :=
  (AtJ_eq Pg Hs 19 [1, 1, 0, 0, 0, 0, 1] Q _ H).trans (by kernel_rfl)
theorem f19_eq (a0 a1 a2 a3 : AV) (H : Heap) (Q : Post) : E 19 [a0, a1, a2, a3] H Q =
 callA (Ev Pg Hs) a3 [] H fun r1 H2 =>
 ob (mkSlA 7 [r1]) fun r3 =>
 f19_l6 a0 a1 a2 a3 [(I 0), (I 0), (I 0), (S ⟨#[]⟩), (S ⟨#[]⟩), (S ⟨#[]⟩), (AV.sl 0 true .full [])] r3 H2 Q :=
  Ev_eq.trans (by kernel_rfl)
/-! ### 20 (*haruspex/cond.parser).and -/
theorem f20_eq (a0 : AV) (H : Heap) (Q : Post) : E 20 [a0] H Q =
 E 19 [a0, (I 16), (S ⟨#[65, 78, 68]⟩), (AV.fn (.func 36) [a0] [])] H fun r1 H2 =>
 ob (sizedA 7 r1) fun b3 =>
 ob (spliceA 0 b3 [(I 0), (I 0), (I 0), (S ⟨#[]⟩), (S ⟨#[]⟩), (S ⟨#[]⟩), (AV.sl 0 true .full [])]) fun b4 =>
 ob (partA true 0 7 b4) fun r5 =>
 Q r5 H2 :=
  Ev_eq.trans (by kernel_rfl)
/-! ### 21 haruspex/expr.nodes -/
theorem f21_eq (a0 : AV) (H : Heap) (Q : Post) : E 21 [a0] H Q =
 ob (sizedA 7 a0) fun b1 =>
 newH H b1 fun r2 H3 =>
 Q (AV.fn (.func 37) [] [r2]) H3 :=
  Ev_eq.trans (by kernel_rfl)
/-! ### 22 haruspex/expr.right -/
def f22_c3_7a (x1 : List AV) (x18 : AV) (H : Heap) (Q : Post) : Prop := AtJ Pg Hs 22 [1, 1, 0, 0, 1, 0, 0, 7] Q [(1, .lbox x1), (18, .val x18)] H
def f22_c3_7b (x1 : List AV) (H : Heap) (Q : Post) : Prop := AtJ Pg Hs 22 [1, 1, 0, 0, 1, 0, 0, 7] Q [(1, .lbox x1), (18, .val (B false))] H
def f22_c5_8a (x1 : List AV) (x40 : AV) (H : Heap) (Q : Post) : Prop := AtJ Pg Hs 22 [1, 1, 0, 0, 1, 1, 1, 0, 0, 8] Q [(1, .lbox x1), (40, .val x40)] H
def f22_c5_8b (x1 : List AV) (H : Heap) (Q : Post) : Prop := AtJ Pg Hs 22 [1, 1, 0, 0, 1, 1, 1, 0, 0, 8] Q [(1, .lbox x1), (40, .val (B false))] H
def f22_j30 (x1 : List AV) (x3 : AV) (x55 : AV) (H : Heap) (Q : Post) : Prop := AtJ Pg Hs 22 [1, 1, 0, 0, 1, 1, 1, 1, 1, 1, 1] Q [(1, .lbox x1), (3, .val x3), (55, .val x55)] H
def f22_c3_12a (x1 : List AV) (x23 : AV) (H : Heap) (Q : Post) : Prop := AtJ Pg Hs 22 [1, 1, 0, 0, 1, 0, 0, 12] Q [(1, .lbox x1), (23, .val x23)] H
def f22_c3_12b (x1 : List AV) (H : Heap) (Q : Post) : Prop := AtJ Pg Hs 22 [1, 1, 0, 0, 1, 0, 0, 12] Q [(1, .lbox x1), (23, .val (B false))] H
def f22_c5_13a (x1 : List AV) (x45 : AV) (H : Heap) (Q : Post) : Prop := AtJ Pg Hs 22 [1, 1, 0, 0, 1, 1, 1, 0, 0, 13] Q [(1, .lbox x1), (45, .val x45)] H
def f22_c5_13b (x1 : List AV) (H : Heap) (Q : Post) : Prop := AtJ Pg Hs 22 [1, 1, 0, 0, 1, 1, 1, 0, 0, 13] Q [(1, .lbox x1), (45, .val (B false))] H
def f22_j36 (x1 : List AV) (x3 : AV) (x64 : AV) (H : Heap) (Q : Post) : Prop := AtJ Pg Hs 22 [1, 1, 0, 0, 1, 1, 1, 1, 1, 1, 1, 1, 1] Q [(1, .lbox x1), (3, .val x3), (64, .val x64)] H
def f22_c3_17a (x1 : List AV) (x28 : AV) (H : Heap) (Q : Post) : Prop := AtJ Pg Hs 22 [1, 1, 0, 0, 1, 0, 0, 17] Q [(1, .lbox x1), (28, .val x28)] H
def f22_c3_17b (x1 : List AV) (H : Heap) (Q : Post) : Prop := AtJ Pg Hs 22 [1, 1, 0, 0, 1, 0, 0, 17] Q [(1, .lbox x1), (28, .val (B false))] H
def f22_c5_18a (x1 : List AV) (x50 : AV) (H : Heap) (Q : Post) : Prop := AtJ Pg Hs 22 [1, 1, 0, 0, 1, 1, 1, 0, 0, 18] Q [(1, .lbox x1), (50, .val x50)] H
def f22_c5_18b (x1 : List AV) (H : Heap) (Q : Post) : Prop := AtJ Pg Hs 22 [1, 1, 0, 0, 1, 1, 1, 0, 0, 18] Q [(1, .lbox x1), (50, .val (B false))] H
def f22_j45 (x2 : AV) (H : Heap) (Q : Post) : Prop := AtJ Pg Hs 22 [1, 1, 1, 1, 1] Q [(2, .val x2)] H
def f22_j11 (x2 : AV) (H : Heap) (Q : Post) : Prop := AtJ Pg Hs 22 [1, 1, 0, 0, 1, 0, 1] Q [(2, .val x2)] H
def f22_j17 (x2 : AV) (H : Heap) (Q : Post) : Prop := AtJ Pg Hs 22 [1, 1, 0, 0, 1, 1, 1, 0, 1] Q [(2, .val x2)] H
theorem f22_c3_7a_eq (x1 : List AV) (x18 : AV) (H : Heap) (Q : Post) : f22_c3_7a x1 x18 H Q =
 cndA x18
 (ob (partA false 4 1 x1) fun r24 =>
 ob (binA Pg .eql 9 true r24 (S ⟨#[]⟩)) fun r25 =>
 f22_c3_12a x1 r25 H Q)
 (f22_c3_12b x1 H Q) :=
  (AtJ_eq Pg Hs 22 [1, 1, 0, 0, 1, 0, 0, 7] Q _ H).trans (by kernel_rfl)
theorem f22_c3_7b_eq (x1 : List AV) (H : Heap) (Q : Post) : f22_c3_7b x1 H Q =
 f22_c3_12b x1 H Q :=
  (AtJ_eq Pg Hs 22 [1, 1, 0, 0, 1, 0, 0, 7] Q _ H).trans (by kernel_rfl)
theorem f22_c5_8a_eq (x1 : List AV) (x40 : AV) (H : Heap) (Q : Post) : f22_c5_8a x1 x40 H Q =
 cndA x40
 (ob (partA false 4 1 x1) fun r26 =>
 E 40 [r26] H fun r27 H28 =>
 f22_c5_13a x1 r27 H28 Q)
 (f22_c5_13b x1 H Q) :=
  (AtJ_eq Pg Hs 22 [1, 1, 0, 0, 1, 1, 1, 0, 0, 8] Q _ H).trans (by kernel_rfl)
theorem f22_c5_8b_eq (x1 : List AV) (H : Heap) (Q : Post) : f22_c5_8b x1 H Q =
 f22_c5_13b x1 H Q :=
  (AtJ_eq Pg Hs 22 [1, 1, 0, 0, 1, 1, 1, 0, 0, 8] Q _ H).trans (by kernel_rfl)
theorem f22_j30_eq (x1 : List AV) (x3 : AV) (x55 : AV) (H : Heap) (Q : Post) : f22_j30 x1 x3 x55 H Q =
 cndA x55
 (ob (binA Pg .eql 3 true x3 (I 1)) fun r29 =>
 Q r29 H)
 (ob (partA false 0 1 x1) fun r30 =>
 ob (binA Pg .geq 3 true r30 (I 4)) fun r31 =>
 cndA r31
 (ob (partA false 0 1 x1) fun r32 =>
 ob (binA Pg .leq 3 true r32 (I 14)) fun r33 =>
 f22_j36 x1 x3 r33 H Q)
 (f22_j36 x1 x3 (B false) H Q)) :=
  (AtJ_eq Pg Hs 22 [1, 1, 0, 0, 1, 1, 1, 1, 1, 1, 1] Q _ H).trans (by kernel_rfl)
theorem f22_c3_12a_eq (x1 : List AV) (x23 : AV) (H : Heap) (Q : Post) : f22_c3_12a x1 x23 H Q =
 cndA x23
 (ob (partA false 5 1 x1) fun r34 =>
 ob (binA Pg .eql 9 true r34 (S ⟨#[]⟩)) fun r35 =>
 f22_c3_17a x1 r35 H Q)
 (f22_c3_17b x1 H Q) :=
  (AtJ_eq Pg Hs 22 [1, 1, 0, 0, 1, 0, 0, 12] Q _ H).trans (by kernel_rfl)
theorem f22_c3_12b_eq (x1 : List AV) (H : Heap) (Q : Post) : f22_c3_12b x1 H Q =
 f22_c3_17b x1 H Q :=
  (AtJ_eq Pg Hs 22 [1, 1, 0, 0, 1, 0, 0, 12] Q _ H).trans (by kernel_rfl)
theorem f22_c5_13a_eq (x1 : List AV) (x45 : AV) (H : Heap) (Q : Post) : f22_c5_13a x1 x45 H Q =
 cndA x45
 (ob (partA false 5 1 x1) fun r36 =>
 E 40 [r36] H fun r37 H38 =>
 f22_c5_18a x1 r37 H38 Q)
 (f22_c5_18b x1 H Q) :=
  (AtJ_eq Pg Hs 22 [1, 1, 0, 0, 1, 1, 1, 0, 0, 13] Q _ H).trans (by kernel_rfl)
theorem f22_c5_13b_eq (x1 : List AV) (H : Heap) (Q : Post) : f22_c5_13b x1 H Q =
 f22_c5_18b x1 H Q :=
  (AtJ_eq Pg Hs 22 [1, 1, 0, 0, 1, 1, 1, 0, 0, 13] Q _ H).trans (by kernel_rfl)
theorem f22_j36_eq (x1 : List AV) (x3 : AV) (x64 : AV) (H : Heap) (Q : Post) : f22_j36 x1 x3 x64 H Q =
 cndA x64
 (ob (binA Pg .eql 3 true x3 (I 2)) fun r39 =>
 Q r39 H)
 (newH H x1 fun r40 H41 =>
 ob (addPA r40 0) fun r42 =>
 ob (ldH H41 false 1 r42) fun r43 =>
 E 43 [r43] H41 fun r44 H45 =>
 cndA r44
 (ob (binA Pg .geq 3 true x3 (I 2)) fun r46 =>
 cndA r46
 (ob (addPA r40 6) fun r47 =>
 ob (ldH H45 false 1 r47) fun r48 =>
 E 44 [r48, (AV.fn (.func 42) [] [r40])] H45 fun r49 H50 =>
 ob (unA .not r49) fun r51 =>
 f22_j45 r51 H50 Q)
 (f22_j45 (B false) H45 Q))
 (f22_j45 (B false) H45 Q)) :=
  (AtJ_eq Pg Hs 22 [1, 1, 0, 0, 1, 1, 1, 1, 1, 1, 1, 1, 1] Q _ H).trans (by kernel_rfl)
theorem f22_c3_17a_eq (x1 : List AV) (x28 : AV) (H : Heap) (Q : Post) : f22_c3_17a x1 x28 H Q =
 f22_j11 x28 H Q :=
  (AtJ_eq Pg Hs 22 [1, 1, 0, 0, 1, 0, 0, 17] Q _ H).trans (by kernel_rfl)
theorem f22_c3_17b_eq (x1 : List AV) (H : Heap) (Q : Post) : f22_c3_17b x1 H Q =
 f22_j11 (B false) H Q :=
  (AtJ_eq Pg Hs 22 [1, 1, 0, 0, 1, 0, 0, 17] Q _ H).trans (by kernel_rfl)
theorem f22_c5_18a_eq (x1 : List AV) (x50 : AV) (H : Heap) (Q : Post) : f22_c5_18a x1 x50 H Q =
 f22_j17 x50 H Q :=
  (AtJ_eq Pg Hs 22 [1, 1, 0, 0, 1, 1, 1, 0, 0, 18] Q _ H).trans (by kernel_rfl)
theorem f22_c5_18b_eq (x1 : List AV) (H : Heap) (Q : Post) : f22_c5_18b x1 H Q =
 f22_j17 (B false) H Q :=
  (AtJ_eq Pg Hs 22 [1, 1, 0, 0, 1, 1, 1, 0, 0, 18] Q _ H).trans (by kernel_rfl)
theorem f22_j45_eq (x2 : AV) (H : Heap) (Q : Post) : f22_j45 x2 H Q =
 Q x2 H :=
  (AtJ_eq Pg Hs 22 [1, 1, 1, 1, 1] Q _ H).trans (by kernel_rfl)
theorem f22_j11_eq (x2 : AV) (H : Heap) (Q : Post) : f22_j11 x2 H Q =
 Q x2 H :=
  (AtJ_eq Pg Hs 22 [1, 1, 0, 0, 1, 0, 1] Q _ H).trans (by kernel_rfl)
theorem f22_j17_eq (x2 : AV) (H : Heap) (Q : Post) : f22_j17 x2 H Q =
 Q x2 H :=
  (AtJ_eq Pg Hs 22 [1, 1, 0, 0, 1, 1, 1, 0, 1] Q _ H).trans (by kernel_rfl)
theorem f22_eq (a0 : AV) (H : Heap) (Q : Post) : E 22 [a0] H Q =
 ob (sizedA 7 a0) fun b1 =>
 ob (partA false 6 1 b1) fun r2 =>
 ob (lenA r2) fun r3 =>
 ob (partA false 0 1 b1) fun r4 =>
 ob (binA Pg .eql 3 true r4 (I 1)) fun r5 =>
 cndA r5
 (ob (binA Pg .eql 3 true r3 (I 0)) fun r6 =>
 cndA r6
 (ob (partA true 1 3 b1) fun r7 =>
 E 39 [r7] H fun r8 H9 =>
 f22_c3_7a b1 r8 H9 Q)
 (f22_c3_7b b1 H Q))
 (ob (partA false 0 1 b1) fun r10 =>
 ob (binA Pg .eql 3 true r10 (I 2)) fun r11 =>
 cndA r11
 (ob (binA Pg .eql 3 true r3 (I 0)) fun r12 =>
 cndA r12
 (ob (partA true 1 3 b1) fun r13 =>
 ob (bldA [] [(I 0), (I 0), (S ⟨#[]⟩)]) fun r14 =>
 ob (binA Pg .eql 23 false r13 r14) fun r15 =>
 f22_c5_8a b1 r15 H Q)
 (f22_c5_8b b1 H Q))
 (ob (partA true 0 7 b1) fun r16 =>
 E 41 [r16] H fun r17 H18 =>
 ob (unA .not r17) fun r19 =>
 cndA r19
 (Q (B false) H18)
 (ob (partA false 0 1 b1) fun r20 =>
 ob (binA Pg .eql 3 true r20 (I 3)) fun r21 =>
 cndA r21
 (f22_j30 b1 r3 r21 H18 Q)
 (ob (partA false 0 1 b1) fun r22 =>
 ob (binA Pg .eql 3 true r22 (I 15)) fun r23 =>
 f22_j30 b1 r3 r23 H18 Q)))) :=
  Ev_eq.trans (by kernel_rfl)
/-! ### 23 cmp.Or[int] -/
def f23_l8 (x3 : AV) (x6 : AV) (x7 : AV) (x8 : AV) (H : Heap) (Q : Post) : Prop := AtF Pg Hs 23 [1, 1, 0, 1, 0] Q [(3, .val x3), (6, .val x6), (7, .val x7), (8, .val x8)] H
theorem f23_l8_eq (x3 : AV) (x6 : AV) (x7 : AV) (x8 : AV) (H : Heap) (Q : Post) : f23_l8 x3 x6 x7 x8 H Q =
 ob (binA Pg .lss 3 false x8 x7) fun r2 =>
 cndA r2
 (ob (ixaA 1 x6 x8) fun c3 =>
 ob (partA false 0 1 c3) fun r4 =>
 ob (binA Pg .neq 3 false r4 x3) fun r5 =>
 cndA r5
 (Q r4 H)
 (ob (binA Pg .add 3 true x8 (I 1)) fun r6 =>
 f23_l8 x3 x6 x7 r6 H Q))
 (Q x3 H) :=
  (AtF_eq Pg Hs 23 [1, 1, 0, 1, 0] Q _ H).trans (by kernel_rfl)
theorem f23_eq (a0 : AV) (H : Heap) (Q : Post) : E 23 [a0] H Q =
 ob (lenA a0) fun r1 =>
 f23_l8 (I 0) a0 r1 (I 0) H Q :=
  Ev_eq.trans (by kernel_rfl)
/-! ### 24 cmp.Compare[int] -/
theorem f24_eq (a0 a1 : AV) (H : Heap) (Q : Post) : E 24 [a0, a1] H Q =
 E 45 [a0] H fun r1 H2 =>
 E 45 [a1] H2 fun r3 H4 =>
 cndA r1
 (cndA r3
 (Q (I 0) H4)
 (Q (I (-1)) H4))
 (cndA r3
 (Q (I 1) H4)
 (ob (binA Pg .lss 3 false a0 a1) fun r5 =>
 cndA r5
 (Q (I (-1)) H4)
 (ob (binA Pg .gtr 3 false a0 a1) fun r6 =>
 cndA r6
 (Q (I 1) H4)
 (Q (I 0) H4)))) :=
  Ev_eq.trans (by kernel_rfl)
/-! ### 25 haruspex/value.Order -/
theorem f25_eq (a0 a1 : AV) (H : Heap) (Q : Post) : E 25 [a0, a1] H Q =
 ob (sizedA 3 a0) fun b1 =>
 ob (sizedA 3 a1) fun b2 =>
 ob (partA false 0 1 b1) fun r3 =>
 ob (partA false 0 1 b2) fun r4 =>
 E 24 [r3, r4] H fun r5 H6 =>
 ob (binA Pg .neq 3 true r5 (I 0)) fun r7 =>
 cndA r7
 (Q r5 H6)
 (ob (partA false 1 1 b1) fun r8 =>
 ob (partA false 1 1 b2) fun r9 =>
 E 46 [r8, r9] H6 fun r10 H11 =>
 ob (binA Pg .neq 3 true r10 (I 0)) fun r12 =>
 cndA r12
 (Q r10 H11)
 (ob (partA false 2 1 b1) fun r13 =>
 ob (partA false 2 1 b2) fun r14 =>
 E 26 [r13, r14] H11 fun r15 H16 =>
 Q r15 H16)) :=
  Ev_eq.trans (by kernel_rfl)
/-! ### 26 cmp.Compare[string] -/
theorem f26_eq (a0 a1 : AV) (H : Heap) (Q : Post) : E 26 [a0, a1] H Q =
 E 47 [a0] H fun r1 H2 =>
 E 47 [a1] H2 fun r3 H4 =>
 cndA r1
 (cndA r3
 (Q (I 0) H4)
 (Q (I (-1)) H4))
 (cndA r3
 (Q (I 1) H4)
 (ob (binA Pg .lss 9 false a0 a1) fun r5 =>
 cndA r5
 (Q (I (-1)) H4)
 (ob (binA Pg .gtr 9 false a0 a1) fun r6 =>
 cndA r6
 (Q (I 1) H4)
 (Q (I 0) H4)))) :=
  Ev_eq.trans (by kernel_rfl)
/-! ### 27 haruspex/lex.isBlank -/
def f27_j4 (x2 : AV) (H : Heap) (Q : Post) : Prop := AtJ Pg Hs 27 [1, 1] Q [(2, .val x2)] H
theorem f27_j4_eq (x2 : AV) (H : Heap) (Q : Post) : f27_j4 x2 H Q =
 Q x2 H :=
  (AtJ_eq Pg Hs 27 [1, 1] Q _ H).trans (by kernel_rfl)
theorem f27_eq (a0 : AV) (H : Heap) (Q : Post) : E 27 [a0] H Q =
 ob (binA Pg .eql 5 true a0 (AV.raw (.int .u8 32))) fun r1 =>
 cndA r1
 (f27_j4 (B true) H Q)
 (ob (binA Pg .eql 5 true a0 (AV.raw (.int .u8 9))) fun r2 =>
 cndA r2
 (f27_j4 (B true) H Q)
 (ob (binA Pg .eql 5 true a0 (AV.raw (.int .u8 10))) fun r3 =>
 f27_j4 r3 H Q)) :=
  Ev_eq.trans (by kernel_rfl)
/-! ### 28 (*haruspex/lex.scanner).text -/
theorem f28_eq (a0 : AV) (H : Heap) (Q : Post) : E 28 [a0] H Q =
 E 49 [a0] H fun r1 H2 =>
 E 48 [r1] H2 fun r3 H4 =>
 ob (extractA r3 0) fun r5 =>
 ob (extractA r3 1) fun r6 =>
 ob (extractA r3 2) fun r7 =>
 ob (binA Pg .neq 27 true r7 (I 0)) fun r8 =>
 cndA r8
 (ob (bldA [] [(I 0), (S ⟨#[]⟩), (I 0)]) fun r9 =>
 ob (nilA a0) fun r10 =>
 ob (addPA r10 1) fun r11 =>
 apL r11 []
 (ob (ldH H4 false 1 r11) fun r12 =>
 ob (binA Pg .add 3 false r12 r6) fun r13 =>
 ob (sizedA 3 r9) fun b14 =>
 ob (spliceA 0 b14 [(I 0), (S ⟨#[]⟩), (I 0)]) fun b15 =>
 ob (partA true 0 3 b15) fun r16 =>
 Q (AV.tup [r16, r13, r7]) H4))
 (ob (nilA a0) fun r17 =>
 ob (addPA r17 1) fun r18 =>
 ob (ldH H4 false 1 r18) fun r19 =>
 ob (bldA [(0, 1, (I 4)), (1, 1, r5), (2, 1, r19)] [(I 0), (S ⟨#[]⟩), (I 0)]) fun r20 =>
 ob (sizedA 3 r20) fun b21 =>
 ob (spliceA 0 b21 [(I 0), (S ⟨#[]⟩), (I 0)]) fun b22 =>
 ob (nilA a0) fun r23 =>
 ob (addPA r23 1) fun r24 =>
 ob (ldH H4 false 1 r24) fun r25 =>
 ob (binA Pg .add 3 false r25 r6) fun r26 =>
 ob (nilA a0) fun r27 =>
 ob (addPA r27 1) fun r28 =>
 ob (stH H4 1 r28 r26) fun H29 =>
 ob (partA true 0 3 b22) fun r30 =>
 ob (nilA a0) fun r31 =>
 ob (addPA r31 1) fun r32 =>
 apL r32 []
 (ob (ldH H29 false 1 r32) fun r33 =>
 ob (sizedA 3 r30) fun b34 =>
 ob (spliceA 0 b34 [(I 0), (S ⟨#[]⟩), (I 0)]) fun b35 =>
 ob (partA true 0 3 b35) fun r36 =>
 Q (AV.tup [r36, r33, (I 0)]) H29)) :=
  Ev_eq.trans (by kernel_rfl)
/-! ### 29 haruspex/lex.isUpper -/
def f29_j4 (x2 : AV) (H : Heap) (Q : Post) : Prop := AtJ Pg Hs 29 [1, 1] Q [(2, .val x2)] H
theorem f29_j4_eq (x2 : AV) (H : Heap) (Q : Post) : f29_j4 x2 H Q =
 Q x2 H :=
  (AtJ_eq Pg Hs 29 [1, 1] Q _ H).trans (by kernel_rfl)
theorem f29_eq (a0 : AV) (H : Heap) (Q : Post) : E 29 [a0] H Q =
 ob (binA Pg .geq 21 true a0 (AV.raw (.int .i32 65))) fun r1 =>
 cndA r1
 (ob (binA Pg .leq 21 true a0 (AV.raw (.int .i32 90))) fun r2 =>
 f29_j4 r2 H Q)
 (f29_j4 (B false) H Q) :=
  Ev_eq.trans (by kernel_rfl)
/-! ### 30 haruspex/lex.isLower -/
def f30_j4 (x2 : AV) (H : Heap) (Q : Post) : Prop := AtJ Pg Hs 30 [1, 1] Q [(2, .val x2)] H
theorem f30_j4_eq (x2 : AV) (H : Heap) (Q : Post) : f30_j4 x2 H Q =
 Q x2 H :=
  (AtJ_eq Pg Hs 30 [1, 1] Q _ H).trans (by kernel_rfl)
theorem f30_eq (a0 : AV) (H : Heap) (Q : Post) : E 30 [a0] H Q =
 ob (binA Pg .geq 21 true a0 (AV.raw (.int .i32 97))) fun r1 =>
 cndA r1
 (ob (binA Pg .leq 21 true a0 (AV.raw (.int .i32 122))) fun r2 =>
 f30_j4 r2 H Q)
 (f30_j4 (B false) H Q) :=
  Ev_eq.trans (by kernel_rfl)
/-! ### 31 haruspex/lex.isDigit -/
def f31_j4 (x2 : AV) (H : Heap) (Q : Post) : Prop := AtJ Pg Hs 31 [1, 1] Q [(2, .val x2)] H
theorem f31_j4_eq (x2 : AV) (H : Heap) (Q : Post) : f31_j4 x2 H Q =
 Q x2 H :=
  (AtJ_eq Pg Hs 31 [1, 1] Q _ H).trans (by kernel_rfl)
theorem f31_eq (a0 : AV) (H : Heap) (Q : Post) : E 31 [a0] H Q =
 ob (binA Pg .geq 21 true a0 (AV.raw (.int .i32 48))) fun r1 =>
 cndA r1
 (ob (binA Pg .leq 21 true a0 (AV.raw (.int .i32 57))) fun r2 =>
 f31_j4 r2 H Q)
 (f31_j4 (B false) H Q) :=
  Ev_eq.trans (by kernel_rfl)
/-! ### 32 (*haruspex/lex.scanner).letters -/
def f32_j41 (x0 : AV) (x1 : AV) (x4 : List AV) (x6 : AV) (H : Heap) (Q : Post) : Prop := AtJ Pg Hs 32 [1, 1, 1] Q [(0, .val x0), (1, .val x1), (4, .lbox x4), (6, .val x6)] H
def f32_j36 (x0 : AV) (x1 : AV) (x4 : List AV) (x6 : AV) (x28 : AV) (H : Heap) (Q : Post) : Prop := AtJ Pg Hs 32 [1, 1, 0, 1, 0, 1, 1, 1, 1, 1, 1] Q [(0, .val x0), (1, .val x1), (4, .lbox x4), (6, .val x6), (28, .val x28)] H
theorem f32_j41_eq (x0 : AV) (x1 : AV) (x4 : List AV) (x6 : AV) (H : Heap) (Q : Post) : f32_j41 x0 x1 x4 x6 H Q =
 E 52 [x0, x1, x6] H fun r35 H36 =>
 ob (sizedA 3 r35) fun b37 =>
 ob (spliceA 0 b37 x4) fun b38 =>
 ob (partA true 0 3 b38) fun r39 =>
 Q (AV.tup [r39, (B true)]) H36 :=
  (AtJ_eq Pg Hs 32 [1, 1, 1] Q _ H).trans (by kernel_rfl)
theorem f32_j36_eq (x0 : AV) (x1 : AV) (x4 : List AV) (x6 : AV) (x28 : AV) (H : Heap) (Q : Post) : f32_j36 x0 x1 x4 x6 x28 H Q =
 cndA x28
 (ob (bldA [] [(I 0), (S ⟨#[]⟩), (I 0)]) fun r40 =>
 ob (sizedA 3 r40) fun b41 =>
 ob (spliceA 0 b41 x4) fun b42 =>
 ob (partA true 0 3 b42) fun r43 =>
 Q (AV.tup [r43, (B false)]) H)
 (f32_j41 x0 x1 x4 x6 H Q) :=
  (AtJ_eq Pg Hs 32 [1, 1, 0, 1, 0, 1, 1, 1, 1, 1, 1] Q _ H).trans (by kernel_rfl)
theorem f32_eq (a0 a1 : AV) (H : Heap) (Q : Post) : E 32 [a0, a1] H Q =
 ob (binA Pg .eql 3 true a1 (I 1)) fun r1 =>
 cndA r1
 (E 49 [a0] H fun r2 H3 =>
 E 50 [r2, (AV.fn (.func 29) [] [])] H3 fun r4 H5 =>
 ob (binA Pg .gtr 3 true r4 (I 32)) fun r6 =>
 cndA r6
 (ob (bldA [] [(I 0), (S ⟨#[]⟩), (I 0)]) fun r7 =>
 ob (sizedA 3 r7) fun b8 =>
 ob (spliceA 0 b8 [(I 0), (S ⟨#[]⟩), (I 0)]) fun b9 =>
 ob (partA true 0 3 b9) fun r10 =>
 Q (AV.tup [r10, (B false)]) H5)
 (f32_j41 a0 a1 [(I 0), (S ⟨#[]⟩), (I 0)] r4 H5 Q))
 (ob (binA Pg .eql 3 true a1 (I 2)) fun r11 =>
 cndA r11
 (E 49 [a0] H fun r12 H13 =>
 E 50 [r12, (AV.fn (.func 51) [] [])] H13 fun r14 H15 =>
 ob (binA Pg .gtr 3 true r14 (I 32)) fun r16 =>
 cndA r16
 (ob (bldA [] [(I 0), (S ⟨#[]⟩), (I 0)]) fun r17 =>
 ob (sizedA 3 r17) fun b18 =>
 ob (spliceA 0 b18 [(I 0), (S ⟨#[]⟩), (I 0)]) fun b19 =>
 ob (partA true 0 3 b19) fun r20 =>
 Q (AV.tup [r20, (B false)]) H15)
 (f32_j41 a0 a1 [(I 0), (S ⟨#[]⟩), (I 0)] r14 H15 Q))
 (E 49 [a0] H fun r21 H22 =>
 E 50 [r21, (AV.fn (.func 31) [] [])] H22 fun r23 H24 =>
 ob (binA Pg .gtr 3 true r23 (I 19)) fun r25 =>
 cndA r25
 (f32_j36 a0 a1 [(I 0), (S ⟨#[]⟩), (I 0)] r23 (B true) H24 Q)
 (ob (binA Pg .gtr 3 true r23 (I 1)) fun r26 =>
 cndA r26
 (ob (nilA a0) fun r27 =>
 ob (addPA r27 0) fun r28 =>
 ob (ldH H24 false 1 r28) fun r29 =>
 ob (nilA a0) fun r30 =>
 ob (addPA r30 1) fun r31 =>
 ob (ldH H24 false 1 r31) fun r32 =>
 ob (ixA r29 r32) fun r33 =>
 ob (binA Pg .eql 5 true r33 (AV.raw (.int .u8 48))) fun r34 =>
 f32_j36 a0 a1 [(I 0), (S ⟨#[]⟩), (I 0)] r23 r34 H24 Q)
 (f32_j36 a0 a1 [(I 0), (S ⟨#[]⟩), (I 0)] r23 (B false) H24 Q)))) :=
  Ev_eq.trans (by kernel_rfl)
/-! ### 33 (*haruspex/lex.scanner).sign -/
def f33_l6 (x0 : AV) (x2 : List AV) (x6 : AV) (x7 : AV) (H : Heap) (Q : Post) : Prop := AtF Pg Hs 33 [1, 0, 1, 0] Q [(0, .val x0), (2, .lbox x2), (6, .val x6), (7, .val x7)] H
theorem f33_l6_eq (x0 : AV) (x2 : List AV) (x6 : AV) (x7 : AV) (H : Heap) (Q : Post) : f33_l6 x0 x2 x6 x7 H Q =
 ob (binA Pg .lss 3 true x7 (I 22)) fun r3 =>
 cndA r3
 (ob (ixAgg 22 false 1 x6 x7) fun r4 =>
 E 49 [x0] H fun r5 H6 =>
 E 54 [r5, r4] H6 fun r7 H8 =>
 cndA r7
 (ob (lenSA r4) fun r9 =>
 E 52 [x0, (I 5), r9] H8 fun r10 H11 =>
 ob (sizedA 3 r10) fun b12 =>
 ob (spliceA 0 b12 x2) fun b13 =>
 ob (partA true 0 3 b13) fun r14 =>
 Q (AV.tup [r14, (B true)]) H11)
 (ob (binA Pg .add 3 true x7 (I 1)) fun r15 =>
 f33_l6 x0 x2 x6 r15 H8 Q))
 (ob (bldA [] [(I 0), (S ⟨#[]⟩), (I 0)]) fun r16 =>
 ob (sizedA 3 r16) fun b17 =>
 ob (spliceA 0 b17 x2) fun b18 =>
 ob (partA true 0 3 b18) fun r19 =>
 Q (AV.tup [r19, (B false)]) H) :=
  (AtF_eq Pg Hs 33 [1, 0, 1, 0] Q _ H).trans (by kernel_rfl)
theorem f33_eq (a0 : AV) (H : Heap) (Q : Post) : E 33 [a0] H Q =
 E 53 [] H fun r1 H2 =>
 f33_l6 a0 [(I 0), (S ⟨#[]⟩), (I 0)] r1 (I 0) H2 Q :=
  Ev_eq.trans (by kernel_rfl)
/-! ### 34 (*haruspex/lex.Reader).Word -/
theorem f34_eq (a0 a1 : AV) (H : Heap) (Q : Post) : E 34 [a0, a1] H Q =
 E 55 [a0, (I 1), a1] H fun r1 H2 =>
 Q r1 H2 :=
  Ev_eq.trans (by kernel_rfl)
/-! ### 35 haruspex/expr.Join -/
def f35_l16 (x0 : AV) (x4 : List AV) (x5 : AV) (x12 : AV) (x13 : AV) (x14 : AV) (H : Heap) (Q : Post) : Prop := AtF Pg Hs 35 [1, 1, 1, 0, 1, 0] Q [(0, .val x0), (4, .lbox x4), (5, .val x5), (12, .val x12), (13, .val x13), (14, .val x14)] H
def f35_j32 (x0 : AV) (x4 : List AV) (x5 : AV) (x12 : AV) (x13 : AV) (x14 : AV) (H : Heap) (Q : Post) : Prop := AtJ Pg Hs 35 [1, 1, 1, 0, 1, 0, 0, 1, 1, 1] Q [(0, .val x0), (4, .lbox x4), (5, .val x5), (12, .val x12), (13, .val x13), (14, .val x14)] H
theorem f35_l16_eq (x0 : AV) (x4 : List AV) (x5 : AV) (x12 : AV) (x13 : AV) (x14 : AV) (H : Heap) (Q : Post) : f35_l16 x0 x4 x5 x12 x13 x14 H Q =
 ob (binA Pg .lss 3 false x14 x13) fun r9 =>
 cndA r9
 (ob (ixaA 7 x12 x14) fun c10 =>
 ob (partA true 0 7 c10) fun r11 =>
 ob (sizedA 7 r11) fun b12 =>
 ob (spliceA 0 b12 [(I 0), (I 0), (I 0), (S ⟨#[]⟩), (S ⟨#[]⟩), (S ⟨#[]⟩), (AV.sl 0 true .full [])]) fun b13 =>
 ob (partA false 0 1 b13) fun r14 =>
 ob (binA Pg .eql 3 false r14 x0) fun r15 =>
 cndA r15
 (ob (partA false 6 1 b13) fun r16 =>
 appA 7 96 x5 r16 H fun r17 H18 =>
 f35_j32 x0 x4 r17 x12 x13 x14 H18 Q)
 (ob (partA true 0 7 b13) fun r19 =>
 ob (mkSlA 7 [r19]) fun r20 =>
 appA 7 96 x5 r20 H fun r21 H22 =>
 f35_j32 x0 x4 r21 x12 x13 x14 H22 Q))
 (ob (lenA x5) fun r23 =>
 ob (binA Pg .eql 3 true r23 (I 0)) fun r24 =>
 cndA r24
 (ob (binA Pg .eql 3 true x0 (I 16)) fun r25 =>
 E 56 [r25] H fun r26 H27 =>
 ob (bldA [(0, 1, (I 1)), (1, 3, r26)] [(I 0), (I 0), (I 0), (S ⟨#[]⟩), (S ⟨#[]⟩), (S ⟨#[]⟩), (AV.sl 0 true .full [])]) fun r28 =>
 ob (sizedA 7 r28) fun b29 =>
 ob (spliceA 0 b29 x4) fun b30 =>
 ob (partA true 0 7 b30) fun r31 =>
 Q r31 H27)
 (ob (binA Pg .eql 3 true r23 (I 1)) fun r32 =>
 cndA r32
 (ob (ixaA 7 x5 (I 0)) fun c33 =>
 ob (partA true 0 7 c33) fun r34 =>
 ob (sizedA 7 r34) fun b35 =>
 ob (spliceA 0 b35 x4) fun b36 =>
 ob (partA true 0 7 b36) fun r37 =>
 Q r37 H)
 (ob (bldA [(0, 1, x0), (6, 1, x5)] [(I 0), (I 0), (I 0), (S ⟨#[]⟩), (S ⟨#[]⟩), (S ⟨#[]⟩), (AV.sl 0 true .full [])]) fun r38 =>
 ob (sizedA 7 r38) fun b39 =>
 ob (spliceA 0 b39 x4) fun b40 =>
 ob (partA true 0 7 b40) fun r41 =>
 Q r41 H))) :=
  (AtF_eq Pg Hs 35 [1, 1, 1, 0, 1, 0] Q _ H).trans (by kernel_rfl)
theorem f35_j32_eq (x0 : AV) (x4 : List AV) (x5 : AV) (x12 : AV) (x13 : AV) (x14 : AV) (H : Heap) (Q : Post) : f35_j32 x0 x4 x5 x12 x13 x14 H Q =
 ob (binA Pg .add 3 true x14 (I 1)) fun r42 =>
 f35_l16 x0 x4 x5 x12 x13 r42 H Q :=
  (AtJ_eq Pg Hs 35 [1, 1, 1, 0, 1, 0, 0, 1, 1, 1] Q _ H).trans (by kernel_rfl)
theorem f35_eq (a0 a1 : AV) (H : Heap) (Q : Post) : E 35 [a0, a1] H Q =
 E 43 [a0] H fun r1 H2 =>
 ob (unA .not r1) fun r3 =>
 cndA r3
 (ob (bldA [] [(I 0), (I 0), (I 0), (S ⟨#[]⟩), (S ⟨#[]⟩), (S ⟨#[]⟩), (AV.sl 0 true .full [])]) fun r4 =>
 ob (sizedA 7 r4) fun b5 =>
 ob (spliceA 0 b5 [(I 0), (I 0), (I 0), (S ⟨#[]⟩), (S ⟨#[]⟩), (S ⟨#[]⟩), (AV.sl 0 true .full [])]) fun b6 =>
 ob (partA true 0 7 b6) fun r7 =>
 Q r7 H2)
 (ob (lenA a1) fun r8 =>
 f35_l16 a0 [(I 0), (I 0), (I 0), (S ⟨#[]⟩), (S ⟨#[]⟩), (S ⟨#[]⟩), (AV.sl 0 true .full [])] (AV.sl 0 true .full []) a1 r8 (I 0) H2 Q) :=
  Ev_eq.trans (by kernel_rfl)
/-! ### 36 (*haruspex/cond.parser).not -/
theorem f36_eq (a0 : AV) (H : Heap) (Q : Post) : E 36 [a0] H Q =
 E 57 [a0, (I 1), (S ⟨#[78, 79, 84]⟩)] H fun r1 H2 =>
 ob (unA .not r1) fun r3 =>
 cndA r3
 (E 58 [a0] H2 fun r4 H5 =>
 ob (sizedA 7 r4) fun b6 =>
 ob (spliceA 0 b6 [(I 0), (I 0), (I 0), (S ⟨#[]⟩), (S ⟨#[]⟩), (S ⟨#[]⟩), (AV.sl 0 true .full [])]) fun b7 =>
 ob (partA true 0 7 b7) fun r8 =>
 Q r8 H5)
 (E 59 [a0, (AV.fn (.func 36) [a0] [])] H2 fun r9 H10 =>
 ob (mkSlA 7 [r9]) fun r11 =>
 ob (bldA [(0, 1, (I 15)), (6, 1, r11)] [(I 0), (I 0), (I 0), (S ⟨#[]⟩), (S ⟨#[]⟩), (S ⟨#[]⟩), (AV.sl 0 true .full [])]) fun r12 =>
 ob (sizedA 7 r12) fun b13 =>
 ob (spliceA 0 b13 [(I 0), (I 0), (I 0), (S ⟨#[]⟩), (S ⟨#[]⟩), (S ⟨#[]⟩), (AV.sl 0 true .full [])]) fun b14 =>
 ob (partA true 0 7 b14) fun r15 =>
 Q r15 H10) :=
  Ev_eq.trans (by kernel_rfl)
/-! ### 37 haruspex/expr.nodes$1 -/
theorem f37_eq (a0 a1 : AV) (H : Heap) (Q : Post) : E 37 [a0, a1] H Q =
 ob (sizedA 1 a0) fun b1 =>
 newH H b1 fun r2 H3 =>
 newH H3 [(AV.raw .nilFunc)] fun r4 H5 =>
 ob (stH H5 1 r4 (AV.fn (.func 38) [] [r2, r4])) fun H6 =>
 ob (ldH H6 false 1 r4) fun r7 =>
 ob (ldH H6 true 7 a1) fun r8 =>
 callA (Ev Pg Hs) r7 [(I 1), r8] H6 fun r9 H10 =>
 Q (AV.tup []) H10 :=
  Ev_eq.trans (by kernel_rfl)
/-! ### 38 haruspex/expr.nodes$1$1 -/
def f38_l14 (x0 : AV) (x3 : AV) (x15 : AV) (x16 : AV) (x17 : AV) (H : Heap) (Q : Post) : Prop := AtF Pg Hs 38 [1, 1, 0, 1, 0] Q [(0, .val x0), (3, .val x3), (15, .val x15), (16, .val x16), (17, .val x17)] H
theorem f38_l14_eq (x0 : AV) (x3 : AV) (x15 : AV) (x16 : AV) (x17 : AV) (H : Heap) (Q : Post) : f38_l14 x0 x3 x15 x16 x17 H Q =
 ob (binA Pg .lss 3 false x17 x16) fun r9 =>
 cndA r9
 (ob (ixaA 7 x15 x17) fun c10 =>
 ob (partA true 0 7 c10) fun r11 =>
 ob (sizedA 7 r11) fun b12 =>
 ob (spliceA 0 b12 [(I 0), (I 0), (I 0), (S ⟨#[]⟩), (S ⟨#[]⟩), (S ⟨#[]⟩), (AV.sl 0 true .full [])]) fun b13 =>
 ob (ldH H false 1 x3) fun r14 =>
 ob (binA Pg .add 3 true x0 (I 1)) fun r15 =>
 ob (partA true 0 7 b13) fun r16 =>
 callA (Ev Pg Hs) r14 [r15, r16] H fun r17 H18 =>
 ob (unA .not r17) fun r19 =>
 cndA r19
 (Q (B false) H18)
 (ob (binA Pg .add 3 true x17 (I 1)) fun r20 =>
 f38_l14 x0 x3 x15 x16 r20 H18 Q))
 (Q (B true) H) :=
  (AtF_eq Pg Hs 38 [1, 1, 0, 1, 0] Q _ H).trans (by kernel_rfl)
theorem f38_eq (a0 a1 a2 a3 : AV) (H : Heap) (Q : Post) : E 38 [a0, a1, a2, a3] H Q =
 ob (sizedA 7 a1) fun b1 =>
 ob (ldH H false 1 a2) fun r2 =>
 ob (partA true 0 7 b1) fun r3 =>
 callA (Ev Pg Hs) r2 [a0, r3] H fun r4 H5 =>
 ob (unA .not r4) fun r6 =>
 cndA r6
 (Q (B false) H5)
 (ob (partA false 6 1 b1) fun r7 =>
 ob (lenA r7) fun r8 =>
 f38_l14 a0 a3 r7 r8 (I 0) H5 Q) :=
  Ev_eq.trans (by kernel_rfl)
/-! ### 39 haruspex/value.Right -/
def f39_j17 (x2 : AV) (H : Heap) (Q : Post) : Prop := AtJ Pg Hs 39 [1, 0, 1, 0, 1, 1, 1, 0, 1] Q [(2, .val x2)] H
def f39_j29 (x2 : AV) (H : Heap) (Q : Post) : Prop := AtJ Pg Hs 39 [1, 0, 1, 0, 1, 1, 1, 1, 1, 1, 1, 0, 1] Q [(2, .val x2)] H
theorem f39_j17_eq (x2 : AV) (H : Heap) (Q : Post) : f39_j17 x2 H Q =
 Q x2 H :=
  (AtJ_eq Pg Hs 39 [1, 0, 1, 0, 1, 1, 1, 0, 1] Q _ H).trans (by kernel_rfl)
theorem f39_j29_eq (x2 : AV) (H : Heap) (Q : Post) : f39_j29 x2 H Q =
 Q x2 H :=
  (AtJ_eq Pg Hs 39 [1, 0, 1, 0, 1, 1, 1, 1, 1, 1, 1, 0, 1] Q _ H).trans (by kernel_rfl)
theorem f39_eq (a0 : AV) (H : Heap) (Q : Post) : E 39 [a0] H Q =
 ob (sizedA 3 a0) fun b1 =>
 ob (partA false 0 1 b1) fun r2 =>
 ob (binA Pg .eql 3 true r2 (I 0)) fun r3 =>
 cndA r3
 (ob (partA true 0 3 b1) fun r4 =>
 ob (bldA [] [(I 0), (I 0), (S ⟨#[]⟩)]) fun r5 =>
 ob (binA Pg .eql 23 false r4 r5) fun r6 =>
 Q r6 H)
 (ob (binA Pg .eql 3 true r2 (I 1)) fun r7 =>
 cndA r7
 (ob (partA false 2 1 b1) fun r8 =>
 ob (binA Pg .eql 9 true r8 (S ⟨#[]⟩)) fun r9 =>
 cndA r9
 (ob (partA false 1 1 b1) fun r10 =>
 ob (binA Pg .andNot 2 true r10 (I 1)) fun r11 =>
 ob (binA Pg .eql 2 true r11 (I 0)) fun r12 =>
 f39_j17 r12 H Q)
 (f39_j17 (B false) H Q))
 (ob (binA Pg .eql 3 true r2 (I 2)) fun r13 =>
 cndA r13
 (ob (partA false 2 1 b1) fun r14 =>
 ob (binA Pg .eql 9 true r14 (S ⟨#[]⟩)) fun r15 =>
 Q r15 H)
 (ob (binA Pg .eql 3 true r2 (I 3)) fun r16 =>
 cndA r16
 (ob (partA false 1 1 b1) fun r17 =>
 ob (binA Pg .eql 2 true r17 (I 0)) fun r18 =>
 cndA r18
 (ob (partA false 2 1 b1) fun r19 =>
 ob (lenSA r19) fun r20 =>
 ob (binA Pg .leq 3 true r20 (I 256)) fun r21 =>
 f39_j29 r21 H Q)
 (f39_j29 (B false) H Q))
 (Q (B false) H)))) :=
  Ev_eq.trans (by kernel_rfl)
/-! ### 40 haruspex/word.Name -/
def f40_l6 (x0 : AV) (x6 : AV) (H : Heap) (Q : Post) : Prop := AtF Pg Hs 40 [1, 0, 1, 0] Q [(0, .val x0), (6, .val x6)] H
def f40_j18 (x0 : AV) (x6 : AV) (x22 : AV) (H : Heap) (Q : Post) : Prop := AtJ Pg Hs 40 [1, 0, 1, 0, 0, 1, 1, 0, 1, 1] Q [(0, .val x0), (6, .val x6), (22, .val x22)] H
def f40_j25 (x2 : AV) (H : Heap) (Q : Post) : Prop := AtJ Pg Hs 40 [1, 1, 1] Q [(2, .val x2)] H
theorem f40_l6_eq (x0 : AV) (x6 : AV) (H : Heap) (Q : Post) : f40_l6 x0 x6 H Q =
 nextA x6 H fun r3 H4 =>
 ob (extractA r3 0) fun r5 =>
 cndA r5
 (ob (extractA r3 1) fun r6 =>
 ob (extractA r3 2) fun r7 =>
 E 60 [r7] H4 fun r8 H9 =>
 ob (unA .not r8) fun r10 =>
 cndA r10
 (f40_j18 x0 x6 (B true) H9 Q)
 (ob (binA Pg .eql 3 true r6 (I 0)) fun r11 =>
 cndA r11
 (E 61 [r7] H9 fun r12 H13 =>
 ob (unA .not r12) fun r14 =>
 f40_j18 x0 x6 r14 H13 Q)
 (f40_j18 x0 x6 (B false) H9 Q)))
 (ob (binA Pg .neq 9 true x0 (S ⟨#[]⟩)) fun r15 =>
 cndA r15
 (ob (lenSA x0) fun r16 =>
 ob (binA Pg .leq 3 true r16 (I 32)) fun r17 =>
 f40_j25 r17 H4 Q)
 (f40_j25 (B false) H4 Q)) :=
  (AtF_eq Pg Hs 40 [1, 0, 1, 0] Q _ H).trans (by kernel_rfl)
theorem f40_j18_eq (x0 : AV) (x6 : AV) (x22 : AV) (H : Heap) (Q : Post) : f40_j18 x0 x6 x22 H Q =
 cndA x22
 (Q (B false) H)
 (f40_l6 x0 x6 H Q) :=
  (AtJ_eq Pg Hs 40 [1, 0, 1, 0, 0, 1, 1, 0, 1, 1] Q _ H).trans (by kernel_rfl)
theorem f40_j25_eq (x2 : AV) (H : Heap) (Q : Post) : f40_j25 x2 H Q =
 Q x2 H :=
  (AtJ_eq Pg Hs 40 [1, 1, 1] Q _ H).trans (by kernel_rfl)
theorem f40_eq (a0 : AV) (H : Heap) (Q : Post) : E 40 [a0] H Q =
 rngA a0 H fun r1 H2 =>
 f40_l6 a0 r1 H2 Q :=
  Ev_eq.trans (by kernel_rfl)
/-! ### 41 haruspex/expr.bare -/
def f41_j4 (x2 : AV) (H : Heap) (Q : Post) : Prop := AtJ Pg Hs 41 [1, 1] Q [(2, .val x2)] H
theorem f41_j4_eq (x2 : AV) (H : Heap) (Q : Post) : f41_j4 x2 H Q =
 Q x2 H :=
  (AtJ_eq Pg Hs 41 [1, 1] Q _ H).trans (by kernel_rfl)
theorem f41_eq (a0 : AV) (H : Heap) (Q : Post) : E 41 [a0] H Q =
 ob (sizedA 7 a0) fun b1 =>
 ob (partA true 1 3 b1) fun r2 =>
 ob (bldA [] [(I 0), (I 0), (S ⟨#[]⟩)]) fun r3 =>
 ob (binA Pg .eql 23 false r2 r3) fun r4 =>
 cndA r4
 (ob (partA false 4 1 b1) fun r5 =>
 ob (binA Pg .eql 9 true r5 (S ⟨#[]⟩)) fun r6 =>
 cndA r6
 (ob (partA false 5 1 b1) fun r7 =>
 ob (binA Pg .eql 9 true r7 (S ⟨#[]⟩)) fun r8 =>
 f41_j4 r8 H Q)
 (f41_j4 (B false) H Q))
 (f41_j4 (B false) H Q) :=
  Ev_eq.trans (by kernel_rfl)
/-! ### 42 haruspex/expr.right$1 -/
theorem f42_eq (a0 a1 : AV) (H : Heap) (Q : Post) : E 42 [a0, a1] H Q =
 ob (sizedA 7 a0) fun b1 =>
 ob (partA false 0 1 b1) fun r2 =>
 ob (addPA a1 0) fun r3 =>
 ob (ldH H false 1 r3) fun r4 =>
 ob (binA Pg .eql 3 false r2 r4) fun r5 =>
 Q r5 H :=
  Ev_eq.trans (by kernel_rfl)
/-! ### 43 haruspex/expr.isRow -/
def f43_j4 (x2 : AV) (H : Heap) (Q : Post) : Prop := AtJ Pg Hs 43 [1, 1] Q [(2, .val x2)] H
theorem f43_j4_eq (x2 : AV) (H : Heap) (Q : Post) : f43_j4 x2 H Q =
 Q x2 H :=
  (AtJ_eq Pg Hs 43 [1, 1] Q _ H).trans (by kernel_rfl)
theorem f43_eq (a0 : AV) (H : Heap) (Q : Post) : E 43 [a0] H Q =
 ob (binA Pg .eql 3 true a0 (I 16)) fun r1 =>
 cndA r1
 (f43_j4 (B true) H Q)
 (ob (binA Pg .eql 3 true a0 (I 17)) fun r2 =>
 f43_j4 r2 H Q) :=
  Ev_eq.trans (by kernel_rfl)
/-! ### 44 slices.ContainsFunc[[]haruspex/api.Expr,haruspex/api.Expr] -/
theorem f44_eq (a0 a1 : AV) (H : Heap) (Q : Post) : E 44 [a0, a1] H Q =
 E 62 [a0, a1] H fun r1 H2 =>
 ob (binA Pg .geq 3 true r1 (I 0)) fun r3 =>
 Q r3 H2 :=
  Ev_eq.trans (by kernel_rfl)
/-! ### 45 cmp.isNaN[int] -/
theorem f45_eq (a0 : AV) (H : Heap) (Q : Post) : E 45 [a0] H Q =
 ob (binA Pg .neq 3 false a0 a0) fun r1 =>
 Q r1 H :=
  Ev_eq.trans (by kernel_rfl)
/-! ### 46 cmp.Compare[int64] -/
theorem f46_eq (a0 a1 : AV) (H : Heap) (Q : Post) : E 46 [a0, a1] H Q =
 E 63 [a0] H fun r1 H2 =>
 E 63 [a1] H2 fun r3 H4 =>
 cndA r1
 (cndA r3
 (Q (I 0) H4)
 (Q (I (-1)) H4))
 (cndA r3
 (Q (I 1) H4)
 (ob (binA Pg .lss 2 false a0 a1) fun r5 =>
 cndA r5
 (Q (I (-1)) H4)
 (ob (binA Pg .gtr 2 false a0 a1) fun r6 =>
 cndA r6
 (Q (I 1) H4)
 (Q (I 0) H4)))) :=
  Ev_eq.trans (by kernel_rfl)
/-! ### 47 cmp.isNaN[string] -/
theorem f47_eq (a0 : AV) (H : Heap) (Q : Post) : E 47 [a0] H Q =
 ob (binA Pg .neq 9 false a0 a0) fun r1 =>
 Q r1 H :=
  Ev_eq.trans (by kernel_rfl)
/-! ### 48 haruspex/word.Unquote -/
def f48_j5 (x0 : AV) (x16 : AV) (H : Heap) (Q : Post) : Prop := AtJ Pg Hs 48 [1, 0, 1] Q [(0, .val x0), (16, .val x16)] H
def f48_l15 (x5 : AV) (x6 : AV) (H : Heap) (Q : Post) : Prop := AtF Pg Hs 48 [1, 1, 1, 1, 0] Q [(5, .val x5), (6, .val x6)] H
def f48_j23 (x5 : AV) (x6 : AV) (x7 : AV) (x8 : AV) (x9 : AV) (x26 : AV) (H : Heap) (Q : Post) : Prop := AtJ Pg Hs 48 [1, 1, 1, 1, 0, 0, 0, 1, 0, 0, 1] Q [(5, .val x5), (6, .val x6), (7, .val x7), (8, .val x8), (9, .val x9), (26, .val x26)] H
theorem f48_j5_eq (x0 : AV) (x16 : AV) (H : Heap) (Q : Post) : f48_j5 x0 x16 H Q =
 cndA x16
 (Q (AV.tup [(S ⟨#[]⟩), (I 0), (I 4)]) H)
 (ob (bldA [(0, 1, x0), (1, 1, (I 1))] [(S ⟨#[]⟩), (I 0)]) fun r4 =>
 ob (sizedA 2 r4) fun b5 =>
 newH H b5 fun r6 H7 =>
 f48_l15 r6 (AV.sl 0 true .full []) H7 Q) :=
  (AtJ_eq Pg Hs 48 [1, 0, 1] Q _ H).trans (by kernel_rfl)
theorem f48_l15_eq (x5 : AV) (x6 : AV) (H : Heap) (Q : Post) : f48_l15 x5 x6 H Q =
 E 64 [x5] H fun r8 H9 =>
 ob (extractA r8 0) fun r10 =>
 ob (extractA r8 1) fun r11 =>
 ob (extractA r8 2) fun r12 =>
 cndA r12
 (ob (lenA x6) fun r13 =>
 ob (binA Pg .gtr 3 true r13 (I 256)) fun r14 =>
 f48_j23 x5 x6 r10 r11 r12 r14 H9 Q)
 (f48_j23 x5 x6 r10 r11 r12 (B false) H9 Q) :=
  (AtF_eq Pg Hs 48 [1, 1, 1, 1, 0] Q _ H).trans (by kernel_rfl)
theorem f48_j23_eq (x5 : AV) (x6 : AV) (x7 : AV) (x8 : AV) (x9 : AV) (x26 : AV) (H : Heap) (Q : Post) : f48_j23 x5 x6 x7 x8 x9 x26 H Q =
 cndA x26
 (Q (AV.tup [(S ⟨#[]⟩), (I 0), (I 2)]) H)
 (cndA x9
 (ob (nilA x5) fun r15 =>
 ob (addPA r15 1) fun r16 =>
 apL r16 []
 (ob (ldH H false 1 r16) fun r17 =>
 bsA x6 fun r18 =>
 Q (AV.tup [r18, r17, (I 0)]) H))
 (ob (unA .not x8) fun r19 =>
 cndA r19
 (ob (nilA x5) fun r20 =>
 ob (addPA r20 1) fun r21 =>
 ob (ldH H false 1 r21) fun r22 =>
 Q (AV.tup [(S ⟨#[]⟩), r22, (I 4)]) H)
 (ob (mkSlA 1 [x7]) fun r23 =>
 appB 5 x6 r23 H fun r24 H25 =>
 f48_l15 x5 r24 H25 Q))) :=
  (AtJ_eq Pg Hs 48 [1, 1, 1, 1, 0, 0, 0, 1, 0, 0, 1] Q _ H).trans (by kernel_rfl)
theorem f48_eq (a0 : AV) (H : Heap) (Q : Post) : E 48 [a0] H Q =
 ob (binA Pg .eql 9 true a0 (S ⟨#[]⟩)) fun r1 =>
 cndA r1
 (f48_j5 a0 (B true) H Q)
 (ob (ixA a0 (I 0)) fun r2 =>
 ob (binA Pg .neq 5 true r2 (AV.raw (.int .u8 39))) fun r3 =>
 f48_j5 a0 r3 H Q) :=
  Ev_eq.trans (by kernel_rfl)
/-! ### 49 (*haruspex/lex.scanner).rest -/
theorem f49_eq (a0 : AV) (H : Heap) (Q : Post) : E 49 [a0] H Q =
 ob (nilA a0) fun r1 =>
 ob (addPA r1 0) fun r2 =>
 ob (ldH H false 1 r2) fun r3 =>
 ob (nilA a0) fun r4 =>
 ob (addPA r4 1) fun r5 =>
 ob (ldH H false 1 r5) fun r6 =>
 ob (sliceSA r3 (some r6) none) fun r7 =>
 Q r7 H :=
  Ev_eq.trans (by kernel_rfl)
/-! ### 50 haruspex/lex.run -/
def f50_l6 (x0 : AV) (x1 : AV) (x8 : AV) (H : Heap) (Q : Post) : Prop := AtF Pg Hs 50 [1, 0, 1, 0] Q [(0, .val x0), (1, .val x1), (8, .val x8)] H
theorem f50_l6_eq (x0 : AV) (x1 : AV) (x8 : AV) (H : Heap) (Q : Post) : f50_l6 x0 x1 x8 H Q =
 nextA x8 H fun r3 H4 =>
 ob (extractA r3 0) fun r5 =>
 cndA r5
 (ob (extractA r3 1) fun r6 =>
 ob (extractA r3 2) fun r7 =>
 callA (Ev Pg Hs) x1 [r7] H4 fun r8 H9 =>
 ob (unA .not r8) fun r10 =>
 cndA r10
 (Q r6 H9)
 (f50_l6 x0 x1 x8 H9 Q))
 (ob (lenSA x0) fun r11 =>
 Q r11 H4) :=
  (AtF_eq Pg Hs 50 [1, 0, 1, 0] Q _ H).trans (by kernel_rfl)
theorem f50_eq (a0 a1 : AV) (H : Heap) (Q : Post) : E 50 [a0, a1] H Q =
 rngA a0 H fun r1 H2 =>
 f50_l6 a0 a1 r1 H2 Q :=
  Ev_eq.trans (by kernel_rfl)
/-! ### 51 haruspex/lex.isSign -/
def f51_j4 (x2 : AV) (H : Heap) (Q : Post) : Prop := AtJ Pg Hs 51 [1, 1] Q [(2, .val x2)] H
theorem f51_j4_eq (x2 : AV) (H : Heap) (Q : Post) : f51_j4 x2 H Q =
 Q x2 H :=
  (AtJ_eq Pg Hs 51 [1, 1] Q _ H).trans (by kernel_rfl)
theorem f51_eq (a0 : AV) (H : Heap) (Q : Post) : E 51 [a0] H Q =
 E 30 [a0] H fun r1 H2 =>
 cndA r1
 (f51_j4 (B true) H2 Q)
 (E 31 [a0] H2 fun r3 H4 =>
 cndA r3
 (f51_j4 (B true) H4 Q)
 (ob (binA Pg .eql 21 true a0 (AV.raw (.int .i32 95))) fun r5 =>
 f51_j4 r5 H4 Q)) :=
  Ev_eq.trans (by kernel_rfl)
/-! ### 52 (*haruspex/lex.scanner).token -/
theorem f52_eq (a0 a1 a2 : AV) (H : Heap) (Q : Post) : E 52 [a0, a1, a2] H Q =
 ob (nilA a0) fun r1 =>
 ob (addPA r1 0) fun r2 =>
 ob (ldH H false 1 r2) fun r3 =>
 ob (nilA a0) fun r4 =>
 ob (addPA r4 1) fun r5 =>
 ob (ldH H false 1 r5) fun r6 =>
 ob (nilA a0) fun r7 =>
 ob (addPA r7 1) fun r8 =>
 ob (ldH H false 1 r8) fun r9 =>
 ob (binA Pg .add 3 false r9 a2) fun r10 =>
 ob (sliceSA r3 (some r6) (some r10)) fun r11 =>
 ob (nilA a0) fun r12 =>
 ob (addPA r12 1) fun r13 =>
 ob (ldH H false 1 r13) fun r14 =>
 ob (bldA [(0, 1, a1), (1, 1, r11), (2, 1, r14)] [(I 0), (S ⟨#[]⟩), (I 0)]) fun r15 =>
 ob (sizedA 3 r15) fun b16 =>
 ob (spliceA 0 b16 [(I 0), (S ⟨#[]⟩), (I 0)]) fun b17 =>
 ob (nilA a0) fun r18 =>
 ob (addPA r18 1) fun r19 =>
 ob (ldH H false 1 r19) fun r20 =>
 ob (binA Pg .add 3 false r20 a2) fun r21 =>
 ob (nilA a0) fun r22 =>
 ob (addPA r22 1) fun r23 =>
 ob (stH H 1 r23 r21) fun H24 =>
 ob (partA true 0 3 b17) fun r25 =>
 ob (sizedA 3 r25) fun b26 =>
 ob (spliceA 0 b26 [(I 0), (S ⟨#[]⟩), (I 0)]) fun b27 =>
 ob (partA true 0 3 b27) fun r28 =>
 Q r28 H24 :=
  Ev_eq.trans (by kernel_rfl)
/-! ### 53 haruspex/lex.signs -/
theorem f53_eq (_u : Unit := ()) (H : Heap) (Q : Post) : E 53 [] H Q =
 newH H [(S ⟨#[]⟩), (S ⟨#[]⟩), (S ⟨#[]⟩), (S ⟨#[]⟩), (S ⟨#[]⟩), (S ⟨#[]⟩), (S ⟨#[]⟩), (S ⟨#[]⟩), (S ⟨#[]⟩), (S ⟨#[]⟩), (S ⟨#[]⟩), (S ⟨#[]⟩), (S ⟨#[]⟩), (S ⟨#[]⟩), (S ⟨#[]⟩), (S ⟨#[]⟩), (S ⟨#[]⟩), (S ⟨#[]⟩), (S ⟨#[]⟩), (S ⟨#[]⟩), (S ⟨#[]⟩), (S ⟨#[]⟩)] fun r1 H2 =>
 ob (bldA [(0, 1, (S ⟨#[60, 61]⟩)), (1, 1, (S ⟨#[62, 61]⟩)), (2, 1, (S ⟨#[60, 62]⟩)), (3, 1, (S ⟨#[45, 62]⟩)), (4, 1, (S ⟨#[40]⟩)), (5, 1, (S ⟨#[41]⟩)), (6, 1, (S ⟨#[44]⟩)), (7, 1, (S ⟨#[46]⟩)), (8, 1, (S ⟨#[43]⟩)), (9, 1, (S ⟨#[45]⟩)), (10, 1, (S ⟨#[42]⟩)), (11, 1, (S ⟨#[47]⟩)), (12, 1, (S ⟨#[37]⟩)), (13, 1, (S ⟨#[61]⟩)), (14, 1, (S ⟨#[60]⟩)), (15, 1, (S ⟨#[62]⟩)), (16, 1, (S ⟨#[33]⟩)), (17, 1, (S ⟨#[124]⟩)), (18, 1, (S ⟨#[123]⟩)), (19, 1, (S ⟨#[125]⟩)), (20, 1, (S ⟨#[91]⟩)), (21, 1, (S ⟨#[93]⟩))] [(S ⟨#[]⟩), (S ⟨#[]⟩), (S ⟨#[]⟩), (S ⟨#[]⟩), (S ⟨#[]⟩), (S ⟨#[]⟩), (S ⟨#[]⟩), (S ⟨#[]⟩), (S ⟨#[]⟩), (S ⟨#[]⟩), (S ⟨#[]⟩), (S ⟨#[]⟩), (S ⟨#[]⟩), (S ⟨#[]⟩), (S ⟨#[]⟩), (S ⟨#[]⟩), (S ⟨#[]⟩), (S ⟨#[]⟩), (S ⟨#[]⟩), (S ⟨#[]⟩), (S ⟨#[]⟩), (S ⟨#[]⟩)]) fun r3 =>
 ob (stH H2 22 r1 r3) fun H4 =>
 ob (ldH H4 true 22 r1) fun r5 =>
 Q r5 H4 :=
  Ev_eq.trans (by kernel_rfl)
/-! ### 54 haruspex/lex.begins -/
def f54_j4 (x4 : AV) (H : Heap) (Q : Post) : Prop := AtJ Pg Hs 54 [1, 1] Q [(4, .val x4)] H
theorem f54_j4_eq (x4 : AV) (H : Heap) (Q : Post) : f54_j4 x4 H Q =
 Q x4 H :=
  (AtJ_eq Pg Hs 54 [1, 1] Q _ H).trans (by kernel_rfl)
theorem f54_eq (a0 a1 : AV) (H : Heap) (Q : Post) : E 54 [a0, a1] H Q =
 ob (lenSA a0) fun r1 =>
 ob (lenSA a1) fun r2 =>
 ob (binA Pg .geq 3 false r1 r2) fun r3 =>
 cndA r3
 (ob (lenSA a1) fun r4 =>
 ob (sliceSA a0 none (some r4)) fun r5 =>
 ob (binA Pg .eql 9 false r5 a1) fun r6 =>
 f54_j4 r6 H Q)
 (f54_j4 (B false) H Q) :=
  Ev_eq.trans (by kernel_rfl)
/-! ### 55 (*haruspex/lex.Reader).take -/
def f55_j7 (x0 : AV) (x19 : AV) (H : Heap) (Q : Post) : Prop := AtJ Pg Hs 55 [1, 1, 0, 1] Q [(0, .val x0), (19, .val x19)] H
theorem f55_j7_eq (x0 : AV) (x19 : AV) (H : Heap) (Q : Post) : f55_j7 x0 x19 H Q =
 cndA x19
 (Q (B false) H)
 (E 65 [x0] H fun r9 H10 =>
 Q (B true) H10) :=
  (AtJ_eq Pg Hs 55 [1, 1, 0, 1] Q _ H).trans (by kernel_rfl)
theorem f55_eq (a0 a1 a2 : AV) (H : Heap) (Q : Post) : E 55 [a0, a1, a2] H Q =
 E 9 [a0] H fun r1 H2 =>
 ob (sizedA 3 r1) fun b3 =>
 ob (spliceA 0 b3 [(I 0), (S ⟨#[]⟩), (I 0)]) fun b4 =>
 ob (partA false 0 1 b4) fun r5 =>
 ob (binA Pg .neq 3 false r5 a1) fun r6 =>
 cndA r6
 (f55_j7 a0 (B true) H2 Q)
 (ob (partA false 1 1 b4) fun r7 =>
 ob (binA Pg .neq 9 false r7 a2) fun r8 =>
 f55_j7 a0 r8 H2 Q) :=
  Ev_eq.trans (by kernel_rfl)
/-! ### 56 haruspex/value.Bool -/
def f56_j10 (x2 : List AV) (x3 : List AV) (H : Heap) (Q : Post) : Prop := AtJ Pg Hs 56 [1, 1, 1] Q [(2, .lbox x2), (3, .lbox x3)] H
theorem f56_j10_eq (x2 : List AV) (x3 : List AV) (H : Heap) (Q : Post) : f56_j10 x2 x3 H Q =
 ob (partA true 0 3 x3) fun r6 =>
 ob (sizedA 3 r6) fun b7 =>
 ob (spliceA 0 b7 x2) fun b8 =>
 ob (partA true 0 3 b8) fun r9 =>
 Q r9 H :=
  (AtJ_eq Pg Hs 56 [1, 1, 1] Q _ H).trans (by kernel_rfl)
theorem f56_eq (a0 : AV) (H : Heap) (Q : Post) : E 56 [a0] H Q =
 ob (bldA [(0, 1, (I 1))] [(I 0), (I 0), (S ⟨#[]⟩)]) fun r1 =>
 ob (sizedA 3 r1) fun b2 =>
 ob (spliceA 0 b2 [(I 0), (I 0), (S ⟨#[]⟩)]) fun b3 =>
 cndA a0
 (ob (sizedA 1 (I 1)) fun b4 =>
 ob (spliceA 1 b4 b3) fun b5 =>
 f56_j10 [(I 0), (I 0), (S ⟨#[]⟩)] b5 H Q)
 (f56_j10 [(I 0), (I 0), (S ⟨#[]⟩)] b3 H Q) :=
  Ev_eq.trans (by kernel_rfl)
/-! ### 57 (*haruspex/cond.parser).next -/
def f57_j6 (x6 : AV) (H : Heap) (Q : Post) : Prop := AtJ Pg Hs 57 [1, 1, 1] Q [(6, .val x6)] H
theorem f57_j6_eq (x6 : AV) (H : Heap) (Q : Post) : f57_j6 x6 H Q =
 Q x6 H :=
  (AtJ_eq Pg Hs 57 [1, 1, 1] Q _ H).trans (by kernel_rfl)
theorem f57_eq (a0 a1 a2 : AV) (H : Heap) (Q : Post) : E 57 [a0, a1, a2] H Q =
 ob (nilA a0) fun r1 =>
 ob (addPA r1 0) fun r2 =>
 ob (ldH H false 1 r2) fun r3 =>
 E 9 [r3] H fun r4 H5 =>
 ob (sizedA 3 r4) fun b6 =>
 ob (spliceA 0 b6 [(I 0), (S ⟨#[]⟩), (I 0)]) fun b7 =>
 ob (partA false 0 1 b7) fun r8 =>
 ob (binA Pg .eql 3 false r8 a1) fun r9 =>
 cndA r9
 (ob (partA false 1 1 b7) fun r10 =>
 ob (binA Pg .eql 9 false r10 a2) fun r11 =>
 f57_j6 r11 H5 Q)
 (f57_j6 (B false) H5 Q) :=
  Ev_eq.trans (by kernel_rfl)
/-! ### 58 (*haruspex/cond.parser).cmp -/
theorem f58_eq (a0 : AV) (H : Heap) (Q : Post) : E 58 [a0] H Q =
 E 66 [a0] H fun r1 H2 =>
 ob (sizedA 7 r1) fun b3 =>
 ob (spliceA 0 b3 [(I 0), (I 0), (I 0), (S ⟨#[]⟩), (S ⟨#[]⟩), (S ⟨#[]⟩), (AV.sl 0 true .full [])]) fun b4 =>
 ob (nilA a0) fun r5 =>
 ob (addPA r5 2) fun r6 =>
 ob (ldH H2 false 1 r6) fun r7 =>
 ob (binA Pg .neq 27 true r7 (I 0)) fun r8 =>
 cndA r8
 (ob (partA true 0 7 b4) fun r9 =>
 ob (sizedA 7 r9) fun b10 =>
 ob (spliceA 0 b10 [(I 0), (I 0), (I 0), (S ⟨#[]⟩), (S ⟨#[]⟩), (S ⟨#[]⟩), (AV.sl 0 true .full [])]) fun b11 =>
 ob (partA true 0 7 b11) fun r12 =>
 Q r12 H2)
 (E 67 [a0, (I 9), (I 14)] H2 fun r13 H14 =>
 ob (extractA r13 0) fun r15 =>
 ob (extractA r13 1) fun r16 =>
 cndA r16
 (ob (partA true 0 7 b4) fun r17 =>
 E 66 [a0] H14 fun r18 H19 =>
 ob (mkSlA 7 [r17, r18]) fun r20 =>
 ob (bldA [(0, 1, r15), (6, 1, r20)] [(I 0), (I 0), (I 0), (S ⟨#[]⟩), (S ⟨#[]⟩), (S ⟨#[]⟩), (AV.sl 0 true .full [])]) fun r21 =>
 ob (sizedA 7 r21) fun b22 =>
 ob (spliceA 0 b22 [(I 0), (I 0), (I 0), (S ⟨#[]⟩), (S ⟨#[]⟩), (S ⟨#[]⟩), (AV.sl 0 true .full [])]) fun b23 =>
 ob (partA true 0 7 b23) fun r24 =>
 Q r24 H19)
 (ob (partA true 0 7 b4) fun r25 =>
 ob (sizedA 7 r25) fun b26 =>
 ob (spliceA 0 b26 [(I 0), (I 0), (I 0), (S ⟨#[]⟩), (S ⟨#[]⟩), (S ⟨#[]⟩), (AV.sl 0 true .full [])]) fun b27 =>
 ob (partA true 0 7 b27) fun r28 =>
 Q r28 H14)) :=
  Ev_eq.trans (by kernel_rfl)
/-! ### 59 (*haruspex/cond.parser).within -/
theorem f59_eq (a0 a1 : AV) (H : Heap) (Q : Post) : E 59 [a0, a1] H Q =
 ob (nilA a0) fun r1 =>
 ob (addPA r1 1) fun r2 =>
 ob (ldH H false 1 r2) fun r3 =>
 ob (binA Pg .geq 3 true r3 (I 200)) fun r4 =>
 cndA r4
 (E 68 [a0, (I 2)] H fun r5 H6 =>
 ob (sizedA 7 r5) fun b7 =>
 ob (spliceA 0 b7 [(I 0), (I 0), (I 0), (S ⟨#[]⟩), (S ⟨#[]⟩), (S ⟨#[]⟩), (AV.sl 0 true .full [])]) fun b8 =>
 ob (partA true 0 7 b8) fun r9 =>
 Q r9 H6)
 (ob (nilA a0) fun r10 =>
 ob (addPA r10 0) fun r11 =>
 ob (ldH H false 1 r11) fun r12 =>
 E 65 [r12] H fun r13 H14 =>
 ob (nilA a0) fun r15 =>
 ob (addPA r15 1) fun r16 =>
 ob (ldH H14 false 1 r16) fun r17 =>
 ob (binA Pg .add 3 true r17 (I 1)) fun r18 =>
 ob (nilA a0) fun r19 =>
 ob (addPA r19 1) fun r20 =>
 ob (stH H14 1 r20 r18) fun H21 =>
 callA (Ev Pg Hs) a1 [] H21 fun r22 H23 =>
 ob (sizedA 7 r22) fun b24 =>
 ob (spliceA 0 b24 [(I 0), (I 0), (I 0), (S ⟨#[]⟩), (S ⟨#[]⟩), (S ⟨#[]⟩), (AV.sl 0 true .full [])]) fun b25 =>
 ob (nilA a0) fun r26 =>
 ob (addPA r26 1) fun r27 =>
 ob (ldH H23 false 1 r27) fun r28 =>
 ob (binA Pg .sub 3 true r28 (I 1)) fun r29 =>
 ob (nilA a0) fun r30 =>
 ob (addPA r30 1) fun r31 =>
 ob (stH H23 1 r31 r29) fun H32 =>
 ob (partA true 0 7 b25) fun r33 =>
 ob (sizedA 7 r33) fun b34 =>
 ob (spliceA 0 b34 [(I 0), (I 0), (I 0), (S ⟨#[]⟩), (S ⟨#[]⟩), (S ⟨#[]⟩), (AV.sl 0 true .full [])]) fun b35 =>
 ob (partA true 0 7 b35) fun r36 =>
 Q r36 H32) :=
  Ev_eq.trans (by kernel_rfl)
/-! ### 60 haruspex/word.isSign -/
def f60_j4 (x2 : AV) (H : Heap) (Q : Post) : Prop := AtJ Pg Hs 60 [1, 1] Q [(2, .val x2)] H
theorem f60_j4_eq (x2 : AV) (H : Heap) (Q : Post) : f60_j4 x2 H Q =
 Q x2 H :=
  (AtJ_eq Pg Hs 60 [1, 1] Q _ H).trans (by kernel_rfl)
theorem f60_eq (a0 : AV) (H : Heap) (Q : Post) : E 60 [a0] H Q =
 E 61 [a0] H fun r1 H2 =>
 cndA r1
 (f60_j4 (B true) H2 Q)
 (E 69 [a0] H2 fun r3 H4 =>
 cndA r3
 (f60_j4 (B true) H4 Q)
 (ob (binA Pg .eql 21 true a0 (AV.raw (.int .i32 95))) fun r5 =>
 f60_j4 r5 H4 Q)) :=
  Ev_eq.trans (by kernel_rfl)
/-! ### 61 haruspex/word.isLower -/
def f61_j4 (x2 : AV) (H : Heap) (Q : Post) : Prop := AtJ Pg Hs 61 [1, 1] Q [(2, .val x2)] H
theorem f61_j4_eq (x2 : AV) (H : Heap) (Q : Post) : f61_j4 x2 H Q =
 Q x2 H :=
  (AtJ_eq Pg Hs 61 [1, 1] Q _ H).trans (by kernel_rfl)
theorem f61_eq (a0 : AV) (H : Heap) (Q : Post) : E 61 [a0] H Q =
 ob (binA Pg .geq 21 true a0 (AV.raw (.int .i32 97))) fun r1 =>
 cndA r1
 (ob (binA Pg .leq 21 true a0 (AV.raw (.int .i32 122))) fun r2 =>
 f61_j4 r2 H Q)
 (f61_j4 (B false) H Q) :=
  Ev_eq.trans (by kernel_rfl)
/-! ### 62 slices.IndexFunc[[]haruspex/api.Expr,haruspex/api.Expr] -/
def f62_l6 (x0 : AV) (x1 : AV) (x7 : AV) (x8 : AV) (H : Heap) (Q : Post) : Prop := AtF Pg Hs 62 [1, 0, 1, 0] Q [(0, .val x0), (1, .val x1), (7, .val x7), (8, .val x8)] H
theorem f62_l6_eq (x0 : AV) (x1 : AV) (x7 : AV) (x8 : AV) (H : Heap) (Q : Post) : f62_l6 x0 x1 x7 x8 H Q =
 ob (binA Pg .lss 3 false x8 x7) fun r2 =>
 cndA r2
 (ob (ixaA 7 x0 x8) fun c3 =>
 ob (partA true 0 7 c3) fun r4 =>
 callA (Ev Pg Hs) x1 [r4] H fun r5 H6 =>
 cndA r5
 (Q x8 H6)
 (ob (binA Pg .add 3 true x8 (I 1)) fun r7 =>
 f62_l6 x0 x1 x7 r7 H6 Q))
 (Q (I (-1)) H) :=
  (AtF_eq Pg Hs 62 [1, 0, 1, 0] Q _ H).trans (by kernel_rfl)
theorem f62_eq (a0 a1 : AV) (H : Heap) (Q : Post) : E 62 [a0, a1] H Q =
 ob (lenA a0) fun r1 =>
 f62_l6 a0 a1 r1 (I 0) H Q :=
  Ev_eq.trans (by kernel_rfl)
/-! ### 63 cmp.isNaN[int64] -/
theorem f63_eq (a0 : AV) (H : Heap) (Q : Post) : E 63 [a0] H Q =
 ob (binA Pg .neq 2 false a0 a0) fun r1 =>
 Q r1 H :=
  Ev_eq.trans (by kernel_rfl)
/-! ### 64 (*haruspex/word.reader).next -/
theorem f64_eq (a0 : AV) (H : Heap) (Q : Post) : E 64 [a0] H Q =
 E 70 [a0] H fun r1 H2 =>
 cndA r1
 (Q (AV.tup [(AV.raw (.int .u8 0)), (B false), (B false)]) H2)
 (ob (nilA a0) fun r3 =>
 ob (addPA r3 0) fun r4 =>
 ob (ldH H2 false 1 r4) fun r5 =>
 ob (nilA a0) fun r6 =>
 ob (addPA r6 1) fun r7 =>
 ob (ldH H2 false 1 r7) fun r8 =>
 ob (ixA r5 r8) fun r9 =>
 ob (binA Pg .eql 5 true r9 (AV.raw (.int .u8 39))) fun r10 =>
 cndA r10
 (ob (nilA a0) fun r11 =>
 ob (addPA r11 1) fun r12 =>
 ob (ldH H2 false 1 r12) fun r13 =>
 ob (binA Pg .add 3 true r13 (I 1)) fun r14 =>
 ob (nilA a0) fun r15 =>
 ob (addPA r15 1) fun r16 =>
 ob (stH H2 1 r16 r14) fun H17 =>
 Q (AV.tup [(AV.raw (.int .u8 0)), (B false), (B true)]) H17)
 (ob (binA Pg .eql 5 true r9 (AV.raw (.int .u8 92))) fun r18 =>
 cndA r18
 (ob (nilA a0) fun r19 =>
 ob (addPA r19 1) fun r20 =>
 ob (ldH H2 false 1 r20) fun r21 =>
 ob (binA Pg .add 3 true r21 (I 1)) fun r22 =>
 ob (nilA a0) fun r23 =>
 ob (addPA r23 1) fun r24 =>
 ob (stH H2 1 r24 r22) fun H25 =>
 E 71 [a0] H25 fun r26 H27 =>
 ob (extractA r26 0) fun r28 =>
 ob (extractA r26 1) fun r29 =>
 Q (AV.tup [r28, r29, (B false)]) H27)
 (E 72 [r9] H2 fun r30 H31 =>
 cndA r30
 (ob (nilA a0) fun r32 =>
 ob (addPA r32 1) fun r33 =>
 ob (ldH H31 false 1 r33) fun r34 =>
 ob (binA Pg .add 3 true r34 (I 1)) fun r35 =>
 ob (nilA a0) fun r36 =>
 ob (addPA r36 1) fun r37 =>
 ob (stH H31 1 r37 r35) fun H38 =>
 Q (AV.tup [r9, (B true), (B false)]) H38)
 (Q (AV.tup [(AV.raw (.int .u8 0)), (B false), (B false)]) H31)))) :=
  Ev_eq.trans (by kernel_rfl)
/-! ### 65 (*haruspex/lex.Reader).Next -/
def f65_j10 (x2 : List AV) (x3 : List AV) (H : Heap) (Q : Post) : Prop := AtJ Pg Hs 65 [1, 1, 1] Q [(2, .lbox x2), (3, .lbox x3)] H
theorem f65_j10_eq (x2 : List AV) (x3 : List AV) (H : Heap) (Q : Post) : f65_j10 x2 x3 H Q =
 ob (partA true 0 3 x3) fun r14 =>
 ob (sizedA 3 r14) fun b15 =>
 ob (spliceA 0 b15 x2) fun b16 =>
 ob (partA true 0 3 b16) fun r17 =>
 Q r17 H :=
  (AtJ_eq Pg Hs 65 [1, 1, 1] Q _ H).trans (by kernel_rfl)
theorem f65_eq (a0 : AV) (H : Heap) (Q : Post) : E 65 [a0] H Q =
 E 9 [a0] H fun r1 H2 =>
 ob (sizedA 3 r1) fun b3 =>
 ob (spliceA 0 b3 [(I 0), (S ⟨#[]⟩), (I 0)]) fun b4 =>
 ob (partA false 0 1 b4) fun r5 =>
 ob (binA Pg .neq 3 true r5 (I 6)) fun r6 =>
 cndA r6
 (ob (nilA a0) fun r7 =>
 ob (addPA r7 1) fun r8 =>
 ob (ldH H2 false 1 r8) fun r9 =>
 ob (binA Pg .add 3 true r9 (I 1)) fun r10 =>
 ob (nilA a0) fun r11 =>
 ob (addPA r11 1) fun r12 =>
 ob (stH H2 1 r12 r10) fun H13 =>
 f65_j10 [(I 0), (S ⟨#[]⟩), (I 0)] b4 H13 Q)
 (f65_j10 [(I 0), (S ⟨#[]⟩), (I 0)] b4 H2 Q) :=
  Ev_eq.trans (by kernel_rfl)
/-! ### 66 (*haruspex/cond.parser).sum -/
theorem f66_eq (a0 : AV) (H : Heap) (Q : Post) : E 66 [a0] H Q =
 E 73 [a0, (I 4), (I 5), (AV.fn (.func 74) [a0] [])] H fun r1 H2 =>
 ob (sizedA 7 r1) fun b3 =>
 ob (spliceA 0 b3 [(I 0), (I 0), (I 0), (S ⟨#[]⟩), (S ⟨#[]⟩), (S ⟨#[]⟩), (AV.sl 0 true .full [])]) fun b4 =>
 ob (partA true 0 7 b4) fun r5 =>
 Q r5 H2 :=
  Ev_eq.trans (by kernel_rfl)
/-! ### 67 (*haruspex/cond.parser).op -/
def f67_l6 (x0 : AV) (x1 : AV) (x2 : AV) (x10 : AV) (x11 : AV) (H : Heap) (Q : Post) : Prop := AtF Pg Hs 67 [1, 0, 1, 0] Q [(0, .val x0), (1, .val x1), (2, .val x2), (10, .val x10), (11, .val x11)] H
def f67_j19 (x0 : AV) (x1 : AV) (x2 : AV) (x9 : List AV) (x10 : AV) (x11 : AV) (x32 : AV) (H : Heap) (Q : Post) : Prop := AtJ Pg Hs 67 [1, 0, 1, 0, 0, 1, 1, 0, 0, 1, 1] Q [(0, .val x0), (1, .val x1), (2, .val x2), (9, .lbox x9), (10, .val x10), (11, .val x11), (32, .val x32)] H
theorem f67_l6_eq (x0 : AV) (x1 : AV) (x2 : AV) (x10 : AV) (x11 : AV) (H : Heap) (Q : Post) : f67_l6 x0 x1 x2 x10 x11 H Q =
 ob (binA Pg .lss 3 true x11 (I 11)) fun r3 =>
 cndA r3
 (ob (ixAgg 11 true 2 x10 x11) fun r4 =>
 ob (sizedA 2 r4) fun b5 =>
 ob (spliceA 0 b5 [(S ⟨#[]⟩), (I 0)]) fun b6 =>
 ob (partA false 1 1 b6) fun r7 =>
 ob (binA Pg .geq 3 false r7 x1) fun r8 =>
 cndA r8
 (ob (partA false 1 1 b6) fun r9 =>
 ob (binA Pg .leq 3 false r9 x2) fun r10 =>
 cndA r10
 (ob (nilA x0) fun r11 =>
 ob (addPA r11 0) fun r12 =>
 ob (ldH H false 1 r12) fun r13 =>
 ob (partA false 0 1 b6) fun r14 =>
 E 76 [r13, r14] H fun r15 H16 =>
 f67_j19 x0 x1 x2 b6 x10 x11 r15 H16 Q)
 (f67_j19 x0 x1 x2 b6 x10 x11 (B false) H Q))
 (f67_j19 x0 x1 x2 b6 x10 x11 (B false) H Q))
 (Q (AV.tup [(I 0), (B false)]) H) :=
  (AtF_eq Pg Hs 67 [1, 0, 1, 0] Q _ H).trans (by kernel_rfl)
theorem f67_j19_eq (x0 : AV) (x1 : AV) (x2 : AV) (x9 : List AV) (x10 : AV) (x11 : AV) (x32 : AV) (H : Heap) (Q : Post) : f67_j19 x0 x1 x2 x9 x10 x11 x32 H Q =
 cndA x32
 (ob (partA false 1 1 x9) fun r17 =>
 Q (AV.tup [r17, (B true)]) H)
 (ob (binA Pg .add 3 true x11 (I 1)) fun r18 =>
 f67_l6 x0 x1 x2 x10 r18 H Q) :=
  (AtJ_eq Pg Hs 67 [1, 0, 1, 0, 0, 1, 1, 0, 0, 1, 1] Q _ H).trans (by kernel_rfl)
theorem f67_eq (a0 a1 a2 : AV) (H : Heap) (Q : Post) : E 67 [a0, a1, a2] H Q =
 E 75 [] H fun r1 H2 =>
 f67_l6 a0 a1 a2 r1 (I 0) H2 Q :=
  Ev_eq.trans (by kernel_rfl)
/-! ### 68 (*haruspex/cond.parser).fail -/
def f68_j8 (x4 : List AV) (H : Heap) (Q : Post) : Prop := AtJ Pg Hs 68 [1, 1] Q [(4, .lbox x4)] H
theorem f68_j8_eq (x4 : List AV) (H : Heap) (Q : Post) : f68_j8 x4 H Q =
 ob (bldA [] [(I 0), (I 0), (I 0), (S ⟨#[]⟩), (S ⟨#[]⟩), (S ⟨#[]⟩), (AV.sl 0 true .full [])]) fun r16 =>
 ob (sizedA 7 r16) fun b17 =>
 ob (spliceA 0 b17 x4) fun b18 =>
 ob (partA true 0 7 b18) fun r19 =>
 Q r19 H :=
  (AtJ_eq Pg Hs 68 [1, 1] Q _ H).trans (by kernel_rfl)
theorem f68_eq (a0 a1 : AV) (H : Heap) (Q : Post) : E 68 [a0, a1] H Q =
 ob (nilA a0) fun r1 =>
 ob (addPA r1 2) fun r2 =>
 ob (ldH H false 1 r2) fun r3 =>
 ob (binA Pg .eql 27 true r3 (I 0)) fun r4 =>
 cndA r4
 (ob (nilA a0) fun r5 =>
 ob (addPA r5 0) fun r6 =>
 ob (ldH H false 1 r6) fun r7 =>
 E 10 [r7] H fun r8 H9 =>
 ob (nilA a0) fun r10 =>
 ob (addPA r10 2) fun r11 =>
 ob (stH H9 1 r11 a1) fun H12 =>
 ob (nilA a0) fun r13 =>
 ob (addPA r13 3) fun r14 =>
 ob (stH H12 1 r14 r8) fun H15 =>
 f68_j8 [(I 0), (I 0), (I 0), (S ⟨#[]⟩), (S ⟨#[]⟩), (S ⟨#[]⟩), (AV.sl 0 true .full [])] H15 Q)
 (f68_j8 [(I 0), (I 0), (I 0), (S ⟨#[]⟩), (S ⟨#[]⟩), (S ⟨#[]⟩), (AV.sl 0 true .full [])] H Q) :=
  Ev_eq.trans (by kernel_rfl)
/-! ### 69 haruspex/word.isDigit -/
def f69_j4 (x2 : AV) (H : Heap) (Q : Post) : Prop := AtJ Pg Hs 69 [1, 1] Q [(2, .val x2)] H
theorem f69_j4_eq (x2 : AV) (H : Heap) (Q : Post) : f69_j4 x2 H Q =
 Q x2 H :=
  (AtJ_eq Pg Hs 69 [1, 1] Q _ H).trans (by kernel_rfl)
theorem f69_eq (a0 : AV) (H : Heap) (Q : Post) : E 69 [a0] H Q =
 ob (binA Pg .geq 21 true a0 (AV.raw (.int .i32 48))) fun r1 =>
 cndA r1
 (ob (binA Pg .leq 21 true a0 (AV.raw (.int .i32 57))) fun r2 =>
 f69_j4 r2 H Q)
 (f69_j4 (B false) H Q) :=
  Ev_eq.trans (by kernel_rfl)
/-! ### 70 (*haruspex/word.reader).done -/
theorem f70_eq (a0 : AV) (H : Heap) (Q : Post) : E 70 [a0] H Q =
 ob (nilA a0) fun r1 =>
 ob (addPA r1 1) fun r2 =>
 ob (ldH H false 1 r2) fun r3 =>
 ob (nilA a0) fun r4 =>
 ob (addPA r4 0) fun r5 =>
 ob (ldH H false 1 r5) fun r6 =>
 ob (lenSA r6) fun r7 =>
 ob (binA Pg .geq 3 false r3 r7) fun r8 =>
 Q r8 H :=
  Ev_eq.trans (by kernel_rfl)
/-! ### 71 (*haruspex/word.reader).escaped -/
def f71_j17 (x0 : AV) (x4 : AV) (x5 : AV) (x29 : AV) (H : Heap) (Q : Post) : Prop := AtJ Pg Hs 71 [1, 1, 1, 1, 0, 1] Q [(0, .val x0), (4, .val x4), (5, .val x5), (29, .val x29)] H
def f71_j39 (x0 : AV) (x4 : AV) (x6 : AV) (x7 : AV) (x56 : AV) (H : Heap) (Q : Post) : Prop := AtJ Pg Hs 71 [1, 1, 1, 1, 1, 1, 1, 1, 0, 1] Q [(0, .val x0), (4, .val x4), (6, .val x6), (7, .val x7), (56, .val x56)] H
theorem f71_j17_eq (x0 : AV) (x4 : AV) (x5 : AV) (x29 : AV) (H : Heap) (Q : Post) : f71_j17 x0 x4 x5 x29 H Q =
 cndA x29
 (ob (nilA x0) fun r16 =>
 ob (addPA r16 1) fun r17 =>
 ob (ldH H false 1 r17) fun r18 =>
 ob (binA Pg .add 3 true r18 (I 1)) fun r19 =>
 ob (nilA x0) fun r20 =>
 ob (addPA r20 1) fun r21 =>
 ob (stH H 1 r21 r19) fun H22 =>
 Q (AV.tup [x5, (B true)]) H22)
 (ob (binA Pg .neq 5 true x5 (AV.raw (.int .u8 120))) fun r23 =>
 cndA r23
 (Q (AV.tup [(AV.raw (.int .u8 0)), (B false)]) H)
 (ob (nilA x0) fun r24 =>
 ob (addPA r24 1) fun r25 =>
 ob (ldH H false 1 r25) fun r26 =>
 ob (binA Pg .add 3 true r26 (I 1)) fun r27 =>
 ob (nilA x0) fun r28 =>
 ob (addPA r28 1) fun r29 =>
 ob (stH H 1 r29 r27) fun H30 =>
 E 77 [x0] H30 fun r31 H32 =>
 ob (extractA r31 0) fun r33 =>
 ob (extractA r31 1) fun r34 =>
 cndA r34
 (E 72 [r33] H32 fun r35 H36 =>
 f71_j39 x0 x4 r33 r34 r35 H36 Q)
 (f71_j39 x0 x4 r33 r34 (B false) H32 Q))) :=
  (AtJ_eq Pg Hs 71 [1, 1, 1, 1, 0, 1] Q _ H).trans (by kernel_rfl)
theorem f71_j39_eq (x0 : AV) (x4 : AV) (x6 : AV) (x7 : AV) (x56 : AV) (H : Heap) (Q : Post) : f71_j39 x0 x4 x6 x7 x56 H Q =
 cndA x56
 (ob (nilA x0) fun r37 =>
 ob (addPA r37 1) fun r38 =>
 ob (stH H 1 r38 x4) fun H39 =>
 Q (AV.tup [(AV.raw (.int .u8 0)), (B false)]) H39)
 (Q (AV.tup [x6, x7]) H) :=
  (AtJ_eq Pg Hs 71 [1, 1, 1, 1, 1, 1, 1, 1, 0, 1] Q _ H).trans (by kernel_rfl)
theorem f71_eq (a0 : AV) (H : Heap) (Q : Post) : E 71 [a0] H Q =
 ob (nilA a0) fun r1 =>
 ob (addPA r1 1) fun r2 =>
 ob (ldH H false 1 r2) fun r3 =>
 ob (binA Pg .sub 3 true r3 (I 1)) fun r4 =>
 E 70 [a0] H fun r5 H6 =>
 cndA r5
 (Q (AV.tup [(AV.raw (.int .u8 0)), (B false)]) H6)
 (ob (nilA a0) fun r7 =>
 ob (addPA r7 0) fun r8 =>
 ob (ldH H6 false 1 r8) fun r9 =>
 ob (nilA a0) fun r10 =>
 ob (addPA r10 1) fun r11 =>
 ob (ldH H6 false 1 r11) fun r12 =>
 ob (ixA r9 r12) fun r13 =>
 ob (binA Pg .eql 5 true r13 (AV.raw (.int .u8 39))) fun r14 =>
 cndA r14
 (f71_j17 a0 r4 r13 (B true) H6 Q)
 (ob (binA Pg .eql 5 true r13 (AV.raw (.int .u8 92))) fun r15 =>
 f71_j17 a0 r4 r13 r15 H6 Q)) :=
  Ev_eq.trans (by kernel_rfl)
/-! ### 72 haruspex/word.plain -/
def f72_j4 (x2 : AV) (H : Heap) (Q : Post) : Prop := AtJ Pg Hs 72 [1, 1] Q [(2, .val x2)] H
theorem f72_j4_eq (x2 : AV) (H : Heap) (Q : Post) : f72_j4 x2 H Q =
 Q x2 H :=
  (AtJ_eq Pg Hs 72 [1, 1] Q _ H).trans (by kernel_rfl)
theorem f72_eq (a0 : AV) (H : Heap) (Q : Post) : E 72 [a0] H Q =
 ob (binA Pg .geq 5 true a0 (AV.raw (.int .u8 32))) fun r1 =>
 cndA r1
 (ob (binA Pg .leq 5 true a0 (AV.raw (.int .u8 126))) fun r2 =>
 f72_j4 r2 H Q)
 (f72_j4 (B false) H Q) :=
  Ev_eq.trans (by kernel_rfl)
/-! ### 73 (*haruspex/cond.parser).left -/
def f73_l6 (x0 : AV) (x1 : AV) (x2 : AV) (x3 : AV) (x8 : List AV) (x9 : List AV) (H : Heap) (Q : Post) : Prop := AtF Pg Hs 73 [1, 1, 0, 0] Q [(0, .val x0), (1, .val x1), (2, .val x2), (3, .val x3), (8, .lbox x8), (9, .lbox x9)] H
theorem f73_l6_eq (x0 : AV) (x1 : AV) (x2 : AV) (x3 : AV) (x8 : List AV) (x9 : List AV) (H : Heap) (Q : Post) : f73_l6 x0 x1 x2 x3 x8 x9 H Q =
 ob (nilA x0) fun r5 =>
 ob (addPA r5 2) fun r6 =>
 ob (ldH H false 1 r6) fun r7 =>
 ob (binA Pg .eql 27 true r7 (I 0)) fun r8 =>
 cndA r8
 (E 67 [x0, x1, x2] H fun r9 H10 =>
 ob (extractA r9 0) fun r11 =>
 ob (extractA r9 1) fun r12 =>
 ob (unA .not r12) fun r13 =>
 cndA r13
 (ob (partA true 0 7 x9) fun r14 =>
 ob (sizedA 7 r14) fun b15 =>
 ob (spliceA 0 b15 x8) fun b16 =>
 ob (partA true 0 7 b16) fun r17 =>
 Q r17 H10)
 (ob (partA true 0 7 x9) fun r18 =>
 callA (Ev Pg Hs) x3 [] H10 fun r19 H20 =>
 ob (mkSlA 7 [r18, r19]) fun r21 =>
 ob (bldA [(0, 1, r11), (6, 1, r21)] [(I 0), (I 0), (I 0), (S ⟨#[]⟩), (S ⟨#[]⟩), (S ⟨#[]⟩), (AV.sl 0 true .full [])]) fun r22 =>
 ob (sizedA 7 r22) fun b23 =>
 ob (spliceA 0 b23 x9) fun b24 =>
 f73_l6 x0 x1 x2 x3 x8 b24 H20 Q))
 (ob (partA true 0 7 x9) fun r25 =>
 ob (sizedA 7 r25) fun b26 =>
 ob (spliceA 0 b26 x8) fun b27 =>
 ob (partA true 0 7 b27) fun r28 =>
 Q r28 H) :=
  (AtF_eq Pg Hs 73 [1, 1, 0, 0] Q _ H).trans (by kernel_rfl)
theorem f73_eq (a0 a1 a2 a3 : AV) (H : Heap) (Q : Post) : E 73 [a0, a1, a2, a3] H Q =
 callA (Ev Pg Hs) a3 [] H fun r1 H2 =>
 ob (sizedA 7 r1) fun b3 =>
 ob (spliceA 0 b3 [(I 0), (I 0), (I 0), (S ⟨#[]⟩), (S ⟨#[]⟩), (S ⟨#[]⟩), (AV.sl 0 true .full [])]) fun b4 =>
 f73_l6 a0 a1 a2 a3 [(I 0), (I 0), (I 0), (S ⟨#[]⟩), (S ⟨#[]⟩), (S ⟨#[]⟩), (AV.sl 0 true .full [])] b4 H2 Q :=
  Ev_eq.trans (by kernel_rfl)
/-! ### 74 (*haruspex/cond.parser).prod -/
theorem f74_eq (a0 : AV) (H : Heap) (Q : Post) : E 74 [a0] H Q =
 E 73 [a0, (I 6), (I 8), (AV.fn (.func 78) [a0] [])] H fun r1 H2 =>
 ob (sizedA 7 r1) fun b3 =>
 ob (spliceA 0 b3 [(I 0), (I 0), (I 0), (S ⟨#[]⟩), (S ⟨#[]⟩), (S ⟨#[]⟩), (AV.sl 0 true .full [])]) fun b4 =>
 ob (partA true 0 7 b4) fun r5 =>
 Q r5 H2 :=
  Ev_eq.trans (by kernel_rfl)
/-! ### 75 haruspex/cond.signs -/
theorem f75_eq (_u : Unit := ()) (H : Heap) (Q : Post) : E 75 [] H Q =
 newH H [(S ⟨#[]⟩), (I 0), (S ⟨#[]⟩), (I 0), (S ⟨#[]⟩), (I 0), (S ⟨#[]⟩), (I 0), (S ⟨#[]⟩), (I 0), (S ⟨#[]⟩), (I 0), (S ⟨#[]⟩), (I 0), (S ⟨#[]⟩), (I 0), (S ⟨#[]⟩), (I 0), (S ⟨#[]⟩), (I 0), (S ⟨#[]⟩), (I 0)] fun r1 H2 =>
 ob (bldA [(0, 1, (S ⟨#[43]⟩)), (1, 1, (I 4))] [(S ⟨#[]⟩), (I 0)]) fun r3 =>
 ob (bldA [(0, 1, (S ⟨#[45]⟩)), (1, 1, (I 5))] [(S ⟨#[]⟩), (I 0)]) fun r4 =>
 ob (bldA [(0, 1, (S ⟨#[42]⟩)), (1, 1, (I 6))] [(S ⟨#[]⟩), (I 0)]) fun r5 =>
 ob (bldA [(0, 1, (S ⟨#[47]⟩)), (1, 1, (I 7))] [(S ⟨#[]⟩), (I 0)]) fun r6 =>
 ob (bldA [(0, 1, (S ⟨#[37]⟩)), (1, 1, (I 8))] [(S ⟨#[]⟩), (I 0)]) fun r7 =>
 ob (bldA [(0, 1, (S ⟨#[61]⟩)), (1, 1, (I 9))] [(S ⟨#[]⟩), (I 0)]) fun r8 =>
 ob (bldA [(0, 1, (S ⟨#[60, 62]⟩)), (1, 1, (I 10))] [(S ⟨#[]⟩), (I 0)]) fun r9 =>
 ob (bldA [(0, 1, (S ⟨#[60]⟩)), (1, 1, (I 11))] [(S ⟨#[]⟩), (I 0)]) fun r10 =>
 ob (bldA [(0, 1, (S ⟨#[60, 61]⟩)), (1, 1, (I 12))] [(S ⟨#[]⟩), (I 0)]) fun r11 =>
 ob (bldA [(0, 1, (S ⟨#[62]⟩)), (1, 1, (I 13))] [(S ⟨#[]⟩), (I 0)]) fun r12 =>
 ob (bldA [(0, 1, (S ⟨#[62, 61]⟩)), (1, 1, (I 14))] [(S ⟨#[]⟩), (I 0)]) fun r13 =>
 ob (bldA [(0, 2, r3), (2, 2, r4), (4, 2, r5), (6, 2, r6), (8, 2, r7), (10, 2, r8), (12, 2, r9), (14, 2, r10), (16, 2, r11), (18, 2, r12), (20, 2, r13)] [(S ⟨#[]⟩), (I 0), (S ⟨#[]⟩), (I 0), (S ⟨#[]⟩), (I 0), (S ⟨#[]⟩), (I 0), (S ⟨#[]⟩), (I 0), (S ⟨#[]⟩), (I 0), (S ⟨#[]⟩), (I 0), (S ⟨#[]⟩), (I 0), (S ⟨#[]⟩), (I 0), (S ⟨#[]⟩), (I 0), (S ⟨#[]⟩), (I 0)]) fun r14 =>
 ob (stH H2 22 r1 r14) fun H15 =>
 ob (ldH H15 true 22 r1) fun r16 =>
 Q r16 H15 :=
  Ev_eq.trans (by kernel_rfl)
/-! ### 76 (*haruspex/lex.Reader).Sign -/
theorem f76_eq (a0 a1 : AV) (H : Heap) (Q : Post) : E 76 [a0, a1] H Q =
 E 55 [a0, (I 5), a1] H fun r1 H2 =>
 Q r1 H2 :=
  Ev_eq.trans (by kernel_rfl)
/-! ### 77 (*haruspex/word.reader).hex -/
def f77_l8 (x0 : AV) (x4 : AV) (x6 : AV) (H : Heap) (Q : Post) : Prop := AtF Pg Hs 77 [1, 1, 0, 1, 0] Q [(0, .val x0), (4, .val x4), (6, .val x6)] H
theorem f77_l8_eq (x0 : AV) (x4 : AV) (x6 : AV) (H : Heap) (Q : Post) : f77_l8 x0 x4 x6 H Q =
 ob (binA Pg .lss 3 true x6 (I 2)) fun r1 =>
 cndA r1
 (E 70 [x0] H fun r2 H3 =>
 cndA r2
 (Q (AV.tup [(AV.raw (.int .u8 0)), (B false)]) H3)
 (ob (nilA x0) fun r4 =>
 ob (addPA r4 0) fun r5 =>
 ob (ldH H3 false 1 r5) fun r6 =>
 ob (nilA x0) fun r7 =>
 ob (addPA r7 1) fun r8 =>
 ob (ldH H3 false 1 r8) fun r9 =>
 ob (ixA r6 r9) fun r10 =>
 E 79 [r10] H3 fun r11 H12 =>
 ob (binA Pg .lss 3 true r11 (I 0)) fun r13 =>
 cndA r13
 (Q (AV.tup [(AV.raw (.int .u8 0)), (B false)]) H12)
 (ob (binA Pg .shl 3 true x4 (AV.raw (.int .u64 4))) fun r14 =>
 ob (binA Pg .or 3 false r14 r11) fun r15 =>
 ob (nilA x0) fun r16 =>
 ob (addPA r16 1) fun r17 =>
 ob (ldH H12 false 1 r17) fun r18 =>
 ob (binA Pg .add 3 true r18 (I 1)) fun r19 =>
 ob (nilA x0) fun r20 =>
 ob (addPA r20 1) fun r21 =>
 ob (stH H12 1 r21 r19) fun H22 =>
 ob (binA Pg .add 3 true x6 (I 1)) fun r23 =>
 f77_l8 x0 r15 r23 H22 Q)))
 (ob (cvtIA .u8 x4) fun r25 =>
 Q (AV.tup [r25, (B true)]) H) :=
  (AtF_eq Pg Hs 77 [1, 1, 0, 1, 0] Q _ H).trans (by kernel_rfl)
theorem f77_eq (a0 : AV) (H : Heap) (Q : Post) : E 77 [a0] H Q =
 f77_l8 a0 (I 0) (I 0) H Q :=
  Ev_eq.trans (by kernel_rfl)
/-! ### 78 (*haruspex/cond.parser).neg -/
theorem f78_eq (a0 : AV) (H : Heap) (Q : Post) : E 78 [a0] H Q =
 E 57 [a0, (I 5), (S ⟨#[45]⟩)] H fun r1 H2 =>
 ob (unA .not r1) fun r3 =>
 cndA r3
 (E 80 [a0] H2 fun r4 H5 =>
 ob (sizedA 7 r4) fun b6 =>
 ob (spliceA 0 b6 [(I 0), (I 0), (I 0), (S ⟨#[]⟩), (S ⟨#[]⟩), (S ⟨#[]⟩), (AV.sl 0 true .full [])]) fun b7 =>
 ob (partA true 0 7 b7) fun r8 =>
 Q r8 H5)
 (ob (nilA a0) fun r9 =>
 ob (addPA r9 0) fun r10 =>
 ob (ldH H2 false 1 r10) fun r11 =>
 E 81 [r11] H2 fun r12 H13 =>
 ob (nilA a0) fun r14 =>
 ob (addPA r14 0) fun r15 =>
 ob (ldH H13 false 1 r15) fun r16 =>
 E 65 [r16] H13 fun r17 H18 =>
 ob (nilA a0) fun r19 =>
 ob (addPA r19 0) fun r20 =>
 ob (ldH H18 false 1 r20) fun r21 =>
 E 9 [r21] H18 fun r22 H23 =>
 fldK false 0 1 r22 fun r24 =>
 ob (binA Pg .eql 3 true r24 (I 3)) fun r25 =>
 cndA r25
 (E 82 [a0, (S ⟨#[45]⟩)] H23 fun r26 H27 =>
 ob (sizedA 7 r26) fun b28 =>
 ob (spliceA 0 b28 [(I 0), (I 0), (I 0), (S ⟨#[]⟩), (S ⟨#[]⟩), (S ⟨#[]⟩), (AV.sl 0 true .full [])]) fun b29 =>
 ob (partA true 0 7 b29) fun r30 =>
 Q r30 H27)
 (ob (nilA a0) fun r31 =>
 ob (addPA r31 0) fun r32 =>
 ob (ldH H23 false 1 r32) fun r33 =>
 E 83 [r33, r12] H23 fun r34 H35 =>
 E 59 [a0, (AV.fn (.func 78) [a0] [])] H35 fun r36 H37 =>
 ob (sizedA 7 r36) fun b38 =>
 ob (spliceA 0 b38 [(I 0), (I 0), (I 0), (S ⟨#[]⟩), (S ⟨#[]⟩), (S ⟨#[]⟩), (AV.sl 0 true .full [])]) fun b39 =>
 ob (partA true 0 7 b39) fun r40 =>
 ob (mkSlA 7 [r40]) fun r41 =>
 ob (bldA [(0, 1, (I 3)), (6, 1, r41)] [(I 0), (I 0), (I 0), (S ⟨#[]⟩), (S ⟨#[]⟩), (S ⟨#[]⟩), (AV.sl 0 true .full [])]) fun r42 =>
 ob (sizedA 7 r42) fun b43 =>
 ob (spliceA 0 b43 [(I 0), (I 0), (I 0), (S ⟨#[]⟩), (S ⟨#[]⟩), (S ⟨#[]⟩), (AV.sl 0 true .full [])]) fun b44 =>
 ob (partA true 0 7 b44) fun r45 =>
 Q r45 H37)) :=
  Ev_eq.trans (by kernel_rfl)
/-! ### 79 haruspex/word.digit -/
def f79_l6 (x0 : AV) (x5 : AV) (x6 : AV) (H : Heap) (Q : Post) : Prop := AtF Pg Hs 79 [1, 0, 1, 0] Q [(0, .val x0), (5, .val x5), (6, .val x6)] H
theorem f79_l6_eq (x0 : AV) (x5 : AV) (x6 : AV) (H : Heap) (Q : Post) : f79_l6 x0 x5 x6 H Q =
 ob (binA Pg .lss 3 true x6 (I 16)) fun r3 =>
 cndA r3
 (ob (ixAgg 16 false 1 x5 x6) fun r4 =>
 ob (binA Pg .eql 5 false r4 x0) fun r5 =>
 cndA r5
 (Q x6 H)
 (ob (binA Pg .add 3 true x6 (I 1)) fun r6 =>
 f79_l6 x0 x5 r6 H Q))
 (Q (I (-1)) H) :=
  (AtF_eq Pg Hs 79 [1, 0, 1, 0] Q _ H).trans (by kernel_rfl)
theorem f79_eq (a0 : AV) (H : Heap) (Q : Post) : E 79 [a0] H Q =
 E 84 [] H fun r1 H2 =>
 f79_l6 a0 r1 (I 0) H2 Q :=
  Ev_eq.trans (by kernel_rfl)
/-! ### 80 (*haruspex/cond.parser).last -/
def f80_j55 (x0 : AV) (x2 : List AV) (H : Heap) (Q : Post) : Prop := AtJ Pg Hs 80 [1, 1] Q [(0, .val x0), (2, .lbox x2)] H
theorem f80_j55_eq (x0 : AV) (x2 : List AV) (H : Heap) (Q : Post) : f80_j55 x0 x2 H Q =
 E 68 [x0, (I 4)] H fun r66 H67 =>
 ob (sizedA 7 r66) fun b68 =>
 ob (spliceA 0 b68 x2) fun b69 =>
 ob (partA true 0 7 b69) fun r70 =>
 Q r70 H67 :=
  (AtJ_eq Pg Hs 80 [1, 1] Q _ H).trans (by kernel_rfl)
theorem f80_eq (a0 : AV) (H : Heap) (Q : Post) : E 80 [a0] H Q =
 ob (nilA a0) fun r1 =>
 ob (addPA r1 0) fun r2 =>
 ob (ldH H false 1 r2) fun r3 =>
 E 9 [r3] H fun r4 H5 =>
 ob (sizedA 3 r4) fun b6 =>
 ob (spliceA 0 b6 [(I 0), (S ⟨#[]⟩), (I 0)]) fun b7 =>
 ob (partA false 0 1 b7) fun r8 =>
 ob (binA Pg .eql 3 true r8 (I 3)) fun r9 =>
 cndA r9
 (E 82 [a0, (S ⟨#[]⟩)] H5 fun r10 H11 =>
 ob (sizedA 7 r10) fun b12 =>
 ob (spliceA 0 b12 [(I 0), (I 0), (I 0), (S ⟨#[]⟩), (S ⟨#[]⟩), (S ⟨#[]⟩), (AV.sl 0 true .full [])]) fun b13 =>
 ob (partA true 0 7 b13) fun r14 =>
 Q r14 H11)
 (ob (binA Pg .eql 3 true r8 (I 4)) fun r15 =>
 cndA r15
 (ob (nilA a0) fun r16 =>
 ob (addPA r16 0) fun r17 =>
 ob (ldH H5 false 1 r17) fun r18 =>
 E 65 [r18] H5 fun r19 H20 =>
 ob (partA false 1 1 b7) fun r21 =>
 E 85 [r21] H20 fun r22 H23 =>
 ob (bldA [(0, 1, (I 1)), (1, 3, r22)] [(I 0), (I 0), (I 0), (S ⟨#[]⟩), (S ⟨#[]⟩), (S ⟨#[]⟩), (AV.sl 0 true .full [])]) fun r24 =>
 ob (sizedA 7 r24) fun b25 =>
 ob (spliceA 0 b25 [(I 0), (I 0), (I 0), (S ⟨#[]⟩), (S ⟨#[]⟩), (S ⟨#[]⟩), (AV.sl 0 true .full [])]) fun b26 =>
 ob (partA true 0 7 b26) fun r27 =>
 Q r27 H23)
 (ob (binA Pg .eql 3 true r8 (I 2)) fun r28 =>
 cndA r28
 (ob (nilA a0) fun r29 =>
 ob (addPA r29 0) fun r30 =>
 ob (ldH H5 false 1 r30) fun r31 =>
 E 65 [r31] H5 fun r32 H33 =>
 ob (partA false 1 1 b7) fun r34 =>
 E 86 [a0, r34] H33 fun r35 H36 =>
 ob (sizedA 7 r35) fun b37 =>
 ob (spliceA 0 b37 [(I 0), (I 0), (I 0), (S ⟨#[]⟩), (S ⟨#[]⟩), (S ⟨#[]⟩), (AV.sl 0 true .full [])]) fun b38 =>
 ob (partA true 0 7 b38) fun r39 =>
 Q r39 H36)
 (ob (binA Pg .eql 3 true r8 (I 1)) fun r40 =>
 cndA r40
 (ob (partA false 1 1 b7) fun r41 =>
 E 87 [r41] H5 fun r42 H43 =>
 ob (extractA r42 0) fun r44 =>
 ob (extractA r42 1) fun r45 =>
 ob (sizedA 3 r44) fun b46 =>
 ob (spliceA 0 b46 [(I 0), (I 0), (S ⟨#[]⟩)]) fun b47 =>
 cndA r45
 (ob (nilA a0) fun r48 =>
 ob (addPA r48 0) fun r49 =>
 ob (ldH H43 false 1 r49) fun r50 =>
 E 65 [r50] H43 fun r51 H52 =>
 ob (partA true 0 3 b47) fun r53 =>
 ob (bldA [(0, 1, (I 1)), (1, 3, r53)] [(I 0), (I 0), (I 0), (S ⟨#[]⟩), (S ⟨#[]⟩), (S ⟨#[]⟩), (AV.sl 0 true .full [])]) fun r54 =>
 ob (sizedA 7 r54) fun b55 =>
 ob (spliceA 0 b55 [(I 0), (I 0), (I 0), (S ⟨#[]⟩), (S ⟨#[]⟩), (S ⟨#[]⟩), (AV.sl 0 true .full [])]) fun b56 =>
 ob (partA true 0 7 b56) fun r57 =>
 Q r57 H52)
 (f80_j55 a0 [(I 0), (I 0), (I 0), (S ⟨#[]⟩), (S ⟨#[]⟩), (S ⟨#[]⟩), (AV.sl 0 true .full [])] H43 Q))
 (ob (binA Pg .eql 3 true r8 (I 5)) fun r58 =>
 cndA r58
 (ob (partA false 1 1 b7) fun r59 =>
 ob (binA Pg .eql 9 true r59 (S ⟨#[40]⟩)) fun r60 =>
 cndA r60
 (E 59 [a0, (AV.fn (.func 88) [a0] [])] H5 fun r61 H62 =>
 ob (sizedA 7 r61) fun b63 =>
 ob (spliceA 0 b63 [(I 0), (I 0), (I 0), (S ⟨#[]⟩), (S ⟨#[]⟩), (S ⟨#[]⟩), (AV.sl 0 true .full [])]) fun b64 =>
 ob (partA true 0 7 b64) fun r65 =>
 Q r65 H62)
 (f80_j55 a0 [(I 0), (I 0), (I 0), (S ⟨#[]⟩), (S ⟨#[]⟩), (S ⟨#[]⟩), (AV.sl 0 true .full [])] H5 Q))
 (f80_j55 a0 [(I 0), (I 0), (I 0), (S ⟨#[]⟩), (S ⟨#[]⟩), (S ⟨#[]⟩), (AV.sl 0 true .full [])] H5 Q))))) :=
  Ev_eq.trans (by kernel_rfl)
/-! ### 81 (*haruspex/lex.Reader).Mark -/
theorem f81_eq (a0 : AV) (H : Heap) (Q : Post) : E 81 [a0] H Q =
 E 15 [a0] H fun r1 H2 =>
 cndA r1
 (Q (I 0) H2)
 (ob (nilA a0) fun r3 =>
 ob (addPA r3 1) fun r4 =>
 ob (ldH H2 false 1 r4) fun r5 =>
 Q r5 H2) :=
  Ev_eq.trans (by kernel_rfl)
/-! ### 82 (*haruspex/cond.parser).number -/
def f82_j10 (x0 : AV) (x4 : List AV) (x5 : AV) (H : Heap) (Q : Post) : Prop := AtJ Pg Hs 82 [1, 1, 1] Q [(0, .val x0), (4, .lbox x4), (5, .val x5)] H
theorem f82_j10_eq (x0 : AV) (x4 : List AV) (x5 : AV) (H : Heap) (Q : Post) : f82_j10 x0 x4 x5 H Q =
 E 89 [x5] H fun r9 H10 =>
 ob (extractA r9 0) fun r11 =>
 ob (extractA r9 1) fun r12 =>
 ob (binA Pg .neq 27 true r12 (I 0)) fun r13 =>
 cndA r13
 (E 68 [x0, (I 4)] H10 fun r14 H15 =>
 ob (sizedA 7 r14) fun b16 =>
 ob (spliceA 0 b16 x4) fun b17 =>
 ob (partA true 0 7 b17) fun r18 =>
 Q r18 H15)
 (ob (nilA x0) fun r19 =>
 ob (addPA r19 0) fun r20 =>
 ob (ldH H10 false 1 r20) fun r21 =>
 E 65 [r21] H10 fun r22 H23 =>
 E 90 [r11] H23 fun r24 H25 =>
 ob (bldA [(0, 1, (I 1)), (1, 3, r24)] [(I 0), (I 0), (I 0), (S ⟨#[]⟩), (S ⟨#[]⟩), (S ⟨#[]⟩), (AV.sl 0 true .full [])]) fun r26 =>
 ob (sizedA 7 r26) fun b27 =>
 ob (spliceA 0 b27 x4) fun b28 =>
 ob (partA true 0 7 b28) fun r29 =>
 Q r29 H25) :=
  (AtJ_eq Pg Hs 82 [1, 1, 1] Q _ H).trans (by kernel_rfl)
theorem f82_eq (a0 a1 : AV) (H : Heap) (Q : Post) : E 82 [a0, a1] H Q =
 ob (nilA a0) fun r1 =>
 ob (addPA r1 0) fun r2 =>
 ob (ldH H false 1 r2) fun r3 =>
 E 9 [r3] H fun r4 H5 =>
 fldK false 1 1 r4 fun r6 =>
 ob (binA Pg .neq 9 true r6 (S ⟨#[48]⟩)) fun r7 =>
 cndA r7
 (ob (binA Pg .add 9 false a1 r6) fun r8 =>
 f82_j10 a0 [(I 0), (I 0), (I 0), (S ⟨#[]⟩), (S ⟨#[]⟩), (S ⟨#[]⟩), (AV.sl 0 true .full [])] r8 H5 Q)
 (f82_j10 a0 [(I 0), (I 0), (I 0), (S ⟨#[]⟩), (S ⟨#[]⟩), (S ⟨#[]⟩), (AV.sl 0 true .full [])] r6 H5 Q) :=
  Ev_eq.trans (by kernel_rfl)
/-! ### 83 (*haruspex/lex.Reader).Back -/
def f83_j2 (x0 : AV) (x1 : AV) (x18 : AV) (H : Heap) (Q : Post) : Prop := AtJ Pg Hs 83 [1] Q [(0, .val x0), (1, .val x1), (18, .val x18)] H
theorem f83_j2_eq (x0 : AV) (x1 : AV) (x18 : AV) (H : Heap) (Q : Post) : f83_j2 x0 x1 x18 H Q =
 cndA x18
 (ob (nilA x0) fun r9 =>
 ob (addPA r9 1) fun r10 =>
 ob (stH H 1 r10 x1) fun H11 =>
 Q (AV.tup []) H11)
 (Q (AV.tup []) H) :=
  (AtJ_eq Pg Hs 83 [1] Q _ H).trans (by kernel_rfl)
theorem f83_eq (a0 a1 : AV) (H : Heap) (Q : Post) : E 83 [a0, a1] H Q =
 E 15 [a0] H fun r1 H2 =>
 ob (unA .not r1) fun r3 =>
 cndA r3
 (ob (binA Pg .geq 3 true a1 (I 0)) fun r4 =>
 cndA r4
 (ob (nilA a0) fun r5 =>
 ob (addPA r5 1) fun r6 =>
 ob (ldH H2 false 1 r6) fun r7 =>
 ob (binA Pg .leq 3 false a1 r7) fun r8 =>
 f83_j2 a0 a1 r8 H2 Q)
 (f83_j2 a0 a1 (B false) H2 Q))
 (f83_j2 a0 a1 (B false) H2 Q) :=
  Ev_eq.trans (by kernel_rfl)
/-! ### 84 haruspex/word.table -/
theorem f84_eq (_u : Unit := ()) (H : Heap) (Q : Post) : E 84 [] H Q =
 newH H [(AV.raw (.int .u8 0)), (AV.raw (.int .u8 0)), (AV.raw (.int .u8 0)), (AV.raw (.int .u8 0)), (AV.raw (.int .u8 0)), (AV.raw (.int .u8 0)), (AV.raw (.int .u8 0)), (AV.raw (.int .u8 0)), (AV.raw (.int .u8 0)), (AV.raw (.int .u8 0)), (AV.raw (.int .u8 0)), (AV.raw (.int .u8 0)), (AV.raw (.int .u8 0)), (AV.raw (.int .u8 0)), (AV.raw (.int .u8 0)), (AV.raw (.int .u8 0))] fun r1 H2 =>
 ob (bldA [(0, 1, (AV.raw (.int .u8 48))), (1, 1, (AV.raw (.int .u8 49))), (2, 1, (AV.raw (.int .u8 50))), (3, 1, (AV.raw (.int .u8 51))), (4, 1, (AV.raw (.int .u8 52))), (5, 1, (AV.raw (.int .u8 53))), (6, 1, (AV.raw (.int .u8 54))), (7, 1, (AV.raw (.int .u8 55))), (8, 1, (AV.raw (.int .u8 56))), (9, 1, (AV.raw (.int .u8 57))), (10, 1, (AV.raw (.int .u8 97))), (11, 1, (AV.raw (.int .u8 98))), (12, 1, (AV.raw (.int .u8 99))), (13, 1, (AV.raw (.int .u8 100))), (14, 1, (AV.raw (.int .u8 101))), (15, 1, (AV.raw (.int .u8 102)))] [(AV.raw (.int .u8 0)), (AV.raw (.int .u8 0)), (AV.raw (.int .u8 0)), (AV.raw (.int .u8 0)), (AV.raw (.int .u8 0)), (AV.raw (.int .u8 0)), (AV.raw (.int .u8 0)), (AV.raw (.int .u8 0)), (AV.raw (.int .u8 0)), (AV.raw (.int .u8 0)), (AV.raw (.int .u8 0)), (AV.raw (.int .u8 0)), (AV.raw (.int .u8 0)), (AV.raw (.int .u8 0)), (AV.raw (.int .u8 0)), (AV.raw (.int .u8 0))]) fun r3 =>
 ob (stH H2 16 r1 r3) fun H4 =>
 ob (ldH H4 true 16 r1) fun r5 =>
 Q r5 H4 :=
  Ev_eq.trans (by kernel_rfl)
/-! ### 85 haruspex/value.Text -/
theorem f85_eq (a0 : AV) (H : Heap) (Q : Post) : E 85 [a0] H Q =
 ob (lenSA a0) fun r1 =>
 ob (binA Pg .gtr 3 true r1 (I 256)) fun r2 =>
 cndA r2
 (E 91 [] H fun r3 H4 =>
 ob (sizedA 3 r3) fun b5 =>
 ob (spliceA 0 b5 [(I 0), (I 0), (S ⟨#[]⟩)]) fun b6 =>
 ob (partA true 0 3 b6) fun r7 =>
 Q r7 H4)
 (ob (bldA [(0, 1, (I 3)), (2, 1, a0)] [(I 0), (I 0), (S ⟨#[]⟩)]) fun r8 =>
 ob (sizedA 3 r8) fun b9 =>
 ob (spliceA 0 b9 [(I 0), (I 0), (S ⟨#[]⟩)]) fun b10 =>
 ob (partA true 0 3 b10) fun r11 =>
 Q r11 H) :=
  Ev_eq.trans (by kernel_rfl)
/-! ### 86 (*haruspex/cond.parser).field -/
theorem f86_eq (a0 a1 : AV) (H : Heap) (Q : Post) : E 86 [a0, a1] H Q =
 ob (nilA a0) fun r1 =>
 ob (addPA r1 0) fun r2 =>
 ob (ldH H false 1 r2) fun r3 =>
 E 76 [r3, (S ⟨#[46]⟩)] H fun r4 H5 =>
 ob (unA .not r4) fun r6 =>
 cndA r6
 (E 68 [a0, (I 4)] H5 fun r7 H8 =>
 ob (sizedA 7 r7) fun b9 =>
 ob (spliceA 0 b9 [(I 0), (I 0), (I 0), (S ⟨#[]⟩), (S ⟨#[]⟩), (S ⟨#[]⟩), (AV.sl 0 true .full [])]) fun b10 =>
 ob (partA true 0 7 b10) fun r11 =>
 Q r11 H8)
 (ob (nilA a0) fun r12 =>
 ob (addPA r12 0) fun r13 =>
 ob (ldH H5 false 1 r13) fun r14 =>
 E 92 [r14] H5 fun r15 H16 =>
 ob (extractA r15 0) fun r17 =>
 ob (extractA r15 1) fun r18 =>
 ob (unA .not r18) fun r19 =>
 cndA r19
 (E 68 [a0, (I 4)] H16 fun r20 H21 =>
 ob (sizedA 7 r20) fun b22 =>
 ob (spliceA 0 b22 [(I 0), (I 0), (I 0), (S ⟨#[]⟩), (S ⟨#[]⟩), (S ⟨#[]⟩), (AV.sl 0 true .full [])]) fun b23 =>
 ob (partA true 0 7 b23) fun r24 =>
 Q r24 H21)
 (ob (bldA [(0, 1, (I 2)), (4, 1, a1), (5, 1, r17)] [(I 0), (I 0), (I 0), (S ⟨#[]⟩), (S ⟨#[]⟩), (S ⟨#[]⟩), (AV.sl 0 true .full [])]) fun r25 =>
 ob (sizedA 7 r25) fun b26 =>
 ob (spliceA 0 b26 [(I 0), (I 0), (I 0), (S ⟨#[]⟩), (S ⟨#[]⟩), (S ⟨#[]⟩), (AV.sl 0 true .full [])]) fun b27 =>
 ob (partA true 0 7 b27) fun r28 =>
 Q r28 H16)) :=
  Ev_eq.trans (by kernel_rfl)
/-! ### 87 haruspex/cond.constant -/
theorem f87_eq (a0 : AV) (H : Heap) (Q : Post) : E 87 [a0] H Q =
 ob (binA Pg .eql 9 true a0 (S ⟨#[84, 82, 85, 69]⟩)) fun r1 =>
 cndA r1
 (E 56 [(B true)] H fun r2 H3 =>
 ob (sizedA 3 r2) fun b4 =>
 ob (spliceA 0 b4 [(I 0), (I 0), (S ⟨#[]⟩)]) fun b5 =>
 ob (partA true 0 3 b5) fun r6 =>
 Q (AV.tup [r6, (B true)]) H3)
 (ob (binA Pg .eql 9 true a0 (S ⟨#[70, 65, 76, 83, 69]⟩)) fun r7 =>
 cndA r7
 (E 56 [(B false)] H fun r8 H9 =>
 ob (sizedA 3 r8) fun b10 =>
 ob (spliceA 0 b10 [(I 0), (I 0), (S ⟨#[]⟩)]) fun b11 =>
 ob (partA true 0 3 b11) fun r12 =>
 Q (AV.tup [r12, (B true)]) H9)
 (ob (binA Pg .eql 9 true a0 (S ⟨#[78, 85, 76, 76]⟩)) fun r13 =>
 cndA r13
 (E 91 [] H fun r14 H15 =>
 ob (sizedA 3 r14) fun b16 =>
 ob (spliceA 0 b16 [(I 0), (I 0), (S ⟨#[]⟩)]) fun b17 =>
 ob (partA true 0 3 b17) fun r18 =>
 Q (AV.tup [r18, (B true)]) H15)
 (E 91 [] H fun r19 H20 =>
 ob (sizedA 3 r19) fun b21 =>
 ob (spliceA 0 b21 [(I 0), (I 0), (S ⟨#[]⟩)]) fun b22 =>
 ob (partA true 0 3 b22) fun r23 =>
 Q (AV.tup [r23, (B false)]) H20))) :=
  Ev_eq.trans (by kernel_rfl)
/-! ### 88 (*haruspex/cond.parser).paren -/
def f88_j7 (x0 : AV) (x2 : List AV) (x3 : List AV) (x18 : AV) (H : Heap) (Q : Post) : Prop := AtJ Pg Hs 88 [1, 1, 0, 1] Q [(0, .val x0), (2, .lbox x2), (3, .lbox x3), (18, .val x18)] H
theorem f88_j7_eq (x0 : AV) (x2 : List AV) (x3 : List AV) (x18 : AV) (H : Heap) (Q : Post) : f88_j7 x0 x2 x3 x18 H Q =
 cndA x18
 (E 68 [x0, (I 4)] H fun r15 H16 =>
 ob (sizedA 7 r15) fun b17 =>
 ob (spliceA 0 b17 x2) fun b18 =>
 ob (partA true 0 7 b18) fun r19 =>
 Q r19 H16)
 (ob (partA true 0 7 x3) fun r20 =>
 ob (sizedA 7 r20) fun b21 =>
 ob (spliceA 0 b21 x2) fun b22 =>
 ob (partA true 0 7 b22) fun r23 =>
 Q r23 H) :=
  (AtJ_eq Pg Hs 88 [1, 1, 0, 1] Q _ H).trans (by kernel_rfl)
theorem f88_eq (a0 : AV) (H : Heap) (Q : Post) : E 88 [a0] H Q =
 E 13 [a0] H fun r1 H2 =>
 ob (sizedA 7 r1) fun b3 =>
 ob (spliceA 0 b3 [(I 0), (I 0), (I 0), (S ⟨#[]⟩), (S ⟨#[]⟩), (S ⟨#[]⟩), (AV.sl 0 true .full [])]) fun b4 =>
 ob (nilA a0) fun r5 =>
 ob (addPA r5 2) fun r6 =>
 ob (ldH H2 false 1 r6) fun r7 =>
 ob (binA Pg .eql 27 true r7 (I 0)) fun r8 =>
 cndA r8
 (ob (nilA a0) fun r9 =>
 ob (addPA r9 0) fun r10 =>
 ob (ldH H2 false 1 r10) fun r11 =>
 E 76 [r11, (S ⟨#[41]⟩)] H2 fun r12 H13 =>
 ob (unA .not r12) fun r14 =>
 f88_j7 a0 [(I 0), (I 0), (I 0), (S ⟨#[]⟩), (S ⟨#[]⟩), (S ⟨#[]⟩), (AV.sl 0 true .full [])] b4 r14 H13 Q)
 (f88_j7 a0 [(I 0), (I 0), (I 0), (S ⟨#[]⟩), (S ⟨#[]⟩), (S ⟨#[]⟩), (AV.sl 0 true .full [])] b4 (B false) H2 Q) :=
  Ev_eq.trans (by kernel_rfl)
/-! ### 89 haruspex/num.Parse -/
def f89_l18 (x5 : AV) (x7 : AV) (x21 : AV) (x22 : AV) (x23 : AV) (H : Heap) (Q : Post) : Prop := AtF Pg Hs 89 [1, 1, 1, 1, 0, 1, 0] Q [(5, .val x5), (7, .val x7), (21, .val x21), (22, .val x22), (23, .val x23)] H
theorem f89_l18_eq (x5 : AV) (x7 : AV) (x21 : AV) (x22 : AV) (x23 : AV) (H : Heap) (Q : Post) : f89_l18 x5 x7 x21 x22 x23 H Q =
 ob (binA Pg .lss 3 false x23 x22) fun r9 =>
 cndA r9
 (ob (ixaA 1 x21 x23) fun c10 =>
 ob (partA false 0 1 c10) fun r11 =>
 E 94 [x7, (I 10)] H fun r12 H13 =>
 ob (extractA r12 0) fun r14 =>
 ob (extractA r12 1) fun r15 =>
 ob (binA Pg .neq 27 true r15 (I 0)) fun r16 =>
 cndA r16
 (Q (AV.tup [(I 0), r15]) H13)
 (ob (binA Pg .sub 5 true r11 (AV.raw (.int .u8 48))) fun r17 =>
 ob (cvtIA .i64 r17) fun r19 =>
 E 95 [r14, r19] H13 fun r20 H21 =>
 ob (extractA r20 0) fun r22 =>
 ob (extractA r20 1) fun r23 =>
 ob (binA Pg .neq 27 true r23 (I 0)) fun r24 =>
 cndA r24
 (Q (AV.tup [(I 0), r23]) H21)
 (ob (binA Pg .add 3 true x23 (I 1)) fun r25 =>
 f89_l18 x5 r22 x21 x22 r25 H21 Q)))
 (cndA x5
 (Q (AV.tup [x7, (I 0)]) H)
 (E 96 [x7] H fun r26 H27 =>
 ob (extractA r26 0) fun r28 =>
 ob (extractA r26 1) fun r29 =>
 Q (AV.tup [r28, r29]) H27)) :=
  (AtF_eq Pg Hs 89 [1, 1, 1, 1, 0, 1, 0] Q _ H).trans (by kernel_rfl)
theorem f89_eq (a0 : AV) (H : Heap) (Q : Post) : E 89 [a0] H Q =
 E 93 [a0] H fun r1 H2 =>
 ob (extractA r1 0) fun r3 =>
 ob (extractA r1 1) fun r4 =>
 ob (extractA r1 2) fun r5 =>
 ob (unA .not r5) fun r6 =>
 cndA r6
 (Q (AV.tup [(I 0), (I 4)]) H2)
 (sbA r3 fun r7 =>
 ob (lenA r7) fun r8 =>
 f89_l18 r4 (I 0) r7 r8 (I 0) H2 Q) :=
  Ev_eq.trans (by kernel_rfl)
/-! ### 90 haruspex/value.Int -/
theorem f90_eq (a0 : AV) (H : Heap) (Q : Post) : E 90 [a0] H Q =
 ob (bldA [(0, 1, (I 2)), (1, 1, a0)] [(I 0), (I 0), (S ⟨#[]⟩)]) fun r1 =>
 ob (sizedA 3 r1) fun b2 =>
 ob (spliceA 0 b2 [(I 0), (I 0), (S ⟨#[]⟩)]) fun b3 =>
 ob (partA true 0 3 b3) fun r4 =>
 Q r4 H :=
  Ev_eq.trans (by kernel_rfl)
/-! ### 91 haruspex/value.Null -/
theorem f91_eq (_u : Unit := ()) (H : Heap) (Q : Post) : E 91 [] H Q =
 ob (bldA [] [(I 0), (I 0), (S ⟨#[]⟩)]) fun r1 =>
 ob (sizedA 3 r1) fun b2 =>
 ob (spliceA 0 b2 [(I 0), (I 0), (S ⟨#[]⟩)]) fun b3 =>
 ob (partA true 0 3 b3) fun r4 =>
 Q r4 H :=
  Ev_eq.trans (by kernel_rfl)
/-! ### 92 (*haruspex/lex.Reader).Name -/
theorem f92_eq (a0 : AV) (H : Heap) (Q : Post) : E 92 [a0] H Q =
 E 9 [a0] H fun r1 H2 =>
 ob (sizedA 3 r1) fun b3 =>
 ob (spliceA 0 b3 [(I 0), (S ⟨#[]⟩), (I 0)]) fun b4 =>
 ob (partA false 0 1 b4) fun r5 =>
 ob (binA Pg .neq 3 true r5 (I 2)) fun r6 =>
 cndA r6
 (Q (AV.tup [(S ⟨#[]⟩), (B false)]) H2)
 (E 65 [a0] H2 fun r7 H8 =>
 ob (partA false 1 1 b4) fun r9 =>
 Q (AV.tup [r9, (B true)]) H8) :=
  Ev_eq.trans (by kernel_rfl)
/-! ### 93 haruspex/num.digits -/
def f93_j7 (x0 : AV) (x5 : AV) (x6 : AV) (x17 : AV) (H : Heap) (Q : Post) : Prop := AtJ Pg Hs 93 [1, 1, 0, 1] Q [(0, .val x0), (5, .val x5), (6, .val x6), (17, .val x17)] H
def f93_j13 (x5 : AV) (x6 : AV) (x31 : AV) (H : Heap) (Q : Post) : Prop := AtJ Pg Hs 93 [1, 1, 1, 0, 1] Q [(5, .val x5), (6, .val x6), (31, .val x31)] H
def f93_l22 (x5 : AV) (x6 : AV) (x33 : AV) (x34 : AV) (x35 : AV) (H : Heap) (Q : Post) : Prop := AtF Pg Hs 93 [1, 1, 1, 1, 0, 1, 0] Q [(5, .val x5), (6, .val x6), (33, .val x33), (34, .val x34), (35, .val x35)] H
def f93_j35 (x5 : AV) (x6 : AV) (x33 : AV) (x34 : AV) (x35 : AV) (x44 : AV) (H : Heap) (Q : Post) : Prop := AtJ Pg Hs 93 [1, 1, 1, 1, 0, 1, 0, 0, 1, 1, 0, 0, 1, 1] Q [(5, .val x5), (6, .val x6), (33, .val x33), (34, .val x34), (35, .val x35), (44, .val x44)] H
theorem f93_j7_eq (x0 : AV) (x5 : AV) (x6 : AV) (x17 : AV) (H : Heap) (Q : Post) : f93_j7 x0 x5 x6 x17 H Q =
 cndA x17
 (ob (sliceSA x0 (some (I 1)) none) fun r5 =>
 ob (binA Pg .eql 9 true r5 (S ⟨#[]⟩)) fun r6 =>
 cndA r6
 (f93_j13 r5 (B true) (B true) H Q)
 (ob (ixA r5 (I 0)) fun r7 =>
 ob (binA Pg .eql 5 true r7 (AV.raw (.int .u8 48))) fun r8 =>
 cndA r8
 (ob (lenSA x0) fun r9 =>
 ob (binA Pg .gtr 3 true r9 (I 1)) fun r10 =>
 f93_j13 r5 (B true) r10 H Q)
 (f93_j13 r5 (B true) (B false) H Q)))
 (ob (binA Pg .eql 9 true x5 (S ⟨#[]⟩)) fun r11 =>
 cndA r11
 (f93_j13 x5 x6 (B true) H Q)
 (ob (ixA x5 (I 0)) fun r12 =>
 ob (binA Pg .eql 5 true r12 (AV.raw (.int .u8 48))) fun r13 =>
 cndA r13
 (ob (lenSA x0) fun r14 =>
 ob (binA Pg .gtr 3 true r14 (I 1)) fun r15 =>
 f93_j13 x5 x6 r15 H Q)
 (f93_j13 x5 x6 (B false) H Q))) :=
  (AtJ_eq Pg Hs 93 [1, 1, 0, 1] Q _ H).trans (by kernel_rfl)
theorem f93_j13_eq (x5 : AV) (x6 : AV) (x31 : AV) (H : Heap) (Q : Post) : f93_j13 x5 x6 x31 H Q =
 cndA x31
 (Q (AV.tup [(S ⟨#[]⟩), (B false), (B false)]) H)
 (sbA x5 fun r16 =>
 ob (lenA r16) fun r17 =>
 f93_l22 x5 x6 r16 r17 (I 0) H Q) :=
  (AtJ_eq Pg Hs 93 [1, 1, 1, 0, 1] Q _ H).trans (by kernel_rfl)
theorem f93_l22_eq (x5 : AV) (x6 : AV) (x33 : AV) (x34 : AV) (x35 : AV) (H : Heap) (Q : Post) : f93_l22 x5 x6 x33 x34 x35 H Q =
 ob (binA Pg .lss 3 false x35 x34) fun r18 =>
 cndA r18
 (ob (ixaA 1 x33 x35) fun c19 =>
 ob (partA false 0 1 c19) fun r20 =>
 ob (binA Pg .lss 5 true r20 (AV.raw (.int .u8 48))) fun r21 =>
 cndA r21
 (f93_j35 x5 x6 x33 x34 x35 (B true) H Q)
 (ob (binA Pg .gtr 5 true r20 (AV.raw (.int .u8 57))) fun r22 =>
 f93_j35 x5 x6 x33 x34 x35 r22 H Q))
 (Q (AV.tup [x5, x6, (B true)]) H) :=
  (AtF_eq Pg Hs 93 [1, 1, 1, 1, 0, 1, 0] Q _ H).trans (by kernel_rfl)
theorem f93_j35_eq (x5 : AV) (x6 : AV) (x33 : AV) (x34 : AV) (x35 : AV) (x44 : AV) (H : Heap) (Q : Post) : f93_j35 x5 x6 x33 x34 x35 x44 H Q =
 cndA x44
 (Q (AV.tup [(S ⟨#[]⟩), (B false), (B false)]) H)
 (ob (binA Pg .add 3 true x35 (I 1)) fun r23 =>
 f93_l22 x5 x6 x33 x34 r23 H Q) :=
  (AtJ_eq Pg Hs 93 [1, 1, 1, 1, 0, 1, 0, 0, 1, 1, 0, 0, 1, 1] Q _ H).trans (by kernel_rfl)
theorem f93_eq (a0 : AV) (H : Heap) (Q : Post) : E 93 [a0] H Q =
 ob (lenSA a0) fun r1 =>
 ob (binA Pg .gtr 3 true r1 (I 0)) fun r2 =>
 cndA r2
 (ob (ixA a0 (I 0)) fun r3 =>
 ob (binA Pg .eql 5 true r3 (AV.raw (.int .u8 45))) fun r4 =>
 f93_j7 a0 a0 (B false) r4 H Q)
 (f93_j7 a0 a0 (B false) (B false) H Q) :=
  Ev_eq.trans (by kernel_rfl)
/-! ### 94 haruspex/num.Mul -/
def f94_c5_8a (x0 : AV) (x1 : AV) (x24 : AV) (H : Heap) (Q : Post) : Prop := AtJ Pg Hs 94 [1, 0, 1, 0, 0, 0, 0, 0, 0, 1, 0, 0, 8] Q [(0, .val x0), (1, .val x1), (24, .val x24)] H
def f94_c5_8b (x0 : AV) (x1 : AV) (H : Heap) (Q : Post) : Prop := AtJ Pg Hs 94 [1, 0, 1, 0, 0, 0, 0, 0, 0, 1, 0, 0, 8] Q [(0, .val x0), (1, .val x1), (24, .val (B false))] H
def f94_c7_8a (x0 : AV) (x1 : AV) (x42 : AV) (H : Heap) (Q : Post) : Prop := AtJ Pg Hs 94 [1, 0, 1, 0, 0, 0, 0, 1, 0, 0, 8] Q [(0, .val x0), (1, .val x1), (42, .val x42)] H
def f94_c7_8b (x0 : AV) (x1 : AV) (H : Heap) (Q : Post) : Prop := AtJ Pg Hs 94 [1, 0, 1, 0, 0, 0, 0, 1, 0, 0, 8] Q [(0, .val x0), (1, .val x1), (42, .val (B false))] H
def f94_j50 (H : Heap) (Q : Post) : Prop := AtJ Pg Hs 94 [1, 0, 1, 0, 1] Q [] H
def f94_c5_17a (x0 : AV) (x1 : AV) (H : Heap) (Q : Post) : Prop := AtJ Pg Hs 94 [1, 0, 1, 0, 0, 0, 0, 0, 0, 1, 0, 0, 17] Q [(0, .val x0), (1, .val x1), (25, .val (B true)), (33, .nov)] H
def f94_c5_17b (x0 : AV) (x1 : AV) (x33 : AV) (H : Heap) (Q : Post) : Prop := AtJ Pg Hs 94 [1, 0, 1, 0, 0, 0, 0, 0, 0, 1, 0, 0, 17] Q [(0, .val x0), (1, .val x1), (25, .val (B false)), (33, .val x33)] H
def f94_c5_17c (x0 : AV) (x1 : AV) (H : Heap) (Q : Post) : Prop := AtJ Pg Hs 94 [1, 0, 1, 0, 0, 0, 0, 0, 0, 1, 0, 0, 17] Q [(0, .val x0), (1, .val x1), (25, .val (B false)), (33, .val (B false))] H
def f94_c7_17a (x0 : AV) (x1 : AV) (H : Heap) (Q : Post) : Prop := AtJ Pg Hs 94 [1, 0, 1, 0, 0, 0, 0, 1, 0, 0, 17] Q [(0, .val x0), (1, .val x1), (43, .val (B true)), (51, .nov)] H
def f94_c7_17b (x0 : AV) (x1 : AV) (x51 : AV) (H : Heap) (Q : Post) : Prop := AtJ Pg Hs 94 [1, 0, 1, 0, 0, 0, 0, 1, 0, 0, 17] Q [(0, .val x0), (1, .val x1), (43, .val (B false)), (51, .val x51)] H
def f94_c7_17c (x0 : AV) (x1 : AV) (H : Heap) (Q : Post) : Prop := AtJ Pg Hs 94 [1, 0, 1, 0, 0, 0, 0, 1, 0, 0, 17] Q [(0, .val x0), (1, .val x1), (43, .val (B false)), (51, .val (B false))] H
def f94_j35 (x0 : AV) (x1 : AV) (x34 : AV) (H : Heap) (Q : Post) : Prop := AtJ Pg Hs 94 [1, 0, 1, 0, 0, 0, 0, 0, 0, 1, 0, 1] Q [(0, .val x0), (1, .val x1), (34, .val x34)] H
def f94_j44 (x0 : AV) (x1 : AV) (x52 : AV) (H : Heap) (Q : Post) : Prop := AtJ Pg Hs 94 [1, 0, 1, 0, 0, 0, 0, 1, 0, 1] Q [(0, .val x0), (1, .val x1), (52, .val x52)] H
theorem f94_c5_8a_eq (x0 : AV) (x1 : AV) (x24 : AV) (H : Heap) (Q : Post) : f94_c5_8a x0 x1 x24 H Q =
 cndA x24
 (f94_c5_17a x0 x1 H Q)
 (ob (binA Pg .lss 2 true x0 (I 0)) fun r15 =>
 cndA r15
 (ob (binA Pg .quo 2 true (I 9223372036854775807) x0) fun r16 =>
 ob (binA Pg .lss 2 false x1 r16) fun r17 =>
 f94_c5_17b x0 x1 r17 H Q)
 (f94_c5_17c x0 x1 H Q)) :=
  (AtJ_eq Pg Hs 94 [1, 0, 1, 0, 0, 0, 0, 0, 0, 1, 0, 0, 8] Q _ H).trans (by kernel_rfl)
theorem f94_c5_8b_eq (x0 : AV) (x1 : AV) (H : Heap) (Q : Post) : f94_c5_8b x0 x1 H Q =
 ob (binA Pg .lss 2 true x0 (I 0)) fun r18 =>
 cndA r18
 (ob (binA Pg .quo 2 true (I 9223372036854775807) x0) fun r19 =>
 ob (binA Pg .lss 2 false x1 r19) fun r20 =>
 f94_c5_17b x0 x1 r20 H Q)
 (f94_c5_17c x0 x1 H Q) :=
  (AtJ_eq Pg Hs 94 [1, 0, 1, 0, 0, 0, 0, 0, 0, 1, 0, 0, 8] Q _ H).trans (by kernel_rfl)
theorem f94_c7_8a_eq (x0 : AV) (x1 : AV) (x42 : AV) (H : Heap) (Q : Post) : f94_c7_8a x0 x1 x42 H Q =
 cndA x42
 (f94_c7_17a x0 x1 H Q)
 (ob (binA Pg .gtr 2 true x1 (I 0)) fun r21 =>
 cndA r21
 (ob (binA Pg .quo 2 true (I (-9223372036854775808)) x1) fun r22 =>
 ob (binA Pg .lss 2 false x0 r22) fun r23 =>
 f94_c7_17b x0 x1 r23 H Q)
 (f94_c7_17c x0 x1 H Q)) :=
  (AtJ_eq Pg Hs 94 [1, 0, 1, 0, 0, 0, 0, 1, 0, 0, 8] Q _ H).trans (by kernel_rfl)
theorem f94_c7_8b_eq (x0 : AV) (x1 : AV) (H : Heap) (Q : Post) : f94_c7_8b x0 x1 H Q =
 ob (binA Pg .gtr 2 true x1 (I 0)) fun r24 =>
 cndA r24
 (ob (binA Pg .quo 2 true (I (-9223372036854775808)) x1) fun r25 =>
 ob (binA Pg .lss 2 false x0 r25) fun r26 =>
 f94_c7_17b x0 x1 r26 H Q)
 (f94_c7_17c x0 x1 H Q) :=
  (AtJ_eq Pg Hs 94 [1, 0, 1, 0, 0, 0, 0, 1, 0, 0, 8] Q _ H).trans (by kernel_rfl)
theorem f94_j50_eq (H : Heap) (Q : Post) : f94_j50 H Q =
 Q (AV.tup [(I 0), (I 0)]) H :=
  (AtJ_eq Pg Hs 94 [1, 0, 1, 0, 1] Q _ H).trans (by kernel_rfl)
theorem f94_c5_17a_eq (x0 : AV) (x1 : AV) (H : Heap) (Q : Post) : f94_c5_17a x0 x1 H Q =
 f94_j35 x0 x1 (B true) H Q :=
  (AtJ_eq Pg Hs 94 [1, 0, 1, 0, 0, 0, 0, 0, 0, 1, 0, 0, 17] Q _ H).trans (by kernel_rfl)
theorem f94_c5_17b_eq (x0 : AV) (x1 : AV) (x33 : AV) (H : Heap) (Q : Post) : f94_c5_17b x0 x1 x33 H Q =
 f94_j35 x0 x1 x33 H Q :=
  (AtJ_eq Pg Hs 94 [1, 0, 1, 0, 0, 0, 0, 0, 0, 1, 0, 0, 17] Q _ H).trans (by kernel_rfl)
theorem f94_c5_17c_eq (x0 : AV) (x1 : AV) (H : Heap) (Q : Post) : f94_c5_17c x0 x1 H Q =
 f94_j35 x0 x1 (B false) H Q :=
  (AtJ_eq Pg Hs 94 [1, 0, 1, 0, 0, 0, 0, 0, 0, 1, 0, 0, 17] Q _ H).trans (by kernel_rfl)
theorem f94_c7_17a_eq (x0 : AV) (x1 : AV) (H : Heap) (Q : Post) : f94_c7_17a x0 x1 H Q =
 f94_j44 x0 x1 (B true) H Q :=
  (AtJ_eq Pg Hs 94 [1, 0, 1, 0, 0, 0, 0, 1, 0, 0, 17] Q _ H).trans (by kernel_rfl)
theorem f94_c7_17b_eq (x0 : AV) (x1 : AV) (x51 : AV) (H : Heap) (Q : Post) : f94_c7_17b x0 x1 x51 H Q =
 f94_j44 x0 x1 x51 H Q :=
  (AtJ_eq Pg Hs 94 [1, 0, 1, 0, 0, 0, 0, 1, 0, 0, 17] Q _ H).trans (by kernel_rfl)
theorem f94_c7_17c_eq (x0 : AV) (x1 : AV) (H : Heap) (Q : Post) : f94_c7_17c x0 x1 H Q =
 f94_j44 x0 x1 (B false) H Q :=
  (AtJ_eq Pg Hs 94 [1, 0, 1, 0, 0, 0, 0, 1, 0, 0, 17] Q _ H).trans (by kernel_rfl)
theorem f94_j35_eq (x0 : AV) (x1 : AV) (x34 : AV) (H : Heap) (Q : Post) : f94_j35 x0 x1 x34 H Q =
 cndA x34
 (Q (AV.tup [(I 0), (I 10)]) H)
 (ob (binA Pg .mul 2 false x0 x1) fun r27 =>
 Q (AV.tup [r27, (I 0)]) H) :=
  (AtJ_eq Pg Hs 94 [1, 0, 1, 0, 0, 0, 0, 0, 0, 1, 0, 1] Q _ H).trans (by kernel_rfl)
theorem f94_j44_eq (x0 : AV) (x1 : AV) (x52 : AV) (H : Heap) (Q : Post) : f94_j44 x0 x1 x52 H Q =
 cndA x52
 (Q (AV.tup [(I 0), (I 10)]) H)
 (ob (binA Pg .mul 2 false x0 x1) fun r28 =>
 Q (AV.tup [r28, (I 0)]) H) :=
  (AtJ_eq Pg Hs 94 [1, 0, 1, 0, 0, 0, 0, 1, 0, 1] Q _ H).trans (by kernel_rfl)
theorem f94_eq (a0 a1 : AV) (H : Heap) (Q : Post) : E 94 [a0, a1] H Q =
 E 97 [a0] H fun r1 H2 =>
 E 97 [a1] H2 fun r3 H4 =>
 ob (binA Pg .mul 3 false r1 r3) fun r5 =>
 ob (binA Pg .eql 3 true r5 (I 1)) fun r6 =>
 cndA r6
 (ob (binA Pg .gtr 2 true a0 (I 0)) fun r7 =>
 cndA r7
 (ob (binA Pg .quo 2 true (I 9223372036854775807) a0) fun r8 =>
 ob (binA Pg .gtr 2 false a1 r8) fun r9 =>
 f94_c5_8a a0 a1 r9 H4 Q)
 (f94_c5_8b a0 a1 H4 Q))
 (ob (binA Pg .eql 3 true r5 (I (-1))) fun r10 =>
 cndA r10
 (ob (binA Pg .gtr 2 true a0 (I 0)) fun r11 =>
 cndA r11
 (ob (binA Pg .quo 2 true (I (-9223372036854775808)) a0) fun r12 =>
 ob (binA Pg .lss 2 false a1 r12) fun r13 =>
 f94_c7_8a a0 a1 r13 H4 Q)
 (f94_c7_8b a0 a1 H4 Q))
 (ob (binA Pg .eql 3 true r5 (I 0)) fun r14 =>
 cndA r14
 (f94_j50 H4 Q)
 (f94_j50 H4 Q))) :=
  Ev_eq.trans (by kernel_rfl)
/-! ### 95 haruspex/num.Sub -/
def f95_j7 (x6 : AV) (x19 : AV) (H : Heap) (Q : Post) : Prop := AtJ Pg Hs 95 [1, 1, 0, 1] Q [(6, .val x6), (19, .val x19)] H
theorem f95_j7_eq (x6 : AV) (x19 : AV) (H : Heap) (Q : Post) : f95_j7 x6 x19 H Q =
 cndA x19
 (Q (AV.tup [(I 0), (I 10)]) H)
 (Q (AV.tup [x6, (I 0)]) H) :=
  (AtJ_eq Pg Hs 95 [1, 1, 0, 1] Q _ H).trans (by kernel_rfl)
theorem f95_eq (a0 a1 : AV) (H : Heap) (Q : Post) : E 95 [a0, a1] H Q =
 ob (binA Pg .sub 2 false a0 a1) fun r1 =>
 ob (binA Pg .xor 2 false a0 a1) fun r2 =>
 ob (binA Pg .lss 2 true r2 (I 0)) fun r3 =>
 cndA r3
 (ob (binA Pg .xor 2 false a0 r1) fun r4 =>
 ob (binA Pg .lss 2 true r4 (I 0)) fun r5 =>
 f95_j7 r1 r5 H Q)
 (f95_j7 r1 (B false) H Q) :=
  Ev_eq.trans (by kernel_rfl)
/-! ### 96 haruspex/num.Neg -/
theorem f96_eq (a0 : AV) (H : Heap) (Q : Post) : E 96 [a0] H Q =
 ob (binA Pg .eql 2 true a0 (I (-9223372036854775808))) fun r1 =>
 cndA r1
 (Q (AV.tup [(I 0), (I 10)]) H)
 (ob (unA .neg a0) fun r2 =>
 Q (AV.tup [r2, (I 0)]) H) :=
  Ev_eq.trans (by kernel_rfl)
/-! ### 97 haruspex/num.sign -/
theorem f97_eq (a0 : AV) (H : Heap) (Q : Post) : E 97 [a0] H Q =
 ob (binA Pg .lss 2 true a0 (I 0)) fun r1 =>
 cndA r1
 (Q (I (-1)) H)
 (ob (binA Pg .gtr 2 true a0 (I 0)) fun r2 =>
 cndA r2
 (Q (I 1) H)
 (Q (I 0) H)) :=
  Ev_eq.trans (by kernel_rfl)
end Go.Hx
