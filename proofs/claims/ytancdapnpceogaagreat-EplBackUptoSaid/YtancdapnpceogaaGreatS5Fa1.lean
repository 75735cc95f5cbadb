/- Printed by gen.py (own work): each function as the abstract machine has it. -/
import Derived.Test.YtancdapnpceogaaGreatS5H
import Derived.KernelRfl
set_option linter.unusedVariables false
namespace Go.Hx
def f5_j10 (x2:AV) (H:Heap) (Q:Post):Prop:=AtJ Pg Hs 5 [1,1,0,1,0,1] Q [(2,.val x2)] H
def f5_c7_8a (x1:List AV) (x5:List AV) (x43:AV) (H:Heap) (Q:Post):Prop:=AtJ Pg Hs 5 [1,1,1,1,1,0,8] Q [(1,.lbox x1),(5,.lbox x5),(43,.val x43)] H
def f5_c7_8b (x1:List AV) (x5:List AV) (H:Heap) (Q:Post):Prop:=AtJ Pg Hs 5 [1,1,1,1,1,0,8] Q [(1,.lbox x1),(5,.lbox x5),(43,.val (B false))] H
def f5_c7_13a (x1:List AV) (x5:List AV) (x48:AV) (H:Heap) (Q:Post):Prop:=AtJ Pg Hs 5 [1,1,1,1,1,0,13] Q [(1,.lbox x1),(5,.lbox x5),(48,.val x48)] H
def f5_c7_13b (x1:List AV) (x5:List AV) (H:Heap) (Q:Post):Prop:=AtJ Pg Hs 5 [1,1,1,1,1,0,13] Q [(1,.lbox x1),(5,.lbox x5),(48,.val (B false))] H
def f5_c7_16a (x1:List AV) (x5:List AV) (x51:AV) (H:Heap) (Q:Post):Prop:=AtJ Pg Hs 5 [1,1,1,1,1,0,16] Q [(1,.lbox x1),(5,.lbox x5),(51,.val x51)] H
def f5_c7_16b (x1:List AV) (x5:List AV) (H:Heap) (Q:Post):Prop:=AtJ Pg Hs 5 [1,1,1,1,1,0,16] Q [(1,.lbox x1),(5,.lbox x5),(51,.val (B false))] H
def f5_j24 (x2:AV) (H:Heap) (Q:Post):Prop:=AtJ Pg Hs 5 [1,1,1,1,1,1] Q [(2,.val x2)] H
theorem f5_j10_eq (x2:AV) (H:Heap) (Q:Post):f5_j10 x2 H Q =
 Q x2 H :=
 (AtJ_eq Pg Hs 5 [1,1,0,1,0,1] Q _ H).trans (by kernel_rfl)
theorem f5_c7_8a_eq (x1:List AV) (x5:List AV) (x43:AV) (H:Heap) (Q:Post):f5_c7_8a x1 x5 x43 H Q =
 cndA x43
 (ob (partA true 0 7 x1) fun r29 =>
 ob (partA true 0 7 x5) fun r30 =>
 E 29 [r29,r30] H fun r31 H32 =>
 f5_c7_13a x1 x5 r31 H32 Q)
 (f5_c7_13b x1 x5 H Q) :=
 (AtJ_eq Pg Hs 5 [1,1,1,1,1,0,8] Q _ H).trans (by kernel_rfl)
theorem f5_c7_13a_eq (x1:List AV) (x5:List AV) (x48:AV) (H:Heap) (Q:Post):f5_c7_13a x1 x5 x48 H Q =
 cndA x48
 (E 18 [] H fun r33 H34 =>
 f5_c7_16a x1 x5 r33 H34 Q)
 (f5_c7_16b x1 x5 H Q) :=
 (AtJ_eq Pg Hs 5 [1,1,1,1,1,0,13] Q _ H).trans (by kernel_rfl)
theorem f5_c7_16a_eq (x1:List AV) (x5:List AV) (x51:AV) (H:Heap) (Q:Post):f5_c7_16a x1 x5 x51 H Q =
 f5_j24 x51 H Q :=
 (AtJ_eq Pg Hs 5 [1,1,1,1,1,0,16] Q _ H).trans (by kernel_rfl)
theorem f5_j24_eq (x2:AV) (H:Heap) (Q:Post):f5_j24 x2 H Q =
 Q x2 H :=
 (AtJ_eq Pg Hs 5 [1,1,1,1,1,1] Q _ H).trans (by kernel_rfl)
theorem f5_eq (a0:AV) (H:Heap) (Q:Post):E 5 [a0] H Q =
 ob (sizedA 7 a0) fun b1 =>
 ob (partA true 0 7 b1) fun r2 =>
 E 24 [r2] H fun r3 H4 =>
 ob (extractA r3 0) fun r5 =>
 ob (extractA r3 1) fun r6 =>
 ob (binA Pg .neq 27 true r6 (I 0)) fun r7 =>
 cndA r7
 (ob (binA Pg .eql 9 true r5 (S ⟨#[]⟩)) fun r8 =>
 cndA r8
 (ob (partA true 0 7 b1) fun r9 =>
 E 28 [r9] H4 fun r10 H11 =>
 ob (binA Pg .eql 27 false r10 r6) fun r12 =>
 cndA r12
 (E 18 [] H11 fun r13 H14 =>
 f5_j10 r13 H14 Q)
 (f5_j10 (B false) H11 Q))
 (f5_j10 (B false) H4 Q))
 (ob (lenSA r5) fun r15 =>
 ob (binA Pg .gtr 3 true r15 (I 8192)) fun r16 =>
 cndA r16
 (E 18 [] H4 fun r17 H18 =>
 Q r17 H18)
 (E 13 [r5] H4 fun r19 H20 =>
 ob (extractA r19 0) fun r21 =>
 ob (extractA r19 1) fun r22 =>
 ob (extractA r19 2) fun r23 =>
 ob (sizedA 7 r21) fun b24 =>
 ob (spliceA 0 b24 [(I 0),(I 0),(I 0),(S ⟨#[]⟩),(S ⟨#[]⟩),(S ⟨#[]⟩),(AV.sl 0 true .full [])]) fun b25 =>
 ob (binA Pg .eql 27 true r23 (I 0)) fun r26 =>
 cndA r26
 (ob (lenSA r5) fun r27 =>
 ob (binA Pg .eql 3 false r22 r27) fun r28 =>
 f5_c7_8a b1 b25 r28 H20 Q)
 (f5_c7_8b b1 b25 H20 Q))) :=
 Ev_eq.trans (by kernel_rfl)
def f6_c3_8a (x3:List AV) (x28:AV) (H:Heap) (Q:Post):Prop:=AtJ Pg Hs 6 [1,1,0,1,0,0,8] Q [(3,.lbox x3),(28,.val x28)] H
def f6_c3_8b (x3:List AV) (H:Heap) (Q:Post):Prop:=AtJ Pg Hs 6 [1,1,0,1,0,0,8] Q [(3,.lbox x3),(28,.val (B false))] H
def f6_j17 (x3:List AV) (x6:AV) (x54:AV) (H:Heap) (Q:Post):Prop:=AtJ Pg Hs 6 [1,1,1,1,0,1] Q [(3,.lbox x3),(6,.val x6),(54,.val x54)] H
def f6_c3_13a (x3:List AV) (x33:AV) (H:Heap) (Q:Post):Prop:=AtJ Pg Hs 6 [1,1,0,1,0,0,13] Q [(3,.lbox x3),(33,.val x33)] H
def f6_c3_13b (x3:List AV) (H:Heap) (Q:Post):Prop:=AtJ Pg Hs 6 [1,1,0,1,0,0,13] Q [(3,.lbox x3),(33,.val (B false))] H
def f6_c11_6a (x3:List AV) (x6:AV) (x8:List AV) (x11:AV) (x75:AV) (H:Heap) (Q:Post):Prop:=AtJ Pg Hs 6 [1,1,1,1,1,1,1,1,0,6] Q [(3,.lbox x3),(6,.val x6),(8,.lbox x8),(11,.val x11),(75,.val x75)] H
def f6_c11_6b (x3:List AV) (x6:AV) (x8:List AV) (x11:AV) (H:Heap) (Q:Post):Prop:=AtJ Pg Hs 6 [1,1,1,1,1,1,1,1,0,6] Q [(3,.lbox x3),(6,.val x6),(8,.lbox x8),(11,.val x11),(75,.val (B false))] H
def f6_c3_16a (x3:List AV) (x36:AV) (H:Heap) (Q:Post):Prop:=AtJ Pg Hs 6 [1,1,0,1,0,0,16] Q [(3,.lbox x3),(36,.val x36)] H
def f6_c3_16b (x3:List AV) (H:Heap) (Q:Post):Prop:=AtJ Pg Hs 6 [1,1,0,1,0,0,16] Q [(3,.lbox x3),(36,.val (B false))] H
def f6_c11_11a (x3:List AV) (x6:AV) (x8:List AV) (x11:AV) (x80:AV) (H:Heap) (Q:Post):Prop:=AtJ Pg Hs 6 [1,1,1,1,1,1,1,1,0,11] Q [(3,.lbox x3),(6,.val x6),(8,.lbox x8),(11,.val x11),(80,.val x80)] H
def f6_c11_11b (x3:List AV) (x6:AV) (x8:List AV) (x11:AV) (H:Heap) (Q:Post):Prop:=AtJ Pg Hs 6 [1,1,1,1,1,1,1,1,0,11] Q [(3,.lbox x3),(6,.val x6),(8,.lbox x8),(11,.val x11),(80,.val (B false))] H
def f6_j10 (x2:AV) (H:Heap) (Q:Post):Prop:=AtJ Pg Hs 6 [1,1,0,1,0,1] Q [(2,.val x2)] H
def f6_c11_16a (x3:List AV) (x8:List AV) (x85:AV) (H:Heap) (Q:Post):Prop:=AtJ Pg Hs 6 [1,1,1,1,1,1,1,1,0,16] Q [(3,.lbox x3),(8,.lbox x8),(85,.val x85)] H
def f6_c11_16b (x3:List AV) (x8:List AV) (H:Heap) (Q:Post):Prop:=AtJ Pg Hs 6 [1,1,1,1,1,1,1,1,0,16] Q [(3,.lbox x3),(8,.lbox x8),(85,.val (B false))] H
def f6_c11_19a (x3:List AV) (x8:List AV) (x88:AV) (H:Heap) (Q:Post):Prop:=AtJ Pg Hs 6 [1,1,1,1,1,1,1,1,0,19] Q [(3,.lbox x3),(8,.lbox x8),(88,.val x88)] H
def f6_c11_19b (x3:List AV) (x8:List AV) (H:Heap) (Q:Post):Prop:=AtJ Pg Hs 6 [1,1,1,1,1,1,1,1,0,19] Q [(3,.lbox x3),(8,.lbox x8),(88,.val (B false))] H
def f6_j36 (x2:AV) (H:Heap) (Q:Post):Prop:=AtJ Pg Hs 6 [1,1,1,1,1,1,1,1,1] Q [(2,.val x2)] H
theorem f6_c3_8a_eq (x3:List AV) (x28:AV) (H:Heap) (Q:Post):f6_c3_8a x3 x28 H Q =
 cndA x28
 (ob (partA true 0 7 x3) fun r24 =>
 ob (bldA [] [(I 0),(I 0),(I 0),(S ⟨#[]⟩),(S ⟨#[]⟩),(S ⟨#[]⟩),(AV.sl 0 true .full [])]) fun r25 =>
 E 29 [r24,r25] H fun r26 H27 =>
 f6_c3_13a x3 r26 H27 Q)
 (f6_c3_13b x3 H Q) :=
 (AtJ_eq Pg Hs 6 [1,1,0,1,0,0,8] Q _ H).trans (by kernel_rfl)
theorem f6_j17_eq (x3:List AV) (x6:AV) (x54:AV) (H:Heap) (Q:Post):f6_j17 x3 x6 x54 H Q =
 cndA x54
 (Q (B false) H)
 (ob (lenSA x6) fun r28 =>
 ob (binA Pg .gtr 3 true r28 (I 8192)) fun r29 =>
 cndA r29
 (E 18 [] H fun r30 H31 =>
 Q r30 H31)
 (E 13 [x6] H fun r32 H33 =>
 ob (extractA r32 0) fun r34 =>
 ob (extractA r32 1) fun r35 =>
 ob (extractA r32 2) fun r36 =>
 ob (sizedA 7 r34) fun b37 =>
 ob (spliceA 0 b37 [(I 0),(I 0),(I 0),(S ⟨#[]⟩),(S ⟨#[]⟩),(S ⟨#[]⟩),(AV.sl 0 true .full [])]) fun b38 =>
 ob (partA true 0 7 b38) fun r39 =>
 E 24 [r39] H33 fun r40 H41 =>
 ob (extractA r40 0) fun r42 =>
 ob (extractA r40 1) fun r43 =>
 ob (binA Pg .eql 27 true r36 (I 0)) fun r44 =>
 cndA r44
 (ob (binA Pg .eql 27 true r43 (I 0)) fun r45 =>
 f6_c11_6a x3 x6 b38 r42 r45 H41 Q)
 (f6_c11_6b x3 x6 b38 r42 H41 Q))) :=
 (AtJ_eq Pg Hs 6 [1,1,1,1,0,1] Q _ H).trans (by kernel_rfl)
theorem f6_c3_13a_eq (x3:List AV) (x33:AV) (H:Heap) (Q:Post):f6_c3_13a x3 x33 H Q =
 cndA x33
 (E 18 [] H fun r46 H47 =>
 f6_c3_16a x3 r46 H47 Q)
 (f6_c3_16b x3 H Q) :=
 (AtJ_eq Pg Hs 6 [1,1,0,1,0,0,13] Q _ H).trans (by kernel_rfl)
theorem f6_c11_6a_eq (x3:List AV) (x6:AV) (x8:List AV) (x11:AV) (x75:AV) (H:Heap) (Q:Post):f6_c11_6a x3 x6 x8 x11 x75 H Q =
 cndA x75
 (ob (partA true 0 7 x3) fun r48 =>
 ob (partA true 0 7 x8) fun r49 =>
 E 29 [r48,r49] H fun r50 H51 =>
 f6_c11_11a x3 x6 x8 x11 r50 H51 Q)
 (f6_c11_11b x3 x6 x8 x11 H Q) :=
 (AtJ_eq Pg Hs 6 [1,1,1,1,1,1,1,1,0,6] Q _ H).trans (by kernel_rfl)
theorem f6_c3_16a_eq (x3:List AV) (x36:AV) (H:Heap) (Q:Post):f6_c3_16a x3 x36 H Q =
 f6_j10 x36 H Q :=
 (AtJ_eq Pg Hs 6 [1,1,0,1,0,0,16] Q _ H).trans (by kernel_rfl)
theorem f6_c11_11a_eq (x3:List AV) (x6:AV) (x8:List AV) (x11:AV) (x80:AV) (H:Heap) (Q:Post):f6_c11_11a x3 x6 x8 x11 x80 H Q =
 cndA x80
 (ob (binA Pg .eql 9 false x11 x6) fun r52 =>
 f6_c11_16a x3 x8 r52 H Q)
 (f6_c11_16b x3 x8 H Q) :=
 (AtJ_eq Pg Hs 6 [1,1,1,1,1,1,1,1,0,11] Q _ H).trans (by kernel_rfl)
theorem f6_j10_eq (x2:AV) (H:Heap) (Q:Post):f6_j10 x2 H Q =
 Q x2 H :=
 (AtJ_eq Pg Hs 6 [1,1,0,1,0,1] Q _ H).trans (by kernel_rfl)
theorem f6_c11_16a_eq (x3:List AV) (x8:List AV) (x85:AV) (H:Heap) (Q:Post):f6_c11_16a x3 x8 x85 H Q =
 cndA x85
 (E 18 [] H fun r53 H54 =>
 f6_c11_19a x3 x8 r53 H54 Q)
 (f6_c11_19b x3 x8 H Q) :=
 (AtJ_eq Pg Hs 6 [1,1,1,1,1,1,1,1,0,16] Q _ H).trans (by kernel_rfl)
theorem f6_c11_19a_eq (x3:List AV) (x8:List AV) (x88:AV) (H:Heap) (Q:Post):f6_c11_19a x3 x8 x88 H Q =
 f6_j36 x88 H Q :=
 (AtJ_eq Pg Hs 6 [1,1,1,1,1,1,1,1,0,19] Q _ H).trans (by kernel_rfl)
theorem f6_j36_eq (x2:AV) (H:Heap) (Q:Post):f6_j36 x2 H Q =
 Q x2 H :=
 (AtJ_eq Pg Hs 6 [1,1,1,1,1,1,1,1,1] Q _ H).trans (by kernel_rfl)
theorem f6_eq (a0:AV) (H:Heap) (Q:Post):E 6 [a0] H Q =
 E 13 [a0] H fun r1 H2 =>
 ob (extractA r1 0) fun r3 =>
 ob (extractA r1 1) fun r4 =>
 ob (extractA r1 2) fun r5 =>
 ob (sizedA 7 r3) fun b6 =>
 ob (spliceA 0 b6 [(I 0),(I 0),(I 0),(S ⟨#[]⟩),(S ⟨#[]⟩),(S ⟨#[]⟩),(AV.sl 0 true .full [])]) fun b7 =>
 ob (binA Pg .neq 27 true r5 (I 0)) fun r8 =>
 cndA r8
 (ob (binA Pg .geq 3 true r4 (I 0)) fun r9 =>
 cndA r9
 (ob (lenSA a0) fun r10 =>
 ob (binA Pg .leq 3 false r4 r10) fun r11 =>
 f6_c3_8a b7 r11 H2 Q)
 (f6_c3_8b b7 H2 Q))
 (ob (partA true 0 7 b7) fun r12 =>
 E 24 [r12] H2 fun r13 H14 =>
 ob (extractA r13 0) fun r15 =>
 ob (extractA r13 1) fun r16 =>
 ob (binA Pg .neq 27 true r16 (I 0)) fun r17 =>
 cndA r17
 (f6_j17 b7 r15 (B true) H14 Q)
 (ob (partA true 0 7 b7) fun r18 =>
 E 28 [r18] H14 fun r19 H20 =>
 ob (binA Pg .neq 27 true r19 (I 0)) fun r21 =>
 cndA r21
 (f6_j17 b7 r15 (B true) H20 Q)
 (ob (lenSA a0) fun r22 =>
 ob (binA Pg .neq 3 false r4 r22) fun r23 =>
 f6_j17 b7 r15 r23 H20 Q))) :=
 Ev_eq.trans (by kernel_rfl)
theorem f13_eq (a0:AV) (H:Heap) (Q:Post):E 13 [a0] H Q =
 E 16 [a0] H fun r1 H2 =>
 ob (extractA r1 0) fun r3 =>
 ob (extractA r1 1) fun r4 =>
 ob (extractA r1 2) fun r5 =>
 ob (binA Pg .neq 27 true r5 (I 0)) fun r6 =>
 cndA r6
 (ob (bldA [] [(I 0),(I 0),(I 0),(S ⟨#[]⟩),(S ⟨#[]⟩),(S ⟨#[]⟩),(AV.sl 0 true .full [])]) fun r7 =>
 ob (sizedA 7 r7) fun b8 =>
 ob (spliceA 0 b8 [(I 0),(I 0),(I 0),(S ⟨#[]⟩),(S ⟨#[]⟩),(S ⟨#[]⟩),(AV.sl 0 true .full [])]) fun b9 =>
 ob (partA true 0 7 b9) fun r10 =>
 Q (AV.tup [r10,r4,r5]) H2)
 (E 19 [r3] H2 fun r11 H12 =>
 ob (extractA r11 0) fun r13 =>
 ob (extractA r11 1) fun r14 =>
 ob (extractA r11 2) fun r15 =>
 ob (sizedA 7 r13) fun b16 =>
 ob (spliceA 0 b16 [(I 0),(I 0),(I 0),(S ⟨#[]⟩),(S ⟨#[]⟩),(S ⟨#[]⟩),(AV.sl 0 true .full [])]) fun b17 =>
 ob (binA Pg .neq 27 true r15 (I 0)) fun r18 =>
 cndA r18
 (ob (bldA [] [(I 0),(I 0),(I 0),(S ⟨#[]⟩),(S ⟨#[]⟩),(S ⟨#[]⟩),(AV.sl 0 true .full [])]) fun r19 =>
 ob (sizedA 7 r19) fun b20 =>
 ob (spliceA 0 b20 [(I 0),(I 0),(I 0),(S ⟨#[]⟩),(S ⟨#[]⟩),(S ⟨#[]⟩),(AV.sl 0 true .full [])]) fun b21 =>
 ob (partA true 0 7 b21) fun r22 =>
 Q (AV.tup [r22,r14,r15]) H12)
 (E 44 [r3] H12 fun r23 H24 =>
 fldK false 0 1 r23 fun r25 =>
 ob (binA Pg .neq 3 true r25 (I 6)) fun r26 =>
 cndA r26
 (ob (bldA [] [(I 0),(I 0),(I 0),(S ⟨#[]⟩),(S ⟨#[]⟩),(S ⟨#[]⟩),(AV.sl 0 true .full [])]) fun r27 =>
 E 21 [r3] H24 fun r28 H29 =>
 ob (sizedA 7 r27) fun b30 =>
 ob (spliceA 0 b30 [(I 0),(I 0),(I 0),(S ⟨#[]⟩),(S ⟨#[]⟩),(S ⟨#[]⟩),(AV.sl 0 true .full [])]) fun b31 =>
 ob (partA true 0 7 b31) fun r32 =>
 Q (AV.tup [r32,r28,(I 4)]) H29)
 (ob (partA true 0 7 b17) fun r33 =>
 ob (lenSA a0) fun r34 =>
 ob (sizedA 7 r33) fun b35 =>
 ob (spliceA 0 b35 [(I 0),(I 0),(I 0),(S ⟨#[]⟩),(S ⟨#[]⟩),(S ⟨#[]⟩),(AV.sl 0 true .full [])]) fun b36 =>
 ob (partA true 0 7 b36) fun r37 =>
 Q (AV.tup [r37,r34,(I 0)]) H24))) :=
 Ev_eq.trans (by kernel_rfl)
theorem f15_eq (a0 a1:AV) (H:Heap) (Q:Post):E 15 [a0,a1] H Q =
 ob (sizedA 7 a0) fun b1 =>
 ob (sizedA 7 a1) fun b2 =>
 ob (partA true 0 7 b1) fun r3 =>
 ob (partA true 0 7 b2) fun r4 =>
 E 46 [r3,r4] H fun r5 H6 =>
 ob (binA Pg .eql 3 true r5 (I 0)) fun r7 =>
 Q r7 H6 :=
 Ev_eq.trans (by kernel_rfl)
theorem f16_eq (a0:AV) (H:Heap) (Q:Post):E 16 [a0] H Q =
 E 47 [a0] H fun r1 H2 =>
 ob (extractA r1 0) fun r3 =>
 ob (extractA r1 1) fun r4 =>
 ob (extractA r1 2) fun r5 =>
 ob (binA Pg .neq 27 true r5 (I 0)) fun r6 =>
 cndA r6
 (Q (AV.tup [(AV.raw (.pointer none)),r4,r5]) H2)
 (ob (bldA [(0,1,r3)] [(AV.sl 0 true .full []),(I 0)]) fun r7 =>
 ob (sizedA 2 r7) fun b8 =>
 newH H2 b8 fun r9 H10 =>
 Q (AV.tup [r9,r4,(I 0)]) H10) :=
 Ev_eq.trans (by kernel_rfl)
def f18_j6 (x0:AV) (H:Heap) (Q:Post):Prop:=AtJ Pg Hs 18 [1,1,1] Q [(0,.val x0)] H
theorem f18_j6_eq (x0:AV) (H:Heap) (Q:Post):f18_j6 x0 H Q =
 Q x0 H :=
 (AtJ_eq Pg Hs 18 [1,1,1] Q _ H).trans (by kernel_rfl)
theorem f18_eq (_u:Unit:=()) (H:Heap) (Q:Post):E 18 [] H Q =
 E 13 [(S ⟨#[97,46,120,32,60,32,49]⟩)] H fun r1 H2 =>
 ob (extractA r1 0) fun r3 =>
 ob (extractA r1 1) fun r4 =>
 ob (extractA r1 2) fun r5 =>
 ob (sizedA 7 r3) fun b6 =>
 ob (spliceA 0 b6 [(I 0),(I 0),(I 0),(S ⟨#[]⟩),(S ⟨#[]⟩),(S ⟨#[]⟩),(AV.sl 0 true .full [])]) fun b7 =>
 ob (binA Pg .eql 27 true r5 (I 0)) fun r8 =>
 cndA r8
 (ob (binA Pg .eql 3 true r4 (I 7)) fun r9 =>
 cndA r9
 (ob (partA false 0 1 b7) fun r10 =>
 ob (binA Pg .eql 3 true r10 (I 11)) fun r11 =>
 f18_j6 r11 H2 Q)
 (f18_j6 (B false) H2 Q))
 (f18_j6 (B false) H2 Q) :=
 Ev_eq.trans (by kernel_rfl)
theorem f19_eq (a0:AV) (H:Heap) (Q:Post):E 19 [a0] H Q =
 E 21 [a0] H fun r1 H2 =>
 ob (bldA [(0,1,a0)] [(AV.raw (.pointer none)),(I 0),(I 0),(I 0)]) fun r3 =>
 ob (sizedA 4 r3) fun b4 =>
 newH H2 b4 fun r5 H6 =>
 E 49 [r5] H6 fun r7 H8 =>
 ob (sizedA 7 r7) fun b9 =>
 ob (spliceA 0 b9 [(I 0),(I 0),(I 0),(S ⟨#[]⟩),(S ⟨#[]⟩),(S ⟨#[]⟩),(AV.sl 0 true .full [])]) fun b10 =>
 ob (nilA r5) fun r11 =>
 ob (addPA r11 2) fun r12 =>
 ob (ldH H8 false 1 r12) fun r13 =>
 ob (binA Pg .neq 27 true r13 (I 0)) fun r14 =>
 cndA r14
 (ob (bldA [] [(I 0),(I 0),(I 0),(S ⟨#[]⟩),(S ⟨#[]⟩),(S ⟨#[]⟩),(AV.sl 0 true .full [])]) fun r15 =>
 ob (nilA r5) fun r16 =>
 ob (addPA r16 3) fun r17 =>
 apL r17 []
 (ob (ldH H8 false 1 r17) fun r18 =>
 ob (nilA r5) fun r19 =>
 ob (addPA r19 2) fun r20 =>
 apL r20 []
 (ob (ldH H8 false 1 r20) fun r21 =>
 ob (sizedA 7 r15) fun b22 =>
 ob (spliceA 0 b22 [(I 0),(I 0),(I 0),(S ⟨#[]⟩),(S ⟨#[]⟩),(S ⟨#[]⟩),(AV.sl 0 true .full [])]) fun b23 =>
 ob (partA true 0 7 b23) fun r24 =>
 Q (AV.tup [r24,r18,r21]) H8)))
 (ob (partA true 0 7 b10) fun r25 =>
 E 28 [r25] H8 fun r26 H27 =>
 ob (binA Pg .neq 27 true r26 (I 0)) fun r28 =>
 cndA r28
 (ob (bldA [] [(I 0),(I 0),(I 0),(S ⟨#[]⟩),(S ⟨#[]⟩),(S ⟨#[]⟩),(AV.sl 0 true .full [])]) fun r29 =>
 ob (sizedA 7 r29) fun b30 =>
 ob (spliceA 0 b30 [(I 0),(I 0),(I 0),(S ⟨#[]⟩),(S ⟨#[]⟩),(S ⟨#[]⟩),(AV.sl 0 true .full [])]) fun b31 =>
 ob (partA true 0 7 b31) fun r32 =>
 Q (AV.tup [r32,r1,(I 2)]) H27)
 (ob (partA true 0 7 b10) fun r33 =>
 E 21 [a0] H27 fun r34 H35 =>
 ob (sizedA 7 r33) fun b36 =>
 ob (spliceA 0 b36 [(I 0),(I 0),(I 0),(S ⟨#[]⟩),(S ⟨#[]⟩),(S ⟨#[]⟩),(AV.sl 0 true .full [])]) fun b37 =>
 ob (partA true 0 7 b37) fun r38 =>
 Q (AV.tup [r38,r34,(I 0)]) H35)) :=
 Ev_eq.trans (by kernel_rfl)
theorem f21_eq (a0:AV) (H:Heap) (Q:Post):E 21 [a0] H Q =
 E 44 [a0] H fun r1 H2 =>
 fldK false 2 1 r1 fun r3 =>
 Q r3 H2 :=
 Ev_eq.trans (by kernel_rfl)
def f23_l8 (x1:List AV) (x3:AV) (x4:AV) (H:Heap) (Q:Post):Prop:=AtF Pg Hs 23 [1,1,0,1,0] Q [(1,.lbox x1),(3,.val x3),(4,.val x4)] H
theorem f23_l8_eq (x1:List AV) (x3:AV) (x4:AV) (H:Heap) (Q:Post):f23_l8 x1 x3 x4 H Q =
 ob (partA false 6 1 x1) fun r2 =>
 ob (lenA r2) fun r3 =>
 ob (binA Pg .lss 3 false x4 r3) fun r4 =>
 cndA r4
 (ob (partA false 6 1 x1) fun r5 =>
 ob (ixaA 7 r5 x4) fun c6 =>
 ob (partA true 0 7 c6) fun r7 =>
 E 23 [r7] H fun r8 H9 =>
 ob (binA Pg .add 3 false x3 r8) fun r10 =>
 ob (binA Pg .add 3 true x4 (I 1)) fun r11 =>
 f23_l8 x1 r10 r11 H9 Q)
 (Q x3 H) :=
 (AtF_eq Pg Hs 23 [1,1,0,1,0] Q _ H).trans (by kernel_rfl)
theorem f23_eq (a0:AV) (H:Heap) (Q:Post):E 23 [a0] H Q =
 ob (sizedA 7 a0) fun b1 =>
 f23_l8 b1 (I 1) (I 0) H Q :=
 Ev_eq.trans (by kernel_rfl)
theorem f24_eq (a0:AV) (H:Heap) (Q:Post):E 24 [a0] H Q =
 ob (sizedA 7 a0) fun b1 =>
 ob (partA true 0 7 b1) fun r2 =>
 E 28 [r2] H fun r3 H4 =>
 ob (binA Pg .neq 27 true r3 (I 0)) fun r5 =>
 cndA r5
 (Q (AV.tup [(S ⟨#[]⟩),r3]) H4)
 (ob (bldA [] [(AV.raw (.pointer none)),(AV.sl 0 true .full [])]) fun r6 =>
 ob (sizedA 2 r6) fun b7 =>
 newT H4 95 b7 fun r8 H9 =>
 ob (partA true 0 7 b1) fun r10 =>
 E 52 [r8,r10,(I 0)] H9 fun r11 H12 =>
 ob (nilA r8) fun r13 =>
 ob (addPA r13 0) fun r14 =>
 E 53 [r14] H12 fun r15 H16 =>
 Q (AV.tup [r15,(I 0)]) H16) :=
 Ev_eq.trans (by kernel_rfl)
theorem f25_eq (a0:AV) (H:Heap) (Q:Post):E 25 [a0] H Q =
 ob (sizedA 7 a0) fun b1 =>
 ob (partA true 0 7 b1) fun r2 =>
 E 51 [r2] H fun r3 H4 =>
 ob (binA Pg .neq 3 true r3 (I 0)) fun r5 =>
 cndA r5
 (Q (AV.tup [(S ⟨#[]⟩),r3]) H4)
 (ob (partA true 0 7 b1) fun r6 =>
 E 54 [r6,(I 1)] H4 fun r7 H8 =>
 Q (AV.tup [r7,(I 0)]) H8) :=
 Ev_eq.trans (by kernel_rfl)
def f26_l14 (x0:AV) (x11:AV) (x12:AV) (x13:AV) (H:Heap) (Q:Post):Prop:=AtF Pg Hs 26 [1,1,0,1,0] Q [(0,.val x0),(11,.val x11),(12,.val x12),(13,.val x13)] H
theorem f26_l14_eq (x0:AV) (x11:AV) (x12:AV) (x13:AV) (H:Heap) (Q:Post):f26_l14 x0 x11 x12 x13 H Q =
 ob (binA Pg .lss 3 false x13 x12) fun r4 =>
 cndA r4
 (ob (ixaA 7 x11 x13) fun c5 =>
 ob (partA true 0 7 c5) fun r6 =>
 ob (sizedA 7 r6) fun b7 =>
 ob (spliceA 0 b7 [(I 0),(I 0),(I 0),(S ⟨#[]⟩),(S ⟨#[]⟩),(S ⟨#[]⟩),(AV.sl 0 true .full [])]) fun b8 =>
 ob (partA true 0 7 b8) fun r9 =>
 E 28 [r9] H fun r10 H11 =>
 ob (binA Pg .neq 27 true r10 (I 0)) fun r12 =>
 cndA r12
 (Q (AV.tup [(S ⟨#[]⟩),r10]) H11)
 (ob (binA Pg .add 3 true x13 (I 1)) fun r13 =>
 f26_l14 x0 x11 x12 r13 H11 Q))
 (ob (bldA [] [(AV.raw (.pointer none)),(AV.sl 0 true .full [])]) fun r14 =>
 ob (sizedA 2 r14) fun b15 =>
 newT H 95 b15 fun r16 H17 =>
 E 55 [r16,x0,(S ⟨#[32,65,78,68,32]⟩),(I 3)] H17 fun r18 H19 =>
 ob (nilA r16) fun r20 =>
 ob (addPA r20 0) fun r21 =>
 E 53 [r21] H19 fun r22 H23 =>
 Q (AV.tup [r22,(I 0)]) H23) :=
 (AtF_eq Pg Hs 26 [1,1,0,1,0] Q _ H).trans (by kernel_rfl)
theorem f26_eq (a0:AV) (H:Heap) (Q:Post):E 26 [a0] H Q =
 ob (lenA a0) fun r1 =>
 ob (binA Pg .eql 3 true r1 (I 0)) fun r2 =>
 cndA r2
 (Q (AV.tup [(S ⟨#[]⟩),(I 1)]) H)
 (ob (lenA a0) fun r3 =>
 f26_l14 a0 a0 r3 (I 0) H Q) :=
 Ev_eq.trans (by kernel_rfl)
noncomputable def f28_L8 (y3:AV) (y4:AV):LoopInfo:=loopF Pg Hs 28 [1,1,0,1,0] 8 [(3,.val y3),(4,.val y4)]
def f28_j14 (x3:AV) (x4:AV) (H:Heap) (Q:Post):Prop:=AtJ Pg Hs 28 [1,1,1] Q [(3,.val x3),(4,.val x4)] H
theorem f28_j14_eq (x3:AV) (x4:AV) (H:Heap) (Q:Post):f28_j14 x3 x4 H Q =
 ob (ldH H false 1 x3) fun r16 =>
 ob (binA Pg .gtr 3 true r16 (I 100)) fun r17 =>
 cndA r17
 (Q (I 2) H)
 (ob (ldH H false 1 x4) fun r18 =>
 ob (unA .not r18) fun r19 =>
 cndA r19
 (Q (I 1) H)
 (Q (I 0) H)) :=
 (AtJ_eq Pg Hs 28 [1,1,1] Q _ H).trans (by kernel_rfl)
theorem f28_y8_eq (y3:AV) (y4:AV) (l:Nat) (a0 a1:AV) (H:Heap) (Q:Post):EY Pg Hs (f28_L8 y3 y4) l [a0,a1] H Q =
 ob (sizedA 7 a1) fun b20 =>
 ob (spliceA 0 b20 [(I 0),(I 0),(I 0),(S ⟨#[]⟩),(S ⟨#[]⟩),(S ⟨#[]⟩),(AV.sl 0 true .full [])]) fun b21 =>
 beginA l H fun H22 =>
 ob (ldH H22 false 1 y3) fun r23 =>
 ob (binA Pg .add 3 true r23 (I 1)) fun r24 =>
 ob (stH H22 1 y3 r24) fun H25 =>
 ob (ldH H25 false 1 y4) fun r26 =>
 cndA r26
 (ob (partA true 0 7 b21) fun r27 =>
 E 58 [r27] H25 fun r28 H29 =>
 ob (stH H29 1 y4 r28) fun H30 =>
 endA l H30 true .ready Q)
 (ob (stH H25 1 y4 (B false)) fun H31 =>
 endA l H31 true .ready Q):=by kernel_rfl
theorem f28_eq (a0:AV) (H:Heap) (Q:Post):E 28 [a0] H Q =
 ob (sizedA 7 a0) fun b1 =>
 newH H [(I 0)] fun r2 H3 =>
 newH H3 [(B false)] fun r4 H5 =>
 ob (stH H5 1 r2 (I 0)) fun H6 =>
 ob (stH H6 1 r4 (B true)) fun H7 =>
 ob (partA true 0 7 b1) fun r8 =>
 E 57 [r8] H7 fun r9 H10 =>
 aroundA none H10∧rngF (Ev Pg Hs) r9 (f28_L8 r2 r4) H10 fun l11 H12 =>
 overA l11 H12 (fun H13 =>
 f28_j14 r2 r4 H13 Q) (fun j H14 =>
 exA j 0 (f28_j14 r2 r4 H14 Q) (False)) (fun H15 =>
 Q (I 0) H15) :=
 Ev_eq.trans (by kernel_rfl)
theorem f29_eq (a0 a1:AV) (H:Heap) (Q:Post):E 29 [a0,a1] H Q =
 ob (sizedA 7 a0) fun b1 =>
 ob (sizedA 7 a1) fun b2 =>
 ob (partA true 0 7 b1) fun r3 =>
 ob (partA true 0 7 b2) fun r4 =>
 E 59 [r3,r4] H fun r5 H6 =>
 ob (binA Pg .eql 3 true r5 (I 0)) fun r7 =>
 Q r7 H6 :=
 Ev_eq.trans (by kernel_rfl)
theorem f44_eq (a0:AV) (H:Heap) (Q:Post):E 44 [a0] H Q =
 E 100 [a0] H fun r1 H2 =>
 cndA r1
 (ob (bldA [(0,1,(I 6))] [(I 0),(S ⟨#[]⟩),(I 0)]) fun r3 =>
 ob (sizedA 3 r3) fun b4 =>
 ob (spliceA 0 b4 [(I 0),(S ⟨#[]⟩),(I 0)]) fun b5 =>
 ob (partA true 0 3 b5) fun r6 =>
 Q r6 H2)
 (ob (nilA a0) fun r7 =>
 ob (addPA r7 0) fun r8 =>
 ob (ldH H2 false 1 r8) fun r9 =>
 ob (nilA a0) fun r10 =>
 ob (addPA r10 1) fun r11 =>
 ob (ldH H2 false 1 r11) fun r12 =>
 ob (ixaA 3 r9 r12) fun c13 =>
 ob (partA true 0 3 c13) fun r14 =>
 ob (sizedA 3 r14) fun b15 =>
 ob (spliceA 0 b15 [(I 0),(S ⟨#[]⟩),(I 0)]) fun b16 =>
 ob (partA true 0 3 b16) fun r17 =>
 Q r17 H2) :=
 Ev_eq.trans (by kernel_rfl)
def f46_l8 (x2:List AV) (x3:List AV) (x5:AV) (x6:AV) (H:Heap) (Q:Post):Prop:=AtF Pg Hs 46 [1,1,0,1,0] Q [(2,.lbox x2),(3,.lbox x3),(5,.val x5),(6,.val x6)] H
def f46_l29 (x2:List AV) (x3:List AV) (x7:AV) (H:Heap) (Q:Post):Prop:=AtF Pg Hs 46 [1,1,1,0,1,0] Q [(2,.lbox x2),(3,.lbox x3),(7,.val x7)] H
def f46_j33 (x2:List AV) (x3:List AV) (x7:AV) (x63:AV) (H:Heap) (Q:Post):Prop:=AtJ Pg Hs 46 [1,1,1,0,1,0,0,0,1] Q [(2,.lbox x2),(3,.lbox x3),(7,.val x7),(63,.val x63)] H
theorem f46_l8_eq (x2:List AV) (x3:List AV) (x5:AV) (x6:AV) (H:Heap) (Q:Post):f46_l8 x2 x3 x5 x6 H Q =
 ob (lenA x5) fun r26 =>
 ob (binA Pg .lss 3 false x6 r26) fun r27 =>
 cndA r27
 (ob (ixaA 1 x5 x6) fun c28 =>
 ob (partA false 0 1 c28) fun r29 =>
 ob (binA Pg .neq 3 true r29 (I 0)) fun r30 =>
 cndA r30
 (ob (ixaA 1 x5 x6) fun c31 =>
 ob (partA false 0 1 c31) fun r32 =>
 Q r32 H)
 (ob (binA Pg .add 3 true x6 (I 1)) fun r33 =>
 f46_l8 x2 x3 x5 r33 H Q))
 (f46_l29 x2 x3 (I 0) H Q) :=
 (AtF_eq Pg Hs 46 [1,1,0,1,0] Q _ H).trans (by kernel_rfl)
theorem f46_l29_eq (x2:List AV) (x3:List AV) (x7:AV) (H:Heap) (Q:Post):f46_l29 x2 x3 x7 H Q =
 ob (partA false 6 1 x2) fun r34 =>
 ob (lenA r34) fun r35 =>
 ob (binA Pg .lss 3 false x7 r35) fun r36 =>
 cndA r36
 (ob (partA false 6 1 x3) fun r37 =>
 ob (lenA r37) fun r38 =>
 ob (binA Pg .lss 3 false x7 r38) fun r39 =>
 f46_j33 x2 x3 x7 r39 H Q)
 (f46_j33 x2 x3 x7 (B false) H Q) :=
 (AtF_eq Pg Hs 46 [1,1,1,0,1,0] Q _ H).trans (by kernel_rfl)
theorem f46_j33_eq (x2:List AV) (x3:List AV) (x7:AV) (x63:AV) (H:Heap) (Q:Post):f46_j33 x2 x3 x7 x63 H Q =
 cndA x63
 (ob (partA false 6 1 x2) fun r40 =>
 ob (ixaA 7 r40 x7) fun c41 =>
 ob (partA true 0 7 c41) fun r42 =>
 ob (partA false 6 1 x3) fun r43 =>
 ob (ixaA 7 r43 x7) fun c44 =>
 ob (partA true 0 7 c44) fun r45 =>
 E 46 [r42,r45] H fun r46 H47 =>
 ob (binA Pg .neq 3 true r46 (I 0)) fun r48 =>
 cndA r48
 (Q r46 H47)
 (ob (binA Pg .add 3 true x7 (I 1)) fun r49 =>
 f46_l29 x2 x3 r49 H47 Q))
 (Q (I 0) H) :=
 (AtJ_eq Pg Hs 46 [1,1,1,0,1,0,0,0,1] Q _ H).trans (by kernel_rfl)
theorem f46_eq (a0 a1:AV) (H:Heap) (Q:Post):E 46 [a0,a1] H Q =
 ob (sizedA 7 a0) fun b1 =>
 ob (sizedA 7 a1) fun b2 =>
 ob (partA false 0 1 b1) fun r3 =>
 ob (partA false 0 1 b2) fun r4 =>
 ob (partA true 1 3 b1) fun r5 =>
 ob (partA true 1 3 b2) fun r6 =>
 ob (partA false 4 1 b1) fun r7 =>
 ob (partA false 4 1 b2) fun r8 =>
 ob (partA false 5 1 b1) fun r9 =>
 ob (partA false 5 1 b2) fun r10 =>
 ob (partA false 6 1 b1) fun r11 =>
 ob (lenA r11) fun r12 =>
 ob (partA false 6 1 b2) fun r13 =>
 ob (lenA r13) fun r14 =>
 E 101 [r3,r4] H fun r15 H16 =>
 E 102 [r5,r6] H16 fun r17 H18 =>
 E 103 [r7,r8] H18 fun r19 H20 =>
 E 103 [r9,r10] H20 fun r21 H22 =>
 E 101 [r12,r14] H22 fun r23 H24 =>
 ob (mkSlA 1 [r15,r17,r19,r21,r23]) fun r25 =>
 f46_l8 b1 b2 r25 (I 0) H24 Q :=
 Ev_eq.trans (by kernel_rfl)
def f47_l18 (x0:AV) (x5:AV) (x6:AV) (H:Heap) (Q:Post):Prop:=AtF Pg Hs 47 [1,1,1,1,0,1,0] Q [(0,.val x0),(5,.val x5),(6,.val x6)] H
theorem f47_l18_eq (x0:AV) (x5:AV) (x6:AV) (H:Heap) (Q:Post):f47_l18 x0 x5 x6 H Q =
 ob (nilA x5) fun r9 =>
 ob (addPA r9 1) fun r10 =>
 ob (ldH H false 1 r10) fun r11 =>
 ob (lenSA x0) fun r12 =>
 ob (binA Pg .lss 3 false r11 r12) fun r13 =>
 cndA r13
 (E 105 [x5] H fun r14 H15 =>
 ob (extractA r14 0) fun r16 =>
 ob (extractA r14 1) fun r17 =>
 ob (extractA r14 2) fun r18 =>
 ob (sizedA 3 r16) fun b19 =>
 ob (spliceA 0 b19 [(I 0),(S ⟨#[]⟩),(I 0)]) fun b20 =>
 ob (binA Pg .neq 27 true r18 (I 0)) fun r21 =>
 cndA r21
 (Q (AV.tup [(AV.sl 0 true .full []),r17,r18]) H15)
 (ob (partA true 0 3 b20) fun r22 =>
 ob (mkSlA 3 [r22]) fun r23 =>
 appA 3 32 x6 r23 H15 fun r24 H25 =>
 E 104 [x5] H25 fun r26 H27 =>
 f47_l18 x0 x5 r24 H27 Q))
 (ob (lenSA x0) fun r28 =>
 ob (bldA [(0,1,(I 6)),(2,1,r28)] [(I 0),(S ⟨#[]⟩),(I 0)]) fun r29 =>
 ob (mkSlA 3 [r29]) fun r30 =>
 appA 3 32 x6 r30 H fun r31 H32 =>
 ob (lenSA x0) fun r33 =>
 Q (AV.tup [r31,r33,(I 0)]) H32) :=
 (AtF_eq Pg Hs 47 [1,1,1,1,0,1,0] Q _ H).trans (by kernel_rfl)
theorem f47_eq (a0:AV) (H:Heap) (Q:Post):E 47 [a0] H Q =
 ob (lenSA a0) fun r1 =>
 ob (binA Pg .gtr 3 true r1 (I 8192)) fun r2 =>
 cndA r2
 (Q (AV.tup [(AV.sl 0 true .full []),(I 0),(I 2)]) H)
 (ob (bldA [(0,1,a0)] [(S ⟨#[]⟩),(I 0)]) fun r3 =>
 ob (sizedA 2 r3) fun b4 =>
 newH H b4 fun r5 H6 =>
 E 104 [r5] H6 fun r7 H8 =>
 f47_l18 a0 r5 (AV.sl 0 true .full []) H8 Q) :=
 Ev_eq.trans (by kernel_rfl)
theorem f49_eq (a0:AV) (H:Heap) (Q:Post):E 49 [a0] H Q =
 E 108 [a0,(I 17),(S ⟨#[79,82]⟩),(AV.fn (.func 109) [a0] [])] H fun r1 H2 =>
 ob (sizedA 7 r1) fun b3 =>
 ob (spliceA 0 b3 [(I 0),(I 0),(I 0),(S ⟨#[]⟩),(S ⟨#[]⟩),(S ⟨#[]⟩),(AV.sl 0 true .full [])]) fun b4 =>
 ob (partA true 0 7 b4) fun r5 =>
 Q r5 H2 :=
 Ev_eq.trans (by kernel_rfl)
theorem f51_eq (a0:AV) (H:Heap) (Q:Post):E 51 [a0] H Q =
 ob (sizedA 7 a0) fun b1 =>
 ob (partA true 0 7 b1) fun r2 =>
 E 23 [r2] H fun r3 H4 =>
 ob (binA Pg .gtr 3 true r3 (I 100)) fun r5 =>
 cndA r5
 (Q (I 2) H4)
 (ob (partA true 0 7 b1) fun r6 =>
 E 111 [r6] H4 fun r7 H8 =>
 ob (unA .not r7) fun r9 =>
 cndA r9
 (Q (I 1) H8)
 (Q (I 0) H8)) :=
 Ev_eq.trans (by kernel_rfl)
theorem f52_eq (a0 a1 a2:AV) (H:Heap) (Q:Post):E 52 [a0,a1,a2] H Q =
 ob (sizedA 7 a1) fun b1 =>
 ob (partA true 0 7 b1) fun r2 =>
 E 112 [r2] H fun r3 H4 =>
 ob (binA Pg .geq 3 false r3 a2) fun r5 =>
 cndA r5
 (ob (partA true 0 7 b1) fun r6 =>
 E 113 [a0,r6] H4 fun r7 H8 =>
 Q (AV.tup []) H8)
 (ob (nilA a0) fun r9 =>
 ob (addPA r9 0) fun r10 =>
 E 114 [r10,(AV.raw (.int .u8 40))] H4 fun r11 H12 =>
 ob (partA true 0 7 b1) fun r13 =>
 E 113 [a0,r13] H12 fun r14 H15 =>
 ob (nilA a0) fun r16 =>
 ob (addPA r16 0) fun r17 =>
 E 114 [r17,(AV.raw (.int .u8 41))] H15 fun r18 H19 =>
 Q (AV.tup []) H19) :=
 Ev_eq.trans (by kernel_rfl)
theorem f53_eq (a0:AV) (H:Heap) (Q:Post):E 53 [a0] H Q =
 ob (nilA a0) fun r1 =>
 ob (addPA r1 1) fun r2 =>
 ob (ldH H false 1 r2) fun r3 =>
 ob (datA r3) fun r4 =>
 ob (nilA a0) fun r5 =>
 ob (addPA r5 1) fun r6 =>
 ob (ldH H false 1 r6) fun r7 =>
 ob (lenA r7) fun r8 =>
 strA Pg 161 r4 r8 H fun r9 H10 =>
 Q r9 H10 :=
 Ev_eq.trans (by kernel_rfl)
def f54_j45 (x1:AV) (x5:AV) (x6:AV) (H:Heap) (Q:Post):Prop:=AtJ Pg Hs 54 [1,1,1,1] Q [(1,.val x1),(5,.val x5),(6,.val x6)] H
def f54_j37 (x1:AV) (x6:AV) (x9:List AV) (x99:AV) (H:Heap) (Q:Post):Prop:=AtJ Pg Hs 54 [1,1,1,0,0,1,1,1,1,1,1,1,1,1,1,1,0,1,1] Q [(1,.val x1),(6,.val x6),(9,.lbox x9),(99,.val x99)] H
theorem f54_j45_eq (x1:AV) (x5:AV) (x6:AV) (H:Heap) (Q:Post):f54_j45 x1 x5 x6 H Q =
 ob (binA Pg .lss 3 false x6 x1) fun r85 =>
 cndA r85
 (ob (binA Pg .add 9 true (S ⟨#[40]⟩) x5) fun r86 =>
 ob (binA Pg .add 9 true r86 (S ⟨#[41]⟩)) fun r87 =>
 Q r87 H)
 (Q x5 H) :=
 (AtJ_eq Pg Hs 54 [1,1,1,1] Q _ H).trans (by kernel_rfl)
theorem f54_j37_eq (x1:AV) (x6:AV) (x9:List AV) (x99:AV) (H:Heap) (Q:Post):f54_j37 x1 x6 x9 x99 H Q =
 cndA x99
 (ob (partA true 0 7 x9) fun r88 =>
 E 54 [r88,(I 1)] H fun r89 H90 =>
 ob (binA Pg .add 9 true (S ⟨#[45,40]⟩) r89) fun r91 =>
 ob (binA Pg .add 9 true r91 (S ⟨#[41]⟩)) fun r92 =>
 f54_j45 x1 r92 x6 H90 Q)
 (ob (partA true 0 7 x9) fun r93 =>
 E 54 [r93,(I 7)] H fun r94 H95 =>
 ob (binA Pg .add 9 true (S ⟨#[45]⟩) r94) fun r96 =>
 f54_j45 x1 r96 x6 H95 Q) :=
 (AtJ_eq Pg Hs 54 [1,1,1,0,0,1,1,1,1,1,1,1,1,1,1,1,0,1,1] Q _ H).trans (by kernel_rfl)
theorem f54_eq (a0 a1:AV) (H:Heap) (Q:Post):E 54 [a0,a1] H Q =
 ob (sizedA 7 a0) fun b1 =>
 ob (partA true 0 7 b1) fun r2 =>
 E 115 [r2] H fun r3 H4 =>
 ob (partA false 0 1 b1) fun r5 =>
 ob (binA Pg .eql 3 true r5 (I 1)) fun r6 =>
 cndA r6
 (ob (partA true 1 3 b1) fun r7 =>
 E 116 [r7] H4 fun r8 H9 =>
 ob (extractA r8 0) fun r10 =>
 ob (extractA r8 1) fun r11 =>
 f54_j45 a1 r10 r3 H9 Q)
 (ob (partA false 0 1 b1) fun r12 =>
 ob (binA Pg .eql 3 true r12 (I 2)) fun r13 =>
 cndA r13
 (ob (partA false 4 1 b1) fun r14 =>
 ob (binA Pg .add 9 true r14 (S ⟨#[46]⟩)) fun r15 =>
 ob (partA false 5 1 b1) fun r16 =>
 ob (binA Pg .add 9 false r15 r16) fun r17 =>
 f54_j45 a1 r17 r3 H4 Q)
 (ob (partA false 0 1 b1) fun r18 =>
 ob (binA Pg .eql 3 true r18 (I 17)) fun r19 =>
 cndA r19
 (ob (partA false 6 1 b1) fun r20 =>
 E 56 [r20,(S ⟨#[79,82]⟩),(I 2)] H4 fun r21 H22 =>
 f54_j45 a1 r21 r3 H22 Q)
 (ob (partA false 0 1 b1) fun r23 =>
 ob (binA Pg .eql 3 true r23 (I 16)) fun r24 =>
 cndA r24
 (ob (partA false 6 1 b1) fun r25 =>
 E 56 [r25,(S ⟨#[65,78,68]⟩),(I 3)] H4 fun r26 H27 =>
 f54_j45 a1 r26 r3 H27 Q)
 (ob (partA false 0 1 b1) fun r28 =>
 ob (binA Pg .eql 3 true r28 (I 15)) fun r29 =>
 cndA r29
 (ob (partA false 6 1 b1) fun r30 =>
 ob (ixaA 7 r30 (I 0)) fun c31 =>
 ob (partA true 0 7 c31) fun r32 =>
 E 54 [r32,(I 3)] H4 fun r33 H34 =>
 ob (binA Pg .add 9 true (S ⟨#[78,79,84,32]⟩) r33) fun r35 =>
 f54_j45 a1 r35 r3 H34 Q)
 (ob (partA false 0 1 b1) fun r36 =>
 ob (binA Pg .eql 3 true r36 (I 3)) fun r37 =>
 cndA r37
 (ob (partA false 6 1 b1) fun r38 =>
 ob (ixaA 7 r38 (I 0)) fun c39 =>
 ob (partA true 0 7 c39) fun r40 =>
 ob (sizedA 7 r40) fun b41 =>
 ob (spliceA 0 b41 [(I 0),(I 0),(I 0),(S ⟨#[]⟩),(S ⟨#[]⟩),(S ⟨#[]⟩),(AV.sl 0 true .full [])]) fun b42 =>
 ob (partA false 0 1 b42) fun r43 =>
 ob (binA Pg .eql 3 true r43 (I 1)) fun r44 =>
 cndA r44
 (ob (partA false 1 1 b42) fun r45 =>
 ob (binA Pg .eql 3 true r45 (I 2)) fun r46 =>
 cndA r46
 (ob (partA false 2 1 b42) fun r47 =>
 ob (binA Pg .geq 2 true r47 (I 0)) fun r48 =>
 f54_j37 a1 r3 b42 r48 H4 Q)
 (f54_j37 a1 r3 b42 (B false) H4 Q))
 (f54_j37 a1 r3 b42 (B false) H4 Q))
 (ob (binA Pg .eql 3 true r3 (I 4)) fun r49 =>
 cndA r49
 (ob (partA false 6 1 b1) fun r50 =>
 ob (ixaA 7 r50 (I 0)) fun c51 =>
 ob (partA true 0 7 c51) fun r52 =>
 ob (partA false 0 1 b1) fun r53 =>
 ob (partA false 6 1 b1) fun r54 =>
 ob (ixaA 7 r54 (I 1)) fun c55 =>
 ob (partA true 0 7 c55) fun r56 =>
 E 54 [r52,(I 5)] H4 fun r57 H58 =>
 ob (binA Pg .add 9 true r57 (S ⟨#[32]⟩)) fun r59 =>
 E 117 [r53] H58 fun r60 H61 =>
 ob (binA Pg .add 9 false r59 r60) fun r62 =>
 ob (binA Pg .add 9 true r62 (S ⟨#[32]⟩)) fun r63 =>
 E 54 [r56,(I 5)] H61 fun r64 H65 =>
 ob (binA Pg .add 9 false r63 r64) fun r66 =>
 f54_j45 a1 r66 r3 H65 Q)
 (ob (partA false 6 1 b1) fun r67 =>
 ob (ixaA 7 r67 (I 0)) fun c68 =>
 ob (partA true 0 7 c68) fun r69 =>
 ob (partA false 0 1 b1) fun r70 =>
 ob (partA false 6 1 b1) fun r71 =>
 ob (ixaA 7 r71 (I 1)) fun c72 =>
 ob (partA true 0 7 c72) fun r73 =>
 ob (binA Pg .add 3 true r3 (I 1)) fun r74 =>
 E 54 [r69,r3] H4 fun r75 H76 =>
 ob (binA Pg .add 9 true r75 (S ⟨#[32]⟩)) fun r77 =>
 E 117 [r70] H76 fun r78 H79 =>
 ob (binA Pg .add 9 false r77 r78) fun r80 =>
 ob (binA Pg .add 9 true r80 (S ⟨#[32]⟩)) fun r81 =>
 E 54 [r73,r74] H79 fun r82 H83 =>
 ob (binA Pg .add 9 false r81 r82) fun r84 =>
 f54_j45 a1 r84 r3 H83 Q))))))) :=
 Ev_eq.trans (by kernel_rfl)
def f55_l3 (x0:AV) (x2:AV) (x3:AV) (x10:AV) (x11:AV) (x12:AV) (H:Heap) (Q:Post):Prop:=AtF Pg Hs 55 [1,0] Q [(0,.val x0),(2,.val x2),(3,.val x3),(10,.val x10),(11,.val x11),(12,.val x12)] H
def f55_j20 (x0:AV) (x2:AV) (x3:AV) (x9:List AV) (x10:AV) (x11:AV) (x12:AV) (H:Heap) (Q:Post):Prop:=AtJ Pg Hs 55 [1,0,0,1,1,0,0,1,1] Q [(0,.val x0),(2,.val x2),(3,.val x3),(9,.lbox x9),(10,.val x10),(11,.val x11),(12,.val x12)] H
theorem f55_l3_eq (x0:AV) (x2:AV) (x3:AV) (x10:AV) (x11:AV) (x12:AV) (H:Heap) (Q:Post):f55_l3 x0 x2 x3 x10 x11 x12 H Q =
 ob (binA Pg .lss 3 false x12 x11) fun r2 =>
 cndA r2
 (ob (ixaA 7 x10 x12) fun c3 =>
 ob (partA true 0 7 c3) fun r4 =>
 ob (sizedA 7 r4) fun b5 =>
 ob (spliceA 0 b5 [(I 0),(I 0),(I 0),(S ⟨#[]⟩),(S ⟨#[]⟩),(S ⟨#[]⟩),(AV.sl 0 true .full [])]) fun b6 =>
 ob (binA Pg .gtr 3 true x12 (I 0)) fun r7 =>
 cndA r7
 (ob (nilA x0) fun r8 =>
 ob (addPA r8 0) fun r9 =>
 E 118 [r9,x2] H fun r10 H11 =>
 f55_j20 x0 x2 x3 b6 x10 x11 x12 H11 Q)
 (f55_j20 x0 x2 x3 b6 x10 x11 x12 H Q))
 (Q (AV.tup []) H) :=
 (AtF_eq Pg Hs 55 [1,0] Q _ H).trans (by kernel_rfl)
theorem f55_j20_eq (x0:AV) (x2:AV) (x3:AV) (x9:List AV) (x10:AV) (x11:AV) (x12:AV) (H:Heap) (Q:Post):f55_j20 x0 x2 x3 x9 x10 x11 x12 H Q =
 ob (partA true 0 7 x9) fun r12 =>
 E 52 [x0,r12,x3] H fun r13 H14 =>
 ob (binA Pg .add 3 true x12 (I 1)) fun r15 =>
 f55_l3 x0 x2 x3 x10 x11 r15 H14 Q :=
 (AtJ_eq Pg Hs 55 [1,0,0,1,1,0,0,1,1] Q _ H).trans (by kernel_rfl)
theorem f55_eq (a0 a1 a2 a3:AV) (H:Heap) (Q:Post):E 55 [a0,a1,a2,a3] H Q =
 ob (lenA a1) fun r1 =>
 f55_l3 a0 a2 a3 a1 r1 (I 0) H Q :=
 Ev_eq.trans (by kernel_rfl)
def f56_l8 (x0:AV) (x1:AV) (x2:AV) (x7:AV) (x8:AV) (H:Heap) (Q:Post):Prop:=AtF Pg Hs 56 [1,1,0,1,0] Q [(0,.val x0),(1,.val x1),(2,.val x2),(7,.val x7),(8,.val x8)] H
def f56_j23 (x0:AV) (x1:AV) (x2:AV) (x7:AV) (x8:AV) (H:Heap) (Q:Post):Prop:=AtJ Pg Hs 56 [1,1,0,1,0,0,1,0,0,1] Q [(0,.val x0),(1,.val x1),(2,.val x2),(7,.val x7),(8,.val x8)] H
theorem f56_l8_eq (x0:AV) (x1:AV) (x2:AV) (x7:AV) (x8:AV) (H:Heap) (Q:Post):f56_l8 x0 x1 x2 x7 x8 H Q =
 ob (lenA x0) fun r1 =>
 ob (binA Pg .lss 3 false x8 r1) fun r2 =>
 cndA r2
 (ob (binA Pg .gtr 3 true x8 (I 0)) fun r3 =>
 cndA r3
 (ob (binA Pg .add 9 true x7 (S ⟨#[32]⟩)) fun r4 =>
 ob (binA Pg .add 9 false r4 x1) fun r5 =>
 ob (binA Pg .add 9 true r5 (S ⟨#[32]⟩)) fun r6 =>
 f56_j23 x0 x1 x2 r6 x8 H Q)
 (f56_j23 x0 x1 x2 x7 x8 H Q))
 (Q x7 H) :=
 (AtF_eq Pg Hs 56 [1,1,0,1,0] Q _ H).trans (by kernel_rfl)
theorem f56_j23_eq (x0:AV) (x1:AV) (x2:AV) (x7:AV) (x8:AV) (H:Heap) (Q:Post):f56_j23 x0 x1 x2 x7 x8 H Q =
 ob (ixaA 7 x0 x8) fun c7 =>
 ob (partA true 0 7 c7) fun r8 =>
 E 54 [r8,x2] H fun r9 H10 =>
 ob (binA Pg .add 9 false x7 r9) fun r11 =>
 ob (binA Pg .add 3 true x8 (I 1)) fun r12 =>
 f56_l8 x0 x1 x2 r11 r12 H10 Q :=
 (AtJ_eq Pg Hs 56 [1,1,0,1,0,0,1,0,0,1] Q _ H).trans (by kernel_rfl)
theorem f56_eq (a0 a1 a2:AV) (H:Heap) (Q:Post):E 56 [a0,a1,a2] H Q =
 f56_l8 a0 a1 a2 (S ⟨#[]⟩) (I 0) H Q :=
 Ev_eq.trans (by kernel_rfl)
theorem f57_eq (a0:AV) (H:Heap) (Q:Post):E 57 [a0] H Q =
 ob (sizedA 7 a0) fun b1 =>
 newH H b1 fun r2 H3 =>
 Q (AV.fn (.func 119) [] [r2]) H3 :=
 Ev_eq.trans (by kernel_rfl)
def f58_c3_7a (x1:List AV) (x18:AV) (H:Heap) (Q:Post):Prop:=AtJ Pg Hs 58 [1,1,0,0,1,0,0,7] Q [(1,.lbox x1),(18,.val x18)] H
def f58_c3_7b (x1:List AV) (H:Heap) (Q:Post):Prop:=AtJ Pg Hs 58 [1,1,0,0,1,0,0,7] Q [(1,.lbox x1),(18,.val (B false))] H
def f58_c5_8a (x1:List AV) (x40:AV) (H:Heap) (Q:Post):Prop:=AtJ Pg Hs 58 [1,1,0,0,1,1,1,0,0,8] Q [(1,.lbox x1),(40,.val x40)] H
def f58_c5_8b (x1:List AV) (H:Heap) (Q:Post):Prop:=AtJ Pg Hs 58 [1,1,0,0,1,1,1,0,0,8] Q [(1,.lbox x1),(40,.val (B false))] H
def f58_j30 (x1:List AV) (x3:AV) (x55:AV) (H:Heap) (Q:Post):Prop:=AtJ Pg Hs 58 [1,1,0,0,1,1,1,1,1,1,1] Q [(1,.lbox x1),(3,.val x3),(55,.val x55)] H
def f58_c3_12a (x1:List AV) (x23:AV) (H:Heap) (Q:Post):Prop:=AtJ Pg Hs 58 [1,1,0,0,1,0,0,12] Q [(1,.lbox x1),(23,.val x23)] H
def f58_c3_12b (x1:List AV) (H:Heap) (Q:Post):Prop:=AtJ Pg Hs 58 [1,1,0,0,1,0,0,12] Q [(1,.lbox x1),(23,.val (B false))] H
def f58_c5_13a (x1:List AV) (x45:AV) (H:Heap) (Q:Post):Prop:=AtJ Pg Hs 58 [1,1,0,0,1,1,1,0,0,13] Q [(1,.lbox x1),(45,.val x45)] H
def f58_c5_13b (x1:List AV) (H:Heap) (Q:Post):Prop:=AtJ Pg Hs 58 [1,1,0,0,1,1,1,0,0,13] Q [(1,.lbox x1),(45,.val (B false))] H
def f58_j36 (x1:List AV) (x3:AV) (x64:AV) (H:Heap) (Q:Post):Prop:=AtJ Pg Hs 58 [1,1,0,0,1,1,1,1,1,1,1,1,1] Q [(1,.lbox x1),(3,.val x3),(64,.val x64)] H
def f58_c3_17a (x1:List AV) (x28:AV) (H:Heap) (Q:Post):Prop:=AtJ Pg Hs 58 [1,1,0,0,1,0,0,17] Q [(1,.lbox x1),(28,.val x28)] H
def f58_c3_17b (x1:List AV) (H:Heap) (Q:Post):Prop:=AtJ Pg Hs 58 [1,1,0,0,1,0,0,17] Q [(1,.lbox x1),(28,.val (B false))] H
def f58_c5_18a (x1:List AV) (x50:AV) (H:Heap) (Q:Post):Prop:=AtJ Pg Hs 58 [1,1,0,0,1,1,1,0,0,18] Q [(1,.lbox x1),(50,.val x50)] H
def f58_c5_18b (x1:List AV) (H:Heap) (Q:Post):Prop:=AtJ Pg Hs 58 [1,1,0,0,1,1,1,0,0,18] Q [(1,.lbox x1),(50,.val (B false))] H
def f58_j45 (x2:AV) (H:Heap) (Q:Post):Prop:=AtJ Pg Hs 58 [1,1,1,1,1] Q [(2,.val x2)] H
def f58_j11 (x2:AV) (H:Heap) (Q:Post):Prop:=AtJ Pg Hs 58 [1,1,0,0,1,0,1] Q [(2,.val x2)] H
def f58_j17 (x2:AV) (H:Heap) (Q:Post):Prop:=AtJ Pg Hs 58 [1,1,0,0,1,1,1,0,1] Q [(2,.val x2)] H
theorem f58_c3_7a_eq (x1:List AV) (x18:AV) (H:Heap) (Q:Post):f58_c3_7a x1 x18 H Q =
 cndA x18
 (ob (partA false 4 1 x1) fun r24 =>
 ob (binA Pg .eql 9 true r24 (S ⟨#[]⟩)) fun r25 =>
 f58_c3_12a x1 r25 H Q)
 (f58_c3_12b x1 H Q) :=
 (AtJ_eq Pg Hs 58 [1,1,0,0,1,0,0,7] Q _ H).trans (by kernel_rfl)
theorem f58_c3_7b_eq (x1:List AV) (H:Heap) (Q:Post):f58_c3_7b x1 H Q =
 f58_c3_12b x1 H Q :=
 (AtJ_eq Pg Hs 58 [1,1,0,0,1,0,0,7] Q _ H).trans (by kernel_rfl)
theorem f58_c5_8a_eq (x1:List AV) (x40:AV) (H:Heap) (Q:Post):f58_c5_8a x1 x40 H Q =
 cndA x40
 (ob (partA false 4 1 x1) fun r26 =>
 E 122 [r26] H fun r27 H28 =>
 f58_c5_13a x1 r27 H28 Q)
 (f58_c5_13b x1 H Q) :=
 (AtJ_eq Pg Hs 58 [1,1,0,0,1,1,1,0,0,8] Q _ H).trans (by kernel_rfl)
theorem f58_c5_8b_eq (x1:List AV) (H:Heap) (Q:Post):f58_c5_8b x1 H Q =
 f58_c5_13b x1 H Q :=
 (AtJ_eq Pg Hs 58 [1,1,0,0,1,1,1,0,0,8] Q _ H).trans (by kernel_rfl)
theorem f58_j30_eq (x1:List AV) (x3:AV) (x55:AV) (H:Heap) (Q:Post):f58_j30 x1 x3 x55 H Q =
 cndA x55
 (ob (binA Pg .eql 3 true x3 (I 1)) fun r29 =>
 Q r29 H)
 (ob (partA false 0 1 x1) fun r30 =>
 ob (binA Pg .geq 3 true r30 (I 4)) fun r31 =>
 cndA r31
 (ob (partA false 0 1 x1) fun r32 =>
 ob (binA Pg .leq 3 true r32 (I 14)) fun r33 =>
 f58_j36 x1 x3 r33 H Q)
 (f58_j36 x1 x3 (B false) H Q)) :=
 (AtJ_eq Pg Hs 58 [1,1,0,0,1,1,1,1,1,1,1] Q _ H).trans (by kernel_rfl)
theorem f58_c3_12a_eq (x1:List AV) (x23:AV) (H:Heap) (Q:Post):f58_c3_12a x1 x23 H Q =
 cndA x23
 (ob (partA false 5 1 x1) fun r34 =>
 ob (binA Pg .eql 9 true r34 (S ⟨#[]⟩)) fun r35 =>
 f58_c3_17a x1 r35 H Q)
 (f58_c3_17b x1 H Q) :=
 (AtJ_eq Pg Hs 58 [1,1,0,0,1,0,0,12] Q _ H).trans (by kernel_rfl)
theorem f58_c3_12b_eq (x1:List AV) (H:Heap) (Q:Post):f58_c3_12b x1 H Q =
 f58_c3_17b x1 H Q :=
 (AtJ_eq Pg Hs 58 [1,1,0,0,1,0,0,12] Q _ H).trans (by kernel_rfl)
theorem f58_c5_13a_eq (x1:List AV) (x45:AV) (H:Heap) (Q:Post):f58_c5_13a x1 x45 H Q =
 cndA x45
 (ob (partA false 5 1 x1) fun r36 =>
 E 122 [r36] H fun r37 H38 =>
 f58_c5_18a x1 r37 H38 Q)
 (f58_c5_18b x1 H Q) :=
 (AtJ_eq Pg Hs 58 [1,1,0,0,1,1,1,0,0,13] Q _ H).trans (by kernel_rfl)
theorem f58_c5_13b_eq (x1:List AV) (H:Heap) (Q:Post):f58_c5_13b x1 H Q =
 f58_c5_18b x1 H Q :=
 (AtJ_eq Pg Hs 58 [1,1,0,0,1,1,1,0,0,13] Q _ H).trans (by kernel_rfl)
theorem f58_j36_eq (x1:List AV) (x3:AV) (x64:AV) (H:Heap) (Q:Post):f58_j36 x1 x3 x64 H Q =
 cndA x64
 (ob (binA Pg .eql 3 true x3 (I 2)) fun r39 =>
 Q r39 H)
 (newH H x1 fun r40 H41 =>
 ob (addPA r40 0) fun r42 =>
 ob (ldH H41 false 1 r42) fun r43 =>
 E 125 [r43] H41 fun r44 H45 =>
 cndA r44
 (ob (binA Pg .geq 3 true x3 (I 2)) fun r46 =>
 cndA r46
 (ob (addPA r40 6) fun r47 =>
 ob (ldH H45 false 1 r47) fun r48 =>
 E 126 [r48,(AV.fn (.func 124) [] [r40])] H45 fun r49 H50 =>
 ob (unA .not r49) fun r51 =>
 f58_j45 r51 H50 Q)
 (f58_j45 (B false) H45 Q))
 (f58_j45 (B false) H45 Q)) :=
 (AtJ_eq Pg Hs 58 [1,1,0,0,1,1,1,1,1,1,1,1,1] Q _ H).trans (by kernel_rfl)
theorem f58_c3_17a_eq (x1:List AV) (x28:AV) (H:Heap) (Q:Post):f58_c3_17a x1 x28 H Q =
 f58_j11 x28 H Q :=
 (AtJ_eq Pg Hs 58 [1,1,0,0,1,0,0,17] Q _ H).trans (by kernel_rfl)
theorem f58_c3_17b_eq (x1:List AV) (H:Heap) (Q:Post):f58_c3_17b x1 H Q =
 f58_j11 (B false) H Q :=
 (AtJ_eq Pg Hs 58 [1,1,0,0,1,0,0,17] Q _ H).trans (by kernel_rfl)
theorem f58_c5_18a_eq (x1:List AV) (x50:AV) (H:Heap) (Q:Post):f58_c5_18a x1 x50 H Q =
 f58_j17 x50 H Q :=
 (AtJ_eq Pg Hs 58 [1,1,0,0,1,1,1,0,0,18] Q _ H).trans (by kernel_rfl)
theorem f58_c5_18b_eq (x1:List AV) (H:Heap) (Q:Post):f58_c5_18b x1 H Q =
 f58_j17 (B false) H Q :=
 (AtJ_eq Pg Hs 58 [1,1,0,0,1,1,1,0,0,18] Q _ H).trans (by kernel_rfl)
theorem f58_j45_eq (x2:AV) (H:Heap) (Q:Post):f58_j45 x2 H Q =
 Q x2 H :=
 (AtJ_eq Pg Hs 58 [1,1,1,1,1] Q _ H).trans (by kernel_rfl)
theorem f58_j11_eq (x2:AV) (H:Heap) (Q:Post):f58_j11 x2 H Q =
 Q x2 H :=
 (AtJ_eq Pg Hs 58 [1,1,0,0,1,0,1] Q _ H).trans (by kernel_rfl)
theorem f58_j17_eq (x2:AV) (H:Heap) (Q:Post):f58_j17 x2 H Q =
 Q x2 H :=
 (AtJ_eq Pg Hs 58 [1,1,0,0,1,1,1,0,1] Q _ H).trans (by kernel_rfl)
theorem f58_eq (a0:AV) (H:Heap) (Q:Post):E 58 [a0] H Q =
 ob (sizedA 7 a0) fun b1 =>
 ob (partA false 6 1 b1) fun r2 =>
 ob (lenA r2) fun r3 =>
 ob (partA false 0 1 b1) fun r4 =>
 ob (binA Pg .eql 3 true r4 (I 1)) fun r5 =>
 cndA r5
 (ob (binA Pg .eql 3 true r3 (I 0)) fun r6 =>
 cndA r6
 (ob (partA true 1 3 b1) fun r7 =>
 E 121 [r7] H fun r8 H9 =>
 f58_c3_7a b1 r8 H9 Q)
 (f58_c3_7b b1 H Q))
 (ob (partA false 0 1 b1) fun r10 =>
 ob (binA Pg .eql 3 true r10 (I 2)) fun r11 =>
 cndA r11
 (ob (binA Pg .eql 3 true r3 (I 0)) fun r12 =>
 cndA r12
 (ob (partA true 1 3 b1) fun r13 =>
 ob (bldA [] [(I 0),(I 0),(S ⟨#[]⟩)]) fun r14 =>
 ob (binA Pg .eql 23 false r13 r14) fun r15 =>
 f58_c5_8a b1 r15 H Q)
 (f58_c5_8b b1 H Q))
 (ob (partA true 0 7 b1) fun r16 =>
 E 123 [r16] H fun r17 H18 =>
 ob (unA .not r17) fun r19 =>
 cndA r19
 (Q (B false) H18)
 (ob (partA false 0 1 b1) fun r20 =>
 ob (binA Pg .eql 3 true r20 (I 3)) fun r21 =>
 cndA r21
 (f58_j30 b1 r3 r21 H18 Q)
 (ob (partA false 0 1 b1) fun r22 =>
 ob (binA Pg .eql 3 true r22 (I 15)) fun r23 =>
 f58_j30 b1 r3 r23 H18 Q)))) :=
 Ev_eq.trans (by kernel_rfl)
def f59_l16 (x3:List AV) (x16:AV) (x17:AV) (x18:AV) (H:Heap) (Q:Post):Prop:=AtF Pg Hs 59 [1,1,0,1,0] Q [(3,.lbox x3),(16,.val x16),(17,.val x17),(18,.val x18)] H
theorem f59_l16_eq (x3:List AV) (x16:AV) (x17:AV) (x18:AV) (H:Heap) (Q:Post):f59_l16 x3 x16 x17 x18 H Q =
 ob (binA Pg .lss 3 false x18 x17) fun r10 =>
 cndA r10
 (ob (ixaA 7 x16 x18) fun c11 =>
 ob (partA true 0 7 c11) fun r12 =>
 ob (sizedA 7 r12) fun b13 =>
 ob (spliceA 0 b13 [(I 0),(I 0),(I 0),(S ⟨#[]⟩),(S ⟨#[]⟩),(S ⟨#[]⟩),(AV.sl 0 true .full [])]) fun b14 =>
 ob (partA true 0 7 b14) fun r15 =>
 ob (partA false 6 1 x3) fun r16 =>
 ob (ixaA 7 r16 x18) fun c17 =>
 ob (partA true 0 7 c17) fun r18 =>
 E 59 [r15,r18] H fun r19 H20 =>
 ob (binA Pg .neq 3 true r19 (I 0)) fun r21 =>
 cndA r21
 (Q r19 H20)
 (ob (binA Pg .add 3 true x18 (I 1)) fun r22 =>
 f59_l16 x3 x16 x17 r22 H20 Q))
 (Q (I 0) H) :=
 (AtF_eq Pg Hs 59 [1,1,0,1,0] Q _ H).trans (by kernel_rfl)
theorem f59_eq (a0 a1:AV) (H:Heap) (Q:Post):E 59 [a0,a1] H Q =
 ob (sizedA 7 a0) fun b1 =>
 ob (sizedA 7 a1) fun b2 =>
 ob (partA true 0 7 b1) fun r3 =>
 ob (partA true 0 7 b2) fun r4 =>
 E 127 [r3,r4] H fun r5 H6 =>
 ob (binA Pg .neq 3 true r5 (I 0)) fun r7 =>
 cndA r7
 (Q r5 H6)
 (ob (partA false 6 1 b1) fun r8 =>
 ob (lenA r8) fun r9 =>
 f59_l16 b2 r8 r9 (I 0) H6 Q) :=
 Ev_eq.trans (by kernel_rfl)
def f100_j4 (x2:AV) (H:Heap) (Q:Post):Prop:=AtJ Pg Hs 100 [1,1] Q [(2,.val x2)] H
theorem f100_j4_eq (x2:AV) (H:Heap) (Q:Post):f100_j4 x2 H Q =
 Q x2 H :=
 (AtJ_eq Pg Hs 100 [1,1] Q _ H).trans (by kernel_rfl)
theorem f100_eq (a0:AV) (H:Heap) (Q:Post):E 100 [a0] H Q =
 ob (binA Pg .eql 33 true a0 (AV.raw (.pointer none))) fun r1 =>
 cndA r1
 (f100_j4 (B true) H Q)
 (ob (nilA a0) fun r2 =>
 ob (addPA r2 0) fun r3 =>
 ob (ldH H false 1 r3) fun r4 =>
 ob (lenA r4) fun r5 =>
 ob (binA Pg .eql 3 true r5 (I 0)) fun r6 =>
 f100_j4 r6 H Q) :=
 Ev_eq.trans (by kernel_rfl)
theorem f101_eq (a0 a1:AV) (H:Heap) (Q:Post):E 101 [a0,a1] H Q =
 ob (binA Pg .eql 3 false a0 a1) fun r1 =>
 cndA r1
 (Q (I 0) H)
 (ob (binA Pg .lss 3 false a0 a1) fun r2 =>
 cndA r2
 (Q (I (-1)) H)
 (Q (I 1) H)) :=
 Ev_eq.trans (by kernel_rfl)
def f102_c3_30a (x2:List AV) (x3:List AV) (H:Heap) (Q:Post):Prop:=AtJ Pg Hs 102 [1,1,0,0,30] Q [(2,.lbox x2),(3,.lbox x3),(13,.val (B true)),(19,.nov),(25,.nov),(37,.nov)] H
def f102_c3_30b (x2:List AV) (x3:List AV) (H:Heap) (Q:Post):Prop:=AtJ Pg Hs 102 [1,1,0,0,30] Q [(2,.lbox x2),(3,.lbox x3),(13,.val (B false)),(19,.val (B true)),(25,.val (B true)),(37,.nov)] H
def f102_c3_30c (x2:List AV) (x3:List AV) (x37:AV) (H:Heap) (Q:Post):Prop:=AtJ Pg Hs 102 [1,1,0,0,30] Q [(2,.lbox x2),(3,.lbox x3),(13,.val (B false)),(19,.val (B true)),(25,.val (B false)),(37,.val x37)] H
def f102_c3_30d (x2:List AV) (x3:List AV) (H:Heap) (Q:Post):Prop:=AtJ Pg Hs 102 [1,1,0,0,30] Q [(2,.lbox x2),(3,.lbox x3),(13,.val (B false)),(19,.val (B true)),(25,.val (B false)),(37,.val (B false))] H
def f102_c3_30e (x2:List AV) (x3:List AV) (H:Heap) (Q:Post):Prop:=AtJ Pg Hs 102 [1,1,0,0,30] Q [(2,.lbox x2),(3,.lbox x3),(13,.val (B false)),(19,.val (B false)),(25,.nov),(37,.nov)] H
theorem f102_eq (a0 a1:AV) (H:Heap) (Q:Post):E 102 [a0,a1] H Q =
 ob (sizedA 3 a0) fun b1 =>
 ob (sizedA 3 a1) fun b2 =>
 ob (partA true 0 3 b1) fun r3 =>
 ob (partA true 0 3 b2) fun r4 =>
 ob (binA Pg .eql 23 false r3 r4) fun r5 =>
 cndA r5
 (Q (I 0) H)
 (ob (partA false 0 1 b1) fun r6 =>
 ob (partA false 0 1 b2) fun r7 =>
 ob (binA Pg .lss 3 false r6 r7) fun r8 =>
 cndA r8
 (f102_c3_30a b1 b2 H Q)
 (ob (partA false 0 1 b1) fun r9 =>
 ob (partA false 0 1 b2) fun r10 =>
 ob (binA Pg .eql 3 false r9 r10) fun r11 =>
 cndA r11
 (ob (partA false 1 1 b1) fun r12 =>
 ob (partA false 1 1 b2) fun r13 =>
 ob (binA Pg .lss 2 false r12 r13) fun r14 =>
 cndA r14
 (f102_c3_30b b1 b2 H Q)
 (ob (partA false 1 1 b1) fun r15 =>
 ob (partA false 1 1 b2) fun r16 =>
 ob (binA Pg .eql 2 false r15 r16) fun r17 =>
 cndA r17
 (ob (partA false 2 1 b1) fun r18 =>
 ob (partA false 2 1 b2) fun r19 =>
 ob (binA Pg .lss 9 false r18 r19) fun r20 =>
 f102_c3_30c b1 b2 r20 H Q)
 (f102_c3_30d b1 b2 H Q)))
 (f102_c3_30e b1 b2 H Q))) :=
 Ev_eq.trans (by kernel_rfl)
theorem f103_eq (a0 a1:AV) (H:Heap) (Q:Post):E 103 [a0,a1] H Q =
 ob (binA Pg .eql 9 false a0 a1) fun r1 =>
 cndA r1
 (Q (I 0) H)
 (ob (binA Pg .lss 9 false a0 a1) fun r2 =>
 cndA r2
 (Q (I (-1)) H)
 (Q (I 1) H)) :=
 Ev_eq.trans (by kernel_rfl)
def f104_l1 (x0:AV) (H:Heap) (Q:Post):Prop:=AtF Pg Hs 104 [0] Q [(0,.val x0)] H
def f104_j5 (x0:AV) (x23:AV) (H:Heap) (Q:Post):Prop:=AtJ Pg Hs 104 [0,0,0,1] Q [(0,.val x0),(23,.val x23)] H
theorem f104_l1_eq (x0:AV) (H:Heap) (Q:Post):f104_l1 x0 H Q =
 ob (nilA x0) fun r1 =>
 ob (addPA r1 1) fun r2 =>
 ob (ldH H false 1 r2) fun r3 =>
 ob (nilA x0) fun r4 =>
 ob (addPA r4 0) fun r5 =>
 ob (ldH H false 1 r5) fun r6 =>
 ob (lenSA r6) fun r7 =>
 ob (binA Pg .lss 3 false r3 r7) fun r8 =>
 cndA r8
 (ob (nilA x0) fun r9 =>
 ob (addPA r9 0) fun r10 =>
 ob (ldH H false 1 r10) fun r11 =>
 ob (nilA x0) fun r12 =>
 ob (addPA r12 1) fun r13 =>
 ob (ldH H false 1 r13) fun r14 =>
 ob (ixA r11 r14) fun r15 =>
 E 173 [r15] H fun r16 H17 =>
 f104_j5 x0 r16 H17 Q)
 (f104_j5 x0 (B false) H Q) :=
 (AtF_eq Pg Hs 104 [0] Q _ H).trans (by kernel_rfl)
theorem f104_j5_eq (x0:AV) (x23:AV) (H:Heap) (Q:Post):f104_j5 x0 x23 H Q =
 cndA x23
 (ob (nilA x0) fun r18 =>
 ob (addPA r18 1) fun r19 =>
 ob (ldH H false 1 r19) fun r20 =>
 ob (binA Pg .add 3 true r20 (I 1)) fun r21 =>
 ob (nilA x0) fun r22 =>
 ob (addPA r22 1) fun r23 =>
 ob (stH H 1 r23 r21) fun H24 =>
 f104_l1 x0 H24 Q)
 (Q (AV.tup []) H) :=
 (AtJ_eq Pg Hs 104 [0,0,0,1] Q _ H).trans (by kernel_rfl)
theorem f104_eq (a0:AV) (H:Heap) (Q:Post):E 104 [a0] H Q =
 f104_l1 a0 H Q :=
 Ev_eq.trans (by kernel_rfl)
def f105_j27 (x0:AV) (x2:List AV) (x5:AV) (H:Heap) (Q:Post):Prop:=AtJ Pg Hs 105 [1,1,1] Q [(0,.val x0),(2,.lbox x2),(5,.val x5)] H
def f105_j55 (x0:AV) (x2:List AV) (x5:AV) (x7:AV) (x8:List AV) (x44:AV) (H:Heap) (Q:Post):Prop:=AtJ Pg Hs 105 [1,1,1,1,1,1,0,1,0,0,0,0,0,0,0,1,1] Q [(0,.val x0),(2,.lbox x2),(5,.val x5),(7,.val x7),(8,.lbox x8),(44,.val x44)] H
theorem f105_j27_eq (x0:AV) (x2:List AV) (x5:AV) (H:Heap) (Q:Post):f105_j27 x0 x2 x5 H Q =
 ob (nilA x0) fun r25 =>
 ob (addPA r25 1) fun r26 =>
 ob (ldH H false 1 r26) fun r27 =>
 ob (binA Pg .eql 3 true x5 (I 1)) fun r28 =>
 cndA r28
 (E 178 [x0,x5] H fun r29 H30 =>
 ob (extractA r29 0) fun r31 =>
 ob (extractA r29 1) fun r32 =>
 ob (sizedA 3 r31) fun b33 =>
 ob (spliceA 0 b33 [(I 0),(S ⟨#[]⟩),(I 0)]) fun b34 =>
 ob (unA .not r32) fun r35 =>
 cndA r35
 (ob (bldA [] [(I 0),(S ⟨#[]⟩),(I 0)]) fun r36 =>
 ob (sizedA 3 r36) fun b37 =>
 ob (spliceA 0 b37 x2) fun b38 =>
 ob (partA true 0 3 b38) fun r39 =>
 Q (AV.tup [r39,r27,(I 4)]) H30)
 (ob (partA true 0 3 b34) fun r40 =>
 ob (nilA x0) fun r41 =>
 ob (addPA r41 1) fun r42 =>
 apL r42 []
 (ob (ldH H30 false 1 r42) fun r43 =>
 ob (sizedA 3 r40) fun b44 =>
 ob (spliceA 0 b44 x2) fun b45 =>
 ob (partA true 0 3 b45) fun r46 =>
 Q (AV.tup [r46,r43,(I 0)]) H30)))
 (ob (binA Pg .eql 3 true x5 (I 2)) fun r47 =>
 cndA r47
 (f105_j55 x0 x2 x5 r27 [(I 0),(S ⟨#[]⟩),(I 0)] r47 H Q)
 (ob (binA Pg .eql 3 true x5 (I 3)) fun r48 =>
 f105_j55 x0 x2 x5 r27 [(I 0),(S ⟨#[]⟩),(I 0)] r48 H Q)) :=
 (AtJ_eq Pg Hs 105 [1,1,1] Q _ H).trans (by kernel_rfl)
theorem f105_j55_eq (x0:AV) (x2:List AV) (x5:AV) (x7:AV) (x8:List AV) (x44:AV) (H:Heap) (Q:Post):f105_j55 x0 x2 x5 x7 x8 x44 H Q =
 cndA x44
 (E 178 [x0,x5] H fun r49 H50 =>
 ob (extractA r49 0) fun r51 =>
 ob (extractA r49 1) fun r52 =>
 ob (sizedA 3 r51) fun b53 =>
 ob (spliceA 0 b53 x8) fun b54 =>
 ob (unA .not r52) fun r55 =>
 cndA r55
 (ob (bldA [] [(I 0),(S ⟨#[]⟩),(I 0)]) fun r56 =>
 ob (sizedA 3 r56) fun b57 =>
 ob (spliceA 0 b57 x2) fun b58 =>
 ob (partA true 0 3 b58) fun r59 =>
 Q (AV.tup [r59,x7,(I 4)]) H50)
 (ob (partA true 0 3 b54) fun r60 =>
 ob (nilA x0) fun r61 =>
 ob (addPA r61 1) fun r62 =>
 apL r62 []
 (ob (ldH H50 false 1 r62) fun r63 =>
 ob (sizedA 3 r60) fun b64 =>
 ob (spliceA 0 b64 x2) fun b65 =>
 ob (partA true 0 3 b65) fun r66 =>
 Q (AV.tup [r66,r63,(I 0)]) H50)))
 (E 179 [x0] H fun r67 H68 =>
 ob (extractA r67 0) fun r69 =>
 ob (extractA r67 1) fun r70 =>
 ob (sizedA 3 r69) fun b71 =>
 ob (spliceA 0 b71 x8) fun b72 =>
 ob (unA .not r70) fun r73 =>
 cndA r73
 (ob (bldA [] [(I 0),(S ⟨#[]⟩),(I 0)]) fun r74 =>
 ob (sizedA 3 r74) fun b75 =>
 ob (spliceA 0 b75 x2) fun b76 =>
 ob (partA true 0 3 b76) fun r77 =>
 Q (AV.tup [r77,x7,(I 4)]) H68)
 (ob (partA true 0 3 b72) fun r78 =>
 ob (nilA x0) fun r79 =>
 ob (addPA r79 1) fun r80 =>
 apL r80 []
 (ob (ldH H68 false 1 r80) fun r81 =>
 ob (sizedA 3 r78) fun b82 =>
 ob (spliceA 0 b82 x2) fun b83 =>
 ob (partA true 0 3 b83) fun r84 =>
 Q (AV.tup [r84,r81,(I 0)]) H68))) :=
 (AtJ_eq Pg Hs 105 [1,1,1,1,1,1,0,1,0,0,0,0,0,0,0,1,1] Q _ H).trans (by kernel_rfl)
theorem f105_eq (a0:AV) (H:Heap) (Q:Post):E 105 [a0] H Q =
 ob (nilA a0) fun r1 =>
 ob (addPA r1 0) fun r2 =>
 ob (ldH H false 1 r2) fun r3 =>
 ob (nilA a0) fun r4 =>
 ob (addPA r4 1) fun r5 =>
 ob (ldH H false 1 r5) fun r6 =>
 ob (ixA r3 r6) fun r7 =>
 ob (cvtIA .i32 r7) fun r9 =>
 ob (binA Pg .eql 21 true r9 (AV.raw (.int .i32 39))) fun r10 =>
 cndA r10
 (E 174 [a0] H fun r11 H12 =>
 ob (extractA r11 0) fun r13 =>
 ob (extractA r11 1) fun r14 =>
 ob (extractA r11 2) fun r15 =>
 ob (sizedA 3 r13) fun b16 =>
 ob (spliceA 0 b16 [(I 0),(S ⟨#[]⟩),(I 0)]) fun b17 =>
 ob (partA true 0 3 b17) fun r18 =>
 Q (AV.tup [r18,r14,r15]) H12)
 (E 175 [r9] H fun r19 H20 =>
 cndA r19
 (f105_j27 a0 [(I 0),(S ⟨#[]⟩),(I 0)] (I 1) H20 Q)
 (E 176 [r9] H20 fun r21 H22 =>
 cndA r21
 (f105_j27 a0 [(I 0),(S ⟨#[]⟩),(I 0)] (I 2) H22 Q)
 (E 177 [r9] H22 fun r23 H24 =>
 cndA r23
 (f105_j27 a0 [(I 0),(S ⟨#[]⟩),(I 0)] (I 3) H24 Q)
 (f105_j27 a0 [(I 0),(S ⟨#[]⟩),(I 0)] (I 5) H24 Q)))) :=
 Ev_eq.trans (by kernel_rfl)
def f108_l6 (x0:AV) (x1:AV) (x2:AV) (x3:AV) (x8:List AV) (x9:AV) (H:Heap) (Q:Post):Prop:=AtF Pg Hs 108 [1,1,0,0] Q [(0,.val x0),(1,.val x1),(2,.val x2),(3,.val x3),(8,.lbox x8),(9,.val x9)] H
def f108_j10 (x0:AV) (x1:AV) (x2:AV) (x3:AV) (x8:List AV) (x9:AV) (x25:AV) (H:Heap) (Q:Post):Prop:=AtJ Pg Hs 108 [1,1,0,0,0,0,1] Q [(0,.val x0),(1,.val x1),(2,.val x2),(3,.val x3),(8,.lbox x8),(9,.val x9),(25,.val x25)] H
theorem f108_l6_eq (x0:AV) (x1:AV) (x2:AV) (x3:AV) (x8:List AV) (x9:AV) (H:Heap) (Q:Post):f108_l6 x0 x1 x2 x3 x8 x9 H Q =
 ob (nilA x0) fun r4 =>
 ob (addPA r4 2) fun r5 =>
 ob (ldH H false 1 r5) fun r6 =>
 ob (binA Pg .eql 27 true r6 (I 0)) fun r7 =>
 cndA r7
 (ob (nilA x0) fun r8 =>
 ob (addPA r8 0) fun r9 =>
 ob (ldH H false 1 r9) fun r10 =>
 E 130 [r10,x2] H fun r11 H12 =>
 f108_j10 x0 x1 x2 x3 x8 x9 r11 H12 Q)
 (f108_j10 x0 x1 x2 x3 x8 x9 (B false) H Q) :=
 (AtF_eq Pg Hs 108 [1,1,0,0] Q _ H).trans (by kernel_rfl)
theorem f108_j10_eq (x0:AV) (x1:AV) (x2:AV) (x3:AV) (x8:List AV) (x9:AV) (x25:AV) (H:Heap) (Q:Post):f108_j10 x0 x1 x2 x3 x8 x9 x25 H Q =
 cndA x25
 (callA (Ev Pg Hs) x3 [] H fun r13 H14 =>
 ob (mkSlA 7 [r13]) fun r15 =>
 appA 7 96 x9 r15 H14 fun r16 H17 =>
 f108_l6 x0 x1 x2 x3 x8 r16 H17 Q)
 (E 186 [x1,x9] H fun r18 H19 =>
 ob (sizedA 7 r18) fun b20 =>
 ob (spliceA 0 b20 x8) fun b21 =>
 ob (partA true 0 7 b21) fun r22 =>
 Q r22 H19) :=
 (AtJ_eq Pg Hs 108 [1,1,0,0,0,0,1] Q _ H).trans (by kernel_rfl)
theorem f108_eq (a0 a1 a2 a3:AV) (H:Heap) (Q:Post):E 108 [a0,a1,a2,a3] H Q =
 callA (Ev Pg Hs) a3 [] H fun r1 H2 =>
 ob (mkSlA 7 [r1]) fun r3 =>
 f108_l6 a0 a1 a2 a3 [(I 0),(I 0),(I 0),(S ⟨#[]⟩),(S ⟨#[]⟩),(S ⟨#[]⟩),(AV.sl 0 true .full [])] r3 H2 Q :=
 Ev_eq.trans (by kernel_rfl)
theorem f109_eq (a0:AV) (H:Heap) (Q:Post):E 109 [a0] H Q =
 E 108 [a0,(I 16),(S ⟨#[65,78,68]⟩),(AV.fn (.func 187) [a0] [])] H fun r1 H2 =>
 ob (sizedA 7 r1) fun b3 =>
 ob (spliceA 0 b3 [(I 0),(I 0),(I 0),(S ⟨#[]⟩),(S ⟨#[]⟩),(S ⟨#[]⟩),(AV.sl 0 true .full [])]) fun b4 =>
 ob (partA true 0 7 b4) fun r5 =>
 Q r5 H2 :=
 Ev_eq.trans (by kernel_rfl)
def f111_c1_9a (x1:List AV) (x13:AV) (H:Heap) (Q:Post):Prop:=AtJ Pg Hs 111 [1,0,0,9] Q [(1,.lbox x1),(13,.val x13)] H
def f111_c1_9b (x1:List AV) (H:Heap) (Q:Post):Prop:=AtJ Pg Hs 111 [1,0,0,9] Q [(1,.lbox x1),(13,.val (B false))] H
def f111_c1_22a (x1:List AV) (H:Heap) (Q:Post):Prop:=AtJ Pg Hs 111 [1,0,0,22] Q [(1,.lbox x1),(14,.val (B true)),(18,.nov),(26,.nov)] H
def f111_c1_22b (x1:List AV) (H:Heap) (Q:Post):Prop:=AtJ Pg Hs 111 [1,0,0,22] Q [(1,.lbox x1),(14,.val (B false)),(18,.val (B true)),(26,.val (B true))] H
def f111_c1_22c (x1:List AV) (x26:AV) (H:Heap) (Q:Post):Prop:=AtJ Pg Hs 111 [1,0,0,22] Q [(1,.lbox x1),(14,.val (B false)),(18,.val (B true)),(26,.val x26)] H
def f111_c1_22d (x1:List AV) (H:Heap) (Q:Post):Prop:=AtJ Pg Hs 111 [1,0,0,22] Q [(1,.lbox x1),(14,.val (B false)),(18,.val (B false)),(26,.nov)] H
def f111_c1_23a (x1:List AV) (H:Heap) (Q:Post):Prop:=AtJ Pg Hs 111 [1,0,0,23] Q [(1,.lbox x1),(14,.val (B true)),(27,.nov)] H
def f111_c1_23b (x1:List AV) (H:Heap) (Q:Post):Prop:=AtJ Pg Hs 111 [1,0,0,23] Q [(1,.lbox x1),(14,.val (B false)),(27,.val (B true))] H
def f111_c1_23c (x1:List AV) (x27:AV) (H:Heap) (Q:Post):Prop:=AtJ Pg Hs 111 [1,0,0,23] Q [(1,.lbox x1),(14,.val (B false)),(27,.val x27)] H
def f111_c1_23d (x1:List AV) (H:Heap) (Q:Post):Prop:=AtJ Pg Hs 111 [1,0,0,23] Q [(1,.lbox x1),(14,.val (B false)),(27,.val (B false))] H
def f111_j5 (x1:List AV) (x28:AV) (H:Heap) (Q:Post):Prop:=AtJ Pg Hs 111 [1,0,1] Q [(1,.lbox x1),(28,.val x28)] H
def f111_j19 (x2:AV) (H:Heap) (Q:Post):Prop:=AtJ Pg Hs 111 [1,1,1,0,0,1,0,1] Q [(2,.val x2)] H
def f111_j25 (x2:AV) (H:Heap) (Q:Post):Prop:=AtJ Pg Hs 111 [1,1,1,0,0,1,1,1,0,1] Q [(2,.val x2)] H
def f111_j28 (x1:List AV) (x3:AV) (x59:AV) (H:Heap) (Q:Post):Prop:=AtJ Pg Hs 111 [1,1,1,0,0,1,1,1,1,1] Q [(1,.lbox x1),(3,.val x3),(59,.val x59)] H
def f111_l63 (x1:List AV) (x3:AV) (x4:AV) (H:Heap) (Q:Post):Prop:=AtF Pg Hs 111 [1,1,1,1,0,1,0] Q [(1,.lbox x1),(3,.val x3),(4,.val x4)] H
def f111_j38 (x1:List AV) (x3:AV) (x70:AV) (H:Heap) (Q:Post):Prop:=AtJ Pg Hs 111 [1,1,1,0,0,1,1,1,1,1,1,1] Q [(1,.lbox x1),(3,.val x3),(70,.val x70)] H
def f111_c21_16a (x1:List AV) (x3:AV) (x4:AV) (H:Heap) (Q:Post):Prop:=AtJ Pg Hs 111 [1,1,1,1,0,1,0,0,1,0,0,0,16] Q [(1,.lbox x1),(3,.val x3),(4,.val x4),(104,.val (B true)),(112,.nov)] H
def f111_c21_16b (x1:List AV) (x3:AV) (x4:AV) (H:Heap) (Q:Post):Prop:=AtJ Pg Hs 111 [1,1,1,1,0,1,0,0,1,0,0,0,16] Q [(1,.lbox x1),(3,.val x3),(4,.val x4),(104,.val (B false)),(112,.val (B true))] H
def f111_c21_16c (x1:List AV) (x3:AV) (x4:AV) (x112:AV) (H:Heap) (Q:Post):Prop:=AtJ Pg Hs 111 [1,1,1,1,0,1,0,0,1,0,0,0,16] Q [(1,.lbox x1),(3,.val x3),(4,.val x4),(104,.val (B false)),(112,.val x112)] H
def f111_j48 (x1:List AV) (x3:AV) (x81:AV) (H:Heap) (Q:Post):Prop:=AtJ Pg Hs 111 [1,1,1,0,0,1,1,1,1,1,1,1,1,1] Q [(1,.lbox x1),(3,.val x3),(81,.val x81)] H
def f111_c21_27a (x1:List AV) (x3:AV) (x4:AV) (H:Heap) (Q:Post):Prop:=AtJ Pg Hs 111 [1,1,1,1,0,1,0,0,1,0,0,0,27] Q [(1,.lbox x1),(3,.val x3),(4,.val x4),(104,.val (B true)),(123,.nov)] H
def f111_c21_27b (x1:List AV) (x3:AV) (x4:AV) (x123:AV) (H:Heap) (Q:Post):Prop:=AtJ Pg Hs 111 [1,1,1,1,0,1,0,0,1,0,0,0,27] Q [(1,.lbox x1),(3,.val x3),(4,.val x4),(104,.val (B false)),(123,.val x123)] H
def f111_c21_27c (x1:List AV) (x3:AV) (x4:AV) (H:Heap) (Q:Post):Prop:=AtJ Pg Hs 111 [1,1,1,1,0,1,0,0,1,0,0,0,27] Q [(1,.lbox x1),(3,.val x3),(4,.val x4),(104,.val (B false)),(123,.val (B false))] H
def f111_j74 (x1:List AV) (x3:AV) (x4:AV) (x124:AV) (H:Heap) (Q:Post):Prop:=AtJ Pg Hs 111 [1,1,1,1,0,1,0,0,1,0,0,1] Q [(1,.lbox x1),(3,.val x3),(4,.val x4),(124,.val x124)] H
theorem f111_c1_9a_eq (x1:List AV) (x13:AV) (H:Heap) (Q:Post):f111_c1_9a x1 x13 H Q =
 cndA x13
 (f111_c1_22a x1 H Q)
 (ob (partA false 0 1 x1) fun r7 =>
 ob (binA Pg .neq 3 true r7 (I 2)) fun r8 =>
 cndA r8
 (ob (partA false 4 1 x1) fun r9 =>
 ob (binA Pg .neq 9 true r9 (S ⟨#[]⟩)) fun r10 =>
 cndA r10
 (f111_c1_22b x1 H Q)
 (ob (partA false 5 1 x1) fun r11 =>
 ob (binA Pg .neq 9 true r11 (S ⟨#[]⟩)) fun r12 =>
 f111_c1_22c x1 r12 H Q))
 (f111_c1_22d x1 H Q)) :=
 (AtJ_eq Pg Hs 111 [1,0,0,9] Q _ H).trans (by kernel_rfl)
theorem f111_c1_9b_eq (x1:List AV) (H:Heap) (Q:Post):f111_c1_9b x1 H Q =
 ob (partA false 0 1 x1) fun r13 =>
 ob (binA Pg .neq 3 true r13 (I 2)) fun r14 =>
 cndA r14
 (ob (partA false 4 1 x1) fun r15 =>
 ob (binA Pg .neq 9 true r15 (S ⟨#[]⟩)) fun r16 =>
 cndA r16
 (f111_c1_22b x1 H Q)
 (ob (partA false 5 1 x1) fun r17 =>
 ob (binA Pg .neq 9 true r17 (S ⟨#[]⟩)) fun r18 =>
 f111_c1_22c x1 r18 H Q))
 (f111_c1_22d x1 H Q) :=
 (AtJ_eq Pg Hs 111 [1,0,0,9] Q _ H).trans (by kernel_rfl)
theorem f111_c1_22a_eq (x1:List AV) (H:Heap) (Q:Post):f111_c1_22a x1 H Q =
 f111_c1_23a x1 H Q :=
 (AtJ_eq Pg Hs 111 [1,0,0,22] Q _ H).trans (by kernel_rfl)
theorem f111_c1_22b_eq (x1:List AV) (H:Heap) (Q:Post):f111_c1_22b x1 H Q =
 f111_c1_23b x1 H Q :=
 (AtJ_eq Pg Hs 111 [1,0,0,22] Q _ H).trans (by kernel_rfl)
theorem f111_c1_22c_eq (x1:List AV) (x26:AV) (H:Heap) (Q:Post):f111_c1_22c x1 x26 H Q =
 f111_c1_23c x1 x26 H Q :=
 (AtJ_eq Pg Hs 111 [1,0,0,22] Q _ H).trans (by kernel_rfl)
theorem f111_c1_22d_eq (x1:List AV) (H:Heap) (Q:Post):f111_c1_22d x1 H Q =
 f111_c1_23d x1 H Q :=
 (AtJ_eq Pg Hs 111 [1,0,0,22] Q _ H).trans (by kernel_rfl)
theorem f111_c1_23a_eq (x1:List AV) (H:Heap) (Q:Post):f111_c1_23a x1 H Q =
 f111_j5 x1 (B true) H Q :=
 (AtJ_eq Pg Hs 111 [1,0,0,23] Q _ H).trans (by kernel_rfl)
theorem f111_c1_23b_eq (x1:List AV) (H:Heap) (Q:Post):f111_c1_23b x1 H Q =
 f111_j5 x1 (B true) H Q :=
 (AtJ_eq Pg Hs 111 [1,0,0,23] Q _ H).trans (by kernel_rfl)
theorem f111_c1_23c_eq (x1:List AV) (x27:AV) (H:Heap) (Q:Post):f111_c1_23c x1 x27 H Q =
 f111_j5 x1 x27 H Q :=
 (AtJ_eq Pg Hs 111 [1,0,0,23] Q _ H).trans (by kernel_rfl)
theorem f111_c1_23d_eq (x1:List AV) (H:Heap) (Q:Post):f111_c1_23d x1 H Q =
 f111_j5 x1 (B false) H Q :=
 (AtJ_eq Pg Hs 111 [1,0,0,23] Q _ H).trans (by kernel_rfl)
theorem f111_j5_eq (x1:List AV) (x28:AV) (H:Heap) (Q:Post):f111_j5 x1 x28 H Q =
 cndA x28
 (Q (B false) H)
 (ob (partA false 6 1 x1) fun r19 =>
 ob (lenA r19) fun r20 =>
 ob (partA false 0 1 x1) fun r21 =>
 ob (binA Pg .eql 3 true r21 (I 1)) fun r22 =>
 cndA r22
 (ob (binA Pg .eql 3 true r20 (I 0)) fun r23 =>
 cndA r23
 (ob (partA true 1 3 x1) fun r24 =>
 E 190 [r24] H fun r25 H26 =>
 f111_j19 r25 H26 Q)
 (f111_j19 (B false) H Q))
 (ob (partA false 0 1 x1) fun r27 =>
 ob (binA Pg .eql 3 true r27 (I 2)) fun r28 =>
 cndA r28
 (ob (binA Pg .eql 3 true r20 (I 0)) fun r29 =>
 cndA r29
 (ob (partA false 4 1 x1) fun r30 =>
 E 191 [r30] H fun r31 H32 =>
 cndA r31
 (ob (partA false 5 1 x1) fun r33 =>
 E 191 [r33] H32 fun r34 H35 =>
 f111_j25 r34 H35 Q)
 (f111_j25 (B false) H32 Q))
 (f111_j25 (B false) H Q))
 (ob (partA false 0 1 x1) fun r36 =>
 ob (binA Pg .eql 3 true r36 (I 3)) fun r37 =>
 cndA r37
 (f111_j28 x1 r20 (B true) H Q)
 (ob (partA false 0 1 x1) fun r38 =>
 ob (binA Pg .eql 3 true r38 (I 15)) fun r39 =>
 f111_j28 x1 r20 r39 H Q)))) :=
 (AtJ_eq Pg Hs 111 [1,0,1] Q _ H).trans (by kernel_rfl)
theorem f111_j19_eq (x2:AV) (H:Heap) (Q:Post):f111_j19 x2 H Q =
 Q x2 H :=
 (AtJ_eq Pg Hs 111 [1,1,1,0,0,1,0,1] Q _ H).trans (by kernel_rfl)
theorem f111_j25_eq (x2:AV) (H:Heap) (Q:Post):f111_j25 x2 H Q =
 Q x2 H :=
 (AtJ_eq Pg Hs 111 [1,1,1,0,0,1,1,1,0,1] Q _ H).trans (by kernel_rfl)
theorem f111_j28_eq (x1:List AV) (x3:AV) (x59:AV) (H:Heap) (Q:Post):f111_j28 x1 x3 x59 H Q =
 cndA x59
 (ob (binA Pg .neq 3 true x3 (I 1)) fun r40 =>
 cndA r40
 (Q (B false) H)
 (f111_l63 x1 x3 (I 0) H Q))
 (ob (partA false 0 1 x1) fun r41 =>
 ob (binA Pg .geq 3 true r41 (I 4)) fun r42 =>
 cndA r42
 (ob (partA false 0 1 x1) fun r43 =>
 ob (binA Pg .leq 3 true r43 (I 14)) fun r44 =>
 f111_j38 x1 x3 r44 H Q)
 (f111_j38 x1 x3 (B false) H Q)) :=
 (AtJ_eq Pg Hs 111 [1,1,1,0,0,1,1,1,1,1] Q _ H).trans (by kernel_rfl)
theorem f111_l63_eq (x1:List AV) (x3:AV) (x4:AV) (H:Heap) (Q:Post):f111_l63 x1 x3 x4 H Q =
 ob (binA Pg .lss 3 false x4 x3) fun r45 =>
 cndA r45
 (ob (partA false 6 1 x1) fun r46 =>
 ob (ixaA 7 r46 x4) fun c47 =>
 ob (partA true 0 7 c47) fun r48 =>
 E 111 [r48] H fun r49 H50 =>
 ob (unA .not r49) fun r51 =>
 cndA r51
 (f111_c21_16a x1 x3 x4 H50 Q)
 (ob (partA false 0 1 x1) fun r52 =>
 ob (binA Pg .eql 3 true r52 (I 16)) fun r53 =>
 cndA r53
 (f111_c21_16b x1 x3 x4 H50 Q)
 (ob (partA false 0 1 x1) fun r54 =>
 ob (binA Pg .eql 3 true r54 (I 17)) fun r55 =>
 f111_c21_16c x1 x3 x4 r55 H50 Q)))
 (Q (B true) H) :=
 (AtF_eq Pg Hs 111 [1,1,1,1,0,1,0] Q _ H).trans (by kernel_rfl)
theorem f111_j38_eq (x1:List AV) (x3:AV) (x70:AV) (H:Heap) (Q:Post):f111_j38 x1 x3 x70 H Q =
 cndA x70
 (ob (binA Pg .neq 3 true x3 (I 2)) fun r56 =>
 cndA r56
 (Q (B false) H)
 (f111_l63 x1 x3 (I 0) H Q))
 (ob (partA false 0 1 x1) fun r57 =>
 ob (binA Pg .eql 3 true r57 (I 16)) fun r58 =>
 cndA r58
 (f111_j48 x1 x3 (B true) H Q)
 (ob (partA false 0 1 x1) fun r59 =>
 ob (binA Pg .eql 3 true r59 (I 17)) fun r60 =>
 f111_j48 x1 x3 r60 H Q)) :=
 (AtJ_eq Pg Hs 111 [1,1,1,0,0,1,1,1,1,1,1,1] Q _ H).trans (by kernel_rfl)
theorem f111_c21_16a_eq (x1:List AV) (x3:AV) (x4:AV) (H:Heap) (Q:Post):f111_c21_16a x1 x3 x4 H Q =
 f111_c21_27a x1 x3 x4 H Q :=
 (AtJ_eq Pg Hs 111 [1,1,1,1,0,1,0,0,1,0,0,0,16] Q _ H).trans (by kernel_rfl)
theorem f111_c21_16b_eq (x1:List AV) (x3:AV) (x4:AV) (H:Heap) (Q:Post):f111_c21_16b x1 x3 x4 H Q =
 ob (partA false 6 1 x1) fun r61 =>
 ob (ixaA 7 r61 x4) fun c62 =>
 ob (partA false 0 1 (c62.drop 0)) fun r63 =>
 ob (partA false 0 1 x1) fun r64 =>
 ob (binA Pg .eql 3 false r63 r64) fun r65 =>
 f111_c21_27b x1 x3 x4 r65 H Q :=
 (AtJ_eq Pg Hs 111 [1,1,1,1,0,1,0,0,1,0,0,0,16] Q _ H).trans (by kernel_rfl)
theorem f111_c21_16c_eq (x1:List AV) (x3:AV) (x4:AV) (x112:AV) (H:Heap) (Q:Post):f111_c21_16c x1 x3 x4 x112 H Q =
 cndA x112
 (ob (partA false 6 1 x1) fun r66 =>
 ob (ixaA 7 r66 x4) fun c67 =>
 ob (partA false 0 1 (c67.drop 0)) fun r68 =>
 ob (partA false 0 1 x1) fun r69 =>
 ob (binA Pg .eql 3 false r68 r69) fun r70 =>
 f111_c21_27b x1 x3 x4 r70 H Q)
 (f111_c21_27c x1 x3 x4 H Q) :=
 (AtJ_eq Pg Hs 111 [1,1,1,1,0,1,0,0,1,0,0,0,16] Q _ H).trans (by kernel_rfl)
theorem f111_j48_eq (x1:List AV) (x3:AV) (x81:AV) (H:Heap) (Q:Post):f111_j48 x1 x3 x81 H Q =
 cndA x81
 (ob (binA Pg .lss 3 true x3 (I 2)) fun r71 =>
 cndA r71
 (Q (B false) H)
 (f111_l63 x1 x3 (I 0) H Q))
 (Q (B false) H) :=
 (AtJ_eq Pg Hs 111 [1,1,1,0,0,1,1,1,1,1,1,1,1,1] Q _ H).trans (by kernel_rfl)
theorem f111_c21_27a_eq (x1:List AV) (x3:AV) (x4:AV) (H:Heap) (Q:Post):f111_c21_27a x1 x3 x4 H Q =
 f111_j74 x1 x3 x4 (B true) H Q :=
 (AtJ_eq Pg Hs 111 [1,1,1,1,0,1,0,0,1,0,0,0,27] Q _ H).trans (by kernel_rfl)
theorem f111_c21_27b_eq (x1:List AV) (x3:AV) (x4:AV) (x123:AV) (H:Heap) (Q:Post):f111_c21_27b x1 x3 x4 x123 H Q =
 f111_j74 x1 x3 x4 x123 H Q :=
 (AtJ_eq Pg Hs 111 [1,1,1,1,0,1,0,0,1,0,0,0,27] Q _ H).trans (by kernel_rfl)
theorem f111_c21_27c_eq (x1:List AV) (x3:AV) (x4:AV) (H:Heap) (Q:Post):f111_c21_27c x1 x3 x4 H Q =
 f111_j74 x1 x3 x4 (B false) H Q :=
 (AtJ_eq Pg Hs 111 [1,1,1,1,0,1,0,0,1,0,0,0,27] Q _ H).trans (by kernel_rfl)
theorem f111_j74_eq (x1:List AV) (x3:AV) (x4:AV) (x124:AV) (H:Heap) (Q:Post):f111_j74 x1 x3 x4 x124 H Q =
 cndA x124
 (Q (B false) H)
 (ob (binA Pg .add 3 true x4 (I 1)) fun r72 =>
 f111_l63 x1 x3 r72 H Q) :=
 (AtJ_eq Pg Hs 111 [1,1,1,1,0,1,0,0,1,0,0,1] Q _ H).trans (by kernel_rfl)
theorem f111_eq (a0:AV) (H:Heap) (Q:Post):E 111 [a0] H Q =
 ob (sizedA 7 a0) fun b1 =>
 ob (partA false 0 1 b1) fun r2 =>
 ob (binA Pg .neq 3 true r2 (I 1)) fun r3 =>
 cndA r3
 (ob (partA true 1 3 b1) fun r4 =>
 ob (bldA [] [(I 0),(I 0),(S ⟨#[]⟩)]) fun r5 =>
 ob (binA Pg .neq 23 false r4 r5) fun r6 =>
 f111_c1_9a b1 r6 H Q)
 (f111_c1_9b b1 H Q) :=
 Ev_eq.trans (by kernel_rfl)
def f112_j52 (x42:AV) (H:Heap) (Q:Post):Prop:=AtJ Pg Hs 112 [1,1,0,1,1] Q [(42,.val x42)] H
theorem f112_j52_eq (x42:AV) (H:Heap) (Q:Post):f112_j52 x42 H Q =
 cndA x42
 (Q (I 7) H)
 (Q (I 8) H) :=
 (AtJ_eq Pg Hs 112 [1,1,0,1,1] Q _ H).trans (by kernel_rfl)
theorem f112_eq (a0:AV) (H:Heap) (Q:Post):E 112 [a0] H Q =
 ob (sizedA 7 a0) fun b1 =>
 ob (partA false 0 1 b1) fun r2 =>
 ob (binA Pg .eql 3 true r2 (I 17)) fun r3 =>
 cndA r3
 (Q (I 1) H)
 (ob (partA false 0 1 b1) fun r4 =>
 ob (binA Pg .eql 3 true r4 (I 16)) fun r5 =>
 cndA r5
 (Q (I 2) H)
 (ob (partA false 0 1 b1) fun r6 =>
 ob (binA Pg .eql 3 true r6 (I 15)) fun r7 =>
 cndA r7
 (Q (I 3) H)
 (ob (partA false 0 1 b1) fun r8 =>
 ob (binA Pg .geq 3 true r8 (I 9)) fun r9 =>
 cndA r9
 (Q (I 4) H)
 (ob (partA false 0 1 b1) fun r10 =>
 ob (binA Pg .geq 3 true r10 (I 6)) fun r11 =>
 cndA r11
 (Q (I 6) H)
 (ob (partA false 0 1 b1) fun r12 =>
 ob (binA Pg .geq 3 true r12 (I 4)) fun r13 =>
 cndA r13
 (Q (I 5) H)
 (ob (partA false 0 1 b1) fun r14 =>
 ob (binA Pg .eql 3 true r14 (I 3)) fun r15 =>
 cndA r15
 (Q (I 7) H)
 (ob (partA true 0 7 b1) fun r16 =>
 E 192 [r16] H fun r17 H18 =>
 ob (extractA r17 0) fun r19 =>
 ob (extractA r17 1) fun r20 =>
 cndA r20
 (ob (binA Pg .lss 2 true r19 (I 0)) fun r21 =>
 f112_j52 r21 H18 Q)
 (f112_j52 (B false) H18 Q)))))))) :=
 Ev_eq.trans (by kernel_rfl)
theorem f113_eq (a0 a1:AV) (H:Heap) (Q:Post):E 113 [a0,a1] H Q =
 ob (sizedA 7 a1) fun b1 =>
 ob (partA true 0 7 b1) fun r2 =>
 E 112 [r2] H fun r3 H4 =>
 ob (partA false 0 1 b1) fun r5 =>
 ob (binA Pg .eql 3 true r5 (I 1)) fun r6 =>
 cndA r6
 (ob (partA true 1 3 b1) fun r7 =>
 E 193 [r7] H4 fun r8 H9 =>
 ob (extractA r8 0) fun r10 =>
 ob (extractA r8 1) fun r11 =>
 ob (nilA a0) fun r12 =>
 ob (addPA r12 0) fun r13 =>
 E 118 [r13,r10] H9 fun r14 H15 =>
 Q (AV.tup []) H15)
 (ob (partA false 0 1 b1) fun r16 =>
 ob (binA Pg .eql 3 true r16 (I 2)) fun r17 =>
 cndA r17
 (ob (nilA a0) fun r18 =>
 ob (addPA r18 0) fun r19 =>
 ob (partA false 4 1 b1) fun r20 =>
 ob (binA Pg .add 9 true r20 (S ⟨#[46]⟩)) fun r21 =>
 ob (partA false 5 1 b1) fun r22 =>
 ob (binA Pg .add 9 false r21 r22) fun r23 =>
 E 118 [r19,r23] H4 fun r24 H25 =>
 Q (AV.tup []) H25)
 (ob (partA false 0 1 b1) fun r26 =>
 ob (binA Pg .eql 3 true r26 (I 3)) fun r27 =>
 cndA r27
 (ob (partA false 6 1 b1) fun r28 =>
 ob (ixaA 7 r28 (I 0)) fun c29 =>
 ob (partA true 0 7 c29) fun r30 =>
 E 194 [a0,r30] H4 fun r31 H32 =>
 Q (AV.tup []) H32)
 (ob (binA Pg .eql 3 true r3 (I 1)) fun r33 =>
 cndA r33
 (ob (partA false 6 1 b1) fun r34 =>
 E 55 [a0,r34,(S ⟨#[32,79,82,32]⟩),(I 2)] H4 fun r35 H36 =>
 Q (AV.tup []) H36)
 (ob (binA Pg .eql 3 true r3 (I 2)) fun r37 =>
 cndA r37
 (ob (partA false 6 1 b1) fun r38 =>
 E 55 [a0,r38,(S ⟨#[32,65,78,68,32]⟩),(I 3)] H4 fun r39 H40 =>
 Q (AV.tup []) H40)
 (ob (binA Pg .eql 3 true r3 (I 3)) fun r41 =>
 cndA r41
 (ob (nilA a0) fun r42 =>
 ob (addPA r42 0) fun r43 =>
 E 118 [r43,(S ⟨#[78,79,84,32]⟩)] H4 fun r44 H45 =>
 ob (partA false 6 1 b1) fun r46 =>
 ob (ixaA 7 r46 (I 0)) fun c47 =>
 ob (partA true 0 7 c47) fun r48 =>
 E 52 [a0,r48,(I 3)] H45 fun r49 H50 =>
 Q (AV.tup []) H50)
 (ob (binA Pg .eql 3 true r3 (I 4)) fun r51 =>
 cndA r51
 (ob (partA true 0 7 b1) fun r52 =>
 E 195 [a0,r52,(I 5),(I 5)] H4 fun r53 H54 =>
 Q (AV.tup []) H54)
 (ob (partA true 0 7 b1) fun r55 =>
 ob (binA Pg .add 3 true r3 (I 1)) fun r56 =>
 E 195 [a0,r55,r3,r56] H4 fun r57 H58 =>
 Q (AV.tup []) H58))))))) :=
 Ev_eq.trans (by kernel_rfl)
theorem f114_eq (a0 a1:AV) (H:Heap) (Q:Post):E 114 [a0,a1] H Q =
 E 196 [a0] H fun r1 H2 =>
 ob (nilA a0) fun r3 =>
 ob (addPA r3 1) fun r4 =>
 ob (ldH H2 false 1 r4) fun r5 =>
 ob (mkSlA 1 [a1]) fun r6 =>
 appB 5 r5 r6 H2 fun r7 H8 =>
 ob (nilA a0) fun r9 =>
 ob (addPA r9 1) fun r10 =>
 ob (stH H8 1 r10 r7) fun H11 =>
 Q (AV.raw .nilIface) H11 :=
 Ev_eq.trans (by kernel_rfl)
def f115_j24 (x1:List AV) (x15:AV) (H:Heap) (Q:Post):Prop:=AtJ Pg Hs 115 [1,0,0,1,1,1,1,1,1,1] Q [(1,.lbox x1),(15,.val x15)] H
def f115_j30 (x1:List AV) (x24:AV) (H:Heap) (Q:Post):Prop:=AtJ Pg Hs 115 [1,0,0,1,1,1,1,1,1,1,1,1] Q [(1,.lbox x1),(24,.val x24)] H
def f115_j36 (x1:List AV) (x33:AV) (H:Heap) (Q:Post):Prop:=AtJ Pg Hs 115 [1,0,0,1,1,1,1,1,1,1,1,1,1,1] Q [(1,.lbox x1),(33,.val x33)] H
def f115_c13_13a (x1:List AV) (H:Heap) (Q:Post):Prop:=AtJ Pg Hs 115 [1,0,0,1,1,1,1,1,1,1,1,1,1,1,1,0,13] Q [(1,.lbox x1),(46,.val (B true)),(55,.nov)] H
def f115_c13_13b (x1:List AV) (x55:AV) (H:Heap) (Q:Post):Prop:=AtJ Pg Hs 115 [1,0,0,1,1,1,1,1,1,1,1,1,1,1,1,0,13] Q [(1,.lbox x1),(46,.val (B false)),(55,.val x55)] H
def f115_c13_13c (x1:List AV) (H:Heap) (Q:Post):Prop:=AtJ Pg Hs 115 [1,0,0,1,1,1,1,1,1,1,1,1,1,1,1,0,13] Q [(1,.lbox x1),(46,.val (B false)),(55,.val (B false))] H
def f115_c13_19a (x1:List AV) (H:Heap) (Q:Post):Prop:=AtJ Pg Hs 115 [1,0,0,1,1,1,1,1,1,1,1,1,1,1,1,0,19] Q [(1,.lbox x1),(46,.val (B true)),(61,.nov)] H
def f115_c13_19b (x1:List AV) (x61:AV) (H:Heap) (Q:Post):Prop:=AtJ Pg Hs 115 [1,0,0,1,1,1,1,1,1,1,1,1,1,1,1,0,19] Q [(1,.lbox x1),(46,.val (B false)),(61,.val x61)] H
def f115_c13_19c (x1:List AV) (H:Heap) (Q:Post):Prop:=AtJ Pg Hs 115 [1,0,0,1,1,1,1,1,1,1,1,1,1,1,1,0,19] Q [(1,.lbox x1),(46,.val (B false)),(61,.val (B false))] H
def f115_c13_20a (x1:List AV) (H:Heap) (Q:Post):Prop:=AtJ Pg Hs 115 [1,0,0,1,1,1,1,1,1,1,1,1,1,1,1,0,20] Q [(1,.lbox x1),(62,.val (B true))] H
def f115_c13_20b (x1:List AV) (x62:AV) (H:Heap) (Q:Post):Prop:=AtJ Pg Hs 115 [1,0,0,1,1,1,1,1,1,1,1,1,1,1,1,0,20] Q [(1,.lbox x1),(62,.val x62)] H
def f115_c13_20c (x1:List AV) (H:Heap) (Q:Post):Prop:=AtJ Pg Hs 115 [1,0,0,1,1,1,1,1,1,1,1,1,1,1,1,0,20] Q [(1,.lbox x1),(62,.val (B false))] H
def f115_j42 (x42:AV) (H:Heap) (Q:Post):Prop:=AtJ Pg Hs 115 [1,0,0,1,1,1,1,1,1,1,1,1,1,1,1,1] Q [(42,.val x42)] H
theorem f115_j24_eq (x1:List AV) (x15:AV) (H:Heap) (Q:Post):f115_j24 x1 x15 H Q =
 cndA x15
 (Q (I 4) H)
 (ob (partA false 0 1 x1) fun r12 =>
 ob (binA Pg .eql 3 true r12 (I 4)) fun r13 =>
 cndA r13
 (f115_j30 x1 (B true) H Q)
 (ob (partA false 0 1 x1) fun r14 =>
 ob (binA Pg .eql 3 true r14 (I 5)) fun r15 =>
 f115_j30 x1 r15 H Q)) :=
 (AtJ_eq Pg Hs 115 [1,0,0,1,1,1,1,1,1,1] Q _ H).trans (by kernel_rfl)
theorem f115_j30_eq (x1:List AV) (x24:AV) (H:Heap) (Q:Post):f115_j30 x1 x24 H Q =
 cndA x24
 (Q (I 5) H)
 (ob (partA false 0 1 x1) fun r16 =>
 ob (binA Pg .geq 3 true r16 (I 6)) fun r17 =>
 cndA r17
 (ob (partA false 0 1 x1) fun r18 =>
 ob (binA Pg .leq 3 true r18 (I 8)) fun r19 =>
 f115_j36 x1 r19 H Q)
 (f115_j36 x1 (B false) H Q)) :=
 (AtJ_eq Pg Hs 115 [1,0,0,1,1,1,1,1,1,1,1,1] Q _ H).trans (by kernel_rfl)
theorem f115_j36_eq (x1:List AV) (x33:AV) (H:Heap) (Q:Post):f115_j36 x1 x33 H Q =
 cndA x33
 (Q (I 6) H)
 (ob (partA false 0 1 x1) fun r20 =>
 ob (binA Pg .eql 3 true r20 (I 3)) fun r21 =>
 cndA r21
 (f115_c13_13a x1 H Q)
 (ob (partA false 0 1 x1) fun r22 =>
 ob (binA Pg .eql 3 true r22 (I 1)) fun r23 =>
 cndA r23
 (ob (partA false 1 1 x1) fun r24 =>
 ob (binA Pg .eql 3 true r24 (I 2)) fun r25 =>
 f115_c13_13b x1 r25 H Q)
 (f115_c13_13c x1 H Q))) :=
 (AtJ_eq Pg Hs 115 [1,0,0,1,1,1,1,1,1,1,1,1,1,1] Q _ H).trans (by kernel_rfl)
theorem f115_c13_13a_eq (x1:List AV) (H:Heap) (Q:Post):f115_c13_13a x1 H Q =
 f115_c13_19a x1 H Q :=
 (AtJ_eq Pg Hs 115 [1,0,0,1,1,1,1,1,1,1,1,1,1,1,1,0,13] Q _ H).trans (by kernel_rfl)
theorem f115_c13_13b_eq (x1:List AV) (x55:AV) (H:Heap) (Q:Post):f115_c13_13b x1 x55 H Q =
 cndA x55
 (ob (partA false 2 1 x1) fun r26 =>
 ob (binA Pg .lss 2 true r26 (I 0)) fun r27 =>
 f115_c13_19b x1 r27 H Q)
 (f115_c13_19c x1 H Q) :=
 (AtJ_eq Pg Hs 115 [1,0,0,1,1,1,1,1,1,1,1,1,1,1,1,0,13] Q _ H).trans (by kernel_rfl)
theorem f115_c13_13c_eq (x1:List AV) (H:Heap) (Q:Post):f115_c13_13c x1 H Q =
 f115_c13_19c x1 H Q :=
 (AtJ_eq Pg Hs 115 [1,0,0,1,1,1,1,1,1,1,1,1,1,1,1,0,13] Q _ H).trans (by kernel_rfl)
theorem f115_c13_19a_eq (x1:List AV) (H:Heap) (Q:Post):f115_c13_19a x1 H Q =
 f115_c13_20a x1 H Q :=
 (AtJ_eq Pg Hs 115 [1,0,0,1,1,1,1,1,1,1,1,1,1,1,1,0,19] Q _ H).trans (by kernel_rfl)
theorem f115_c13_19b_eq (x1:List AV) (x61:AV) (H:Heap) (Q:Post):f115_c13_19b x1 x61 H Q =
 f115_c13_20b x1 x61 H Q :=
 (AtJ_eq Pg Hs 115 [1,0,0,1,1,1,1,1,1,1,1,1,1,1,1,0,19] Q _ H).trans (by kernel_rfl)
theorem f115_c13_19c_eq (x1:List AV) (H:Heap) (Q:Post):f115_c13_19c x1 H Q =
 f115_c13_20c x1 H Q :=
 (AtJ_eq Pg Hs 115 [1,0,0,1,1,1,1,1,1,1,1,1,1,1,1,0,19] Q _ H).trans (by kernel_rfl)
theorem f115_c13_20a_eq (x1:List AV) (H:Heap) (Q:Post):f115_c13_20a x1 H Q =
 f115_j42 (B true) H Q :=
 (AtJ_eq Pg Hs 115 [1,0,0,1,1,1,1,1,1,1,1,1,1,1,1,0,20] Q _ H).trans (by kernel_rfl)
theorem f115_c13_20b_eq (x1:List AV) (x62:AV) (H:Heap) (Q:Post):f115_c13_20b x1 x62 H Q =
 f115_j42 x62 H Q :=
 (AtJ_eq Pg Hs 115 [1,0,0,1,1,1,1,1,1,1,1,1,1,1,1,0,20] Q _ H).trans (by kernel_rfl)
theorem f115_c13_20c_eq (x1:List AV) (H:Heap) (Q:Post):f115_c13_20c x1 H Q =
 f115_j42 (B false) H Q :=
 (AtJ_eq Pg Hs 115 [1,0,0,1,1,1,1,1,1,1,1,1,1,1,1,0,20] Q _ H).trans (by kernel_rfl)
theorem f115_j42_eq (x42:AV) (H:Heap) (Q:Post):f115_j42 x42 H Q =
 cndA x42
 (Q (I 7) H)
 (Q (I 8) H) :=
 (AtJ_eq Pg Hs 115 [1,0,0,1,1,1,1,1,1,1,1,1,1,1,1,1] Q _ H).trans (by kernel_rfl)
theorem f115_eq (a0:AV) (H:Heap) (Q:Post):E 115 [a0] H Q =
 ob (sizedA 7 a0) fun b1 =>
 ob (partA false 0 1 b1) fun r2 =>
 ob (binA Pg .eql 3 true r2 (I 17)) fun r3 =>
 cndA r3
 (Q (I 1) H)
 (ob (partA false 0 1 b1) fun r4 =>
 ob (binA Pg .eql 3 true r4 (I 16)) fun r5 =>
 cndA r5
 (Q (I 2) H)
 (ob (partA false 0 1 b1) fun r6 =>
 ob (binA Pg .eql 3 true r6 (I 15)) fun r7 =>
 cndA r7
 (Q (I 3) H)
 (ob (partA false 0 1 b1) fun r8 =>
 ob (binA Pg .geq 3 true r8 (I 9)) fun r9 =>
 cndA r9
 (ob (partA false 0 1 b1) fun r10 =>
 ob (binA Pg .leq 3 true r10 (I 14)) fun r11 =>
 f115_j24 b1 r11 H Q)
 (f115_j24 b1 (B false) H Q)))) :=
 Ev_eq.trans (by kernel_rfl)
theorem f116_eq (a0:AV) (H:Heap) (Q:Post):E 116 [a0] H Q =
 ob (sizedA 3 a0) fun b1 =>
 ob (partA true 0 3 b1) fun r2 =>
 E 190 [r2] H fun r3 H4 =>
 ob (unA .not r3) fun r5 =>
 cndA r5
 (Q (AV.tup [(S ⟨#[]⟩),(I 1)]) H4)
 (ob (partA false 0 1 b1) fun r6 =>
 ob (binA Pg .eql 3 true r6 (I 0)) fun r7 =>
 cndA r7
 (Q (AV.tup [(S ⟨#[78,85,76,76]⟩),(I 0)]) H4)
 (ob (binA Pg .eql 3 true r6 (I 1)) fun r8 =>
 cndA r8
 (ob (partA false 1 1 b1) fun r9 =>
 ob (binA Pg .eql 2 true r9 (I 1)) fun r10 =>
 cndA r10
 (Q (AV.tup [(S ⟨#[84,82,85,69]⟩),(I 0)]) H4)
 (Q (AV.tup [(S ⟨#[70,65,76,83,69]⟩),(I 0)]) H4))
 (ob (binA Pg .eql 3 true r6 (I 2)) fun r11 =>
 cndA r11
 (ob (partA false 1 1 b1) fun r12 =>
 E 197 [r12] H4 fun r13 H14 =>
 Q (AV.tup [r13,(I 0)]) H14)
 (ob (partA false 2 1 b1) fun r15 =>
 E 198 [r15] H4 fun r16 H17 =>
 ob (extractA r16 0) fun r18 =>
 ob (extractA r16 1) fun r19 =>
 Q (AV.tup [r18,r19]) H17)))) :=
 Ev_eq.trans (by kernel_rfl)
theorem f117_eq (a0:AV) (H:Heap) (Q:Post):E 117 [a0] H Q =
 ob (mkSlA 1 [(S ⟨#[43]⟩),(S ⟨#[45]⟩),(S ⟨#[42]⟩),(S ⟨#[47]⟩),(S ⟨#[37]⟩),(S ⟨#[61]⟩),(S ⟨#[60,62]⟩),(S ⟨#[60]⟩),(S ⟨#[60,61]⟩),(S ⟨#[62]⟩),(S ⟨#[62,61]⟩)]) fun r1 =>
 ob (binA Pg .sub 3 true a0 (I 4)) fun r2 =>
 ob (ixaA 1 r1 r2) fun c3 =>
 ob (partA false 0 1 c3) fun r4 =>
 Q r4 H :=
 Ev_eq.trans (by kernel_rfl)
theorem f118_eq (a0 a1:AV) (H:Heap) (Q:Post):E 118 [a0,a1] H Q =
 E 196 [a0] H fun r1 H2 =>
 ob (nilA a0) fun r3 =>
 ob (addPA r3 1) fun r4 =>
 ob (ldH H2 false 1 r4) fun r5 =>
 appB 5 r5 a1 H2 fun r6 H7 =>
 ob (nilA a0) fun r8 =>
 ob (addPA r8 1) fun r9 =>
 ob (stH H7 1 r9 r6) fun H10 =>
 ob (lenSA a1) fun r11 =>
 Q (AV.tup [r11,(AV.raw .nilIface)]) H10 :=
 Ev_eq.trans (by kernel_rfl)
theorem f119_eq (a0 a1:AV) (H:Heap) (Q:Post):E 119 [a0,a1] H Q =
 ob (sizedA 1 a0) fun b1 =>
 newH H b1 fun r2 H3 =>
 newH H3 [(AV.raw .nilFunc)] fun r4 H5 =>
 ob (stH H5 1 r4 (AV.fn (.func 120) [] [r2,r4])) fun H6 =>
 ob (ldH H6 false 1 r4) fun r7 =>
 ob (ldH H6 true 7 a1) fun r8 =>
 callA (Ev Pg Hs) r7 [(I 1),r8] H6 fun r9 H10 =>
 Q (AV.tup []) H10 :=
 Ev_eq.trans (by kernel_rfl)
def f120_l14 (x0:AV) (x3:AV) (x15:AV) (x16:AV) (x17:AV) (H:Heap) (Q:Post):Prop:=AtF Pg Hs 120 [1,1,0,1,0] Q [(0,.val x0),(3,.val x3),(15,.val x15),(16,.val x16),(17,.val x17)] H
theorem f120_l14_eq (x0:AV) (x3:AV) (x15:AV) (x16:AV) (x17:AV) (H:Heap) (Q:Post):f120_l14 x0 x3 x15 x16 x17 H Q =
 ob (binA Pg .lss 3 false x17 x16) fun r9 =>
 cndA r9
 (ob (ixaA 7 x15 x17) fun c10 =>
 ob (partA true 0 7 c10) fun r11 =>
 ob (sizedA 7 r11) fun b12 =>
 ob (spliceA 0 b12 [(I 0),(I 0),(I 0),(S ⟨#[]⟩),(S ⟨#[]⟩),(S ⟨#[]⟩),(AV.sl 0 true .full [])]) fun b13 =>
 ob (ldH H false 1 x3) fun r14 =>
 ob (binA Pg .add 3 true x0 (I 1)) fun r15 =>
 ob (partA true 0 7 b13) fun r16 =>
 callA (Ev Pg Hs) r14 [r15,r16] H fun r17 H18 =>
 ob (unA .not r17) fun r19 =>
 cndA r19
 (Q (B false) H18)
 (ob (binA Pg .add 3 true x17 (I 1)) fun r20 =>
 f120_l14 x0 x3 x15 x16 r20 H18 Q))
 (Q (B true) H) :=
 (AtF_eq Pg Hs 120 [1,1,0,1,0] Q _ H).trans (by kernel_rfl)
theorem f120_eq (a0 a1 a2 a3:AV) (H:Heap) (Q:Post):E 120 [a0,a1,a2,a3] H Q =
 ob (sizedA 7 a1) fun b1 =>
 ob (ldH H false 1 a2) fun r2 =>
 ob (partA true 0 7 b1) fun r3 =>
 callA (Ev Pg Hs) r2 [a0,r3] H fun r4 H5 =>
 ob (unA .not r4) fun r6 =>
 cndA r6
 (Q (B false) H5)
 (ob (partA false 6 1 b1) fun r7 =>
 ob (lenA r7) fun r8 =>
 f120_l14 a0 a3 r7 r8 (I 0) H5 Q) :=
 Ev_eq.trans (by kernel_rfl)
def f121_j17 (x2:AV) (H:Heap) (Q:Post):Prop:=AtJ Pg Hs 121 [1,0,1,0,1,1,1,0,1] Q [(2,.val x2)] H
def f121_j29 (x2:AV) (H:Heap) (Q:Post):Prop:=AtJ Pg Hs 121 [1,0,1,0,1,1,1,1,1,1,1,0,1] Q [(2,.val x2)] H
theorem f121_j17_eq (x2:AV) (H:Heap) (Q:Post):f121_j17 x2 H Q =
 Q x2 H :=
 (AtJ_eq Pg Hs 121 [1,0,1,0,1,1,1,0,1] Q _ H).trans (by kernel_rfl)
theorem f121_j29_eq (x2:AV) (H:Heap) (Q:Post):f121_j29 x2 H Q =
 Q x2 H :=
 (AtJ_eq Pg Hs 121 [1,0,1,0,1,1,1,1,1,1,1,0,1] Q _ H).trans (by kernel_rfl)
theorem f121_eq (a0:AV) (H:Heap) (Q:Post):E 121 [a0] H Q =
 ob (sizedA 3 a0) fun b1 =>
 ob (partA false 0 1 b1) fun r2 =>
 ob (binA Pg .eql 3 true r2 (I 0)) fun r3 =>
 cndA r3
 (ob (partA true 0 3 b1) fun r4 =>
 ob (bldA [] [(I 0),(I 0),(S ⟨#[]⟩)]) fun r5 =>
 ob (binA Pg .eql 23 false r4 r5) fun r6 =>
 Q r6 H)
 (ob (binA Pg .eql 3 true r2 (I 1)) fun r7 =>
 cndA r7
 (ob (partA false 2 1 b1) fun r8 =>
 ob (binA Pg .eql 9 true r8 (S ⟨#[]⟩)) fun r9 =>
 cndA r9
 (ob (partA false 1 1 b1) fun r10 =>
 ob (binA Pg .andNot 2 true r10 (I 1)) fun r11 =>
 ob (binA Pg .eql 2 true r11 (I 0)) fun r12 =>
 f121_j17 r12 H Q)
 (f121_j17 (B false) H Q))
 (ob (binA Pg .eql 3 true r2 (I 2)) fun r13 =>
 cndA r13
 (ob (partA false 2 1 b1) fun r14 =>
 ob (binA Pg .eql 9 true r14 (S ⟨#[]⟩)) fun r15 =>
 Q r15 H)
 (ob (binA Pg .eql 3 true r2 (I 3)) fun r16 =>
 cndA r16
 (ob (partA false 1 1 b1) fun r17 =>
 ob (binA Pg .eql 2 true r17 (I 0)) fun r18 =>
 cndA r18
 (ob (partA false 2 1 b1) fun r19 =>
 ob (lenSA r19) fun r20 =>
 ob (binA Pg .leq 3 true r20 (I 256)) fun r21 =>
 f121_j29 r21 H Q)
 (f121_j29 (B false) H Q))
 (Q (B false) H)))) :=
 Ev_eq.trans (by kernel_rfl)
def f122_l6 (x0:AV) (x6:AV) (H:Heap) (Q:Post):Prop:=AtF Pg Hs 122 [1,0,1,0] Q [(0,.val x0),(6,.val x6)] H
def f122_j18 (x0:AV) (x6:AV) (x22:AV) (H:Heap) (Q:Post):Prop:=AtJ Pg Hs 122 [1,0,1,0,0,1,1,0,1,1] Q [(0,.val x0),(6,.val x6),(22,.val x22)] H
def f122_j25 (x2:AV) (H:Heap) (Q:Post):Prop:=AtJ Pg Hs 122 [1,1,1] Q [(2,.val x2)] H
theorem f122_l6_eq (x0:AV) (x6:AV) (H:Heap) (Q:Post):f122_l6 x0 x6 H Q =
 nextA x6 H fun r3 H4 =>
 ob (extractA r3 0) fun r5 =>
 cndA r5
 (ob (extractA r3 1) fun r6 =>
 ob (extractA r3 2) fun r7 =>
 E 199 [r7] H4 fun r8 H9 =>
 ob (unA .not r8) fun r10 =>
 cndA r10
 (f122_j18 x0 x6 (B true) H9 Q)
 (ob (binA Pg .eql 3 true r6 (I 0)) fun r11 =>
 cndA r11
 (E 200 [r7] H9 fun r12 H13 =>
 ob (unA .not r12) fun r14 =>
 f122_j18 x0 x6 r14 H13 Q)
 (f122_j18 x0 x6 (B false) H9 Q)))
 (ob (binA Pg .neq 9 true x0 (S ⟨#[]⟩)) fun r15 =>
 cndA r15
 (ob (lenSA x0) fun r16 =>
 ob (binA Pg .leq 3 true r16 (I 32)) fun r17 =>
 f122_j25 r17 H4 Q)
 (f122_j25 (B false) H4 Q)) :=
 (AtF_eq Pg Hs 122 [1,0,1,0] Q _ H).trans (by kernel_rfl)
theorem f122_j18_eq (x0:AV) (x6:AV) (x22:AV) (H:Heap) (Q:Post):f122_j18 x0 x6 x22 H Q =
 cndA x22
 (Q (B false) H)
 (f122_l6 x0 x6 H Q) :=
 (AtJ_eq Pg Hs 122 [1,0,1,0,0,1,1,0,1,1] Q _ H).trans (by kernel_rfl)
theorem f122_j25_eq (x2:AV) (H:Heap) (Q:Post):f122_j25 x2 H Q =
 Q x2 H :=
 (AtJ_eq Pg Hs 122 [1,1,1] Q _ H).trans (by kernel_rfl)
theorem f122_eq (a0:AV) (H:Heap) (Q:Post):E 122 [a0] H Q =
 rngA a0 H fun r1 H2 =>
 f122_l6 a0 r1 H2 Q :=
 Ev_eq.trans (by kernel_rfl)
def f123_j4 (x2:AV) (H:Heap) (Q:Post):Prop:=AtJ Pg Hs 123 [1,1] Q [(2,.val x2)] H
theorem f123_j4_eq (x2:AV) (H:Heap) (Q:Post):f123_j4 x2 H Q =
 Q x2 H :=
 (AtJ_eq Pg Hs 123 [1,1] Q _ H).trans (by kernel_rfl)
theorem f123_eq (a0:AV) (H:Heap) (Q:Post):E 123 [a0] H Q =
 ob (sizedA 7 a0) fun b1 =>
 ob (partA true 1 3 b1) fun r2 =>
 ob (bldA [] [(I 0),(I 0),(S ⟨#[]⟩)]) fun r3 =>
 ob (binA Pg .eql 23 false r2 r3) fun r4 =>
 cndA r4
 (ob (partA false 4 1 b1) fun r5 =>
 ob (binA Pg .eql 9 true r5 (S ⟨#[]⟩)) fun r6 =>
 cndA r6
 (ob (partA false 5 1 b1) fun r7 =>
 ob (binA Pg .eql 9 true r7 (S ⟨#[]⟩)) fun r8 =>
 f123_j4 r8 H Q)
 (f123_j4 (B false) H Q))
 (f123_j4 (B false) H Q) :=
 Ev_eq.trans (by kernel_rfl)
theorem f124_eq (a0 a1:AV) (H:Heap) (Q:Post):E 124 [a0,a1] H Q =
 ob (sizedA 7 a0) fun b1 =>
 ob (partA false 0 1 b1) fun r2 =>
 ob (addPA a1 0) fun r3 =>
 ob (ldH H false 1 r3) fun r4 =>
 ob (binA Pg .eql 3 false r2 r4) fun r5 =>
 Q r5 H :=
 Ev_eq.trans (by kernel_rfl)
def f125_j4 (x2:AV) (H:Heap) (Q:Post):Prop:=AtJ Pg Hs 125 [1,1] Q [(2,.val x2)] H
theorem f125_j4_eq (x2:AV) (H:Heap) (Q:Post):f125_j4 x2 H Q =
 Q x2 H :=
 (AtJ_eq Pg Hs 125 [1,1] Q _ H).trans (by kernel_rfl)
theorem f125_eq (a0:AV) (H:Heap) (Q:Post):E 125 [a0] H Q =
 ob (binA Pg .eql 3 true a0 (I 16)) fun r1 =>
 cndA r1
 (f125_j4 (B true) H Q)
 (ob (binA Pg .eql 3 true a0 (I 17)) fun r2 =>
 f125_j4 r2 H Q) :=
 Ev_eq.trans (by kernel_rfl)
theorem f126_eq (a0 a1:AV) (H:Heap) (Q:Post):E 126 [a0,a1] H Q =
 E 201 [a0,a1] H fun r1 H2 =>
 ob (binA Pg .geq 3 true r1 (I 0)) fun r3 =>
 Q r3 H2 :=
 Ev_eq.trans (by kernel_rfl)
theorem f127_eq (a0 a1:AV) (H:Heap) (Q:Post):E 127 [a0,a1] H Q =
 ob (sizedA 7 a0) fun b1 =>
 ob (sizedA 7 a1) fun b2 =>
 ob (partA false 0 1 b1) fun r3 =>
 ob (partA false 0 1 b2) fun r4 =>
 ob (partA true 1 3 b1) fun r5 =>
 ob (partA true 1 3 b2) fun r6 =>
 ob (partA false 4 1 b1) fun r7 =>
 ob (partA false 4 1 b2) fun r8 =>
 ob (partA false 5 1 b1) fun r9 =>
 ob (partA false 5 1 b2) fun r10 =>
 ob (partA false 6 1 b1) fun r11 =>
 ob (lenA r11) fun r12 =>
 ob (partA false 6 1 b2) fun r13 =>
 ob (lenA r13) fun r14 =>
 E 203 [r3,r4] H fun r15 H16 =>
 E 204 [r5,r6] H16 fun r17 H18 =>
 E 205 [r7,r8] H18 fun r19 H20 =>
 E 205 [r9,r10] H20 fun r21 H22 =>
 E 203 [r12,r14] H22 fun r23 H24 =>
 ob (mkSlA 1 [r15,r17,r19,r21,r23]) fun r25 =>
 E 202 [r25] H24 fun r26 H27 =>
 Q r26 H27 :=
 Ev_eq.trans (by kernel_rfl)
theorem f130_eq (a0 a1:AV) (H:Heap) (Q:Post):E 130 [a0,a1] H Q =
 E 206 [a0,(I 1),a1] H fun r1 H2 =>
 Q r1 H2 :=
 Ev_eq.trans (by kernel_rfl)
def f173_j4 (x2:AV) (H:Heap) (Q:Post):Prop:=AtJ Pg Hs 173 [1,1] Q [(2,.val x2)] H
theorem f173_j4_eq (x2:AV) (H:Heap) (Q:Post):f173_j4 x2 H Q =
 Q x2 H :=
 (AtJ_eq Pg Hs 173 [1,1] Q _ H).trans (by kernel_rfl)
theorem f173_eq (a0:AV) (H:Heap) (Q:Post):E 173 [a0] H Q =
 ob (binA Pg .eql 5 true a0 (AV.raw (.int .u8 32))) fun r1 =>
 cndA r1
 (f173_j4 (B true) H Q)
 (ob (binA Pg .eql 5 true a0 (AV.raw (.int .u8 9))) fun r2 =>
 cndA r2
 (f173_j4 (B true) H Q)
 (ob (binA Pg .eql 5 true a0 (AV.raw (.int .u8 10))) fun r3 =>
 f173_j4 r3 H Q)) :=
 Ev_eq.trans (by kernel_rfl)
theorem f174_eq (a0:AV) (H:Heap) (Q:Post):E 174 [a0] H Q =
 E 242 [a0] H fun r1 H2 =>
 E 241 [r1] H2 fun r3 H4 =>
 ob (extractA r3 0) fun r5 =>
 ob (extractA r3 1) fun r6 =>
 ob (extractA r3 2) fun r7 =>
 ob (binA Pg .neq 27 true r7 (I 0)) fun r8 =>
 cndA r8
 (ob (bldA [] [(I 0),(S ⟨#[]⟩),(I 0)]) fun r9 =>
 ob (nilA a0) fun r10 =>
 ob (addPA r10 1) fun r11 =>
 apL r11 []
 (ob (ldH H4 false 1 r11) fun r12 =>
 ob (binA Pg .add 3 false r12 r6) fun r13 =>
 ob (sizedA 3 r9) fun b14 =>
 ob (spliceA 0 b14 [(I 0),(S ⟨#[]⟩),(I 0)]) fun b15 =>
 ob (partA true 0 3 b15) fun r16 =>
 Q (AV.tup [r16,r13,r7]) H4))
 (ob (nilA a0) fun r17 =>
 ob (addPA r17 1) fun r18 =>
 ob (ldH H4 false 1 r18) fun r19 =>
 ob (bldA [(0,1,(I 4)),(1,1,r5),(2,1,r19)] [(I 0),(S ⟨#[]⟩),(I 0)]) fun r20 =>
 ob (sizedA 3 r20) fun b21 =>
 ob (spliceA 0 b21 [(I 0),(S ⟨#[]⟩),(I 0)]) fun b22 =>
 ob (nilA a0) fun r23 =>
 ob (addPA r23 1) fun r24 =>
 ob (ldH H4 false 1 r24) fun r25 =>
 ob (binA Pg .add 3 false r25 r6) fun r26 =>
 ob (nilA a0) fun r27 =>
 ob (addPA r27 1) fun r28 =>
 ob (stH H4 1 r28 r26) fun H29 =>
 ob (partA true 0 3 b22) fun r30 =>
 ob (nilA a0) fun r31 =>
 ob (addPA r31 1) fun r32 =>
 apL r32 []
 (ob (ldH H29 false 1 r32) fun r33 =>
 ob (sizedA 3 r30) fun b34 =>
 ob (spliceA 0 b34 [(I 0),(S ⟨#[]⟩),(I 0)]) fun b35 =>
 ob (partA true 0 3 b35) fun r36 =>
 Q (AV.tup [r36,r33,(I 0)]) H29)) :=
 Ev_eq.trans (by kernel_rfl)
def f175_j4 (x2:AV) (H:Heap) (Q:Post):Prop:=AtJ Pg Hs 175 [1,1] Q [(2,.val x2)] H
theorem f175_j4_eq (x2:AV) (H:Heap) (Q:Post):f175_j4 x2 H Q =
 Q x2 H :=
 (AtJ_eq Pg Hs 175 [1,1] Q _ H).trans (by kernel_rfl)
theorem f175_eq (a0:AV) (H:Heap) (Q:Post):E 175 [a0] H Q =
 ob (binA Pg .geq 21 true a0 (AV.raw (.int .i32 65))) fun r1 =>
 cndA r1
 (ob (binA Pg .leq 21 true a0 (AV.raw (.int .i32 90))) fun r2 =>
 f175_j4 r2 H Q)
 (f175_j4 (B false) H Q) :=
 Ev_eq.trans (by kernel_rfl)
def f176_j4 (x2:AV) (H:Heap) (Q:Post):Prop:=AtJ Pg Hs 176 [1,1] Q [(2,.val x2)] H
theorem f176_j4_eq (x2:AV) (H:Heap) (Q:Post):f176_j4 x2 H Q =
 Q x2 H :=
 (AtJ_eq Pg Hs 176 [1,1] Q _ H).trans (by kernel_rfl)
theorem f176_eq (a0:AV) (H:Heap) (Q:Post):E 176 [a0] H Q =
 ob (binA Pg .geq 21 true a0 (AV.raw (.int .i32 97))) fun r1 =>
 cndA r1
 (ob (binA Pg .leq 21 true a0 (AV.raw (.int .i32 122))) fun r2 =>
 f176_j4 r2 H Q)
 (f176_j4 (B false) H Q) :=
 Ev_eq.trans (by kernel_rfl)
def f177_j4 (x2:AV) (H:Heap) (Q:Post):Prop:=AtJ Pg Hs 177 [1,1] Q [(2,.val x2)] H
theorem f177_j4_eq (x2:AV) (H:Heap) (Q:Post):f177_j4 x2 H Q =
 Q x2 H :=
 (AtJ_eq Pg Hs 177 [1,1] Q _ H).trans (by kernel_rfl)
theorem f177_eq (a0:AV) (H:Heap) (Q:Post):E 177 [a0] H Q =
 ob (binA Pg .geq 21 true a0 (AV.raw (.int .i32 48))) fun r1 =>
 cndA r1
 (ob (binA Pg .leq 21 true a0 (AV.raw (.int .i32 57))) fun r2 =>
 f177_j4 r2 H Q)
 (f177_j4 (B false) H Q) :=
 Ev_eq.trans (by kernel_rfl)
def f178_j41 (x0:AV) (x1:AV) (x4:List AV) (x6:AV) (H:Heap) (Q:Post):Prop:=AtJ Pg Hs 178 [1,1,1] Q [(0,.val x0),(1,.val x1),(4,.lbox x4),(6,.val x6)] H
def f178_j36 (x0:AV) (x1:AV) (x4:List AV) (x6:AV) (x28:AV) (H:Heap) (Q:Post):Prop:=AtJ Pg Hs 178 [1,1,0,1,0,1,1,1,1,1,1] Q [(0,.val x0),(1,.val x1),(4,.lbox x4),(6,.val x6),(28,.val x28)] H
theorem f178_j41_eq (x0:AV) (x1:AV) (x4:List AV) (x6:AV) (H:Heap) (Q:Post):f178_j41 x0 x1 x4 x6 H Q =
 E 245 [x0,x1,x6] H fun r35 H36 =>
 ob (sizedA 3 r35) fun b37 =>
 ob (spliceA 0 b37 x4) fun b38 =>
 ob (partA true 0 3 b38) fun r39 =>
 Q (AV.tup [r39,(B true)]) H36 :=
 (AtJ_eq Pg Hs 178 [1,1,1] Q _ H).trans (by kernel_rfl)
theorem f178_j36_eq (x0:AV) (x1:AV) (x4:List AV) (x6:AV) (x28:AV) (H:Heap) (Q:Post):f178_j36 x0 x1 x4 x6 x28 H Q =
 cndA x28
 (ob (bldA [] [(I 0),(S ⟨#[]⟩),(I 0)]) fun r40 =>
 ob (sizedA 3 r40) fun b41 =>
 ob (spliceA 0 b41 x4) fun b42 =>
 ob (partA true 0 3 b42) fun r43 =>
 Q (AV.tup [r43,(B false)]) H)
 (f178_j41 x0 x1 x4 x6 H Q) :=
 (AtJ_eq Pg Hs 178 [1,1,0,1,0,1,1,1,1,1,1] Q _ H).trans (by kernel_rfl)
theorem f178_eq (a0 a1:AV) (H:Heap) (Q:Post):E 178 [a0,a1] H Q =
 ob (binA Pg .eql 3 true a1 (I 1)) fun r1 =>
 cndA r1
 (E 242 [a0] H fun r2 H3 =>
 E 243 [r2,(AV.fn (.func 175) [] [])] H3 fun r4 H5 =>
 ob (binA Pg .gtr 3 true r4 (I 32)) fun r6 =>
 cndA r6
 (ob (bldA [] [(I 0),(S ⟨#[]⟩),(I 0)]) fun r7 =>
 ob (sizedA 3 r7) fun b8 =>
 ob (spliceA 0 b8 [(I 0),(S ⟨#[]⟩),(I 0)]) fun b9 =>
 ob (partA true 0 3 b9) fun r10 =>
 Q (AV.tup [r10,(B false)]) H5)
 (f178_j41 a0 a1 [(I 0),(S ⟨#[]⟩),(I 0)] r4 H5 Q))
 (ob (binA Pg .eql 3 true a1 (I 2)) fun r11 =>
 cndA r11
 (E 242 [a0] H fun r12 H13 =>
 E 243 [r12,(AV.fn (.func 244) [] [])] H13 fun r14 H15 =>
 ob (binA Pg .gtr 3 true r14 (I 32)) fun r16 =>
 cndA r16
 (ob (bldA [] [(I 0),(S ⟨#[]⟩),(I 0)]) fun r17 =>
 ob (sizedA 3 r17) fun b18 =>
 ob (spliceA 0 b18 [(I 0),(S ⟨#[]⟩),(I 0)]) fun b19 =>
 ob (partA true 0 3 b19) fun r20 =>
 Q (AV.tup [r20,(B false)]) H15)
 (f178_j41 a0 a1 [(I 0),(S ⟨#[]⟩),(I 0)] r14 H15 Q))
 (E 242 [a0] H fun r21 H22 =>
 E 243 [r21,(AV.fn (.func 177) [] [])] H22 fun r23 H24 =>
 ob (binA Pg .gtr 3 true r23 (I 19)) fun r25 =>
 cndA r25
 (f178_j36 a0 a1 [(I 0),(S ⟨#[]⟩),(I 0)] r23 (B true) H24 Q)
 (ob (binA Pg .gtr 3 true r23 (I 1)) fun r26 =>
 cndA r26
 (ob (nilA a0) fun r27 =>
 ob (addPA r27 0) fun r28 =>
 ob (ldH H24 false 1 r28) fun r29 =>
 ob (nilA a0) fun r30 =>
 ob (addPA r30 1) fun r31 =>
 ob (ldH H24 false 1 r31) fun r32 =>
 ob (ixA r29 r32) fun r33 =>
 ob (binA Pg .eql 5 true r33 (AV.raw (.int .u8 48))) fun r34 =>
 f178_j36 a0 a1 [(I 0),(S ⟨#[]⟩),(I 0)] r23 r34 H24 Q)
 (f178_j36 a0 a1 [(I 0),(S ⟨#[]⟩),(I 0)] r23 (B false) H24 Q)))) :=
 Ev_eq.trans (by kernel_rfl)
def f179_l6 (x0:AV) (x2:List AV) (x6:AV) (x7:AV) (H:Heap) (Q:Post):Prop:=AtF Pg Hs 179 [1,0,1,0] Q [(0,.val x0),(2,.lbox x2),(6,.val x6),(7,.val x7)] H
theorem f179_l6_eq (x0:AV) (x2:List AV) (x6:AV) (x7:AV) (H:Heap) (Q:Post):f179_l6 x0 x2 x6 x7 H Q =
 ob (binA Pg .lss 3 true x7 (I 22)) fun r3 =>
 cndA r3
 (ob (ixAgg 22 false 1 x6 x7) fun r4 =>
 E 242 [x0] H fun r5 H6 =>
 E 247 [r5,r4] H6 fun r7 H8 =>
 cndA r7
 (ob (lenSA r4) fun r9 =>
 E 245 [x0,(I 5),r9] H8 fun r10 H11 =>
 ob (sizedA 3 r10) fun b12 =>
 ob (spliceA 0 b12 x2) fun b13 =>
 ob (partA true 0 3 b13) fun r14 =>
 Q (AV.tup [r14,(B true)]) H11)
 (ob (binA Pg .add 3 true x7 (I 1)) fun r15 =>
 f179_l6 x0 x2 x6 r15 H8 Q))
 (ob (bldA [] [(I 0),(S ⟨#[]⟩),(I 0)]) fun r16 =>
 ob (sizedA 3 r16) fun b17 =>
 ob (spliceA 0 b17 x2) fun b18 =>
 ob (partA true 0 3 b18) fun r19 =>
 Q (AV.tup [r19,(B false)]) H) :=
 (AtF_eq Pg Hs 179 [1,0,1,0] Q _ H).trans (by kernel_rfl)
theorem f179_eq (a0:AV) (H:Heap) (Q:Post):E 179 [a0] H Q =
 E 246 [] H fun r1 H2 =>
 f179_l6 a0 [(I 0),(S ⟨#[]⟩),(I 0)] r1 (I 0) H2 Q :=
 Ev_eq.trans (by kernel_rfl)
end Go.Hx

