/- Printed by gen.py (own work): each function as the abstract machine has it. -/
import Derived.Test.YtancdapnpceogaaGreatS5H
import Derived.KernelRfl
set_option linter.unusedVariables false
namespace Go.Hx
def f9_j15 (x1:List AV) (x3:AV) (x4:AV) (x24:AV) (H:Heap) (Q:Post):Prop:=AtJ Pg Hs 9 [1,1,1,0,1] Q [(1,.lbox x1),(3,.val x3),(4,.val x4),(24,.val x24)] H
def f9_j18 (x2:AV) (H:Heap) (Q:Post):Prop:=AtJ Pg Hs 9 [1,1,1,0,1,0,1] Q [(2,.val x2)] H
def f9_c7_8a (x1:List AV) (x5:List AV) (x47:AV) (H:Heap) (Q:Post):Prop:=AtJ Pg Hs 9 [1,1,1,1,1,0,8] Q [(1,.lbox x1),(5,.lbox x5),(47,.val x47)] H
def f9_c7_8b (x1:List AV) (x5:List AV) (H:Heap) (Q:Post):Prop:=AtJ Pg Hs 9 [1,1,1,1,1,0,8] Q [(1,.lbox x1),(5,.lbox x5),(47,.val (B false))] H
def f9_c7_13a (x1:List AV) (x5:List AV) (x52:AV) (H:Heap) (Q:Post):Prop:=AtJ Pg Hs 9 [1,1,1,1,1,0,13] Q [(1,.lbox x1),(5,.lbox x5),(52,.val x52)] H
def f9_c7_13b (x1:List AV) (x5:List AV) (H:Heap) (Q:Post):Prop:=AtJ Pg Hs 9 [1,1,1,1,1,0,13] Q [(1,.lbox x1),(5,.lbox x5),(52,.val (B false))] H
def f9_c7_16a (x1:List AV) (x5:List AV) (x55:AV) (H:Heap) (Q:Post):Prop:=AtJ Pg Hs 9 [1,1,1,1,1,0,16] Q [(1,.lbox x1),(5,.lbox x5),(55,.val x55)] H
def f9_c7_16b (x1:List AV) (x5:List AV) (H:Heap) (Q:Post):Prop:=AtJ Pg Hs 9 [1,1,1,1,1,0,16] Q [(1,.lbox x1),(5,.lbox x5),(55,.val (B false))] H
def f9_j24 (x2:AV) (H:Heap) (Q:Post):Prop:=AtJ Pg Hs 9 [1,1,1,1,1,1] Q [(2,.val x2)] H
theorem f9_j15_eq (x1:List AV) (x3:AV) (x4:AV) (x24:AV) (H:Heap) (Q:Post):f9_j15 x1 x3 x4 x24 H Q =
 cndA x24
 (ob (binA Pg .eql 27 true x4 (I 0)) fun r15 =>
 cndA r15
 (E 33 [] H fun r16 H17 =>
 f9_j18 r16 H17 Q)
 (ob (binA Pg .eql 9 true x3 (S ⟨#[]⟩)) fun r18 =>
 cndA r18
 (E 33 [] H fun r19 H20 =>
 f9_j18 r19 H20 Q)
 (f9_j18 (B false) H Q)))
 (E 30 [x3] H fun r21 H22 =>
 ob (extractA r21 0) fun r23 =>
 ob (extractA r21 1) fun r24 =>
 ob (extractA r21 2) fun r25 =>
 ob (sizedA 11 r23) fun b26 =>
 ob (spliceA 0 b26 [(I 0),(S ⟨#[]⟩),(S ⟨#[]⟩),(I 0),(I 0),(AV.sl 0 true .full []),(AV.sl 0 true .full []),(S ⟨#[]⟩),(I 0),(I 0),(AV.sl 0 true .full [])]) fun b27 =>
 ob (binA Pg .eql 27 true r25 (I 0)) fun r28 =>
 cndA r28
 (ob (lenSA x3) fun r29 =>
 ob (binA Pg .eql 3 false r24 r29) fun r30 =>
 f9_c7_8a x1 b27 r30 H22 Q)
 (f9_c7_8b x1 b27 H22 Q)) :=
 (AtJ_eq Pg Hs 9 [1,1,1,0,1] Q _ H).trans (by kernel_rfl)
theorem f9_j18_eq (x2:AV) (H:Heap) (Q:Post):f9_j18 x2 H Q =
 Q x2 H :=
 (AtJ_eq Pg Hs 9 [1,1,1,0,1,0,1] Q _ H).trans (by kernel_rfl)
theorem f9_c7_8a_eq (x1:List AV) (x5:List AV) (x47:AV) (H:Heap) (Q:Post):f9_c7_8a x1 x5 x47 H Q =
 cndA x47
 (ob (partA true 0 11 x5) fun r31 =>
 ob (partA true 0 11 x1) fun r32 =>
 E 39 [r31,r32] H fun r33 H34 =>
 f9_c7_13a x1 x5 r33 H34 Q)
 (f9_c7_13b x1 x5 H Q) :=
 (AtJ_eq Pg Hs 9 [1,1,1,1,1,0,8] Q _ H).trans (by kernel_rfl)
theorem f9_c7_13a_eq (x1:List AV) (x5:List AV) (x52:AV) (H:Heap) (Q:Post):f9_c7_13a x1 x5 x52 H Q =
 cndA x52
 (E 33 [] H fun r35 H36 =>
 f9_c7_16a x1 x5 r35 H36 Q)
 (f9_c7_16b x1 x5 H Q) :=
 (AtJ_eq Pg Hs 9 [1,1,1,1,1,0,13] Q _ H).trans (by kernel_rfl)
theorem f9_c7_16a_eq (x1:List AV) (x5:List AV) (x55:AV) (H:Heap) (Q:Post):f9_c7_16a x1 x5 x55 H Q =
 f9_j24 x55 H Q :=
 (AtJ_eq Pg Hs 9 [1,1,1,1,1,0,16] Q _ H).trans (by kernel_rfl)
theorem f9_j24_eq (x2:AV) (H:Heap) (Q:Post):f9_j24 x2 H Q =
 Q x2 H :=
 (AtJ_eq Pg Hs 9 [1,1,1,1,1,1] Q _ H).trans (by kernel_rfl)
theorem f9_eq (a0:AV) (H:Heap) (Q:Post):E 9 [a0] H Q =
 ob (sizedA 11 a0) fun b1 =>
 ob (partA true 0 11 b1) fun r2 =>
 E 37 [r2] H fun r3 H4 =>
 ob (extractA r3 0) fun r5 =>
 ob (extractA r3 1) fun r6 =>
 ob (binA Pg .eql 27 true r6 (I 0)) fun r7 =>
 ob (partA true 0 11 b1) fun r8 =>
 E 38 [r8] H4 fun r9 H10 =>
 ob (binA Pg .neq 4 false r7 r9) fun r11 =>
 cndA r11
 (Q (B false) H10)
 (ob (binA Pg .neq 27 true r6 (I 0)) fun r12 =>
 cndA r12
 (f9_j15 b1 r5 r6 (B true) H10 Q)
 (ob (lenSA r5) fun r13 =>
 ob (binA Pg .gtr 3 true r13 (I 8192)) fun r14 =>
 f9_j15 b1 r5 r6 r14 H10 Q)) :=
 Ev_eq.trans (by kernel_rfl)
def f10_c3_8a (x3:List AV) (x28:AV) (H:Heap) (Q:Post):Prop:=AtJ Pg Hs 10 [1,1,0,1,0,0,8] Q [(3,.lbox x3),(28,.val x28)] H
def f10_c3_8b (x3:List AV) (H:Heap) (Q:Post):Prop:=AtJ Pg Hs 10 [1,1,0,1,0,0,8] Q [(3,.lbox x3),(28,.val (B false))] H
def f10_c5_8a (x3:List AV) (x6:AV) (H:Heap) (Q:Post):Prop:=AtJ Pg Hs 10 [1,1,1,1,0,0,8] Q [(3,.lbox x3),(6,.val x6),(49,.val (B true))] H
def f10_c5_8b (x3:List AV) (x6:AV) (x49:AV) (H:Heap) (Q:Post):Prop:=AtJ Pg Hs 10 [1,1,1,1,0,0,8] Q [(3,.lbox x3),(6,.val x6),(49,.val x49)] H
def f10_c3_13a (x3:List AV) (x33:AV) (H:Heap) (Q:Post):Prop:=AtJ Pg Hs 10 [1,1,0,1,0,0,13] Q [(3,.lbox x3),(33,.val x33)] H
def f10_c3_13b (x3:List AV) (H:Heap) (Q:Post):Prop:=AtJ Pg Hs 10 [1,1,0,1,0,0,13] Q [(3,.lbox x3),(33,.val (B false))] H
def f10_c5_13a (x3:List AV) (x6:AV) (H:Heap) (Q:Post):Prop:=AtJ Pg Hs 10 [1,1,1,1,0,0,13] Q [(3,.lbox x3),(6,.val x6),(54,.val (B true))] H
def f10_c5_13b (x3:List AV) (x6:AV) (x54:AV) (H:Heap) (Q:Post):Prop:=AtJ Pg Hs 10 [1,1,1,1,0,0,13] Q [(3,.lbox x3),(6,.val x6),(54,.val x54)] H
def f10_c3_16a (x3:List AV) (x36:AV) (H:Heap) (Q:Post):Prop:=AtJ Pg Hs 10 [1,1,0,1,0,0,16] Q [(3,.lbox x3),(36,.val x36)] H
def f10_c3_16b (x3:List AV) (H:Heap) (Q:Post):Prop:=AtJ Pg Hs 10 [1,1,0,1,0,0,16] Q [(3,.lbox x3),(36,.val (B false))] H
def f10_c5_19a (x3:List AV) (x6:AV) (H:Heap) (Q:Post):Prop:=AtJ Pg Hs 10 [1,1,1,1,0,0,19] Q [(3,.lbox x3),(6,.val x6),(60,.val (B true))] H
def f10_c5_19b (x3:List AV) (x6:AV) (x60:AV) (H:Heap) (Q:Post):Prop:=AtJ Pg Hs 10 [1,1,1,1,0,0,19] Q [(3,.lbox x3),(6,.val x6),(60,.val x60)] H
def f10_j10 (x2:AV) (H:Heap) (Q:Post):Prop:=AtJ Pg Hs 10 [1,1,0,1,0,1] Q [(2,.val x2)] H
def f10_j17 (x3:List AV) (x6:AV) (x65:AV) (H:Heap) (Q:Post):Prop:=AtJ Pg Hs 10 [1,1,1,1,0,1] Q [(3,.lbox x3),(6,.val x6),(65,.val x65)] H
def f10_c11_6a (x3:List AV) (x6:AV) (x8:List AV) (x11:AV) (x86:AV) (H:Heap) (Q:Post):Prop:=AtJ Pg Hs 10 [1,1,1,1,1,1,1,1,0,6] Q [(3,.lbox x3),(6,.val x6),(8,.lbox x8),(11,.val x11),(86,.val x86)] H
def f10_c11_6b (x3:List AV) (x6:AV) (x8:List AV) (x11:AV) (H:Heap) (Q:Post):Prop:=AtJ Pg Hs 10 [1,1,1,1,1,1,1,1,0,6] Q [(3,.lbox x3),(6,.val x6),(8,.lbox x8),(11,.val x11),(86,.val (B false))] H
def f10_c11_11a (x3:List AV) (x6:AV) (x8:List AV) (x11:AV) (x91:AV) (H:Heap) (Q:Post):Prop:=AtJ Pg Hs 10 [1,1,1,1,1,1,1,1,0,11] Q [(3,.lbox x3),(6,.val x6),(8,.lbox x8),(11,.val x11),(91,.val x91)] H
def f10_c11_11b (x3:List AV) (x6:AV) (x8:List AV) (x11:AV) (H:Heap) (Q:Post):Prop:=AtJ Pg Hs 10 [1,1,1,1,1,1,1,1,0,11] Q [(3,.lbox x3),(6,.val x6),(8,.lbox x8),(11,.val x11),(91,.val (B false))] H
def f10_c11_16a (x3:List AV) (x8:List AV) (x96:AV) (H:Heap) (Q:Post):Prop:=AtJ Pg Hs 10 [1,1,1,1,1,1,1,1,0,16] Q [(3,.lbox x3),(8,.lbox x8),(96,.val x96)] H
def f10_c11_16b (x3:List AV) (x8:List AV) (H:Heap) (Q:Post):Prop:=AtJ Pg Hs 10 [1,1,1,1,1,1,1,1,0,16] Q [(3,.lbox x3),(8,.lbox x8),(96,.val (B false))] H
def f10_c11_19a (x3:List AV) (x8:List AV) (x99:AV) (H:Heap) (Q:Post):Prop:=AtJ Pg Hs 10 [1,1,1,1,1,1,1,1,0,19] Q [(3,.lbox x3),(8,.lbox x8),(99,.val x99)] H
def f10_c11_19b (x3:List AV) (x8:List AV) (H:Heap) (Q:Post):Prop:=AtJ Pg Hs 10 [1,1,1,1,1,1,1,1,0,19] Q [(3,.lbox x3),(8,.lbox x8),(99,.val (B false))] H
def f10_j36 (x2:AV) (H:Heap) (Q:Post):Prop:=AtJ Pg Hs 10 [1,1,1,1,1,1,1,1,1] Q [(2,.val x2)] H
theorem f10_c3_8a_eq (x3:List AV) (x28:AV) (H:Heap) (Q:Post):f10_c3_8a x3 x28 H Q =
 cndA x28
 (ob (partA true 0 11 x3) fun r20 =>
 ob (bldA [] [(I 0),(S ⟨#[]⟩),(S ⟨#[]⟩),(I 0),(I 0),(AV.sl 0 true .full []),(AV.sl 0 true .full []),(S ⟨#[]⟩),(I 0),(I 0),(AV.sl 0 true .full [])]) fun r21 =>
 E 39 [r20,r21] H fun r22 H23 =>
 f10_c3_13a x3 r22 H23 Q)
 (f10_c3_13b x3 H Q) :=
 (AtJ_eq Pg Hs 10 [1,1,0,1,0,0,8] Q _ H).trans (by kernel_rfl)
theorem f10_c5_8b_eq (x3:List AV) (x6:AV) (x49:AV) (H:Heap) (Q:Post):f10_c5_8b x3 x6 x49 H Q =
 cndA x49
 (f10_c5_13a x3 x6 H Q)
 (ob (partA true 0 11 x3) fun r24 =>
 E 40 [r24] H fun r25 H26 =>
 ob (binA Pg .neq 27 true r25 (I 0)) fun r27 =>
 f10_c5_13b x3 x6 r27 H26 Q) :=
 (AtJ_eq Pg Hs 10 [1,1,1,1,0,0,8] Q _ H).trans (by kernel_rfl)
theorem f10_c3_13a_eq (x3:List AV) (x33:AV) (H:Heap) (Q:Post):f10_c3_13a x3 x33 H Q =
 cndA x33
 (E 33 [] H fun r28 H29 =>
 f10_c3_16a x3 r28 H29 Q)
 (f10_c3_16b x3 H Q) :=
 (AtJ_eq Pg Hs 10 [1,1,0,1,0,0,13] Q _ H).trans (by kernel_rfl)
theorem f10_c5_13b_eq (x3:List AV) (x6:AV) (x54:AV) (H:Heap) (Q:Post):f10_c5_13b x3 x6 x54 H Q =
 cndA x54
 (f10_c5_19a x3 x6 H Q)
 (ob (partA true 0 6 x3) fun r30 =>
 E 41 [r30] H fun r31 H32 =>
 ob (binA Pg .neq 27 true r31 (I 0)) fun r33 =>
 f10_c5_19b x3 x6 r33 H32 Q) :=
 (AtJ_eq Pg Hs 10 [1,1,1,1,0,0,13] Q _ H).trans (by kernel_rfl)
theorem f10_c3_16a_eq (x3:List AV) (x36:AV) (H:Heap) (Q:Post):f10_c3_16a x3 x36 H Q =
 f10_j10 x36 H Q :=
 (AtJ_eq Pg Hs 10 [1,1,0,1,0,0,16] Q _ H).trans (by kernel_rfl)
theorem f10_c5_19b_eq (x3:List AV) (x6:AV) (x60:AV) (H:Heap) (Q:Post):f10_c5_19b x3 x6 x60 H Q =
 cndA x60
 (f10_j17 x3 x6 (B true) H Q)
 (ob (partA true 0 11 x3) fun r34 =>
 E 38 [r34] H fun r35 H36 =>
 ob (unA .not r35) fun r37 =>
 f10_j17 x3 x6 r37 H36 Q) :=
 (AtJ_eq Pg Hs 10 [1,1,1,1,0,0,19] Q _ H).trans (by kernel_rfl)
theorem f10_j10_eq (x2:AV) (H:Heap) (Q:Post):f10_j10 x2 H Q =
 Q x2 H :=
 (AtJ_eq Pg Hs 10 [1,1,0,1,0,1] Q _ H).trans (by kernel_rfl)
theorem f10_j17_eq (x3:List AV) (x6:AV) (x65:AV) (H:Heap) (Q:Post):f10_j17 x3 x6 x65 H Q =
 cndA x65
 (Q (B false) H)
 (ob (lenSA x6) fun r38 =>
 ob (binA Pg .gtr 3 true r38 (I 8192)) fun r39 =>
 cndA r39
 (E 33 [] H fun r40 H41 =>
 Q r40 H41)
 (E 30 [x6] H fun r42 H43 =>
 ob (extractA r42 0) fun r44 =>
 ob (extractA r42 1) fun r45 =>
 ob (extractA r42 2) fun r46 =>
 ob (sizedA 11 r44) fun b47 =>
 ob (spliceA 0 b47 [(I 0),(S ⟨#[]⟩),(S ⟨#[]⟩),(I 0),(I 0),(AV.sl 0 true .full []),(AV.sl 0 true .full []),(S ⟨#[]⟩),(I 0),(I 0),(AV.sl 0 true .full [])]) fun b48 =>
 ob (partA true 0 11 b48) fun r49 =>
 E 37 [r49] H43 fun r50 H51 =>
 ob (extractA r50 0) fun r52 =>
 ob (extractA r50 1) fun r53 =>
 ob (binA Pg .eql 27 true r46 (I 0)) fun r54 =>
 cndA r54
 (ob (binA Pg .eql 27 true r53 (I 0)) fun r55 =>
 f10_c11_6a x3 x6 b48 r52 r55 H51 Q)
 (f10_c11_6b x3 x6 b48 r52 H51 Q))) :=
 (AtJ_eq Pg Hs 10 [1,1,1,1,0,1] Q _ H).trans (by kernel_rfl)
theorem f10_c11_6a_eq (x3:List AV) (x6:AV) (x8:List AV) (x11:AV) (x86:AV) (H:Heap) (Q:Post):f10_c11_6a x3 x6 x8 x11 x86 H Q =
 cndA x86
 (ob (partA true 0 11 x8) fun r56 =>
 ob (partA true 0 11 x3) fun r57 =>
 E 39 [r56,r57] H fun r58 H59 =>
 f10_c11_11a x3 x6 x8 x11 r58 H59 Q)
 (f10_c11_11b x3 x6 x8 x11 H Q) :=
 (AtJ_eq Pg Hs 10 [1,1,1,1,1,1,1,1,0,6] Q _ H).trans (by kernel_rfl)
theorem f10_c11_11a_eq (x3:List AV) (x6:AV) (x8:List AV) (x11:AV) (x91:AV) (H:Heap) (Q:Post):f10_c11_11a x3 x6 x8 x11 x91 H Q =
 cndA x91
 (ob (binA Pg .eql 9 false x11 x6) fun r60 =>
 f10_c11_16a x3 x8 r60 H Q)
 (f10_c11_16b x3 x8 H Q) :=
 (AtJ_eq Pg Hs 10 [1,1,1,1,1,1,1,1,0,11] Q _ H).trans (by kernel_rfl)
theorem f10_c11_16a_eq (x3:List AV) (x8:List AV) (x96:AV) (H:Heap) (Q:Post):f10_c11_16a x3 x8 x96 H Q =
 cndA x96
 (E 33 [] H fun r61 H62 =>
 f10_c11_19a x3 x8 r61 H62 Q)
 (f10_c11_19b x3 x8 H Q) :=
 (AtJ_eq Pg Hs 10 [1,1,1,1,1,1,1,1,0,16] Q _ H).trans (by kernel_rfl)
theorem f10_c11_19a_eq (x3:List AV) (x8:List AV) (x99:AV) (H:Heap) (Q:Post):f10_c11_19a x3 x8 x99 H Q =
 f10_j36 x99 H Q :=
 (AtJ_eq Pg Hs 10 [1,1,1,1,1,1,1,1,0,19] Q _ H).trans (by kernel_rfl)
theorem f10_j36_eq (x2:AV) (H:Heap) (Q:Post):f10_j36 x2 H Q =
 Q x2 H :=
 (AtJ_eq Pg Hs 10 [1,1,1,1,1,1,1,1,1] Q _ H).trans (by kernel_rfl)
theorem f10_eq (a0:AV) (H:Heap) (Q:Post):E 10 [a0] H Q =
 E 30 [a0] H fun r1 H2 =>
 ob (extractA r1 0) fun r3 =>
 ob (extractA r1 1) fun r4 =>
 ob (extractA r1 2) fun r5 =>
 ob (sizedA 11 r3) fun b6 =>
 ob (spliceA 0 b6 [(I 0),(S ⟨#[]⟩),(S ⟨#[]⟩),(I 0),(I 0),(AV.sl 0 true .full []),(AV.sl 0 true .full []),(S ⟨#[]⟩),(I 0),(I 0),(AV.sl 0 true .full [])]) fun b7 =>
 ob (binA Pg .neq 27 true r5 (I 0)) fun r8 =>
 cndA r8
 (ob (binA Pg .geq 3 true r4 (I 0)) fun r9 =>
 cndA r9
 (ob (lenSA a0) fun r10 =>
 ob (binA Pg .leq 3 false r4 r10) fun r11 =>
 f10_c3_8a b7 r11 H2 Q)
 (f10_c3_8b b7 H2 Q))
 (ob (partA true 0 11 b7) fun r12 =>
 E 37 [r12] H2 fun r13 H14 =>
 ob (extractA r13 0) fun r15 =>
 ob (extractA r13 1) fun r16 =>
 ob (binA Pg .neq 27 true r16 (I 0)) fun r17 =>
 cndA r17
 (f10_c5_8a b7 r15 H14 Q)
 (ob (lenSA a0) fun r18 =>
 ob (binA Pg .neq 3 false r4 r18) fun r19 =>
 f10_c5_8b b7 r15 r19 H14 Q)) :=
 Ev_eq.trans (by kernel_rfl)
def f30_j22 (x0:AV) (x2:List AV) (x8:List AV) (x9:List AV) (H:Heap) (Q:Post):Prop:=AtJ Pg Hs 30 [1,1,1,1,1,1] Q [(0,.val x0),(2,.lbox x2),(8,.lbox x8),(9,.lbox x9)] H
theorem f30_j22_eq (x0:AV) (x2:List AV) (x8:List AV) (x9:List AV) (H:Heap) (Q:Post):f30_j22 x0 x2 x8 x9 H Q =
 ob (partA false 0 1 x8) fun r22 =>
 E 63 [r22] H fun r23 H24 =>
 ob (sizedA 1 r23) fun b25 =>
 ob (spliceA 6 b25 x9) fun b26 =>
 ob (partA false 0 1 x8) fun r27 =>
 E 64 [r27] H24 fun r28 H29 =>
 ob (sizedA 1 r28) fun b30 =>
 ob (spliceA 9 b30 b26) fun b31 =>
 ob (partA false 0 1 x8) fun r32 =>
 ob (partA true 0 11 b31) fun r33 =>
 ob (lenSA x0) fun r34 =>
 E 65 [r32,r33,r34] H29 fun r35 H36 =>
 ob (extractA r35 0) fun r37 =>
 ob (extractA r35 1) fun r38 =>
 ob (extractA r35 2) fun r39 =>
 ob (sizedA 11 r37) fun b40 =>
 ob (spliceA 0 b40 x2) fun b41 =>
 ob (partA true 0 11 b41) fun r42 =>
 Q (AV.tup [r42,r38,r39]) H36 :=
 (AtJ_eq Pg Hs 30 [1,1,1,1,1,1] Q _ H).trans (by kernel_rfl)
theorem f30_eq (a0:AV) (H:Heap) (Q:Post):E 30 [a0] H Q =
 E 60 [a0] H fun r1 H2 =>
 ob (extractA r1 0) fun r3 =>
 ob (extractA r1 1) fun r4 =>
 ob (extractA r1 2) fun r5 =>
 ob (binA Pg .neq 27 true r5 (I 0)) fun r6 =>
 cndA r6
 (ob (bldA [] [(I 0),(S ⟨#[]⟩),(S ⟨#[]⟩),(I 0),(I 0),(AV.sl 0 true .full []),(AV.sl 0 true .full []),(S ⟨#[]⟩),(I 0),(I 0),(AV.sl 0 true .full [])]) fun r7 =>
 ob (sizedA 11 r7) fun b8 =>
 ob (spliceA 0 b8 [(I 0),(S ⟨#[]⟩),(S ⟨#[]⟩),(I 0),(I 0),(AV.sl 0 true .full []),(AV.sl 0 true .full []),(S ⟨#[]⟩),(I 0),(I 0),(AV.sl 0 true .full [])]) fun b9 =>
 ob (partA true 0 11 b9) fun r10 =>
 Q (AV.tup [r10,r4,r5]) H2)
 (ob (bldA [(0,1,r3)] [(AV.raw (.pointer none))]) fun r11 =>
 ob (sizedA 1 r11) fun b12 =>
 ob (spliceA 0 b12 [(AV.raw (.pointer none))]) fun b13 =>
 ob (partA false 0 1 b13) fun r14 =>
 E 61 [r14,(S ⟨#[69,86,69,82,89]⟩)] H2 fun r15 H16 =>
 cndA r15
 (ob (partA true 0 1 b13) fun r17 =>
 E 62 [r17,(I 1)] H16 fun r18 H19 =>
 ob (sizedA 6 r18) fun b20 =>
 ob (spliceA 0 b20 [(I 0),(S ⟨#[]⟩),(S ⟨#[]⟩),(I 0),(I 0),(AV.sl 0 true .full []),(AV.sl 0 true .full []),(S ⟨#[]⟩),(I 0),(I 0),(AV.sl 0 true .full [])]) fun b21 =>
 f30_j22 a0 [(I 0),(S ⟨#[]⟩),(S ⟨#[]⟩),(I 0),(I 0),(AV.sl 0 true .full []),(AV.sl 0 true .full []),(S ⟨#[]⟩),(I 0),(I 0),(AV.sl 0 true .full [])] b13 b21 H19 Q)
 (f30_j22 a0 [(I 0),(S ⟨#[]⟩),(S ⟨#[]⟩),(I 0),(I 0),(AV.sl 0 true .full []),(AV.sl 0 true .full []),(S ⟨#[]⟩),(I 0),(I 0),(AV.sl 0 true .full [])] b13 [(I 0),(S ⟨#[]⟩),(S ⟨#[]⟩),(I 0),(I 0),(AV.sl 0 true .full []),(AV.sl 0 true .full []),(S ⟨#[]⟩),(I 0),(I 0),(AV.sl 0 true .full [])] H16 Q)) :=
 Ev_eq.trans (by kernel_rfl)
def f33_j6 (x0:AV) (H:Heap) (Q:Post):Prop:=AtJ Pg Hs 33 [1,1,1] Q [(0,.val x0)] H
theorem f33_j6_eq (x0:AV) (H:Heap) (Q:Post):f33_j6 x0 H Q =
 Q x0 H :=
 (AtJ_eq Pg Hs 33 [1,1,1] Q _ H).trans (by kernel_rfl)
theorem f33_eq (_u:Unit:=()) (H:Heap) (Q:Post):E 33 [] H Q =
 ob (bldA [(0,1,(I 1)),(1,1,(S ⟨#[97]⟩)),(2,1,(S ⟨#[116]⟩))] [(I 0),(S ⟨#[]⟩),(S ⟨#[]⟩),(I 0),(I 0),(AV.sl 0 true .full [])]) fun r1 =>
 ob (bldA [(0,6,r1)] [(I 0),(S ⟨#[]⟩),(S ⟨#[]⟩),(I 0),(I 0),(AV.sl 0 true .full []),(AV.sl 0 true .full []),(S ⟨#[]⟩),(I 0),(I 0),(AV.sl 0 true .full [])]) fun r2 =>
 E 37 [r2] H fun r3 H4 =>
 ob (extractA r3 0) fun r5 =>
 ob (extractA r3 1) fun r6 =>
 ob (binA Pg .eql 27 true r6 (I 0)) fun r7 =>
 cndA r7
 (ob (binA Pg .eql 9 true r5 (S ⟨#[69,86,69,82,89,32,97,61,116]⟩)) fun r8 =>
 f33_j6 r8 H4 Q)
 (f33_j6 (B false) H4 Q) :=
 Ev_eq.trans (by kernel_rfl)
theorem f37_eq (a0:AV) (H:Heap) (Q:Post):E 37 [a0] H Q =
 ob (sizedA 11 a0) fun b1 =>
 ob (partA true 0 11 b1) fun r2 =>
 E 82 [r2] H fun r3 H4 =>
 ob (binA Pg .neq 27 true r3 (I 0)) fun r5 =>
 cndA r5
 (Q (AV.tup [(S ⟨#[]⟩),r3]) H4)
 (ob (partA true 0 11 b1) fun r6 =>
 E 83 [r6] H4 fun r7 H8 =>
 ob (unA .not r7) fun r9 =>
 cndA r9
 (Q (AV.tup [(S ⟨#[]⟩),(I 12)]) H8)
 (ob (bldA [] [(AV.raw (.pointer none)),(AV.sl 0 true .full [])]) fun r10 =>
 ob (sizedA 2 r10) fun b11 =>
 newT H8 128 b11 fun r12 H13 =>
 ob (nilA r12) fun r14 =>
 ob (addPA r14 0) fun r15 =>
 ob (mkSlA 1 [(S ⟨#[69,86,69,82,89,32]⟩)]) fun r16 =>
 E 84 [r15,r16] H13 fun r17 H18 =>
 ob (partA true 0 6 b1) fun r19 =>
 E 85 [r12,r19,(I 1)] H18 fun r20 H21 =>
 ob (nilA r12) fun r22 =>
 ob (addPA r22 0) fun r23 =>
 ob (partA false 6 1 b1) fun r24 =>
 E 86 [r23,r24] H21 fun r25 H26 =>
 ob (nilA r12) fun r27 =>
 ob (addPA r27 0) fun r28 =>
 ob (partA false 9 1 b1) fun r29 =>
 E 87 [r28,r29] H26 fun r30 H31 =>
 ob (nilA r12) fun r32 =>
 ob (addPA r32 0) fun r33 =>
 ob (addPA r33 0) fun r34 =>
 E 53 [r34] H31 fun r35 H36 =>
 Q (AV.tup [r35,(I 0)]) H36)) :=
 Ev_eq.trans (by kernel_rfl)
def f38_j4 (x2:AV) (H:Heap) (Q:Post):Prop:=AtJ Pg Hs 38 [1,1] Q [(2,.val x2)] H
theorem f38_j4_eq (x2:AV) (H:Heap) (Q:Post):f38_j4 x2 H Q =
 Q x2 H :=
 (AtJ_eq Pg Hs 38 [1,1] Q _ H).trans (by kernel_rfl)
theorem f38_eq (a0:AV) (H:Heap) (Q:Post):E 38 [a0] H Q =
 ob (sizedA 11 a0) fun b1 =>
 ob (partA true 0 11 b1) fun r2 =>
 E 82 [r2] H fun r3 H4 =>
 ob (binA Pg .eql 27 true r3 (I 0)) fun r5 =>
 cndA r5
 (ob (partA true 0 11 b1) fun r6 =>
 E 83 [r6] H4 fun r7 H8 =>
 f38_j4 r7 H8 Q)
 (f38_j4 (B false) H4 Q) :=
 Ev_eq.trans (by kernel_rfl)
def f39_c1_12a (x2:List AV) (x3:List AV) (H:Heap) (Q:Post):Prop:=AtJ Pg Hs 39 [1,0,0,12] Q [(2,.lbox x2),(3,.lbox x3),(16,.val (B true))] H
def f39_c1_12b (x2:List AV) (x3:List AV) (x16:AV) (H:Heap) (Q:Post):Prop:=AtJ Pg Hs 39 [1,0,0,12] Q [(2,.lbox x2),(3,.lbox x3),(16,.val x16)] H
def f39_c1_19a (x2:List AV) (x3:List AV) (H:Heap) (Q:Post):Prop:=AtJ Pg Hs 39 [1,0,0,19] Q [(2,.lbox x2),(3,.lbox x3),(23,.val (B true))] H
def f39_c1_19b (x2:List AV) (x3:List AV) (x23:AV) (H:Heap) (Q:Post):Prop:=AtJ Pg Hs 39 [1,0,0,19] Q [(2,.lbox x2),(3,.lbox x3),(23,.val x23)] H
def f39_j5 (x2:List AV) (x3:List AV) (x31:AV) (H:Heap) (Q:Post):Prop:=AtJ Pg Hs 39 [1,0,1] Q [(2,.lbox x2),(3,.lbox x3),(31,.val x31)] H
def f39_j12 (x4:AV) (H:Heap) (Q:Post):Prop:=AtJ Pg Hs 39 [1,1,1] Q [(4,.val x4)] H
theorem f39_c1_12b_eq (x2:List AV) (x3:List AV) (x16:AV) (H:Heap) (Q:Post):f39_c1_12b x2 x3 x16 H Q =
 cndA x16
 (f39_c1_19a x2 x3 H Q)
 (ob (partA false 9 1 x2) fun r9 =>
 ob (partA false 9 1 x3) fun r10 =>
 ob (binA Pg .neq 2 false r9 r10) fun r11 =>
 f39_c1_19b x2 x3 r11 H Q) :=
 (AtJ_eq Pg Hs 39 [1,0,0,12] Q _ H).trans (by kernel_rfl)
theorem f39_c1_19b_eq (x2:List AV) (x3:List AV) (x23:AV) (H:Heap) (Q:Post):f39_c1_19b x2 x3 x23 H Q =
 cndA x23
 (f39_j5 x2 x3 (B true) H Q)
 (ob (partA false 10 1 x2) fun r12 =>
 ob (partA false 10 1 x3) fun r13 =>
 E 88 [r12,r13] H fun r14 H15 =>
 ob (unA .not r14) fun r16 =>
 f39_j5 x2 x3 r16 H15 Q) :=
 (AtJ_eq Pg Hs 39 [1,0,0,19] Q _ H).trans (by kernel_rfl)
theorem f39_j5_eq (x2:List AV) (x3:List AV) (x31:AV) (H:Heap) (Q:Post):f39_j5 x2 x3 x31 H Q =
 cndA x31
 (Q (B false) H)
 (ob (partA true 0 6 x2) fun r17 =>
 ob (partA true 0 6 x3) fun r18 =>
 E 89 [r17,r18] H fun r19 H20 =>
 cndA r19
 (ob (partA false 6 1 x2) fun r21 =>
 ob (partA false 6 1 x3) fun r22 =>
 E 90 [r21,r22,(AV.fn (.func 29) [] [])] H20 fun r23 H24 =>
 f39_j12 r23 H24 Q)
 (f39_j12 (B false) H20 Q)) :=
 (AtJ_eq Pg Hs 39 [1,0,1] Q _ H).trans (by kernel_rfl)
theorem f39_j12_eq (x4:AV) (H:Heap) (Q:Post):f39_j12 x4 H Q =
 Q x4 H :=
 (AtJ_eq Pg Hs 39 [1,1,1] Q _ H).trans (by kernel_rfl)
theorem f39_eq (a0 a1:AV) (H:Heap) (Q:Post):E 39 [a0,a1] H Q =
 ob (sizedA 11 a0) fun b1 =>
 ob (sizedA 11 a1) fun b2 =>
 ob (partA false 7 1 b1) fun r3 =>
 ob (partA false 7 1 b2) fun r4 =>
 ob (binA Pg .neq 9 false r3 r4) fun r5 =>
 cndA r5
 (f39_c1_12a b1 b2 H Q)
 (ob (partA false 8 1 b1) fun r6 =>
 ob (partA false 8 1 b2) fun r7 =>
 ob (binA Pg .neq 3 false r6 r7) fun r8 =>
 f39_c1_12b b1 b2 r8 H Q) :=
 Ev_eq.trans (by kernel_rfl)
theorem f40_eq (a0:AV) (H:Heap) (Q:Post):E 40 [a0] H Q =
 ob (sizedA 11 a0) fun b1 =>
 ob (partA true 0 11 b1) fun r2 =>
 ob (bldA [(0,11,r2)] [(I 0),(S ⟨#[]⟩),(S ⟨#[]⟩),(I 0),(I 0),(AV.sl 0 true .full []),(AV.sl 0 true .full []),(S ⟨#[]⟩),(I 0),(I 0),(AV.sl 0 true .full [])]) fun r3 =>
 ob (sizedA 11 r3) fun b4 =>
 ob (spliceA 0 b4 [(I 0),(S ⟨#[]⟩),(S ⟨#[]⟩),(I 0),(I 0),(AV.sl 0 true .full []),(AV.sl 0 true .full []),(S ⟨#[]⟩),(I 0),(I 0),(AV.sl 0 true .full [])]) fun b5 =>
 ob (partA true 0 11 b5) fun r6 =>
 E 91 [r6] H fun r7 H8 =>
 ob (binA Pg .neq 27 true r7 (I 0)) fun r9 =>
 cndA r9
 (Q r7 H8)
 (ob (partA true 0 11 b5) fun r10 =>
 callA (Ev Pg Hs) (AV.fn (.func 92) [r10] []) [] H8 fun r11 H12 =>
 ob (binA Pg .neq 27 true r11 (I 0)) fun r13 =>
 cndA r13
 (Q r11 H12)
 (ob (partA true 0 11 b5) fun r14 =>
 callA (Ev Pg Hs) (AV.fn (.func 93) [r14] []) [] H12 fun r15 H16 =>
 ob (binA Pg .neq 27 true r15 (I 0)) fun r17 =>
 cndA r17
 (Q r15 H16)
 (ob (partA true 0 11 b5) fun r18 =>
 E 94 [r18] H16 fun r19 H20 =>
 Q r19 H20))) :=
 Ev_eq.trans (by kernel_rfl)
theorem f41_eq (a0:AV) (H:Heap) (Q:Post):E 41 [a0] H Q =
 ob (sizedA 6 a0) fun b1 =>
 ob (partA true 0 6 b1) fun r2 =>
 E 95 [r2] H fun r3 H4 =>
 ob (binA Pg .neq 27 true r3 (I 0)) fun r5 =>
 cndA r5
 (Q r3 H4)
 (ob (partA true 0 6 b1) fun r6 =>
 E 96 [r6] H4 fun r7 H8 =>
 ob (unA .not r7) fun r9 =>
 cndA r9
 (Q (I 4) H8)
 (Q (I 0) H8)) :=
 Ev_eq.trans (by kernel_rfl)
theorem f60_eq (a0:AV) (H:Heap) (Q:Post):E 60 [a0] H Q =
 E 16 [a0] H fun r1 H2 =>
 ob (extractA r1 0) fun r3 =>
 ob (extractA r1 1) fun r4 =>
 ob (extractA r1 2) fun r5 =>
 ob (binA Pg .neq 27 true r5 (I 0)) fun r6 =>
 cndA r6
 (Q (AV.tup [(AV.raw (.pointer none)),r4,r5]) H2)
 (ob (bldA [(0,1,r3)] [(AV.raw (.pointer none)),(I 0),(I 0),(I 0)]) fun r7 =>
 ob (sizedA 4 r7) fun b8 =>
 newH H2 b8 fun r9 H10 =>
 Q (AV.tup [r9,r4,(I 0)]) H10) :=
 Ev_eq.trans (by kernel_rfl)
def f61_j4 (x4:AV) (H:Heap) (Q:Post):Prop:=AtJ Pg Hs 61 [1,1] Q [(4,.val x4)] H
theorem f61_j4_eq (x4:AV) (H:Heap) (Q:Post):f61_j4 x4 H Q =
 Q x4 H :=
 (AtJ_eq Pg Hs 61 [1,1] Q _ H).trans (by kernel_rfl)
theorem f61_eq (a0 a1:AV) (H:Heap) (Q:Post):E 61 [a0,a1] H Q =
 E 128 [a0] H fun r1 H2 =>
 cndA r1
 (ob (nilA a0) fun r3 =>
 ob (addPA r3 0) fun r4 =>
 ob (ldH H2 false 1 r4) fun r5 =>
 E 130 [r5,a1] H2 fun r6 H7 =>
 E 129 [a0,r6] H7 fun r8 H9 =>
 f61_j4 r8 H9 Q)
 (f61_j4 (B false) H2 Q) :=
 Ev_eq.trans (by kernel_rfl)
def f62_l16 (x1:AV) (x2:List AV) (x4:List AV) (x5:AV) (x6:AV) (H:Heap) (Q:Post):Prop:=AtF Pg Hs 62 [1,1,1,1,0,0] Q [(1,.val x1),(2,.lbox x2),(4,.lbox x4),(5,.val x5),(6,.val x6)] H
theorem f62_l16_eq (x1:AV) (x2:List AV) (x4:List AV) (x5:AV) (x6:AV) (H:Heap) (Q:Post):f62_l16 x1 x2 x4 x5 x6 H Q =
 callA (Ev Pg Hs) x5 [] H fun r17 H18 =>
 cndA r17
 (ob (partA true 0 1 x2) fun r19 =>
 ob (binA Pg .add 3 true x1 (I 1)) fun r20 =>
 E 62 [r19,r20] H18 fun r21 H22 =>
 ob (mkSlA 6 [r21]) fun r23 =>
 appA 6 80 x6 r23 H22 fun r24 H25 =>
 f62_l16 x1 x2 x4 x5 r24 H25 Q)
 (E 134 [x1] H18 fun r26 H27 =>
 E 133 [r26,x6] H27 fun r28 H29 =>
 ob (sizedA 6 r28) fun b30 =>
 ob (spliceA 0 b30 x4) fun b31 =>
 ob (partA true 0 6 b31) fun r32 =>
 Q r32 H29) :=
 (AtF_eq Pg Hs 62 [1,1,1,1,0,0] Q _ H).trans (by kernel_rfl)
theorem f62_eq (a0 a1:AV) (H:Heap) (Q:Post):E 62 [a0,a1] H Q =
 ob (sizedA 1 a0) fun b1 =>
 ob (binA Pg .eql 3 true a1 (I 4)) fun r2 =>
 cndA r2
 (ob (partA true 0 1 b1) fun r3 =>
 E 131 [r3] H fun r4 H5 =>
 ob (sizedA 6 r4) fun b6 =>
 ob (spliceA 0 b6 [(I 0),(S ⟨#[]⟩),(S ⟨#[]⟩),(I 0),(I 0),(AV.sl 0 true .full [])]) fun b7 =>
 ob (partA true 0 6 b7) fun r8 =>
 Q r8 H5)
 (ob (partA true 0 1 b1) fun r9 =>
 E 132 [r9,a1] H fun r10 H11 =>
 ob (partA true 0 1 b1) fun r12 =>
 ob (binA Pg .add 3 true a1 (I 1)) fun r13 =>
 E 62 [r12,r13] H11 fun r14 H15 =>
 ob (mkSlA 6 [r14]) fun r16 =>
 f62_l16 a1 b1 [(I 0),(S ⟨#[]⟩),(S ⟨#[]⟩),(I 0),(I 0),(AV.sl 0 true .full [])] r10 r16 H15 Q) :=
 Ev_eq.trans (by kernel_rfl)
theorem f63_eq (a0:AV) (H:Heap) (Q:Post):E 63 [a0] H Q =
 E 76 [a0,(S ⟨#[87,72,69,82,69]⟩)] H fun r1 H2 =>
 ob (unA .not r1) fun r3 =>
 cndA r3
 (Q (AV.sl 0 true .full []) H2)
 (ob (nilA a0) fun r4 =>
 ob (addPA r4 0) fun r5 =>
 ob (ldH H2 false 1 r5) fun r6 =>
 E 19 [r6] H2 fun r7 H8 =>
 ob (extractA r7 0) fun r9 =>
 ob (extractA r7 1) fun r10 =>
 ob (extractA r7 2) fun r11 =>
 ob (sizedA 7 r9) fun b12 =>
 ob (spliceA 0 b12 [(I 0),(I 0),(I 0),(S ⟨#[]⟩),(S ⟨#[]⟩),(S ⟨#[]⟩),(AV.sl 0 true .full [])]) fun b13 =>
 ob (binA Pg .neq 27 true r11 (I 0)) fun r14 =>
 cndA r14
 (E 135 [a0,r11,r10] H8 fun r15 H16 =>
 Q (AV.sl 0 true .full []) H16)
 (ob (partA true 0 7 b13) fun r17 =>
 E 136 [r17] H8 fun r18 H19 =>
 Q r18 H19)) :=
 Ev_eq.trans (by kernel_rfl)
theorem f64_eq (a0:AV) (H:Heap) (Q:Post):E 64 [a0] H Q =
 E 76 [a0,(S ⟨#[87,73,84,72,73,78]⟩)] H fun r1 H2 =>
 ob (unA .not r1) fun r3 =>
 cndA r3
 (Q (I 0) H2)
 (E 137 [a0,(I 1),(I 1099511627776)] H2 fun r4 H5 =>
 Q r4 H5) :=
 Ev_eq.trans (by kernel_rfl)
def f65_j8 (x0:AV) (x2:AV) (x4:List AV) (x6:List AV) (H:Heap) (Q:Post):Prop:=AtJ Pg Hs 65 [1,1] Q [(0,.val x0),(2,.val x2),(4,.lbox x4),(6,.lbox x6)] H
theorem f65_j8_eq (x0:AV) (x2:AV) (x4:List AV) (x6:List AV) (H:Heap) (Q:Post):f65_j8 x0 x2 x4 x6 H Q =
 E 128 [x0] H fun r13 H14 =>
 ob (unA .not r13) fun r15 =>
 cndA r15
 (ob (bldA [] [(I 0),(S ⟨#[]⟩),(S ⟨#[]⟩),(I 0),(I 0),(AV.sl 0 true .full []),(AV.sl 0 true .full []),(S ⟨#[]⟩),(I 0),(I 0),(AV.sl 0 true .full [])]) fun r16 =>
 ob (nilA x0) fun r17 =>
 ob (addPA r17 3) fun r18 =>
 apL r18 []
 (ob (ldH H14 false 1 r18) fun r19 =>
 ob (nilA x0) fun r20 =>
 ob (addPA r20 2) fun r21 =>
 apL r21 []
 (ob (ldH H14 false 1 r21) fun r22 =>
 ob (sizedA 11 r16) fun b23 =>
 ob (spliceA 0 b23 x6) fun b24 =>
 ob (partA true 0 11 b24) fun r25 =>
 Q (AV.tup [r25,r19,r22]) H14)))
 (ob (partA true 0 11 x4) fun r26 =>
 E 82 [r26] H14 fun r27 H28 =>
 ob (binA Pg .eql 27 true r27 (I 0)) fun r29 =>
 cndA r29
 (ob (partA true 0 11 x4) fun r30 =>
 ob (sizedA 11 r30) fun b31 =>
 ob (spliceA 0 b31 x6) fun b32 =>
 ob (partA true 0 11 b32) fun r33 =>
 Q (AV.tup [r33,x2,(I 0)]) H28)
 (ob (binA Pg .eql 27 true r27 (I 2)) fun r34 =>
 cndA r34
 (ob (bldA [] [(I 0),(S ⟨#[]⟩),(S ⟨#[]⟩),(I 0),(I 0),(AV.sl 0 true .full []),(AV.sl 0 true .full []),(S ⟨#[]⟩),(I 0),(I 0),(AV.sl 0 true .full [])]) fun r35 =>
 ob (sizedA 11 r35) fun b36 =>
 ob (spliceA 0 b36 x6) fun b37 =>
 ob (partA true 0 11 b37) fun r38 =>
 Q (AV.tup [r38,(I 0),(I 2)]) H28)
 (ob (bldA [] [(I 0),(S ⟨#[]⟩),(S ⟨#[]⟩),(I 0),(I 0),(AV.sl 0 true .full []),(AV.sl 0 true .full []),(S ⟨#[]⟩),(I 0),(I 0),(AV.sl 0 true .full [])]) fun r39 =>
 ob (sizedA 11 r39) fun b40 =>
 ob (spliceA 0 b40 x6) fun b41 =>
 ob (partA true 0 11 b41) fun r42 =>
 Q (AV.tup [r42,(I 0),(I 4)]) H28))) :=
 (AtJ_eq Pg Hs 65 [1,1] Q _ H).trans (by kernel_rfl)
theorem f65_eq (a0 a1 a2:AV) (H:Heap) (Q:Post):E 65 [a0,a1,a2] H Q =
 ob (sizedA 11 a1) fun b1 =>
 E 128 [a0] H fun r2 H3 =>
 cndA r2
 (ob (nilA a0) fun r4 =>
 ob (addPA r4 0) fun r5 =>
 ob (ldH H3 false 1 r5) fun r6 =>
 E 44 [r6] H3 fun r7 H8 =>
 fldK false 0 1 r7 fun r9 =>
 ob (binA Pg .eql 3 true r9 (I 6)) fun r10 =>
 E 129 [a0,r10] H8 fun r11 H12 =>
 f65_j8 a0 a2 b1 [(I 0),(S ⟨#[]⟩),(S ⟨#[]⟩),(I 0),(I 0),(AV.sl 0 true .full []),(AV.sl 0 true .full []),(S ⟨#[]⟩),(I 0),(I 0),(AV.sl 0 true .full [])] H12 Q)
 (f65_j8 a0 a2 b1 [(I 0),(S ⟨#[]⟩),(S ⟨#[]⟩),(I 0),(I 0),(AV.sl 0 true .full []),(AV.sl 0 true .full []),(S ⟨#[]⟩),(I 0),(I 0),(AV.sl 0 true .full [])] H3 Q) :=
 Ev_eq.trans (by kernel_rfl)
def f76_j4 (x4:AV) (H:Heap) (Q:Post):Prop:=AtJ Pg Hs 76 [1,1] Q [(4,.val x4)] H
theorem f76_j4_eq (x4:AV) (H:Heap) (Q:Post):f76_j4 x4 H Q =
 Q x4 H :=
 (AtJ_eq Pg Hs 76 [1,1] Q _ H).trans (by kernel_rfl)
theorem f76_eq (a0 a1:AV) (H:Heap) (Q:Post):E 76 [a0,a1] H Q =
 E 128 [a0] H fun r1 H2 =>
 cndA r1
 (ob (nilA a0) fun r3 =>
 ob (addPA r3 0) fun r4 =>
 ob (ldH H2 false 1 r4) fun r5 =>
 E 130 [r5,a1] H2 fun r6 H7 =>
 f76_j4 r6 H7 Q)
 (f76_j4 (B false) H2 Q) :=
 Ev_eq.trans (by kernel_rfl)
theorem f82_eq (a0:AV) (H:Heap) (Q:Post):E 82 [a0] H Q =
 ob (sizedA 11 a0) fun b1 =>
 ob (partA true 0 11 b1) fun r2 =>
 E 40 [r2] H fun r3 H4 =>
 ob (binA Pg .neq 27 true r3 (I 0)) fun r5 =>
 cndA r5
 (Q r3 H4)
 (ob (partA true 0 6 b1) fun r6 =>
 E 41 [r6] H4 fun r7 H8 =>
 Q r7 H8) :=
 Ev_eq.trans (by kernel_rfl)
def f83_c1_9a (x1:List AV) (x11:AV) (H:Heap) (Q:Post):Prop:=AtJ Pg Hs 83 [1,0,9] Q [(1,.lbox x1),(11,.val x11)] H
def f83_c1_9b (x1:List AV) (H:Heap) (Q:Post):Prop:=AtJ Pg Hs 83 [1,0,9] Q [(1,.lbox x1),(11,.val (B false))] H
def f83_c1_15a (x1:List AV) (x17:AV) (H:Heap) (Q:Post):Prop:=AtJ Pg Hs 83 [1,0,15] Q [(1,.lbox x1),(17,.val x17)] H
def f83_c1_15b (x1:List AV) (H:Heap) (Q:Post):Prop:=AtJ Pg Hs 83 [1,0,15] Q [(1,.lbox x1),(17,.val (B false))] H
def f83_c1_20a (x1:List AV) (x22:AV) (H:Heap) (Q:Post):Prop:=AtJ Pg Hs 83 [1,0,20] Q [(1,.lbox x1),(22,.val x22)] H
def f83_c1_20b (x1:List AV) (H:Heap) (Q:Post):Prop:=AtJ Pg Hs 83 [1,0,20] Q [(1,.lbox x1),(22,.val (B false))] H
def f83_j4 (x2:AV) (H:Heap) (Q:Post):Prop:=AtJ Pg Hs 83 [1,1] Q [(2,.val x2)] H
theorem f83_c1_9a_eq (x1:List AV) (x11:AV) (H:Heap) (Q:Post):f83_c1_9a x1 x11 H Q =
 cndA x11
 (ob (partA false 10 1 x1) fun r8 =>
 ob (lenA r8) fun r9 =>
 ob (binA Pg .eql 3 true r9 (I 0)) fun r10 =>
 f83_c1_15a x1 r10 H Q)
 (f83_c1_15b x1 H Q) :=
 (AtJ_eq Pg Hs 83 [1,0,9] Q _ H).trans (by kernel_rfl)
theorem f83_c1_9b_eq (x1:List AV) (H:Heap) (Q:Post):f83_c1_9b x1 H Q =
 f83_c1_15b x1 H Q :=
 (AtJ_eq Pg Hs 83 [1,0,9] Q _ H).trans (by kernel_rfl)
theorem f83_c1_15a_eq (x1:List AV) (x17:AV) (H:Heap) (Q:Post):f83_c1_15a x1 x17 H Q =
 cndA x17
 (ob (partA false 8 1 x1) fun r11 =>
 ob (binA Pg .eql 3 true r11 (I 0)) fun r12 =>
 f83_c1_20a x1 r12 H Q)
 (f83_c1_20b x1 H Q) :=
 (AtJ_eq Pg Hs 83 [1,0,15] Q _ H).trans (by kernel_rfl)
theorem f83_c1_15b_eq (x1:List AV) (H:Heap) (Q:Post):f83_c1_15b x1 H Q =
 f83_c1_20b x1 H Q :=
 (AtJ_eq Pg Hs 83 [1,0,15] Q _ H).trans (by kernel_rfl)
theorem f83_c1_20a_eq (x1:List AV) (x22:AV) (H:Heap) (Q:Post):f83_c1_20a x1 x22 H Q =
 f83_j4 x22 H Q :=
 (AtJ_eq Pg Hs 83 [1,0,20] Q _ H).trans (by kernel_rfl)
theorem f83_c1_20b_eq (x1:List AV) (H:Heap) (Q:Post):f83_c1_20b x1 H Q =
 f83_j4 (B false) H Q :=
 (AtJ_eq Pg Hs 83 [1,0,20] Q _ H).trans (by kernel_rfl)
theorem f83_j4_eq (x2:AV) (H:Heap) (Q:Post):f83_j4 x2 H Q =
 Q x2 H :=
 (AtJ_eq Pg Hs 83 [1,1] Q _ H).trans (by kernel_rfl)
theorem f83_eq (a0:AV) (H:Heap) (Q:Post):E 83 [a0] H Q =
 ob (sizedA 11 a0) fun b1 =>
 ob (partA true 0 6 b1) fun r2 =>
 E 155 [r2] H fun r3 H4 =>
 ob (unA .not r3) fun r5 =>
 cndA r5
 (ob (partA false 7 1 b1) fun r6 =>
 ob (binA Pg .eql 9 true r6 (S ⟨#[]⟩)) fun r7 =>
 f83_c1_9a b1 r7 H4 Q)
 (f83_c1_9b b1 H4 Q) :=
 Ev_eq.trans (by kernel_rfl)
def f84_l3 (x0:AV) (x6:AV) (x7:AV) (x8:AV) (H:Heap) (Q:Post):Prop:=AtF Pg Hs 84 [1,0] Q [(0,.val x0),(6,.val x6),(7,.val x7),(8,.val x8)] H
theorem f84_l3_eq (x0:AV) (x6:AV) (x7:AV) (x8:AV) (H:Heap) (Q:Post):f84_l3 x0 x6 x7 x8 H Q =
 ob (binA Pg .lss 3 false x8 x7) fun r2 =>
 cndA r2
 (ob (ixaA 1 x6 x8) fun c3 =>
 ob (partA false 0 1 c3) fun r4 =>
 ob (nilA x0) fun r5 =>
 ob (addPA r5 0) fun r6 =>
 E 118 [r6,r4] H fun r7 H8 =>
 ob (binA Pg .add 3 true x8 (I 1)) fun r9 =>
 f84_l3 x0 x6 x7 r9 H8 Q)
 (Q (AV.tup []) H) :=
 (AtF_eq Pg Hs 84 [1,0] Q _ H).trans (by kernel_rfl)
theorem f84_eq (a0 a1:AV) (H:Heap) (Q:Post):E 84 [a0,a1] H Q =
 ob (lenA a1) fun r1 =>
 f84_l3 a0 a1 r1 (I 0) H Q :=
 Ev_eq.trans (by kernel_rfl)
def f85_j18 (x0:AV) (x2:AV) (x4:List AV) (x6:AV) (x7:AV) (H:Heap) (Q:Post):Prop:=AtJ Pg Hs 85 [1,1,1,1] Q [(0,.val x0),(2,.val x2),(4,.lbox x4),(6,.val x6),(7,.val x7)] H
def f85_l22 (x0:AV) (x2:AV) (x6:AV) (x7:AV) (x30:AV) (x31:AV) (x32:AV) (H:Heap) (Q:Post):Prop:=AtF Pg Hs 85 [1,1,1,1,0,1,0] Q [(0,.val x0),(2,.val x2),(6,.val x6),(7,.val x7),(30,.val x30),(31,.val x31),(32,.val x32)] H
def f85_j39 (x0:AV) (x2:AV) (x6:AV) (x7:AV) (x9:List AV) (x30:AV) (x31:AV) (x32:AV) (H:Heap) (Q:Post):Prop:=AtJ Pg Hs 85 [1,1,1,1,0,1,0,0,1,1,0,0,1,1] Q [(0,.val x0),(2,.val x2),(6,.val x6),(7,.val x7),(9,.lbox x9),(30,.val x30),(31,.val x31),(32,.val x32)] H
theorem f85_j18_eq (x0:AV) (x2:AV) (x4:List AV) (x6:AV) (x7:AV) (H:Heap) (Q:Post):f85_j18 x0 x2 x4 x6 x7 H Q =
 ob (partA false 5 1 x4) fun r17 =>
 ob (lenA r17) fun r18 =>
 f85_l22 x0 x2 x6 x7 r17 r18 (I 0) H Q :=
 (AtJ_eq Pg Hs 85 [1,1,1,1] Q _ H).trans (by kernel_rfl)
theorem f85_l22_eq (x0:AV) (x2:AV) (x6:AV) (x7:AV) (x30:AV) (x31:AV) (x32:AV) (H:Heap) (Q:Post):f85_l22 x0 x2 x6 x7 x30 x31 x32 H Q =
 ob (binA Pg .lss 3 false x32 x31) fun r19 =>
 cndA r19
 (ob (ixaA 6 x30 x32) fun c20 =>
 ob (partA true 0 6 c20) fun r21 =>
 ob (sizedA 6 r21) fun b22 =>
 ob (spliceA 0 b22 [(I 0),(S ⟨#[]⟩),(S ⟨#[]⟩),(I 0),(I 0),(AV.sl 0 true .full [])]) fun b23 =>
 ob (binA Pg .gtr 3 true x32 (I 0)) fun r24 =>
 cndA r24
 (ob (nilA x0) fun r25 =>
 ob (addPA r25 0) fun r26 =>
 ob (mkSlA 1 [x7]) fun r27 =>
 E 84 [r26,r27] H fun r28 H29 =>
 f85_j39 x0 x2 x6 x7 b23 x30 x31 x32 H29 Q)
 (f85_j39 x0 x2 x6 x7 b23 x30 x31 x32 H Q))
 (ob (binA Pg .lss 3 false x6 x2) fun r30 =>
 cndA r30
 (ob (nilA x0) fun r31 =>
 ob (addPA r31 0) fun r32 =>
 ob (mkSlA 1 [(S ⟨#[41]⟩)]) fun r33 =>
 E 84 [r32,r33] H fun r34 H35 =>
 Q (AV.tup []) H35)
 (Q (AV.tup []) H)) :=
 (AtF_eq Pg Hs 85 [1,1,1,1,0,1,0] Q _ H).trans (by kernel_rfl)
theorem f85_j39_eq (x0:AV) (x2:AV) (x6:AV) (x7:AV) (x9:List AV) (x30:AV) (x31:AV) (x32:AV) (H:Heap) (Q:Post):f85_j39 x0 x2 x6 x7 x9 x30 x31 x32 H Q =
 ob (partA true 0 6 x9) fun r36 =>
 ob (binA Pg .add 3 true x6 (I 1)) fun r37 =>
 E 85 [x0,r36,r37] H fun r38 H39 =>
 ob (binA Pg .add 3 true x32 (I 1)) fun r40 =>
 f85_l22 x0 x2 x6 x7 x30 x31 r40 H39 Q :=
 (AtJ_eq Pg Hs 85 [1,1,1,1,0,1,0,0,1,1,0,0,1,1] Q _ H).trans (by kernel_rfl)
theorem f85_eq (a0 a1 a2:AV) (H:Heap) (Q:Post):E 85 [a0,a1,a2] H Q =
 ob (sizedA 6 a1) fun b1 =>
 ob (partA false 0 1 b1) fun r2 =>
 E 156 [r2] H fun r3 H4 =>
 ob (extractA r3 0) fun r5 =>
 ob (extractA r3 1) fun r6 =>
 ob (binA Pg .eql 3 true r5 (I 4)) fun r7 =>
 cndA r7
 (ob (partA true 0 6 b1) fun r8 =>
 E 157 [a0,r8] H4 fun r9 H10 =>
 Q (AV.tup []) H10)
 (ob (binA Pg .lss 3 false r5 a2) fun r11 =>
 cndA r11
 (ob (nilA a0) fun r12 =>
 ob (addPA r12 0) fun r13 =>
 ob (mkSlA 1 [(S ⟨#[40]⟩)]) fun r14 =>
 E 84 [r13,r14] H4 fun r15 H16 =>
 f85_j18 a0 a2 b1 r5 r6 H16 Q)
 (f85_j18 a0 a2 b1 r5 r6 H4 Q)) :=
 Ev_eq.trans (by kernel_rfl)
theorem f86_eq (a0 a1:AV) (H:Heap) (Q:Post):E 86 [a0,a1] H Q =
 E 26 [a1] H fun r1 H2 =>
 ob (extractA r1 0) fun r3 =>
 ob (extractA r1 1) fun r4 =>
 ob (binA Pg .eql 27 true r4 (I 0)) fun r5 =>
 cndA r5
 (ob (mkSlA 1 [(S ⟨#[32,87,72,69,82,69,32]⟩),r3]) fun r6 =>
 E 84 [a0,r6] H2 fun r7 H8 =>
 Q (AV.tup []) H8)
 (Q (AV.tup []) H2) :=
 Ev_eq.trans (by kernel_rfl)
theorem f87_eq (a0 a1:AV) (H:Heap) (Q:Post):E 87 [a0,a1] H Q =
 ob (binA Pg .neq 2 true a1 (I 0)) fun r1 =>
 cndA r1
 (ob (mkSlA 1 [(S ⟨#[32,87,73,84,72,73,78,32]⟩)]) fun r2 =>
 E 84 [a0,r2] H fun r3 H4 =>
 E 158 [a0,a1] H4 fun r5 H6 =>
 Q (AV.tup []) H6)
 (Q (AV.tup []) H) :=
 Ev_eq.trans (by kernel_rfl)
def f88_l14 (x0:AV) (x1:AV) (x12:AV) (x13:AV) (H:Heap) (Q:Post):Prop:=AtF Pg Hs 88 [1,1,0,1,0] Q [(0,.val x0),(1,.val x1),(12,.val x12),(13,.val x13)] H
theorem f88_l14_eq (x0:AV) (x1:AV) (x12:AV) (x13:AV) (H:Heap) (Q:Post):f88_l14 x0 x1 x12 x13 H Q =
 ob (binA Pg .lss 3 false x13 x12) fun r5 =>
 cndA r5
 (ob (ixaA 4 x0 x13) fun c6 =>
 ob (partA true 0 4 c6) fun r7 =>
 ob (ixaA 4 x1 x13) fun c8 =>
 ob (partA true 0 4 c8) fun r9 =>
 ob (binA Pg .neq 120 false r7 r9) fun r10 =>
 cndA r10
 (Q (B false) H)
 (ob (binA Pg .add 3 true x13 (I 1)) fun r11 =>
 f88_l14 x0 x1 x12 r11 H Q))
 (Q (B true) H) :=
 (AtF_eq Pg Hs 88 [1,1,0,1,0] Q _ H).trans (by kernel_rfl)
theorem f88_eq (a0 a1:AV) (H:Heap) (Q:Post):E 88 [a0,a1] H Q =
 ob (lenA a0) fun r1 =>
 ob (lenA a1) fun r2 =>
 ob (binA Pg .neq 3 false r1 r2) fun r3 =>
 cndA r3
 (Q (B false) H)
 (ob (lenA a0) fun r4 =>
 f88_l14 a0 a1 r4 (I 0) H Q) :=
 Ev_eq.trans (by kernel_rfl)
def f89_c1_12a (x2:List AV) (x3:List AV) (H:Heap) (Q:Post):Prop:=AtJ Pg Hs 89 [1,0,0,12] Q [(2,.lbox x2),(3,.lbox x3),(16,.val (B true))] H
def f89_c1_12b (x2:List AV) (x3:List AV) (x16:AV) (H:Heap) (Q:Post):Prop:=AtJ Pg Hs 89 [1,0,0,12] Q [(2,.lbox x2),(3,.lbox x3),(16,.val x16)] H
def f89_c1_19a (x2:List AV) (x3:List AV) (H:Heap) (Q:Post):Prop:=AtJ Pg Hs 89 [1,0,0,19] Q [(2,.lbox x2),(3,.lbox x3),(23,.val (B true))] H
def f89_c1_19b (x2:List AV) (x3:List AV) (x23:AV) (H:Heap) (Q:Post):Prop:=AtJ Pg Hs 89 [1,0,0,19] Q [(2,.lbox x2),(3,.lbox x3),(23,.val x23)] H
def f89_c1_26a (x2:List AV) (x3:List AV) (H:Heap) (Q:Post):Prop:=AtJ Pg Hs 89 [1,0,0,26] Q [(2,.lbox x2),(3,.lbox x3),(30,.val (B true))] H
def f89_c1_26b (x2:List AV) (x3:List AV) (x30:AV) (H:Heap) (Q:Post):Prop:=AtJ Pg Hs 89 [1,0,0,26] Q [(2,.lbox x2),(3,.lbox x3),(30,.val x30)] H
def f89_j5 (x2:List AV) (x3:List AV) (x37:AV) (H:Heap) (Q:Post):Prop:=AtJ Pg Hs 89 [1,0,1] Q [(2,.lbox x2),(3,.lbox x3),(37,.val x37)] H
theorem f89_c1_12b_eq (x2:List AV) (x3:List AV) (x16:AV) (H:Heap) (Q:Post):f89_c1_12b x2 x3 x16 H Q =
 cndA x16
 (f89_c1_19a x2 x3 H Q)
 (ob (partA false 2 1 x2) fun r9 =>
 ob (partA false 2 1 x3) fun r10 =>
 ob (binA Pg .neq 9 false r9 r10) fun r11 =>
 f89_c1_19b x2 x3 r11 H Q) :=
 (AtJ_eq Pg Hs 89 [1,0,0,12] Q _ H).trans (by kernel_rfl)
theorem f89_c1_19b_eq (x2:List AV) (x3:List AV) (x23:AV) (H:Heap) (Q:Post):f89_c1_19b x2 x3 x23 H Q =
 cndA x23
 (f89_c1_26a x2 x3 H Q)
 (ob (partA false 3 1 x2) fun r12 =>
 ob (partA false 3 1 x3) fun r13 =>
 ob (binA Pg .neq 3 false r12 r13) fun r14 =>
 f89_c1_26b x2 x3 r14 H Q) :=
 (AtJ_eq Pg Hs 89 [1,0,0,19] Q _ H).trans (by kernel_rfl)
theorem f89_c1_26b_eq (x2:List AV) (x3:List AV) (x30:AV) (H:Heap) (Q:Post):f89_c1_26b x2 x3 x30 H Q =
 cndA x30
 (f89_j5 x2 x3 (B true) H Q)
 (ob (partA false 4 1 x2) fun r15 =>
 ob (partA false 4 1 x3) fun r16 =>
 ob (binA Pg .neq 3 false r15 r16) fun r17 =>
 f89_j5 x2 x3 r17 H Q) :=
 (AtJ_eq Pg Hs 89 [1,0,0,26] Q _ H).trans (by kernel_rfl)
theorem f89_j5_eq (x2:List AV) (x3:List AV) (x37:AV) (H:Heap) (Q:Post):f89_j5 x2 x3 x37 H Q =
 cndA x37
 (Q (B false) H)
 (ob (partA false 5 1 x2) fun r18 =>
 ob (partA false 5 1 x3) fun r19 =>
 E 159 [r18,r19,(AV.fn (.func 89) [] [])] H fun r20 H21 =>
 Q r20 H21) :=
 (AtJ_eq Pg Hs 89 [1,0,1] Q _ H).trans (by kernel_rfl)
theorem f89_eq (a0 a1:AV) (H:Heap) (Q:Post):E 89 [a0,a1] H Q =
 ob (sizedA 6 a0) fun b1 =>
 ob (sizedA 6 a1) fun b2 =>
 ob (partA false 0 1 b1) fun r3 =>
 ob (partA false 0 1 b2) fun r4 =>
 ob (binA Pg .neq 3 false r3 r4) fun r5 =>
 cndA r5
 (f89_c1_12a b1 b2 H Q)
 (ob (partA false 1 1 b1) fun r6 =>
 ob (partA false 1 1 b2) fun r7 =>
 ob (binA Pg .neq 9 false r6 r7) fun r8 =>
 f89_c1_12b b1 b2 r8 H Q) :=
 Ev_eq.trans (by kernel_rfl)
def f90_l14 (x1:AV) (x2:AV) (x15:AV) (x16:AV) (x17:AV) (H:Heap) (Q:Post):Prop:=AtF Pg Hs 90 [1,1,0,1,0] Q [(1,.val x1),(2,.val x2),(15,.val x15),(16,.val x16),(17,.val x17)] H
theorem f90_l14_eq (x1:AV) (x2:AV) (x15:AV) (x16:AV) (x17:AV) (H:Heap) (Q:Post):f90_l14 x1 x2 x15 x16 x17 H Q =
 ob (binA Pg .lss 3 false x17 x16) fun r5 =>
 cndA r5
 (ob (ixaA 7 x15 x17) fun c6 =>
 ob (partA true 0 7 c6) fun r7 =>
 ob (sizedA 7 r7) fun b8 =>
 ob (spliceA 0 b8 [(I 0),(I 0),(I 0),(S ⟨#[]⟩),(S ⟨#[]⟩),(S ⟨#[]⟩),(AV.sl 0 true .full [])]) fun b9 =>
 ob (ixaA 7 x1 x17) fun c10 =>
 ob (partA true 0 7 c10) fun r11 =>
 ob (sizedA 7 r11) fun b12 =>
 ob (spliceA 0 b12 [(I 0),(I 0),(I 0),(S ⟨#[]⟩),(S ⟨#[]⟩),(S ⟨#[]⟩),(AV.sl 0 true .full [])]) fun b13 =>
 ob (partA true 0 7 b9) fun r14 =>
 ob (partA true 0 7 b13) fun r15 =>
 callA (Ev Pg Hs) x2 [r14,r15] H fun r16 H17 =>
 ob (unA .not r16) fun r18 =>
 cndA r18
 (Q (B false) H17)
 (ob (binA Pg .add 3 true x17 (I 1)) fun r19 =>
 f90_l14 x1 x2 x15 x16 r19 H17 Q))
 (Q (B true) H) :=
 (AtF_eq Pg Hs 90 [1,1,0,1,0] Q _ H).trans (by kernel_rfl)
theorem f90_eq (a0 a1 a2:AV) (H:Heap) (Q:Post):E 90 [a0,a1,a2] H Q =
 ob (lenA a0) fun r1 =>
 ob (lenA a1) fun r2 =>
 ob (binA Pg .neq 3 false r1 r2) fun r3 =>
 cndA r3
 (Q (B false) H)
 (ob (lenA a0) fun r4 =>
 f90_l14 a1 a2 a0 r4 (I 0) H Q) :=
 Ev_eq.trans (by kernel_rfl)
theorem f91_eq (a0:AV) (H:Heap) (Q:Post):E 91 [a0] H Q =
 ob (sizedA 11 a0) fun b1 =>
 ob (partA true 0 6 b1) fun r2 =>
 E 95 [r2] H fun r3 H4 =>
 Q r3 H4 :=
 Ev_eq.trans (by kernel_rfl)
def f92_j5 (x14:AV) (H:Heap) (Q:Post):Prop:=AtJ Pg Hs 92 [1,0,1] Q [(14,.val x14)] H
theorem f92_j5_eq (x14:AV) (H:Heap) (Q:Post):f92_j5 x14 H Q =
 cndA x14
 (Q (I 2) H)
 (Q (I 0) H) :=
 (AtJ_eq Pg Hs 92 [1,0,1] Q _ H).trans (by kernel_rfl)
theorem f92_eq (a0:AV) (H:Heap) (Q:Post):E 92 [a0] H Q =
 ob (sizedA 11 a0) fun b1 =>
 ob (partA false 6 1 b1) fun r2 =>
 ob (lenA r2) fun r3 =>
 ob (binA Pg .gtr 3 true r3 (I 16)) fun r4 =>
 cndA r4
 (f92_j5 (B true) H Q)
 (ob (partA false 10 1 b1) fun r5 =>
 ob (lenA r5) fun r6 =>
 ob (binA Pg .gtr 3 true r6 (I 16)) fun r7 =>
 f92_j5 r7 H Q) :=
 Ev_eq.trans (by kernel_rfl)
def f93_l8 (x3:AV) (x9:AV) (x10:AV) (x11:AV) (H:Heap) (Q:Post):Prop:=AtF Pg Hs 93 [1,1,0,1,0] Q [(3,.val x3),(9,.val x9),(10,.val x10),(11,.val x11)] H
theorem f93_l8_eq (x3:AV) (x9:AV) (x10:AV) (x11:AV) (H:Heap) (Q:Post):f93_l8 x3 x9 x10 x11 H Q =
 ob (binA Pg .lss 3 false x11 x10) fun r4 =>
 cndA r4
 (ob (ixaA 7 x9 x11) fun c5 =>
 ob (partA true 0 7 c5) fun r6 =>
 ob (sizedA 7 r6) fun b7 =>
 ob (spliceA 0 b7 [(I 0),(I 0),(I 0),(S ⟨#[]⟩),(S ⟨#[]⟩),(S ⟨#[]⟩),(AV.sl 0 true .full [])]) fun b8 =>
 ob (partA true 0 7 b8) fun r9 =>
 E 28 [r9] H fun r10 H11 =>
 ob (binA Pg .neq 27 true r10 (I 0)) fun r12 =>
 cndA r12
 (Q r10 H11)
 (ob (partA true 0 7 b8) fun r13 =>
 E 160 [r13] H11 fun r14 H15 =>
 ob (binA Pg .add 3 false x3 r14) fun r16 =>
 ob (binA Pg .add 3 true x11 (I 1)) fun r17 =>
 f93_l8 r16 x9 x10 r17 H15 Q))
 (ob (binA Pg .geq 3 true x3 (I 100)) fun r18 =>
 cndA r18
 (Q (I 2) H)
 (Q (I 0) H)) :=
 (AtF_eq Pg Hs 93 [1,1,0,1,0] Q _ H).trans (by kernel_rfl)
theorem f93_eq (a0:AV) (H:Heap) (Q:Post):E 93 [a0] H Q =
 ob (sizedA 11 a0) fun b1 =>
 ob (partA false 6 1 b1) fun r2 =>
 ob (lenA r2) fun r3 =>
 f93_l8 (I 0) r2 r3 (I 0) H Q :=
 Ev_eq.trans (by kernel_rfl)
def f94_j14 (x3:List AV) (x4:AV) (x6:AV) (x11:AV) (H:Heap) (Q:Post):Prop:=AtJ Pg Hs 94 [1,1,1,1,1,0,0,1] Q [(3,.lbox x3),(4,.val x4),(6,.val x6),(11,.val x11)] H
def f94_j32 (x3:List AV) (x4:AV) (x6:AV) (x21:AV) (H:Heap) (Q:Post):Prop:=AtJ Pg Hs 94 [1,1,1,1,1,0,0,1,1,1] Q [(3,.lbox x3),(4,.val x4),(6,.val x6),(21,.val x21)] H
def f94_j42 (x34:AV) (H:Heap) (Q:Post):Prop:=AtJ Pg Hs 94 [1,1,1,1,1,0,0,1,1,1,1,1] Q [(34,.val x34)] H
theorem f94_j14_eq (x3:List AV) (x4:AV) (x6:AV) (x11:AV) (H:Heap) (Q:Post):f94_j14 x3 x4 x6 x11 H Q =
 cndA x11
 (Q (I 1) H)
 (ob (partA false 8 1 x3) fun r17 =>
 ob (binA Pg .lss 3 true r17 (I 0)) fun r18 =>
 cndA r18
 (f94_j32 x3 x4 x6 r18 H Q)
 (ob (partA false 8 1 x3) fun r19 =>
 ob (binA Pg .gtr 3 true r19 (I 2)) fun r20 =>
 cndA r20
 (f94_j32 x3 x4 x6 r20 H Q)
 (ob (partA false 9 1 x3) fun r21 =>
 ob (binA Pg .lss 2 true r21 (I 0)) fun r22 =>
 cndA r22
 (f94_j32 x3 x4 x6 r22 H Q)
 (ob (partA false 9 1 x3) fun r23 =>
 ob (binA Pg .gtr 2 true r23 (I 1099511627776)) fun r24 =>
 f94_j32 x3 x4 x6 r24 H Q)))) :=
 (AtJ_eq Pg Hs 94 [1,1,1,1,1,0,0,1] Q _ H).trans (by kernel_rfl)
theorem f94_j32_eq (x3:List AV) (x4:AV) (x6:AV) (x21:AV) (H:Heap) (Q:Post):f94_j32 x3 x4 x6 x21 H Q =
 cndA x21
 (Q (I 1) H)
 (ob (partA false 6 1 x3) fun r25 =>
 E 126 [r25,x4] H fun r26 H27 =>
 cndA r26
 (f94_j42 r26 H27 Q)
 (ob (partA false 10 1 x3) fun r28 =>
 E 164 [r28,x6] H27 fun r29 H30 =>
 f94_j42 r29 H30 Q)) :=
 (AtJ_eq Pg Hs 94 [1,1,1,1,1,0,0,1,1,1] Q _ H).trans (by kernel_rfl)
theorem f94_j42_eq (x34:AV) (H:Heap) (Q:Post):f94_j42 x34 H Q =
 cndA x34
 (Q (I 1) H)
 (Q (I 0) H) :=
 (AtJ_eq Pg Hs 94 [1,1,1,1,1,0,0,1,1,1,1,1] Q _ H).trans (by kernel_rfl)
theorem f94_eq (a0:AV) (H:Heap) (Q:Post):E 94 [a0] H Q =
 ob (sizedA 11 a0) fun b1 =>
 ob (partA true 0 11 b1) fun r2 =>
 ob (sizedA 11 r2) fun b3 =>
 ob (spliceA 0 b3 [(I 0),(S ⟨#[]⟩),(S ⟨#[]⟩),(I 0),(I 0),(AV.sl 0 true .full []),(AV.sl 0 true .full []),(S ⟨#[]⟩),(I 0),(I 0),(AV.sl 0 true .full [])]) fun b4 =>
 mkMapA H fun r5 H6 =>
 ob (sizedA 1 r5) fun b7 =>
 ob (spliceA 0 b7 [(AV.raw (.map none))]) fun b8 =>
 newH H6 b8 fun r9 H10 =>
 ob (partA false 7 1 b4) fun r11 =>
 ob (binA Pg .neq 9 true r11 (S ⟨#[]⟩)) fun r12 =>
 cndA r12
 (ob (partA false 7 1 b4) fun r13 =>
 E 122 [r13] H10 fun r14 H15 =>
 ob (unA .not r14) fun r16 =>
 f94_j14 b4 (AV.fn (.func 161) [] []) (AV.fn (.func 162) [] [r9]) r16 H15 Q)
 (f94_j14 b4 (AV.fn (.func 161) [] []) (AV.fn (.func 162) [] [r9]) (B false) H10 Q) :=
 Ev_eq.trans (by kernel_rfl)
noncomputable def f95_L8 (y3:AV) (y4:AV) (y5:AV):LoopInfo:=loopF Pg Hs 95 [1,1,0,1,0] 8 [(3,.val y3),(4,.val y4),(5,.val y5)]
def f95_j16 (x3:AV) (x4:AV) (x5:AV) (H:Heap) (Q:Post):Prop:=AtJ Pg Hs 95 [1,1,1] Q [(3,.val x3),(4,.val x4),(5,.val x5)] H
def f95_j24 (x5:AV) (x22:AV) (H:Heap) (Q:Post):Prop:=AtJ Pg Hs 95 [1,1,1,0,0,1] Q [(5,.val x5),(22,.val x22)] H
theorem f95_j16_eq (x3:AV) (x4:AV) (x5:AV) (H:Heap) (Q:Post):f95_j16 x3 x4 x5 H Q =
 ob (ldH H false 1 x3) fun r19 =>
 ob (binA Pg .gtr 3 true r19 (I 64)) fun r20 =>
 cndA r20
 (f95_j24 x5 r20 H Q)
 (ob (ldH H false 1 x4) fun r21 =>
 ob (binA Pg .gtr 3 true r21 (I 8)) fun r22 =>
 f95_j24 x5 r22 H Q) :=
 (AtJ_eq Pg Hs 95 [1,1,1] Q _ H).trans (by kernel_rfl)
theorem f95_j24_eq (x5:AV) (x22:AV) (H:Heap) (Q:Post):f95_j24 x5 x22 H Q =
 cndA x22
 (Q (I 2) H)
 (ob (ldH H false 1 x5) fun r23 =>
 ob (unA .not r23) fun r24 =>
 cndA r24
 (Q (I 1) H)
 (Q (I 0) H)) :=
 (AtJ_eq Pg Hs 95 [1,1,1,0,0,1] Q _ H).trans (by kernel_rfl)
theorem f95_y8_eq (y3:AV) (y4:AV) (y5:AV) (l:Nat) (a0:AV) (H:Heap) (Q:Post):EY Pg Hs (f95_L8 y3 y4 y5) l [a0] H Q =
 ob (sizedA 7 a0) fun b25 =>
 ob (spliceA 0 b25 [(I 0),(S ⟨#[]⟩),(S ⟨#[]⟩),(I 0),(I 0),(AV.sl 0 true .full []),(I 0)]) fun b26 =>
 beginA l H fun H27 =>
 ob (ldH H27 false 1 y3) fun r28 =>
 ob (binA Pg .add 3 true r28 (I 1)) fun r29 =>
 ob (stH H27 1 y3 r29) fun H30 =>
 ob (ldH H30 false 1 y4) fun r31 =>
 ob (partA false 6 1 b26) fun r32 =>
 ob (max2A r31 r32) fun r33 =>
 ob (stH H30 1 y4 r33) fun H34 =>
 ob (ldH H34 false 1 y5) fun r35 =>
 cndA r35
 (ob (partA true 0 6 b26) fun r36 =>
 E 166 [r36] H34 fun r37 H38 =>
 ob (stH H38 1 y5 r37) fun H39 =>
 endA l H39 true .ready Q)
 (ob (stH H34 1 y5 (B false)) fun H40 =>
 endA l H40 true .ready Q):=by kernel_rfl
theorem f95_eq (a0:AV) (H:Heap) (Q:Post):E 95 [a0] H Q =
 ob (sizedA 6 a0) fun b1 =>
 newH H [(I 0)] fun r2 H3 =>
 newH H3 [(I 0)] fun r4 H5 =>
 newH H5 [(B false)] fun r6 H7 =>
 ob (stH H7 1 r2 (I 0)) fun H8 =>
 ob (stH H8 1 r4 (I 0)) fun H9 =>
 ob (stH H9 1 r6 (B true)) fun H10 =>
 ob (partA true 0 6 b1) fun r11 =>
 E 165 [r11] H10 fun r12 H13 =>
 aroundA none H13∧rngF (Ev Pg Hs) r12 (f95_L8 r2 r4 r6) H13 fun l14 H15 =>
 overA l14 H15 (fun H16 =>
 f95_j16 r2 r4 r6 H16 Q) (fun j H17 =>
 exA j 0 (f95_j16 r2 r4 r6 H17 Q) (False)) (fun H18 =>
 Q (I 0) H18) :=
 Ev_eq.trans (by kernel_rfl)
def f96_j6 (x2:AV) (H:Heap) (Q:Post):Prop:=AtJ Pg Hs 96 [1,1,1] Q [(2,.val x2)] H
theorem f96_j6_eq (x2:AV) (H:Heap) (Q:Post):f96_j6 x2 H Q =
 Q x2 H :=
 (AtJ_eq Pg Hs 96 [1,1,1] Q _ H).trans (by kernel_rfl)
theorem f96_eq (a0:AV) (H:Heap) (Q:Post):E 96 [a0] H Q =
 ob (sizedA 6 a0) fun b1 =>
 ob (partA true 0 6 b1) fun r2 =>
 E 167 [r2] H fun r3 H4 =>
 ob (extractA r3 0) fun r5 =>
 ob (extractA r3 1) fun r6 =>
 cndA r6
 (ob (partA false 0 1 b1) fun r7 =>
 ob (binA Pg .neq 3 true r7 (I 6)) fun r8 =>
 cndA r8
 (ob (partA true 0 6 b1) fun r9 =>
 E 168 [r9,(B true)] H4 fun r10 H11 =>
 f96_j6 r10 H11 Q)
 (f96_j6 (B false) H4 Q))
 (f96_j6 (B false) H4 Q) :=
 Ev_eq.trans (by kernel_rfl)
end Go.Hx

