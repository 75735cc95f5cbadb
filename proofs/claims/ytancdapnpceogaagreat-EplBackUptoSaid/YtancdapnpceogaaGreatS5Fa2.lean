/- Printed by gen.py (own work): each function as the abstract machine has it. -/
import Derived.Test.YtancdapnpceogaaGreatS5H
import Derived.KernelRfl
set_option linter.unusedVariables false
namespace Go.Hx
def f186_l16 (x0:AV) (x4:List AV) (x5:AV) (x12:AV) (x13:AV) (x14:AV) (H:Heap) (Q:Post):Prop:=AtF Pg Hs 186 [1,1,1,0,1,0] Q [(0,.val x0),(4,.lbox x4),(5,.val x5),(12,.val x12),(13,.val x13),(14,.val x14)] H
def f186_j32 (x0:AV) (x4:List AV) (x5:AV) (x12:AV) (x13:AV) (x14:AV) (H:Heap) (Q:Post):Prop:=AtJ Pg Hs 186 [1,1,1,0,1,0,0,1,1,1] Q [(0,.val x0),(4,.lbox x4),(5,.val x5),(12,.val x12),(13,.val x13),(14,.val x14)] H
theorem f186_l16_eq (x0:AV) (x4:List AV) (x5:AV) (x12:AV) (x13:AV) (x14:AV) (H:Heap) (Q:Post):f186_l16 x0 x4 x5 x12 x13 x14 H Q =
 ob (binA Pg .lss 3 false x14 x13) fun r9 =>
 cndA r9
 (ob (ixaA 7 x12 x14) fun c10 =>
 ob (partA true 0 7 c10) fun r11 =>
 ob (sizedA 7 r11) fun b12 =>
 ob (spliceA 0 b12 [(I 0),(I 0),(I 0),(S ⟨#[]⟩),(S ⟨#[]⟩),(S ⟨#[]⟩),(AV.sl 0 true .full [])]) fun b13 =>
 ob (partA false 0 1 b13) fun r14 =>
 ob (binA Pg .eql 3 false r14 x0) fun r15 =>
 cndA r15
 (ob (partA false 6 1 b13) fun r16 =>
 appA 7 96 x5 r16 H fun r17 H18 =>
 f186_j32 x0 x4 r17 x12 x13 x14 H18 Q)
 (ob (partA true 0 7 b13) fun r19 =>
 ob (mkSlA 7 [r19]) fun r20 =>
 appA 7 96 x5 r20 H fun r21 H22 =>
 f186_j32 x0 x4 r21 x12 x13 x14 H22 Q))
 (ob (lenA x5) fun r23 =>
 ob (binA Pg .eql 3 true r23 (I 0)) fun r24 =>
 cndA r24
 (ob (binA Pg .eql 3 true x0 (I 16)) fun r25 =>
 E 251 [r25] H fun r26 H27 =>
 ob (bldA [(0,1,(I 1)),(1,3,r26)] [(I 0),(I 0),(I 0),(S ⟨#[]⟩),(S ⟨#[]⟩),(S ⟨#[]⟩),(AV.sl 0 true .full [])]) fun r28 =>
 ob (sizedA 7 r28) fun b29 =>
 ob (spliceA 0 b29 x4) fun b30 =>
 ob (partA true 0 7 b30) fun r31 =>
 Q r31 H27)
 (ob (binA Pg .eql 3 true r23 (I 1)) fun r32 =>
 cndA r32
 (ob (ixaA 7 x5 (I 0)) fun c33 =>
 ob (partA true 0 7 c33) fun r34 =>
 ob (sizedA 7 r34) fun b35 =>
 ob (spliceA 0 b35 x4) fun b36 =>
 ob (partA true 0 7 b36) fun r37 =>
 Q r37 H)
 (ob (bldA [(0,1,x0),(6,1,x5)] [(I 0),(I 0),(I 0),(S ⟨#[]⟩),(S ⟨#[]⟩),(S ⟨#[]⟩),(AV.sl 0 true .full [])]) fun r38 =>
 ob (sizedA 7 r38) fun b39 =>
 ob (spliceA 0 b39 x4) fun b40 =>
 ob (partA true 0 7 b40) fun r41 =>
 Q r41 H))) :=
 (AtF_eq Pg Hs 186 [1,1,1,0,1,0] Q _ H).trans (by kernel_rfl)
theorem f186_j32_eq (x0:AV) (x4:List AV) (x5:AV) (x12:AV) (x13:AV) (x14:AV) (H:Heap) (Q:Post):f186_j32 x0 x4 x5 x12 x13 x14 H Q =
 ob (binA Pg .add 3 true x14 (I 1)) fun r42 =>
 f186_l16 x0 x4 x5 x12 x13 r42 H Q :=
 (AtJ_eq Pg Hs 186 [1,1,1,0,1,0,0,1,1,1] Q _ H).trans (by kernel_rfl)
theorem f186_eq (a0 a1:AV) (H:Heap) (Q:Post):E 186 [a0,a1] H Q =
 E 125 [a0] H fun r1 H2 =>
 ob (unA .not r1) fun r3 =>
 cndA r3
 (ob (bldA [] [(I 0),(I 0),(I 0),(S ⟨#[]⟩),(S ⟨#[]⟩),(S ⟨#[]⟩),(AV.sl 0 true .full [])]) fun r4 =>
 ob (sizedA 7 r4) fun b5 =>
 ob (spliceA 0 b5 [(I 0),(I 0),(I 0),(S ⟨#[]⟩),(S ⟨#[]⟩),(S ⟨#[]⟩),(AV.sl 0 true .full [])]) fun b6 =>
 ob (partA true 0 7 b6) fun r7 =>
 Q r7 H2)
 (ob (lenA a1) fun r8 =>
 f186_l16 a0 [(I 0),(I 0),(I 0),(S ⟨#[]⟩),(S ⟨#[]⟩),(S ⟨#[]⟩),(AV.sl 0 true .full [])] (AV.sl 0 true .full []) a1 r8 (I 0) H2 Q) :=
 Ev_eq.trans (by kernel_rfl)
theorem f187_eq (a0:AV) (H:Heap) (Q:Post):E 187 [a0] H Q =
 E 252 [a0,(I 1),(S ⟨#[78,79,84]⟩)] H fun r1 H2 =>
 ob (unA .not r1) fun r3 =>
 cndA r3
 (E 253 [a0] H2 fun r4 H5 =>
 ob (sizedA 7 r4) fun b6 =>
 ob (spliceA 0 b6 [(I 0),(I 0),(I 0),(S ⟨#[]⟩),(S ⟨#[]⟩),(S ⟨#[]⟩),(AV.sl 0 true .full [])]) fun b7 =>
 ob (partA true 0 7 b7) fun r8 =>
 Q r8 H5)
 (E 254 [a0,(AV.fn (.func 187) [a0] [])] H2 fun r9 H10 =>
 ob (mkSlA 7 [r9]) fun r11 =>
 ob (bldA [(0,1,(I 15)),(6,1,r11)] [(I 0),(I 0),(I 0),(S ⟨#[]⟩),(S ⟨#[]⟩),(S ⟨#[]⟩),(AV.sl 0 true .full [])]) fun r12 =>
 ob (sizedA 7 r12) fun b13 =>
 ob (spliceA 0 b13 [(I 0),(I 0),(I 0),(S ⟨#[]⟩),(S ⟨#[]⟩),(S ⟨#[]⟩),(AV.sl 0 true .full [])]) fun b14 =>
 ob (partA true 0 7 b14) fun r15 =>
 Q r15 H10) :=
 Ev_eq.trans (by kernel_rfl)
def f190_j11 (x2:AV) (H:Heap) (Q:Post):Prop:=AtJ Pg Hs 190 [1,0,1,0,1,0,1] Q [(2,.val x2)] H
def f190_j17 (x2:AV) (H:Heap) (Q:Post):Prop:=AtJ Pg Hs 190 [1,0,1,0,1,1,1,0,1] Q [(2,.val x2)] H
def f190_j29 (x2:AV) (H:Heap) (Q:Post):Prop:=AtJ Pg Hs 190 [1,0,1,0,1,1,1,1,1,1,1,0,1] Q [(2,.val x2)] H
theorem f190_j11_eq (x2:AV) (H:Heap) (Q:Post):f190_j11 x2 H Q =
 Q x2 H :=
 (AtJ_eq Pg Hs 190 [1,0,1,0,1,0,1] Q _ H).trans (by kernel_rfl)
theorem f190_j17_eq (x2:AV) (H:Heap) (Q:Post):f190_j17 x2 H Q =
 Q x2 H :=
 (AtJ_eq Pg Hs 190 [1,0,1,0,1,1,1,0,1] Q _ H).trans (by kernel_rfl)
theorem f190_j29_eq (x2:AV) (H:Heap) (Q:Post):f190_j29 x2 H Q =
 Q x2 H :=
 (AtJ_eq Pg Hs 190 [1,0,1,0,1,1,1,1,1,1,1,0,1] Q _ H).trans (by kernel_rfl)
theorem f190_eq (a0:AV) (H:Heap) (Q:Post):E 190 [a0] H Q =
 ob (sizedA 3 a0) fun b1 =>
 ob (partA false 0 1 b1) fun r2 =>
 ob (binA Pg .eql 3 true r2 (I 0)) fun r3 =>
 cndA r3
 (ob (partA false 1 1 b1) fun r4 =>
 ob (binA Pg .eql 2 true r4 (I 0)) fun r5 =>
 cndA r5
 (ob (partA false 2 1 b1) fun r6 =>
 ob (binA Pg .eql 9 true r6 (S ⟨#[]⟩)) fun r7 =>
 f190_j11 r7 H Q)
 (f190_j11 (B false) H Q))
 (ob (binA Pg .eql 3 true r2 (I 1)) fun r8 =>
 cndA r8
 (ob (partA false 1 1 b1) fun r9 =>
 ob (binA Pg .eql 2 true r9 (I 0)) fun r10 =>
 cndA r10
 (ob (partA false 2 1 b1) fun r11 =>
 ob (binA Pg .eql 9 true r11 (S ⟨#[]⟩)) fun r12 =>
 f190_j17 r12 H Q)
 (ob (partA false 1 1 b1) fun r13 =>
 ob (binA Pg .eql 2 true r13 (I 1)) fun r14 =>
 cndA r14
 (ob (partA false 2 1 b1) fun r15 =>
 ob (binA Pg .eql 9 true r15 (S ⟨#[]⟩)) fun r16 =>
 f190_j17 r16 H Q)
 (f190_j17 (B false) H Q)))
 (ob (binA Pg .eql 3 true r2 (I 2)) fun r17 =>
 cndA r17
 (ob (partA false 2 1 b1) fun r18 =>
 ob (binA Pg .eql 9 true r18 (S ⟨#[]⟩)) fun r19 =>
 Q r19 H)
 (ob (binA Pg .eql 3 true r2 (I 3)) fun r20 =>
 cndA r20
 (ob (partA false 1 1 b1) fun r21 =>
 ob (binA Pg .eql 2 true r21 (I 0)) fun r22 =>
 cndA r22
 (ob (partA false 2 1 b1) fun r23 =>
 ob (lenSA r23) fun r24 =>
 ob (binA Pg .leq 3 true r24 (I 256)) fun r25 =>
 f190_j29 r25 H Q)
 (f190_j29 (B false) H Q))
 (Q (B false) H)))) :=
 Ev_eq.trans (by kernel_rfl)
def f191_l6 (x0:AV) (x3:AV) (H:Heap) (Q:Post):Prop:=AtF Pg Hs 191 [1,0,1,0] Q [(0,.val x0),(3,.val x3)] H
def f191_j25 (x2:AV) (H:Heap) (Q:Post):Prop:=AtJ Pg Hs 191 [1,1,1] Q [(2,.val x2)] H
theorem f191_l6_eq (x0:AV) (x3:AV) (H:Heap) (Q:Post):f191_l6 x0 x3 H Q =
 ob (lenSA x0) fun r1 =>
 ob (binA Pg .lss 3 false x3 r1) fun r2 =>
 cndA r2
 (ob (ixA x0 x3) fun r3 =>
 E 250 [r3] H fun r4 H5 =>
 ob (unA .not r4) fun r6 =>
 cndA r6
 (Q (B false) H5)
 (ob (binA Pg .add 3 true x3 (I 1)) fun r7 =>
 f191_l6 x0 r7 H5 Q))
 (ob (lenSA x0) fun r8 =>
 ob (binA Pg .geq 3 true r8 (I 1)) fun r9 =>
 cndA r9
 (ob (lenSA x0) fun r10 =>
 ob (binA Pg .leq 3 true r10 (I 32)) fun r11 =>
 cndA r11
 (ob (ixA x0 (I 0)) fun r12 =>
 E 258 [r12] H fun r13 H14 =>
 f191_j25 r13 H14 Q)
 (f191_j25 (B false) H Q))
 (f191_j25 (B false) H Q)) :=
 (AtF_eq Pg Hs 191 [1,0,1,0] Q _ H).trans (by kernel_rfl)
theorem f191_j25_eq (x2:AV) (H:Heap) (Q:Post):f191_j25 x2 H Q =
 Q x2 H :=
 (AtJ_eq Pg Hs 191 [1,1,1] Q _ H).trans (by kernel_rfl)
theorem f191_eq (a0:AV) (H:Heap) (Q:Post):E 191 [a0] H Q =
 f191_l6 a0 (I 0) H Q :=
 Ev_eq.trans (by kernel_rfl)
def f192_j4 (x2:AV) (x3:AV) (H:Heap) (Q:Post):Prop:=AtJ Pg Hs 192 [1,1] Q [(2,.val x2),(3,.val x3)] H
theorem f192_j4_eq (x2:AV) (x3:AV) (H:Heap) (Q:Post):f192_j4 x2 x3 H Q =
 Q (AV.tup [x2,x3]) H :=
 (AtJ_eq Pg Hs 192 [1,1] Q _ H).trans (by kernel_rfl)
theorem f192_eq (a0:AV) (H:Heap) (Q:Post):E 192 [a0] H Q =
 ob (sizedA 7 a0) fun b1 =>
 ob (partA false 2 1 b1) fun r2 =>
 ob (partA false 0 1 b1) fun r3 =>
 ob (binA Pg .eql 3 true r3 (I 1)) fun r4 =>
 cndA r4
 (ob (partA false 1 1 b1) fun r5 =>
 ob (binA Pg .eql 3 true r5 (I 2)) fun r6 =>
 f192_j4 r2 r6 H Q)
 (f192_j4 r2 (B false) H Q) :=
 Ev_eq.trans (by kernel_rfl)
theorem f193_eq (a0:AV) (H:Heap) (Q:Post):E 193 [a0] H Q =
 ob (sizedA 3 a0) fun b1 =>
 ob (partA true 0 3 b1) fun r2 =>
 E 121 [r2] H fun r3 H4 =>
 ob (unA .not r3) fun r5 =>
 cndA r5
 (Q (AV.tup [(S ⟨#[]⟩),(I 1)]) H4)
 (ob (partA true 0 3 b1) fun r6 =>
 E 259 [] H4 fun r7 H8 =>
 ob (binA Pg .eql 23 false r6 r7) fun r9 =>
 cndA r9
 (Q (AV.tup [(S ⟨#[78,85,76,76]⟩),(I 0)]) H8)
 (E 251 [(B true)] H8 fun r10 H11 =>
 ob (binA Pg .eql 23 false r6 r10) fun r12 =>
 cndA r12
 (Q (AV.tup [(S ⟨#[84,82,85,69]⟩),(I 0)]) H11)
 (E 251 [(B false)] H11 fun r13 H14 =>
 ob (binA Pg .eql 23 false r6 r13) fun r15 =>
 cndA r15
 (Q (AV.tup [(S ⟨#[70,65,76,83,69]⟩),(I 0)]) H14)
 (ob (partA false 0 1 b1) fun r16 =>
 ob (binA Pg .eql 3 true r16 (I 2)) fun r17 =>
 cndA r17
 (ob (partA false 1 1 b1) fun r18 =>
 E 232 [r18] H14 fun r19 H20 =>
 Q (AV.tup [r19,(I 0)]) H20)
 (ob (partA false 2 1 b1) fun r21 =>
 E 260 [r21] H14 fun r22 H23 =>
 ob (extractA r22 0) fun r24 =>
 ob (extractA r22 1) fun r25 =>
 Q (AV.tup [r24,r25]) H23))))) :=
 Ev_eq.trans (by kernel_rfl)
def f194_j9 (x0:AV) (x3:List AV) (x19:AV) (H:Heap) (Q:Post):Prop:=AtJ Pg Hs 194 [1,1,0,1,1] Q [(0,.val x0),(3,.lbox x3),(19,.val x19)] H
theorem f194_j9_eq (x0:AV) (x3:List AV) (x19:AV) (H:Heap) (Q:Post):f194_j9 x0 x3 x19 H Q =
 cndA x19
 (ob (nilA x0) fun r12 =>
 ob (addPA r12 0) fun r13 =>
 E 114 [r13,(AV.raw (.int .u8 40))] H fun r14 H15 =>
 ob (partA true 0 7 x3) fun r16 =>
 E 52 [x0,r16,(I 1)] H15 fun r17 H18 =>
 ob (nilA x0) fun r19 =>
 ob (addPA r19 0) fun r20 =>
 E 114 [r20,(AV.raw (.int .u8 41))] H18 fun r21 H22 =>
 Q (AV.tup []) H22)
 (ob (partA true 0 7 x3) fun r23 =>
 E 52 [x0,r23,(I 7)] H fun r24 H25 =>
 Q (AV.tup []) H25) :=
 (AtJ_eq Pg Hs 194 [1,1,0,1,1] Q _ H).trans (by kernel_rfl)
theorem f194_eq (a0 a1:AV) (H:Heap) (Q:Post):E 194 [a0,a1] H Q =
 ob (sizedA 7 a1) fun b1 =>
 ob (nilA a0) fun r2 =>
 ob (addPA r2 0) fun r3 =>
 E 114 [r3,(AV.raw (.int .u8 45))] H fun r4 H5 =>
 ob (partA true 0 7 b1) fun r6 =>
 E 192 [r6] H5 fun r7 H8 =>
 ob (extractA r7 0) fun r9 =>
 ob (extractA r7 1) fun r10 =>
 cndA r10
 (ob (binA Pg .geq 2 true r9 (I 0)) fun r11 =>
 f194_j9 a0 b1 r11 H8 Q)
 (f194_j9 a0 b1 (B false) H8 Q) :=
 Ev_eq.trans (by kernel_rfl)
theorem f195_eq (a0 a1 a2 a3:AV) (H:Heap) (Q:Post):E 195 [a0,a1,a2,a3] H Q =
 ob (sizedA 7 a1) fun b1 =>
 ob (partA false 6 1 b1) fun r2 =>
 ob (ixaA 7 r2 (I 0)) fun c3 =>
 ob (partA true 0 7 c3) fun r4 =>
 E 52 [a0,r4,a2] H fun r5 H6 =>
 ob (nilA a0) fun r7 =>
 ob (addPA r7 0) fun r8 =>
 ob (partA false 0 1 b1) fun r9 =>
 ob (binA Pg .sub 3 true r9 (I 4)) fun r10 =>
 E 261 [] H6 fun r11 H12 =>
 ob (ixAgg 11 true 2 r11 r10) fun r13 =>
 fldK false 0 1 r13 fun r14 =>
 ob (binA Pg .add 9 true (S ⟨#[32]⟩) r14) fun r15 =>
 ob (binA Pg .add 9 true r15 (S ⟨#[32]⟩)) fun r16 =>
 E 118 [r8,r16] H12 fun r17 H18 =>
 ob (partA false 6 1 b1) fun r19 =>
 ob (ixaA 7 r19 (I 1)) fun c20 =>
 ob (partA true 0 7 c20) fun r21 =>
 E 52 [a0,r21,a3] H18 fun r22 H23 =>
 Q (AV.tup []) H23 :=
 Ev_eq.trans (by kernel_rfl)
theorem f196_eq (a0:AV) (H:Heap) (Q:Post):E 196 [a0] H Q =
 ob (nilA a0) fun r1 =>
 ob (addPA r1 0) fun r2 =>
 ob (ldH H false 1 r2) fun r3 =>
 ob (binA Pg .eql 90 true r3 (AV.raw (.pointer none))) fun r4 =>
 cndA r4
 (convP Pg 90 253 a0 H fun r5 =>
 primA Pg 262 [r5] fun r6 =>
 convP Pg 253 90 r6 H fun r7 =>
 ob (nilA a0) fun r8 =>
 ob (addPA r8 0) fun r9 =>
 ob (stH H 1 r9 r7) fun H10 =>
 Q (AV.tup []) H10)
 (ob (nilA a0) fun r11 =>
 ob (addPA r11 0) fun r12 =>
 ob (ldH H false 1 r12) fun r13 =>
 ob (binA Pg .neq 90 false r13 a0) fun r14 =>
 cndA r14
 (False)
 (Q (AV.tup []) H)) :=
 Ev_eq.trans (by kernel_rfl)
theorem f197_eq (a0:AV) (H:Heap) (Q:Post):E 197 [a0] H Q =
 ob (binA Pg .lss 2 true a0 (I 0)) fun r1 =>
 cndA r1
 (ob (binA Pg .quo 2 true a0 (I 10)) fun r2 =>
 ob (binA Pg .rem 2 true a0 (I 10)) fun r3 =>
 ob (binA Pg .sub 2 true (I 48) r3) fun r4 =>
 ob (cvtIA .u8 r4) fun r6 =>
 ob (mkSlA 1 [r6]) fun r7 =>
 bsA r7 fun r8 =>
 ob (binA Pg .eql 2 true r2 (I 0)) fun r9 =>
 cndA r9
 (ob (binA Pg .add 9 true (S ⟨#[45]⟩) r8) fun r10 =>
 Q r10 H)
 (E 197 [r2] H fun r11 H12 =>
 ob (binA Pg .add 9 false r11 r8) fun r13 =>
 Q r13 H12))
 (ob (binA Pg .rem 2 true a0 (I 10)) fun r14 =>
 ob (binA Pg .add 2 true (I 48) r14) fun r15 =>
 ob (cvtIA .u8 r15) fun r17 =>
 ob (mkSlA 1 [r17]) fun r18 =>
 bsA r18 fun r19 =>
 ob (binA Pg .geq 2 true a0 (I 10)) fun r20 =>
 cndA r20
 (ob (binA Pg .quo 2 true a0 (I 10)) fun r21 =>
 E 197 [r21] H fun r22 H23 =>
 ob (binA Pg .add 9 false r22 r19) fun r24 =>
 Q r24 H23)
 (Q r19 H)) :=
 Ev_eq.trans (by kernel_rfl)
def f198_l16 (x0:AV) (x4:AV) (x5:AV) (H:Heap) (Q:Post):Prop:=AtF Pg Hs 198 [1,1,1,0,1,0] Q [(0,.val x0),(4,.val x4),(5,.val x5)] H
theorem f198_l16_eq (x0:AV) (x4:AV) (x5:AV) (H:Heap) (Q:Post):f198_l16 x0 x4 x5 H Q =
 ob (lenSA x0) fun r3 =>
 ob (binA Pg .lss 3 false x5 r3) fun r4 =>
 cndA r4
 (ob (ixA x0 x5) fun r5 =>
 E 263 [r5] H fun r6 H7 =>
 ob (binA Pg .add 9 false x4 r6) fun r8 =>
 ob (binA Pg .add 3 true x5 (I 1)) fun r9 =>
 f198_l16 x0 r8 r9 H7 Q)
 (ob (binA Pg .add 9 true x4 (S ⟨#[39]⟩)) fun r10 =>
 Q (AV.tup [r10,(I 0)]) H) :=
 (AtF_eq Pg Hs 198 [1,1,1,0,1,0] Q _ H).trans (by kernel_rfl)
theorem f198_eq (a0:AV) (H:Heap) (Q:Post):E 198 [a0] H Q =
 ob (lenSA a0) fun r1 =>
 ob (binA Pg .gtr 3 true r1 (I 256)) fun r2 =>
 cndA r2
 (Q (AV.tup [(S ⟨#[]⟩),(I 2)]) H)
 (f198_l16 a0 (S ⟨#[39]⟩) (I 0) H Q) :=
 Ev_eq.trans (by kernel_rfl)
def f199_j4 (x2:AV) (H:Heap) (Q:Post):Prop:=AtJ Pg Hs 199 [1,1] Q [(2,.val x2)] H
theorem f199_j4_eq (x2:AV) (H:Heap) (Q:Post):f199_j4 x2 H Q =
 Q x2 H :=
 (AtJ_eq Pg Hs 199 [1,1] Q _ H).trans (by kernel_rfl)
theorem f199_eq (a0:AV) (H:Heap) (Q:Post):E 199 [a0] H Q =
 E 200 [a0] H fun r1 H2 =>
 cndA r1
 (f199_j4 (B true) H2 Q)
 (E 264 [a0] H2 fun r3 H4 =>
 cndA r3
 (f199_j4 (B true) H4 Q)
 (ob (binA Pg .eql 21 true a0 (AV.raw (.int .i32 95))) fun r5 =>
 f199_j4 r5 H4 Q)) :=
 Ev_eq.trans (by kernel_rfl)
def f200_j4 (x2:AV) (H:Heap) (Q:Post):Prop:=AtJ Pg Hs 200 [1,1] Q [(2,.val x2)] H
theorem f200_j4_eq (x2:AV) (H:Heap) (Q:Post):f200_j4 x2 H Q =
 Q x2 H :=
 (AtJ_eq Pg Hs 200 [1,1] Q _ H).trans (by kernel_rfl)
theorem f200_eq (a0:AV) (H:Heap) (Q:Post):E 200 [a0] H Q =
 ob (binA Pg .geq 21 true a0 (AV.raw (.int .i32 97))) fun r1 =>
 cndA r1
 (ob (binA Pg .leq 21 true a0 (AV.raw (.int .i32 122))) fun r2 =>
 f200_j4 r2 H Q)
 (f200_j4 (B false) H Q) :=
 Ev_eq.trans (by kernel_rfl)
def f201_l6 (x0:AV) (x1:AV) (x7:AV) (x8:AV) (H:Heap) (Q:Post):Prop:=AtF Pg Hs 201 [1,0,1,0] Q [(0,.val x0),(1,.val x1),(7,.val x7),(8,.val x8)] H
theorem f201_l6_eq (x0:AV) (x1:AV) (x7:AV) (x8:AV) (H:Heap) (Q:Post):f201_l6 x0 x1 x7 x8 H Q =
 ob (binA Pg .lss 3 false x8 x7) fun r2 =>
 cndA r2
 (ob (ixaA 7 x0 x8) fun c3 =>
 ob (partA true 0 7 c3) fun r4 =>
 callA (Ev Pg Hs) x1 [r4] H fun r5 H6 =>
 cndA r5
 (Q x8 H6)
 (ob (binA Pg .add 3 true x8 (I 1)) fun r7 =>
 f201_l6 x0 x1 x7 r7 H6 Q))
 (Q (I (-1)) H) :=
 (AtF_eq Pg Hs 201 [1,0,1,0] Q _ H).trans (by kernel_rfl)
theorem f201_eq (a0 a1:AV) (H:Heap) (Q:Post):E 201 [a0,a1] H Q =
 ob (lenA a0) fun r1 =>
 f201_l6 a0 a1 r1 (I 0) H Q :=
 Ev_eq.trans (by kernel_rfl)
def f202_l8 (x3:AV) (x6:AV) (x7:AV) (x8:AV) (H:Heap) (Q:Post):Prop:=AtF Pg Hs 202 [1,1,0,1,0] Q [(3,.val x3),(6,.val x6),(7,.val x7),(8,.val x8)] H
theorem f202_l8_eq (x3:AV) (x6:AV) (x7:AV) (x8:AV) (H:Heap) (Q:Post):f202_l8 x3 x6 x7 x8 H Q =
 ob (binA Pg .lss 3 false x8 x7) fun r2 =>
 cndA r2
 (ob (ixaA 1 x6 x8) fun c3 =>
 ob (partA false 0 1 c3) fun r4 =>
 ob (binA Pg .neq 3 false r4 x3) fun r5 =>
 cndA r5
 (Q r4 H)
 (ob (binA Pg .add 3 true x8 (I 1)) fun r6 =>
 f202_l8 x3 x6 x7 r6 H Q))
 (Q x3 H) :=
 (AtF_eq Pg Hs 202 [1,1,0,1,0] Q _ H).trans (by kernel_rfl)
theorem f202_eq (a0:AV) (H:Heap) (Q:Post):E 202 [a0] H Q =
 ob (lenA a0) fun r1 =>
 f202_l8 (I 0) a0 r1 (I 0) H Q :=
 Ev_eq.trans (by kernel_rfl)
theorem f203_eq (a0 a1:AV) (H:Heap) (Q:Post):E 203 [a0,a1] H Q =
 E 265 [a0] H fun r1 H2 =>
 E 265 [a1] H2 fun r3 H4 =>
 cndA r1
 (cndA r3
 (Q (I 0) H4)
 (Q (I (-1)) H4))
 (cndA r3
 (Q (I 1) H4)
 (ob (binA Pg .lss 3 false a0 a1) fun r5 =>
 cndA r5
 (Q (I (-1)) H4)
 (ob (binA Pg .gtr 3 false a0 a1) fun r6 =>
 cndA r6
 (Q (I 1) H4)
 (Q (I 0) H4)))) :=
 Ev_eq.trans (by kernel_rfl)
theorem f204_eq (a0 a1:AV) (H:Heap) (Q:Post):E 204 [a0,a1] H Q =
 ob (sizedA 3 a0) fun b1 =>
 ob (sizedA 3 a1) fun b2 =>
 ob (partA false 0 1 b1) fun r3 =>
 ob (partA false 0 1 b2) fun r4 =>
 E 203 [r3,r4] H fun r5 H6 =>
 ob (binA Pg .neq 3 true r5 (I 0)) fun r7 =>
 cndA r7
 (Q r5 H6)
 (ob (partA false 1 1 b1) fun r8 =>
 ob (partA false 1 1 b2) fun r9 =>
 E 266 [r8,r9] H6 fun r10 H11 =>
 ob (binA Pg .neq 3 true r10 (I 0)) fun r12 =>
 cndA r12
 (Q r10 H11)
 (ob (partA false 2 1 b1) fun r13 =>
 ob (partA false 2 1 b2) fun r14 =>
 E 205 [r13,r14] H11 fun r15 H16 =>
 Q r15 H16)) :=
 Ev_eq.trans (by kernel_rfl)
theorem f205_eq (a0 a1:AV) (H:Heap) (Q:Post):E 205 [a0,a1] H Q =
 E 267 [a0] H fun r1 H2 =>
 E 267 [a1] H2 fun r3 H4 =>
 cndA r1
 (cndA r3
 (Q (I 0) H4)
 (Q (I (-1)) H4))
 (cndA r3
 (Q (I 1) H4)
 (ob (binA Pg .lss 9 false a0 a1) fun r5 =>
 cndA r5
 (Q (I (-1)) H4)
 (ob (binA Pg .gtr 9 false a0 a1) fun r6 =>
 cndA r6
 (Q (I 1) H4)
 (Q (I 0) H4)))) :=
 Ev_eq.trans (by kernel_rfl)
def f206_j7 (x0:AV) (x19:AV) (H:Heap) (Q:Post):Prop:=AtJ Pg Hs 206 [1,1,0,1] Q [(0,.val x0),(19,.val x19)] H
theorem f206_j7_eq (x0:AV) (x19:AV) (H:Heap) (Q:Post):f206_j7 x0 x19 H Q =
 cndA x19
 (Q (B false) H)
 (E 268 [x0] H fun r9 H10 =>
 Q (B true) H10) :=
 (AtJ_eq Pg Hs 206 [1,1,0,1] Q _ H).trans (by kernel_rfl)
theorem f206_eq (a0 a1 a2:AV) (H:Heap) (Q:Post):E 206 [a0,a1,a2] H Q =
 E 44 [a0] H fun r1 H2 =>
 ob (sizedA 3 r1) fun b3 =>
 ob (spliceA 0 b3 [(I 0),(S ⟨#[]⟩),(I 0)]) fun b4 =>
 ob (partA false 0 1 b4) fun r5 =>
 ob (binA Pg .neq 3 false r5 a1) fun r6 =>
 cndA r6
 (f206_j7 a0 (B true) H2 Q)
 (ob (partA false 1 1 b4) fun r7 =>
 ob (binA Pg .neq 9 false r7 a2) fun r8 =>
 f206_j7 a0 r8 H2 Q) :=
 Ev_eq.trans (by kernel_rfl)
theorem f228_eq (a0 a1:AV) (H:Heap) (Q:Post):E 228 [a0,a1] H Q =
 E 206 [a0,(I 5),a1] H fun r1 H2 =>
 Q r1 H2 :=
 Ev_eq.trans (by kernel_rfl)
theorem f229_eq (a0:AV) (H:Heap) (Q:Post):E 229 [a0] H Q =
 E 44 [a0] H fun r1 H2 =>
 ob (sizedA 3 r1) fun b3 =>
 ob (spliceA 0 b3 [(I 0),(S ⟨#[]⟩),(I 0)]) fun b4 =>
 ob (partA false 0 1 b4) fun r5 =>
 ob (binA Pg .neq 3 true r5 (I 2)) fun r6 =>
 cndA r6
 (Q (AV.tup [(S ⟨#[]⟩),(B false)]) H2)
 (E 268 [a0] H2 fun r7 H8 =>
 ob (partA false 1 1 b4) fun r9 =>
 Q (AV.tup [r9,(B true)]) H8) :=
 Ev_eq.trans (by kernel_rfl)
def f232_j12 (x0:AV) (x3:AV) (x4:AV) (H:Heap) (Q:Post):Prop:=AtJ Pg Hs 232 [1,1,1,1] Q [(0,.val x0),(3,.val x3),(4,.val x4)] H
def f232_l18 (x0:AV) (x3:AV) (x4:AV) (x5:AV) (x6:AV) (H:Heap) (Q:Post):Prop:=AtF Pg Hs 232 [1,1,1,1,1,1,0,0] Q [(0,.val x0),(3,.val x3),(4,.val x4),(5,.val x5),(6,.val x6)] H
def f232_j39 (x5:AV) (x6:AV) (H:Heap) (Q:Post):Prop:=AtJ Pg Hs 232 [1,1,1,1,1,1,1,1] Q [(5,.val x5),(6,.val x6)] H
theorem f232_j12_eq (x0:AV) (x3:AV) (x4:AV) (H:Heap) (Q:Post):f232_j12 x0 x3 x4 H Q =
 newH H [(AV.raw (.int .u8 0)),(AV.raw (.int .u8 0)),(AV.raw (.int .u8 0)),(AV.raw (.int .u8 0)),(AV.raw (.int .u8 0)),(AV.raw (.int .u8 0)),(AV.raw (.int .u8 0)),(AV.raw (.int .u8 0)),(AV.raw (.int .u8 0)),(AV.raw (.int .u8 0)),(AV.raw (.int .u8 0)),(AV.raw (.int .u8 0)),(AV.raw (.int .u8 0)),(AV.raw (.int .u8 0)),(AV.raw (.int .u8 0)),(AV.raw (.int .u8 0)),(AV.raw (.int .u8 0)),(AV.raw (.int .u8 0)),(AV.raw (.int .u8 0)),(AV.raw (.int .u8 0))] fun r10 H11 =>
 f232_l18 x0 x3 x4 r10 (I 20) H11 Q :=
 (AtJ_eq Pg Hs 232 [1,1,1,1] Q _ H).trans (by kernel_rfl)
theorem f232_l18_eq (x0:AV) (x3:AV) (x4:AV) (x5:AV) (x6:AV) (H:Heap) (Q:Post):f232_l18 x0 x3 x4 x5 x6 H Q =
 ob (binA Pg .sub 3 true x6 (I 1)) fun r12 =>
 ob (binA Pg .rem 268 true x4 (AV.raw (.int .u64 10))) fun r13 =>
 ob (ixPA 10 1 x3 r13) fun r14 =>
 ob (ldH H false 1 r14) fun r15 =>
 ob (ixPA 20 1 x5 r12) fun r16 =>
 ob (stH H 1 r16 r15) fun H17 =>
 ob (binA Pg .quo 268 true x4 (AV.raw (.int .u64 10))) fun r18 =>
 ob (binA Pg .eql 268 true r18 (AV.raw (.int .u64 0))) fun r19 =>
 cndA r19
 (ob (binA Pg .lss 2 true x0 (I 0)) fun r20 =>
 cndA r20
 (ob (binA Pg .sub 3 true r12 (I 1)) fun r21 =>
 ob (ixPA 20 1 x5 r21) fun r22 =>
 ob (stH H17 1 r22 (AV.raw (.int .u8 45))) fun H23 =>
 f232_j39 x5 r21 H23 Q)
 (f232_j39 x5 r12 H17 Q))
 (f232_l18 x0 x3 r18 x5 r12 H17 Q) :=
 (AtF_eq Pg Hs 232 [1,1,1,1,1,1,0,0] Q _ H).trans (by kernel_rfl)
theorem f232_j39_eq (x5:AV) (x6:AV) (H:Heap) (Q:Post):f232_j39 x5 x6 H Q =
 slArr 20 x5 x6 H fun r24 H25 =>
 bsA r24 fun r26 =>
 Q r26 H25 :=
 (AtJ_eq Pg Hs 232 [1,1,1,1,1,1,1,1] Q _ H).trans (by kernel_rfl)
theorem f232_eq (a0:AV) (H:Heap) (Q:Post):E 232 [a0] H Q =
 E 279 [] H fun r1 H2 =>
 newH H2 [(AV.raw (.int .u8 0)),(AV.raw (.int .u8 0)),(AV.raw (.int .u8 0)),(AV.raw (.int .u8 0)),(AV.raw (.int .u8 0)),(AV.raw (.int .u8 0)),(AV.raw (.int .u8 0)),(AV.raw (.int .u8 0)),(AV.raw (.int .u8 0)),(AV.raw (.int .u8 0))] fun r3 H4 =>
 ob (stH H4 10 r3 r1) fun H5 =>
 ob (cvtIA .u64 a0) fun r7 =>
 ob (binA Pg .lss 2 true a0 (I 0)) fun r8 =>
 cndA r8
 (ob (unA .neg r7) fun r9 =>
 f232_j12 a0 r3 r9 H5 Q)
 (f232_j12 a0 r3 r7 H5 Q) :=
 Ev_eq.trans (by kernel_rfl)
def f241_j5 (x0:AV) (x16:AV) (H:Heap) (Q:Post):Prop:=AtJ Pg Hs 241 [1,0,1] Q [(0,.val x0),(16,.val x16)] H
def f241_l15 (x5:AV) (x6:AV) (H:Heap) (Q:Post):Prop:=AtF Pg Hs 241 [1,1,1,1,0] Q [(5,.val x5),(6,.val x6)] H
def f241_j23 (x5:AV) (x6:AV) (x7:AV) (x8:AV) (x9:AV) (x26:AV) (H:Heap) (Q:Post):Prop:=AtJ Pg Hs 241 [1,1,1,1,0,0,0,1,0,0,1] Q [(5,.val x5),(6,.val x6),(7,.val x7),(8,.val x8),(9,.val x9),(26,.val x26)] H
theorem f241_j5_eq (x0:AV) (x16:AV) (H:Heap) (Q:Post):f241_j5 x0 x16 H Q =
 cndA x16
 (Q (AV.tup [(S ⟨#[]⟩),(I 0),(I 4)]) H)
 (ob (bldA [(0,1,x0),(1,1,(I 1))] [(S ⟨#[]⟩),(I 0)]) fun r4 =>
 ob (sizedA 2 r4) fun b5 =>
 newH H b5 fun r6 H7 =>
 f241_l15 r6 (AV.sl 0 true .full []) H7 Q) :=
 (AtJ_eq Pg Hs 241 [1,0,1] Q _ H).trans (by kernel_rfl)
theorem f241_l15_eq (x5:AV) (x6:AV) (H:Heap) (Q:Post):f241_l15 x5 x6 H Q =
 E 281 [x5] H fun r8 H9 =>
 ob (extractA r8 0) fun r10 =>
 ob (extractA r8 1) fun r11 =>
 ob (extractA r8 2) fun r12 =>
 cndA r12
 (ob (lenA x6) fun r13 =>
 ob (binA Pg .gtr 3 true r13 (I 256)) fun r14 =>
 f241_j23 x5 x6 r10 r11 r12 r14 H9 Q)
 (f241_j23 x5 x6 r10 r11 r12 (B false) H9 Q) :=
 (AtF_eq Pg Hs 241 [1,1,1,1,0] Q _ H).trans (by kernel_rfl)
theorem f241_j23_eq (x5:AV) (x6:AV) (x7:AV) (x8:AV) (x9:AV) (x26:AV) (H:Heap) (Q:Post):f241_j23 x5 x6 x7 x8 x9 x26 H Q =
 cndA x26
 (Q (AV.tup [(S ⟨#[]⟩),(I 0),(I 2)]) H)
 (cndA x9
 (ob (nilA x5) fun r15 =>
 ob (addPA r15 1) fun r16 =>
 apL r16 []
 (ob (ldH H false 1 r16) fun r17 =>
 bsA x6 fun r18 =>
 Q (AV.tup [r18,r17,(I 0)]) H))
 (ob (unA .not x8) fun r19 =>
 cndA r19
 (ob (nilA x5) fun r20 =>
 ob (addPA r20 1) fun r21 =>
 ob (ldH H false 1 r21) fun r22 =>
 Q (AV.tup [(S ⟨#[]⟩),r22,(I 4)]) H)
 (ob (mkSlA 1 [x7]) fun r23 =>
 appB 5 x6 r23 H fun r24 H25 =>
 f241_l15 x5 r24 H25 Q))) :=
 (AtJ_eq Pg Hs 241 [1,1,1,1,0,0,0,1,0,0,1] Q _ H).trans (by kernel_rfl)
theorem f241_eq (a0:AV) (H:Heap) (Q:Post):E 241 [a0] H Q =
 ob (binA Pg .eql 9 true a0 (S ⟨#[]⟩)) fun r1 =>
 cndA r1
 (f241_j5 a0 (B true) H Q)
 (ob (ixA a0 (I 0)) fun r2 =>
 ob (binA Pg .neq 5 true r2 (AV.raw (.int .u8 39))) fun r3 =>
 f241_j5 a0 r3 H Q) :=
 Ev_eq.trans (by kernel_rfl)
theorem f242_eq (a0:AV) (H:Heap) (Q:Post):E 242 [a0] H Q =
 ob (nilA a0) fun r1 =>
 ob (addPA r1 0) fun r2 =>
 ob (ldH H false 1 r2) fun r3 =>
 ob (nilA a0) fun r4 =>
 ob (addPA r4 1) fun r5 =>
 ob (ldH H false 1 r5) fun r6 =>
 ob (sliceSA r3 (some r6) none) fun r7 =>
 Q r7 H :=
 Ev_eq.trans (by kernel_rfl)
def f243_l6 (x0:AV) (x1:AV) (x8:AV) (H:Heap) (Q:Post):Prop:=AtF Pg Hs 243 [1,0,1,0] Q [(0,.val x0),(1,.val x1),(8,.val x8)] H
theorem f243_l6_eq (x0:AV) (x1:AV) (x8:AV) (H:Heap) (Q:Post):f243_l6 x0 x1 x8 H Q =
 nextA x8 H fun r3 H4 =>
 ob (extractA r3 0) fun r5 =>
 cndA r5
 (ob (extractA r3 1) fun r6 =>
 ob (extractA r3 2) fun r7 =>
 callA (Ev Pg Hs) x1 [r7] H4 fun r8 H9 =>
 ob (unA .not r8) fun r10 =>
 cndA r10
 (Q r6 H9)
 (f243_l6 x0 x1 x8 H9 Q))
 (ob (lenSA x0) fun r11 =>
 Q r11 H4) :=
 (AtF_eq Pg Hs 243 [1,0,1,0] Q _ H).trans (by kernel_rfl)
theorem f243_eq (a0 a1:AV) (H:Heap) (Q:Post):E 243 [a0,a1] H Q =
 rngA a0 H fun r1 H2 =>
 f243_l6 a0 a1 r1 H2 Q :=
 Ev_eq.trans (by kernel_rfl)
def f244_j4 (x2:AV) (H:Heap) (Q:Post):Prop:=AtJ Pg Hs 244 [1,1] Q [(2,.val x2)] H
theorem f244_j4_eq (x2:AV) (H:Heap) (Q:Post):f244_j4 x2 H Q =
 Q x2 H :=
 (AtJ_eq Pg Hs 244 [1,1] Q _ H).trans (by kernel_rfl)
theorem f244_eq (a0:AV) (H:Heap) (Q:Post):E 244 [a0] H Q =
 E 176 [a0] H fun r1 H2 =>
 cndA r1
 (f244_j4 (B true) H2 Q)
 (E 177 [a0] H2 fun r3 H4 =>
 cndA r3
 (f244_j4 (B true) H4 Q)
 (ob (binA Pg .eql 21 true a0 (AV.raw (.int .i32 95))) fun r5 =>
 f244_j4 r5 H4 Q)) :=
 Ev_eq.trans (by kernel_rfl)
theorem f245_eq (a0 a1 a2:AV) (H:Heap) (Q:Post):E 245 [a0,a1,a2] H Q =
 ob (nilA a0) fun r1 =>
 ob (addPA r1 0) fun r2 =>
 ob (ldH H false 1 r2) fun r3 =>
 ob (nilA a0) fun r4 =>
 ob (addPA r4 1) fun r5 =>
 ob (ldH H false 1 r5) fun r6 =>
 ob (nilA a0) fun r7 =>
 ob (addPA r7 1) fun r8 =>
 ob (ldH H false 1 r8) fun r9 =>
 ob (binA Pg .add 3 false r9 a2) fun r10 =>
 ob (sliceSA r3 (some r6) (some r10)) fun r11 =>
 ob (nilA a0) fun r12 =>
 ob (addPA r12 1) fun r13 =>
 ob (ldH H false 1 r13) fun r14 =>
 ob (bldA [(0,1,a1),(1,1,r11),(2,1,r14)] [(I 0),(S ⟨#[]⟩),(I 0)]) fun r15 =>
 ob (sizedA 3 r15) fun b16 =>
 ob (spliceA 0 b16 [(I 0),(S ⟨#[]⟩),(I 0)]) fun b17 =>
 ob (nilA a0) fun r18 =>
 ob (addPA r18 1) fun r19 =>
 ob (ldH H false 1 r19) fun r20 =>
 ob (binA Pg .add 3 false r20 a2) fun r21 =>
 ob (nilA a0) fun r22 =>
 ob (addPA r22 1) fun r23 =>
 ob (stH H 1 r23 r21) fun H24 =>
 ob (partA true 0 3 b17) fun r25 =>
 ob (sizedA 3 r25) fun b26 =>
 ob (spliceA 0 b26 [(I 0),(S ⟨#[]⟩),(I 0)]) fun b27 =>
 ob (partA true 0 3 b27) fun r28 =>
 Q r28 H24 :=
 Ev_eq.trans (by kernel_rfl)
theorem f246_eq (_u:Unit:=()) (H:Heap) (Q:Post):E 246 [] H Q =
 newH H [(S ⟨#[]⟩),(S ⟨#[]⟩),(S ⟨#[]⟩),(S ⟨#[]⟩),(S ⟨#[]⟩),(S ⟨#[]⟩),(S ⟨#[]⟩),(S ⟨#[]⟩),(S ⟨#[]⟩),(S ⟨#[]⟩),(S ⟨#[]⟩),(S ⟨#[]⟩),(S ⟨#[]⟩),(S ⟨#[]⟩),(S ⟨#[]⟩),(S ⟨#[]⟩),(S ⟨#[]⟩),(S ⟨#[]⟩),(S ⟨#[]⟩),(S ⟨#[]⟩),(S ⟨#[]⟩),(S ⟨#[]⟩)] fun r1 H2 =>
 ob (bldA [(0,1,(S ⟨#[60,61]⟩)),(1,1,(S ⟨#[62,61]⟩)),(2,1,(S ⟨#[60,62]⟩)),(3,1,(S ⟨#[45,62]⟩)),(4,1,(S ⟨#[40]⟩)),(5,1,(S ⟨#[41]⟩)),(6,1,(S ⟨#[44]⟩)),(7,1,(S ⟨#[46]⟩)),(8,1,(S ⟨#[43]⟩)),(9,1,(S ⟨#[45]⟩)),(10,1,(S ⟨#[42]⟩)),(11,1,(S ⟨#[47]⟩)),(12,1,(S ⟨#[37]⟩)),(13,1,(S ⟨#[61]⟩)),(14,1,(S ⟨#[60]⟩)),(15,1,(S ⟨#[62]⟩)),(16,1,(S ⟨#[33]⟩)),(17,1,(S ⟨#[124]⟩)),(18,1,(S ⟨#[123]⟩)),(19,1,(S ⟨#[125]⟩)),(20,1,(S ⟨#[91]⟩)),(21,1,(S ⟨#[93]⟩))] [(S ⟨#[]⟩),(S ⟨#[]⟩),(S ⟨#[]⟩),(S ⟨#[]⟩),(S ⟨#[]⟩),(S ⟨#[]⟩),(S ⟨#[]⟩),(S ⟨#[]⟩),(S ⟨#[]⟩),(S ⟨#[]⟩),(S ⟨#[]⟩),(S ⟨#[]⟩),(S ⟨#[]⟩),(S ⟨#[]⟩),(S ⟨#[]⟩),(S ⟨#[]⟩),(S ⟨#[]⟩),(S ⟨#[]⟩),(S ⟨#[]⟩),(S ⟨#[]⟩),(S ⟨#[]⟩),(S ⟨#[]⟩)]) fun r3 =>
 ob (stH H2 22 r1 r3) fun H4 =>
 ob (ldH H4 true 22 r1) fun r5 =>
 Q r5 H4 :=
 Ev_eq.trans (by kernel_rfl)
def f247_j4 (x4:AV) (H:Heap) (Q:Post):Prop:=AtJ Pg Hs 247 [1,1] Q [(4,.val x4)] H
theorem f247_j4_eq (x4:AV) (H:Heap) (Q:Post):f247_j4 x4 H Q =
 Q x4 H :=
 (AtJ_eq Pg Hs 247 [1,1] Q _ H).trans (by kernel_rfl)
theorem f247_eq (a0 a1:AV) (H:Heap) (Q:Post):E 247 [a0,a1] H Q =
 ob (lenSA a0) fun r1 =>
 ob (lenSA a1) fun r2 =>
 ob (binA Pg .geq 3 false r1 r2) fun r3 =>
 cndA r3
 (ob (lenSA a1) fun r4 =>
 ob (sliceSA a0 none (some r4)) fun r5 =>
 ob (binA Pg .eql 9 false r5 a1) fun r6 =>
 f247_j4 r6 H Q)
 (f247_j4 (B false) H Q) :=
 Ev_eq.trans (by kernel_rfl)
def f248_j4 (x2:AV) (H:Heap) (Q:Post):Prop:=AtJ Pg Hs 248 [1,1] Q [(2,.val x2)] H
theorem f248_j4_eq (x2:AV) (H:Heap) (Q:Post):f248_j4 x2 H Q =
 Q x2 H :=
 (AtJ_eq Pg Hs 248 [1,1] Q _ H).trans (by kernel_rfl)
theorem f248_eq (a0:AV) (H:Heap) (Q:Post):E 248 [a0] H Q =
 ob (binA Pg .geq 5 true a0 (AV.raw (.int .u8 32))) fun r1 =>
 cndA r1
 (ob (binA Pg .leq 5 true a0 (AV.raw (.int .u8 126))) fun r2 =>
 f248_j4 r2 H Q)
 (f248_j4 (B false) H Q) :=
 Ev_eq.trans (by kernel_rfl)
def f250_j4 (x2:AV) (H:Heap) (Q:Post):Prop:=AtJ Pg Hs 250 [1,1] Q [(2,.val x2)] H
theorem f250_j4_eq (x2:AV) (H:Heap) (Q:Post):f250_j4 x2 H Q =
 Q x2 H :=
 (AtJ_eq Pg Hs 250 [1,1] Q _ H).trans (by kernel_rfl)
theorem f250_eq (a0:AV) (H:Heap) (Q:Post):E 250 [a0] H Q =
 E 258 [a0] H fun r1 H2 =>
 cndA r1
 (f250_j4 (B true) H2 Q)
 (E 282 [a0] H2 fun r3 H4 =>
 cndA r3
 (f250_j4 (B true) H4 Q)
 (ob (binA Pg .eql 5 true a0 (AV.raw (.int .u8 95))) fun r5 =>
 f250_j4 r5 H4 Q)) :=
 Ev_eq.trans (by kernel_rfl)
def f251_j10 (x2:List AV) (x3:List AV) (H:Heap) (Q:Post):Prop:=AtJ Pg Hs 251 [1,1,1] Q [(2,.lbox x2),(3,.lbox x3)] H
theorem f251_j10_eq (x2:List AV) (x3:List AV) (H:Heap) (Q:Post):f251_j10 x2 x3 H Q =
 ob (partA true 0 3 x3) fun r6 =>
 ob (sizedA 3 r6) fun b7 =>
 ob (spliceA 0 b7 x2) fun b8 =>
 ob (partA true 0 3 b8) fun r9 =>
 Q r9 H :=
 (AtJ_eq Pg Hs 251 [1,1,1] Q _ H).trans (by kernel_rfl)
theorem f251_eq (a0:AV) (H:Heap) (Q:Post):E 251 [a0] H Q =
 ob (bldA [(0,1,(I 1))] [(I 0),(I 0),(S ⟨#[]⟩)]) fun r1 =>
 ob (sizedA 3 r1) fun b2 =>
 ob (spliceA 0 b2 [(I 0),(I 0),(S ⟨#[]⟩)]) fun b3 =>
 cndA a0
 (ob (sizedA 1 (I 1)) fun b4 =>
 ob (spliceA 1 b4 b3) fun b5 =>
 f251_j10 [(I 0),(I 0),(S ⟨#[]⟩)] b5 H Q)
 (f251_j10 [(I 0),(I 0),(S ⟨#[]⟩)] b3 H Q) :=
 Ev_eq.trans (by kernel_rfl)
def f252_j6 (x6:AV) (H:Heap) (Q:Post):Prop:=AtJ Pg Hs 252 [1,1,1] Q [(6,.val x6)] H
theorem f252_j6_eq (x6:AV) (H:Heap) (Q:Post):f252_j6 x6 H Q =
 Q x6 H :=
 (AtJ_eq Pg Hs 252 [1,1,1] Q _ H).trans (by kernel_rfl)
theorem f252_eq (a0 a1 a2:AV) (H:Heap) (Q:Post):E 252 [a0,a1,a2] H Q =
 ob (nilA a0) fun r1 =>
 ob (addPA r1 0) fun r2 =>
 ob (ldH H false 1 r2) fun r3 =>
 E 44 [r3] H fun r4 H5 =>
 ob (sizedA 3 r4) fun b6 =>
 ob (spliceA 0 b6 [(I 0),(S ⟨#[]⟩),(I 0)]) fun b7 =>
 ob (partA false 0 1 b7) fun r8 =>
 ob (binA Pg .eql 3 false r8 a1) fun r9 =>
 cndA r9
 (ob (partA false 1 1 b7) fun r10 =>
 ob (binA Pg .eql 9 false r10 a2) fun r11 =>
 f252_j6 r11 H5 Q)
 (f252_j6 (B false) H5 Q) :=
 Ev_eq.trans (by kernel_rfl)
theorem f253_eq (a0:AV) (H:Heap) (Q:Post):E 253 [a0] H Q =
 E 283 [a0] H fun r1 H2 =>
 ob (sizedA 7 r1) fun b3 =>
 ob (spliceA 0 b3 [(I 0),(I 0),(I 0),(S ⟨#[]⟩),(S ⟨#[]⟩),(S ⟨#[]⟩),(AV.sl 0 true .full [])]) fun b4 =>
 ob (nilA a0) fun r5 =>
 ob (addPA r5 2) fun r6 =>
 ob (ldH H2 false 1 r6) fun r7 =>
 ob (binA Pg .neq 27 true r7 (I 0)) fun r8 =>
 cndA r8
 (ob (partA true 0 7 b4) fun r9 =>
 ob (sizedA 7 r9) fun b10 =>
 ob (spliceA 0 b10 [(I 0),(I 0),(I 0),(S ⟨#[]⟩),(S ⟨#[]⟩),(S ⟨#[]⟩),(AV.sl 0 true .full [])]) fun b11 =>
 ob (partA true 0 7 b11) fun r12 =>
 Q r12 H2)
 (E 284 [a0,(I 9),(I 14)] H2 fun r13 H14 =>
 ob (extractA r13 0) fun r15 =>
 ob (extractA r13 1) fun r16 =>
 cndA r16
 (ob (partA true 0 7 b4) fun r17 =>
 E 283 [a0] H14 fun r18 H19 =>
 ob (mkSlA 7 [r17,r18]) fun r20 =>
 ob (bldA [(0,1,r15),(6,1,r20)] [(I 0),(I 0),(I 0),(S ⟨#[]⟩),(S ⟨#[]⟩),(S ⟨#[]⟩),(AV.sl 0 true .full [])]) fun r21 =>
 ob (sizedA 7 r21) fun b22 =>
 ob (spliceA 0 b22 [(I 0),(I 0),(I 0),(S ⟨#[]⟩),(S ⟨#[]⟩),(S ⟨#[]⟩),(AV.sl 0 true .full [])]) fun b23 =>
 ob (partA true 0 7 b23) fun r24 =>
 Q r24 H19)
 (ob (partA true 0 7 b4) fun r25 =>
 ob (sizedA 7 r25) fun b26 =>
 ob (spliceA 0 b26 [(I 0),(I 0),(I 0),(S ⟨#[]⟩),(S ⟨#[]⟩),(S ⟨#[]⟩),(AV.sl 0 true .full [])]) fun b27 =>
 ob (partA true 0 7 b27) fun r28 =>
 Q r28 H14)) :=
 Ev_eq.trans (by kernel_rfl)
theorem f254_eq (a0 a1:AV) (H:Heap) (Q:Post):E 254 [a0,a1] H Q =
 ob (nilA a0) fun r1 =>
 ob (addPA r1 1) fun r2 =>
 ob (ldH H false 1 r2) fun r3 =>
 ob (binA Pg .geq 3 true r3 (I 200)) fun r4 =>
 cndA r4
 (E 285 [a0,(I 2)] H fun r5 H6 =>
 ob (sizedA 7 r5) fun b7 =>
 ob (spliceA 0 b7 [(I 0),(I 0),(I 0),(S ⟨#[]⟩),(S ⟨#[]⟩),(S ⟨#[]⟩),(AV.sl 0 true .full [])]) fun b8 =>
 ob (partA true 0 7 b8) fun r9 =>
 Q r9 H6)
 (ob (nilA a0) fun r10 =>
 ob (addPA r10 0) fun r11 =>
 ob (ldH H false 1 r11) fun r12 =>
 E 268 [r12] H fun r13 H14 =>
 ob (nilA a0) fun r15 =>
 ob (addPA r15 1) fun r16 =>
 ob (ldH H14 false 1 r16) fun r17 =>
 ob (binA Pg .add 3 true r17 (I 1)) fun r18 =>
 ob (nilA a0) fun r19 =>
 ob (addPA r19 1) fun r20 =>
 ob (stH H14 1 r20 r18) fun H21 =>
 callA (Ev Pg Hs) a1 [] H21 fun r22 H23 =>
 ob (sizedA 7 r22) fun b24 =>
 ob (spliceA 0 b24 [(I 0),(I 0),(I 0),(S ⟨#[]⟩),(S ⟨#[]⟩),(S ⟨#[]⟩),(AV.sl 0 true .full [])]) fun b25 =>
 ob (nilA a0) fun r26 =>
 ob (addPA r26 1) fun r27 =>
 ob (ldH H23 false 1 r27) fun r28 =>
 ob (binA Pg .sub 3 true r28 (I 1)) fun r29 =>
 ob (nilA a0) fun r30 =>
 ob (addPA r30 1) fun r31 =>
 ob (stH H23 1 r31 r29) fun H32 =>
 ob (partA true 0 7 b25) fun r33 =>
 ob (sizedA 7 r33) fun b34 =>
 ob (spliceA 0 b34 [(I 0),(I 0),(I 0),(S ⟨#[]⟩),(S ⟨#[]⟩),(S ⟨#[]⟩),(AV.sl 0 true .full [])]) fun b35 =>
 ob (partA true 0 7 b35) fun r36 =>
 Q r36 H32) :=
 Ev_eq.trans (by kernel_rfl)
def f258_j4 (x2:AV) (H:Heap) (Q:Post):Prop:=AtJ Pg Hs 258 [1,1] Q [(2,.val x2)] H
theorem f258_j4_eq (x2:AV) (H:Heap) (Q:Post):f258_j4 x2 H Q =
 Q x2 H :=
 (AtJ_eq Pg Hs 258 [1,1] Q _ H).trans (by kernel_rfl)
theorem f258_eq (a0:AV) (H:Heap) (Q:Post):E 258 [a0] H Q =
 ob (binA Pg .geq 5 true a0 (AV.raw (.int .u8 97))) fun r1 =>
 cndA r1
 (ob (binA Pg .leq 5 true a0 (AV.raw (.int .u8 122))) fun r2 =>
 f258_j4 r2 H Q)
 (f258_j4 (B false) H Q) :=
 Ev_eq.trans (by kernel_rfl)
theorem f259_eq (_u:Unit:=()) (H:Heap) (Q:Post):E 259 [] H Q =
 ob (bldA [] [(I 0),(I 0),(S ⟨#[]⟩)]) fun r1 =>
 ob (sizedA 3 r1) fun b2 =>
 ob (spliceA 0 b2 [(I 0),(I 0),(S ⟨#[]⟩)]) fun b3 =>
 ob (partA true 0 3 b3) fun r4 =>
 Q r4 H :=
 Ev_eq.trans (by kernel_rfl)
def f260_l18 (x4:AV) (x5:AV) (x14:AV) (x15:AV) (x16:AV) (H:Heap) (Q:Post):Prop:=AtF Pg Hs 260 [1,1,1,1,0,1,0] Q [(4,.val x4),(5,.val x5),(14,.val x14),(15,.val x15),(16,.val x16)] H
def f260_j32 (x4:AV) (x5:AV) (x7:AV) (x14:AV) (x15:AV) (x16:AV) (x31:AV) (H:Heap) (Q:Post):Prop:=AtJ Pg Hs 260 [1,1,1,1,0,1,0,0,1,1,0,0,1,0,1] Q [(4,.val x4),(5,.val x5),(7,.val x7),(14,.val x14),(15,.val x15),(16,.val x16),(31,.val x31)] H
theorem f260_l18_eq (x4:AV) (x5:AV) (x14:AV) (x15:AV) (x16:AV) (H:Heap) (Q:Post):f260_l18 x4 x5 x14 x15 x16 H Q =
 ob (binA Pg .lss 3 false x16 x15) fun r11 =>
 cndA r11
 (ob (ixaA 1 x14 x16) fun c12 =>
 ob (partA false 0 1 c12) fun r13 =>
 ob (binA Pg .eql 5 true r13 (AV.raw (.int .u8 39))) fun r14 =>
 cndA r14
 (f260_j32 x4 x5 r13 x14 x15 x16 (B true) H Q)
 (ob (binA Pg .eql 5 true r13 (AV.raw (.int .u8 92))) fun r15 =>
 f260_j32 x4 x5 r13 x14 x15 x16 r15 H Q))
 (ob (mkSlA 1 [(AV.raw (.int .u8 39))]) fun r16 =>
 appB 5 x5 r16 H fun r17 H18 =>
 bsA r17 fun r19 =>
 Q (AV.tup [r19,(I 0)]) H18) :=
 (AtF_eq Pg Hs 260 [1,1,1,1,0,1,0] Q _ H).trans (by kernel_rfl)
theorem f260_j32_eq (x4:AV) (x5:AV) (x7:AV) (x14:AV) (x15:AV) (x16:AV) (x31:AV) (H:Heap) (Q:Post):f260_j32 x4 x5 x7 x14 x15 x16 x31 H Q =
 cndA x31
 (ob (mkSlA 1 [(AV.raw (.int .u8 92)),x7]) fun r20 =>
 appB 5 x5 r20 H fun r21 H22 =>
 ob (binA Pg .add 3 true x16 (I 1)) fun r23 =>
 f260_l18 x4 r21 x14 x15 r23 H22 Q)
 (E 290 [x7] H fun r24 H25 =>
 cndA r24
 (ob (mkSlA 1 [x7]) fun r26 =>
 appB 5 x5 r26 H25 fun r27 H28 =>
 ob (binA Pg .add 3 true x16 (I 1)) fun r29 =>
 f260_l18 x4 r27 x14 x15 r29 H28 Q)
 (ob (binA Pg .shr 5 true x7 (AV.raw (.int .u64 4))) fun r30 =>
 ob (ixPA 16 1 x4 r30) fun r31 =>
 ob (ldH H25 false 1 r31) fun r32 =>
 ob (binA Pg .and 5 true x7 (AV.raw (.int .u8 15))) fun r33 =>
 ob (ixPA 16 1 x4 r33) fun r34 =>
 ob (ldH H25 false 1 r34) fun r35 =>
 ob (mkSlA 1 [(AV.raw (.int .u8 92)),(AV.raw (.int .u8 120)),r32,r35]) fun r36 =>
 appB 5 x5 r36 H25 fun r37 H38 =>
 ob (binA Pg .add 3 true x16 (I 1)) fun r39 =>
 f260_l18 x4 r37 x14 x15 r39 H38 Q)) :=
 (AtJ_eq Pg Hs 260 [1,1,1,1,0,1,0,0,1,1,0,0,1,0,1] Q _ H).trans (by kernel_rfl)
theorem f260_eq (a0:AV) (H:Heap) (Q:Post):E 260 [a0] H Q =
 ob (lenSA a0) fun r1 =>
 ob (binA Pg .gtr 3 true r1 (I 256)) fun r2 =>
 cndA r2
 (Q (AV.tup [(S ⟨#[]⟩),(I 2)]) H)
 (E 289 [] H fun r3 H4 =>
 newH H4 [(AV.raw (.int .u8 0)),(AV.raw (.int .u8 0)),(AV.raw (.int .u8 0)),(AV.raw (.int .u8 0)),(AV.raw (.int .u8 0)),(AV.raw (.int .u8 0)),(AV.raw (.int .u8 0)),(AV.raw (.int .u8 0)),(AV.raw (.int .u8 0)),(AV.raw (.int .u8 0)),(AV.raw (.int .u8 0)),(AV.raw (.int .u8 0)),(AV.raw (.int .u8 0)),(AV.raw (.int .u8 0)),(AV.raw (.int .u8 0)),(AV.raw (.int .u8 0))] fun r5 H6 =>
 ob (stH H6 16 r5 r3) fun H7 =>
 ob (mkSlA 1 [(AV.raw (.int .u8 39))]) fun r8 =>
 sbA a0 fun r9 =>
 ob (lenA r9) fun r10 =>
 f260_l18 r5 r8 r9 r10 (I 0) H7 Q) :=
 Ev_eq.trans (by kernel_rfl)
theorem f261_eq (_u:Unit:=()) (H:Heap) (Q:Post):E 261 [] H Q =
 newH H [(S ⟨#[]⟩),(I 0),(S ⟨#[]⟩),(I 0),(S ⟨#[]⟩),(I 0),(S ⟨#[]⟩),(I 0),(S ⟨#[]⟩),(I 0),(S ⟨#[]⟩),(I 0),(S ⟨#[]⟩),(I 0),(S ⟨#[]⟩),(I 0),(S ⟨#[]⟩),(I 0),(S ⟨#[]⟩),(I 0),(S ⟨#[]⟩),(I 0)] fun r1 H2 =>
 ob (bldA [(0,1,(S ⟨#[43]⟩)),(1,1,(I 4))] [(S ⟨#[]⟩),(I 0)]) fun r3 =>
 ob (bldA [(0,1,(S ⟨#[45]⟩)),(1,1,(I 5))] [(S ⟨#[]⟩),(I 0)]) fun r4 =>
 ob (bldA [(0,1,(S ⟨#[42]⟩)),(1,1,(I 6))] [(S ⟨#[]⟩),(I 0)]) fun r5 =>
 ob (bldA [(0,1,(S ⟨#[47]⟩)),(1,1,(I 7))] [(S ⟨#[]⟩),(I 0)]) fun r6 =>
 ob (bldA [(0,1,(S ⟨#[37]⟩)),(1,1,(I 8))] [(S ⟨#[]⟩),(I 0)]) fun r7 =>
 ob (bldA [(0,1,(S ⟨#[61]⟩)),(1,1,(I 9))] [(S ⟨#[]⟩),(I 0)]) fun r8 =>
 ob (bldA [(0,1,(S ⟨#[60,62]⟩)),(1,1,(I 10))] [(S ⟨#[]⟩),(I 0)]) fun r9 =>
 ob (bldA [(0,1,(S ⟨#[60]⟩)),(1,1,(I 11))] [(S ⟨#[]⟩),(I 0)]) fun r10 =>
 ob (bldA [(0,1,(S ⟨#[60,61]⟩)),(1,1,(I 12))] [(S ⟨#[]⟩),(I 0)]) fun r11 =>
 ob (bldA [(0,1,(S ⟨#[62]⟩)),(1,1,(I 13))] [(S ⟨#[]⟩),(I 0)]) fun r12 =>
 ob (bldA [(0,1,(S ⟨#[62,61]⟩)),(1,1,(I 14))] [(S ⟨#[]⟩),(I 0)]) fun r13 =>
 ob (bldA [(0,2,r3),(2,2,r4),(4,2,r5),(6,2,r6),(8,2,r7),(10,2,r8),(12,2,r9),(14,2,r10),(16,2,r11),(18,2,r12),(20,2,r13)] [(S ⟨#[]⟩),(I 0),(S ⟨#[]⟩),(I 0),(S ⟨#[]⟩),(I 0),(S ⟨#[]⟩),(I 0),(S ⟨#[]⟩),(I 0),(S ⟨#[]⟩),(I 0),(S ⟨#[]⟩),(I 0),(S ⟨#[]⟩),(I 0),(S ⟨#[]⟩),(I 0),(S ⟨#[]⟩),(I 0),(S ⟨#[]⟩),(I 0)]) fun r14 =>
 ob (stH H2 22 r1 r14) fun H15 =>
 ob (ldH H15 true 22 r1) fun r16 =>
 Q r16 H15 :=
 Ev_eq.trans (by kernel_rfl)
def f263_j5 (x0:AV) (x8:AV) (H:Heap) (Q:Post):Prop:=AtJ Pg Hs 263 [1,0,1] Q [(0,.val x0),(8,.val x8)] H
theorem f263_j5_eq (x0:AV) (x8:AV) (H:Heap) (Q:Post):f263_j5 x0 x8 H Q =
 cndA x8
 (ob (mkSlA 1 [(AV.raw (.int .u8 92)),x0]) fun r3 =>
 bsA r3 fun r4 =>
 Q r4 H)
 (E 248 [x0] H fun r5 H6 =>
 cndA r5
 (ob (mkSlA 1 [x0]) fun r7 =>
 bsA r7 fun r8 =>
 Q r8 H6)
 (ob (binA Pg .quo 5 true x0 (AV.raw (.int .u8 16))) fun r9 =>
 ob (ixA (S ⟨#[48,49,50,51,52,53,54,55,56,57,97,98,99,100,101,102]⟩) r9) fun r10 =>
 ob (binA Pg .rem 5 true x0 (AV.raw (.int .u8 16))) fun r11 =>
 ob (ixA (S ⟨#[48,49,50,51,52,53,54,55,56,57,97,98,99,100,101,102]⟩) r11) fun r12 =>
 ob (mkSlA 1 [(AV.raw (.int .u8 92)),(AV.raw (.int .u8 120)),r10,r12]) fun r13 =>
 bsA r13 fun r14 =>
 Q r14 H6)) :=
 (AtJ_eq Pg Hs 263 [1,0,1] Q _ H).trans (by kernel_rfl)
theorem f263_eq (a0:AV) (H:Heap) (Q:Post):E 263 [a0] H Q =
 ob (binA Pg .eql 5 true a0 (AV.raw (.int .u8 39))) fun r1 =>
 cndA r1
 (f263_j5 a0 (B true) H Q)
 (ob (binA Pg .eql 5 true a0 (AV.raw (.int .u8 92))) fun r2 =>
 f263_j5 a0 r2 H Q) :=
 Ev_eq.trans (by kernel_rfl)
def f264_j4 (x2:AV) (H:Heap) (Q:Post):Prop:=AtJ Pg Hs 264 [1,1] Q [(2,.val x2)] H
theorem f264_j4_eq (x2:AV) (H:Heap) (Q:Post):f264_j4 x2 H Q =
 Q x2 H :=
 (AtJ_eq Pg Hs 264 [1,1] Q _ H).trans (by kernel_rfl)
theorem f264_eq (a0:AV) (H:Heap) (Q:Post):E 264 [a0] H Q =
 ob (binA Pg .geq 21 true a0 (AV.raw (.int .i32 48))) fun r1 =>
 cndA r1
 (ob (binA Pg .leq 21 true a0 (AV.raw (.int .i32 57))) fun r2 =>
 f264_j4 r2 H Q)
 (f264_j4 (B false) H Q) :=
 Ev_eq.trans (by kernel_rfl)
theorem f265_eq (a0:AV) (H:Heap) (Q:Post):E 265 [a0] H Q =
 ob (binA Pg .neq 3 false a0 a0) fun r1 =>
 Q r1 H :=
 Ev_eq.trans (by kernel_rfl)
theorem f266_eq (a0 a1:AV) (H:Heap) (Q:Post):E 266 [a0,a1] H Q =
 E 291 [a0] H fun r1 H2 =>
 E 291 [a1] H2 fun r3 H4 =>
 cndA r1
 (cndA r3
 (Q (I 0) H4)
 (Q (I (-1)) H4))
 (cndA r3
 (Q (I 1) H4)
 (ob (binA Pg .lss 2 false a0 a1) fun r5 =>
 cndA r5
 (Q (I (-1)) H4)
 (ob (binA Pg .gtr 2 false a0 a1) fun r6 =>
 cndA r6
 (Q (I 1) H4)
 (Q (I 0) H4)))) :=
 Ev_eq.trans (by kernel_rfl)
theorem f267_eq (a0:AV) (H:Heap) (Q:Post):E 267 [a0] H Q =
 ob (binA Pg .neq 9 false a0 a0) fun r1 =>
 Q r1 H :=
 Ev_eq.trans (by kernel_rfl)
def f268_j10 (x2:List AV) (x3:List AV) (H:Heap) (Q:Post):Prop:=AtJ Pg Hs 268 [1,1,1] Q [(2,.lbox x2),(3,.lbox x3)] H
theorem f268_j10_eq (x2:List AV) (x3:List AV) (H:Heap) (Q:Post):f268_j10 x2 x3 H Q =
 ob (partA true 0 3 x3) fun r14 =>
 ob (sizedA 3 r14) fun b15 =>
 ob (spliceA 0 b15 x2) fun b16 =>
 ob (partA true 0 3 b16) fun r17 =>
 Q r17 H :=
 (AtJ_eq Pg Hs 268 [1,1,1] Q _ H).trans (by kernel_rfl)
theorem f268_eq (a0:AV) (H:Heap) (Q:Post):E 268 [a0] H Q =
 E 44 [a0] H fun r1 H2 =>
 ob (sizedA 3 r1) fun b3 =>
 ob (spliceA 0 b3 [(I 0),(S ⟨#[]⟩),(I 0)]) fun b4 =>
 ob (partA false 0 1 b4) fun r5 =>
 ob (binA Pg .neq 3 true r5 (I 6)) fun r6 =>
 cndA r6
 (ob (nilA a0) fun r7 =>
 ob (addPA r7 1) fun r8 =>
 ob (ldH H2 false 1 r8) fun r9 =>
 ob (binA Pg .add 3 true r9 (I 1)) fun r10 =>
 ob (nilA a0) fun r11 =>
 ob (addPA r11 1) fun r12 =>
 ob (stH H2 1 r12 r10) fun H13 =>
 f268_j10 [(I 0),(S ⟨#[]⟩),(I 0)] b4 H13 Q)
 (f268_j10 [(I 0),(S ⟨#[]⟩),(I 0)] b4 H2 Q) :=
 Ev_eq.trans (by kernel_rfl)
def f269_l18 (x5:AV) (x7:AV) (x21:AV) (x22:AV) (x23:AV) (H:Heap) (Q:Post):Prop:=AtF Pg Hs 269 [1,1,1,1,0,1,0] Q [(5,.val x5),(7,.val x7),(21,.val x21),(22,.val x22),(23,.val x23)] H
theorem f269_l18_eq (x5:AV) (x7:AV) (x21:AV) (x22:AV) (x23:AV) (H:Heap) (Q:Post):f269_l18 x5 x7 x21 x22 x23 H Q =
 ob (binA Pg .lss 3 false x23 x22) fun r9 =>
 cndA r9
 (ob (ixaA 1 x21 x23) fun c10 =>
 ob (partA false 0 1 c10) fun r11 =>
 E 293 [x7,(I 10)] H fun r12 H13 =>
 ob (extractA r12 0) fun r14 =>
 ob (extractA r12 1) fun r15 =>
 ob (binA Pg .neq 27 true r15 (I 0)) fun r16 =>
 cndA r16
 (Q (AV.tup [(I 0),r15]) H13)
 (ob (binA Pg .sub 5 true r11 (AV.raw (.int .u8 48))) fun r17 =>
 ob (cvtIA .i64 r17) fun r19 =>
 E 294 [r14,r19] H13 fun r20 H21 =>
 ob (extractA r20 0) fun r22 =>
 ob (extractA r20 1) fun r23 =>
 ob (binA Pg .neq 27 true r23 (I 0)) fun r24 =>
 cndA r24
 (Q (AV.tup [(I 0),r23]) H21)
 (ob (binA Pg .add 3 true x23 (I 1)) fun r25 =>
 f269_l18 x5 r22 x21 x22 r25 H21 Q)))
 (cndA x5
 (Q (AV.tup [x7,(I 0)]) H)
 (E 295 [x7] H fun r26 H27 =>
 ob (extractA r26 0) fun r28 =>
 ob (extractA r26 1) fun r29 =>
 Q (AV.tup [r28,r29]) H27)) :=
 (AtF_eq Pg Hs 269 [1,1,1,1,0,1,0] Q _ H).trans (by kernel_rfl)
theorem f269_eq (a0:AV) (H:Heap) (Q:Post):E 269 [a0] H Q =
 E 292 [a0] H fun r1 H2 =>
 ob (extractA r1 0) fun r3 =>
 ob (extractA r1 1) fun r4 =>
 ob (extractA r1 2) fun r5 =>
 ob (unA .not r5) fun r6 =>
 cndA r6
 (Q (AV.tup [(I 0),(I 4)]) H2)
 (sbA r3 fun r7 =>
 ob (lenA r7) fun r8 =>
 f269_l18 r4 (I 0) r7 r8 (I 0) H2 Q) :=
 Ev_eq.trans (by kernel_rfl)
theorem f279_eq (_u:Unit:=()) (H:Heap) (Q:Post):E 279 [] H Q =
 newH H [(AV.raw (.int .u8 0)),(AV.raw (.int .u8 0)),(AV.raw (.int .u8 0)),(AV.raw (.int .u8 0)),(AV.raw (.int .u8 0)),(AV.raw (.int .u8 0)),(AV.raw (.int .u8 0)),(AV.raw (.int .u8 0)),(AV.raw (.int .u8 0)),(AV.raw (.int .u8 0))] fun r1 H2 =>
 ob (bldA [(0,1,(AV.raw (.int .u8 48))),(1,1,(AV.raw (.int .u8 49))),(2,1,(AV.raw (.int .u8 50))),(3,1,(AV.raw (.int .u8 51))),(4,1,(AV.raw (.int .u8 52))),(5,1,(AV.raw (.int .u8 53))),(6,1,(AV.raw (.int .u8 54))),(7,1,(AV.raw (.int .u8 55))),(8,1,(AV.raw (.int .u8 56))),(9,1,(AV.raw (.int .u8 57)))] [(AV.raw (.int .u8 0)),(AV.raw (.int .u8 0)),(AV.raw (.int .u8 0)),(AV.raw (.int .u8 0)),(AV.raw (.int .u8 0)),(AV.raw (.int .u8 0)),(AV.raw (.int .u8 0)),(AV.raw (.int .u8 0)),(AV.raw (.int .u8 0)),(AV.raw (.int .u8 0))]) fun r3 =>
 ob (stH H2 10 r1 r3) fun H4 =>
 ob (ldH H4 true 10 r1) fun r5 =>
 Q r5 H4 :=
 Ev_eq.trans (by kernel_rfl)
theorem f281_eq (a0:AV) (H:Heap) (Q:Post):E 281 [a0] H Q =
 E 298 [a0] H fun r1 H2 =>
 cndA r1
 (Q (AV.tup [(AV.raw (.int .u8 0)),(B false),(B false)]) H2)
 (ob (nilA a0) fun r3 =>
 ob (addPA r3 0) fun r4 =>
 ob (ldH H2 false 1 r4) fun r5 =>
 ob (nilA a0) fun r6 =>
 ob (addPA r6 1) fun r7 =>
 ob (ldH H2 false 1 r7) fun r8 =>
 ob (ixA r5 r8) fun r9 =>
 ob (binA Pg .eql 5 true r9 (AV.raw (.int .u8 39))) fun r10 =>
 cndA r10
 (ob (nilA a0) fun r11 =>
 ob (addPA r11 1) fun r12 =>
 ob (ldH H2 false 1 r12) fun r13 =>
 ob (binA Pg .add 3 true r13 (I 1)) fun r14 =>
 ob (nilA a0) fun r15 =>
 ob (addPA r15 1) fun r16 =>
 ob (stH H2 1 r16 r14) fun H17 =>
 Q (AV.tup [(AV.raw (.int .u8 0)),(B false),(B true)]) H17)
 (ob (binA Pg .eql 5 true r9 (AV.raw (.int .u8 92))) fun r18 =>
 cndA r18
 (ob (nilA a0) fun r19 =>
 ob (addPA r19 1) fun r20 =>
 ob (ldH H2 false 1 r20) fun r21 =>
 ob (binA Pg .add 3 true r21 (I 1)) fun r22 =>
 ob (nilA a0) fun r23 =>
 ob (addPA r23 1) fun r24 =>
 ob (stH H2 1 r24 r22) fun H25 =>
 E 299 [a0] H25 fun r26 H27 =>
 ob (extractA r26 0) fun r28 =>
 ob (extractA r26 1) fun r29 =>
 Q (AV.tup [r28,r29,(B false)]) H27)
 (E 290 [r9] H2 fun r30 H31 =>
 cndA r30
 (ob (nilA a0) fun r32 =>
 ob (addPA r32 1) fun r33 =>
 ob (ldH H31 false 1 r33) fun r34 =>
 ob (binA Pg .add 3 true r34 (I 1)) fun r35 =>
 ob (nilA a0) fun r36 =>
 ob (addPA r36 1) fun r37 =>
 ob (stH H31 1 r37 r35) fun H38 =>
 Q (AV.tup [r9,(B true),(B false)]) H38)
 (Q (AV.tup [(AV.raw (.int .u8 0)),(B false),(B false)]) H31)))) :=
 Ev_eq.trans (by kernel_rfl)
def f282_j4 (x2:AV) (H:Heap) (Q:Post):Prop:=AtJ Pg Hs 282 [1,1] Q [(2,.val x2)] H
theorem f282_j4_eq (x2:AV) (H:Heap) (Q:Post):f282_j4 x2 H Q =
 Q x2 H :=
 (AtJ_eq Pg Hs 282 [1,1] Q _ H).trans (by kernel_rfl)
theorem f282_eq (a0:AV) (H:Heap) (Q:Post):E 282 [a0] H Q =
 ob (binA Pg .geq 5 true a0 (AV.raw (.int .u8 48))) fun r1 =>
 cndA r1
 (ob (binA Pg .leq 5 true a0 (AV.raw (.int .u8 57))) fun r2 =>
 f282_j4 r2 H Q)
 (f282_j4 (B false) H Q) :=
 Ev_eq.trans (by kernel_rfl)
theorem f283_eq (a0:AV) (H:Heap) (Q:Post):E 283 [a0] H Q =
 E 300 [a0,(I 4),(I 5),(AV.fn (.func 301) [a0] [])] H fun r1 H2 =>
 ob (sizedA 7 r1) fun b3 =>
 ob (spliceA 0 b3 [(I 0),(I 0),(I 0),(S ⟨#[]⟩),(S ⟨#[]⟩),(S ⟨#[]⟩),(AV.sl 0 true .full [])]) fun b4 =>
 ob (partA true 0 7 b4) fun r5 =>
 Q r5 H2 :=
 Ev_eq.trans (by kernel_rfl)
def f284_l6 (x0:AV) (x1:AV) (x2:AV) (x10:AV) (x11:AV) (H:Heap) (Q:Post):Prop:=AtF Pg Hs 284 [1,0,1,0] Q [(0,.val x0),(1,.val x1),(2,.val x2),(10,.val x10),(11,.val x11)] H
def f284_j19 (x0:AV) (x1:AV) (x2:AV) (x9:List AV) (x10:AV) (x11:AV) (x32:AV) (H:Heap) (Q:Post):Prop:=AtJ Pg Hs 284 [1,0,1,0,0,1,1,0,0,1,1] Q [(0,.val x0),(1,.val x1),(2,.val x2),(9,.lbox x9),(10,.val x10),(11,.val x11),(32,.val x32)] H
theorem f284_l6_eq (x0:AV) (x1:AV) (x2:AV) (x10:AV) (x11:AV) (H:Heap) (Q:Post):f284_l6 x0 x1 x2 x10 x11 H Q =
 ob (binA Pg .lss 3 true x11 (I 11)) fun r3 =>
 cndA r3
 (ob (ixAgg 11 true 2 x10 x11) fun r4 =>
 ob (sizedA 2 r4) fun b5 =>
 ob (spliceA 0 b5 [(S ⟨#[]⟩),(I 0)]) fun b6 =>
 ob (partA false 1 1 b6) fun r7 =>
 ob (binA Pg .geq 3 false r7 x1) fun r8 =>
 cndA r8
 (ob (partA false 1 1 b6) fun r9 =>
 ob (binA Pg .leq 3 false r9 x2) fun r10 =>
 cndA r10
 (ob (nilA x0) fun r11 =>
 ob (addPA r11 0) fun r12 =>
 ob (ldH H false 1 r12) fun r13 =>
 ob (partA false 0 1 b6) fun r14 =>
 E 228 [r13,r14] H fun r15 H16 =>
 f284_j19 x0 x1 x2 b6 x10 x11 r15 H16 Q)
 (f284_j19 x0 x1 x2 b6 x10 x11 (B false) H Q))
 (f284_j19 x0 x1 x2 b6 x10 x11 (B false) H Q))
 (Q (AV.tup [(I 0),(B false)]) H) :=
 (AtF_eq Pg Hs 284 [1,0,1,0] Q _ H).trans (by kernel_rfl)
theorem f284_j19_eq (x0:AV) (x1:AV) (x2:AV) (x9:List AV) (x10:AV) (x11:AV) (x32:AV) (H:Heap) (Q:Post):f284_j19 x0 x1 x2 x9 x10 x11 x32 H Q =
 cndA x32
 (ob (partA false 1 1 x9) fun r17 =>
 Q (AV.tup [r17,(B true)]) H)
 (ob (binA Pg .add 3 true x11 (I 1)) fun r18 =>
 f284_l6 x0 x1 x2 x10 r18 H Q) :=
 (AtJ_eq Pg Hs 284 [1,0,1,0,0,1,1,0,0,1,1] Q _ H).trans (by kernel_rfl)
theorem f284_eq (a0 a1 a2:AV) (H:Heap) (Q:Post):E 284 [a0,a1,a2] H Q =
 E 261 [] H fun r1 H2 =>
 f284_l6 a0 a1 a2 r1 (I 0) H2 Q :=
 Ev_eq.trans (by kernel_rfl)
def f285_j8 (x4:List AV) (H:Heap) (Q:Post):Prop:=AtJ Pg Hs 285 [1,1] Q [(4,.lbox x4)] H
theorem f285_j8_eq (x4:List AV) (H:Heap) (Q:Post):f285_j8 x4 H Q =
 ob (bldA [] [(I 0),(I 0),(I 0),(S ⟨#[]⟩),(S ⟨#[]⟩),(S ⟨#[]⟩),(AV.sl 0 true .full [])]) fun r16 =>
 ob (sizedA 7 r16) fun b17 =>
 ob (spliceA 0 b17 x4) fun b18 =>
 ob (partA true 0 7 b18) fun r19 =>
 Q r19 H :=
 (AtJ_eq Pg Hs 285 [1,1] Q _ H).trans (by kernel_rfl)
theorem f285_eq (a0 a1:AV) (H:Heap) (Q:Post):E 285 [a0,a1] H Q =
 ob (nilA a0) fun r1 =>
 ob (addPA r1 2) fun r2 =>
 ob (ldH H false 1 r2) fun r3 =>
 ob (binA Pg .eql 27 true r3 (I 0)) fun r4 =>
 cndA r4
 (ob (nilA a0) fun r5 =>
 ob (addPA r5 0) fun r6 =>
 ob (ldH H false 1 r6) fun r7 =>
 E 21 [r7] H fun r8 H9 =>
 ob (nilA a0) fun r10 =>
 ob (addPA r10 2) fun r11 =>
 ob (stH H9 1 r11 a1) fun H12 =>
 ob (nilA a0) fun r13 =>
 ob (addPA r13 3) fun r14 =>
 ob (stH H12 1 r14 r8) fun H15 =>
 f285_j8 [(I 0),(I 0),(I 0),(S ⟨#[]⟩),(S ⟨#[]⟩),(S ⟨#[]⟩),(AV.sl 0 true .full [])] H15 Q)
 (f285_j8 [(I 0),(I 0),(I 0),(S ⟨#[]⟩),(S ⟨#[]⟩),(S ⟨#[]⟩),(AV.sl 0 true .full [])] H Q) :=
 Ev_eq.trans (by kernel_rfl)
theorem f289_eq (_u:Unit:=()) (H:Heap) (Q:Post):E 289 [] H Q =
 newH H [(AV.raw (.int .u8 0)),(AV.raw (.int .u8 0)),(AV.raw (.int .u8 0)),(AV.raw (.int .u8 0)),(AV.raw (.int .u8 0)),(AV.raw (.int .u8 0)),(AV.raw (.int .u8 0)),(AV.raw (.int .u8 0)),(AV.raw (.int .u8 0)),(AV.raw (.int .u8 0)),(AV.raw (.int .u8 0)),(AV.raw (.int .u8 0)),(AV.raw (.int .u8 0)),(AV.raw (.int .u8 0)),(AV.raw (.int .u8 0)),(AV.raw (.int .u8 0))] fun r1 H2 =>
 ob (bldA [(0,1,(AV.raw (.int .u8 48))),(1,1,(AV.raw (.int .u8 49))),(2,1,(AV.raw (.int .u8 50))),(3,1,(AV.raw (.int .u8 51))),(4,1,(AV.raw (.int .u8 52))),(5,1,(AV.raw (.int .u8 53))),(6,1,(AV.raw (.int .u8 54))),(7,1,(AV.raw (.int .u8 55))),(8,1,(AV.raw (.int .u8 56))),(9,1,(AV.raw (.int .u8 57))),(10,1,(AV.raw (.int .u8 97))),(11,1,(AV.raw (.int .u8 98))),(12,1,(AV.raw (.int .u8 99))),(13,1,(AV.raw (.int .u8 100))),(14,1,(AV.raw (.int .u8 101))),(15,1,(AV.raw (.int .u8 102)))] [(AV.raw (.int .u8 0)),(AV.raw (.int .u8 0)),(AV.raw (.int .u8 0)),(AV.raw (.int .u8 0)),(AV.raw (.int .u8 0)),(AV.raw (.int .u8 0)),(AV.raw (.int .u8 0)),(AV.raw (.int .u8 0)),(AV.raw (.int .u8 0)),(AV.raw (.int .u8 0)),(AV.raw (.int .u8 0)),(AV.raw (.int .u8 0)),(AV.raw (.int .u8 0)),(AV.raw (.int .u8 0)),(AV.raw (.int .u8 0)),(AV.raw (.int .u8 0))]) fun r3 =>
 ob (stH H2 16 r1 r3) fun H4 =>
 ob (ldH H4 true 16 r1) fun r5 =>
 Q r5 H4 :=
 Ev_eq.trans (by kernel_rfl)
def f290_j4 (x2:AV) (H:Heap) (Q:Post):Prop:=AtJ Pg Hs 290 [1,1] Q [(2,.val x2)] H
theorem f290_j4_eq (x2:AV) (H:Heap) (Q:Post):f290_j4 x2 H Q =
 Q x2 H :=
 (AtJ_eq Pg Hs 290 [1,1] Q _ H).trans (by kernel_rfl)
theorem f290_eq (a0:AV) (H:Heap) (Q:Post):E 290 [a0] H Q =
 ob (binA Pg .geq 5 true a0 (AV.raw (.int .u8 32))) fun r1 =>
 cndA r1
 (ob (binA Pg .leq 5 true a0 (AV.raw (.int .u8 126))) fun r2 =>
 f290_j4 r2 H Q)
 (f290_j4 (B false) H Q) :=
 Ev_eq.trans (by kernel_rfl)
theorem f291_eq (a0:AV) (H:Heap) (Q:Post):E 291 [a0] H Q =
 ob (binA Pg .neq 2 false a0 a0) fun r1 =>
 Q r1 H :=
 Ev_eq.trans (by kernel_rfl)
def f292_j7 (x0:AV) (x5:AV) (x6:AV) (x17:AV) (H:Heap) (Q:Post):Prop:=AtJ Pg Hs 292 [1,1,0,1] Q [(0,.val x0),(5,.val x5),(6,.val x6),(17,.val x17)] H
def f292_j13 (x5:AV) (x6:AV) (x31:AV) (H:Heap) (Q:Post):Prop:=AtJ Pg Hs 292 [1,1,1,0,1] Q [(5,.val x5),(6,.val x6),(31,.val x31)] H
def f292_l22 (x5:AV) (x6:AV) (x33:AV) (x34:AV) (x35:AV) (H:Heap) (Q:Post):Prop:=AtF Pg Hs 292 [1,1,1,1,0,1,0] Q [(5,.val x5),(6,.val x6),(33,.val x33),(34,.val x34),(35,.val x35)] H
def f292_j35 (x5:AV) (x6:AV) (x33:AV) (x34:AV) (x35:AV) (x44:AV) (H:Heap) (Q:Post):Prop:=AtJ Pg Hs 292 [1,1,1,1,0,1,0,0,1,1,0,0,1,1] Q [(5,.val x5),(6,.val x6),(33,.val x33),(34,.val x34),(35,.val x35),(44,.val x44)] H
theorem f292_j7_eq (x0:AV) (x5:AV) (x6:AV) (x17:AV) (H:Heap) (Q:Post):f292_j7 x0 x5 x6 x17 H Q =
 cndA x17
 (ob (sliceSA x0 (some (I 1)) none) fun r5 =>
 ob (binA Pg .eql 9 true r5 (S ⟨#[]⟩)) fun r6 =>
 cndA r6
 (f292_j13 r5 (B true) (B true) H Q)
 (ob (ixA r5 (I 0)) fun r7 =>
 ob (binA Pg .eql 5 true r7 (AV.raw (.int .u8 48))) fun r8 =>
 cndA r8
 (ob (lenSA x0) fun r9 =>
 ob (binA Pg .gtr 3 true r9 (I 1)) fun r10 =>
 f292_j13 r5 (B true) r10 H Q)
 (f292_j13 r5 (B true) (B false) H Q)))
 (ob (binA Pg .eql 9 true x5 (S ⟨#[]⟩)) fun r11 =>
 cndA r11
 (f292_j13 x5 x6 (B true) H Q)
 (ob (ixA x5 (I 0)) fun r12 =>
 ob (binA Pg .eql 5 true r12 (AV.raw (.int .u8 48))) fun r13 =>
 cndA r13
 (ob (lenSA x0) fun r14 =>
 ob (binA Pg .gtr 3 true r14 (I 1)) fun r15 =>
 f292_j13 x5 x6 r15 H Q)
 (f292_j13 x5 x6 (B false) H Q))) :=
 (AtJ_eq Pg Hs 292 [1,1,0,1] Q _ H).trans (by kernel_rfl)
theorem f292_j13_eq (x5:AV) (x6:AV) (x31:AV) (H:Heap) (Q:Post):f292_j13 x5 x6 x31 H Q =
 cndA x31
 (Q (AV.tup [(S ⟨#[]⟩),(B false),(B false)]) H)
 (sbA x5 fun r16 =>
 ob (lenA r16) fun r17 =>
 f292_l22 x5 x6 r16 r17 (I 0) H Q) :=
 (AtJ_eq Pg Hs 292 [1,1,1,0,1] Q _ H).trans (by kernel_rfl)
theorem f292_l22_eq (x5:AV) (x6:AV) (x33:AV) (x34:AV) (x35:AV) (H:Heap) (Q:Post):f292_l22 x5 x6 x33 x34 x35 H Q =
 ob (binA Pg .lss 3 false x35 x34) fun r18 =>
 cndA r18
 (ob (ixaA 1 x33 x35) fun c19 =>
 ob (partA false 0 1 c19) fun r20 =>
 ob (binA Pg .lss 5 true r20 (AV.raw (.int .u8 48))) fun r21 =>
 cndA r21
 (f292_j35 x5 x6 x33 x34 x35 (B true) H Q)
 (ob (binA Pg .gtr 5 true r20 (AV.raw (.int .u8 57))) fun r22 =>
 f292_j35 x5 x6 x33 x34 x35 r22 H Q))
 (Q (AV.tup [x5,x6,(B true)]) H) :=
 (AtF_eq Pg Hs 292 [1,1,1,1,0,1,0] Q _ H).trans (by kernel_rfl)
theorem f292_j35_eq (x5:AV) (x6:AV) (x33:AV) (x34:AV) (x35:AV) (x44:AV) (H:Heap) (Q:Post):f292_j35 x5 x6 x33 x34 x35 x44 H Q =
 cndA x44
 (Q (AV.tup [(S ⟨#[]⟩),(B false),(B false)]) H)
 (ob (binA Pg .add 3 true x35 (I 1)) fun r23 =>
 f292_l22 x5 x6 x33 x34 r23 H Q) :=
 (AtJ_eq Pg Hs 292 [1,1,1,1,0,1,0,0,1,1,0,0,1,1] Q _ H).trans (by kernel_rfl)
theorem f292_eq (a0:AV) (H:Heap) (Q:Post):E 292 [a0] H Q =
 ob (lenSA a0) fun r1 =>
 ob (binA Pg .gtr 3 true r1 (I 0)) fun r2 =>
 cndA r2
 (ob (ixA a0 (I 0)) fun r3 =>
 ob (binA Pg .eql 5 true r3 (AV.raw (.int .u8 45))) fun r4 =>
 f292_j7 a0 a0 (B false) r4 H Q)
 (f292_j7 a0 a0 (B false) (B false) H Q) :=
 Ev_eq.trans (by kernel_rfl)
def f293_c5_8a (x0:AV) (x1:AV) (x24:AV) (H:Heap) (Q:Post):Prop:=AtJ Pg Hs 293 [1,0,1,0,0,0,0,0,0,1,0,0,8] Q [(0,.val x0),(1,.val x1),(24,.val x24)] H
def f293_c5_8b (x0:AV) (x1:AV) (H:Heap) (Q:Post):Prop:=AtJ Pg Hs 293 [1,0,1,0,0,0,0,0,0,1,0,0,8] Q [(0,.val x0),(1,.val x1),(24,.val (B false))] H
def f293_c7_8a (x0:AV) (x1:AV) (x42:AV) (H:Heap) (Q:Post):Prop:=AtJ Pg Hs 293 [1,0,1,0,0,0,0,1,0,0,8] Q [(0,.val x0),(1,.val x1),(42,.val x42)] H
def f293_c7_8b (x0:AV) (x1:AV) (H:Heap) (Q:Post):Prop:=AtJ Pg Hs 293 [1,0,1,0,0,0,0,1,0,0,8] Q [(0,.val x0),(1,.val x1),(42,.val (B false))] H
def f293_j50 (H:Heap) (Q:Post):Prop:=AtJ Pg Hs 293 [1,0,1,0,1] Q [] H
def f293_c5_17a (x0:AV) (x1:AV) (H:Heap) (Q:Post):Prop:=AtJ Pg Hs 293 [1,0,1,0,0,0,0,0,0,1,0,0,17] Q [(0,.val x0),(1,.val x1),(25,.val (B true)),(33,.nov)] H
def f293_c5_17b (x0:AV) (x1:AV) (x33:AV) (H:Heap) (Q:Post):Prop:=AtJ Pg Hs 293 [1,0,1,0,0,0,0,0,0,1,0,0,17] Q [(0,.val x0),(1,.val x1),(25,.val (B false)),(33,.val x33)] H
def f293_c5_17c (x0:AV) (x1:AV) (H:Heap) (Q:Post):Prop:=AtJ Pg Hs 293 [1,0,1,0,0,0,0,0,0,1,0,0,17] Q [(0,.val x0),(1,.val x1),(25,.val (B false)),(33,.val (B false))] H
def f293_c7_17a (x0:AV) (x1:AV) (H:Heap) (Q:Post):Prop:=AtJ Pg Hs 293 [1,0,1,0,0,0,0,1,0,0,17] Q [(0,.val x0),(1,.val x1),(43,.val (B true)),(51,.nov)] H
def f293_c7_17b (x0:AV) (x1:AV) (x51:AV) (H:Heap) (Q:Post):Prop:=AtJ Pg Hs 293 [1,0,1,0,0,0,0,1,0,0,17] Q [(0,.val x0),(1,.val x1),(43,.val (B false)),(51,.val x51)] H
def f293_c7_17c (x0:AV) (x1:AV) (H:Heap) (Q:Post):Prop:=AtJ Pg Hs 293 [1,0,1,0,0,0,0,1,0,0,17] Q [(0,.val x0),(1,.val x1),(43,.val (B false)),(51,.val (B false))] H
def f293_j35 (x0:AV) (x1:AV) (x34:AV) (H:Heap) (Q:Post):Prop:=AtJ Pg Hs 293 [1,0,1,0,0,0,0,0,0,1,0,1] Q [(0,.val x0),(1,.val x1),(34,.val x34)] H
def f293_j44 (x0:AV) (x1:AV) (x52:AV) (H:Heap) (Q:Post):Prop:=AtJ Pg Hs 293 [1,0,1,0,0,0,0,1,0,1] Q [(0,.val x0),(1,.val x1),(52,.val x52)] H
theorem f293_c5_8a_eq (x0:AV) (x1:AV) (x24:AV) (H:Heap) (Q:Post):f293_c5_8a x0 x1 x24 H Q =
 cndA x24
 (f293_c5_17a x0 x1 H Q)
 (ob (binA Pg .lss 2 true x0 (I 0)) fun r15 =>
 cndA r15
 (ob (binA Pg .quo 2 true (I 9223372036854775807) x0) fun r16 =>
 ob (binA Pg .lss 2 false x1 r16) fun r17 =>
 f293_c5_17b x0 x1 r17 H Q)
 (f293_c5_17c x0 x1 H Q)) :=
 (AtJ_eq Pg Hs 293 [1,0,1,0,0,0,0,0,0,1,0,0,8] Q _ H).trans (by kernel_rfl)
theorem f293_c5_8b_eq (x0:AV) (x1:AV) (H:Heap) (Q:Post):f293_c5_8b x0 x1 H Q =
 ob (binA Pg .lss 2 true x0 (I 0)) fun r18 =>
 cndA r18
 (ob (binA Pg .quo 2 true (I 9223372036854775807) x0) fun r19 =>
 ob (binA Pg .lss 2 false x1 r19) fun r20 =>
 f293_c5_17b x0 x1 r20 H Q)
 (f293_c5_17c x0 x1 H Q) :=
 (AtJ_eq Pg Hs 293 [1,0,1,0,0,0,0,0,0,1,0,0,8] Q _ H).trans (by kernel_rfl)
theorem f293_c7_8a_eq (x0:AV) (x1:AV) (x42:AV) (H:Heap) (Q:Post):f293_c7_8a x0 x1 x42 H Q =
 cndA x42
 (f293_c7_17a x0 x1 H Q)
 (ob (binA Pg .gtr 2 true x1 (I 0)) fun r21 =>
 cndA r21
 (ob (binA Pg .quo 2 true (I (-9223372036854775808)) x1) fun r22 =>
 ob (binA Pg .lss 2 false x0 r22) fun r23 =>
 f293_c7_17b x0 x1 r23 H Q)
 (f293_c7_17c x0 x1 H Q)) :=
 (AtJ_eq Pg Hs 293 [1,0,1,0,0,0,0,1,0,0,8] Q _ H).trans (by kernel_rfl)
theorem f293_c7_8b_eq (x0:AV) (x1:AV) (H:Heap) (Q:Post):f293_c7_8b x0 x1 H Q =
 ob (binA Pg .gtr 2 true x1 (I 0)) fun r24 =>
 cndA r24
 (ob (binA Pg .quo 2 true (I (-9223372036854775808)) x1) fun r25 =>
 ob (binA Pg .lss 2 false x0 r25) fun r26 =>
 f293_c7_17b x0 x1 r26 H Q)
 (f293_c7_17c x0 x1 H Q) :=
 (AtJ_eq Pg Hs 293 [1,0,1,0,0,0,0,1,0,0,8] Q _ H).trans (by kernel_rfl)
theorem f293_j50_eq (H:Heap) (Q:Post):f293_j50 H Q =
 Q (AV.tup [(I 0),(I 0)]) H :=
 (AtJ_eq Pg Hs 293 [1,0,1,0,1] Q _ H).trans (by kernel_rfl)
theorem f293_c5_17a_eq (x0:AV) (x1:AV) (H:Heap) (Q:Post):f293_c5_17a x0 x1 H Q =
 f293_j35 x0 x1 (B true) H Q :=
 (AtJ_eq Pg Hs 293 [1,0,1,0,0,0,0,0,0,1,0,0,17] Q _ H).trans (by kernel_rfl)
theorem f293_c5_17b_eq (x0:AV) (x1:AV) (x33:AV) (H:Heap) (Q:Post):f293_c5_17b x0 x1 x33 H Q =
 f293_j35 x0 x1 x33 H Q :=
 (AtJ_eq Pg Hs 293 [1,0,1,0,0,0,0,0,0,1,0,0,17] Q _ H).trans (by kernel_rfl)
theorem f293_c5_17c_eq (x0:AV) (x1:AV) (H:Heap) (Q:Post):f293_c5_17c x0 x1 H Q =
 f293_j35 x0 x1 (B false) H Q :=
 (AtJ_eq Pg Hs 293 [1,0,1,0,0,0,0,0,0,1,0,0,17] Q _ H).trans (by kernel_rfl)
theorem f293_c7_17a_eq (x0:AV) (x1:AV) (H:Heap) (Q:Post):f293_c7_17a x0 x1 H Q =
 f293_j44 x0 x1 (B true) H Q :=
 (AtJ_eq Pg Hs 293 [1,0,1,0,0,0,0,1,0,0,17] Q _ H).trans (by kernel_rfl)
theorem f293_c7_17b_eq (x0:AV) (x1:AV) (x51:AV) (H:Heap) (Q:Post):f293_c7_17b x0 x1 x51 H Q =
 f293_j44 x0 x1 x51 H Q :=
 (AtJ_eq Pg Hs 293 [1,0,1,0,0,0,0,1,0,0,17] Q _ H).trans (by kernel_rfl)
theorem f293_c7_17c_eq (x0:AV) (x1:AV) (H:Heap) (Q:Post):f293_c7_17c x0 x1 H Q =
 f293_j44 x0 x1 (B false) H Q :=
 (AtJ_eq Pg Hs 293 [1,0,1,0,0,0,0,1,0,0,17] Q _ H).trans (by kernel_rfl)
theorem f293_j35_eq (x0:AV) (x1:AV) (x34:AV) (H:Heap) (Q:Post):f293_j35 x0 x1 x34 H Q =
 cndA x34
 (Q (AV.tup [(I 0),(I 10)]) H)
 (ob (binA Pg .mul 2 false x0 x1) fun r27 =>
 Q (AV.tup [r27,(I 0)]) H) :=
 (AtJ_eq Pg Hs 293 [1,0,1,0,0,0,0,0,0,1,0,1] Q _ H).trans (by kernel_rfl)
theorem f293_j44_eq (x0:AV) (x1:AV) (x52:AV) (H:Heap) (Q:Post):f293_j44 x0 x1 x52 H Q =
 cndA x52
 (Q (AV.tup [(I 0),(I 10)]) H)
 (ob (binA Pg .mul 2 false x0 x1) fun r28 =>
 Q (AV.tup [r28,(I 0)]) H) :=
 (AtJ_eq Pg Hs 293 [1,0,1,0,0,0,0,1,0,1] Q _ H).trans (by kernel_rfl)
theorem f293_eq (a0 a1:AV) (H:Heap) (Q:Post):E 293 [a0,a1] H Q =
 E 304 [a0] H fun r1 H2 =>
 E 304 [a1] H2 fun r3 H4 =>
 ob (binA Pg .mul 3 false r1 r3) fun r5 =>
 ob (binA Pg .eql 3 true r5 (I 1)) fun r6 =>
 cndA r6
 (ob (binA Pg .gtr 2 true a0 (I 0)) fun r7 =>
 cndA r7
 (ob (binA Pg .quo 2 true (I 9223372036854775807) a0) fun r8 =>
 ob (binA Pg .gtr 2 false a1 r8) fun r9 =>
 f293_c5_8a a0 a1 r9 H4 Q)
 (f293_c5_8b a0 a1 H4 Q))
 (ob (binA Pg .eql 3 true r5 (I (-1))) fun r10 =>
 cndA r10
 (ob (binA Pg .gtr 2 true a0 (I 0)) fun r11 =>
 cndA r11
 (ob (binA Pg .quo 2 true (I (-9223372036854775808)) a0) fun r12 =>
 ob (binA Pg .lss 2 false a1 r12) fun r13 =>
 f293_c7_8a a0 a1 r13 H4 Q)
 (f293_c7_8b a0 a1 H4 Q))
 (ob (binA Pg .eql 3 true r5 (I 0)) fun r14 =>
 cndA r14
 (f293_j50 H4 Q)
 (f293_j50 H4 Q))) :=
 Ev_eq.trans (by kernel_rfl)
def f294_j7 (x6:AV) (x19:AV) (H:Heap) (Q:Post):Prop:=AtJ Pg Hs 294 [1,1,0,1] Q [(6,.val x6),(19,.val x19)] H
theorem f294_j7_eq (x6:AV) (x19:AV) (H:Heap) (Q:Post):f294_j7 x6 x19 H Q =
 cndA x19
 (Q (AV.tup [(I 0),(I 10)]) H)
 (Q (AV.tup [x6,(I 0)]) H) :=
 (AtJ_eq Pg Hs 294 [1,1,0,1] Q _ H).trans (by kernel_rfl)
theorem f294_eq (a0 a1:AV) (H:Heap) (Q:Post):E 294 [a0,a1] H Q =
 ob (binA Pg .sub 2 false a0 a1) fun r1 =>
 ob (binA Pg .xor 2 false a0 a1) fun r2 =>
 ob (binA Pg .lss 2 true r2 (I 0)) fun r3 =>
 cndA r3
 (ob (binA Pg .xor 2 false a0 r1) fun r4 =>
 ob (binA Pg .lss 2 true r4 (I 0)) fun r5 =>
 f294_j7 r1 r5 H Q)
 (f294_j7 r1 (B false) H Q) :=
 Ev_eq.trans (by kernel_rfl)
theorem f295_eq (a0:AV) (H:Heap) (Q:Post):E 295 [a0] H Q =
 ob (binA Pg .eql 2 true a0 (I (-9223372036854775808))) fun r1 =>
 cndA r1
 (Q (AV.tup [(I 0),(I 10)]) H)
 (ob (unA .neg a0) fun r2 =>
 Q (AV.tup [r2,(I 0)]) H) :=
 Ev_eq.trans (by kernel_rfl)
theorem f298_eq (a0:AV) (H:Heap) (Q:Post):E 298 [a0] H Q =
 ob (nilA a0) fun r1 =>
 ob (addPA r1 1) fun r2 =>
 ob (ldH H false 1 r2) fun r3 =>
 ob (nilA a0) fun r4 =>
 ob (addPA r4 0) fun r5 =>
 ob (ldH H false 1 r5) fun r6 =>
 ob (lenSA r6) fun r7 =>
 ob (binA Pg .geq 3 false r3 r7) fun r8 =>
 Q r8 H :=
 Ev_eq.trans (by kernel_rfl)
def f299_j17 (x0:AV) (x4:AV) (x5:AV) (x29:AV) (H:Heap) (Q:Post):Prop:=AtJ Pg Hs 299 [1,1,1,1,0,1] Q [(0,.val x0),(4,.val x4),(5,.val x5),(29,.val x29)] H
def f299_j39 (x0:AV) (x4:AV) (x6:AV) (x7:AV) (x56:AV) (H:Heap) (Q:Post):Prop:=AtJ Pg Hs 299 [1,1,1,1,1,1,1,1,0,1] Q [(0,.val x0),(4,.val x4),(6,.val x6),(7,.val x7),(56,.val x56)] H
theorem f299_j17_eq (x0:AV) (x4:AV) (x5:AV) (x29:AV) (H:Heap) (Q:Post):f299_j17 x0 x4 x5 x29 H Q =
 cndA x29
 (ob (nilA x0) fun r16 =>
 ob (addPA r16 1) fun r17 =>
 ob (ldH H false 1 r17) fun r18 =>
 ob (binA Pg .add 3 true r18 (I 1)) fun r19 =>
 ob (nilA x0) fun r20 =>
 ob (addPA r20 1) fun r21 =>
 ob (stH H 1 r21 r19) fun H22 =>
 Q (AV.tup [x5,(B true)]) H22)
 (ob (binA Pg .neq 5 true x5 (AV.raw (.int .u8 120))) fun r23 =>
 cndA r23
 (Q (AV.tup [(AV.raw (.int .u8 0)),(B false)]) H)
 (ob (nilA x0) fun r24 =>
 ob (addPA r24 1) fun r25 =>
 ob (ldH H false 1 r25) fun r26 =>
 ob (binA Pg .add 3 true r26 (I 1)) fun r27 =>
 ob (nilA x0) fun r28 =>
 ob (addPA r28 1) fun r29 =>
 ob (stH H 1 r29 r27) fun H30 =>
 E 305 [x0] H30 fun r31 H32 =>
 ob (extractA r31 0) fun r33 =>
 ob (extractA r31 1) fun r34 =>
 cndA r34
 (E 290 [r33] H32 fun r35 H36 =>
 f299_j39 x0 x4 r33 r34 r35 H36 Q)
 (f299_j39 x0 x4 r33 r34 (B false) H32 Q))) :=
 (AtJ_eq Pg Hs 299 [1,1,1,1,0,1] Q _ H).trans (by kernel_rfl)
theorem f299_j39_eq (x0:AV) (x4:AV) (x6:AV) (x7:AV) (x56:AV) (H:Heap) (Q:Post):f299_j39 x0 x4 x6 x7 x56 H Q =
 cndA x56
 (ob (nilA x0) fun r37 =>
 ob (addPA r37 1) fun r38 =>
 ob (stH H 1 r38 x4) fun H39 =>
 Q (AV.tup [(AV.raw (.int .u8 0)),(B false)]) H39)
 (Q (AV.tup [x6,x7]) H) :=
 (AtJ_eq Pg Hs 299 [1,1,1,1,1,1,1,1,0,1] Q _ H).trans (by kernel_rfl)
theorem f299_eq (a0:AV) (H:Heap) (Q:Post):E 299 [a0] H Q =
 ob (nilA a0) fun r1 =>
 ob (addPA r1 1) fun r2 =>
 ob (ldH H false 1 r2) fun r3 =>
 ob (binA Pg .sub 3 true r3 (I 1)) fun r4 =>
 E 298 [a0] H fun r5 H6 =>
 cndA r5
 (Q (AV.tup [(AV.raw (.int .u8 0)),(B false)]) H6)
 (ob (nilA a0) fun r7 =>
 ob (addPA r7 0) fun r8 =>
 ob (ldH H6 false 1 r8) fun r9 =>
 ob (nilA a0) fun r10 =>
 ob (addPA r10 1) fun r11 =>
 ob (ldH H6 false 1 r11) fun r12 =>
 ob (ixA r9 r12) fun r13 =>
 ob (binA Pg .eql 5 true r13 (AV.raw (.int .u8 39))) fun r14 =>
 cndA r14
 (f299_j17 a0 r4 r13 (B true) H6 Q)
 (ob (binA Pg .eql 5 true r13 (AV.raw (.int .u8 92))) fun r15 =>
 f299_j17 a0 r4 r13 r15 H6 Q)) :=
 Ev_eq.trans (by kernel_rfl)
def f300_l6 (x0:AV) (x1:AV) (x2:AV) (x3:AV) (x8:List AV) (x9:List AV) (H:Heap) (Q:Post):Prop:=AtF Pg Hs 300 [1,1,0,0] Q [(0,.val x0),(1,.val x1),(2,.val x2),(3,.val x3),(8,.lbox x8),(9,.lbox x9)] H
theorem f300_l6_eq (x0:AV) (x1:AV) (x2:AV) (x3:AV) (x8:List AV) (x9:List AV) (H:Heap) (Q:Post):f300_l6 x0 x1 x2 x3 x8 x9 H Q =
 ob (nilA x0) fun r5 =>
 ob (addPA r5 2) fun r6 =>
 ob (ldH H false 1 r6) fun r7 =>
 ob (binA Pg .eql 27 true r7 (I 0)) fun r8 =>
 cndA r8
 (E 284 [x0,x1,x2] H fun r9 H10 =>
 ob (extractA r9 0) fun r11 =>
 ob (extractA r9 1) fun r12 =>
 ob (unA .not r12) fun r13 =>
 cndA r13
 (ob (partA true 0 7 x9) fun r14 =>
 ob (sizedA 7 r14) fun b15 =>
 ob (spliceA 0 b15 x8) fun b16 =>
 ob (partA true 0 7 b16) fun r17 =>
 Q r17 H10)
 (ob (partA true 0 7 x9) fun r18 =>
 callA (Ev Pg Hs) x3 [] H10 fun r19 H20 =>
 ob (mkSlA 7 [r18,r19]) fun r21 =>
 ob (bldA [(0,1,r11),(6,1,r21)] [(I 0),(I 0),(I 0),(S ⟨#[]⟩),(S ⟨#[]⟩),(S ⟨#[]⟩),(AV.sl 0 true .full [])]) fun r22 =>
 ob (sizedA 7 r22) fun b23 =>
 ob (spliceA 0 b23 x9) fun b24 =>
 f300_l6 x0 x1 x2 x3 x8 b24 H20 Q))
 (ob (partA true 0 7 x9) fun r25 =>
 ob (sizedA 7 r25) fun b26 =>
 ob (spliceA 0 b26 x8) fun b27 =>
 ob (partA true 0 7 b27) fun r28 =>
 Q r28 H) :=
 (AtF_eq Pg Hs 300 [1,1,0,0] Q _ H).trans (by kernel_rfl)
theorem f300_eq (a0 a1 a2 a3:AV) (H:Heap) (Q:Post):E 300 [a0,a1,a2,a3] H Q =
 callA (Ev Pg Hs) a3 [] H fun r1 H2 =>
 ob (sizedA 7 r1) fun b3 =>
 ob (spliceA 0 b3 [(I 0),(I 0),(I 0),(S ⟨#[]⟩),(S ⟨#[]⟩),(S ⟨#[]⟩),(AV.sl 0 true .full [])]) fun b4 =>
 f300_l6 a0 a1 a2 a3 [(I 0),(I 0),(I 0),(S ⟨#[]⟩),(S ⟨#[]⟩),(S ⟨#[]⟩),(AV.sl 0 true .full [])] b4 H2 Q :=
 Ev_eq.trans (by kernel_rfl)
theorem f301_eq (a0:AV) (H:Heap) (Q:Post):E 301 [a0] H Q =
 E 300 [a0,(I 6),(I 8),(AV.fn (.func 306) [a0] [])] H fun r1 H2 =>
 ob (sizedA 7 r1) fun b3 =>
 ob (spliceA 0 b3 [(I 0),(I 0),(I 0),(S ⟨#[]⟩),(S ⟨#[]⟩),(S ⟨#[]⟩),(AV.sl 0 true .full [])]) fun b4 =>
 ob (partA true 0 7 b4) fun r5 =>
 Q r5 H2 :=
 Ev_eq.trans (by kernel_rfl)
theorem f304_eq (a0:AV) (H:Heap) (Q:Post):E 304 [a0] H Q =
 ob (binA Pg .lss 2 true a0 (I 0)) fun r1 =>
 cndA r1
 (Q (I (-1)) H)
 (ob (binA Pg .gtr 2 true a0 (I 0)) fun r2 =>
 cndA r2
 (Q (I 1) H)
 (Q (I 0) H)) :=
 Ev_eq.trans (by kernel_rfl)
def f305_l8 (x0:AV) (x4:AV) (x6:AV) (H:Heap) (Q:Post):Prop:=AtF Pg Hs 305 [1,1,0,1,0] Q [(0,.val x0),(4,.val x4),(6,.val x6)] H
theorem f305_l8_eq (x0:AV) (x4:AV) (x6:AV) (H:Heap) (Q:Post):f305_l8 x0 x4 x6 H Q =
 ob (binA Pg .lss 3 true x6 (I 2)) fun r1 =>
 cndA r1
 (E 298 [x0] H fun r2 H3 =>
 cndA r2
 (Q (AV.tup [(AV.raw (.int .u8 0)),(B false)]) H3)
 (ob (nilA x0) fun r4 =>
 ob (addPA r4 0) fun r5 =>
 ob (ldH H3 false 1 r5) fun r6 =>
 ob (nilA x0) fun r7 =>
 ob (addPA r7 1) fun r8 =>
 ob (ldH H3 false 1 r8) fun r9 =>
 ob (ixA r6 r9) fun r10 =>
 E 308 [r10] H3 fun r11 H12 =>
 ob (binA Pg .lss 3 true r11 (I 0)) fun r13 =>
 cndA r13
 (Q (AV.tup [(AV.raw (.int .u8 0)),(B false)]) H12)
 (ob (binA Pg .shl 3 true x4 (AV.raw (.int .u64 4))) fun r14 =>
 ob (binA Pg .or 3 false r14 r11) fun r15 =>
 ob (nilA x0) fun r16 =>
 ob (addPA r16 1) fun r17 =>
 ob (ldH H12 false 1 r17) fun r18 =>
 ob (binA Pg .add 3 true r18 (I 1)) fun r19 =>
 ob (nilA x0) fun r20 =>
 ob (addPA r20 1) fun r21 =>
 ob (stH H12 1 r21 r19) fun H22 =>
 ob (binA Pg .add 3 true x6 (I 1)) fun r23 =>
 f305_l8 x0 r15 r23 H22 Q)))
 (ob (cvtIA .u8 x4) fun r25 =>
 Q (AV.tup [r25,(B true)]) H) :=
 (AtF_eq Pg Hs 305 [1,1,0,1,0] Q _ H).trans (by kernel_rfl)
theorem f305_eq (a0:AV) (H:Heap) (Q:Post):E 305 [a0] H Q =
 f305_l8 a0 (I 0) (I 0) H Q :=
 Ev_eq.trans (by kernel_rfl)
theorem f306_eq (a0:AV) (H:Heap) (Q:Post):E 306 [a0] H Q =
 E 252 [a0,(I 5),(S ⟨#[45]⟩)] H fun r1 H2 =>
 ob (unA .not r1) fun r3 =>
 cndA r3
 (E 309 [a0] H2 fun r4 H5 =>
 ob (sizedA 7 r4) fun b6 =>
 ob (spliceA 0 b6 [(I 0),(I 0),(I 0),(S ⟨#[]⟩),(S ⟨#[]⟩),(S ⟨#[]⟩),(AV.sl 0 true .full [])]) fun b7 =>
 ob (partA true 0 7 b7) fun r8 =>
 Q r8 H5)
 (ob (nilA a0) fun r9 =>
 ob (addPA r9 0) fun r10 =>
 ob (ldH H2 false 1 r10) fun r11 =>
 E 310 [r11] H2 fun r12 H13 =>
 ob (nilA a0) fun r14 =>
 ob (addPA r14 0) fun r15 =>
 ob (ldH H13 false 1 r15) fun r16 =>
 E 268 [r16] H13 fun r17 H18 =>
 ob (nilA a0) fun r19 =>
 ob (addPA r19 0) fun r20 =>
 ob (ldH H18 false 1 r20) fun r21 =>
 E 44 [r21] H18 fun r22 H23 =>
 fldK false 0 1 r22 fun r24 =>
 ob (binA Pg .eql 3 true r24 (I 3)) fun r25 =>
 cndA r25
 (E 311 [a0,(S ⟨#[45]⟩)] H23 fun r26 H27 =>
 ob (sizedA 7 r26) fun b28 =>
 ob (spliceA 0 b28 [(I 0),(I 0),(I 0),(S ⟨#[]⟩),(S ⟨#[]⟩),(S ⟨#[]⟩),(AV.sl 0 true .full [])]) fun b29 =>
 ob (partA true 0 7 b29) fun r30 =>
 Q r30 H27)
 (ob (nilA a0) fun r31 =>
 ob (addPA r31 0) fun r32 =>
 ob (ldH H23 false 1 r32) fun r33 =>
 E 312 [r33,r12] H23 fun r34 H35 =>
 E 254 [a0,(AV.fn (.func 306) [a0] [])] H35 fun r36 H37 =>
 ob (sizedA 7 r36) fun b38 =>
 ob (spliceA 0 b38 [(I 0),(I 0),(I 0),(S ⟨#[]⟩),(S ⟨#[]⟩),(S ⟨#[]⟩),(AV.sl 0 true .full [])]) fun b39 =>
 ob (partA true 0 7 b39) fun r40 =>
 ob (mkSlA 7 [r40]) fun r41 =>
 ob (bldA [(0,1,(I 3)),(6,1,r41)] [(I 0),(I 0),(I 0),(S ⟨#[]⟩),(S ⟨#[]⟩),(S ⟨#[]⟩),(AV.sl 0 true .full [])]) fun r42 =>
 ob (sizedA 7 r42) fun b43 =>
 ob (spliceA 0 b43 [(I 0),(I 0),(I 0),(S ⟨#[]⟩),(S ⟨#[]⟩),(S ⟨#[]⟩),(AV.sl 0 true .full [])]) fun b44 =>
 ob (partA true 0 7 b44) fun r45 =>
 Q r45 H37)) :=
 Ev_eq.trans (by kernel_rfl)
def f308_l6 (x0:AV) (x5:AV) (x6:AV) (H:Heap) (Q:Post):Prop:=AtF Pg Hs 308 [1,0,1,0] Q [(0,.val x0),(5,.val x5),(6,.val x6)] H
theorem f308_l6_eq (x0:AV) (x5:AV) (x6:AV) (H:Heap) (Q:Post):f308_l6 x0 x5 x6 H Q =
 ob (binA Pg .lss 3 true x6 (I 16)) fun r3 =>
 cndA r3
 (ob (ixAgg 16 false 1 x5 x6) fun r4 =>
 ob (binA Pg .eql 5 false r4 x0) fun r5 =>
 cndA r5
 (Q x6 H)
 (ob (binA Pg .add 3 true x6 (I 1)) fun r6 =>
 f308_l6 x0 x5 r6 H Q))
 (Q (I (-1)) H) :=
 (AtF_eq Pg Hs 308 [1,0,1,0] Q _ H).trans (by kernel_rfl)
theorem f308_eq (a0:AV) (H:Heap) (Q:Post):E 308 [a0] H Q =
 E 289 [] H fun r1 H2 =>
 f308_l6 a0 r1 (I 0) H2 Q :=
 Ev_eq.trans (by kernel_rfl)
def f309_j55 (x0:AV) (x2:List AV) (H:Heap) (Q:Post):Prop:=AtJ Pg Hs 309 [1,1] Q [(0,.val x0),(2,.lbox x2)] H
theorem f309_j55_eq (x0:AV) (x2:List AV) (H:Heap) (Q:Post):f309_j55 x0 x2 H Q =
 E 285 [x0,(I 4)] H fun r66 H67 =>
 ob (sizedA 7 r66) fun b68 =>
 ob (spliceA 0 b68 x2) fun b69 =>
 ob (partA true 0 7 b69) fun r70 =>
 Q r70 H67 :=
 (AtJ_eq Pg Hs 309 [1,1] Q _ H).trans (by kernel_rfl)
theorem f309_eq (a0:AV) (H:Heap) (Q:Post):E 309 [a0] H Q =
 ob (nilA a0) fun r1 =>
 ob (addPA r1 0) fun r2 =>
 ob (ldH H false 1 r2) fun r3 =>
 E 44 [r3] H fun r4 H5 =>
 ob (sizedA 3 r4) fun b6 =>
 ob (spliceA 0 b6 [(I 0),(S ⟨#[]⟩),(I 0)]) fun b7 =>
 ob (partA false 0 1 b7) fun r8 =>
 ob (binA Pg .eql 3 true r8 (I 3)) fun r9 =>
 cndA r9
 (E 311 [a0,(S ⟨#[]⟩)] H5 fun r10 H11 =>
 ob (sizedA 7 r10) fun b12 =>
 ob (spliceA 0 b12 [(I 0),(I 0),(I 0),(S ⟨#[]⟩),(S ⟨#[]⟩),(S ⟨#[]⟩),(AV.sl 0 true .full [])]) fun b13 =>
 ob (partA true 0 7 b13) fun r14 =>
 Q r14 H11)
 (ob (binA Pg .eql 3 true r8 (I 4)) fun r15 =>
 cndA r15
 (ob (nilA a0) fun r16 =>
 ob (addPA r16 0) fun r17 =>
 ob (ldH H5 false 1 r17) fun r18 =>
 E 268 [r18] H5 fun r19 H20 =>
 ob (partA false 1 1 b7) fun r21 =>
 E 315 [r21] H20 fun r22 H23 =>
 ob (bldA [(0,1,(I 1)),(1,3,r22)] [(I 0),(I 0),(I 0),(S ⟨#[]⟩),(S ⟨#[]⟩),(S ⟨#[]⟩),(AV.sl 0 true .full [])]) fun r24 =>
 ob (sizedA 7 r24) fun b25 =>
 ob (spliceA 0 b25 [(I 0),(I 0),(I 0),(S ⟨#[]⟩),(S ⟨#[]⟩),(S ⟨#[]⟩),(AV.sl 0 true .full [])]) fun b26 =>
 ob (partA true 0 7 b26) fun r27 =>
 Q r27 H23)
 (ob (binA Pg .eql 3 true r8 (I 2)) fun r28 =>
 cndA r28
 (ob (nilA a0) fun r29 =>
 ob (addPA r29 0) fun r30 =>
 ob (ldH H5 false 1 r30) fun r31 =>
 E 268 [r31] H5 fun r32 H33 =>
 ob (partA false 1 1 b7) fun r34 =>
 E 316 [a0,r34] H33 fun r35 H36 =>
 ob (sizedA 7 r35) fun b37 =>
 ob (spliceA 0 b37 [(I 0),(I 0),(I 0),(S ⟨#[]⟩),(S ⟨#[]⟩),(S ⟨#[]⟩),(AV.sl 0 true .full [])]) fun b38 =>
 ob (partA true 0 7 b38) fun r39 =>
 Q r39 H36)
 (ob (binA Pg .eql 3 true r8 (I 1)) fun r40 =>
 cndA r40
 (ob (partA false 1 1 b7) fun r41 =>
 E 317 [r41] H5 fun r42 H43 =>
 ob (extractA r42 0) fun r44 =>
 ob (extractA r42 1) fun r45 =>
 ob (sizedA 3 r44) fun b46 =>
 ob (spliceA 0 b46 [(I 0),(I 0),(S ⟨#[]⟩)]) fun b47 =>
 cndA r45
 (ob (nilA a0) fun r48 =>
 ob (addPA r48 0) fun r49 =>
 ob (ldH H43 false 1 r49) fun r50 =>
 E 268 [r50] H43 fun r51 H52 =>
 ob (partA true 0 3 b47) fun r53 =>
 ob (bldA [(0,1,(I 1)),(1,3,r53)] [(I 0),(I 0),(I 0),(S ⟨#[]⟩),(S ⟨#[]⟩),(S ⟨#[]⟩),(AV.sl 0 true .full [])]) fun r54 =>
 ob (sizedA 7 r54) fun b55 =>
 ob (spliceA 0 b55 [(I 0),(I 0),(I 0),(S ⟨#[]⟩),(S ⟨#[]⟩),(S ⟨#[]⟩),(AV.sl 0 true .full [])]) fun b56 =>
 ob (partA true 0 7 b56) fun r57 =>
 Q r57 H52)
 (f309_j55 a0 [(I 0),(I 0),(I 0),(S ⟨#[]⟩),(S ⟨#[]⟩),(S ⟨#[]⟩),(AV.sl 0 true .full [])] H43 Q))
 (ob (binA Pg .eql 3 true r8 (I 5)) fun r58 =>
 cndA r58
 (ob (partA false 1 1 b7) fun r59 =>
 ob (binA Pg .eql 9 true r59 (S ⟨#[40]⟩)) fun r60 =>
 cndA r60
 (E 254 [a0,(AV.fn (.func 318) [a0] [])] H5 fun r61 H62 =>
 ob (sizedA 7 r61) fun b63 =>
 ob (spliceA 0 b63 [(I 0),(I 0),(I 0),(S ⟨#[]⟩),(S ⟨#[]⟩),(S ⟨#[]⟩),(AV.sl 0 true .full [])]) fun b64 =>
 ob (partA true 0 7 b64) fun r65 =>
 Q r65 H62)
 (f309_j55 a0 [(I 0),(I 0),(I 0),(S ⟨#[]⟩),(S ⟨#[]⟩),(S ⟨#[]⟩),(AV.sl 0 true .full [])] H5 Q))
 (f309_j55 a0 [(I 0),(I 0),(I 0),(S ⟨#[]⟩),(S ⟨#[]⟩),(S ⟨#[]⟩),(AV.sl 0 true .full [])] H5 Q))))) :=
 Ev_eq.trans (by kernel_rfl)
theorem f310_eq (a0:AV) (H:Heap) (Q:Post):E 310 [a0] H Q =
 E 100 [a0] H fun r1 H2 =>
 cndA r1
 (Q (I 0) H2)
 (ob (nilA a0) fun r3 =>
 ob (addPA r3 1) fun r4 =>
 ob (ldH H2 false 1 r4) fun r5 =>
 Q r5 H2) :=
 Ev_eq.trans (by kernel_rfl)
def f311_j10 (x0:AV) (x4:List AV) (x5:AV) (H:Heap) (Q:Post):Prop:=AtJ Pg Hs 311 [1,1,1] Q [(0,.val x0),(4,.lbox x4),(5,.val x5)] H
theorem f311_j10_eq (x0:AV) (x4:List AV) (x5:AV) (H:Heap) (Q:Post):f311_j10 x0 x4 x5 H Q =
 E 269 [x5] H fun r9 H10 =>
 ob (extractA r9 0) fun r11 =>
 ob (extractA r9 1) fun r12 =>
 ob (binA Pg .neq 27 true r12 (I 0)) fun r13 =>
 cndA r13
 (E 285 [x0,(I 4)] H10 fun r14 H15 =>
 ob (sizedA 7 r14) fun b16 =>
 ob (spliceA 0 b16 x4) fun b17 =>
 ob (partA true 0 7 b17) fun r18 =>
 Q r18 H15)
 (ob (nilA x0) fun r19 =>
 ob (addPA r19 0) fun r20 =>
 ob (ldH H10 false 1 r20) fun r21 =>
 E 268 [r21] H10 fun r22 H23 =>
 E 319 [r11] H23 fun r24 H25 =>
 ob (bldA [(0,1,(I 1)),(1,3,r24)] [(I 0),(I 0),(I 0),(S ⟨#[]⟩),(S ⟨#[]⟩),(S ⟨#[]⟩),(AV.sl 0 true .full [])]) fun r26 =>
 ob (sizedA 7 r26) fun b27 =>
 ob (spliceA 0 b27 x4) fun b28 =>
 ob (partA true 0 7 b28) fun r29 =>
 Q r29 H25) :=
 (AtJ_eq Pg Hs 311 [1,1,1] Q _ H).trans (by kernel_rfl)
theorem f311_eq (a0 a1:AV) (H:Heap) (Q:Post):E 311 [a0,a1] H Q =
 ob (nilA a0) fun r1 =>
 ob (addPA r1 0) fun r2 =>
 ob (ldH H false 1 r2) fun r3 =>
 E 44 [r3] H fun r4 H5 =>
 fldK false 1 1 r4 fun r6 =>
 ob (binA Pg .neq 9 true r6 (S ⟨#[48]⟩)) fun r7 =>
 cndA r7
 (ob (binA Pg .add 9 false a1 r6) fun r8 =>
 f311_j10 a0 [(I 0),(I 0),(I 0),(S ⟨#[]⟩),(S ⟨#[]⟩),(S ⟨#[]⟩),(AV.sl 0 true .full [])] r8 H5 Q)
 (f311_j10 a0 [(I 0),(I 0),(I 0),(S ⟨#[]⟩),(S ⟨#[]⟩),(S ⟨#[]⟩),(AV.sl 0 true .full [])] r6 H5 Q) :=
 Ev_eq.trans (by kernel_rfl)
def f312_j2 (x0:AV) (x1:AV) (x18:AV) (H:Heap) (Q:Post):Prop:=AtJ Pg Hs 312 [1] Q [(0,.val x0),(1,.val x1),(18,.val x18)] H
theorem f312_j2_eq (x0:AV) (x1:AV) (x18:AV) (H:Heap) (Q:Post):f312_j2 x0 x1 x18 H Q =
 cndA x18
 (ob (nilA x0) fun r9 =>
 ob (addPA r9 1) fun r10 =>
 ob (stH H 1 r10 x1) fun H11 =>
 Q (AV.tup []) H11)
 (Q (AV.tup []) H) :=
 (AtJ_eq Pg Hs 312 [1] Q _ H).trans (by kernel_rfl)
theorem f312_eq (a0 a1:AV) (H:Heap) (Q:Post):E 312 [a0,a1] H Q =
 E 100 [a0] H fun r1 H2 =>
 ob (unA .not r1) fun r3 =>
 cndA r3
 (ob (binA Pg .geq 3 true a1 (I 0)) fun r4 =>
 cndA r4
 (ob (nilA a0) fun r5 =>
 ob (addPA r5 1) fun r6 =>
 ob (ldH H2 false 1 r6) fun r7 =>
 ob (binA Pg .leq 3 false a1 r7) fun r8 =>
 f312_j2 a0 a1 r8 H2 Q)
 (f312_j2 a0 a1 (B false) H2 Q))
 (f312_j2 a0 a1 (B false) H2 Q) :=
 Ev_eq.trans (by kernel_rfl)
theorem f315_eq (a0:AV) (H:Heap) (Q:Post):E 315 [a0] H Q =
 ob (lenSA a0) fun r1 =>
 ob (binA Pg .gtr 3 true r1 (I 256)) fun r2 =>
 cndA r2
 (E 259 [] H fun r3 H4 =>
 ob (sizedA 3 r3) fun b5 =>
 ob (spliceA 0 b5 [(I 0),(I 0),(S ⟨#[]⟩)]) fun b6 =>
 ob (partA true 0 3 b6) fun r7 =>
 Q r7 H4)
 (ob (bldA [(0,1,(I 3)),(2,1,a0)] [(I 0),(I 0),(S ⟨#[]⟩)]) fun r8 =>
 ob (sizedA 3 r8) fun b9 =>
 ob (spliceA 0 b9 [(I 0),(I 0),(S ⟨#[]⟩)]) fun b10 =>
 ob (partA true 0 3 b10) fun r11 =>
 Q r11 H) :=
 Ev_eq.trans (by kernel_rfl)
theorem f316_eq (a0 a1:AV) (H:Heap) (Q:Post):E 316 [a0,a1] H Q =
 ob (nilA a0) fun r1 =>
 ob (addPA r1 0) fun r2 =>
 ob (ldH H false 1 r2) fun r3 =>
 E 228 [r3,(S ⟨#[46]⟩)] H fun r4 H5 =>
 ob (unA .not r4) fun r6 =>
 cndA r6
 (E 285 [a0,(I 4)] H5 fun r7 H8 =>
 ob (sizedA 7 r7) fun b9 =>
 ob (spliceA 0 b9 [(I 0),(I 0),(I 0),(S ⟨#[]⟩),(S ⟨#[]⟩),(S ⟨#[]⟩),(AV.sl 0 true .full [])]) fun b10 =>
 ob (partA true 0 7 b10) fun r11 =>
 Q r11 H8)
 (ob (nilA a0) fun r12 =>
 ob (addPA r12 0) fun r13 =>
 ob (ldH H5 false 1 r13) fun r14 =>
 E 229 [r14] H5 fun r15 H16 =>
 ob (extractA r15 0) fun r17 =>
 ob (extractA r15 1) fun r18 =>
 ob (unA .not r18) fun r19 =>
 cndA r19
 (E 285 [a0,(I 4)] H16 fun r20 H21 =>
 ob (sizedA 7 r20) fun b22 =>
 ob (spliceA 0 b22 [(I 0),(I 0),(I 0),(S ⟨#[]⟩),(S ⟨#[]⟩),(S ⟨#[]⟩),(AV.sl 0 true .full [])]) fun b23 =>
 ob (partA true 0 7 b23) fun r24 =>
 Q r24 H21)
 (ob (bldA [(0,1,(I 2)),(4,1,a1),(5,1,r17)] [(I 0),(I 0),(I 0),(S ⟨#[]⟩),(S ⟨#[]⟩),(S ⟨#[]⟩),(AV.sl 0 true .full [])]) fun r25 =>
 ob (sizedA 7 r25) fun b26 =>
 ob (spliceA 0 b26 [(I 0),(I 0),(I 0),(S ⟨#[]⟩),(S ⟨#[]⟩),(S ⟨#[]⟩),(AV.sl 0 true .full [])]) fun b27 =>
 ob (partA true 0 7 b27) fun r28 =>
 Q r28 H16)) :=
 Ev_eq.trans (by kernel_rfl)
theorem f317_eq (a0:AV) (H:Heap) (Q:Post):E 317 [a0] H Q =
 ob (binA Pg .eql 9 true a0 (S ⟨#[84,82,85,69]⟩)) fun r1 =>
 cndA r1
 (E 251 [(B true)] H fun r2 H3 =>
 ob (sizedA 3 r2) fun b4 =>
 ob (spliceA 0 b4 [(I 0),(I 0),(S ⟨#[]⟩)]) fun b5 =>
 ob (partA true 0 3 b5) fun r6 =>
 Q (AV.tup [r6,(B true)]) H3)
 (ob (binA Pg .eql 9 true a0 (S ⟨#[70,65,76,83,69]⟩)) fun r7 =>
 cndA r7
 (E 251 [(B false)] H fun r8 H9 =>
 ob (sizedA 3 r8) fun b10 =>
 ob (spliceA 0 b10 [(I 0),(I 0),(S ⟨#[]⟩)]) fun b11 =>
 ob (partA true 0 3 b11) fun r12 =>
 Q (AV.tup [r12,(B true)]) H9)
 (ob (binA Pg .eql 9 true a0 (S ⟨#[78,85,76,76]⟩)) fun r13 =>
 cndA r13
 (E 259 [] H fun r14 H15 =>
 ob (sizedA 3 r14) fun b16 =>
 ob (spliceA 0 b16 [(I 0),(I 0),(S ⟨#[]⟩)]) fun b17 =>
 ob (partA true 0 3 b17) fun r18 =>
 Q (AV.tup [r18,(B true)]) H15)
 (E 259 [] H fun r19 H20 =>
 ob (sizedA 3 r19) fun b21 =>
 ob (spliceA 0 b21 [(I 0),(I 0),(S ⟨#[]⟩)]) fun b22 =>
 ob (partA true 0 3 b22) fun r23 =>
 Q (AV.tup [r23,(B false)]) H20))) :=
 Ev_eq.trans (by kernel_rfl)
def f318_j7 (x0:AV) (x2:List AV) (x3:List AV) (x18:AV) (H:Heap) (Q:Post):Prop:=AtJ Pg Hs 318 [1,1,0,1] Q [(0,.val x0),(2,.lbox x2),(3,.lbox x3),(18,.val x18)] H
theorem f318_j7_eq (x0:AV) (x2:List AV) (x3:List AV) (x18:AV) (H:Heap) (Q:Post):f318_j7 x0 x2 x3 x18 H Q =
 cndA x18
 (E 285 [x0,(I 4)] H fun r15 H16 =>
 ob (sizedA 7 r15) fun b17 =>
 ob (spliceA 0 b17 x2) fun b18 =>
 ob (partA true 0 7 b18) fun r19 =>
 Q r19 H16)
 (ob (partA true 0 7 x3) fun r20 =>
 ob (sizedA 7 r20) fun b21 =>
 ob (spliceA 0 b21 x2) fun b22 =>
 ob (partA true 0 7 b22) fun r23 =>
 Q r23 H) :=
 (AtJ_eq Pg Hs 318 [1,1,0,1] Q _ H).trans (by kernel_rfl)
theorem f318_eq (a0:AV) (H:Heap) (Q:Post):E 318 [a0] H Q =
 E 49 [a0] H fun r1 H2 =>
 ob (sizedA 7 r1) fun b3 =>
 ob (spliceA 0 b3 [(I 0),(I 0),(I 0),(S ⟨#[]⟩),(S ⟨#[]⟩),(S ⟨#[]⟩),(AV.sl 0 true .full [])]) fun b4 =>
 ob (nilA a0) fun r5 =>
 ob (addPA r5 2) fun r6 =>
 ob (ldH H2 false 1 r6) fun r7 =>
 ob (binA Pg .eql 27 true r7 (I 0)) fun r8 =>
 cndA r8
 (ob (nilA a0) fun r9 =>
 ob (addPA r9 0) fun r10 =>
 ob (ldH H2 false 1 r10) fun r11 =>
 E 228 [r11,(S ⟨#[41]⟩)] H2 fun r12 H13 =>
 ob (unA .not r12) fun r14 =>
 f318_j7 a0 [(I 0),(I 0),(I 0),(S ⟨#[]⟩),(S ⟨#[]⟩),(S ⟨#[]⟩),(AV.sl 0 true .full [])] b4 r14 H13 Q)
 (f318_j7 a0 [(I 0),(I 0),(I 0),(S ⟨#[]⟩),(S ⟨#[]⟩),(S ⟨#[]⟩),(AV.sl 0 true .full [])] b4 (B false) H2 Q) :=
 Ev_eq.trans (by kernel_rfl)
theorem f319_eq (a0:AV) (H:Heap) (Q:Post):E 319 [a0] H Q =
 ob (bldA [(0,1,(I 2)),(1,1,a0)] [(I 0),(I 0),(S ⟨#[]⟩)]) fun r1 =>
 ob (sizedA 3 r1) fun b2 =>
 ob (spliceA 0 b2 [(I 0),(I 0),(S ⟨#[]⟩)]) fun b3 =>
 ob (partA true 0 3 b3) fun r4 =>
 Q r4 H :=
 Ev_eq.trans (by kernel_rfl)
end Go.Hx

