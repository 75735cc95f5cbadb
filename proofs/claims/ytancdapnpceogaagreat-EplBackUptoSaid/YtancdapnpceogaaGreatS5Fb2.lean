/- Printed by gen.py (own work): each function as the abstract machine has it. -/
import Derived.Test.YtancdapnpceogaaGreatS5H
import Derived.KernelRfl
set_option linter.unusedVariables false
namespace Go.Hx
theorem f128_eq (a0:AV) (H:Heap) (Q:Post):E 128 [a0] H Q =
 ob (nilA a0) fun r1 =>
 ob (addPA r1 2) fun r2 =>
 ob (ldH H false 1 r2) fun r3 =>
 ob (binA Pg .eql 27 true r3 (I 0)) fun r4 =>
 Q r4 H :=
 Ev_eq.trans (by kernel_rfl)
def f129_j8 (x1:AV) (H:Heap) (Q:Post):Prop:=AtJ Pg Hs 129 [1,1] Q [(1,.val x1)] H
theorem f129_j8_eq (x1:AV) (H:Heap) (Q:Post):f129_j8 x1 H Q =
 Q x1 H :=
 (AtJ_eq Pg Hs 129 [1,1] Q _ H).trans (by kernel_rfl)
theorem f129_eq (a0 a1:AV) (H:Heap) (Q:Post):E 129 [a0,a1] H Q =
 ob (unA .not a1) fun r1 =>
 cndA r1
 (ob (nilA a0) fun r2 =>
 ob (addPA r2 0) fun r3 =>
 ob (ldH H false 1 r3) fun r4 =>
 E 21 [r4] H fun r5 H6 =>
 E 135 [a0,(I 4),r5] H6 fun r7 H8 =>
 f129_j8 a1 H8 Q)
 (f129_j8 a1 H Q) :=
 Ev_eq.trans (by kernel_rfl)
theorem f131_eq (a0:AV) (H:Heap) (Q:Post):E 131 [a0] H Q =
 ob (sizedA 1 a0) fun b1 =>
 ob (partA false 0 1 b1) fun r2 =>
 E 76 [r2,(S ⟨#[78,79,84]⟩)] H fun r3 H4 =>
 cndA r3
 (ob (partA true 0 1 b1) fun r5 =>
 E 207 [r5,(I 6)] H4 fun r6 H7 =>
 ob (sizedA 6 r6) fun b8 =>
 ob (spliceA 0 b8 [(I 0),(S ⟨#[]⟩),(S ⟨#[]⟩),(I 0),(I 0),(AV.sl 0 true .full [])]) fun b9 =>
 ob (partA true 0 6 b9) fun r10 =>
 Q r10 H7)
 (ob (partA false 0 1 b1) fun r11 =>
 E 149 [r11,(S ⟨#[91]⟩)] H4 fun r12 H13 =>
 cndA r12
 (ob (partA false 0 1 b1) fun r14 =>
 E 137 [r14,(I 2),(I 1000)] H13 fun r15 H16 =>
 ob (partA false 0 1 b1) fun r17 =>
 E 208 [r17,(S ⟨#[93]⟩)] H16 fun r18 H19 =>
 ob (partA true 0 1 b1) fun r20 =>
 E 207 [r20,(I 5)] H19 fun r21 H22 =>
 ob (sizedA 6 r21) fun b23 =>
 ob (spliceA 0 b23 [(I 0),(S ⟨#[]⟩),(S ⟨#[]⟩),(I 0),(I 0),(AV.sl 0 true .full [])]) fun b24 =>
 ob (sizedA 1 r15) fun b25 =>
 ob (spliceA 3 b25 b24) fun b26 =>
 ob (sizedA 1 r15) fun b27 =>
 ob (spliceA 4 b27 b26) fun b28 =>
 ob (partA true 0 6 b28) fun r29 =>
 ob (sizedA 6 r29) fun b30 =>
 ob (spliceA 0 b30 [(I 0),(S ⟨#[]⟩),(S ⟨#[]⟩),(I 0),(I 0),(AV.sl 0 true .full [])]) fun b31 =>
 ob (partA true 0 6 b31) fun r32 =>
 Q r32 H22)
 (ob (partA false 0 1 b1) fun r33 =>
 E 209 [r33,(I 5),(S ⟨#[40]⟩)] H13 fun r34 H35 =>
 cndA r34
 (ob (partA false 0 1 b1) fun r36 =>
 E 210 [r36] H35 fun r37 H38 =>
 ob (unA .not r37) fun r39 =>
 cndA r39
 (ob (bldA [] [(I 0),(S ⟨#[]⟩),(S ⟨#[]⟩),(I 0),(I 0),(AV.sl 0 true .full [])]) fun r40 =>
 ob (sizedA 6 r40) fun b41 =>
 ob (spliceA 0 b41 [(I 0),(S ⟨#[]⟩),(S ⟨#[]⟩),(I 0),(I 0),(AV.sl 0 true .full [])]) fun b42 =>
 ob (partA true 0 6 b42) fun r43 =>
 Q r43 H38)
 (ob (partA true 0 1 b1) fun r44 =>
 E 62 [r44,(I 1)] H38 fun r45 H46 =>
 ob (sizedA 6 r45) fun b47 =>
 ob (spliceA 0 b47 [(I 0),(S ⟨#[]⟩),(S ⟨#[]⟩),(I 0),(I 0),(AV.sl 0 true .full [])]) fun b48 =>
 ob (partA false 0 1 b1) fun r49 =>
 E 211 [r49] H46 fun r50 H51 =>
 ob (partA true 0 6 b48) fun r52 =>
 ob (sizedA 6 r52) fun b53 =>
 ob (spliceA 0 b53 [(I 0),(S ⟨#[]⟩),(S ⟨#[]⟩),(I 0),(I 0),(AV.sl 0 true .full [])]) fun b54 =>
 ob (partA true 0 6 b54) fun r55 =>
 Q r55 H51))
 (ob (partA true 0 1 b1) fun r56 =>
 E 207 [r56,(I 1)] H35 fun r57 H58 =>
 ob (sizedA 6 r57) fun b59 =>
 ob (spliceA 0 b59 [(I 0),(S ⟨#[]⟩),(S ⟨#[]⟩),(I 0),(I 0),(AV.sl 0 true .full [])]) fun b60 =>
 ob (partA true 0 6 b60) fun r61 =>
 Q r61 H58))) :=
 Ev_eq.trans (by kernel_rfl)
theorem f132_eq (a0 a1:AV) (H:Heap) (Q:Post):E 132 [a0,a1] H Q =
 ob (sizedA 1 a0) fun b1 =>
 ob (sizedA 1 a1) fun b2 =>
 newH H b2 fun r3 H4 =>
 newH H4 b1 fun r5 H6 =>
 Q (AV.fn (.func 212) [] [r3,r5]) H6 :=
 Ev_eq.trans (by kernel_rfl)
def f133_l8 (x0:AV) (x4:List AV) (x5:AV) (x8:AV) (x9:AV) (x10:AV) (H:Heap) (Q:Post):Prop:=AtF Pg Hs 133 [1,1,0,1,0] Q [(0,.val x0),(4,.lbox x4),(5,.val x5),(8,.val x8),(9,.val x9),(10,.val x10)] H
def f133_j24 (x0:AV) (x4:List AV) (x5:AV) (x8:AV) (x9:AV) (x10:AV) (H:Heap) (Q:Post):Prop:=AtJ Pg Hs 133 [1,1,0,1,0,0,1,1,1] Q [(0,.val x0),(4,.lbox x4),(5,.val x5),(8,.val x8),(9,.val x9),(10,.val x10)] H
theorem f133_l8_eq (x0:AV) (x4:List AV) (x5:AV) (x8:AV) (x9:AV) (x10:AV) (H:Heap) (Q:Post):f133_l8 x0 x4 x5 x8 x9 x10 H Q =
 ob (binA Pg .lss 3 false x10 x9) fun r2 =>
 cndA r2
 (ob (ixaA 6 x8 x10) fun c3 =>
 ob (partA true 0 6 c3) fun r4 =>
 ob (sizedA 6 r4) fun b5 =>
 ob (spliceA 0 b5 [(I 0),(S ⟨#[]⟩),(S ⟨#[]⟩),(I 0),(I 0),(AV.sl 0 true .full [])]) fun b6 =>
 ob (partA false 0 1 b6) fun r7 =>
 ob (binA Pg .eql 3 false r7 x0) fun r8 =>
 cndA r8
 (ob (partA false 5 1 b6) fun r9 =>
 appA 6 80 x5 r9 H fun r10 H11 =>
 f133_j24 x0 x4 r10 x8 x9 x10 H11 Q)
 (ob (partA true 0 6 b6) fun r12 =>
 ob (mkSlA 6 [r12]) fun r13 =>
 appA 6 80 x5 r13 H fun r14 H15 =>
 f133_j24 x0 x4 r14 x8 x9 x10 H15 Q))
 (ob (lenA x5) fun r16 =>
 ob (binA Pg .eql 3 true r16 (I 1)) fun r17 =>
 cndA r17
 (ob (ixaA 6 x5 (I 0)) fun c18 =>
 ob (partA true 0 6 c18) fun r19 =>
 ob (sizedA 6 r19) fun b20 =>
 ob (spliceA 0 b20 x4) fun b21 =>
 ob (partA true 0 6 b21) fun r22 =>
 Q r22 H)
 (ob (bldA [(0,1,x0),(5,1,x5)] [(I 0),(S ⟨#[]⟩),(S ⟨#[]⟩),(I 0),(I 0),(AV.sl 0 true .full [])]) fun r23 =>
 ob (sizedA 6 r23) fun b24 =>
 ob (spliceA 0 b24 x4) fun b25 =>
 ob (partA true 0 6 b25) fun r26 =>
 Q r26 H)) :=
 (AtF_eq Pg Hs 133 [1,1,0,1,0] Q _ H).trans (by kernel_rfl)
theorem f133_j24_eq (x0:AV) (x4:List AV) (x5:AV) (x8:AV) (x9:AV) (x10:AV) (H:Heap) (Q:Post):f133_j24 x0 x4 x5 x8 x9 x10 H Q =
 ob (binA Pg .add 3 true x10 (I 1)) fun r27 =>
 f133_l8 x0 x4 x5 x8 x9 r27 H Q :=
 (AtJ_eq Pg Hs 133 [1,1,0,1,0,0,1,1,1] Q _ H).trans (by kernel_rfl)
theorem f133_eq (a0 a1:AV) (H:Heap) (Q:Post):E 133 [a0,a1] H Q =
 ob (lenA a1) fun r1 =>
 f133_l8 a0 [(I 0),(S ⟨#[]⟩),(S ⟨#[]⟩),(I 0),(I 0),(AV.sl 0 true .full [])] (AV.sl 0 true .full []) a1 r1 (I 0) H Q :=
 Ev_eq.trans (by kernel_rfl)
theorem f134_eq (a0:AV) (H:Heap) (Q:Post):E 134 [a0] H Q =
 ob (binA Pg .eql 3 true a0 (I 1)) fun r1 =>
 cndA r1
 (Q (I 2) H)
 (ob (binA Pg .eql 3 true a0 (I 2)) fun r2 =>
 cndA r2
 (Q (I 4) H)
 (Q (I 3) H)) :=
 Ev_eq.trans (by kernel_rfl)
theorem f135_eq (a0 a1 a2:AV) (H:Heap) (Q:Post):E 135 [a0,a1,a2] H Q =
 E 128 [a0] H fun r1 H2 =>
 cndA r1
 (ob (nilA a0) fun r3 =>
 ob (addPA r3 2) fun r4 =>
 ob (stH H2 1 r4 a1) fun H5 =>
 ob (nilA a0) fun r6 =>
 ob (addPA r6 3) fun r7 =>
 ob (stH H5 1 r7 a2) fun H8 =>
 Q (AV.tup []) H8)
 (Q (AV.tup []) H2) :=
 Ev_eq.trans (by kernel_rfl)
theorem f136_eq (a0:AV) (H:Heap) (Q:Post):E 136 [a0] H Q =
 ob (sizedA 7 a0) fun b1 =>
 ob (partA false 0 1 b1) fun r2 =>
 ob (binA Pg .eql 3 true r2 (I 16)) fun r3 =>
 cndA r3
 (ob (partA false 6 1 b1) fun r4 =>
 E 213 [r4] H fun r5 H6 =>
 Q r5 H6)
 (ob (partA true 0 7 b1) fun r7 =>
 ob (mkSlA 7 [r7]) fun r8 =>
 Q r8 H) :=
 Ev_eq.trans (by kernel_rfl)
def f137_j17 (x0:AV) (x7:AV) (x8:AV) (x33:AV) (H:Heap) (Q:Post):Prop:=AtJ Pg Hs 137 [1,1,1,1,0,1] Q [(0,.val x0),(7,.val x7),(8,.val x8),(33,.val x33)] H
theorem f137_j17_eq (x0:AV) (x7:AV) (x8:AV) (x33:AV) (H:Heap) (Q:Post):f137_j17 x0 x7 x8 x33 H Q =
 cndA x33
 (E 135 [x0,(I 4),x7] H fun r18 H19 =>
 Q (I 0) H19)
 (Q x8 H) :=
 (AtJ_eq Pg Hs 137 [1,1,1,1,0,1] Q _ H).trans (by kernel_rfl)
theorem f137_eq (a0 a1 a2:AV) (H:Heap) (Q:Post):E 137 [a0,a1,a2] H Q =
 E 128 [a0] H fun r1 H2 =>
 ob (unA .not r1) fun r3 =>
 cndA r3
 (Q (I 0) H2)
 (ob (nilA a0) fun r4 =>
 ob (addPA r4 0) fun r5 =>
 ob (ldH H2 false 1 r5) fun r6 =>
 E 21 [r6] H2 fun r7 H8 =>
 ob (nilA a0) fun r9 =>
 ob (addPA r9 0) fun r10 =>
 ob (ldH H8 false 1 r10) fun r11 =>
 E 214 [r11,a2] H8 fun r12 H13 =>
 ob (extractA r12 0) fun r14 =>
 ob (extractA r12 1) fun r15 =>
 ob (unA .not r15) fun r16 =>
 cndA r16
 (f137_j17 a0 r7 r14 (B true) H13 Q)
 (ob (binA Pg .lss 2 false r14 a1) fun r17 =>
 f137_j17 a0 r7 r14 r17 H13 Q)) :=
 Ev_eq.trans (by kernel_rfl)
def f149_j4 (x4:AV) (H:Heap) (Q:Post):Prop:=AtJ Pg Hs 149 [1,1] Q [(4,.val x4)] H
theorem f149_j4_eq (x4:AV) (H:Heap) (Q:Post):f149_j4 x4 H Q =
 Q x4 H :=
 (AtJ_eq Pg Hs 149 [1,1] Q _ H).trans (by kernel_rfl)
theorem f149_eq (a0 a1:AV) (H:Heap) (Q:Post):E 149 [a0,a1] H Q =
 E 128 [a0] H fun r1 H2 =>
 cndA r1
 (ob (nilA a0) fun r3 =>
 ob (addPA r3 0) fun r4 =>
 ob (ldH H2 false 1 r4) fun r5 =>
 E 228 [r5,a1] H2 fun r6 H7 =>
 f149_j4 r6 H7 Q)
 (f149_j4 (B false) H2 Q) :=
 Ev_eq.trans (by kernel_rfl)
theorem f150_eq (a0:AV) (H:Heap) (Q:Post):E 150 [a0] H Q =
 E 128 [a0] H fun r1 H2 =>
 ob (unA .not r1) fun r3 =>
 cndA r3
 (Q (S ⟨#[]⟩) H2)
 (ob (nilA a0) fun r4 =>
 ob (addPA r4 0) fun r5 =>
 ob (ldH H2 false 1 r5) fun r6 =>
 E 229 [r6] H2 fun r7 H8 =>
 ob (extractA r7 0) fun r9 =>
 ob (extractA r7 1) fun r10 =>
 E 129 [a0,r10] H8 fun r11 H12 =>
 Q r9 H12) :=
 Ev_eq.trans (by kernel_rfl)
def f155_j4 (x2:AV) (H:Heap) (Q:Post):Prop:=AtJ Pg Hs 155 [1,1] Q [(2,.val x2)] H
theorem f155_j4_eq (x2:AV) (H:Heap) (Q:Post):f155_j4 x2 H Q =
 Q x2 H :=
 (AtJ_eq Pg Hs 155 [1,1] Q _ H).trans (by kernel_rfl)
theorem f155_eq (a0:AV) (H:Heap) (Q:Post):E 155 [a0] H Q =
 ob (sizedA 6 a0) fun b1 =>
 ob (partA false 0 1 b1) fun r2 =>
 ob (binA Pg .eql 3 true r2 (I 5)) fun r3 =>
 cndA r3
 (ob (partA false 3 1 b1) fun r4 =>
 ob (partA false 4 1 b1) fun r5 =>
 ob (binA Pg .neq 3 false r4 r5) fun r6 =>
 cndA r6
 (f155_j4 (B true) H Q)
 (ob (partA false 5 1 b1) fun r7 =>
 E 169 [r7,(AV.fn (.func 155) [] [])] H fun r8 H9 =>
 f155_j4 r8 H9 Q))
 (ob (partA false 5 1 b1) fun r10 =>
 E 169 [r10,(AV.fn (.func 155) [] [])] H fun r11 H12 =>
 f155_j4 r11 H12 Q) :=
 Ev_eq.trans (by kernel_rfl)
theorem f156_eq (a0:AV) (H:Heap) (Q:Post):E 156 [a0] H Q =
 ob (binA Pg .eql 3 true a0 (I 2)) fun r1 =>
 cndA r1
 (Q (AV.tup [(I 1),(S ⟨#[32,45,62,32]⟩)]) H)
 (ob (binA Pg .eql 3 true a0 (I 4)) fun r2 =>
 cndA r2
 (Q (AV.tup [(I 2),(S ⟨#[32,79,82,32]⟩)]) H)
 (ob (binA Pg .eql 3 true a0 (I 3)) fun r3 =>
 cndA r3
 (Q (AV.tup [(I 3),(S ⟨#[32,65,78,68,32]⟩)]) H)
 (Q (AV.tup [(I 4),(S ⟨#[]⟩)]) H))) :=
 Ev_eq.trans (by kernel_rfl)
def f157_j19 (x0:AV) (x3:List AV) (H:Heap) (Q:Post):Prop:=AtJ Pg Hs 157 [1,1] Q [(0,.val x0),(3,.lbox x3)] H
theorem f157_j19_eq (x0:AV) (x3:List AV) (H:Heap) (Q:Post):f157_j19 x0 x3 H Q =
 ob (nilA x0) fun r25 =>
 ob (addPA r25 0) fun r26 =>
 ob (partA false 1 1 x3) fun r27 =>
 ob (partA false 2 1 x3) fun r28 =>
 ob (mkSlA 1 [r27,(S ⟨#[61]⟩),r28]) fun r29 =>
 E 84 [r26,r29] H fun r30 H31 =>
 Q (AV.tup []) H31 :=
 (AtJ_eq Pg Hs 157 [1,1] Q _ H).trans (by kernel_rfl)
theorem f157_eq (a0 a1:AV) (H:Heap) (Q:Post):E 157 [a0,a1] H Q =
 ob (sizedA 6 a1) fun b1 =>
 ob (partA false 0 1 b1) fun r2 =>
 ob (binA Pg .eql 3 true r2 (I 6)) fun r3 =>
 cndA r3
 (ob (nilA a0) fun r4 =>
 ob (addPA r4 0) fun r5 =>
 ob (mkSlA 1 [(S ⟨#[78,79,84,32]⟩)]) fun r6 =>
 E 84 [r5,r6] H fun r7 H8 =>
 f157_j19 a0 b1 H8 Q)
 (ob (binA Pg .eql 3 true r2 (I 5)) fun r9 =>
 cndA r9
 (ob (nilA a0) fun r10 =>
 ob (addPA r10 0) fun r11 =>
 ob (mkSlA 1 [(S ⟨#[91]⟩)]) fun r12 =>
 E 84 [r11,r12] H fun r13 H14 =>
 ob (nilA a0) fun r15 =>
 ob (addPA r15 0) fun r16 =>
 ob (partA false 3 1 b1) fun r17 =>
 E 158 [r16,r17] H14 fun r18 H19 =>
 ob (nilA a0) fun r20 =>
 ob (addPA r20 0) fun r21 =>
 ob (mkSlA 1 [(S ⟨#[93,32]⟩)]) fun r22 =>
 E 84 [r21,r22] H19 fun r23 H24 =>
 f157_j19 a0 b1 H24 Q)
 (f157_j19 a0 b1 H Q)) :=
 Ev_eq.trans (by kernel_rfl)
theorem f158_eq (a0 a1:AV) (H:Heap) (Q:Post):E 158 [a0,a1] H Q =
 E 232 [a1] H fun r1 H2 =>
 ob (mkSlA 1 [r1]) fun r3 =>
 E 84 [a0,r3] H2 fun r4 H5 =>
 Q (AV.tup []) H5 :=
 Ev_eq.trans (by kernel_rfl)
def f159_l14 (x1:AV) (x2:AV) (x15:AV) (x16:AV) (x17:AV) (H:Heap) (Q:Post):Prop:=AtF Pg Hs 159 [1,1,0,1,0] Q [(1,.val x1),(2,.val x2),(15,.val x15),(16,.val x16),(17,.val x17)] H
theorem f159_l14_eq (x1:AV) (x2:AV) (x15:AV) (x16:AV) (x17:AV) (H:Heap) (Q:Post):f159_l14 x1 x2 x15 x16 x17 H Q =
 ob (binA Pg .lss 3 false x17 x16) fun r5 =>
 cndA r5
 (ob (ixaA 6 x15 x17) fun c6 =>
 ob (partA true 0 6 c6) fun r7 =>
 ob (sizedA 6 r7) fun b8 =>
 ob (spliceA 0 b8 [(I 0),(S ⟨#[]⟩),(S ⟨#[]⟩),(I 0),(I 0),(AV.sl 0 true .full [])]) fun b9 =>
 ob (ixaA 6 x1 x17) fun c10 =>
 ob (partA true 0 6 c10) fun r11 =>
 ob (sizedA 6 r11) fun b12 =>
 ob (spliceA 0 b12 [(I 0),(S ⟨#[]⟩),(S ⟨#[]⟩),(I 0),(I 0),(AV.sl 0 true .full [])]) fun b13 =>
 ob (partA true 0 6 b9) fun r14 =>
 ob (partA true 0 6 b13) fun r15 =>
 callA (Ev Pg Hs) x2 [r14,r15] H fun r16 H17 =>
 ob (unA .not r16) fun r18 =>
 cndA r18
 (Q (B false) H17)
 (ob (binA Pg .add 3 true x17 (I 1)) fun r19 =>
 f159_l14 x1 x2 x15 x16 r19 H17 Q))
 (Q (B true) H) :=
 (AtF_eq Pg Hs 159 [1,1,0,1,0] Q _ H).trans (by kernel_rfl)
theorem f159_eq (a0 a1 a2:AV) (H:Heap) (Q:Post):E 159 [a0,a1,a2] H Q =
 ob (lenA a0) fun r1 =>
 ob (lenA a1) fun r2 =>
 ob (binA Pg .neq 3 false r1 r2) fun r3 =>
 cndA r3
 (Q (B false) H)
 (ob (lenA a0) fun r4 =>
 f159_l14 a1 a2 a0 r4 (I 0) H Q) :=
 Ev_eq.trans (by kernel_rfl)
noncomputable def f160_L8 (y3:AV):LoopInfo:=loopF Pg Hs 160 [1,1,0,1,0] 8 [(3,.val y3)]
def f160_j12 (x3:AV) (H:Heap) (Q:Post):Prop:=AtJ Pg Hs 160 [1,1,1] Q [(3,.val x3)] H
theorem f160_j12_eq (x3:AV) (H:Heap) (Q:Post):f160_j12 x3 H Q =
 ob (ldH H false 1 x3) fun r13 =>
 Q r13 H :=
 (AtJ_eq Pg Hs 160 [1,1,1] Q _ H).trans (by kernel_rfl)
theorem f160_y8_eq (y3:AV) (l:Nat) (a0 a1:AV) (H:Heap) (Q:Post):EY Pg Hs (f160_L8 y3) l [a0,a1] H Q =
 beginA l H fun H14 =>
 ob (ldH H14 false 1 y3) fun r15 =>
 ob (binA Pg .add 3 true r15 (I 1)) fun r16 =>
 ob (stH H14 1 y3 r16) fun H17 =>
 endA l H17 true .ready Q:=by kernel_rfl
theorem f160_eq (a0:AV) (H:Heap) (Q:Post):E 160 [a0] H Q =
 ob (sizedA 7 a0) fun b1 =>
 newH H [(I 0)] fun r2 H3 =>
 ob (stH H3 1 r2 (I 0)) fun H4 =>
 ob (partA true 0 7 b1) fun r5 =>
 E 57 [r5] H4 fun r6 H7 =>
 aroundA none H7∧rngF (Ev Pg Hs) r6 (f160_L8 r2) H7 fun l8 H9 =>
 overA l8 H9 (fun H10 =>
 f160_j12 r2 H10 Q) (fun j H11 =>
 exA j 0 (f160_j12 r2 H11 Q) (False)) (fun H12 =>
 Q (I 0) H12) :=
 Ev_eq.trans (by kernel_rfl)
theorem f161_eq (a0:AV) (H:Heap) (Q:Post):E 161 [a0] H Q =
 ob (sizedA 7 a0) fun b1 =>
 ob (partA false 0 1 b1) fun r2 =>
 ob (binA Pg .eql 3 true r2 (I 16)) fun r3 =>
 Q r3 H :=
 Ev_eq.trans (by kernel_rfl)
def f162_j8 (x3:AV) (H:Heap) (Q:Post):Prop:=AtJ Pg Hs 162 [1,1,1,1] Q [(3,.val x3)] H
theorem f162_j8_eq (x3:AV) (H:Heap) (Q:Post):f162_j8 x3 H Q =
 Q x3 H :=
 (AtJ_eq Pg Hs 162 [1,1,1,1] Q _ H).trans (by kernel_rfl)
theorem f162_eq (a0 a1:AV) (H:Heap) (Q:Post):E 162 [a0,a1] H Q =
 ob (sizedA 4 a0) fun b1 =>
 ob (ldH H false 1 a1) fun r2 =>
 ob (partA false 0 1 b1) fun r3 =>
 ob (lookA H (B false) r2 r3 false) fun r4 =>
 ob (ldH H false 1 a1) fun r5 =>
 ob (partA false 0 1 b1) fun r6 =>
 updA H r5 r6 (B true) fun H7 =>
 cndA r4
 (f162_j8 (B true) H7 Q)
 (ob (partA true 0 4 b1) fun r8 =>
 E 163 [r8] H7 fun r9 H10 =>
 ob (unA .not r9) fun r11 =>
 f162_j8 r11 H10 Q) :=
 Ev_eq.trans (by kernel_rfl)
def f163_j5 (x1:List AV) (x12:AV) (H:Heap) (Q:Post):Prop:=AtJ Pg Hs 163 [1,0,1] Q [(1,.lbox x1),(12,.val x12)] H
def f163_j30 (x1:List AV) (x20:AV) (H:Heap) (Q:Post):Prop:=AtJ Pg Hs 163 [1,1,0,1,0,1,1,1] Q [(1,.lbox x1),(20,.val x20)] H
theorem f163_j5_eq (x1:List AV) (x12:AV) (H:Heap) (Q:Post):f163_j5 x1 x12 H Q =
 cndA x12
 (Q (B false) H)
 (ob (partA false 1 1 x1) fun r10 =>
 ob (binA Pg .eql 3 true r10 (I 3)) fun r11 =>
 cndA r11
 (ob (partA false 3 1 x1) fun r12 =>
 ob (binA Pg .eql 9 true r12 (S ⟨#[]⟩)) fun r13 =>
 Q r13 H)
 (ob (binA Pg .eql 3 true r10 (I 1)) fun r14 =>
 cndA r14
 (f163_j30 x1 r14 H Q)
 (ob (binA Pg .eql 3 true r10 (I 2)) fun r15 =>
 cndA r15
 (f163_j30 x1 r15 H Q)
 (ob (binA Pg .eql 3 true r10 (I 4)) fun r16 =>
 f163_j30 x1 r16 H Q)))) :=
 (AtJ_eq Pg Hs 163 [1,0,1] Q _ H).trans (by kernel_rfl)
theorem f163_j30_eq (x1:List AV) (x20:AV) (H:Heap) (Q:Post):f163_j30 x1 x20 H Q =
 cndA x20
 (ob (partA false 3 1 x1) fun r17 =>
 E 122 [r17] H fun r18 H19 =>
 Q r18 H19)
 (Q (B false) H) :=
 (AtJ_eq Pg Hs 163 [1,1,0,1,0,1,1,1] Q _ H).trans (by kernel_rfl)
theorem f163_eq (a0:AV) (H:Heap) (Q:Post):E 163 [a0] H Q =
 ob (sizedA 4 a0) fun b1 =>
 ob (partA false 0 1 b1) fun r2 =>
 E 122 [r2] H fun r3 H4 =>
 ob (unA .not r3) fun r5 =>
 cndA r5
 (f163_j5 b1 (B true) H4 Q)
 (ob (partA false 2 1 b1) fun r6 =>
 E 122 [r6] H4 fun r7 H8 =>
 ob (unA .not r7) fun r9 =>
 f163_j5 b1 r9 H8 Q) :=
 Ev_eq.trans (by kernel_rfl)
theorem f164_eq (a0 a1:AV) (H:Heap) (Q:Post):E 164 [a0,a1] H Q =
 E 233 [a0,a1] H fun r1 H2 =>
 ob (binA Pg .geq 3 true r1 (I 0)) fun r3 =>
 Q r3 H2 :=
 Ev_eq.trans (by kernel_rfl)
theorem f165_eq (a0:AV) (H:Heap) (Q:Post):E 165 [a0] H Q =
 ob (sizedA 6 a0) fun b1 =>
 newH H b1 fun r2 H3 =>
 Q (AV.fn (.func 234) [] [r2]) H3 :=
 Ev_eq.trans (by kernel_rfl)
def f166_j4 (x1:List AV) (x3:AV) (H:Heap) (Q:Post):Prop:=AtJ Pg Hs 166 [1,1] Q [(1,.lbox x1),(3,.val x3)] H
def f166_j14 (x1:List AV) (x3:AV) (x20:AV) (x21:AV) (H:Heap) (Q:Post):Prop:=AtJ Pg Hs 166 [1,1,0,1,0,1] Q [(1,.lbox x1),(3,.val x3),(20,.val x20),(21,.val x21)] H
def f166_j17 (x2:AV) (H:Heap) (Q:Post):Prop:=AtJ Pg Hs 166 [1,1,0,1,0,1,0,1] Q [(2,.val x2)] H
def f166_j23 (x2:AV) (H:Heap) (Q:Post):Prop:=AtJ Pg Hs 166 [1,1,0,1,0,1,1,1,0,1] Q [(2,.val x2)] H
def f166_j34 (x1:List AV) (x45:AV) (H:Heap) (Q:Post):Prop:=AtJ Pg Hs 166 [1,1,0,1,0,1,1,1,1,1] Q [(1,.lbox x1),(45,.val x45)] H
def f166_c12_9a (x1:AV) (x4:AV) (x58:AV) (H:Heap) (Q:Post):Prop:=AtJ Pg Hs 166 [1,1,0,1,0,1,1,1,1,1,0,1,0,9] Q [(1,.val x1),(4,.val x4),(58,.val x58)] H
def f166_c12_9b (x1:AV) (x4:AV) (H:Heap) (Q:Post):Prop:=AtJ Pg Hs 166 [1,1,0,1,0,1,1,1,1,1,0,1,0,9] Q [(1,.val x1),(4,.val x4),(58,.val (B false))] H
def f166_c12_14a (x1:AV) (x4:AV) (x63:AV) (H:Heap) (Q:Post):Prop:=AtJ Pg Hs 166 [1,1,0,1,0,1,1,1,1,1,0,1,0,14] Q [(1,.val x1),(4,.val x4),(63,.val x63)] H
def f166_c12_14b (x1:AV) (x4:AV) (H:Heap) (Q:Post):Prop:=AtJ Pg Hs 166 [1,1,0,1,0,1,1,1,1,1,0,1,0,14] Q [(1,.val x1),(4,.val x4),(63,.val (B false))] H
def f166_c12_19a (x1:AV) (x4:AV) (x68:AV) (H:Heap) (Q:Post):Prop:=AtJ Pg Hs 166 [1,1,0,1,0,1,1,1,1,1,0,1,0,19] Q [(1,.val x1),(4,.val x4),(68,.val x68)] H
def f166_c12_19b (x1:AV) (x4:AV) (H:Heap) (Q:Post):Prop:=AtJ Pg Hs 166 [1,1,0,1,0,1,1,1,1,1,0,1,0,19] Q [(1,.val x1),(4,.val x4),(68,.val (B false))] H
def f166_c12_24a (x1:AV) (x4:AV) (x73:AV) (H:Heap) (Q:Post):Prop:=AtJ Pg Hs 166 [1,1,0,1,0,1,1,1,1,1,0,1,0,24] Q [(1,.val x1),(4,.val x4),(73,.val x73)] H
def f166_c12_24b (x1:AV) (x4:AV) (H:Heap) (Q:Post):Prop:=AtJ Pg Hs 166 [1,1,0,1,0,1,1,1,1,1,0,1,0,24] Q [(1,.val x1),(4,.val x4),(73,.val (B false))] H
def f166_c12_31a (x80:AV) (H:Heap) (Q:Post):Prop:=AtJ Pg Hs 166 [1,1,0,1,0,1,1,1,1,1,0,1,0,31] Q [(80,.val x80)] H
def f166_c12_31b (H:Heap) (Q:Post):Prop:=AtJ Pg Hs 166 [1,1,0,1,0,1,1,1,1,1,0,1,0,31] Q [(80,.val (B false))] H
def f166_j39 (x2:AV) (H:Heap) (Q:Post):Prop:=AtJ Pg Hs 166 [1,1,0,1,0,1,1,1,1,1,0,1,1] Q [(2,.val x2)] H
theorem f166_j4_eq (x1:List AV) (x3:AV) (H:Heap) (Q:Post):f166_j4 x1 x3 H Q =
 ob (partA false 0 1 x1) fun r11 =>
 ob (binA Pg .eql 3 true r11 (I 1)) fun r12 =>
 cndA r12
 (f166_j14 x1 x3 r11 r12 H Q)
 (ob (binA Pg .eql 3 true r11 (I 6)) fun r13 =>
 f166_j14 x1 x3 r11 r13 H Q) :=
 (AtJ_eq Pg Hs 166 [1,1] Q _ H).trans (by kernel_rfl)
theorem f166_j14_eq (x1:List AV) (x3:AV) (x20:AV) (x21:AV) (H:Heap) (Q:Post):f166_j14 x1 x3 x20 x21 H Q =
 cndA x21
 (cndA x3
 (ob (partA false 3 1 x1) fun r14 =>
 ob (binA Pg .eql 3 true r14 (I 0)) fun r15 =>
 cndA r15
 (ob (partA false 4 1 x1) fun r16 =>
 ob (binA Pg .eql 3 true r16 (I 0)) fun r17 =>
 f166_j17 r17 H Q)
 (f166_j17 (B false) H Q))
 (f166_j17 (B false) H Q))
 (ob (binA Pg .eql 3 true x20 (I 5)) fun r18 =>
 cndA r18
 (cndA x3
 (ob (partA false 3 1 x1) fun r19 =>
 ob (partA false 4 1 x1) fun r20 =>
 E 236 [r19,r20] H fun r21 H22 =>
 f166_j23 r21 H22 Q)
 (f166_j23 (B false) H Q))
 (ob (binA Pg .eql 3 true x20 (I 2)) fun r23 =>
 cndA r23
 (f166_j34 x1 r23 H Q)
 (ob (binA Pg .eql 3 true x20 (I 3)) fun r24 =>
 cndA r24
 (f166_j34 x1 r24 H Q)
 (ob (binA Pg .eql 3 true x20 (I 4)) fun r25 =>
 f166_j34 x1 r25 H Q)))) :=
 (AtJ_eq Pg Hs 166 [1,1,0,1,0,1] Q _ H).trans (by kernel_rfl)
theorem f166_j17_eq (x2:AV) (H:Heap) (Q:Post):f166_j17 x2 H Q =
 Q x2 H :=
 (AtJ_eq Pg Hs 166 [1,1,0,1,0,1,0,1] Q _ H).trans (by kernel_rfl)
theorem f166_j23_eq (x2:AV) (H:Heap) (Q:Post):f166_j23 x2 H Q =
 Q x2 H :=
 (AtJ_eq Pg Hs 166 [1,1,0,1,0,1,1,1,0,1] Q _ H).trans (by kernel_rfl)
theorem f166_j34_eq (x1:List AV) (x45:AV) (H:Heap) (Q:Post):f166_j34 x1 x45 H Q =
 cndA x45
 (newH H x1 fun r26 H27 =>
 ob (addPA r26 5) fun r28 =>
 ob (ldH H27 false 1 r28) fun r29 =>
 ob (lenA r29) fun r30 =>
 ob (binA Pg .geq 3 true r30 (I 2)) fun r31 =>
 cndA r31
 (ob (addPA r26 1) fun r32 =>
 ob (ldH H27 false 1 r32) fun r33 =>
 ob (binA Pg .eql 9 true r33 (S ⟨#[]⟩)) fun r34 =>
 f166_c12_9a r26 (AV.fn (.func 237) [] [r26]) r34 H27 Q)
 (f166_c12_9b r26 (AV.fn (.func 237) [] [r26]) H27 Q))
 (Q (B false) H) :=
 (AtJ_eq Pg Hs 166 [1,1,0,1,0,1,1,1,1,1] Q _ H).trans (by kernel_rfl)
theorem f166_c12_9a_eq (x1:AV) (x4:AV) (x58:AV) (H:Heap) (Q:Post):f166_c12_9a x1 x4 x58 H Q =
 cndA x58
 (ob (addPA x1 2) fun r35 =>
 ob (ldH H false 1 r35) fun r36 =>
 ob (binA Pg .eql 9 true r36 (S ⟨#[]⟩)) fun r37 =>
 f166_c12_14a x1 x4 r37 H Q)
 (f166_c12_14b x1 x4 H Q) :=
 (AtJ_eq Pg Hs 166 [1,1,0,1,0,1,1,1,1,1,0,1,0,9] Q _ H).trans (by kernel_rfl)
theorem f166_c12_9b_eq (x1:AV) (x4:AV) (H:Heap) (Q:Post):f166_c12_9b x1 x4 H Q =
 f166_c12_14b x1 x4 H Q :=
 (AtJ_eq Pg Hs 166 [1,1,0,1,0,1,1,1,1,1,0,1,0,9] Q _ H).trans (by kernel_rfl)
theorem f166_c12_14a_eq (x1:AV) (x4:AV) (x63:AV) (H:Heap) (Q:Post):f166_c12_14a x1 x4 x63 H Q =
 cndA x63
 (ob (addPA x1 3) fun r38 =>
 ob (ldH H false 1 r38) fun r39 =>
 ob (binA Pg .eql 3 true r39 (I 0)) fun r40 =>
 f166_c12_19a x1 x4 r40 H Q)
 (f166_c12_19b x1 x4 H Q) :=
 (AtJ_eq Pg Hs 166 [1,1,0,1,0,1,1,1,1,1,0,1,0,14] Q _ H).trans (by kernel_rfl)
theorem f166_c12_14b_eq (x1:AV) (x4:AV) (H:Heap) (Q:Post):f166_c12_14b x1 x4 H Q =
 f166_c12_19b x1 x4 H Q :=
 (AtJ_eq Pg Hs 166 [1,1,0,1,0,1,1,1,1,1,0,1,0,14] Q _ H).trans (by kernel_rfl)
theorem f166_c12_19a_eq (x1:AV) (x4:AV) (x68:AV) (H:Heap) (Q:Post):f166_c12_19a x1 x4 x68 H Q =
 cndA x68
 (ob (addPA x1 4) fun r41 =>
 ob (ldH H false 1 r41) fun r42 =>
 ob (binA Pg .eql 3 true r42 (I 0)) fun r43 =>
 f166_c12_24a x1 x4 r43 H Q)
 (f166_c12_24b x1 x4 H Q) :=
 (AtJ_eq Pg Hs 166 [1,1,0,1,0,1,1,1,1,1,0,1,0,19] Q _ H).trans (by kernel_rfl)
theorem f166_c12_19b_eq (x1:AV) (x4:AV) (H:Heap) (Q:Post):f166_c12_19b x1 x4 H Q =
 f166_c12_24b x1 x4 H Q :=
 (AtJ_eq Pg Hs 166 [1,1,0,1,0,1,1,1,1,1,0,1,0,19] Q _ H).trans (by kernel_rfl)
theorem f166_c12_24a_eq (x1:AV) (x4:AV) (x73:AV) (H:Heap) (Q:Post):f166_c12_24a x1 x4 x73 H Q =
 cndA x73
 (ob (addPA x1 5) fun r44 =>
 ob (ldH H false 1 r44) fun r45 =>
 E 169 [r45,x4] H fun r46 H47 =>
 ob (unA .not r46) fun r48 =>
 f166_c12_31a r48 H47 Q)
 (f166_c12_31b H Q) :=
 (AtJ_eq Pg Hs 166 [1,1,0,1,0,1,1,1,1,1,0,1,0,24] Q _ H).trans (by kernel_rfl)
theorem f166_c12_24b_eq (x1:AV) (x4:AV) (H:Heap) (Q:Post):f166_c12_24b x1 x4 H Q =
 f166_c12_31b H Q :=
 (AtJ_eq Pg Hs 166 [1,1,0,1,0,1,1,1,1,1,0,1,0,24] Q _ H).trans (by kernel_rfl)
theorem f166_c12_31a_eq (x80:AV) (H:Heap) (Q:Post):f166_c12_31a x80 H Q =
 f166_j39 x80 H Q :=
 (AtJ_eq Pg Hs 166 [1,1,0,1,0,1,1,1,1,1,0,1,0,31] Q _ H).trans (by kernel_rfl)
theorem f166_c12_31b_eq (H:Heap) (Q:Post):f166_c12_31b H Q =
 f166_j39 (B false) H Q :=
 (AtJ_eq Pg Hs 166 [1,1,0,1,0,1,1,1,1,1,0,1,0,31] Q _ H).trans (by kernel_rfl)
theorem f166_j39_eq (x2:AV) (H:Heap) (Q:Post):f166_j39 x2 H Q =
 Q x2 H :=
 (AtJ_eq Pg Hs 166 [1,1,0,1,0,1,1,1,1,1,0,1,1] Q _ H).trans (by kernel_rfl)
theorem f166_eq (a0:AV) (H:Heap) (Q:Post):E 166 [a0] H Q =
 ob (sizedA 6 a0) fun b1 =>
 ob (partA false 5 1 b1) fun r2 =>
 ob (lenA r2) fun r3 =>
 ob (binA Pg .eql 3 true r3 (I 0)) fun r4 =>
 cndA r4
 (ob (partA false 1 1 b1) fun r5 =>
 E 122 [r5] H fun r6 H7 =>
 cndA r6
 (ob (partA false 2 1 b1) fun r8 =>
 E 122 [r8] H7 fun r9 H10 =>
 f166_j4 b1 r9 H10 Q)
 (f166_j4 b1 (B false) H7 Q))
 (f166_j4 b1 (B false) H Q) :=
 Ev_eq.trans (by kernel_rfl)
def f167_l16 (x1:List AV) (x4:AV) (x19:AV) (x20:AV) (x21:AV) (H:Heap) (Q:Post):Prop:=AtF Pg Hs 167 [1,1,1,0,1,0] Q [(1,.lbox x1),(4,.val x4),(19,.val x19),(20,.val x20),(21,.val x21)] H
def f167_j31 (x1:List AV) (x4:AV) (x19:AV) (x20:AV) (x21:AV) (x39:AV) (H:Heap) (Q:Post):Prop:=AtJ Pg Hs 167 [1,1,1,0,1,0,0,1,1,0,0,1,1,1] Q [(1,.lbox x1),(4,.val x4),(19,.val x19),(20,.val x20),(21,.val x21),(39,.val x39)] H
theorem f167_l16_eq (x1:List AV) (x4:AV) (x19:AV) (x20:AV) (x21:AV) (H:Heap) (Q:Post):f167_l16 x1 x4 x19 x20 x21 H Q =
 ob (binA Pg .lss 3 false x21 x20) fun r14 =>
 cndA r14
 (ob (ixaA 6 x19 x21) fun c15 =>
 ob (partA true 0 6 c15) fun r16 =>
 ob (sizedA 6 r16) fun b17 =>
 ob (spliceA 0 b17 [(I 0),(S ⟨#[]⟩),(S ⟨#[]⟩),(I 0),(I 0),(AV.sl 0 true .full [])]) fun b18 =>
 ob (partA true 0 6 b18) fun r19 =>
 E 167 [r19] H fun r20 H21 =>
 ob (extractA r20 0) fun r22 =>
 ob (extractA r20 1) fun r23 =>
 ob (unA .not r23) fun r24 =>
 cndA r24
 (f167_j31 x1 x4 x19 x20 x21 (B true) H21 Q)
 (ob (partA false 0 1 x1) fun r25 =>
 E 239 [x4,r25,r22] H21 fun r26 H27 =>
 ob (unA .not r26) fun r28 =>
 f167_j31 x1 x4 x19 x20 x21 r28 H27 Q))
 (Q (AV.tup [x4,(B true)]) H) :=
 (AtF_eq Pg Hs 167 [1,1,1,0,1,0] Q _ H).trans (by kernel_rfl)
theorem f167_j31_eq (x1:List AV) (x4:AV) (x19:AV) (x20:AV) (x21:AV) (x39:AV) (H:Heap) (Q:Post):f167_j31 x1 x4 x19 x20 x21 x39 H Q =
 cndA x39
 (Q (AV.tup [(AV.raw (.map none)),(B false)]) H)
 (ob (binA Pg .add 3 true x21 (I 1)) fun r29 =>
 f167_l16 x1 x4 x19 x20 r29 H Q) :=
 (AtJ_eq Pg Hs 167 [1,1,1,0,1,0,0,1,1,0,0,1,1,1] Q _ H).trans (by kernel_rfl)
theorem f167_eq (a0:AV) (H:Heap) (Q:Post):E 167 [a0] H Q =
 ob (sizedA 6 a0) fun b1 =>
 ob (partA false 0 1 b1) fun r2 =>
 E 238 [r2] H fun r3 H4 =>
 cndA r3
 (mkMapA H4 fun r5 H6 =>
 ob (partA false 1 1 b1) fun r7 =>
 ob (partA true 0 6 b1) fun r8 =>
 updA H6 r5 r7 r8 fun H9 =>
 Q (AV.tup [r5,(B true)]) H9)
 (mkMapA H4 fun r10 H11 =>
 ob (partA false 5 1 b1) fun r12 =>
 ob (lenA r12) fun r13 =>
 f167_l16 b1 r10 r12 r13 (I 0) H11 Q) :=
 Ev_eq.trans (by kernel_rfl)
def f168_l6 (x1:AV) (x2:List AV) (x9:AV) (x10:AV) (x11:AV) (H:Heap) (Q:Post):Prop:=AtF Pg Hs 168 [1,0,1,0] Q [(1,.val x1),(2,.lbox x2),(9,.val x9),(10,.val x10),(11,.val x11)] H
def f168_c8_7a (x1:AV) (x2:List AV) (x5:AV) (x6:List AV) (x7:AV) (x9:AV) (x10:AV) (x11:AV) (H:Heap) (Q:Post):Prop:=AtJ Pg Hs 168 [1,0,1,0,0,1,1,0,0,1,1,1,0,7] Q [(1,.val x1),(2,.lbox x2),(5,.val x5),(6,.lbox x6),(7,.val x7),(9,.val x9),(10,.val x10),(11,.val x11),(34,.val (B true))] H
def f168_c8_7b (x1:AV) (x2:List AV) (x5:AV) (x6:List AV) (x7:AV) (x9:AV) (x10:AV) (x11:AV) (x34:AV) (H:Heap) (Q:Post):Prop:=AtJ Pg Hs 168 [1,0,1,0,0,1,1,0,0,1,1,1,0,7] Q [(1,.val x1),(2,.lbox x2),(5,.val x5),(6,.lbox x6),(7,.val x7),(9,.val x9),(10,.val x10),(11,.val x11),(34,.val x34)] H
def f168_c8_17a (x1:AV) (x2:List AV) (x6:List AV) (x7:AV) (x9:AV) (x10:AV) (x11:AV) (H:Heap) (Q:Post):Prop:=AtJ Pg Hs 168 [1,0,1,0,0,1,1,0,0,1,1,1,0,17] Q [(1,.val x1),(2,.lbox x2),(6,.lbox x6),(7,.val x7),(9,.val x9),(10,.val x10),(11,.val x11),(44,.val (B true))] H
def f168_c8_17b (x1:AV) (x2:List AV) (x6:List AV) (x7:AV) (x9:AV) (x10:AV) (x11:AV) (x44:AV) (H:Heap) (Q:Post):Prop:=AtJ Pg Hs 168 [1,0,1,0,0,1,1,0,0,1,1,1,0,17] Q [(1,.val x1),(2,.lbox x2),(6,.lbox x6),(7,.val x7),(9,.val x9),(10,.val x10),(11,.val x11),(44,.val x44)] H
def f168_c8_23a (x1:AV) (x2:List AV) (x6:List AV) (x9:AV) (x10:AV) (x11:AV) (H:Heap) (Q:Post):Prop:=AtJ Pg Hs 168 [1,0,1,0,0,1,1,0,0,1,1,1,0,23] Q [(1,.val x1),(2,.lbox x2),(6,.lbox x6),(9,.val x9),(10,.val x10),(11,.val x11),(45,.val (B true)),(50,.nov)] H
def f168_c8_23b (x1:AV) (x2:List AV) (x6:List AV) (x9:AV) (x10:AV) (x11:AV) (x50:AV) (H:Heap) (Q:Post):Prop:=AtJ Pg Hs 168 [1,0,1,0,0,1,1,0,0,1,1,1,0,23] Q [(1,.val x1),(2,.lbox x2),(6,.lbox x6),(9,.val x9),(10,.val x10),(11,.val x11),(45,.val (B false)),(50,.val x50)] H
def f168_c8_23c (x1:AV) (x2:List AV) (x6:List AV) (x9:AV) (x10:AV) (x11:AV) (H:Heap) (Q:Post):Prop:=AtJ Pg Hs 168 [1,0,1,0,0,1,1,0,0,1,1,1,0,23] Q [(1,.val x1),(2,.lbox x2),(6,.lbox x6),(9,.val x9),(10,.val x10),(11,.val x11),(45,.val (B false)),(50,.val (B false))] H
def f168_j35 (x1:AV) (x2:List AV) (x9:AV) (x10:AV) (x11:AV) (x51:AV) (H:Heap) (Q:Post):Prop:=AtJ Pg Hs 168 [1,0,1,0,0,1,1,0,0,1,1,1,1] Q [(1,.val x1),(2,.lbox x2),(9,.val x9),(10,.val x10),(11,.val x11),(51,.val x51)] H
theorem f168_l6_eq (x1:AV) (x2:List AV) (x9:AV) (x10:AV) (x11:AV) (H:Heap) (Q:Post):f168_l6 x1 x2 x9 x10 x11 H Q =
 ob (binA Pg .lss 3 false x11 x10) fun r4 =>
 cndA r4
 (ob (ixaA 6 x9 x11) fun c5 =>
 ob (partA true 0 6 c5) fun r6 =>
 ob (sizedA 6 r6) fun b7 =>
 ob (spliceA 0 b7 [(I 0),(S ⟨#[]⟩),(S ⟨#[]⟩),(I 0),(I 0),(AV.sl 0 true .full [])]) fun b8 =>
 ob (partA false 0 1 b8) fun r9 =>
 ob (binA Pg .neq 3 true r9 (I 6)) fun r10 =>
 cndA r10
 (ob (partA true 0 6 b8) fun r11 =>
 E 168 [r11,(B false)] H fun r12 H13 =>
 ob (unA .not r12) fun r14 =>
 cndA r14
 (Q (B false) H13)
 (ob (binA Pg .add 3 true x11 (I 1)) fun r15 =>
 f168_l6 x1 x2 x9 x10 r15 H13 Q))
 (ob (partA false 5 1 x2) fun r16 =>
 ob (lenA r16) fun r17 =>
 ob (binA Pg .sub 3 true r17 (I 1)) fun r18 =>
 ob (binA Pg .eql 3 false x11 r18) fun r19 =>
 ob (partA false 0 1 x2) fun r20 =>
 ob (binA Pg .neq 3 true r20 (I 2)) fun r21 =>
 cndA r21
 (f168_c8_7a x1 x2 x11 b8 r19 x9 x10 x11 H Q)
 (ob (binA Pg .eql 3 true x11 (I 0)) fun r22 =>
 f168_c8_7b x1 x2 x11 b8 r19 x9 x10 x11 r22 H Q)))
 (Q (B true) H) :=
 (AtF_eq Pg Hs 168 [1,0,1,0] Q _ H).trans (by kernel_rfl)
theorem f168_c8_7a_eq (x1:AV) (x2:List AV) (x5:AV) (x6:List AV) (x7:AV) (x9:AV) (x10:AV) (x11:AV) (H:Heap) (Q:Post):f168_c8_7a x1 x2 x5 x6 x7 x9 x10 x11 H Q =
 f168_c8_17a x1 x2 x6 x7 x9 x10 x11 H Q :=
 (AtJ_eq Pg Hs 168 [1,0,1,0,0,1,1,0,0,1,1,1,0,7] Q _ H).trans (by kernel_rfl)
theorem f168_c8_7b_eq (x1:AV) (x2:List AV) (x5:AV) (x6:List AV) (x7:AV) (x9:AV) (x10:AV) (x11:AV) (x34:AV) (H:Heap) (Q:Post):f168_c8_7b x1 x2 x5 x6 x7 x9 x10 x11 x34 H Q =
 cndA x34
 (f168_c8_17a x1 x2 x6 x7 x9 x10 x11 H Q)
 (ob (partA false 5 1 x2) fun r23 =>
 ob (binA Pg .sub 3 true x5 (I 1)) fun r24 =>
 ob (ixaA 6 r23 r24) fun c25 =>
 ob (partA false 0 1 (c25.drop 0)) fun r26 =>
 ob (binA Pg .eql 3 true r26 (I 6)) fun r27 =>
 f168_c8_17b x1 x2 x6 x7 x9 x10 x11 r27 H Q) :=
 (AtJ_eq Pg Hs 168 [1,0,1,0,0,1,1,0,0,1,1,1,0,7] Q _ H).trans (by kernel_rfl)
theorem f168_c8_17a_eq (x1:AV) (x2:List AV) (x6:List AV) (x7:AV) (x9:AV) (x10:AV) (x11:AV) (H:Heap) (Q:Post):f168_c8_17a x1 x2 x6 x7 x9 x10 x11 H Q =
 f168_c8_23a x1 x2 x6 x9 x10 x11 H Q :=
 (AtJ_eq Pg Hs 168 [1,0,1,0,0,1,1,0,0,1,1,1,0,17] Q _ H).trans (by kernel_rfl)
theorem f168_c8_17b_eq (x1:AV) (x2:List AV) (x6:List AV) (x7:AV) (x9:AV) (x10:AV) (x11:AV) (x44:AV) (H:Heap) (Q:Post):f168_c8_17b x1 x2 x6 x7 x9 x10 x11 x44 H Q =
 cndA x44
 (f168_c8_23a x1 x2 x6 x9 x10 x11 H Q)
 (cndA x7
 (ob (unA .not x1) fun r28 =>
 f168_c8_23b x1 x2 x6 x9 x10 x11 r28 H Q)
 (f168_c8_23c x1 x2 x6 x9 x10 x11 H Q)) :=
 (AtJ_eq Pg Hs 168 [1,0,1,0,0,1,1,0,0,1,1,1,0,17] Q _ H).trans (by kernel_rfl)
theorem f168_c8_23a_eq (x1:AV) (x2:List AV) (x6:List AV) (x9:AV) (x10:AV) (x11:AV) (H:Heap) (Q:Post):f168_c8_23a x1 x2 x6 x9 x10 x11 H Q =
 f168_j35 x1 x2 x9 x10 x11 (B true) H Q :=
 (AtJ_eq Pg Hs 168 [1,0,1,0,0,1,1,0,0,1,1,1,0,23] Q _ H).trans (by kernel_rfl)
theorem f168_c8_23b_eq (x1:AV) (x2:List AV) (x6:List AV) (x9:AV) (x10:AV) (x11:AV) (x50:AV) (H:Heap) (Q:Post):f168_c8_23b x1 x2 x6 x9 x10 x11 x50 H Q =
 f168_j35 x1 x2 x9 x10 x11 x50 H Q :=
 (AtJ_eq Pg Hs 168 [1,0,1,0,0,1,1,0,0,1,1,1,0,23] Q _ H).trans (by kernel_rfl)
theorem f168_c8_23c_eq (x1:AV) (x2:List AV) (x6:List AV) (x9:AV) (x10:AV) (x11:AV) (H:Heap) (Q:Post):f168_c8_23c x1 x2 x6 x9 x10 x11 H Q =
 f168_j35 x1 x2 x9 x10 x11 (B false) H Q :=
 (AtJ_eq Pg Hs 168 [1,0,1,0,0,1,1,0,0,1,1,1,0,23] Q _ H).trans (by kernel_rfl)
theorem f168_j35_eq (x1:AV) (x2:List AV) (x9:AV) (x10:AV) (x11:AV) (x51:AV) (H:Heap) (Q:Post):f168_j35 x1 x2 x9 x10 x11 x51 H Q =
 cndA x51
 (Q (B false) H)
 (ob (binA Pg .add 3 true x11 (I 1)) fun r29 =>
 f168_l6 x1 x2 x9 x10 r29 H Q) :=
 (AtJ_eq Pg Hs 168 [1,0,1,0,0,1,1,0,0,1,1,1,1] Q _ H).trans (by kernel_rfl)
theorem f168_eq (a0 a1:AV) (H:Heap) (Q:Post):E 168 [a0,a1] H Q =
 ob (sizedA 6 a0) fun b1 =>
 ob (partA false 5 1 b1) fun r2 =>
 ob (lenA r2) fun r3 =>
 f168_l6 a1 b1 r2 r3 (I 0) H Q :=
 Ev_eq.trans (by kernel_rfl)
theorem f169_eq (a0 a1:AV) (H:Heap) (Q:Post):E 169 [a0,a1] H Q =
 E 240 [a0,a1] H fun r1 H2 =>
 ob (binA Pg .geq 3 true r1 (I 0)) fun r3 =>
 Q r3 H2 :=
 Ev_eq.trans (by kernel_rfl)
theorem f207_eq (a0 a1:AV) (H:Heap) (Q:Post):E 207 [a0,a1] H Q =
 ob (sizedA 1 a0) fun b1 =>
 ob (partA false 0 1 b1) fun r2 =>
 E 150 [r2] H fun r3 H4 =>
 ob (partA false 0 1 b1) fun r5 =>
 E 208 [r5,(S ⟨#[61]⟩)] H4 fun r6 H7 =>
 ob (partA false 0 1 b1) fun r8 =>
 E 150 [r8] H7 fun r9 H10 =>
 ob (bldA [(0,1,a1),(1,1,r3),(2,1,r9)] [(I 0),(S ⟨#[]⟩),(S ⟨#[]⟩),(I 0),(I 0),(AV.sl 0 true .full [])]) fun r11 =>
 ob (sizedA 6 r11) fun b12 =>
 ob (spliceA 0 b12 [(I 0),(S ⟨#[]⟩),(S ⟨#[]⟩),(I 0),(I 0),(AV.sl 0 true .full [])]) fun b13 =>
 ob (partA true 0 6 b13) fun r14 =>
 Q r14 H10 :=
 Ev_eq.trans (by kernel_rfl)
def f208_j4 (x4:AV) (H:Heap) (Q:Post):Prop:=AtJ Pg Hs 208 [1,1] Q [(4,.val x4)] H
theorem f208_j4_eq (x4:AV) (H:Heap) (Q:Post):f208_j4 x4 H Q =
 Q x4 H :=
 (AtJ_eq Pg Hs 208 [1,1] Q _ H).trans (by kernel_rfl)
theorem f208_eq (a0 a1:AV) (H:Heap) (Q:Post):E 208 [a0,a1] H Q =
 E 128 [a0] H fun r1 H2 =>
 cndA r1
 (ob (nilA a0) fun r3 =>
 ob (addPA r3 0) fun r4 =>
 ob (ldH H2 false 1 r4) fun r5 =>
 E 228 [r5,a1] H2 fun r6 H7 =>
 E 129 [a0,r6] H7 fun r8 H9 =>
 f208_j4 r8 H9 Q)
 (f208_j4 (B false) H2 Q) :=
 Ev_eq.trans (by kernel_rfl)
def f209_j6 (x6:AV) (H:Heap) (Q:Post):Prop:=AtJ Pg Hs 209 [1,1,1] Q [(6,.val x6)] H
theorem f209_j6_eq (x6:AV) (H:Heap) (Q:Post):f209_j6 x6 H Q =
 Q x6 H :=
 (AtJ_eq Pg Hs 209 [1,1,1] Q _ H).trans (by kernel_rfl)
theorem f209_eq (a0 a1 a2:AV) (H:Heap) (Q:Post):E 209 [a0,a1,a2] H Q =
 ob (nilA a0) fun r1 =>
 ob (addPA r1 0) fun r2 =>
 ob (ldH H false 1 r2) fun r3 =>
 E 44 [r3] H fun r4 H5 =>
 ob (sizedA 3 r4) fun b6 =>
 ob (spliceA 0 b6 [(I 0),(S ⟨#[]⟩),(I 0)]) fun b7 =>
 E 128 [a0] H5 fun r8 H9 =>
 cndA r8
 (ob (partA false 0 1 b7) fun r10 =>
 ob (binA Pg .eql 3 false r10 a1) fun r11 =>
 cndA r11
 (ob (partA false 1 1 b7) fun r12 =>
 ob (binA Pg .eql 9 false r12 a2) fun r13 =>
 f209_j6 r13 H9 Q)
 (f209_j6 (B false) H9 Q))
 (f209_j6 (B false) H9 Q) :=
 Ev_eq.trans (by kernel_rfl)
def f210_j5 (x0:AV) (x11:AV) (H:Heap) (Q:Post):Prop:=AtJ Pg Hs 210 [1,0,1] Q [(0,.val x0),(11,.val x11)] H
theorem f210_j5_eq (x0:AV) (x11:AV) (H:Heap) (Q:Post):f210_j5 x0 x11 H Q =
 cndA x11
 (ob (nilA x0) fun r7 =>
 ob (addPA r7 0) fun r8 =>
 ob (ldH H false 1 r8) fun r9 =>
 E 21 [r9] H fun r10 H11 =>
 E 135 [x0,(I 2),r10] H11 fun r12 H13 =>
 E 208 [x0,(S ⟨#[40]⟩)] H13 fun r14 H15 =>
 ob (unA .not r14) fun r16 =>
 cndA r16
 (Q (B false) H15)
 (ob (nilA x0) fun r17 =>
 ob (addPA r17 1) fun r18 =>
 ob (ldH H15 false 1 r18) fun r19 =>
 ob (binA Pg .add 3 true r19 (I 1)) fun r20 =>
 ob (nilA x0) fun r21 =>
 ob (addPA r21 1) fun r22 =>
 ob (stH H15 1 r22 r20) fun H23 =>
 Q (B true) H23))
 (E 208 [x0,(S ⟨#[40]⟩)] H fun r24 H25 =>
 ob (unA .not r24) fun r26 =>
 cndA r26
 (Q (B false) H25)
 (ob (nilA x0) fun r27 =>
 ob (addPA r27 1) fun r28 =>
 ob (ldH H25 false 1 r28) fun r29 =>
 ob (binA Pg .add 3 true r29 (I 1)) fun r30 =>
 ob (nilA x0) fun r31 =>
 ob (addPA r31 1) fun r32 =>
 ob (stH H25 1 r32 r30) fun H33 =>
 Q (B true) H33)) :=
 (AtJ_eq Pg Hs 210 [1,0,1] Q _ H).trans (by kernel_rfl)
theorem f210_eq (a0:AV) (H:Heap) (Q:Post):E 210 [a0] H Q =
 E 209 [a0,(I 5),(S ⟨#[40]⟩)] H fun r1 H2 =>
 cndA r1
 (ob (nilA a0) fun r3 =>
 ob (addPA r3 1) fun r4 =>
 ob (ldH H2 false 1 r4) fun r5 =>
 ob (binA Pg .geq 3 true r5 (I 64)) fun r6 =>
 f210_j5 a0 r6 H2 Q)
 (f210_j5 a0 (B false) H2 Q) :=
 Ev_eq.trans (by kernel_rfl)
theorem f211_eq (a0:AV) (H:Heap) (Q:Post):E 211 [a0] H Q =
 E 208 [a0,(S ⟨#[41]⟩)] H fun r1 H2 =>
 cndA r1
 (ob (nilA a0) fun r3 =>
 ob (addPA r3 1) fun r4 =>
 ob (ldH H2 false 1 r4) fun r5 =>
 ob (binA Pg .sub 3 true r5 (I 1)) fun r6 =>
 ob (nilA a0) fun r7 =>
 ob (addPA r7 1) fun r8 =>
 ob (stH H2 1 r8 r6) fun H9 =>
 Q (AV.tup []) H9)
 (Q (AV.tup []) H2) :=
 Ev_eq.trans (by kernel_rfl)
theorem f212_eq (a0 a1:AV) (H:Heap) (Q:Post):E 212 [a0,a1] H Q =
 ob (ldH H false 1 a0) fun r1 =>
 ob (binA Pg .eql 3 true r1 (I 1)) fun r2 =>
 cndA r2
 (ob (addPA a1 0) fun r3 =>
 ob (ldH H false 1 r3) fun r4 =>
 E 149 [r4,(S ⟨#[45,62]⟩)] H fun r5 H6 =>
 Q r5 H6)
 (ob (binA Pg .eql 3 true r1 (I 2)) fun r7 =>
 cndA r7
 (ob (addPA a1 0) fun r8 =>
 ob (ldH H false 1 r8) fun r9 =>
 E 76 [r9,(S ⟨#[79,82]⟩)] H fun r10 H11 =>
 Q r10 H11)
 (ob (addPA a1 0) fun r12 =>
 ob (ldH H false 1 r12) fun r13 =>
 E 76 [r13,(S ⟨#[65,78,68]⟩)] H fun r14 H15 =>
 Q r14 H15)) :=
 Ev_eq.trans (by kernel_rfl)
theorem f213_eq (a0:AV) (H:Heap) (Q:Post):E 213 [a0] H Q =
 ob (binA Pg .eql 24 true a0 (AV.sl 0 true .full [])) fun r1 =>
 cndA r1
 (Q (AV.sl 0 true .full []) H)
 (ob (mkSlA 7 []) fun r2 =>
 appA 7 96 r2 a0 H fun r3 H4 =>
 Q r3 H4) :=
 Ev_eq.trans (by kernel_rfl)
def f214_j17 (x0:AV) (x7:AV) (x26:AV) (H:Heap) (Q:Post):Prop:=AtJ Pg Hs 214 [1,1,1,1,0,1] Q [(0,.val x0),(7,.val x7),(26,.val x26)] H
theorem f214_j17_eq (x0:AV) (x7:AV) (x26:AV) (H:Heap) (Q:Post):f214_j17 x0 x7 x26 H Q =
 cndA x26
 (Q (AV.tup [(I 0),(B false)]) H)
 (E 268 [x0] H fun r14 H15 =>
 Q (AV.tup [x7,(B true)]) H15) :=
 (AtJ_eq Pg Hs 214 [1,1,1,1,0,1] Q _ H).trans (by kernel_rfl)
theorem f214_eq (a0 a1:AV) (H:Heap) (Q:Post):E 214 [a0,a1] H Q =
 E 44 [a0] H fun r1 H2 =>
 ob (sizedA 3 r1) fun b3 =>
 ob (spliceA 0 b3 [(I 0),(S ⟨#[]⟩),(I 0)]) fun b4 =>
 ob (partA false 0 1 b4) fun r5 =>
 ob (binA Pg .neq 3 true r5 (I 3)) fun r6 =>
 cndA r6
 (Q (AV.tup [(I 0),(B false)]) H2)
 (ob (partA false 1 1 b4) fun r7 =>
 E 269 [r7] H2 fun r8 H9 =>
 ob (extractA r8 0) fun r10 =>
 ob (extractA r8 1) fun r11 =>
 ob (binA Pg .neq 27 true r11 (I 0)) fun r12 =>
 cndA r12
 (f214_j17 a0 r10 (B true) H9 Q)
 (ob (binA Pg .gtr 2 false r10 a1) fun r13 =>
 f214_j17 a0 r10 r13 H9 Q)) :=
 Ev_eq.trans (by kernel_rfl)
def f233_l6 (x0:AV) (x1:AV) (x7:AV) (x8:AV) (H:Heap) (Q:Post):Prop:=AtF Pg Hs 233 [1,0,1,0] Q [(0,.val x0),(1,.val x1),(7,.val x7),(8,.val x8)] H
theorem f233_l6_eq (x0:AV) (x1:AV) (x7:AV) (x8:AV) (H:Heap) (Q:Post):f233_l6 x0 x1 x7 x8 H Q =
 ob (binA Pg .lss 3 false x8 x7) fun r2 =>
 cndA r2
 (ob (ixaA 4 x0 x8) fun c3 =>
 ob (partA true 0 4 c3) fun r4 =>
 callA (Ev Pg Hs) x1 [r4] H fun r5 H6 =>
 cndA r5
 (Q x8 H6)
 (ob (binA Pg .add 3 true x8 (I 1)) fun r7 =>
 f233_l6 x0 x1 x7 r7 H6 Q))
 (Q (I (-1)) H) :=
 (AtF_eq Pg Hs 233 [1,0,1,0] Q _ H).trans (by kernel_rfl)
theorem f233_eq (a0 a1:AV) (H:Heap) (Q:Post):E 233 [a0,a1] H Q =
 ob (lenA a0) fun r1 =>
 f233_l6 a0 a1 r1 (I 0) H Q :=
 Ev_eq.trans (by kernel_rfl)
theorem f234_eq (a0 a1:AV) (H:Heap) (Q:Post):E 234 [a0,a1] H Q =
 ob (sizedA 1 a0) fun b1 =>
 newH H b1 fun r2 H3 =>
 newH H3 [(AV.raw .nilFunc)] fun r4 H5 =>
 ob (stH H5 1 r4 (AV.fn (.func 235) [] [r2,r4])) fun H6 =>
 ob (ldH H6 false 1 r4) fun r7 =>
 ob (ldH H6 true 6 a1) fun r8 =>
 ob (bldA [(0,6,r8),(6,1,(I 1))] [(I 0),(S ⟨#[]⟩),(S ⟨#[]⟩),(I 0),(I 0),(AV.sl 0 true .full []),(I 0)]) fun r9 =>
 callA (Ev Pg Hs) r7 [r9] H6 fun r10 H11 =>
 Q (AV.tup []) H11 :=
 Ev_eq.trans (by kernel_rfl)
def f235_l14 (x2:AV) (x3:List AV) (x13:AV) (x14:AV) (x15:AV) (H:Heap) (Q:Post):Prop:=AtF Pg Hs 235 [1,1,0,1,0] Q [(2,.val x2),(3,.lbox x3),(13,.val x13),(14,.val x14),(15,.val x15)] H
theorem f235_l14_eq (x2:AV) (x3:List AV) (x13:AV) (x14:AV) (x15:AV) (H:Heap) (Q:Post):f235_l14 x2 x3 x13 x14 x15 H Q =
 ob (binA Pg .lss 3 false x15 x14) fun r9 =>
 cndA r9
 (ob (ixaA 6 x13 x15) fun c10 =>
 ob (partA true 0 6 c10) fun r11 =>
 ob (sizedA 6 r11) fun b12 =>
 ob (spliceA 0 b12 [(I 0),(S ⟨#[]⟩),(S ⟨#[]⟩),(I 0),(I 0),(AV.sl 0 true .full [])]) fun b13 =>
 ob (ldH H false 1 x2) fun r14 =>
 ob (partA true 0 6 b13) fun r15 =>
 ob (partA false 6 1 x3) fun r16 =>
 ob (binA Pg .add 3 true r16 (I 1)) fun r17 =>
 ob (bldA [(0,6,r15),(6,1,r17)] [(I 0),(S ⟨#[]⟩),(S ⟨#[]⟩),(I 0),(I 0),(AV.sl 0 true .full []),(I 0)]) fun r18 =>
 callA (Ev Pg Hs) r14 [r18] H fun r19 H20 =>
 ob (unA .not r19) fun r21 =>
 cndA r21
 (Q (B false) H20)
 (ob (binA Pg .add 3 true x15 (I 1)) fun r22 =>
 f235_l14 x2 x3 x13 x14 r22 H20 Q))
 (Q (B true) H) :=
 (AtF_eq Pg Hs 235 [1,1,0,1,0] Q _ H).trans (by kernel_rfl)
theorem f235_eq (a0 a1 a2:AV) (H:Heap) (Q:Post):E 235 [a0,a1,a2] H Q =
 ob (sizedA 7 a0) fun b1 =>
 ob (ldH H false 1 a1) fun r2 =>
 ob (partA true 0 7 b1) fun r3 =>
 callA (Ev Pg Hs) r2 [r3] H fun r4 H5 =>
 ob (unA .not r4) fun r6 =>
 cndA r6
 (Q (B false) H5)
 (ob (partA false 5 1 b1) fun r7 =>
 ob (lenA r7) fun r8 =>
 f235_l14 a2 b1 r7 r8 (I 0) H5 Q) :=
 Ev_eq.trans (by kernel_rfl)
def f236_j14 (x0:AV) (x1:AV) (x5:AV) (H:Heap) (Q:Post):Prop:=AtJ Pg Hs 236 [1,0,0,1] Q [(0,.val x0),(1,.val x1),(5,.val x5)] H
def f236_j27 (x4:AV) (H:Heap) (Q:Post):Prop:=AtJ Pg Hs 236 [1,1,1] Q [(4,.val x4)] H
theorem f236_j14_eq (x0:AV) (x1:AV) (x5:AV) (H:Heap) (Q:Post):f236_j14 x0 x1 x5 H Q =
 cndA x5
 (Q (B false) H)
 (ob (binA Pg .eql 3 true x1 (I 0)) fun r4 =>
 cndA r4
 (Q (B true) H)
 (ob (binA Pg .geq 3 false x1 x0) fun r5 =>
 cndA r5
 (ob (binA Pg .gtr 3 true x1 (I 1)) fun r6 =>
 f236_j27 r6 H Q)
 (f236_j27 (B false) H Q))) :=
 (AtJ_eq Pg Hs 236 [1,0,0,1] Q _ H).trans (by kernel_rfl)
theorem f236_j27_eq (x4:AV) (H:Heap) (Q:Post):f236_j27 x4 H Q =
 Q x4 H :=
 (AtJ_eq Pg Hs 236 [1,1,1] Q _ H).trans (by kernel_rfl)
theorem f236_eq (a0 a1:AV) (H:Heap) (Q:Post):E 236 [a0,a1] H Q =
 ob (binA Pg .lss 3 true a0 (I 1)) fun r1 =>
 cndA r1
 (f236_j14 a0 a1 r1 H Q)
 (ob (binA Pg .gtr 3 true a0 (I 1000)) fun r2 =>
 cndA r2
 (f236_j14 a0 a1 r2 H Q)
 (ob (binA Pg .gtr 3 true a1 (I 1000)) fun r3 =>
 f236_j14 a0 a1 r3 H Q)) :=
 Ev_eq.trans (by kernel_rfl)
theorem f237_eq (a0 a1:AV) (H:Heap) (Q:Post):E 237 [a0,a1] H Q =
 ob (sizedA 6 a0) fun b1 =>
 ob (partA false 0 1 b1) fun r2 =>
 ob (addPA a1 0) fun r3 =>
 ob (ldH H false 1 r3) fun r4 =>
 ob (binA Pg .eql 3 false r2 r4) fun r5 =>
 Q r5 H :=
 Ev_eq.trans (by kernel_rfl)
def f238_j4 (x2:AV) (H:Heap) (Q:Post):Prop:=AtJ Pg Hs 238 [1,1] Q [(2,.val x2)] H
theorem f238_j4_eq (x2:AV) (H:Heap) (Q:Post):f238_j4 x2 H Q =
 Q x2 H :=
 (AtJ_eq Pg Hs 238 [1,1] Q _ H).trans (by kernel_rfl)
theorem f238_eq (a0:AV) (H:Heap) (Q:Post):E 238 [a0] H Q =
 ob (binA Pg .eql 3 true a0 (I 1)) fun r1 =>
 cndA r1
 (f238_j4 (B true) H Q)
 (ob (binA Pg .eql 3 true a0 (I 5)) fun r2 =>
 cndA r2
 (f238_j4 (B true) H Q)
 (ob (binA Pg .eql 3 true a0 (I 6)) fun r3 =>
 f238_j4 r3 H Q)) :=
 Ev_eq.trans (by kernel_rfl)
def f239_l6 (x0:AV) (x1:AV) (x2:AV) (x14:AV) (H:Heap) (Q:Post):Prop:=AtF Pg Hs 239 [1,0,1,0] Q [(0,.val x0),(1,.val x1),(2,.val x2),(14,.val x14),(200,.undef)] H
def f239_j20 (x0:AV) (x1:AV) (x2:AV) (x14:AV) (x36:AV) (H:Heap) (Q:Post):Prop:=AtJ Pg Hs 239 [1,0,1,0,0,1,1,0,1,1,1] Q [(0,.val x0),(1,.val x1),(2,.val x2),(14,.val x14),(36,.val x36),(200,.undef)] H
def f239_l29 (x0:AV) (x38:AV) (H:Heap) (Q:Post):Prop:=AtF Pg Hs 239 [1,1,0,1,0] Q [(0,.val x0),(38,.val x38)] H
theorem f239_l6_eq (x0:AV) (x1:AV) (x2:AV) (x14:AV) (H:Heap) (Q:Post):f239_l6 x0 x1 x2 x14 H Q =
 nextM x14 H fun r3 H4 =>
 ob (extractA r3 0) fun r5 =>
 cndA r5
 (ob (entM H4 x14) fun r6 =>
 ob (extractA r6 0) fun r7 =>
 ob (extractA r6 1) fun r8 =>
 ob (sizedA 6 r8) fun b9 =>
 ob (spliceA 0 b9 [(I 0),(S ⟨#[]⟩),(S ⟨#[]⟩),(I 0),(I 0),(AV.sl 0 true .full [])]) fun b10 =>
 ob (lookA H4 (AV.agg [(I 0),(S ⟨#[]⟩),(S ⟨#[]⟩),(I 0),(I 0),(AV.sl 0 true .full [])]) x0 r7 true) fun r11 =>
 ob (extractA r11 0) fun r12 =>
 ob (extractA r11 1) fun r13 =>
 ob (sizedA 6 r12) fun b14 =>
 ob (spliceA 0 b14 [(I 0),(S ⟨#[]⟩),(S ⟨#[]⟩),(I 0),(I 0),(AV.sl 0 true .full [])]) fun b15 =>
 cndA r13
 (ob (binA Pg .neq 3 true x1 (I 4)) fun r16 =>
 cndA r16
 (f239_j20 x0 x1 x2 x14 (B true) H4 Q)
 (ob (partA true 0 6 b15) fun r17 =>
 ob (partA true 0 6 b10) fun r18 =>
 E 280 [r17,r18] H4 fun r19 H20 =>
 ob (unA .not r19) fun r21 =>
 f239_j20 x0 x1 x2 x14 r21 H20 Q))
 (f239_j20 x0 x1 x2 x14 (B false) H4 Q))
 (rngM x2 H4 fun r22 H23 =>
 f239_l29 x0 r22 H23 Q) :=
 (AtF_eq Pg Hs 239 [1,0,1,0] Q _ H).trans (by kernel_rfl)
theorem f239_j20_eq (x0:AV) (x1:AV) (x2:AV) (x14:AV) (x36:AV) (H:Heap) (Q:Post):f239_j20 x0 x1 x2 x14 x36 H Q =
 cndA x36
 (Q (B false) H)
 (f239_l6 x0 x1 x2 x14 H Q) :=
 (AtJ_eq Pg Hs 239 [1,0,1,0,0,1,1,0,1,1,1] Q _ H).trans (by kernel_rfl)
theorem f239_l29_eq (x0:AV) (x38:AV) (H:Heap) (Q:Post):f239_l29 x0 x38 H Q =
 nextM x38 H fun r24 H25 =>
 ob (extractA r24 0) fun r26 =>
 cndA r26
 (ob (entM H25 x38) fun r27 =>
 ob (extractA r27 0) fun r28 =>
 ob (extractA r27 1) fun r29 =>
 ob (sizedA 6 r29) fun b30 =>
 ob (spliceA 0 b30 [(I 0),(S ⟨#[]⟩),(S ⟨#[]⟩),(I 0),(I 0),(AV.sl 0 true .full [])]) fun b31 =>
 ob (partA true 0 6 b31) fun r32 =>
 updA H25 x0 r28 r32 fun H33 =>
 f239_l29 x0 x38 H33 Q)
 (Q (B true) H25) :=
 (AtF_eq Pg Hs 239 [1,1,0,1,0] Q _ H).trans (by kernel_rfl)
theorem f239_eq (a0 a1 a2:AV) (H:Heap) (Q:Post):E 239 [a0,a1,a2] H Q =
 rngM a2 H fun r1 H2 =>
 f239_l6 a0 a1 a2 r1 H2 Q :=
 Ev_eq.trans (by kernel_rfl)
def f240_l6 (x0:AV) (x1:AV) (x7:AV) (x8:AV) (H:Heap) (Q:Post):Prop:=AtF Pg Hs 240 [1,0,1,0] Q [(0,.val x0),(1,.val x1),(7,.val x7),(8,.val x8)] H
theorem f240_l6_eq (x0:AV) (x1:AV) (x7:AV) (x8:AV) (H:Heap) (Q:Post):f240_l6 x0 x1 x7 x8 H Q =
 ob (binA Pg .lss 3 false x8 x7) fun r2 =>
 cndA r2
 (ob (ixaA 6 x0 x8) fun c3 =>
 ob (partA true 0 6 c3) fun r4 =>
 callA (Ev Pg Hs) x1 [r4] H fun r5 H6 =>
 cndA r5
 (Q x8 H6)
 (ob (binA Pg .add 3 true x8 (I 1)) fun r7 =>
 f240_l6 x0 x1 x7 r7 H6 Q))
 (Q (I (-1)) H) :=
 (AtF_eq Pg Hs 240 [1,0,1,0] Q _ H).trans (by kernel_rfl)
theorem f240_eq (a0 a1:AV) (H:Heap) (Q:Post):E 240 [a0,a1] H Q =
 ob (lenA a0) fun r1 =>
 f240_l6 a0 a1 r1 (I 0) H Q :=
 Ev_eq.trans (by kernel_rfl)
def f280_j4 (x4:AV) (H:Heap) (Q:Post):Prop:=AtJ Pg Hs 280 [1,1] Q [(4,.val x4)] H
theorem f280_j4_eq (x4:AV) (H:Heap) (Q:Post):f280_j4 x4 H Q =
 Q x4 H :=
 (AtJ_eq Pg Hs 280 [1,1] Q _ H).trans (by kernel_rfl)
theorem f280_eq (a0 a1:AV) (H:Heap) (Q:Post):E 280 [a0,a1] H Q =
 ob (sizedA 6 a0) fun b1 =>
 ob (sizedA 6 a1) fun b2 =>
 ob (partA false 2 1 b1) fun r3 =>
 ob (partA false 2 1 b2) fun r4 =>
 ob (binA Pg .eql 9 false r3 r4) fun r5 =>
 cndA r5
 (ob (partA false 0 1 b1) fun r6 =>
 ob (binA Pg .eql 3 true r6 (I 6)) fun r7 =>
 ob (partA false 0 1 b2) fun r8 =>
 ob (binA Pg .eql 3 true r8 (I 6)) fun r9 =>
 ob (binA Pg .eql 4 false r7 r9) fun r10 =>
 f280_j4 r10 H Q)
 (f280_j4 (B false) H Q) :=
 Ev_eq.trans (by kernel_rfl)
end Go.Hx

