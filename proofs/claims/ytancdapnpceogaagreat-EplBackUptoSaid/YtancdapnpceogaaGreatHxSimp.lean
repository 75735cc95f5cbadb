/- Words of the printed programs, reckoned. Own work (session 2). -/
import Derived.Test.YtancdapnpceogaaGreatHxRow
namespace Go.Hx
abbrev W64 (n:Int):Int:=IntKind.i64.wrap n
/-- a pointer to a block -/
def Pt (b:Nat):AV:=.raw (.pointer (some ⟨b,0,none⟩))
theorem Pt_def (b:Nat):AV.raw (.pointer (some ⟨b,0,none⟩))=Pt b:=rfl
section
variable {α:Type} {P:Program}
theorem ob_some (v:α) (k:α→Prop):ob (some v) k=k v:=rfl
theorem cnd_B (b:Bool) (x y:Prop):cndA (B b) x y=if b=true then x else y:=by cases b<;>rfl
theorem cnd_t (x y:Prop):cndA (B true) x y=x:=rfl
theorem cnd_f (x y:Prop):cndA (B false) x y=y:=rfl
theorem cnd_intro {b:Bool} {x y:Prop} (h1:b=true→x) (h2:b=false→y):cndA (B b) x y:=by
  cases b
  · exact h2 rfl
  · exact h1 rfl
theorem not_B (b:Bool):unA .not (B b)=some (B (!b)):=rfl
theorem neg_I (n:Int):unA .neg (I n)=some (I (W64 (0 - n))):=rfl
theorem len_sl (sz:Nat) (nil:Bool) (tip:Tip) (xs:List AV):lenA (.sl sz nil tip xs)=some (I xs.length):=rfl
theorem len_S (s:ByteArray):lenSA (S s)=some (I s.size):=rfl
theorem max_I (a b:Int):max2A (I a) (I b)=some (I (max a b)):=by
  show (if IntKind.i64=IntKind.i64 then some (AV.raw (.int .i64 (if b > a then b else a))) else none)=_
  simp only [if_true]
  congr 3
  split<;>omega
variable (t:TypeId) (l:Bool) (a b:Int)
theorem i_eql:binA P .eql t l (I a) (I b)=some (B (decide (a=b))):=rfl
theorem i_neq:binA P .neq t l (I a) (I b)=some (B (!decide (a=b))):=rfl
theorem i_lss:binA P .lss t l (I a) (I b)=some (B (decide (a < b))):=rfl
theorem i_leq:binA P .leq t l (I a) (I b)=some (B (decide (a≤b))):=rfl
theorem i_gtr:binA P .gtr t l (I a) (I b)=some (B (decide (b < a))):=rfl
theorem i_geq:binA P .geq t l (I a) (I b)=some (B (decide (b≤a))):=rfl
theorem i_add:binA P .add t l (I a) (I b)=some (I (W64 (a+b))):=rfl
theorem i_sub:binA P .sub t l (I a) (I b)=some (I (W64 (a - b))):=rfl
theorem i_mul:binA P .mul t l (I a) (I b)=some (I (W64 (a * b))):=rfl
theorem i_quo (h:b ≠ 0):binA P .quo t l (I a) (I b)=some (I (W64 (a.tdiv b))):=by
  show (if IntKind.i64=IntKind.i64 then (if b=0 then none else some (AV.raw (.int .i64 (W64 (a.tdiv b))))) else none)=_
  rw [if_pos rfl,if_neg h];rfl
theorem i_rem (h:b ≠ 0):binA P .rem t l (I a) (I b)=some (I (a.tmod b)):=by
  show (if IntKind.i64=IntKind.i64 then (if b=0 then none else some (AV.raw (.int .i64 (a.tmod b)))) else none)=_
  rw [if_pos rfl,if_neg h];rfl
theorem i_xor:binA P .xor t l (I a) (I b)=some (I (bitsI .xor .i64 a b)):=rfl
theorem i_andNot:binA P .andNot t l (I a) (I b)=some (I (bitsI .andNot .i64 a b)):=rfl
variable (k:IntKind)
theorem k_eql:binA P .eql t l (.raw (.int k a)) (.raw (.int k b))=some (B (decide (a=b))):=by
  show (if k=k then some (AV.raw (.bool (a == b))) else none)=_
  rw [if_pos rfl];rfl
theorem k_neq:binA P .neq t l (.raw (.int k a)) (.raw (.int k b))=some (B (!decide (a=b))):=by
  show (if k=k then some (AV.raw (.bool (a != b))) else none)=_
  rw [if_pos rfl];rfl
theorem k_lss:binA P .lss t l (.raw (.int k a)) (.raw (.int k b))=some (B (decide (a < b))):=by
  show (if k=k then some (AV.raw (.bool (decide (a < b)))) else none)=_
  rw [if_pos rfl];rfl
theorem k_leq:binA P .leq t l (.raw (.int k a)) (.raw (.int k b))=some (B (decide (a≤b))):=by
  show (if k=k then some (AV.raw (.bool (decide (a≤b)))) else none)=_
  rw [if_pos rfl];rfl
theorem k_gtr:binA P .gtr t l (.raw (.int k a)) (.raw (.int k b))=some (B (decide (b < a))):=by
  show (if k=k then some (AV.raw (.bool (decide (a > b)))) else none)=_
  rw [if_pos rfl];rfl
theorem k_geq:binA P .geq t l (.raw (.int k a)) (.raw (.int k b))=some (B (decide (b≤a))):=by
  show (if k=k then some (AV.raw (.bool (decide (a ≥ b)))) else none)=_
  rw [if_pos rfl];rfl
theorem k_rem (h:b ≠ 0):binA P .rem t l (.raw (.int k a)) (.raw (.int k b))=some (.raw (.int k (a.tmod b))):=by
  show (if k=k then (if b=0 then none else some (AV.raw (.int k (a.tmod b)))) else none)=_
  rw [if_pos rfl,if_neg h]
variable (x y:ByteArray)
theorem toList_inj {x y:ByteArray}:x.toList=y.toList ↔ x=y:=by
  constructor
  · intro h
    have h1:x.data.toList=y.data.toList:=by rw [← ByteArray.toList_eq,← ByteArray.toList_eq,h]
    cases x;cases y
    simp only [ByteArray.mk.injEq]
    exact Array.toList_inj.1 h1
  · rintro rfl;rfl
theorem ba_beq (a b:ByteArray):(a == b)=decide (a=b):=by
  cases a with | mk x=>cases b with | mk y =>
  simp only [BEq.beq,ByteArray.beq,ByteArray.mk.injEq]
  rw [Bool.eq_iff_iff]
  show (x == y)=true ↔ _
  simp
theorem s_eql:binA P .eql t l (S x) (S y)=some (B (decide (x=y))):=by
  show some (AV.raw (.bool (x.toList == y.toList)))=_
  have:(x.toList == y.toList)=decide (x=y):=by
    rw [Bool.eq_iff_iff];simp [toList_inj]
  rw [this];rfl
theorem s_neq:binA P .neq t l (S x) (S y)=some (B (!decide (x=y))):=by
  show some (AV.raw (.bool (!(x.toList == y.toList))))=_
  have:(x.toList == y.toList)=decide (x=y):=by
    rw [Bool.eq_iff_iff];simp [toList_inj]
  rw [this];rfl
theorem s_lss:binA P .lss t l (S x) (S y)=some (B (Op.bytesLess x.toList y.toList)):=rfl
theorem s_gtr:binA P .gtr t l (S x) (S y)=some (B (!(Op.bytesLess x.toList y.toList || x.toList == y.toList))):=rfl
theorem b_eql {p q:Bool} (ht:P.underlying t=some .bool):binA P .eql t l (B p) (B q)=some (B (p == q)):=by
  simp [binA,B,eqOK,eqT,ht,eqOne,ptrSame]
theorem b_neq {p q:Bool} (ht:P.underlying t=some .bool):binA P .neq t l (B p) (B q)=some (B (!(p == q))):=by
  simp [binA,B,eqOK,eqT,ht,eqOne,ptrSame]
end
theorem part_f (off sz:Nat) (cs:List AV):partA false off sz cs=cs[off]?:=rfl
def HExt (H H':Heap):Prop:=∀ b,¬ H.fresh b→H'.objs b=H.objs b∧H'.tips b=H.tips b∧H'.tys b=H.tys b
theorem HExt.refl (H:Heap):HExt H H:=fun _ _=>⟨rfl,rfl,rfl⟩
theorem HExt.fresh {H H':Heap} (h:HExt H H') {b:Nat} (hb:H'.fresh b):H.fresh b:=by
  rcases Classical.em (H.fresh b) with h' | h'
  · exact h'
  · have:=h b h'
    exact ⟨this.1 ▸ hb.1,this.2.1 ▸ hb.2⟩
theorem HExt.trans {H H' H'':Heap} (h:HExt H H') (h':HExt H' H''):HExt H H'':=fun b hb =>
  have h1:=h b hb
  have h2:=h' b (fun hf=>hb (h.fresh hf))
  ⟨h2.1.trans h1.1,h2.2.1.trans h1.2.1,h2.2.2.trans h1.2.2⟩
theorem HExt.ty {H H':Heap} (h:HExt H H') {b:Nat} {e:TypeId} (hf:¬ H.fresh b) (hb:H.tys b=some e):H'.tys b=some e:=(h b hf).2.2.trans hb
theorem HExt.obj {H H':Heap} (h:HExt H H') {b:Nat} {o:AObj} (hb:H.objs b=some o):H'.objs b=some o :=
  ((h b (fun hf=>by rw [hf.1] at hb;cases hb)).1).trans hb
theorem HExt.setObj {H H':Heap} (h:HExt H H') {b:Nat} (hb:H.fresh b) (o:AObj):HExt H (H'.setObj b o):=fun c hc=>by
  have hne:c ≠ b:=fun e=>hc (e ▸ hb)
  have:=h c hc
  simp only [Heap.setObj,if_neg hne]
  exact this
theorem HExt.setTip {H H':Heap} (h:HExt H H') {b:Nat} (hb:H.fresh b) (n:Nat):HExt H (H'.setTip b n):=fun c hc=>by
  have hne:c ≠ b:=fun e=>hc (e ▸ hb)
  have:=h c hc
  simp only [Heap.setTip,if_neg hne]
  exact this
theorem HExt.setTy {H H':Heap} (h:HExt H H') {b:Nat} (hb:H.fresh b) (e:TypeId):HExt H (H'.setTy b e):=fun c hc=>by
  have hne:c ≠ b:=fun e=>hc (e ▸ hb)
  have:=h c hc
  simp only [Heap.setTy,if_neg hne]
  exact this
theorem HExt.dropTip {H H':Heap} (h:HExt H H') {b:Nat} (hb:H.fresh b):HExt H (H'.dropTip b):=fun c hc=>by
  have hne:c ≠ b:=fun e=>hc (e ▸ hb)
  have:=h c hc
  simp only [Heap.dropTip,if_neg hne]
  exact this
theorem setObj_same (H:Heap) (b:Nat) (o:AObj):(H.setObj b o).objs b=some o:=by simp [Heap.setObj]
theorem setObj_ne (H:Heap) {b c:Nat} (o:AObj) (h:c ≠ b):(H.setObj b o).objs c=H.objs c:=by simp [Heap.setObj,h]
theorem not_fresh {H:Heap} {b:Nat} {o:AObj} (h:H.objs b=some o):¬ H.fresh b:=fun hf=>by rw [hf.1] at h;cases h
theorem fresh_ne {H:Heap} {b c:Nat} {o:AObj} (h:H.objs b=some o) (hc:H.fresh c):b ≠ c:=fun e=>by subst e;exact not_fresh h hc
theorem ld_Pt {H:Heap} {b:Nat} {cs:List AV} (h:H.objs b=some (.cells cs)) (agg:Bool) (sz:Nat):ldH H agg sz (Pt b)=partA agg 0 sz cs:=by
  simp [ldH,Pt,h]
theorem ld_off {H:Heap} {b o:Nat} {cs:List AV} (h:H.objs b=some (.cells cs)) (agg:Bool) (sz:Nat):ldH H agg sz (.raw (.pointer (some ⟨b,o,none⟩)))=partA agg o sz cs:=by
  simp [ldH,h]
theorem st_Pt {H:Heap} {b:Nat} {v x:AV} (h:H.objs b=some (.cells [x])) (hv:sizedA 1 v=some [v]):stH H 1 (Pt b) v=some (H.setObj b (.cells [v])):=by
  simp [stH,Pt,h,hv,spliceA]
theorem sz1_I (n:Int):sizedA 1 (I n)=some [I n]:=rfl
theorem sz1_B (n:Bool):sizedA 1 (B n)=some [B n]:=rfl
theorem sz1_fn (f:Fn) (a b:List AV):sizedA 1 (.fn f a b)=some [.fn f a b]:=rfl
theorem ix_mk (sz:Nat) {s2:Nat} (nil:Bool) (tip:Tip) (xs:List AV) (i:Nat) {x:AV} (hx:xs[i]?=some x) {cs:List AV} (hs:sizedA sz x=some cs):ixaA sz (.sl s2 nil tip xs) (I i)=some cs:=by
  simp [ixaA,I,hx,hs]
theorem w64_id {n:Int} (h0:-9223372036854775808≤n) (h1:n≤9223372036854775807):W64 n=n:=by
  have hb:IntKind.i64.bits=64:=rfl
  have hs:IntKind.i64.signed=true:=rfl
  simp only [W64,IntKind.wrap,hb,hs,Bool.true_and,decide_eq_true_eq]
  split<;>omega
/-- the element behind the first ones -/
theorem get_mid {α:Type} (f:α→AV) (pre r:List α) (x:α):((pre++x::r).map f)[pre.length]?=some (f x):=by simp
theorem w64_succ {i n:Nat} (h:i < n) (hn:n≤1152921504606846976):W64 ((i:Int)+1)=((i+1:Nat):Int):=by
  rw [w64_id (by omega) (by omega)];omega
def OwnS (H0 H:Heap) (sz n:Nat):Tip→Prop
  | .full=>True
  | .tip b=>H.tips b=some (n * sz)∧H0.fresh b
  | .any=>False
end Go.Hx

