/- Contracts of layer 6 in this seat. Own work (session 3; turned from S3C). And what builds on it. -/
import Derived.Test.YtancdapnpceogaaGreatS5F
import Derived.Test.YtancdapnpceogaaGreatHxSimp
import Derived.Laws.RangeAny
import Derived.Test.YtancdapnpceogaaGreatS5FF
set_option maxRecDepth 20000
namespace Go.Hx
abbrev e0:ByteArray:=⟨#[]⟩
structure Vl where
  k:Int
  n:Int
  s:ByteArray
  deriving DecidableEq
def encV (v:Vl):AV:=.agg [I v.k,I v.n,S v.s]
def nullV:Vl:=⟨0,0,e0⟩
def boolV (b:Bool):Vl:=⟨1,if b then 1 else 0,e0⟩
def intV (n:Int):Vl:=⟨2,n,e0⟩
theorem u4:Pg.underlying 4=some .bool:=by kernel_rfl
theorem v_ok (t:Bool) (v w:Vl):eqOK Pg t 23 (encV v) (encV w)=true:=by kernel_rfl
theorem v_eqlT (v w:Vl):eqT Pg 4 23 (encV v) (encV w) =
    (match v.k == w.k with
     | true=>match v.n == w.n with
       | true=>match v.s == w.s with
         | true=>some true
         | false=>some false
       | false=>some false
     | false=>some false):=by kernel_rfl
theorem v_eql0 (t:Bool) (v w:Vl):binA Pg .eql 23 t (encV v) (encV w)=(eqT Pg 4 23 (encV v) (encV w)).map B:=by
  have:=v_ok t v w
  simp only [encV] at this ⊢
  simp only [binA,this];rfl
theorem v_eql (t:Bool) (v w:Vl):binA Pg .eql 23 t (encV v) (encV w)=some (B (decide (v=w))):=by
  rw [v_eql0,v_eqlT]
  cases v;cases w
  simp only [Vl.mk.injEq]
  split
  · split
    · split
      · simp_all [ba_beq]
      · simp_all [ba_beq]
    · simp_all
  · simp_all
theorem c259 (H:Heap) (Q:Post):E 259 [] H Q=Q (encV nullV) H:=f259_eq () H Q
theorem c251 (b:Bool) (H:Heap) (Q:Post):E 251 [B b] H Q=Q (encV (boolV b)) H:=by
  cases b<;>simp [f251_eq,f251_j10_eq,ob_some,cnd_t,cnd_f,bldA,sizedA,spliceA,partA,cellsA,I,encV,boolV]
theorem c319 (n:Int) (H:Heap) (Q:Post):E 319 [I n] H Q=Q (encV (intV n)) H:=f319_eq _ H Q
def rightV (v:Vl):Bool :=
  if v.k=0 then decide (v=nullV) else if v.k=1 then decide (v.s=e0) && decide (bitsI .andNot .i64 v.n 1=0) else if v.k=2 then decide (v.s=e0)
  else if v.k=3 then decide (v.n=0) && decide ((v.s.size:Int)≤256) else false
theorem c121 (v:Vl) (H:Heap) (Q:Post):E 121 [encV v] H Q=Q (B (rightV v)) H:=by
  have hb:bldA [] [I 0,I 0,S e0]=some (encV nullV):=rfl
  have h0:sizedA 3 (encV v)=some [I v.k,I v.n,S v.s]:=rfl
  have h1:partA true 0 3 [I v.k,I v.n,S v.s]=some (encV v):=rfl
  simp only [f121_eq,h0,h1,hb,part_f,ob_some,i_eql,cnd_B,v_eql,s_eql,i_andNot,len_S,i_leq,f121_j17_eq,f121_j29_eq,List.getElem?_cons_zero,List.getElem?_cons_succ,decide_eq_true_eq,rightV]
  split
  · rfl
  · split
    · split<;>simp_all
    · split
      · rfl
      · split
        · split<;>simp_all
        · rfl
end Go.Hx
namespace Go.Hx
def lowI (r:Int):Bool:=decide (97≤r) && decide (r≤122)
def digI (r:Int):Bool:=decide (48≤r) && decide (r≤57)
def signI (r:Int):Bool:=lowI r || (digI r || decide (r=95))
abbrev R32 (r:Int):AV:=.raw (.int .i32 r)
abbrev U8 (r:Int):AV:=.raw (.int .u8 r)
theorem c200 (r:Int) (H:Heap) (Q:Post):E 200 [R32 r] H Q=Q (B (lowI r)) H:=by
 simp only [f200_eq,f200_j4_eq,k_geq,k_leq,ob_some,cnd_B,decide_eq_true_eq,lowI]
 split<;>rename_i h<;>simp only [h,decide_true,decide_false,Bool.true_and,Bool.false_and]
theorem c264 (r:Int) (H:Heap) (Q:Post):E 264 [R32 r] H Q=Q (B (digI r)) H:=by
 simp only [f264_eq,f264_j4_eq,k_geq,k_leq,ob_some,cnd_B,decide_eq_true_eq,digI]
 split<;>rename_i h<;>simp only [h,decide_true,decide_false,Bool.true_and,Bool.false_and]
theorem c199 (r:Int) (H:Heap) (Q:Post):E 199 [R32 r] H Q=Q (B (signI r)) H:=by
 simp only [f199_eq,f199_j4_eq,c200,c264,k_eql,ob_some,cnd_B,signI]
 repeat' split
 all_goals simp_all
def lowB (c:UInt8):Bool:=lowI c.toNat
def signB (c:UInt8):Bool:=signI c.toNat
def nameL:List UInt8→Bool
 | []=>false
 | c::r=>lowB c && ((c::r).all signB && decide (((c::r).length:Int)≤32))
theorem nameL_bad (pre r:List UInt8) (c:UInt8) (h:signB c=false ∨ (pre=[]∧lowB c=false)):nameL (pre++c::r)=false:=by
 cases pre with
 | nil =>
  rcases h with h | h
  ·simp [nameL,h]
  ·simp [nameL,h.2]
 | cons p pre =>
  rcases h with h | h
  ·simp [nameL,h]
  ·exact absurd h.1 (by simp)
theorem size_list (s:ByteArray):s.data.toList.length=s.size:=by rw [Array.length_toList];rfl
theorem c122_l (H0:Heap) (s:ByteArray) (b:Nat) (hb:H0.fresh b) (hsz:s.size≤1099511627776) (Q:Post) (hq:∀ H',HExt H0 H'→Q (B (nameL s.data.toList)) H'):∀ (r pre:List UInt8) (H:Heap),s.data.toList=pre++r→HExt H0 H→H.objs b=some (.siter s pre.length) →
  pre.all signB=true→(∀ c r,pre=c::r→lowB c=true)→f122_l6 (S s) (Pt b) H Q:=by
 intro r
 induction r with
 | nil =>
  intro pre H e he hobj hall hlow
  have hlen:pre.length=s.size:=by rw [← size_list s,e];simp
  have hn:nextA (Pt b) H=fun K=>K (.tup [B false]) H:=by
   funext K;simp [nextA,Pt,hobj,hlen]
  have x0:extractA (.tup [B false]) 0=some (B false):=rfl
  rw [f122_l6_eq,hn]
  simp only [x0,ob_some,cnd_B,Bool.false_eq_true,if_false,s_neq,len_S,i_leq,f122_j25_eq]
  have hres:nameL s.data.toList=if (!decide (s=e0))=true then decide ((s.size:Int)≤32) else false:=by
   rw [e,List.append_nil]
   cases pre with
   | nil =>
    have:s=e0:=by
     have h0:s.data.toList=[]:=by simpa using e
     cases s with | mk d=>simp at h0;simp [h0]
    simp [this,nameL]
   | cons c p =>
    have hne:s ≠ e0:=fun h=>by rw [h] at e;simp at e
    have:=hlow c p rfl
    simp only [nameL,this,hall,Bool.true_and,hlen]
    simp [hne]
  have:=hq H he
  rw [hres] at this
  split
  ·rename_i h;rw [if_pos h] at this;exact this
  ·rename_i h;rw [if_neg h] at this;exact this
 | cons c r ih =>
  intro pre H e he hobj hall hlow
  have hlt:pre.length < s.size:=by rw [← size_list s,e];simp
  have hc:s[pre.length]'hlt=c:=by
   have h1:s.data.toList[pre.length]?=some c:=by rw [e];simp
   have h2:s.data.toList[pre.length]?=some (s[pre.length]'hlt):=by
    rw [List.getElem?_eq_getElem (by rw [size_list];exact hlt)];rfl
   rw [h1] at h2;exact (Option.some.inj h2).symm
  have hn:nextA (Pt b) H=fun K=>K (.tup [B true,I pre.length,R32 (Utf8.decode s pre.length).1]) (H.setObj b (.siter s (pre.length+(Utf8.decode s pre.length).2))):=by
   funext K;simp [nextA,Pt,hobj,hlt]
  have he':HExt H0 (H.setObj b (.siter s (pre.length+(Utf8.decode s pre.length).2))):=he.setObj hb _
  have x0:∀ x y z,extractA (.tup [x,y,z]) 0=some x:=fun _ _ _=>rfl
  have x1:∀ x y z,extractA (.tup [x,y,z]) 1=some y:=fun _ _ _=>rfl
  have x2:∀ x y z,extractA (.tup [x,y,z]) 2=some z:=fun _ _ _=>rfl
  rw [f122_l6_eq,hn]
  simp only [x0,x1,x2,ob_some,cnd_B,if_true,c199,c200,not_B,i_eql,f122_j18_eq]
  have hbad:∀ H',HExt H0 H'→(signB c=false ∨ (pre=[]∧lowB c=false))→Q (B false) H':=fun H' hx hcs=>by
   have:=hq H' hx
   rw [e,nameL_bad pre r c hcs] at this
   exact this
  rcases Nat.lt_or_ge c.toNat 128 with ha | ha
  ·have hd:=decode_ascii s pre.length hlt (by rw [hc];exact ha)
   rw [hc] at hd
   simp only [hd]
   rw [hd] at he'
   have hs:signI ((c.toNat:Nat):Int)=signB c:=rfl
   have hl:lowI ((c.toNat:Nat):Int)=lowB c:=rfl
   rw [hs,hl]
   split
   ·rename_i h
    exact hbad _ he' (.inl (by simpa using h))
   ·rename_i h
    have hsig:signB c=true:=by simpa using h
    have hgo:(pre=[]→lowB c=true)→f122_l6 (S s) (Pt b) (H.setObj b (.siter s (pre.length+1))) Q:=fun hf =>
     ih (pre++[c]) _ (by simp [e]) he' (by simp [setObj_same]) (by simp [hall,hsig]) (fun c' r' h'=>by
      cases pre with
      | nil=>simp at h';rw [← h'.1];exact hf rfl
      | cons p pre=>simp at h';exact hlow c' pre (by rw [h'.1]))
    split
    ·rename_i h0
     have hp:pre=[]:=by
      have:(pre.length:Int)=0:=by simpa using h0
      exact List.eq_nil_of_length_eq_zero (by omega)
     split
     ·rename_i h1;exact hbad _ he' (.inr ⟨hp,by simpa using h1⟩)
     ·rename_i h1;exact hgo (fun _=>by simpa using h1)
    ·rename_i h0
     simp only [Bool.false_eq_true,if_false]
     exact hgo (fun hp=>absurd (by subst hp;simp) h0)
  ·have hd:=decode_high s pre.length hlt (by rw [hc];exact ha)
   have hsf:∀ x:Int,128≤x→signI x=false:=fun x hx=>by
    simp only [signI,lowI,digI,Bool.or_eq_false_iff,Bool.and_eq_false_iff,decide_eq_false_iff_not]
    omega
   have h1:signI ((Utf8.decode s pre.length).1:Int)=false:=hsf _ (by omega)
   have h2:signB c=false:=hsf _ (by omega)
   rw [h1]
   simp only [Bool.not_false,if_true]
   exact hbad _ he' (.inl h2)
theorem c122 (s:ByteArray) (hsz:s.size≤1099511627776) (H:Heap) (Q:Post) (hq:∀ H',HExt H H'→Q (B (nameL s.data.toList)) H'):E 122 [S s] H Q:=by
 rw [f122_eq]
 intro b hb
 exact c122_l H s b hb hsz Q hq s.data.toList [] _ rfl ((HExt.refl H).setObj hb _) (by simp [setObj_same]) rfl (fun _ _ h=>by cases h)
theorem c258 (r:Int) (H:Heap) (Q:Post):E 258 [U8 r] H Q=Q (B (lowI r)) H:=by
 simp only [f258_eq,f258_j4_eq,k_geq,k_leq,ob_some,cnd_B,decide_eq_true_eq,lowI]
 split<;>rename_i h<;>simp only [h,decide_true,decide_false,Bool.true_and,Bool.false_and]
theorem c282 (r:Int) (H:Heap) (Q:Post):E 282 [U8 r] H Q=Q (B (digI r)) H:=by
 simp only [f282_eq,f282_j4_eq,k_geq,k_leq,ob_some,cnd_B,decide_eq_true_eq,digI]
 split<;>rename_i h<;>simp only [h,decide_true,decide_false,Bool.true_and,Bool.false_and]
theorem c250 (r:Int) (H:Heap) (Q:Post):E 250 [U8 r] H Q=Q (B (signI r)) H:=by
 simp only [f250_eq,f250_j4_eq,c258,c282,k_eql,ob_some,cnd_B,signI]
 repeat' split
 all_goals simp_all
theorem ixS (s:ByteArray) (pre r:List UInt8) (c:UInt8) (e:s.data.toList=pre++c::r):ixA (S s) (I pre.length)=some (U8 c.toNat):=by
 have hlt:pre.length < s.size:=by rw [← size_list s,e];simp
 have hc:s[pre.length]'hlt=c:=by
  have h1:s.data.toList[pre.length]?=some c:=by rw [e];simp
  have h2:s.data.toList[pre.length]?=some (s[pre.length]'hlt):=by
   rw [List.getElem?_eq_getElem (by rw [size_list];exact hlt)];rfl
  rw [h1] at h2;exact (Option.some.inj h2).symm
 simp [ixA,S,I,hlt,hc]
theorem c191_l (s:ByteArray) (hsz:s.size≤1099511627776) (H:Heap) (Q:Post):∀ (r pre:List UInt8),s.data.toList=pre++r→pre.all signB=true→f191_l6 (S s) (I pre.length) H Q=Q (B (nameL s.data.toList)) H:=by
 intro r
 induction r with
 | nil =>
  intro pre e hall
  have hlen:pre.length=s.size:=by rw [← size_list s,e];simp
  rw [f191_l6_eq,len_S,ob_some,i_lss,ob_some,cnd_B,hlen]
  simp only [Int.lt_irrefl,decide_false,Bool.false_eq_true,if_false,i_geq,i_leq,ob_some,f191_j25_eq,cnd_B,decide_eq_true_eq]
  rw [List.append_nil] at e
  cases pre with
  | nil =>
   have h0:s.size=0:=by rw [← hlen];rfl
   rw [if_neg (by omega),e];rfl
  | cons c p =>
   have h1:s.size=p.length+1:=by rw [← hlen];rfl
   have i0:ixA (S s) (I 0)=some (U8 c.toNat):=ixS s [] p c e
   have hn:nameL s.data.toList=(lowB c && decide ((s.size:Int)≤32)):=by
    rw [e,nameL,hall,Bool.true_and]
    have:((c::p).length:Int)=(s.size:Int):=by rw [h1];rfl
    rw [this]
   rw [if_pos (by omega),i0,ob_some,c258,hn]
   have hl:lowI ((c.toNat:Nat):Int)=lowB c:=rfl
   rw [hl]
   split
   ·rename_i h;simp only [h,decide_true,Bool.and_true]
   ·rename_i h;simp only [h,decide_false,Bool.and_false]
 | cons c r ih =>
  intro pre e hall
  have hlt:pre.length < s.size:=by rw [← size_list s,e];simp
  have hlt':(pre.length:Int) < s.size:=by omega
  rw [f191_l6_eq,len_S,ob_some,i_lss,ob_some,cnd_B,if_pos (by simpa using hlt'),ixS s pre r c e,ob_some,c250,not_B,ob_some,cnd_B,i_add,ob_some,w64_succ hlt (by omega)]
  have hl:signI ((c.toNat:Nat):Int)=signB c:=rfl
  rw [hl]
  split
  ·rename_i h
   rw [e,nameL_bad pre r c (.inl (by simpa using h))]
  ·rename_i h
   have:=ih (pre++[c]) (by simp [e]) (by simp only [List.all_append,hall,Bool.true_and,List.all_cons,List.all_nil,Bool.and_true];simpa using h)
   rw [List.length_append,List.length_singleton] at this
   exact this
theorem c191 (s:ByteArray) (hsz:s.size≤1099511627776) (H:Heap) (Q:Post):E 191 [S s] H Q=Q (B (nameL s.data.toList)) H:=by
 rw [f191_eq]
 exact c191_l s hsz H Q s.data.toList [] rfl rfl
end Go.Hx
namespace Go.Hx
inductive Ex where
 | mk (k:Int) (v:Vl) (var fld:ByteArray) (sz:Nat) (nil:Bool) (tip:Tip) (l:List Ex)
namespace Ex
def k:Ex→Int | mk k _ _ _ _ _ _ _=>k
def v:Ex→Vl | mk _ v _ _ _ _ _ _=>v
def var:Ex→ByteArray | mk _ _ v _ _ _ _ _=>v
def fld:Ex→ByteArray | mk _ _ _ f _ _ _ _=>f
def sz:Ex→Nat | mk _ _ _ _ s _ _ _=>s
def nil:Ex→Bool | mk _ _ _ _ _ n _ _=>n
def tip:Ex→Tip | mk _ _ _ _ _ _ t _=>t
def l:Ex→List Ex | mk _ _ _ _ _ _ _ l=>l
end Ex
theorem Ex.ind {p:Ex→Prop} (h:∀ x,(∀ y ∈ x.l,p y)→p x) (x:Ex):p x :=
 Ex.rec (motive_1:=p) (motive_2:=fun l=>∀ y ∈ l,p y) (fun _ _ _ _ _ _ _ _ ih=>h _ ih) (fun _ hy=>by cases hy)
  (fun _ _ hz hr y hy=>by
   cases hy with
   | head=>exact hz
   | tail _ hy=>exact hr y hy) x
mutual
def encC:Ex→List AV
 | .mk k v var fld sz nil tip l=>[I k,I v.k,I v.n,S v.s,S var,S fld,.sl sz nil tip (encCs l)]
def encCs:List Ex→List AV
 | []=>[]
 | x::r=>.agg (encC x)::encCs r
end
def encX (x:Ex):AV:=.agg (encC x)
theorem encCs_map (l:List Ex):encCs l=l.map encX:=by
 induction l with
 | nil=>simp [encCs]
 | cons x r ih=>simp [encCs,ih,encX]
def encXs (sz:Nat) (nil:Bool) (tip:Tip) (l:List Ex):AV:=.sl sz nil tip (l.map encX)
theorem encC_eq (x:Ex):encC x=[I x.k,I x.v.k,I x.v.n,S x.v.s,S x.var,S x.fld,encXs x.sz x.nil x.tip x.l]:=by
 cases x;simp [encC,encXs,encCs_map,Ex.k,Ex.v,Ex.var,Ex.fld,Ex.sz,Ex.nil,Ex.tip,Ex.l]
mutual
def sizeX:Ex→Nat
 | .mk _ _ _ _ _ _ _ l=>1+sizeXs l
def sizeXs:List Ex→Nat
 | []=>0
 | x::r=>sizeX x+sizeXs r
end
/-- cells of a node -/
theorem szX (x:Ex):sizedA 7 (encX x)=some (encC x):=by
 have:(encC x).length=7:=by rw [encC_eq];rfl
 simp [encX,sizedA,cellsA,this]
theorem partX (x:Ex):partA true 0 7 (encC x)=some (encX x):=by
 have:encC x=(encC x):=rfl
 rw [encC_eq]
 show some (AV.agg [I x.k,I x.v.k,I x.v.n,S x.v.s,S x.var,S x.fld,encXs x.sz x.nil x.tip x.l])=_
 rw [encX,encC_eq]
theorem splX (x:Ex):spliceA 0 (encC x) [I 0,I 0,I 0,S e0,S e0,S e0,AV.sl 0 true .full []]=some (encC x):=by
 rw [encC_eq];rfl
theorem partXV (x:Ex):partA true 1 3 (encC x)=some (encV x.v):=by rw [encC_eq];rfl
theorem ixX (l:List Ex) (sz:Nat) (nil:Bool) (tip:Tip) (pre r:List Ex) (x:Ex) (e:l=pre++x::r):ixaA 7 (encXs sz nil tip l) (I pre.length)=some (encC x) :=
 ix_mk 7 nil tip _ pre.length (x:=encX x) (by rw [e];exact get_mid encX pre r x) (szX x)
theorem lenX (sz:Nat) (nil:Bool) (tip:Tip) (l:List Ex):lenA (encXs sz nil tip l)=some (I l.length):=by simp [encXs,len_sl]

def isRowP (k:Int):Bool:=decide (k=16) || decide (k=17)
theorem c125 (k:Int) (H:Heap) (Q:Post):E 125 [I k] H Q=Q (B (isRowP k)) H:=by
 simp only [f125_eq,f125_j4_eq,i_eql,ob_some,cnd_B,decide_eq_true_eq,isRowP]
 split<;>rename_i h<;>simp only [h,decide_true,decide_false,Bool.true_or,Bool.false_or]
def bareP (x:Ex):Bool:=decide (x.v=nullV) && (decide (x.var=e0) && decide (x.fld=e0))
theorem c123 (x:Ex) (H:Heap) (Q:Post):E 123 [encX x] H Q=Q (B (bareP x)) H:=by
 have hb:bldA [] [I 0,I 0,S e0]=some (encV nullV):=rfl
 simp only [f123_eq,f123_j4_eq,szX,partXV,hb,v_eql,ob_some,part_f]
 simp only [encC_eq,List.getElem?_cons_zero,List.getElem?_cons_succ,ob_some,s_eql,cnd_B,decide_eq_true_eq,bareP]
 repeat' split
 all_goals simp_all
theorem c124 (x y:Ex) (b:Nat) (H:Heap) (Q:Post) (hb:H.objs b=some (.cells (encC x))):E 124 [encX y,Pt b] H Q=Q (B (decide (y.k=x.k))) H:=by
 have h0:addPA (Pt b) 0=some (Pt b):=rfl
 rw [f124_eq]
 simp only [szX,ob_some,part_f,h0,ld_Pt hb]
 simp only [encC_eq,List.getElem?_cons_zero,ob_some,i_eql]
def ownIx (k:Int):Nat→List Ex→Int
 | _,[]=>-1
 | i,y::r=>if y.k=k then i else ownIx k (i+1) r
theorem c201_l (x:Ex) (b:Nat) (H:Heap) (hb:H.objs b=some (.cells (encC x))) (sz:Nat) (nil:Bool) (tip:Tip) (l:List Ex) (hn:l.length≤1099511627776) (Q:Post):∀ (r pre:List Ex),l=pre++r →
  f201_l6 (encXs sz nil tip l) (.fn (.func 124) [] [Pt b]) (I l.length) (I pre.length) H Q=Q (I (ownIx x.k pre.length r)) H:=by
 intro r
 induction r with
 | nil =>
  intro pre e
  have:(pre.length:Int)=l.length:=by rw [e];simp
  rw [f201_l6_eq,i_lss,ob_some,cnd_B,this]
  simp [ownIx]
 | cons y r ih =>
  intro pre e
  have hlt:pre.length < l.length:=by rw [e];simp
  have hlt':(pre.length:Int) < l.length:=by omega
  have ih:=ih (pre++[y]) (by simp [e])
  rw [f201_l6_eq,i_lss,ob_some,cnd_B,if_pos (by simpa using hlt'),ixX l sz nil tip pre r y e,ob_some,partX,ob_some]
  show E 124 [encX y,Pt b] H _=_
  rw [c124 x y b H _ hb,cnd_B,i_add,ob_some,w64_succ hlt (by omega)]
  rw [List.length_append,List.length_singleton] at ih
  rw [ih]
  simp only [ownIx,decide_eq_true_eq]
  split<;>rfl
theorem ownIx_ge (k:Int) (i:Nat) (l:List Ex):decide (0≤ownIx k i l)=l.any fun y=>decide (y.k=k):=by
 induction l generalizing i with
 | nil=>simp [ownIx]
 | cons v r ih =>
  simp only [ownIx,List.any_cons]
  split
  ·rename_i h;simp [h]
  ·rename_i h;simp only [h,decide_false,Bool.false_or];exact ih (i+1)
theorem c126 (x:Ex) (b:Nat) (H:Heap) (hb:H.objs b=some (.cells (encC x))) (sz:Nat) (nil:Bool) (tip:Tip) (l:List Ex) (hn:l.length≤1099511627776) (Q:Post) :
  E 126 [encXs sz nil tip l,.fn (.func 124) [] [Pt b]] H Q=Q (B (l.any fun y=>decide (y.k=x.k))) H:=by
 have:=fun K=>c201_l x b H hb sz nil tip l hn K l [] rfl
 rw [f126_eq,f201_eq,lenX,ob_some]
 refine (this _).trans ?_
 rw [i_geq,ob_some,ownIx_ge]

/-- may a node be -/
def rightP (x:Ex):Bool :=
 if x.k=1 then decide (x.l.length=0) && (rightV x.v && (decide (x.var=e0) && decide (x.fld=e0)))
 else if x.k=2 then decide (x.l.length=0) && (decide (x.v=nullV) && (nameL x.var.data.toList && nameL x.fld.data.toList))
 else if bareP x=false then false
 else if x.k=3 ∨ x.k=15 then decide (x.l.length=1)
 else if 4≤x.k∧x.k≤14 then decide (x.l.length=2)
 else isRowP x.k && (decide (2≤x.l.length) && !(x.l.any fun y=>decide (y.k=x.k)))
theorem len0 (n:Nat):decide ((n:Int)=0)=decide (n=0):=by rw [Bool.eq_iff_iff];simp
theorem len1 (n:Nat):decide ((n:Int)=1)=decide (n=1):=by rw [Bool.eq_iff_iff];simp;omega
theorem len2 (n:Nat):decide ((n:Int)=2)=decide (n=2):=by rw [Bool.eq_iff_iff];simp;omega
theorem len2' (n:Nat):decide (2≤(n:Int))=decide (2≤n):=by rw [Bool.eq_iff_iff];simp;omega
theorem c58 (x:Ex) (hl:x.l.length≤1099511627776) (hv:x.var.size≤1099511627776) (hf:x.fld.size≤1099511627776) (H:Heap) (Q:Post) (hq:∀ H',HExt H H'→Q (B (rightP x)) H'):E 58 [encX x] H Q:=by
 have p6:(encC x)[6]?=some (encXs x.sz x.nil x.tip x.l):=by rw [encC_eq];rfl
 have p0:(encC x)[0]?=some (I x.k):=by rw [encC_eq];rfl
 have p4:(encC x)[4]?=some (S x.var):=by rw [encC_eq];rfl
 have p5:(encC x)[5]?=some (S x.fld):=by rw [encC_eq];rfl
 have hb:bldA [] [I 0,I 0,S e0]=some (encV nullV):=rfl
 have q0:=fun H' hx=>hq H' hx
 simp only [rightP] at q0
 have t12:∀ {b:Bool} {H'},Q (B b) H'→f58_c3_12a (encC x) (B b) H' Q→True:=fun _ _=>trivial
 simp only [f58_eq,szX,ob_some,part_f,p6,p0,lenX,i_eql,len0]
 refine cnd_intro (fun h1=>?_) (fun h1=>?_)
 ·have h1:x.k=1:=by simpa using h1
  simp only [h1,if_true] at q0
  have hF:∀ H',HExt H H'→(decide (x.l.length=0) && (rightV x.v && (decide (x.var=e0) && decide (x.fld=e0))))=false→f58_j11 (B false) H' Q:=fun H' hx hr=>by
   rw [f58_j11_eq];have:=q0 H' hx;rw [hr] at this;exact this
  simp only [f58_c3_7a_eq,f58_c3_7b_eq,f58_c3_12a_eq,f58_c3_12b_eq,f58_c3_17a_eq,f58_c3_17b_eq,partXV,ob_some,c121,p4,p5,part_f,s_eql]
  refine cnd_intro (fun h2=>cnd_intro (fun h3=>cnd_intro (fun h4=>?_) (fun h4=>?_)) (fun h3=>?_)) (fun h2=>?_)
  ·rw [f58_j11_eq]
   have:=q0 H (HExt.refl H)
   simp only [h2,h3,h4,Bool.true_and] at this
   exact this
  ·exact hF H (HExt.refl H) (by simp only [h4,Bool.false_and,Bool.and_false])
  ·exact hF H (HExt.refl H) (by simp only [h3,Bool.false_and,Bool.and_false])
  ·exact hF H (HExt.refl H) (by simp only [h2,Bool.false_and])
 have h1:¬ x.k=1:=by simpa using h1
 simp only [h1,if_false] at q0
 refine cnd_intro (fun h2=>?_) (fun h2=>?_)
 ·have h2:x.k=2:=by simpa using h2
  simp only [h2,if_true] at q0
  have hF:∀ H',HExt H H'→(decide (x.l.length=0) && (decide (x.v=nullV) && (nameL x.var.data.toList && nameL x.fld.data.toList)))=false→f58_j17 (B false) H' Q:=fun H' hx hr=>by
   rw [f58_j17_eq];have:=q0 H' hx;rw [hr] at this;exact this
  simp only [f58_c5_8a_eq,f58_c5_8b_eq,f58_c5_13a_eq,f58_c5_13b_eq,f58_c5_18a_eq,f58_c5_18b_eq,partXV,hb,ob_some,v_eql,p4,p5,part_f,s_eql]
  refine cnd_intro (fun h3=>cnd_intro (fun h4=>?_) (fun h4=>?_)) (fun h3=>?_)
  ·refine c122 _ hv _ _ (fun H1 e1=>cnd_intro (fun h5=>?_) (fun h5=>?_))
   ·refine c122 _ hf _ _ (fun H2 e2=>?_)
    rw [f58_j17_eq]
    have:=q0 H2 (e1.trans e2)
    simp only [h3,h4,h5,Bool.true_and] at this
    exact this
   ·exact hF H1 e1 (by simp only [h5,Bool.false_and,Bool.and_false])
  ·exact hF H (HExt.refl H) (by simp only [h4,Bool.false_and,Bool.and_false])
  ·exact hF H (HExt.refl H) (by simp only [h3,Bool.false_and])
 have h2:¬ x.k=2:=by simpa using h2
 simp only [h2,if_false] at q0
 simp only [partX,ob_some,c123,not_B]
 refine cnd_intro (fun h3=>?_) (fun h3=>?_)
 ·have h3:bareP x=false:=by simpa using h3
  have:=q0 H (HExt.refl H)
  simp only [h3,if_true] at this
  exact this
 have h3:bareP x=true:=by simpa using h3
 simp only [h3,Bool.true_eq_false,if_false] at q0
 have j30:∀ b:Bool,b=decide (x.k=3 ∨ x.k=15)→f58_j30 (encC x) (I x.l.length) (B b) H Q:=fun b hbb=>by
  simp only [f58_j30_eq,f58_j36_eq,i_eql,i_geq,i_leq,part_f,p0,ob_some,len1,len2,len2']
  refine cnd_intro (fun h4=>?_) (fun h4=>?_)
  ·have:=q0 H (HExt.refl H)
   rw [if_pos (by simpa [hbb] using h4)] at this
   exact this
  have h4:¬ (x.k=3 ∨ x.k=15):=by simpa [hbb] using h4
  simp only [if_neg h4] at q0
  have fin:¬ (4≤x.k∧x.k≤14)→newH H (encC x) (fun r40 H41=>ob (addPA r40 0) fun r42=>ob (ldH H41 false 1 r42) fun r43=>E 125 [r43] H41 fun r44 H45=>cndA r44
    (cndA (B (decide (2≤x.l.length))) (ob (addPA r40 6) fun r47=>ob (ldH H45 false 1 r47) fun r48=>E 126 [r48,AV.fn (.func 124) [] [r40]] H45 fun r49 H50=>ob (unA .not r49) fun r51=>f58_j45 r51 H50 Q) (f58_j45 (B false) H45 Q))
    (f58_j45 (B false) H45 Q)):=fun h5 b hf=>by
   have hob:=setObj_same H b (.cells (encC x))
   have he:HExt H (H.setObj b (.cells (encC x))):=(HExt.refl H).setObj hf _
   simp only [Pt_def]
   generalize H.setObj b (.cells (encC x))=H1 at hob he ⊢
   have a0:addPA (Pt b) 0=some (Pt b):=rfl
   have a6:addPA (Pt b) 6=some (.raw (.pointer (some ⟨b,6,none⟩))):=by simp [addPA,Pt]
   simp only [a0,a6,ob_some,ld_Pt hob,ld_off hob,part_f,p0,p6,c125,c126 x b H1 hob x.sz x.nil x.tip x.l hl,not_B,f58_j45_eq]
   have:=q0 H1 he
   simp only [if_neg h5] at this
   refine cnd_intro (fun h6=>cnd_intro (fun h7=>?_) (fun h7=>?_)) (fun h6=>?_)
   ·simp only [h6,h7,Bool.true_and] at this;exact this
   ·simp only [h7,Bool.false_and,Bool.and_false] at this;exact this
   ·simp only [h6,Bool.false_and] at this;exact this
  refine cnd_intro (fun h5=>cnd_intro (fun h6=>?_) (fun h6=>?_)) (fun h5=>?_)
  ·have:=q0 H (HExt.refl H)
   rw [if_pos (by simp at h5 h6;omega)] at this
   exact this
  ·exact fin (by simp at h5 h6;omega)
  ·exact fin (by simp at h5;omega)
 refine cnd_intro (fun h4=>?_) (fun h4=>?_)
 ·rw [h4];exact j30 true (by simp at h4;simp [h4])
 ·have h4:¬ x.k=3:=by simpa using h4
  exact j30 _ (by simp [h4])

/-- a function that is called for each node: what it keeps, how it steps -/
structure Step (σ:Type) (y:AV) (St:σ→Heap→Prop) (f:σ→Int→Ex→σ) (ok:Ex→Prop):Prop where
 call:∀ (s:σ) (H:Heap) (d:Int) (x:Ex) (K:Post),ok x→St s H→(∀ H',St (f s d x) H'→K (B true) H')→callA (Ev Pg Hs) y [I d,encX x] H K
mutual
def foldX {σ:Type} (f:σ→Int→Ex→σ):σ→Int→Ex→σ
 | s,d,.mk k v var fld sz nil tip l=>foldXs f (f s d (.mk k v var fld sz nil tip l)) (W64 (d+1)) l
def foldXs {σ:Type} (f:σ→Int→Ex→σ):σ→Int→List Ex→σ
 | s,_,[]=>s
 | s,d,x::r=>foldXs f (foldX f s d x) d r
end
mutual
/-- of all nodes -/
def allX (p:Ex→Prop):Ex→Prop
 | .mk k v var fld sz nil tip l=>p (.mk k v var fld sz nil tip l)∧allXs p l
def allXs (p:Ex→Prop):List Ex→Prop
 | []=>True
 | x::r=>allX p x∧allXs p r
end
theorem foldX_eq {σ:Type} (f:σ→Int→Ex→σ) (s:σ) (d:Int) (x:Ex):foldX f s d x=foldXs f (f s d x) (W64 (d+1)) x.l:=by
 cases x;simp [foldX,Ex.l]
theorem allX_eq (p:Ex→Prop) (x:Ex):allX p x ↔ p x∧allXs p x.l:=by
 cases x;simp [allX,Ex.l]
theorem allXs_mem {p:Ex→Prop} {l:List Ex} (h:allXs p l) {x:Ex} (hx:x ∈ l):allX p x:=by
 induction l with
 | nil=>cases hx
 | cons y r ih =>
  simp only [allXs] at h
  cases hx with
  | head=>exact h.1
  | tail _ hx=>exact ih h.2 hx
/-- small enough to be gone over -/
def okX (x:Ex):Prop:=x.l.length≤1099511627776∧x.var.size≤1099511627776∧x.fld.size≤1099511627776
section walk
variable {σ:Type} {y:AV} {St:σ→Heap→Prop} {f:σ→Int→Ex→σ} {b2 b4:Nat}
theorem c120_l (hy:Step σ y St f okX) (h2:∀ s H,St s H→H.objs b2=some (.cells [y])∧H.objs b4=some (.cells [.fn (.func 120) [] [Pt b2,Pt b4]])) (d:Int) (Q:Post) (sz:Nat) (nil:Bool) (tip:Tip) (l:List Ex) (hn:l.length≤1099511627776)
  (ih:∀ x ∈ l,∀ (s:σ) (H:Heap) (d:Int) (K:Post),St s H→(∀ H',St (foldX f s d x) H'→K (B true) H')→E 120 [I d,encX x,Pt b2,Pt b4] H K):∀ (r pre:List Ex) (s:σ) (H:Heap),l=pre++r→St s H →
  (∀ H',St (foldXs f s (W64 (d+1)) r) H'→Q (B true) H')→f120_l14 (I d) (Pt b4) (encXs sz nil tip l) (I l.length) (I pre.length) H Q:=by
 intro r
 induction r with
 | nil =>
  intro pre s H e hs hq
  have:(pre.length:Int)=l.length:=by rw [e];simp
  rw [f120_l14_eq,i_lss,ob_some,cnd_B,this]
  simp only [Int.lt_irrefl,decide_false,Bool.false_eq_true,if_false]
  exact hq H (by simpa [foldXs] using hs)
 | cons x r ihr =>
  intro pre s H e hs hq
  have hlt:pre.length < l.length:=by rw [e];simp
  have hlt':(pre.length:Int) < l.length:=by omega
  obtain ⟨g1,g2⟩:=h2 s H hs
  rw [f120_l14_eq,i_lss,ob_some,cnd_B,if_pos (by simpa using hlt'),ixX l sz nil tip pre r x e,ob_some,partX,ob_some,szX,ob_some,splX,ob_some,ld_Pt g2]
  simp only [part_f,List.getElem?_cons_zero,ob_some,i_add,partX]
  show E 120 [I (W64 (d+1)),encX x,Pt b2,Pt b4] H _
  refine ih x (by rw [e];simp) s H _ _ hs (fun H' hs'=>?_)
  rw [not_B,ob_some,cnd_B]
  simp only [Bool.not_true,Bool.false_eq_true,if_false,ob_some]
  rw [w64_succ hlt (by omega)]
  have:=ihr (pre++[x]) _ H' (by simp [e]) hs' (fun H'' hs''=>hq H'' (by simpa [foldXs] using hs''))
  rw [List.length_append,List.length_singleton] at this
  exact this
theorem c120 (hy:Step σ y St f okX) (h2:∀ s H,St s H→H.objs b2=some (.cells [y])∧H.objs b4=some (.cells [.fn (.func 120) [] [Pt b2,Pt b4]])):∀ (x:Ex),allX okX x→∀ (s:σ) (H:Heap) (d:Int) (Q:Post),St s H→(∀ H',St (foldX f s d x) H'→Q (B true) H')→E 120 [I d,encX x,Pt b2,Pt b4] H Q:=by
 intro x
 induction x using Ex.ind with
 | h x ih =>
  intro hok s H d Q hs hq
  rw [allX_eq] at hok
  obtain ⟨g1,g2⟩:=h2 s H hs
  rw [f120_eq,szX,ob_some,ld_Pt g1]
  simp only [part_f,List.getElem?_cons_zero,ob_some,partX]
  refine hy.call s H d _ _ hok.1 hs (fun H' hs'=>?_)
  rw [not_B,ob_some,cnd_B]
  simp only [Bool.not_true,Bool.false_eq_true,if_false]
  have p6:(encC x)[6]?=some (encXs x.sz x.nil x.tip x.l):=by rw [encC_eq];rfl
  rw [p6,ob_some,lenX,ob_some]
  exact c120_l hy h2 d Q x.sz x.nil x.tip x.l hok.1.1 (fun y hy' s H d K=>ih y hy' (allXs_mem hok.2 hy') s H d K) x.l [] _ H' rfl hs' (fun H'' hs''=>hq H'' (by rw [foldX_eq];exact hs''))
end walk
end Go.Hx
namespace Go.Hx
/-- but for some blocks, the heap only grows -/
def HExc (own:Nat→Prop) (H H':Heap):Prop:=∀ b,¬ H.fresh b→¬ own b→H'.objs b=H.objs b∧H'.tips b=H.tips b∧H'.tys b=H.tys b
theorem HExc.refl (own:Nat→Prop) (H:Heap):HExc own H H:=fun _ _ _=>⟨rfl,rfl,rfl⟩
theorem HExt.exc {own:Nat→Prop} {H H':Heap} (h:HExt H H'):HExc own H H':=fun b hb _=>h b hb
theorem HExc.trans {own:Nat→Prop} {H H' H'':Heap} (h:HExc own H H') (h':HExc own H' H''):HExc own H H'':=fun b hb ho =>
 have h1:=h b hb ho
 have h2:=h' b (fun hf=>hb ⟨h1.1 ▸ hf.1,h1.2.1 ▸ hf.2⟩) ho
 ⟨h2.1.trans h1.1,h2.2.1.trans h1.2.1,h2.2.2.trans h1.2.2⟩
theorem HExc.mono {o1 o2:Nat→Prop} {H H':Heap} (h:HExc o1 H H') (ho:∀ b,¬ H.fresh b→o1 b→o2 b):HExc o2 H H':=fun b hb hn =>
 h b hb (fun h1=>hn (ho b hb h1))
theorem HExc.obj {own:Nat→Prop} {H H':Heap} (h:HExc own H H') {b:Nat} {o:AObj} (hb:H.objs b=some o) (ho:¬ own b):H'.objs b=some o :=
 ((h b (not_fresh hb) ho).1).trans hb
theorem HExc.setObj {own:Nat→Prop} {H H':Heap} (h:HExc own H H') {b:Nat} (hb:own b ∨ H.fresh b) (o:AObj):HExc own H (H'.setObj b o):=fun c hc hoc=>by
 have hne:c ≠ b:=fun e=>by
  subst e
  rcases hb with hb | hb
  ·exact hoc hb
  ·exact hc hb
 have:=h c hc hoc
 simp only [Heap.setObj,if_neg hne]
 exact this
/-- as HExc, where what is owned was new -/
theorem HExc.ext {own:Nat→Prop} {H0 H H':Heap} (h0:HExt H0 H) (h:HExc own H H') (ho:∀ b,own b→H0.fresh b):HExt H0 H':=fun b hb=>by
 have h1:=h0 b hb
 have h2:=h b (fun hf=>hb (h0.fresh hf)) (fun hob=>hb (ho b hob))
 exact ⟨h2.1.trans h1.1,h2.2.1.trans h1.2.1,h2.2.2.trans h1.2.2⟩
structure Visit (σ:Type) (y:AV) (own:Nat→Prop) (St:σ→Heap→Prop) (f:σ→Int→Ex→σ):Prop where
 one:sizedA 1 y=some [y]
 stab:∀ s H H',St s H→HExt H H'→St s H'
 old:∀ s H b,St s H→own b→¬ H.fresh b
 call:∀ (s:σ) (H:Heap) (d:Int) (x:Ex) (K:Post),okX x→St s H→(∀ H',St (f s d x) H'→HExc own H H'→K (B true) H')→callA (Ev Pg Hs) y [I d,encX x] H K
theorem c119 {σ:Type} {y:AV} {own:Nat→Prop} {St:σ→Heap→Prop} {f:σ→Int→Ex→σ} (hv:Visit σ y own St f) (x:Ex) (hok:allX okX x) (b1:Nat) (s:σ) (H:Heap) (Q:Post) (h1:H.objs b1=some (.cells (encC x))) (hs:St s H)
  (hq:∀ H',St (foldX f s 1 x) H'→HExc own H H'→Q (.tup []) H'):E 119 [y,Pt b1] H Q:=by
 rw [f119_eq,hv.one,ob_some]
 intro b2 f2
 simp only [Pt_def]
 have e1:HExt H (H.setObj b2 (.cells [y])):=(HExt.refl H).setObj f2 _
 have o2:=setObj_same H b2 (.cells [y])
 generalize H.setObj b2 (.cells [y])=H1 at e1 o2 ⊢
 intro b4 f4
 simp only [Pt_def]
 have hne:b2 ≠ b4:=fresh_ne o2 f4
 have hne1:b1 ≠ b4:=fresh_ne (e1.obj h1) f4
 have o4:=setObj_same H1 b4 (.cells [.raw .nilFunc])
 have e2:HExt H1 (H1.setObj b4 (.cells [.raw .nilFunc])):=(HExt.refl H1).setObj f4 _
 have o4':∀ o,((H1.setObj b4 (.cells [.raw .nilFunc])).setObj b4 o).objs b4=some o:=fun o=>setObj_same _ _ _
 rw [st_Pt o4 (sz1_fn _ _ _),ob_some]
 have e3:HExt H1 ((H1.setObj b4 (.cells [.raw .nilFunc])).setObj b4 (.cells [.fn (.func 120) [] [Pt b2,Pt b4]])):=e2.setObj f4 _
 have o4:=o4' (.cells [.fn (.func 120) [] [Pt b2,Pt b4]])
 generalize (H1.setObj b4 (.cells [.raw .nilFunc])).setObj b4 (.cells [.fn (.func 120) [] [Pt b2,Pt b4]])=H2 at e3 o4 ⊢
 have o2:=e3.obj o2
 have h1:=e3.obj (e1.obj h1)
 have hs2:=hv.stab _ _ _ hs (e1.trans e3)
 rw [ld_Pt o4,ld_Pt h1,partX]
 simp only [part_f,List.getElem?_cons_zero,ob_some]
 show E 120 [I 1,encX x,Pt b2,Pt b4] H2 _
 have n2:¬ own b2:=fun h=>hv.old _ _ _ hs h f2
 have n4:¬ own b4:=fun h=>hv.old _ _ _ (hv.stab _ _ _ hs e1) h f4
 refine c120 (St:=fun s H'=>St s H'∧H'.objs b2=some (.cells [y])∧H'.objs b4=some (.cells [.fn (.func 120) [] [Pt b2,Pt b4]])∧HExc own H2 H') (f:=f)
  ⟨fun s H' d x K hx hs' hk=>hv.call s H' d x K hx hs'.1 (fun H'' hs'' he=>hk H'' ⟨hs'',he.obj hs'.2.1 n2,he.obj hs'.2.2.1 n4,hs'.2.2.2.trans he⟩)⟩
  (fun s H' hs'=>⟨hs'.2.1,hs'.2.2.1⟩) x hok s H2 1 _ ⟨hs2,o2,o4,HExc.refl _ _⟩ (fun H' hs'=>?_)
 exact hq H' hs'.1 ((e1.trans e3).exc.trans hs'.2.2.2)

def stepC (s:Int × Bool) (_:Int) (x:Ex):Int × Bool:=(W64 (s.1+1),s.2 && rightP x)
def checkP (x:Ex):Int :=
 if 100 < (foldX stepC (0,true) 1 x).1 then 2 else if (foldX stepC (0,true) 1 x).2=false then 1 else 0
theorem c57 (x:Ex) (H:Heap) (Q:Post) (hq:∀ b,H.fresh b→Q (.fn (.func 119) [] [Pt b]) (H.setObj b (.cells (encC x)))):E 57 [encX x] H Q:=by
 rw [f57_eq,szX,ob_some]
 intro b hb
 exact hq b hb
theorem visitC (H0:Heap) (bn bf l:Nat) (n1:bn ≠ bf) (n2:bn ≠ l) (n3:bf ≠ l) (L:LoopInfo) (hL:L=f28_L8 (Pt bn) (Pt bf)) :
  Visit (Int × Bool) (.fn (.yield l) [] []) (fun b=>b=bn ∨ b=bf ∨ b=l)
   (fun s H=>H.objs bn=some (.cells [I s.1])∧H.objs bf=some (.cells [B s.2])∧H.objs l=some (.loop L .ready)) stepC:=by
 refine ⟨rfl,fun s H H' hs he=>⟨he.obj hs.1,he.obj hs.2.1,he.obj hs.2.2⟩,fun s H b hs hb=>?_,fun s H d x K hx hs hk=>?_⟩
 ·rcases hb with rfl | rfl | rfl
  ·exact not_fresh hs.1
  ·exact not_fresh hs.2.1
  ·exact not_fresh hs.2.2
 obtain ⟨s1,s2,s3⟩:=hs
 show Ev Pg Hs (.yield l) [I d,encX x] H K
 rw [Ev_yield s3,hL,f28_y8_eq,szX,ob_some,splX,ob_some]
 unfold beginA
 rw [s3]
 simp only
 have t1:(H.setObj l (.loop L .busy)).objs bn=some (.cells [I s.1]):=(setObj_ne H _ n2).trans s1
 have t2:(H.setObj l (.loop L .busy)).objs bf=some (.cells [B s.2]):=(setObj_ne H _ n3).trans s2
 have t3:=setObj_same H l (.loop L .busy)
 have te:HExc (fun b=>b=bn ∨ b=bf ∨ b=l) H (H.setObj l (.loop L .busy)):=(HExc.refl _ H).setObj (.inl (.inr (.inr rfl))) _
 generalize H.setObj l (.loop L .busy)=H1 at t1 t2 t3 te ⊢
 rw [ld_Pt t1]
 simp only [part_f,List.getElem?_cons_zero,ob_some,i_add]
 rw [st_Pt t1 (sz1_I _),ob_some]
 have u1:=setObj_same H1 bn (.cells [I (W64 (s.1+1))])
 have u2:(H1.setObj bn (.cells [I (W64 (s.1+1))])).objs bf=some (.cells [B s.2]):=(setObj_ne H1 _ (Ne.symm n1)).trans t2
 have u3:(H1.setObj bn (.cells [I (W64 (s.1+1))])).objs l=some (.loop L .busy):=(setObj_ne H1 _ (Ne.symm n2)).trans t3
 have ue:HExc (fun b=>b=bn ∨ b=bf ∨ b=l) H (H1.setObj bn (.cells [I (W64 (s.1+1))])):=te.setObj (.inl (.inl rfl)) _
 generalize H1.setObj bn (.cells [I (W64 (s.1+1))])=H2 at u1 u2 u3 ue ⊢
 rw [ld_Pt u2]
 simp only [part_f,List.getElem?_cons_zero,ob_some]
 have fin:∀ (c:Bool) (H3:Heap),c=(s.2 && rightP x)→HExt H2 H3→ob (stH H3 1 (Pt bf) (B c)) fun H30=>endA l H30 true .ready K:=fun c H3 hc he=>by
  rw [st_Pt (he.obj u2) (sz1_B _),ob_some]
  unfold endA
  have v1:=setObj_same H3 bf (.cells [B c])
  have v2:(H3.setObj bf (.cells [B c])).objs bn=some (.cells [I (W64 (s.1+1))]):=(setObj_ne H3 _ n1).trans (he.obj u1)
  have v3:(H3.setObj bf (.cells [B c])).objs l=some (.loop L .busy):=(setObj_ne H3 _ (Ne.symm n3)).trans (he.obj u3)
  have ve:HExc (fun b=>b=bn ∨ b=bf ∨ b=l) H (H3.setObj bf (.cells [B c])):=(ue.trans he.exc).setObj (.inl (.inr (.inl rfl))) _
  rw [v3]
  simp only
  refine hk _ ⟨?_,?_,setObj_same _ _ _⟩ (ve.setObj (.inl (.inr (.inr rfl))) _)
  ·rw [setObj_ne _ _ n2,v2];rfl
  ·rw [setObj_ne _ _ n3,v1,hc];rfl
 refine cnd_intro (fun h=>?_) (fun h=>?_)
 ·rw [partX,ob_some]
  refine c58 x hx.1 hx.2.1 hx.2.2 H2 _ (fun H3 he=>?_)
  exact fin _ H3 (by rw [h,Bool.true_and]) he
 ·exact fin false H2 (by rw [h,Bool.false_and]) (HExt.refl _)
theorem c28 (x:Ex) (hok:allX okX x) (H:Heap) (Q:Post) (hq:∀ H',HExt H H'→Q (I (checkP x)) H'):E 28 [encX x] H Q:=by
 rw [f28_eq,szX,ob_some]
 intro bn hn
 simp only [Pt_def]
 have e1:HExt H (H.setObj bn (.cells [I 0])):=(HExt.refl H).setObj hn _
 have o1:=setObj_same H bn (.cells [I 0])
 generalize H.setObj bn (.cells [I 0])=H1 at e1 o1 ⊢
 intro bf hf
 simp only [Pt_def]
 have n1:bn ≠ bf:=fresh_ne o1 hf
 have e2:HExt H (H1.setObj bf (.cells [B false])):=e1.setObj (e1.fresh hf) _
 have o2:=setObj_same H1 bf (.cells [B false])
 have o1:(H1.setObj bf (.cells [B false])).objs bn=some (.cells [I 0]):=(setObj_ne H1 _ n1).trans o1
 have hf':=e1.fresh hf
 generalize H1.setObj bf (.cells [B false])=H2 at e2 o1 o2 ⊢
 rw [st_Pt o1 (sz1_I _),ob_some]
 have e3:HExt H (H2.setObj bn (.cells [I 0])):=e2.setObj hn _
 have o2:(H2.setObj bn (.cells [I 0])).objs bf=some (.cells [B false]):=(setObj_ne H2 _ (Ne.symm n1)).trans o2
 have o1:=setObj_same H2 bn (.cells [I 0])
 generalize H2.setObj bn (.cells [I 0])=H3 at e3 o1 o2 ⊢
 rw [st_Pt o2 (sz1_B _),ob_some,partX,ob_some]
 have e4:HExt H (H3.setObj bf (.cells [B true])):=e3.setObj hf' _
 have o1:(H3.setObj bf (.cells [B true])).objs bn=some (.cells [I 0]):=(setObj_ne H3 _ n1).trans o1
 have o2:=setObj_same H3 bf (.cells [B true])
 generalize H3.setObj bf (.cells [B true])=H4 at e4 o1 o2 ⊢
 refine c57 x H4 _ (fun b1 hb=>?_)
 have e5:HExt H4 (H4.setObj b1 (.cells (encC x))):=(HExt.refl H4).setObj hb _
 have ox:=setObj_same H4 b1 (.cells (encC x))
 generalize H4.setObj b1 (.cells (encC x))=H5 at e5 ox ⊢
 have o1:=e5.obj o1
 have o2:=e5.obj o2
 refine ⟨trivial,?_⟩
 intro l hl
 have n2:=fresh_ne o1 hl
 have n3:=fresh_ne o2 hl
 have e6:HExt H5 (H5.setObj l (.loop (f28_L8 (Pt bn) (Pt bf)) .ready)):=(HExt.refl H5).setObj hl _
 have o3:=setObj_same H5 l (.loop (f28_L8 (Pt bn) (Pt bf)) .ready)
 generalize H5.setObj l (.loop (f28_L8 (Pt bn) (Pt bf)) .ready)=H6 at e6 o3 ⊢
 show E 119 [.fn (.yield l) [] [],Pt b1] H6 _
 refine c119 (visitC H bn bf l n1 n2 n3 _ rfl) x hok b1 (0,true) H6 _ (e6.obj ox) ⟨e6.obj o1,e6.obj o2,o3⟩ (fun H7 hs he=>?_)
 obtain ⟨s1,s2,s3⟩:=hs
 have hE:HExt H H7:=he.ext ((e4.trans e5).trans e6) (fun b hb=>by
  rcases hb with rfl | rfl | rfl
  ·exact hn
  ·exact hf'
  ·exact (e4.trans e5).fresh hl)
 unfold overA
 rw [s3]
 simp only
 have t1:(H7.setObj l (.loop (f28_L8 (Pt bn) (Pt bf)) .over)).objs bn=_:=(setObj_ne H7 _ n2).trans s1
 have t2:(H7.setObj l (.loop (f28_L8 (Pt bn) (Pt bf)) .over)).objs bf=_:=(setObj_ne H7 _ n3).trans s2
 have hE':HExt H (H7.setObj l (.loop (f28_L8 (Pt bn) (Pt bf)) .over)):=hE.setObj ((e4.trans e5).fresh hl) _
 generalize H7.setObj l (.loop (f28_L8 (Pt bn) (Pt bf)) .over)=H8 at t1 t2 hE' ⊢
 rw [f28_j14_eq,ld_Pt t1]
 simp only [part_f,List.getElem?_cons_zero,ob_some,i_gtr,ld_Pt t2,not_B]
 have:=hq H8 hE'
 simp only [checkP] at this
 refine cnd_intro (fun h=>?_) (fun h=>cnd_intro (fun h'=>?_) (fun h'=>?_))
 ·rw [if_pos (by simpa using h)] at this;exact this
 ·rw [if_neg (by simpa using h),if_pos (by simpa using h')] at this;exact this
 ·rw [if_neg (by simpa using h),if_neg (by simpa using h')] at this;exact this
end Go.Hx
namespace Go.Hx
def rng (n:Int):Prop:=-9223372036854775808≤n∧n≤9223372036854775807
theorem w64_rng (n:Int):rng (W64 n):=by
 have hb:IntKind.i64.bits=64:=rfl
 have hs:IntKind.i64.signed=true:=rfl
 simp only [W64,IntKind.wrap,hb,hs,Bool.true_and,decide_eq_true_eq,rng]
 split<;>omega
/-- a wrapped number is another one by so many rounds -/
theorem w64_mod (n:Int):∃ k:Int,W64 n=n+k * 18446744073709551616:=by
 have hb:IntKind.i64.bits=64:=rfl
 have hs:IntKind.i64.signed=true:=rfl
 simp only [W64,IntKind.wrap,hb,hs,Bool.true_and,decide_eq_true_eq]
 split
 ·exact ⟨-(n / 18446744073709551616) - 1,by omega⟩
 ·exact ⟨-(n / 18446744073709551616),by omega⟩
theorem toInt_of {n:Int} (h:rng n):(BitVec.ofInt 64 n).toInt=n:=by
 obtain ⟨h1,h2⟩:=h
 rw [BitVec.toInt_ofInt]
 exact Int.bmod_eq_of_le (by omega) (by omega)
theorem wrap_bv (x:BitVec 64):W64 (x.toNat:Int)=x.toInt:=by
 have hb:IntKind.i64.bits=64:=rfl
 have hs:IntKind.i64.signed=true:=rfl
 have hx:=x.isLt
 simp only [W64,IntKind.wrap,hb,hs,Bool.true_and,decide_eq_true_eq]
 rw [BitVec.toInt_eq_toNat_cond]
 split<;>split<;>omega
theorem and_not1 {n:Int} (h:rng n):bitsI .andNot .i64 n 1=0 ↔ (n=0 ∨ n=1):=by
 have e:bitsI .andNot .i64 n 1=(BitVec.ofInt 64 n &&& ~~~BitVec.ofInt 64 1).toInt:=wrap_bv _
 rw [e]
 constructor
 ·intro h0
  have h1:BitVec.ofInt 64 n &&& ~~~BitVec.ofInt 64 1=0#64:=BitVec.eq_of_toInt_eq (by rw [h0];rfl)
  have hx:BitVec.ofInt 64 n=0#64 ∨ BitVec.ofInt 64 n=1#64:=by
   generalize BitVec.ofInt 64 n=x at h1
   have hi:∀ i,0 < i→x.getLsbD i=false:=fun i hi=>by
    rcases Nat.lt_or_ge i 64 with hlt | hge
    ·have:=congrArg (fun y=>y.getLsbD i) h1
     have o1:(BitVec.ofInt 64 1).getLsbD i=false:=by
      show (1#64).getLsbD i=false
      rw [BitVec.getLsbD_one];simp;omega
     simp only [BitVec.getLsbD_and,BitVec.getLsbD_not,o1,hlt,decide_true,Bool.true_and,Bool.not_false,Bool.and_true,BitVec.getLsbD_zero] at this
     exact this
    ·exact BitVec.getLsbD_of_ge _ _ hge
   cases h0:x.getLsbD 0 with
   | false =>
    left
    apply BitVec.eq_of_getLsbD_eq
    intro i _
    rw [BitVec.getLsbD_zero]
    cases i with
    | zero=>exact h0
    | succ i=>exact hi _ (by omega)
   | true =>
    right
    apply BitVec.eq_of_getLsbD_eq
    intro i _
    rw [BitVec.getLsbD_one]
    cases i with
    | zero=>rw [h0];rfl
    | succ i=>rw [hi _ (by omega)];simp
  have ht:=toInt_of h
  rcases hx with hx | hx
  ·left;rw [hx] at ht;exact ht.symm
  ·right;rw [hx] at ht;exact ht.symm
 ·rintro (rfl | rfl)<;>decide
theorem sz3 (v:Vl):sizedA 3 (encV v)=some [I v.k,I v.n,S v.s]:=rfl
mutual
/-- may all nodes be -/
def allR:Ex→Bool
 | .mk k v var fld sz nil tip l=>rightP (.mk k v var fld sz nil tip l) && allRs l
def allRs:List Ex→Bool
 | []=>true
 | x::r=>allR x && allRs r
end
theorem allR_eq (x:Ex):allR x=(rightP x && allRs x.l):=by cases x;simp [allR,Ex.l]
theorem allRs_mem {l:List Ex} (h:allRs l=true) {x:Ex} (hx:x ∈ l):allR x=true:=by
 induction l with
 | nil=>cases hx
 | cons y r ih =>
  simp only [allRs,Bool.and_eq_true] at h
  cases hx with
  | head=>exact h.1
  | tail _ hx=>exact ih h.2 hx
/-- of a node that may be and has parts -/
theorem rightP_len {x:Ex} (h:rightP x=true) (h1:x.k ≠ 1) (h2:x.k ≠ 2):(x.k=3∧x.l.length=1) ∨ (x.k=15∧x.l.length=1) ∨ (4≤x.k∧x.k≤14∧x.l.length=2) ∨ ((x.k=16 ∨ x.k=17)∧2≤x.l.length):=by
 simp only [rightP,if_neg h1,if_neg h2] at h
 split at h
 ·cases h
 ·split at h
  ·rename_i h3;simp at h;omega
  ·split at h
   ·rename_i h3;simp at h;omega
   ·simp [isRowP] at h;omega
theorem stepC_all (x:Ex):∀ (s:Int × Bool) (d:Int),(foldX stepC s d x).2=(s.2 && allR x):=by
 induction x using Ex.ind with
 | h x ih =>
  intro s d
  rw [foldX_eq,allR_eq]
  have:∀ (r:List Ex),(∀ y ∈ r,y ∈ x.l)→∀ (s:Int × Bool) (d:Int),(foldXs stepC s d r).2=(s.2 && allRs r):=by
   intro r
   induction r with
   | nil=>intro _ s d;simp [foldXs,allRs]
   | cons y r ihr =>
    intro hy s d
    simp only [foldXs,allRs]
    rw [ihr (fun z hz=>hy z (by simp [hz])),ih y (hy y (by simp)),Bool.and_assoc]
  rw [this x.l (fun _ h=>h)]
  simp only [stepC,Bool.and_assoc]
theorem sizeX_eq (x:Ex):sizeX x=1+sizeXs x.l:=by cases x;simp [sizeX,Ex.l]
theorem stepC_size (x:Ex):∀ (n:Nat) (b:Bool) (d:Int),n+sizeX x≤1152921504606846976→(foldX stepC ((n:Int),b) d x).1=((n+sizeX x:Nat):Int):=by
 induction x using Ex.ind with
 | h x ih =>
  intro n b d hn
  rw [sizeX_eq] at hn
  have:∀ (r:List Ex),(∀ y ∈ r,y ∈ x.l)→∀ (n:Nat) (b:Bool) (d:Int),n+sizeXs r≤1152921504606846976→(foldXs stepC ((n:Int),b) d r).1=((n+sizeXs r:Nat):Int):=by
   intro r
   induction r with
   | nil=>intro _ n b d _;simp [foldXs,sizeXs]
   | cons y r ihr =>
    intro hy n b d hn
    simp only [foldXs,sizeXs] at hn ⊢
    have h1:=ih y (hy y (by simp)) n b d (by omega)
    have h2:foldX stepC ((n:Int),b) d y=(((n+sizeX y:Nat):Int),(foldX stepC ((n:Int),b) d y).2):=by rw [← h1]
    rw [h2,ihr (fun z hz=>hy z (by simp [hz])) _ _ _ (by omega)]
    congr 1;omega
  rw [foldX_eq,sizeX_eq]
  have h3:stepC ((n:Int),b) d x=(((n+1:Nat):Int),b && rightP x):=by
   simp only [stepC]
   rw [w64_id (by omega) (by omega)];rfl
  rw [h3,this x.l (fun _ h=>h) _ _ _ (by omega)]
  congr 1;omega
theorem checkP_eq (x:Ex) (h:sizeX x≤1152921504606846975):checkP x=if 100 < sizeX x then 2 else if allR x=false then 1 else 0:=by
 have h1:=stepC_size x 0 true 1 (by omega)
 have h2:=stepC_all x (0,true) 1
 simp only [Bool.true_and] at h2
 simp only [checkP,h2]
 have:(foldX stepC (0,true) 1 x).1=((sizeX x:Nat):Int):=by simpa using h1
 rw [this]
 by_cases h3:100 < sizeX x
 ·rw [if_pos (by omega),if_pos h3]
 ·rw [if_neg (by omega),if_neg h3]
theorem checkP_all {x:Ex} (h:checkP x=0):allR x=true:=by
 have h2:=stepC_all x (0,true) 1
 simp only [Bool.true_and] at h2
 simp only [checkP,h2] at h
 split at h
 ·cases h
 ·split at h
  ·cases h
  ·rename_i h3;simpa using h3
/-- a value's number is one -/
def vr (v:Vl):Prop:=rng v.n
theorem rightV_eq {v:Vl} (h:vr v):rightV v=(if v.k=0 then decide (v.n=0) && decide (v.s=e0) else if v.k=1 then (decide (v.n=0) || decide (v.n=1)) && decide (v.s=e0) else if v.k=2 then decide (v.s=e0)
  else if v.k=3 then decide (v.n=0) && decide ((v.s.size:Int)≤256) else false):=by
 simp only [rightV]
 split
 ·rename_i hk
  cases v with | mk k n s =>
  simp only at hk
  subst hk
  rw [Bool.eq_iff_iff];simp [nullV]
 ·split
  ·rw [Bool.eq_iff_iff]
   simp only [Bool.and_eq_true,decide_eq_true_eq,Bool.or_eq_true,and_not1 h]
   exact and_comm
  ·rfl
theorem c190 (v:Vl) (hv:vr v) (H:Heap) (Q:Post):E 190 [encV v] H Q=Q (B (rightV v)) H:=by
 rw [rightV_eq hv]
 simp only [f190_eq,sz3,part_f,ob_some,i_eql,cnd_B,s_eql,len_S,i_leq,f190_j11_eq,f190_j17_eq,f190_j29_eq,List.getElem?_cons_zero,List.getElem?_cons_succ,decide_eq_true_eq]
 repeat' split
 all_goals first | rfl | (simp_all;done) | (exfalso;simp_all;done)
theorem bld0:bldA [] [I 0,I 0,S e0]=some (encV nullV):=rfl
theorem v_neq (t:Bool) (v w:Vl):binA Pg .neq 23 t (encV v) (encV w)=some (B (!decide (v=w))):=by
 have h0:binA Pg .neq 23 t (encV v) (encV w)=(eqT Pg 4 23 (encV v) (encV w)).map fun r=>.raw (.bool (!r)):=by
  have:=v_ok t v w
  simp only [encV] at this ⊢
  simp only [binA,this]
 have h1:=v_eql t v w
 rw [v_eql0] at h1
 rw [h0]
 cases hr:eqT Pg 4 23 (encV v) (encV w) with
 | none=>rw [hr] at h1;cases h1
 | some r =>
  rw [hr] at h1
  simp only [Option.map_some,Option.some.injEq,B,AV.raw.injEq,Value.bool.injEq] at h1
  simp only [Option.map_some,h1]
  rfl
theorem p0X (x:Ex):(encC x)[0]?=some (I x.k):=by rw [encC_eq];rfl
theorem p4X (x:Ex):(encC x)[4]?=some (S x.var):=by rw [encC_eq];rfl
theorem p5X (x:Ex):(encC x)[5]?=some (S x.fld):=by rw [encC_eq];rfl
theorem p6X (x:Ex):(encC x)[6]?=some (encXs x.sz x.nil x.tip x.l):=by rw [encC_eq];rfl
theorem sizeXs_append (l r:List Ex):sizeXs (l++r)=sizeXs l+sizeXs r:=by
 induction l with
 | nil=>simp [sizeXs]
 | cons x l ih=>simp only [List.cons_append,sizeXs,ih];omega
theorem one_le_sizeX (x:Ex):1≤sizeX x:=by rw [sizeX_eq];omega
theorem len_sizeXs (l:List Ex):l.length≤sizeXs l:=by
 induction l with
 | nil=>simp [sizeXs]
 | cons x l ih=>have:=one_le_sizeX x;simp only [List.length_cons,sizeXs];omega
theorem c23 (x:Ex):sizeX x≤1152921504606846975→∀ (H:Heap) (Q:Post),E 23 [encX x] H Q=Q (I (sizeX x)) H:=by
 induction x using Ex.ind with
 | h x ih =>
  intro hs H Q
  have hs':=hs
  rw [sizeX_eq] at hs'
  have loop:∀ (r pre:List Ex),x.l=pre++r→f23_l8 (encC x) (I ((1+sizeXs pre:Nat):Int)) (I pre.length) H Q=Q (I (sizeX x)) H:=by
   intro r
   induction r with
   | nil =>
    intro pre e
    have h1:(pre.length:Int)=x.l.length:=by rw [e];simp
    have h2:pre=x.l:=by rw [e];simp
    rw [f23_l8_eq,part_f,p6X,ob_some,lenX,ob_some,i_lss,ob_some,cnd_B,h1,sizeX_eq,h2]
    simp
   | cons y r ihr =>
    intro pre e
    have hlt:pre.length < x.l.length:=by rw [e];simp
    have hlt':(pre.length:Int) < x.l.length:=by omega
    have hl:=len_sizeXs x.l
    have hsum:sizeXs pre+(sizeX y+sizeXs r)=sizeXs x.l:=by rw [e,sizeXs_append];rfl
    have:=ihr (pre++[y]) (by simp [e])
    rw [List.length_append,List.length_singleton,sizeXs_append] at this
    rw [f23_l8_eq,part_f,p6X,ob_some,lenX,ob_some,i_lss,ob_some,cnd_B,if_pos (by simpa using hlt'),ob_some,ixX x.l x.sz x.nil x.tip pre r y e,ob_some,partX,ob_some,ih y (by rw [e];simp) (by omega),i_add,ob_some,i_add,ob_some,w64_succ hlt (by omega),
     w64_id (by omega) (by omega)]
    rw [← this]
    congr 2
    simp only [sizeXs]
    omega
  rw [f23_eq,szX,ob_some]
  exact loop x.l [] rfl
def partOK (k:Int) (y:Ex):Bool:=allR y && !(isRowP k && decide (y.k=k))
theorem all_part (k:Int) (l:List Ex):l.all (partOK k)=(allRs l && !(isRowP k && l.any fun y=>decide (y.k=k))):=by
 induction l with
 | nil=>simp [allRs]
 | cons y r ih =>
  simp only [List.all_cons,List.any_cons,allRs,ih,partOK]
  cases allR y<;>cases allRs r<;>cases isRowP k<;>cases decide (y.k=k)<;>cases (r.any fun y=>decide (y.k=k))<;>rfl
def restR (x:Ex):Bool :=
 if x.k=1 then decide (x.l.length=0) && rightV x.v
 else if x.k=2 then decide (x.l.length=0) && (nameL x.var.data.toList && nameL x.fld.data.toList)
 else if x.k=3 ∨ x.k=15 then decide (x.l.length=1) && x.l.all (partOK x.k)
 else if 4≤x.k∧x.k≤14 then decide (x.l.length=2) && x.l.all (partOK x.k)
 else if x.k=16 ∨ x.k=17 then decide (2≤x.l.length) && x.l.all (partOK x.k)
 else false
theorem restR_eq (x:Ex):(if (x.k ≠ 1∧x.v ≠ nullV) ∨ (x.k ≠ 2∧(x.var ≠ e0 ∨ x.fld ≠ e0)) then false else restR x)=allR x:=by
 rw [allR_eq]
 simp only [restR,rightP,all_part,bareP]
 have hnil:x.l.length=0→allRs x.l=true:=fun h=>by rw [List.eq_nil_of_length_eq_zero h];rfl
 by_cases h1:x.k=1
 ·simp only [h1]
  by_cases hv:x.var=e0<;>by_cases hf:x.fld=e0<;>by_cases hl:x.l.length=0<;>simp [hv,hf,hl,hnil]
 ·by_cases h2:x.k=2
  ·simp only [h2]
   by_cases hv:x.v=nullV<;>by_cases hl:x.l.length=0<;>simp [hv,hl,hnil]
  ·by_cases hb:x.v=nullV∧x.var=e0∧x.fld=e0
   ·have hc:¬ ((x.k ≠ 1∧x.v ≠ nullV) ∨ (x.k ≠ 2∧(x.var ≠ e0 ∨ x.fld ≠ e0))):=by simp [hb]
    rw [if_neg hc]
    simp only [h1,h2,if_false,hb.1,hb.2.1,hb.2.2,decide_true,Bool.and_self,Bool.true_eq_false]
    by_cases h3:x.k=3 ∨ x.k=15
    ·have hr:isRowP x.k=false:=by rcases h3 with h | h<;>simp [isRowP,h]
     simp [h3,hr]
    ·by_cases h4:4≤x.k∧x.k≤14
     ·have hr:isRowP x.k=false:=by simp [isRowP];omega
      simp [h3,h4,hr]
     ·by_cases h5:x.k=16 ∨ x.k=17
      ·have hr:isRowP x.k=true:=by rcases h5 with h | h<;>simp [isRowP,h]
       simp only [h3,h4,h5,hr,if_true,if_false,Bool.true_and]
       cases allRs x.l<;>cases (x.l.any fun y=>decide (y.k=x.k))<;>cases decide (2≤x.l.length)<;>rfl
      ·have hr:isRowP x.k=false:=by simp [isRowP];omega
       simp [h3,h4,h5,hr]
   ·have hc:(x.k ≠ 1∧x.v ≠ nullV) ∨ (x.k ≠ 2∧(x.var ≠ e0 ∨ x.fld ≠ e0)):=by
     by_cases hv:x.v=nullV
     ·by_cases hx:x.var=e0
      ·by_cases hf:x.fld=e0
       ·exact absurd ⟨hv,hx,hf⟩ hb
       ·exact .inr ⟨h2,.inr hf⟩
      ·exact .inr ⟨h2,.inl hx⟩
     ·exact .inl ⟨h1,hv⟩
    rw [if_pos hc]
    have:(decide (x.v=nullV) && (decide (x.var=e0) && decide (x.fld=e0)))=false:=by
     rw [Bool.eq_false_iff];simp only [ne_eq,Bool.and_eq_true,decide_eq_true_eq];exact hb
    simp [h1,h2,this]
def vX (x:Ex):Prop:=vr x.v
theorem c111 (x:Ex):allX okX x→allX vX x→∀ (H:Heap) (Q:Post),E 111 [encX x] H Q=Q (B (allR x)) H:=by
 induction x using Ex.ind with
 | h x ih =>
  intro hok hvx H Q
  have hok':=(allX_eq _ _).1 hok
  have hvx':=(allX_eq _ _).1 hvx
  have hn:x.l.length≤1099511627776:=hok'.1.1
  have loop:∀ (r pre:List Ex),x.l=pre++r→f111_l63 (encC x) (I x.l.length) (I pre.length) H Q=Q (B (r.all (partOK x.k))) H:=by
   intro r
   induction r with
   | nil =>
    intro pre e
    have h1:(pre.length:Int)=x.l.length:=by rw [e];simp
    rw [f111_l63_eq,i_lss,ob_some,cnd_B,h1]
    simp
   | cons y r ihr =>
    intro pre e
    have hlt:pre.length < x.l.length:=by rw [e];simp
    have hlt':(pre.length:Int) < x.l.length:=by omega
    have hy:=ih y (by rw [e];simp) (allXs_mem hok'.2 (by rw [e];simp)) (allXs_mem hvx'.2 (by rw [e];simp))
    have ih2:=ihr (pre++[y]) (by simp [e])
    rw [List.length_append,List.length_singleton] at ih2
    have p0':((encC y).drop 0)[0]?=some (I y.k):=p0X y
    have j74:∀ b:Bool,f111_j74 (encC x) (I x.l.length) (I pre.length) (B b) H Q=Q (B (!b && r.all (partOK x.k))) H:=fun b=>by
     rw [f111_j74_eq,cnd_B,i_add,ob_some,w64_succ hlt (by omega),ih2]
     cases b<;>rfl
    rw [f111_l63_eq,i_lss,ob_some,cnd_B,if_pos (by simpa using hlt'),part_f,p6X,ob_some,ixX x.l x.sz x.nil x.tip pre r y e,ob_some,partX,ob_some,hy]
    simp only [not_B,ob_some,part_f,p0X,p6X,p0',ixX x.l x.sz x.nil x.tip pre r y e,i_eql,f111_c21_16a_eq,f111_c21_16b_eq,f111_c21_16c_eq,f111_c21_27a_eq,f111_c21_27b_eq,f111_c21_27c_eq,j74,cnd_B,List.all_cons,partOK,isRowP]
    cases allR y
    ·simp
    ·by_cases h16:x.k=16
     ·simp [h16]
     ·by_cases h17:x.k=17
      ·simp [h17]
      ·simp [h16,h17]
  have j5:∀ b:Bool,f111_j5 (encC x) (B b) H Q=Q (B (if b=true then false else restR x)) H:=fun b=>by
   have l0:=loop x.l [] rfl
   have l0':f111_l63 (encC x) (I x.l.length) (I 0) H Q=Q (B (x.l.all (partOK x.k))) H:=l0
   simp only [f111_j5_eq,f111_j19_eq,f111_j25_eq,f111_j28_eq,f111_j38_eq,f111_j48_eq,part_f,p0X,p4X,p5X,p6X,partXV,ob_some,lenX,i_eql,i_neq,i_geq,i_leq,i_lss,c190 x.v hvx'.1,c191 x.var hok'.1.2.1,c191 x.fld hok'.1.2.2,l0',cnd_B,restR,decide_eq_true_eq,len0,len1,len2]
   cases b
   ·simp only [Bool.false_eq_true,if_false]
    by_cases h1:x.k=1
    ·simp only [h1,if_true]
     by_cases hl:x.l.length=0<;>simp [hl]
    ·by_cases h2:x.k=2
     ·simp only [h1,h2,if_true,if_false]
      by_cases hl:x.l.length=0
      ·cases hna:nameL x.var.data.toList<;>simp [hl,hna]
      ·simp [hl]
     ·simp only [h1,h2,if_false]
      by_cases h3:x.k=3 ∨ x.k=15
      ·have e1:x.k=3 ∨ ¬ x.k=3:=Classical.em _
       by_cases hl:x.l.length=1
       ·rcases h3 with h | h<;>simp [h,hl]
       ·have:¬ (x.l.length:Int)=1:=by omega
        rcases h3 with h | h<;>simp [h,hl,this]
      ·have h3a:¬ x.k=3:=fun h=>h3 (.inl h)
       have h3b:¬ x.k=15:=fun h=>h3 (.inr h)
       by_cases h4:4≤x.k∧x.k≤14
       ·by_cases hl:x.l.length=2
        ·simp [h3a,h3b,h4,hl]
        ·have:¬ (x.l.length:Int)=2:=by omega
         simp [h3a,h3b,h4,hl,this]
       ·by_cases h5:x.k=16 ∨ x.k=17
        ·have h4':¬ (x.k≤14):=by omega
         by_cases hl:2≤x.l.length
         ·have:¬ (x.l.length:Int) < 2:=by omega
          rcases h5 with h | h<;>simp [h,hl,this]
         ·have:(x.l.length:Int) < 2:=by omega
          rcases h5 with h | h<;>simp [h,hl,this]
        ·have h5a:¬ x.k=16:=fun h=>h5 (.inl h)
         have h5b:¬ x.k=17:=fun h=>h5 (.inr h)
         by_cases h6:4≤x.k
         ·have:¬ x.k≤14:=fun h=>h4 ⟨h6,h⟩
          simp [h3a,h3b,h5a,h5b,h6,this]
         ·simp [h3a,h3b,h5a,h5b,h6]
   ·simp
  rw [← restR_eq,f111_eq,szX,ob_some]
  simp only [part_f,p0X,p4X,p5X,partXV,bld0,ob_some,v_neq,i_neq,s_neq,f111_c1_9a_eq,f111_c1_9b_eq,f111_c1_22a_eq,f111_c1_22b_eq,f111_c1_22c_eq,f111_c1_22d_eq,f111_c1_23a_eq,f111_c1_23b_eq,f111_c1_23c_eq,f111_c1_23d_eq,j5,cnd_B]
  by_cases h1:x.k=1<;>by_cases h2:x.k=2<;>by_cases h3:x.v=nullV<;>by_cases h4:x.var=e0<;>by_cases h5:x.fld=e0<;>simp [h1,h2,h3,h4,h5]
theorem c51 (x:Ex) (hok:allX okX x) (hv:allX vX x) (hs:sizeX x≤1152921504606846975) (H:Heap) (Q:Post):E 51 [encX x] H Q=Q (I (checkP x)) H:=by
 rw [f51_eq,szX,ob_some,partX,ob_some,c23 x hs,checkP_eq x hs]
 simp only [i_gtr,ob_some,partX,c111 x hok hv,not_B,cnd_B,decide_eq_true_eq]
 by_cases h:100 < sizeX x
 ·rw [if_pos (by omega),if_pos h]
 ·rw [if_neg (by omega),if_neg h]
  cases allR x<;>rfl
end Go.Hx
namespace Go.Hx
theorem OwnS.ext {H0 H H':Heap} {sz n:Nat} {tip:Tip} (h:OwnS H0 H sz n tip) (he:HExt H H'):OwnS H0 H' sz n tip:=by
 cases tip with
 | any=>exact h
 | full=>exact h
 | tip b =>
  refine ⟨?_,h.2⟩
  have h1:=h.1
  rw [(he b (fun hf=>by rw [hf.2] at h1;cases h1)).2.1];exact h1
theorem app_many {H0 H:Heap} {sz sz' bytes s2:Nat} {nil nil2:Bool} {tip tip2:Tip} {xs ys:List AV} {K:Post} (he:HExt H0 H) (ho:OwnS H0 H sz xs.length tip) (hs:nil=true ∨ sz'=sz) (hs2:nil2=true ∨ s2=sz) (h1:1≤sz)
  (hb:(xs.length+ys.length) * bytes≤140737488355328) (hk:∀ s' n' tip' H',(n'=true ∨ s'=sz)→HExt H0 H'→OwnS H0 H' sz (xs++ys).length tip'→K (.sl s' n' tip' (xs++ys)) H') :
  appA sz bytes (.sl sz' nil tip xs) (.sl s2 nil2 tip2 ys) H K:=by
 have ht:tailA sz (.sl s2 nil2 tip2 ys)=some ys:=by simp [tailA,hs2]
 unfold appA
 simp only [ht]
 cases ys with
 | nil=>have:=hk sz' nil tip H hs he (by simpa using ho);simpa using this
 | cons y ys =>
  refine ⟨hs,h1,hb,?_⟩
  cases tip with
  | any=>exact ho.elim
  | full =>
   intro b hf
   exact hk sz false _ _ (.inr rfl) (he.setTip (he.fresh hf) _) ⟨by simp [Heap.setTip],he.fresh hf⟩
  | tip b0 =>
   refine ⟨ho.1,fun b hf=>?_⟩
   have hf0:H0.fresh b:=by
    rcases hf with rfl | hf
    ·exact ho.2
    ·exact he.fresh hf
   exact hk sz false _ _ (.inr rfl) (he.setTip hf0 _) ⟨by simp [Heap.setTip],hf0⟩
theorem x3_0 (a b c:AV):extractA (.tup [a,b,c]) 0=some a:=rfl
theorem x3_1 (a b c:AV):extractA (.tup [a,b,c]) 1=some b:=rfl
theorem x3_2 (a b c:AV):extractA (.tup [a,b,c]) 2=some c:=rfl
theorem x2_0 (a b:AV):extractA (.tup [a,b]) 0=some a:=rfl
theorem x2_1 (a b:AV):extractA (.tup [a,b]) 1=some b:=rfl
end Go.Hx
namespace Go.Hx
theorem u90:Pg.underlying 90=some (.pointer 93):=by kernel_rfl
theorem u253:Pg.underlying 253=some .unsafePointer:=by kernel_rfl
theorem u161:Pg.underlying 161=some (.pointer 5):=by kernel_rfl
theorem cells5:Pg.cellsOf 5=1:=by kernel_rfl
theorem info93:(Pg.info? 93).isSome=true:=by kernel_rfl
/-- a struct that begins with a builder -/
def Holds93 (e:TypeId):Prop:=liesAt Pg Pg.depth e (2 / Pg.cellsOf e) 0 93 1=true
theorem lies95:Holds93 95:=by unfold Holds93;kernel_rfl
theorem lies128:Holds93 128:=by unfold Holds93;kernel_rfl
theorem conv1 (w:World) (b:Nat) (vs:Array Value) (e:TypeId) (fr:Nat × Nat) (h:w.heap[b]?=some (.cells vs e fr)) (hs:vs.size=2) :
  (convert 90 253 (.pointer (some ⟨b,0,none⟩))).run Pg w=.ok (.pointer (some ⟨b,0,none⟩)) w:=by
 obtain ⟨i,hi⟩:=Option.isSome_iff_exists.1 info93
 have hsh:w.shape? b=some (e,2):=by simp [World.shape?,h,hs]
 simp [convert,run_underlying u90,run_underlying u253,Conv.unsafePointer,Conv.seenAt,viewAt,cellsIn,hsh]
theorem conv2 (w:World) (b:Nat) (vs:Array Value) (e:TypeId) (fr:Nat × Nat) (he:Holds93 e) (h:w.heap[b]?=some (.cells vs e fr)) (hs:vs.size=2) :
  (convert 253 90 (.pointer (some ⟨b,0,none⟩))).run Pg w=.ok (.pointer (some ⟨b,0,none⟩)) w:=by
 unfold Holds93 at he
 have hsh:w.shape? b=some (e,2):=by simp [World.shape?,h,hs]
 simp [convert,run_underlying u90,run_underlying u253,Conv.unsafePointer,Conv.seenAt,viewAt,cellsIn,hsh,variablesAt,he]
theorem x_noEscape (w:World) (p:Option Addr):(callFunc 262 #[.pointer p]).run Pg w=.ok (.value (.pointer p)) w:=by kernel_rfl
theorem p_nil:binA Pg .eql 90 true (.raw (.pointer none)) (.raw (.pointer none))=some (B true):=by kernel_rfl
theorem p_some (b:Nat):binA Pg .eql 90 true (Pt b) (.raw (.pointer none))=some (B false):=by kernel_rfl
theorem p_neq (b:Nat):binA Pg .neq 90 false (Pt b) (Pt b)=some (B false):=by
 obtain ⟨i,hi⟩:=Option.isSome_iff_exists.1 info93
 simp [binA,Pt,eqOK,eqT,u90,ptrSame,hi,B]
abbrev Poff (b o:Nat):AV:=.raw (.pointer (some ⟨b,o,none⟩))
theorem nil_Pt (b:Nat):nilA (Pt b)=some (Pt b):=rfl
theorem add_Pt (b o:Nat):addPA (Pt b) o=some (Poff b o):=by simp [addPA,Pt,Poff]
theorem add0_Pt (b:Nat):addPA (Pt b) 0=some (Pt b):=rfl
def BufOK (H0 H:Heap) (b sz:Nat) (nil:Bool) (tip:Tip) (t:List UInt8):Prop :=
 (nil=true∧sz=0∧tip=.full∧t=[]) ∨ (sz=1∧nil=false∧t ≠ []∧∃ c,tip=.tip c∧c ≠ b∧H0.fresh c∧H.tips c=some t.length∧H.tys c=some 5)
theorem BufOK.mono {H0 H H':Heap} {b sz:Nat} {nil:Bool} {tip:Tip} {t:List UInt8} (h:BufOK H0 H b sz nil tip t) (he:HExt H H'):BufOK H0 H' b sz nil tip t:=by
 rcases h with h | ⟨h1,h2,h3,c,h4,h5,h6,h7,h8⟩
 ·exact .inl h
 ·have:=he c (fun hf=>by rw [hf.2] at h7;cases h7)
  exact .inr ⟨h1,h2,h3,c,h4,h5,h6,this.2.1.trans h7,this.2.2.trans h8⟩
theorem app_buf {H0 H:Heap} {b sz:Nat} {nil:Bool} {tip:Tip} {t ys:List UInt8} {x:AV} {K:Post} (he:HExt H0 H) (hb:∃ o,H.objs b=some o) (h:BufOK H0 H b sz nil tip t) (ht:tailA 1 x=some (ys.map byteA))
  (hl:t.length+ys.length≤140737488355328)
  (hk:∀ sz' nil' tip' H',BufOK H0 H' b sz' nil' tip' (t++ys)→HExt H0 H'→H'.objs=H.objs→H'.tys b=H.tys b→K (.sl sz' nil' tip' ((t++ys).map byteA)) H') :
  appB 5 (.sl sz nil tip (t.map byteA)) x H K:=by
 unfold appB
 simp only [ht]
 cases ys with
 | nil =>
  have:=hk sz nil tip H (by simpa using h) he rfl rfl
  simpa using this
 | cons y ys =>
  have hnew:∀ c,H.fresh c→K (.sl 1 false (.tip c) ((t++y::ys).map byteA)) ((H.setTip c (t.length+(y::ys).length)).setTy c 5):=fun c hc=>by
   obtain ⟨o,ho⟩:=hb
   have hne:c ≠ b:=Ne.symm (fresh_ne ho hc)
   refine hk 1 false _ _ (.inr ⟨rfl,rfl,by simp,c,rfl,hne,he.fresh hc,by simp [Heap.setTip,Heap.setTy],by simp [Heap.setTy]⟩) ((he.setTip (he.fresh hc) _).setTy (he.fresh hc) _) rfl (by simp [Heap.setTy,Heap.setTip,Ne.symm hne])
  have e1:t.map byteA++(y::ys).map byteA=(t++y::ys).map byteA:=by simp
  have e2:(t.map byteA).length=t.length:=by simp
  have e3:((y::ys).map byteA).length=(y::ys).length:=by simp
  simp only [List.map_cons] at e1 e3 ⊢
  simp only [e2,e3,e1]
  rcases h with ⟨h1,h2,h3,h4⟩ | ⟨h1,h2,h3,c,h4,h5,h6,h7,h8⟩
  ·subst h3
   exact ⟨.inl h1,hl,hnew,trivial⟩
  ·subst h4
   refine ⟨.inr h1,hl,hnew,h7,?_⟩
   refine hk 1 false _ _ (.inr ⟨rfl,rfl,by simp,c,rfl,h5,h6,by simp [Heap.setTip],by simpa [Heap.setTip] using h8⟩) (he.setTip h6 _) rfl rfl
structure Bld (H0:Heap) (b:Nat) (t:List UInt8) (H:Heap):Prop where
 ext:HExt H0 H
 fr:H0.fresh b
 ty:∃ e,H.tys b=some e∧Holds93 e
 obj:∃ a sz nil tip,H.objs b=some (.cells [a,.sl sz nil tip (t.map byteA)])∧(a=.raw (.pointer none) ∨ a=Pt b)∧BufOK H0 H b sz nil tip t
theorem Bld.mono {H0 H H':Heap} {b:Nat} {t:List UInt8} (h:Bld H0 b t H) (he:HExt H H'):Bld H0 b t H':=by
 obtain ⟨h1,h2,⟨e,h3,h4⟩,a,sz,nil,tip,h5,h6,h7⟩:=h
 exact ⟨h1.trans he,h2,⟨e,he.ty (not_fresh h5) h3,h4⟩,a,sz,nil,tip,he.obj h5,h6,h7.mono he⟩
/-- a new one -/
theorem bld_new {H0 H:Heap} (e:TypeId) (he:Holds93 e) (hx:HExt H0 H) {K:AV→Heap→Prop} (hk:∀ b H',Bld H0 b [] H'→K (Pt b) H'):newT H e [.raw (.pointer none),.sl 0 true .full []] K:=by
 intro b hb
 have hf:=hx.fresh hb
 refine hk b _ ⟨(hx.setObj hf _).setTy hf _,hf,⟨e,by simp [Heap.setTy],he⟩,.raw (.pointer none),0,true,.full,?_,.inl rfl,.inl ⟨rfl,rfl,rfl,rfl⟩⟩
 simp [Heap.setTy,Heap.setObj]
theorem c196 (b:Nat) (H0 H:Heap) (t:List UInt8) (Q:Post) (h:Bld H0 b t H) (hq:∀ H',Bld H0 b t H'→Q (.tup []) H'):E 196 [Pt b] H Q:=by
 obtain ⟨h1,h2,⟨e,h3,h4⟩,a,sz,nil,tip,h5,h6,h7⟩:=h
 rw [f196_eq]
 simp only [nil_Pt,ob_some,add0_Pt,ld_Pt h5,part_f,List.getElem?_cons_zero]
 rcases h6 with rfl | rfl
 ·rw [p_nil,ob_some,cnd_t]
  have cp:∀ (s d:TypeId) (K:AV→Prop),(∀ (w:World) (vs:Array Value) fr,w.heap[b]?=some (.cells vs e fr)→vs.size=2→(convert s d (.pointer (some ⟨b,0,none⟩))).run Pg w=.ok (.pointer (some ⟨b,0,none⟩)) w)→K (Pt b)→convP Pg s d (Pt b) H K:=fun s d K hc hk=>by
   simp only [convP,Pt,h3,h5]
   exact ⟨fun w vs fr hw hs=>hc w vs fr hw (by simpa using hs),hk⟩
  refine cp _ _ _ (fun w vs fr hw hs=>conv1 w b vs e fr hw hs) ?_
  refine ⟨fun w=>x_noEscape w _,?_⟩
  refine cp _ _ _ (fun w vs fr hw hs=>conv2 w b vs e fr h4 hw hs) ?_
  have hst:stH H 1 (Pt b) (Pt b)=some (H.setObj b (.cells [Pt b,.sl sz nil tip (t.map byteA)])):=by
   simp [stH,Pt,h5,sizedA,cellsA,spliceA]
  simp only [nil_Pt,ob_some,add0_Pt,hst]
  refine hq _ ⟨h1.setObj h2 _,h2,⟨e,h3,h4⟩,Pt b,sz,nil,tip,setObj_same _ _ _,.inr rfl,?_⟩
  rcases h7 with h7 | ⟨g1,g2,g3,c,g4,g5,g6,g7,g8⟩
  ·exact .inl h7
  ·exact .inr ⟨g1,g2,g3,c,g4,g5,g6,g7,g8⟩
 ·rw [p_some,ob_some,cnd_f,p_neq,ob_some,cnd_f]
  exact hq H ⟨h1,h2,⟨e,h3,h4⟩,Pt b,sz,nil,tip,h5,.inr rfl,h7⟩
/-- bytes are put into one -/
theorem bld_app {b:Nat} {H0 H:Heap} {t ys:List UInt8} {x:AV} (h:Bld H0 b t H) (ht:tailA 1 x=some (ys.map byteA)) (hl:t.length+ys.length≤140737488355328) (K:Heap→Prop) (hk:∀ H',Bld H0 b (t++ys) H'→K H') :
  ob (ldH H false 1 (Poff b 1)) fun r5=>appB 5 r5 x H fun r6 H7=>ob (stH H7 1 (Poff b 1) r6) fun H10=>K H10:=by
 obtain ⟨h1,h2,⟨e,h3,h4⟩,a,sz,nil,tip,h5,h6,h7⟩:=h
 rw [ld_off h5]
 simp only [part_f,List.getElem?_cons_succ,List.getElem?_cons_zero,ob_some]
 refine app_buf h1 ⟨_,h5⟩ h7 ht hl (fun sz' nil' tip' H' g1 g2 g3 g4=>?_)
 have h5':H'.objs b=some (.cells [a,.sl sz nil tip (t.map byteA)]):=by rw [g3];exact h5
 have hst:stH H' 1 (Poff b 1) (.sl sz' nil' tip' ((t++ys).map byteA))=some (H'.setObj b (.cells [a,.sl sz' nil' tip' ((t++ys).map byteA)])):=by
  simp [stH,h5',sizedA,cellsA,spliceA]
 rw [hst,ob_some]
 refine hk _ ⟨g2.setObj h2 _,h2,⟨e,g4.trans h3,h4⟩,a,sz',nil',tip',setObj_same _ _ _,h6,?_⟩
 rcases g1 with g1 | ⟨k1,k2,k3,c,k4,k5,k6,k7,k8⟩
 ·exact .inl g1
 ·exact .inr ⟨k1,k2,k3,c,k4,k5,k6,k7,k8⟩
abbrev tx (s:ByteArray):List UInt8:=s.data.toList
theorem c118 (b:Nat) (s:ByteArray) (H0 H:Heap) (t:List UInt8) (Q:Post) (h:Bld H0 b t H) (hl:t.length+(tx s).length≤140737488355328) (hq:∀ v H',Bld H0 b (t++tx s) H'→Q v H'):E 118 [Pt b,S s] H Q:=by
 rw [f118_eq]
 refine c196 b H0 H t _ h (fun H1 h1=>?_)
 simp only [nil_Pt,ob_some,add_Pt]
 refine bld_app h1 (ys:=tx s) (by simp [tailA,S,byteA]) hl _ (fun H2 h2=>?_)
 rw [len_S,ob_some]
 exact hq _ H2 h2
theorem c114 (b:Nat) (c:UInt8) (H0 H:Heap) (t:List UInt8) (Q:Post) (h:Bld H0 b t H) (hl:t.length+1≤140737488355328) (hq:∀ v H',Bld H0 b (t++[c]) H'→Q v H'):E 114 [Pt b,U8 c.toNat] H Q:=by
 rw [f114_eq]
 refine c196 b H0 H t _ h (fun H1 h1=>?_)
 have hm:mkSlA 1 [U8 c.toNat]=some (.sl 1 false .full [U8 c.toNat]):=rfl
 simp only [nil_Pt,ob_some,add_Pt,hm]
 exact bld_app h1 (ys:=[c]) (by simp [tailA,byteA]) (by simpa using hl) _ (fun H2 h2=>hq _ H2 h2)
theorem c53 (b:Nat) (H0 H:Heap) (t:List UInt8) (Q:Post) (h:Bld H0 b t H) (hl:t.length≤140737488355328) (hq:∀ H',HExt H0 H'→Q (S ⟨t.toArray⟩) H'):E 53 [Pt b] H Q:=by
 obtain ⟨h1,h2,_,a,sz,nil,tip,h5,h6,h7⟩:=h
 rw [f53_eq]
 simp only [nil_Pt,ob_some,add_Pt,ld_off h5,part_f,List.getElem?_cons_succ,List.getElem?_cons_zero,len_sl]
 rcases h7 with ⟨g1,g2,g3,g4⟩ | ⟨g1,g2,g3,c,g4,g5,g6,g7,g8⟩
 ·subst g1 g2 g3 g4
  exact hq H h1
 ·subst g1 g2 g4
  cases t with
  | nil=>exact (g3 rfl).elim
  | cons x xs =>
   simp only [List.map_cons,datA,ob_some]
   refine ⟨5,x::xs,u161,cells5,g8,rfl,by simp,by omega,g7,?_⟩
   exact hq _ (h1.dropTip g6)
end Go.Hx
namespace Go.Hx
abbrev U64 (n:Int):AV:=.raw (.int .u64 n)
theorem wrap_u64 {n:Int} (h0:0≤n) (h1:n < 18446744073709551616):IntKind.u64.wrap n=n:=by
 have hb:IntKind.u64.bits=64:=rfl
 have hs:IntKind.u64.signed=false:=rfl
 simp only [IntKind.wrap,hb,hs,Bool.false_and]
 simp;omega
theorem wrap_u8 {n:Int} (h0:0≤n) (h1:n < 256):IntKind.u8.wrap n=n:=by
 have hb:IntKind.u8.bits=8:=rfl
 have hs:IntKind.u8.signed=false:=rfl
 simp only [IntKind.wrap,hb,hs,Bool.false_and]
 simp;omega
theorem wrap_u64_neg {n:Int} (h0:-9223372036854775808≤n) (h1:n < 0):IntKind.u64.wrap n=n+18446744073709551616:=by
 have hb:IntKind.u64.bits=64:=rfl
 have hs:IntKind.u64.signed=false:=rfl
 simp only [IntKind.wrap,hb,hs,Bool.false_and]
 simp;omega
theorem u64_rem (m:Nat) (t:TypeId) (l:Bool):binA Pg .rem t l (U64 m) (U64 10)=some (U64 ((m % 10:Nat):Int)):=by
 rw [k_rem _ _ _ _ _ (by omega)]
 congr 3
theorem u64_quo (m:Nat) (h:m < 18446744073709551616) (t:TypeId) (l:Bool):binA Pg .quo t l (U64 m) (U64 10)=some (U64 ((m / 10:Nat):Int)):=by
 have h1:binA Pg .quo t l (U64 m) (U64 10)=some (U64 (IntKind.u64.wrap ((m:Int).tdiv 10))):=rfl
 have h2:(m:Int).tdiv 10=((m / 10:Nat):Int):=rfl
 rw [h1,h2,wrap_u64 (by omega) (by omega)]
/-- a digit -/
def dig (d:Nat):UInt8:=UInt8.ofNat (48+d)
theorem dig_nat {d:Nat} (h:d < 10):(dig d).toNat=48+d:=by
 simp only [dig,UInt8.toNat_ofNat']
 omega
theorem byte_dig {d:Nat} (h:d < 10):byteA (dig d)=U8 (48+d):=by
 simp only [byteA,dig_nat h,U8];rfl
def digitsN (n:Nat):List UInt8:=if n < 10 then [dig n] else digitsN (n / 10)++[dig (n % 10)]
termination_by n
decreasing_by omega
theorem digits_len:∀ (k n:Nat),1≤k→n < 10 ^ k→(digitsN n).length≤k:=by
 intro k
 induction k with
 | zero=>intro n h;omega
 | succ k ih =>
  intro n _ hn
  rw [digitsN]
  split
  ·simp
  ·rename_i h
   rcases Nat.eq_zero_or_pos k with rfl | hk
   ·omega
   ·have:=ih (n / 10) hk (by rw [Nat.pow_succ] at hn;omega)
    rw [List.length_append];simp;omega
theorem digits_len20 (n:Nat) (h:n≤9223372036854775808):(digitsN n).length≤19:=digits_len 19 n (by omega) (by omega)
def numT (n:Int):List UInt8:=(if n < 0 then [45] else [])++digitsN n.natAbs
theorem numT_len {n:Int} (h:rng n):(numT n).length≤20:=by
 have:=digits_len20 n.natAbs (by have:=h.1;have:=h.2;omega)
 simp only [numT,List.length_append]
 split<;>simp<;>omega
def strT (l:List UInt8):AV:=S ⟨l.toArray⟩
theorem tx_str (l:List UInt8):tx ⟨l.toArray⟩=l:=rfl
theorem s_add (l r:List UInt8) (t:TypeId) (b:Bool) (h:l.length+r.length≤9223372036854775807):binA Pg .add t b (strT l) (strT r)=some (strT (l++r)):=by
 have h1:binA Pg .add t b (strT l) (strT r)=strBin .add ⟨l.toArray⟩ ⟨r.toArray⟩:=rfl
 have h2:(ByteArray.mk l.toArray).size=l.length:=by simp [ByteArray.size]
 have h3:(ByteArray.mk r.toArray).size=r.length:=by simp [ByteArray.size]
 rw [h1]
 simp only [strBin,h2,h3]
 rw [if_pos (by omega)]
 simp only [strT,S,Option.some.injEq,AV.raw.injEq,Value.string.injEq]
 ext1
 simp
theorem bs_lit (l:List UInt8) (nil:Bool) (tip:Tip) (K:AV→Prop) (hk:K (strT l)):bsA (.sl 1 nil tip (l.map byteA)) K:=⟨.inr rfl,l,rfl,hk⟩
theorem c197:∀ (m:Nat) (n:Int),n.natAbs=m→rng n→∀ (H:Heap) (Q:Post),Q (strT (numT n)) H→E 197 [I n] H Q:=by
 intro m
 induction m using Nat.strongRecOn with
 | ind m ih =>
  intro n hm hr H Q hq
  obtain ⟨hr1,hr2⟩:=hr
  have one:∀ (d:Nat),d < 10→∀ (K:AV→Prop),K (strT [dig d])→ob (cvtIA .u8 (I (48+d))) fun r6=>ob (mkSlA 1 [r6]) fun r7=>bsA r7 K:=fun d hd K hk=>by
   have e1:cvtIA .u8 (I (48+d))=some (U8 (48+d)):=by
    simp only [cvtIA,I,wrap_u8 (show (0:Int)≤48+(d:Int) by omega) (show (48:Int)+(d:Int) < 256 by omega)]
   have e2:mkSlA 1 [U8 (48+d)]=some (.sl 1 false .full [U8 (48+d)]):=rfl
   rw [e1,ob_some,e2,ob_some,← byte_dig hd]
   exact bs_lit [dig d] _ _ K hk
  have hrem:binA Pg .rem 2 true (I n) (I 10)=some (I (n.tmod 10)):=i_rem 2 true n 10 (by omega)
  have hqr:rng (n.tdiv 10):=by
   by_cases h:n < 0
   ·have e:n.tdiv 10=-((m / 10:Nat):Int):=by rw [show n=-(m:Int) by omega,Int.neg_tdiv];rfl
    rw [e];exact ⟨by omega,by omega⟩
   ·have e:n.tdiv 10=((m / 10:Nat):Int):=by rw [show n=(m:Int) by omega];rfl
    rw [e];exact ⟨by omega,by omega⟩
  have hquo:binA Pg .quo 2 true (I n) (I 10)=some (I (n.tdiv 10)):=by rw [i_quo 2 true n 10 (by omega),w64_id hqr.1 hqr.2]
  rw [f197_eq,i_lss,ob_some]
  have hmin:strT [45]=S ⟨#[45]⟩:=rfl
  refine cnd_intro (fun h=>?_) (fun h=>?_)
  ·have hneg:n < 0:=by simpa using h
   have hnm:n=-(m:Int):=by omega
   have hd:n.tmod 10=-((m % 10:Nat):Int):=by rw [hnm,Int.neg_tmod];rfl
   have hqd:n.tdiv 10=-((m / 10:Nat):Int):=by rw [hnm,Int.neg_tdiv];rfl
   rw [hquo,ob_some,hrem,ob_some,i_sub,ob_some,hd,w64_id (by omega) (by omega)]
   have e48:(48:Int) - -((m % 10:Nat):Int)=48+((m % 10:Nat):Int):=by omega
   rw [e48]
   refine one (m % 10) (by omega) _ ?_
   rw [i_eql,ob_some,hqd]
   have hnum:numT n=45::digitsN m:=by simp only [numT,hneg,if_true,hm];rfl
   rw [hnum] at hq
   refine cnd_intro (fun h0=>?_) (fun h0=>?_)
   ·have h0:m / 10=0:=by have:=of_decide_eq_true h0;omega
    rw [← hmin,s_add [45] _ _ _ (by simp),ob_some]
    rw [digitsN,if_pos (by omega)] at hq
    have:m % 10=m:=by omega
    rw [this];exact hq
   ·have h0:¬ m / 10=0:=by have:=of_decide_eq_false h0;omega
    rw [digitsN,if_neg (by omega)] at hq
    have hr3:rng (-((m / 10:Nat):Int)):=⟨by omega,by omega⟩
    have hl:=numT_len hr3
    refine ih (m / 10) (by omega) (-((m / 10:Nat):Int)) (by omega) hr3 H _ ?_
    rw [s_add _ _ _ _ (by simp only [List.length_singleton];omega),ob_some]
    have:numT (-((m / 10:Nat):Int))=45::digitsN (m / 10):=by
     simp only [numT]
     rw [if_pos (by omega)]
     have:(-((m / 10:Nat):Int)).natAbs=m / 10:=by omega
     rw [this];rfl
    rw [this];exact hq
  ·have hpos:¬ n < 0:=by simpa using h
   have hnm:n=(m:Int):=by omega
   have hd:n.tmod 10=((m % 10:Nat):Int):=by rw [hnm];rfl
   have hqd:n.tdiv 10=((m / 10:Nat):Int):=by rw [hnm];rfl
   have hnum:numT n=digitsN m:=by simp only [numT,hpos,if_false,hm];rfl
   rw [hnum] at hq
   rw [hrem,ob_some,i_add,ob_some,hd,w64_id (by omega) (by omega)]
   refine one (m % 10) (by omega) _ ?_
   rw [i_geq,ob_some]
   refine cnd_intro (fun h0=>?_) (fun h0=>?_)
   ·have h0:10≤n:=by simpa using h0
    rw [hquo,ob_some,hqd]
    rw [digitsN,if_neg (by omega)] at hq
    have hr3:rng ((m / 10:Nat):Int):=⟨by omega,by omega⟩
    have hl:=numT_len hr3
    refine ih (m / 10) (by omega) ((m / 10:Nat):Int) (by omega) hr3 H _ ?_
    rw [s_add _ _ _ _ (by simp only [List.length_singleton];omega),ob_some]
    have:numT ((m / 10:Nat):Int)=digitsN (m / 10):=by
     simp only [numT]
     rw [if_neg (by omega)]
     rfl
    rw [this];exact hq
   ·have h0:¬ 10≤n:=by simpa using h0
    rw [digitsN,if_pos (by omega)] at hq
    have:m % 10=m:=by omega
    rw [this];exact hq
def tabC:List AV:=[U8 48,U8 49,U8 50,U8 51,U8 52,U8 53,U8 54,U8 55,U8 56,U8 57]
theorem tab_get {d:Nat} (h:d < 10):tabC[d]?=some (byteA (dig d)):=by
 rw [byte_dig h]
 match d,h with
 | 0,_ | 1,_ | 2,_ | 3,_ | 4,_ | 5,_ | 6,_ | 7,_ | 8,_ | 9,_=>rfl
def zero8 (n:Nat):List AV:=List.replicate n (U8 0)
theorem st_agg {H:Heap} {b:Nat} {cs xs:List AV} (h:H.objs b=some (.cells cs)) (hl:xs.length=cs.length) (n:Nat) (hn:xs.length=n):stH H n (Pt b) (.agg xs)=some (H.setObj b (.cells xs)):=by
 have h1:sizedA n (.agg xs)=some xs:=by simp [sizedA,cellsA,hn]
 have h2:spliceA 0 xs cs=some xs:=by simp [spliceA,hl]
 simp [stH,Pt,h,h1,h2]
theorem ld_agg {H:Heap} {b:Nat} {cs:List AV} (h:H.objs b=some (.cells cs)) (n:Nat) (hn:cs.length=n):ldH H true n (Pt b)=some (.agg cs):=by
 rw [ld_Pt h]
 simp [partA,← hn]
theorem c279 (H:Heap) (Q:Post) (hq:∀ H',HExt H H'→Q (.agg tabC) H'):E 279 [] H Q:=by
 rw [f279_eq]
 intro b hb
 have e1:HExt H (H.setObj b (.cells (zero8 10))):=(HExt.refl H).setObj hb _
 have o1:(H.setObj b (.cells (zero8 10))).objs b=some (.cells (zero8 10)):=setObj_same _ _ _
 show ob (bldA _ _) _
 have hb':bldA [(0,1,U8 48),(1,1,U8 49),(2,1,U8 50),(3,1,U8 51),(4,1,U8 52),(5,1,U8 53),(6,1,U8 54),(7,1,U8 55),(8,1,U8 56),(9,1,U8 57)] [U8 0,U8 0,U8 0,U8 0,U8 0,U8 0,U8 0,U8 0,U8 0,U8 0]=some (.agg tabC):=rfl
 rw [hb',ob_some]
 have hs:=st_agg o1 (xs:=tabC) rfl 10 rfl
 refine (?_:ob (stH (H.setObj b (.cells (zero8 10))) 10 (Pt b) (.agg tabC)) fun H4=>ob (ldH H4 true 10 (Pt b)) fun r5=>Q r5 H4)
 rw [hs,ob_some,ld_agg (setObj_same _ _ _) 10 rfl,ob_some]
 exact hq _ (e1.setObj hb _)
theorem HExt.dropObj {H H':Heap} (h:HExt H H') {b:Nat} (hb:H.fresh b):HExt H (H'.dropObj b):=fun c hc=>by
 have hne:c ≠ b:=fun e=>hc (e ▸ hb)
 have:=h c hc
 simp only [Heap.dropObj,if_neg hne]
 exact this
theorem splice1 {cs:List AV} {k:Nat} (h:k < cs.length) (v:AV):spliceA k [v] cs=some (cs.take k++[v]++cs.drop (k+1)):=by
 simp only [spliceA,List.length_singleton]
 rw [if_pos (by omega)]
theorem st_at {H:Heap} {b k:Nat} {cs:List AV} (h:H.objs b=some (.cells cs)) (hk:k < cs.length) (c:UInt8):stH H 1 (Poff b k) (byteA c)=some (H.setObj b (.cells (cs.take k++[byteA c]++cs.drop (k+1)))):=by
 have h1:sizedA 1 (byteA c)=some [byteA c]:=rfl
 simp [stH,h,h1,splice1 hk]
theorem drop_set {cs:List AV} {k:Nat} (h:k < cs.length) (v:AV):(cs.take k++[v]++cs.drop (k+1)).drop k=v::cs.drop (k+1):=by
 rw [List.append_assoc,List.drop_append_of_le_length (by simp;omega)]
 simp
theorem len_set {cs:List AV} {k:Nat} (h:k < cs.length) (v:AV):(cs.take k++[v]++cs.drop (k+1)).length=cs.length:=by
 simp;omega
theorem c232 (n:Int) (hr:rng n) (H0:Heap) (Q:Post) (hq:∀ H',HExt H0 H'→Q (strT (numT n)) H'):E 232 [I n] H0 Q:=by
 obtain ⟨hr1,hr2⟩:=hr
 have loop:∀ (m:Nat) (i:Nat) (suf:List UInt8) (b3 b5:Nat) (cs:List AV) (H:Heap),m < 18446744073709551616→H0.fresh b5→b3 ≠ b5→HExt H0 H→H.objs b3=some (.cells tabC)→H.objs b5=some (.cells cs)→cs.length=20→cs.drop i=suf.map byteA →
   (digitsN m).length+1≤i→i≤20→(∀ H',HExt H0 H'→Q (strT ((if n < 0 then [45] else [])++(digitsN m++suf))) H')→f232_l18 (I n) (Pt b3) (U64 m) (Pt b5) (I i) H Q:=by
  intro m
  induction m using Nat.strongRecOn with
  | ind m ih =>
   intro i suf b3 b5 cs H hm hf hne he ho3 ho5 hcl hd hi hi2 hq
   have hi1:1≤i:=by omega
   have hk:i - 1 < cs.length:=by omega
   have es:W64 ((i:Int) - 1)=((i - 1:Nat):Int):=by rw [w64_id (by omega) (by omega)];omega
   have ix3:ixPA 10 1 (Pt b3) (U64 ((m % 10:Nat):Int))=some (Poff b3 (m % 10)):=by
    simp only [ixPA,Pt]
    rw [if_pos (by omega),Int.toNat_natCast]
    simp
   have ix5:∀ k:Nat,k < 20→ixPA 20 1 (Pt b5) (I k)=some (Poff b5 k):=fun k hk=>by
    simp only [ixPA,Pt,I]
    rw [if_pos (by omega)]
    simp
   rw [f232_l18_eq,i_sub,ob_some,es,u64_rem,ob_some,ix3,ob_some,ld_off ho3,part_f,tab_get (by omega),ob_some,ix5 _ (by omega),ob_some,st_at ho5 hk,ob_some]
   have o5:=setObj_same H b5 (.cells (cs.take (i - 1)++[byteA (dig (m % 10))]++cs.drop (i - 1+1)))
   have o3:(H.setObj b5 (.cells (cs.take (i - 1)++[byteA (dig (m % 10))]++cs.drop (i - 1+1)))).objs b3=some (.cells tabC):=(setObj_ne H _ hne).trans ho3
   have e1:HExt H0 (H.setObj b5 (.cells (cs.take (i - 1)++[byteA (dig (m % 10))]++cs.drop (i - 1+1)))):=he.setObj hf _
   have d1:=drop_set hk (byteA (dig (m % 10)))
   have l1:=len_set hk (byteA (dig (m % 10)))
   generalize H.setObj b5 (.cells (cs.take (i - 1)++[byteA (dig (m % 10))]++cs.drop (i - 1+1)))=H1 at o5 o3 e1 ⊢
   generalize cs.take (i - 1)++[byteA (dig (m % 10))]++cs.drop (i - 1+1)=cs1 at o5 d1 l1
   have hsuf:cs1.drop (i - 1)=(dig (m % 10)::suf).map byteA:=by
    rw [d1,show i - 1+1=i by omega,hd];rfl
   rw [u64_quo m hm,ob_some,k_eql,ob_some]
   have fin:∀ (k:Nat) (l:List UInt8) (cs2:List AV) (H2:Heap),k≤20→HExt H0 H2→H2.objs b5=some (.cells cs2)→cs2.length=20→cs2.drop k=l.map byteA→(∀ H',HExt H0 H'→Q (strT l) H')→f232_j39 (Pt b5) (I k) H2 Q:=fun k l cs2 H2 hk2 he2 ho2 hl2 hd2 hq2=>by
    rw [f232_j39_eq]
    simp only [slArr,Pt,I,ho2]
    refine ⟨hl2,by omega,by omega,?_⟩
    rw [show ((k:Int)).toNat=k by omega,hd2]
    exact bs_lit l _ _ _ (hq2 _ (he2.dropObj hf))
   refine cnd_intro (fun h0=>?_) (fun h0=>?_)
   ·have h0:m / 10=0:=by have:=of_decide_eq_true h0;omega
    have hdm:digitsN m=[dig (m % 10)]:=by rw [digitsN,if_pos (by omega),show m % 10=m by omega]
    rw [hdm] at hq hi
    rw [i_lss,ob_some]
    refine cnd_intro (fun hn=>?_) (fun hn=>?_)
    ·have hn:n < 0:=by simpa using hn
     simp only [if_pos hn] at hq
     have hi3:2≤i:=by simpa using hi
     have es2:W64 (((i - 1:Nat):Int) - 1)=((i - 2:Nat):Int):=by rw [w64_id (by omega) (by omega)];omega
     have hk2:i - 2 < cs1.length:=by omega
     rw [i_sub,ob_some,es2,ix5 _ (by omega),ob_some]
     have h45:AV.raw (.int .u8 45)=byteA 45:=rfl
     rw [h45,st_at o5 hk2,ob_some]
     refine fin (i - 2) (45::dig (m % 10)::suf) _ _ (by omega) (e1.setObj hf _) (setObj_same _ _ _) (by rw [len_set hk2];omega) ?_ (fun H' h'=>by simpa using hq H' h')
     rw [drop_set hk2,show i - 2+1=i - 1 by omega,hsuf]
     rfl
    ·have hn:¬ n < 0:=by simpa using hn
     simp only [if_neg hn] at hq
     exact fin (i - 1) (dig (m % 10)::suf) cs1 H1 (by omega) e1 o5 (by omega) hsuf (fun H' h'=>by simpa using hq H' h')
   ·have h0:¬ m / 10=0:=by have:=of_decide_eq_false h0;omega
    have hdm:digitsN m=digitsN (m / 10)++[dig (m % 10)]:=by rw [digitsN,if_neg (by omega)]
    rw [hdm] at hq hi
    simp only [List.length_append,List.length_singleton] at hi
    exact ih (m / 10) (by omega) (i - 1) (dig (m % 10)::suf) b3 b5 cs1 H1 (by omega) hf hne e1 o3 o5 (by omega) hsuf (by omega) (by omega) (by simpa using hq)
 have hlen:=digits_len20 n.natAbs (by omega)
 have j12:∀ (b3:Nat) (H:Heap),HExt H0 H→H.objs b3=some (.cells tabC)→f232_j12 (I n) (Pt b3) (U64 n.natAbs) H Q:=fun b3 H he ho3=>by
  rw [f232_j12_eq]
  intro b5 hb5
  have hne:b3 ≠ b5:=fresh_ne ho3 hb5
  have o3:=(setObj_ne H (.cells (zero8 20)) hne).trans ho3
  have o5:=setObj_same H b5 (.cells (zero8 20))
  have e1:HExt H0 (H.setObj b5 (.cells (zero8 20))):=he.setObj (he.fresh hb5) _
  exact loop n.natAbs 20 [] b3 b5 (zero8 20) _ (by omega) (he.fresh hb5) hne e1 o3 o5 rfl (by simp [zero8]) (by omega) (by omega) (fun H' h'=>by simpa [numT] using hq H' h')
 rw [f232_eq]
 refine c279 H0 _ (fun H1 e1=>?_)
 intro b3 hb3
 have e2:HExt H0 (H1.setObj b3 (.cells (zero8 10))):=e1.setObj (e1.fresh hb3) _
 have o3:(H1.setObj b3 (.cells (zero8 10))).objs b3=some (.cells (zero8 10)):=setObj_same _ _ _
 refine (?_:ob (stH (H1.setObj b3 (.cells (zero8 10))) 10 (Pt b3) (.agg tabC)) fun H5=>ob (cvtIA .u64 (I n)) fun r7=>ob (binA Pg .lss 2 true (I n) (I 0)) fun r8=>cndA r8 (ob (unA .neg r7) fun r9=>f232_j12 (I n) (Pt b3) r9 H5 Q) (f232_j12 (I n) (Pt b3) r7 H5 Q))
 rw [st_agg o3 (xs:=tabC) rfl 10 rfl,ob_some]
 have e3:HExt H0 ((H1.setObj b3 (.cells (zero8 10))).setObj b3 (.cells tabC)):=e2.setObj (e1.fresh hb3) _
 have o3:=setObj_same (H1.setObj b3 (.cells (zero8 10))) b3 (.cells tabC)
 have hc:cvtIA .u64 (I n)=some (U64 (IntKind.u64.wrap n)):=rfl
 rw [hc,ob_some,i_lss,ob_some]
 refine cnd_intro (fun hn=>?_) (fun hn=>?_)
 ·have hn:n < 0:=by simpa using hn
  have hu:unA .neg (U64 (IntKind.u64.wrap n))=some (U64 n.natAbs):=by
   simp only [unA,wrap_u64_neg hr1 hn]
   have:IntKind.u64.wrap (0 - (n+18446744073709551616))=(n.natAbs:Int):=by
    have hb:IntKind.u64.bits=64:=rfl
    have hs:IntKind.u64.signed=false:=rfl
    simp only [IntKind.wrap,hb,hs,Bool.false_and]
    simp;omega
   rw [this]
  rw [hu,ob_some]
  exact j12 b3 _ e3 o3
 ·have hn:¬ n < 0:=by simpa using hn
  have hw:IntKind.u64.wrap n=(n.natAbs:Int):=by rw [wrap_u64 (by omega) (by omega)];omega
  rw [hw]
  exact j12 b3 _ e3 o3
end Go.Hx
namespace Go.Hx
/-- a hexadecimal digit -/
def hexD (d:Nat):UInt8:=UInt8.ofNat (if d < 10 then 48+d else 87+d)
def escB (c:UInt8):List UInt8 :=
 if c.toNat=39 ∨ c.toNat=92 then [92,c] else if 32≤c.toNat∧c.toNat≤126 then [c] else [92,120,hexD (c.toNat / 16),hexD (c.toNat % 16)]
def escT (l:List UInt8):List UInt8:=(l.map escB).flatten
def quoteT (l:List UInt8):List UInt8:=39::(escT l++[39])
theorem escB_len (c:UInt8):(escB c).length≤4:=by
 simp only [escB]
 split
 ·simp
 ·split<;>simp
theorem escT_len (l:List UInt8):(escT l).length≤4 * l.length:=by
 induction l with
 | nil=>simp [escT]
 | cons c r ih =>
  have:=escB_len c
  simp only [escT,List.map_cons,List.flatten_cons,List.length_append,List.length_cons] at ih ⊢
  omega
theorem quoteT_len (l:List UInt8):(quoteT l).length≤4 * l.length+2:=by
 have:=escT_len l
 simp only [quoteT,List.length_cons,List.length_append,List.length_singleton,List.length_nil]
 omega
def hexC:List AV:=[U8 48,U8 49,U8 50,U8 51,U8 52,U8 53,U8 54,U8 55,U8 56,U8 57,U8 97,U8 98,U8 99,U8 100,U8 101,U8 102]
theorem hex_get {d:Nat} (h:d < 16):hexC[d]?=some (byteA (hexD d)):=by
 match d,h with
 | 0,_ | 1,_ | 2,_ | 3,_ | 4,_ | 5,_ | 6,_ | 7,_ | 8,_ | 9,_ | 10,_ | 11,_ | 12,_ | 13,_ | 14,_ | 15,_=>rfl
 | n+16,h=>exact absurd h (by omega)
def hexS:ByteArray:=⟨#[48,49,50,51,52,53,54,55,56,57,97,98,99,100,101,102]⟩
theorem hexs_get {d:Nat} (h:d < 16):ixA (S hexS) (U8 d)=some (byteA (hexD d)):=by
 match d,h with
 | 0,_ | 1,_ | 2,_ | 3,_ | 4,_ | 5,_ | 6,_ | 7,_ | 8,_ | 9,_ | 10,_ | 11,_ | 12,_ | 13,_ | 14,_ | 15,_=>rfl
 | n+16,h=>exact absurd h (by omega)
theorem byte_lt (c:UInt8):c.toNat < 256:=c.toNat_lt
theorem u8_quo (c:Nat) (h:c < 256) (t:TypeId) (l:Bool):binA Pg .quo t l (U8 c) (U8 16)=some (U8 ((c / 16:Nat):Int)):=by
 have h1:binA Pg .quo t l (U8 c) (U8 16)=some (U8 (IntKind.u8.wrap ((c:Int).tdiv 16))):=rfl
 have h2:(c:Int).tdiv 16=((c / 16:Nat):Int):=rfl
 rw [h1,h2,wrap_u8 (by omega) (by omega)]
theorem u8_rem (c:Nat) (t:TypeId) (l:Bool):binA Pg .rem t l (U8 c) (U8 16)=some (U8 ((c % 16:Nat):Int)):=by
 rw [k_rem _ _ _ _ _ (by omega)]
 congr 3
theorem u8_shr (c:Nat) (t:TypeId) (l:Bool):binA Pg .shr t l (U8 c) (U64 4)=some (U8 ((c / 16:Nat):Int)):=by
 have h1:binA Pg .shr t l (U8 c) (U64 4)=some (U8 ((c:Int).fdiv 16)):=rfl
 have h2:(c:Int).fdiv 16=((c / 16:Nat):Int):=by
  rw [Int.fdiv_eq_ediv_of_nonneg _ (by omega)];rfl
 rw [h1,h2]
theorem and15:∀ c:Fin 256,bitsI .and .u8 (c.val:Int) 15=((c.val % 16:Nat):Int):=by decide
theorem u8_and (c:Nat) (h:c < 256) (t:TypeId) (l:Bool):binA Pg .and t l (U8 c) (U8 15)=some (U8 ((c % 16:Nat):Int)):=by
 have h1:binA Pg .and t l (U8 c) (U8 15)=some (U8 (bitsI .and .u8 c 15)):=rfl
 rw [h1,and15 ⟨c,h⟩]
def plainB (c:UInt8):Bool:=decide (32≤c.toNat) && decide (c.toNat≤126)
theorem c290 (c:UInt8) (H:Heap) (Q:Post):E 290 [byteA c] H Q=Q (B (plainB c)) H:=by
 simp only [f290_eq,f290_j4_eq,byteA,k_geq,k_leq,ob_some,cnd_B,plainB]
 by_cases h:32≤c.toNat
 ·have:(32:Int)≤c.toNat:=by omega
  simp only [h,this,decide_true,if_true,Bool.true_and]
  congr 2
  rw [Bool.eq_iff_iff];simp;omega
 ·have:¬ (32:Int)≤c.toNat:=by omega
  simp [h,this]
theorem c248 (c:UInt8) (H:Heap) (Q:Post):E 248 [byteA c] H Q=Q (B (plainB c)) H:=by
 simp only [f248_eq,f248_j4_eq,byteA,k_geq,k_leq,ob_some,cnd_B,plainB]
 by_cases h:32≤c.toNat
 ·have:(32:Int)≤c.toNat:=by omega
  simp only [h,this,decide_true,if_true,Bool.true_and]
  congr 2
  rw [Bool.eq_iff_iff];simp;omega
 ·have:¬ (32:Int)≤c.toNat:=by omega
  simp [h,this]
theorem lit_bytes (l:List UInt8):mkSlA 1 (l.map byteA)=some (.sl 1 false .full (l.map byteA)):=by
 have:((l.map byteA).all fun x=>(sizedA 1 x).isSome)=true:=by
  rw [List.all_eq_true]
  intro x hx
  obtain ⟨c,_,rfl⟩:=List.mem_map.1 hx
  rfl
 simp only [mkSlA,this]
theorem b_eq39 (c:UInt8) (n:Nat) (t:TypeId) (l:Bool):binA Pg .eql t l (byteA c) (U8 n)=some (B (decide (c.toNat=n))):=by
 simp only [byteA,k_eql]
 congr 2
 rw [Bool.eq_iff_iff];simp only [decide_eq_true_eq,B];omega
theorem c263 (c:UInt8) (H:Heap) (Q:Post) (hq:Q (strT (escB c)) H):E 263 [byteA c] H Q:=by
 have h39:=b_eq39 c 39 5 true
 have h92:=b_eq39 c 92 5 true
 have hc:=byte_lt c
 have j5:∀ b:Bool,b=decide (c.toNat=39 ∨ c.toNat=92)→f263_j5 (byteA c) (B b) H Q:=fun b hb=>by
  rw [f263_j5_eq]
  refine cnd_intro (fun h=>?_) (fun h=>?_)
  ·have h:c.toNat=39 ∨ c.toNat=92:=by rw [h] at hb;simpa using hb.symm
   rw [escB,if_pos h] at hq
   have hm:mkSlA 1 [U8 92,byteA c]=_:=lit_bytes [92,c]
   rw [hm,ob_some]
   exact bs_lit [92,c] _ _ _ hq
  ·have h:¬ (c.toNat=39 ∨ c.toNat=92):=by rw [h] at hb;simpa using hb.symm
   rw [escB,if_neg h] at hq
   rw [c248]
   refine cnd_intro (fun h1=>?_) (fun h1=>?_)
   ·rw [if_pos (by simpa [plainB] using h1)] at hq
    have hm:mkSlA 1 [byteA c]=_:=lit_bytes [c]
    rw [hm,ob_some]
    exact bs_lit [c] _ _ _ hq
   ·rw [if_neg (by intro h2;simp [plainB,h2] at h1)] at hq
    have e1:=u8_quo c.toNat hc 5 true
    have e2:=u8_rem c.toNat 5 true
    have e3:=hexs_get (d:=c.toNat / 16) (by omega)
    have e4:=hexs_get (d:=c.toNat % 16) (by omega)
    have hm:mkSlA 1 [U8 92,U8 120,byteA (hexD (c.toNat / 16)),byteA (hexD (c.toNat % 16))]=_:=lit_bytes [92,120,hexD (c.toNat / 16),hexD (c.toNat % 16)]
    refine (?_:ob (binA Pg .quo 5 true (U8 c.toNat) (U8 16)) fun r9=>ob (ixA (S hexS) r9) fun r10=>ob (binA Pg .rem 5 true (U8 c.toNat) (U8 16)) fun r11=>ob (ixA (S hexS) r11) fun r12=>ob (mkSlA 1 [U8 92,U8 120,r10,r12]) fun r13=>bsA r13 fun r14=>Q r14 H)
    rw [e1,ob_some,e3,ob_some,e2,ob_some,e4,ob_some,hm,ob_some]
    exact bs_lit _ _ _ _ hq
 rw [f263_eq]
 refine (?_:ob (binA Pg .eql 5 true (byteA c) (U8 (39:Nat))) fun r1=>cndA r1 (f263_j5 (byteA c) (B true) H Q) (ob (binA Pg .eql 5 true (byteA c) (U8 (92:Nat))) fun r2=>f263_j5 (byteA c) r2 H Q))
 rw [h39,ob_some]
 refine cnd_intro (fun h=>j5 true (by simp at h;simp [h])) (fun h=>?_)
 rw [h92,ob_some]
 exact j5 _ (by simp at h;simp [h])
theorem ix_str (s:ByteArray) (pre r:List UInt8) (c:UInt8) (e:tx s=pre++c::r):ixA (S s) (I pre.length)=some (byteA c):=ixS s pre r c e
/-- a text in quotes, or too long -/
def quoteP (s:ByteArray):AV:=if 256 < s.size then .tup [S e0,I 2] else .tup [strT (quoteT (tx s)),I 0]
theorem c198 (s:ByteArray) (H:Heap) (Q:Post) (hq:Q (quoteP s) H):E 198 [S s] H Q:=by
 rw [f198_eq,len_S,ob_some,i_gtr,ob_some]
 have hsz:(tx s).length=s.size:=size_list s
 refine cnd_intro (fun h=>?_) (fun h=>?_)
 ·rw [quoteP,if_pos (by simp at h;omega)] at hq;exact hq
 ·have h:s.size≤256:=by simp at h;omega
  rw [quoteP,if_neg (by omega)] at hq
  have loop:∀ (r pre acc:List UInt8),tx s=pre++r→acc.length≤1+4 * pre.length→Q (.tup [strT (acc++(escT r++[39])),I 0]) H→f198_l16 (S s) (strT acc) (I pre.length) H Q:=by
   intro r
   induction r with
   | nil =>
    intro pre acc e ha hq
    have h1:pre.length=s.size:=by rw [← hsz,e];simp
    rw [f198_l16_eq,len_S,ob_some,i_lss,ob_some,cnd_B,h1]
    simp only [Int.lt_irrefl,decide_false,Bool.false_eq_true,if_false]
    have h39:S ⟨#[39]⟩=strT [39]:=rfl
    rw [h39,s_add _ _ _ _ (by simp;omega),ob_some]
    simpa [escT] using hq
   | cons c r ih =>
    intro pre acc e ha hq
    have hlt:pre.length < s.size:=by rw [← hsz,e];simp
    have hlt':(pre.length:Int) < s.size:=by omega
    have hel:=escB_len c
    rw [f198_l16_eq,len_S,ob_some,i_lss,ob_some,cnd_B,if_pos (by simpa using hlt'),ix_str s pre r c e,ob_some]
    refine c263 c H _ ?_
    rw [s_add _ _ _ _ (by omega),ob_some,i_add,ob_some,w64_succ hlt (by omega)]
    have:=ih (pre++[c]) (acc++escB c) (by simp [e]) (by simp only [List.length_append,List.length_singleton];omega) (by simpa [escT] using hq)
    rw [List.length_append,List.length_singleton] at this
    exact this
  have h39:S ⟨#[39]⟩=strT [39]:=rfl
  rw [h39]
  exact loop (tx s) [] [39] rfl (by simp) (by simpa [quoteT] using hq)
theorem app_b {H0 H:Heap} {sz:Nat} {nil:Bool} {tip:Tip} {t ys:List UInt8} {x:AV} {K:Post} (he:HExt H0 H) (ho:OwnS H0 H 1 t.length tip) (hs:nil=true ∨ sz=1) (ht:tailA 1 x=some (ys.map byteA))
  (hl:t.length+ys.length≤140737488355328)
  (hk:∀ sz' nil' tip' H',(nil'=true ∨ sz'=1)→OwnS H0 H' 1 (t++ys).length tip'→HExt H0 H'→H'.objs=H.objs→K (.sl sz' nil' tip' ((t++ys).map byteA)) H') :
  appB 5 (.sl sz nil tip (t.map byteA)) x H K:=by
 unfold appB
 simp only [ht]
 cases ys with
 | nil =>
  have:=hk sz nil tip H hs (by simpa using ho) he rfl
  simpa using this
 | cons y ys =>
  have hnew:∀ c,H.fresh c→K (.sl 1 false (.tip c) ((t++y::ys).map byteA)) ((H.setTip c (t.length+(y::ys).length)).setTy c 5):=fun c hc=>by
   refine hk 1 false _ _ (.inr rfl) ⟨by simp [Heap.setTip,Heap.setTy],he.fresh hc⟩ ((he.setTip (he.fresh hc) _).setTy (he.fresh hc) _) rfl
  have e1:t.map byteA++(y::ys).map byteA=(t++y::ys).map byteA:=by simp
  have e2:(t.map byteA).length=t.length:=by simp
  have e3:((y::ys).map byteA).length=(y::ys).length:=by simp
  simp only [List.map_cons] at e1 e3 ⊢
  simp only [e2,e3,e1]
  refine ⟨hs,hl,hnew,?_⟩
  cases tip with
  | any=>exact ho.elim
  | full=>trivial
  | tip c =>
   obtain ⟨h1,h2⟩:=ho
   refine ⟨by simpa using h1,?_⟩
   exact hk 1 false _ _ (.inr rfl) ⟨by simp [Heap.setTip],h2⟩ (he.setTip h2 _) rfl
theorem c289 (H:Heap) (Q:Post) (hq:∀ H',HExt H H'→Q (.agg hexC) H'):E 289 [] H Q:=by
 rw [f289_eq]
 intro b hb
 have e1:HExt H (H.setObj b (.cells (zero8 16))):=(HExt.refl H).setObj hb _
 have o1:(H.setObj b (.cells (zero8 16))).objs b=some (.cells (zero8 16)):=setObj_same _ _ _
 have hb':bldA [(0,1,U8 48),(1,1,U8 49),(2,1,U8 50),(3,1,U8 51),(4,1,U8 52),(5,1,U8 53),(6,1,U8 54),(7,1,U8 55),(8,1,U8 56),(9,1,U8 57),(10,1,U8 97),(11,1,U8 98),(12,1,U8 99),(13,1,U8 100),(14,1,U8 101),(15,1,U8 102)]
  [U8 0,U8 0,U8 0,U8 0,U8 0,U8 0,U8 0,U8 0,U8 0,U8 0,U8 0,U8 0,U8 0,U8 0,U8 0,U8 0]=some (.agg hexC):=rfl
 rw [hb',ob_some]
 have hs:=st_agg o1 (xs:=hexC) rfl 16 rfl
 refine (?_:ob (stH (H.setObj b (.cells (zero8 16))) 16 (Pt b) (.agg hexC)) fun H4=>ob (ldH H4 true 16 (Pt b)) fun r5=>Q r5 H4)
 rw [hs,ob_some,ld_agg (setObj_same _ _ _) 16 rfl,ob_some]
 exact hq _ (e1.setObj hb _)
theorem c260 (s:ByteArray) (H0:Heap) (Q:Post) (hq:∀ H',HExt H0 H'→Q (quoteP s) H'):E 260 [S s] H0 Q:=by
 rw [f260_eq,len_S,ob_some,i_gtr,ob_some]
 have hsz:(tx s).length=s.size:=size_list s
 refine cnd_intro (fun h=>?_) (fun h=>?_)
 ·have:=hq H0 (HExt.refl H0)
  rw [quoteP,if_pos (by simp at h;omega)] at this;exact this
 have h:s.size≤256:=by simp at h;omega
 have hq:∀ H',HExt H0 H'→Q (.tup [strT (quoteT (tx s)),I 0]) H':=fun H' h'=>by
  have:=hq H' h'
  rw [quoteP,if_neg (by omega)] at this;exact this
 refine c289 H0 _ (fun H1 e1=>?_)
 intro b hb
 have e2:HExt H0 (H1.setObj b (.cells (zero8 16))):=e1.setObj (e1.fresh hb) _
 have o1:(H1.setObj b (.cells (zero8 16))).objs b=some (.cells (zero8 16)):=setObj_same _ _ _
 have hm:mkSlA 1 [U8 39]=_:=lit_bytes [39]
 refine (?_:ob (stH (H1.setObj b (.cells (zero8 16))) 16 (Pt b) (.agg hexC)) fun H7=>ob (mkSlA 1 [U8 39]) fun r8=>sbA (S s) fun r9=>ob (lenA r9) fun r10=>f260_l18 (Pt b) r8 r9 r10 (I 0) H7 Q)
 rw [st_agg o1 (xs:=hexC) rfl 16 rfl,ob_some,hm,ob_some]
 have e3:HExt H0 ((H1.setObj b (.cells (zero8 16))).setObj b (.cells hexC)):=e2.setObj (e1.fresh hb) _
 have o3:=setObj_same (H1.setObj b (.cells (zero8 16))) b (.cells hexC)
 generalize (H1.setObj b (.cells (zero8 16))).setObj b (.cells hexC)=H2 at e3 o3 ⊢
 show ob (lenA (.sl 1 false .any ((tx s).map byteA))) fun r10=>f260_l18 (Pt b) (.sl 1 false .full ([39].map byteA)) (.sl 1 false .any ((tx s).map byteA)) r10 (I 0) H2 Q
 rw [len_sl,ob_some,List.length_map]
 have loop:∀ (r pre acc:List UInt8) (sz:Nat) (nil:Bool) (tip:Tip) (H:Heap),tx s=pre++r→acc.length≤1+4 * pre.length→HExt H0 H→H.objs b=some (.cells hexC)→(nil=true ∨ sz=1)→OwnS H0 H 1 acc.length tip →
   (∀ H',HExt H0 H'→Q (.tup [strT (acc++(escT r++[39])),I 0]) H')→f260_l18 (Pt b) (.sl sz nil tip (acc.map byteA)) (.sl 1 false .any ((tx s).map byteA)) (I (tx s).length) (I pre.length) H Q:=by
  intro r
  induction r with
  | nil =>
   intro pre acc sz nil tip H e ha he ho hn hw hq
   have h1:(pre.length:Int)=(tx s).length:=by rw [e];simp
   have hm:mkSlA 1 [U8 39]=_:=lit_bytes [39]
   rw [f260_l18_eq,i_lss,ob_some,cnd_B,h1]
   simp only [Int.lt_irrefl,decide_false,Bool.false_eq_true,if_false]
   rw [hm,ob_some]
   have h256:pre.length≤256:=by omega
   refine app_b he hw hn (ys:=[39]) rfl (by simp;omega) (fun sz' nil' tip' H' hn' _ he' _=>?_)
   rcases hn' with rfl | rfl
   ·exact ⟨.inl rfl,acc++[39],rfl,(by have:=hq H' he';simp only [escT,List.map_nil,List.flatten_nil,List.nil_append] at this;exact this)⟩
   ·exact ⟨.inr rfl,acc++[39],rfl,(by have:=hq H' he';simp only [escT,List.map_nil,List.flatten_nil,List.nil_append] at this;exact this)⟩
  | cons c r ih =>
   intro pre acc sz nil tip H e ha he ho hn hw hq
   have hlt:pre.length < (tx s).length:=by rw [e];simp
   have hlt':(pre.length:Int) < (tx s).length:=by omega
   have hcl:=byte_lt c
   have i1:ixaA 1 (.sl 1 false .any ((tx s).map byteA)) (I pre.length)=some [byteA c]:=ix_mk 1 false .any _ pre.length (x:=byteA c) (by rw [e];exact get_mid byteA pre r c) rfl
   have step:∀ (ys:List UInt8) (x:AV),ys=escB c→tailA 1 x=some (ys.map byteA)→appB 5 (.sl sz nil tip (acc.map byteA)) x H fun r21 H22=>ob (binA Pg .add 3 true (I pre.length) (I 1)) fun r23=>f260_l18 (Pt b) r21 (.sl 1 false .any ((tx s).map byteA)) (I (tx s).length) r23 H22 Q:=fun ys x hy ht=>by
    have hel:=escB_len c
    rw [← hy] at hel
    refine app_b he hw hn ht (by omega) (fun sz' nil' tip' H' hn' hw' he' ho'=>?_)
    rw [i_add,ob_some,w64_succ hlt (by omega)]
    have:=ih (pre++[c]) (acc++ys) sz' nil' tip' H' (by simp [e]) (by simp only [List.length_append,List.length_singleton];omega) he' (by rw [ho'];exact ho) hn' hw' (by rw [hy];simpa [escT] using hq)
    rw [List.length_append,List.length_singleton] at this
    exact this
   have tl:∀ ys:List UInt8,tailA 1 (.sl 1 false .full (ys.map byteA))=some (ys.map byteA):=fun ys=>by simp [tailA]
   have j32:∀ d:Bool,d=decide (c.toNat=39 ∨ c.toNat=92)→f260_j32 (Pt b) (.sl sz nil tip (acc.map byteA)) (byteA c) (.sl 1 false .any ((tx s).map byteA)) (I (tx s).length) (I pre.length) (B d) H Q:=fun d hd=>by
    rw [f260_j32_eq]
    refine cnd_intro (fun h=>?_) (fun h=>?_)
    ·have h:c.toNat=39 ∨ c.toNat=92:=by rw [h] at hd;simpa using hd.symm
     have hm:mkSlA 1 [U8 92,byteA c]=_:=lit_bytes [92,c]
     rw [hm,ob_some]
     exact step [92,c] _ (by rw [escB,if_pos h]) (tl _)
    ·have h:¬ (c.toNat=39 ∨ c.toNat=92):=by rw [h] at hd;simpa using hd.symm
     rw [c290]
     refine cnd_intro (fun h1=>?_) (fun h1=>?_)
     ·have hm:mkSlA 1 [byteA c]=_:=lit_bytes [c]
      rw [hm,ob_some]
      exact step [c] _ (by rw [escB,if_neg h,if_pos (by simpa [plainB] using h1)]) (tl _)
     ·have e1:=u8_shr c.toNat 5 true
      have e2:=u8_and c.toNat hcl 5 true
      have ix:∀ k:Nat,k < 16→ixPA 16 1 (Pt b) (U8 k)=some (Poff b k):=fun k hk=>by
       simp only [ixPA,Pt]
       rw [if_pos (by omega),Int.toNat_natCast]
       simp
      have hm:mkSlA 1 [U8 92,U8 120,byteA (hexD (c.toNat / 16)),byteA (hexD (c.toNat % 16))]=_:=lit_bytes [92,120,hexD (c.toNat / 16),hexD (c.toNat % 16)]
      refine (?_:ob (binA Pg .shr 5 true (U8 c.toNat) (U64 4)) fun r30=>ob (ixPA 16 1 (Pt b) r30) fun r31=>ob (ldH H false 1 r31) fun r32=>ob (binA Pg .and 5 true (U8 c.toNat) (U8 15)) fun r33=>ob (ixPA 16 1 (Pt b) r33) fun r34=>ob (ldH H false 1 r34) fun r35=>ob (mkSlA 1 [U8 92,U8 120,r32,r35]) fun r36=>appB 5 (.sl sz nil tip (acc.map byteA)) r36 H fun r37 H38=>ob (binA Pg .add 3 true (I pre.length) (I 1)) fun r39=>f260_l18 (Pt b) r37 (.sl 1 false .any ((tx s).map byteA)) (I (tx s).length) r39 H38 Q)
      rw [e1,ob_some,ix _ (by omega),ob_some,ld_off ho,part_f,hex_get (by omega),ob_some,e2,ob_some,ix _ (by omega),ob_some,ld_off ho,part_f,hex_get (by omega),ob_some,hm,ob_some]
      exact step _ _ (by rw [escB,if_neg h,if_neg (by intro h2;simp [plainB,h2] at h1)]) (tl _)
   rw [f260_l18_eq,i_lss,ob_some,cnd_B,if_pos (by simpa using hlt'),i1,ob_some,part_f,List.getElem?_cons_zero,ob_some]
   refine (?_:ob (binA Pg .eql 5 true (byteA c) (U8 (39:Nat))) fun r14=>cndA r14 (f260_j32 (Pt b) (.sl sz nil tip (acc.map byteA)) (byteA c) (.sl 1 false .any ((tx s).map byteA)) (I (tx s).length) (I pre.length) (B true) H Q)
    (ob (binA Pg .eql 5 true (byteA c) (U8 (92:Nat))) fun r15=>f260_j32 (Pt b) (.sl sz nil tip (acc.map byteA)) (byteA c) (.sl 1 false .any ((tx s).map byteA)) (I (tx s).length) (I pre.length) r15 H Q))
   rw [b_eq39,ob_some]
   refine cnd_intro (fun h=>j32 true (by simp at h;simp [h])) (fun h=>?_)
   rw [b_eq39,ob_some]
   exact j32 _ (by simp at h;simp [h])
 exact loop (tx s) [] [39] 1 false .full H2 rfl (by simp) e3 o3 (.inr rfl) trivial (by simpa [quoteT] using hq)
def valT (v:Vl):List UInt8 :=
 if v.k=0 then [78,85,76,76] else if v.k=1 then (if v.n=1 then [84,82,85,69] else [70,65,76,83,69]) else if v.k=2 then numT v.n else quoteT (tx v.s)
theorem valT_len {v:Vl} (hv:vr v) (hr:rightV v=true):(valT v).length≤1026:=by
 simp only [valT]
 split
 ·simp
 ·split
  ·split<;>simp
  ·split
   ·have:=numT_len hv;omega
   ·rename_i h0 h1 h2
    have:=quoteT_len (tx v.s)
    have hs:(tx v.s).length=v.s.size:=size_list v.s
    rw [rightV_eq hv,if_neg h0,if_neg h1,if_neg h2] at hr
    split at hr
    ·simp at hr;omega
    ·cases hr
theorem x20 (a b:AV):extractA (.tup [a,b]) 0=some a:=rfl
theorem x21 (a b:AV):extractA (.tup [a,b]) 1=some b:=rfl
theorem c116 (v:Vl) (hv:vr v) (hr:rightV v=true) (H:Heap) (Q:Post) (hq:Q (.tup [strT (valT v),I 0]) H):E 116 [encV v] H Q:=by
 have h1:partA true 0 3 [I v.k,I v.n,S v.s]=some (encV v):=rfl
 rw [f116_eq,sz3,ob_some,h1,ob_some,c190 v hv,hr,not_B,ob_some]
 simp only [Bool.not_true,cnd_f,part_f,List.getElem?_cons_zero,List.getElem?_cons_succ,ob_some,i_eql]
 simp only [valT] at hq
 refine cnd_intro (fun g=>?_) (fun g=>?_)
 ·rw [if_pos (by simpa using g)] at hq;exact hq
 have g:¬ v.k=0:=by simpa using g
 rw [if_neg g] at hq
 refine cnd_intro (fun g1=>?_) (fun g1=>?_)
 ·rw [if_pos (by simpa using g1)] at hq
  refine cnd_intro (fun g2=>?_) (fun g2=>?_)
  ·rw [if_pos (by simpa using g2)] at hq;exact hq
  ·rw [if_neg (by simpa using g2)] at hq;exact hq
 have g1:¬ v.k=1:=by simpa using g1
 rw [if_neg g1] at hq
 refine cnd_intro (fun g2=>?_) (fun g2=>?_)
 ·rw [if_pos (by simpa using g2)] at hq
  exact c197 _ v.n rfl hv H _ hq
 ·have g2:¬ v.k=2:=by simpa using g2
  rw [if_neg g2] at hq
  have hs:v.s.size≤256:=by
   rw [rightV_eq hv,if_neg g,if_neg g1,if_neg g2] at hr
   split at hr
   ·simp at hr;omega
   ·cases hr
  refine c198 v.s H _ ?_
  rw [quoteP,if_neg (by omega)]
  simp only [x20,x21,ob_some]
  exact hq
theorem c193 (v:Vl) (hv:vr v) (hr:rightV v=true) (H:Heap) (Q:Post) (hq:∀ H',HExt H H'→Q (.tup [strT (valT v),I 0]) H'):E 193 [encV v] H Q:=by
 have h1:partA true 0 3 [I v.k,I v.n,S v.s]=some (encV v):=rfl
 have hr':=hr
 rw [rightV_eq hv] at hr'
 rw [f193_eq,sz3,ob_some,h1,ob_some,c121,hr,not_B,ob_some]
 simp only [Bool.not_true,cnd_f,h1,part_f,List.getElem?_cons_zero,List.getElem?_cons_succ,ob_some,c259,c251,v_eql,i_eql]
 simp only [valT] at hq
 refine cnd_intro (fun g=>?_) (fun g=>?_)
 ·have g:v=nullV:=by simpa using g
  have:=hq H (HExt.refl H)
  rw [if_pos (by rw [g];rfl)] at this;exact this
 have g:¬ v=nullV:=by simpa using g
 have k0:¬ v.k=0:=fun h=>by
  rw [if_pos h] at hr'
  simp only [Bool.and_eq_true,decide_eq_true_eq] at hr'
  apply g
  cases v with | mk k n s =>
  simp only at h hr'
  rw [h,hr'.1,hr'.2];rfl
 simp only [if_neg k0] at hq hr'
 refine cnd_intro (fun g1=>?_) (fun g1=>?_)
 ·have g1:v=boolV true:=by simpa using g1
  have:=hq H (HExt.refl H)
  rw [if_pos (by rw [g1];rfl),if_pos (by rw [g1];rfl)] at this;exact this
 have g1:¬ v=boolV true:=by simpa using g1
 refine cnd_intro (fun g2=>?_) (fun g2=>?_)
 ·have g2:v=boolV false:=by simpa using g2
  have:=hq H (HExt.refl H)
  rw [if_pos (by rw [g2];rfl),if_neg (by rw [g2];decide)] at this;exact this
 have g2:¬ v=boolV false:=by simpa using g2
 have k1:¬ v.k=1:=fun h=>by
  rw [if_pos h] at hr'
  simp only [Bool.and_eq_true,Bool.or_eq_true,decide_eq_true_eq] at hr'
  cases v with | mk k n s =>
  simp only at h hr'
  rcases hr'.1 with hn | hn
  ·exact g2 (by rw [h,hn,hr'.2];rfl)
  ·exact g1 (by rw [h,hn,hr'.2];rfl)
 simp only [if_neg k1] at hq hr'
 refine cnd_intro (fun g3=>?_) (fun g3=>?_)
 ·rw [if_pos (by simpa using g3)] at hq
  exact c232 v.n hv H _ hq
 ·have g3:¬ v.k=2:=by simpa using g3
  rw [if_neg g3] at hq hr'
  have hs:v.s.size≤256:=by
   split at hr'
   ·simp at hr';omega
   ·cases hr'
  refine c260 v.s H _ (fun H1 e1=>?_)
  rw [quoteP,if_neg (by omega)]
  simp only [x20,x21,ob_some]
  exact hq H1 e1
end Go.Hx
namespace Go.Hx
/-- how loose a condition is -/
def numK (x:Ex):Bool:=decide (x.k=1) && decide (x.v.k=2)
def levelX (x:Ex):Int :=
 if x.k=17 then 1 else if x.k=16 then 2 else if x.k=15 then 3 else if 9≤x.k then 4 else if 6≤x.k then 6 else if 4≤x.k then 5 else if x.k=3 then 7
 else if numK x && decide (x.v.n < 0) then 7 else 8
def parT (x:Ex) (t:List UInt8) (need:Int):List UInt8:=if need≤levelX x then t else 40::(t++[41])
def joinR (sep:List UInt8) (need:Int):List (Ex × List UInt8)→List UInt8
 | []=>[]
 | p::r=>sep++(parT p.1 p.2 need++joinR sep need r)
def joinT (sep:List UInt8) (need:Int):List (Ex × List UInt8)→List UInt8
 | []=>[]
 | p::r=>parT p.1 p.2 need++joinR sep need r
def signL:List ByteArray:=[⟨#[43]⟩,⟨#[45]⟩,⟨#[42]⟩,⟨#[47]⟩,⟨#[37]⟩,⟨#[61]⟩,⟨#[60,62]⟩,⟨#[60]⟩,⟨#[60,61]⟩,⟨#[62]⟩,⟨#[62,61]⟩]
def opS (j:Nat):ByteArray:=signL.getD j e0
def sOR:List UInt8:=[32,79,82,32]
def sAND:List UInt8:=[32,65,78,68,32]
def sNOT:List UInt8:=[78,79,84,32]
def numP (y:Ex):Bool:=numK y && decide (0≤y.v.n)
def need1 (k:Int):Int:=if 9≤k then 5 else if 6≤k then 6 else 5
def need2 (k:Int):Int:=if 9≤k then 5 else if 6≤k then 7 else 6
def bodyT (k:Int) (v:Vl) (var fld:ByteArray) (ps:List (Ex × List UInt8)):List UInt8 :=
 if k=1 then valT v else if k=2 then tx var++(46::tx fld)
 else if k=3 then (match ps with
  | p::_=>45::(if numP p.1=true then 40::(parT p.1 p.2 1++[41]) else parT p.1 p.2 7)
  | []=>[])
 else if k=17 then joinT sOR 2 ps
 else if k=16 then joinT sAND 3 ps
 else if k=15 then (match ps with
  | p::_=>sNOT++parT p.1 p.2 3
  | []=>[])
 else (match ps with
  | p::q::_=>parT p.1 p.2 (need1 k)++((32::(tx (opS (k - 4).toNat)++[32]))++parT q.1 q.2 (need2 k))
  | _=>[])
mutual
def bareT:Ex→List UInt8
 | .mk k v var fld _ _ _ l=>bodyT k v var fld (bareTs l)
def bareTs:List Ex→List (Ex × List UInt8)
 | []=>[]
 | x::r=>(x,bareT x)::bareTs r
end
theorem bareT_eq (x:Ex):bareT x=bodyT x.k x.v x.var x.fld (bareTs x.l):=by cases x;simp [bareT,Ex.k,Ex.v,Ex.var,Ex.fld,Ex.l]
theorem bareTs_map (l:List Ex):bareTs l=l.map fun y=>(y,bareT y):=by
 induction l with
 | nil=>simp [bareTs]
 | cons x r ih=>simp [bareTs,ih]
def exprT (x:Ex) (need:Int):List UInt8:=parT x (bareT x) need
theorem parT_len (x:Ex) (t:List UInt8) (need:Int):(parT x t need).length≤t.length+2:=by
 simp only [parT]
 split<;>simp
theorem sign_len (j:Nat):(tx (opS j)).length≤2:=by
 match j with
 | 0 | 1 | 2 | 3 | 4 | 5 | 6 | 7 | 8 | 9 | 10=>simp [opS,signL,tx]
 | n+11=>simp [opS,signL,tx]
theorem name_len {s:ByteArray} (h:nameL s.data.toList=true):(tx s).length≤32:=by
 cases hs:s.data.toList with
 | nil=>rw [hs] at h;cases h
 | cons c r =>
  rw [hs] at h
  simp only [nameL,Bool.and_eq_true,decide_eq_true_eq] at h
  simp only [tx,hs];omega
theorem bare_len (x:Ex) (hv:allX vX x) (hr:allR x=true):(bareT x).length+10≤1100 * sizeX x:=by
 induction x using Ex.ind with
 | h x ih =>
  rw [allX_eq] at hv
  rw [allR_eq,Bool.and_eq_true] at hr
  have hch:∀ y ∈ x.l,(bareT y).length+10≤1100 * sizeX y:=fun y hy=>ih y hy (allXs_mem hv.2 hy) (allRs_mem hr.2 hy)
  have hsum:∀ (r:List Ex) (sep:List UInt8) (need:Int),sep.length≤5→(∀ y ∈ r,y ∈ x.l)→(joinR sep need (bareTs r)).length≤1100 * sizeXs r:=by
   intro r sep need hsep
   induction r with
   | nil=>intro _;simp [bareTs,joinR]
   | cons y r ihr =>
    intro hy
    have h1:=hch y (hy y (by simp))
    have h2:=ihr (fun z hz=>hy z (by simp [hz]))
    have h3:=parT_len y (bareT y) need
    simp only [bareTs,joinR,sizeXs,List.length_append]
    omega
  have hjoin:∀ (sep:List UInt8) (need:Int),sep.length≤5→(joinT sep need (bareTs x.l)).length≤1100 * sizeXs x.l+10:=by
   intro sep need hsep
   cases hl:x.l with
   | nil=>simp [bareTs,joinT]
   | cons y r =>
    have h1:=hch y (by rw [hl];simp)
    have h2:=hsum r sep need hsep (fun z hz=>by rw [hl];simp [hz])
    have h3:=parT_len y (bareT y) need
    simp only [bareTs,joinT,sizeXs,List.length_append]
    omega
  rw [bareT_eq,sizeX_eq]
  unfold bodyT
  split
  ·rename_i hk
   have:rightV x.v=true:=by
    have:=hr.1
    simp only [rightP,hk,if_true,Bool.and_eq_true] at this
    exact this.2.1
   have:=valT_len hv.1 this
   omega
  ·split
   ·rename_i h1 hk
    have hn:nameL x.var.data.toList=true∧nameL x.fld.data.toList=true:=by
     have:=hr.1
     simp only [rightP,h1,hk,if_false,if_true,Bool.and_eq_true] at this
     have h':=this
     simp only [show ¬ ((2:Int)=1) by omega,if_false,Bool.and_eq_true] at h'
     exact h'.2.2
    have a1:=name_len hn.1
    have a2:=name_len hn.2
    simp only [List.length_append,List.length_cons]
    omega
   ·split
    ·cases hl:x.l with
     | nil=>simp [bareTs,sizeXs]
     | cons y r =>
      have h1:=hch y (by rw [hl];simp)
      have h3:=parT_len y (bareT y) 1
      have h4:=parT_len y (bareT y) 7
      simp only [bareTs,sizeXs]
      split<;>simp only [List.length_cons,List.length_append,List.length_nil]<;>omega
    ·split
     ·have:=hjoin sOR 2 (by simp [sOR]);omega
     ·split
      ·have:=hjoin sAND 3 (by simp [sAND]);omega
      ·split
       ·cases hl:x.l with
        | nil=>simp [bareTs,sizeXs]
        | cons y r =>
         have h1:=hch y (by rw [hl];simp)
         have h3:=parT_len y (bareT y) 3
         simp only [bareTs,sizeXs,sNOT,List.length_cons,List.length_append,List.length_nil];omega
       ·cases hl:x.l with
        | nil=>simp [bareTs,sizeXs]
        | cons y r =>
         cases hr2:r with
         | nil=>simp [bareTs,sizeXs];omega
         | cons z r2 =>
          have h1:=hch y (by rw [hl];simp)
          have h2:=hch z (by rw [hl,hr2];simp)
          have h3:=parT_len y (bareT y) (need1 x.k)
          have h4:=parT_len z (bareT z) (need2 x.k)
          have h5:=sign_len (x.k - 4).toNat
          simp only [bareTs,sizeXs,List.length_cons,List.length_append,List.length_nil];omega
theorem expr_len (x:Ex) (hv:allX vX x) (hr:allR x=true) (need:Int):(exprT x need).length+8≤1100 * sizeX x:=by
 have h1:=bare_len x hv hr
 have h2:=parT_len x (bareT x) need
 simp only [exprT];omega
theorem partV1 (x:Ex):(encC x)[1]?=some (I x.v.k):=by rw [encC_eq];rfl
theorem partV2 (x:Ex):(encC x)[2]?=some (I x.v.n):=by rw [encC_eq];rfl
theorem c192 (x:Ex) (H:Heap) (Q:Post):E 192 [encX x] H Q=Q (.tup [I x.v.n,B (numK x)]) H:=by
 simp only [f192_eq,f192_j4_eq,szX,ob_some,part_f,p0X,partV1,partV2,i_eql,cnd_B,numK]
 by_cases h:x.k=1<;>simp [h]
theorem c112 (x:Ex) (H:Heap) (Q:Post):E 112 [encX x] H Q=Q (I (levelX x)) H:=by
 simp only [f112_eq,f112_j52_eq,szX,partX,ob_some,part_f,p0X,i_eql,i_geq,i_lss,c192,x20,x21,cnd_B,levelX]
 by_cases h17:x.k=17
 ·simp [h17]
 by_cases h16:x.k=16
 ·simp [h16]
 by_cases h15:x.k=15
 ·simp [h15]
 by_cases h9:9≤x.k
 ·simp [h17,h16,h15,h9]
 by_cases h6:6≤x.k
 ·simp [h17,h16,h15,h9,h6]
 by_cases h4:4≤x.k
 ·simp [h17,h16,h15,h9,h6,h4]
 by_cases h3:x.k=3
 ·simp [h3]
 cases numK x
 ·simp [h17,h16,h15,h9,h6,h4,h3]
 ·by_cases hn:x.v.n < 0<;>simp [h17,h16,h15,h9,h6,h4,h3,hn]
theorem c115 (x:Ex) (h1:1≤x.k) (h2:x.k≤17) (H:Heap) (Q:Post):E 115 [encX x] H Q=Q (I (levelX x)) H:=by
 simp only [f115_eq,f115_j24_eq,f115_j30_eq,f115_j36_eq,f115_j42_eq,f115_c13_13a_eq,f115_c13_13b_eq,f115_c13_13c_eq,f115_c13_19a_eq,f115_c13_19b_eq,f115_c13_19c_eq,f115_c13_20a_eq,f115_c13_20b_eq,f115_c13_20c_eq,szX,ob_some,part_f,p0X,partV1,partV2,i_eql,i_geq,i_leq,i_lss,cnd_B,levelX,numK]
 by_cases h17:x.k=17
 ·simp [h17]
 by_cases h16:x.k=16
 ·simp [h16]
 by_cases h15:x.k=15
 ·simp [h15]
 by_cases h9:9≤x.k
 ·have:x.k≤14:=by omega
  simp [h17,h16,h15,h9,this]
 by_cases h6:6≤x.k
 ·have a:¬ x.k=4:=by omega
  have b:¬ x.k=5:=by omega
  have c:x.k≤8:=by omega
  simp [h17,h16,h15,h9,h6,a,b,c]
 by_cases h4:4≤x.k
 ·have a:x.k=4 ∨ x.k=5:=by omega
  rcases a with a | a<;>simp [a]
 have a:¬ x.k=4:=by omega
 have b:¬ x.k=5:=by omega
 by_cases h3:x.k=3
 ·simp [h3]
 by_cases hk:x.k=1
 ·by_cases hv:x.v.k=2
  ·by_cases hn:x.v.n < 0<;>simp [hk,hv,hn]
  ·simp [hk,hv]
 ·simp [h17,h16,h15,h9,h6,h4,h3,a,b,hk]
/-- a node that may be is of one of these kinds -/
theorem right_k {x:Ex} (h:rightP x=true):1≤x.k∧x.k≤17:=by
 simp only [rightP] at h
 split at h
 ·omega
 ·split at h
  ·omega
  ·split at h
   ·cases h
   ·split at h
    ·omega
    ·split at h
     ·omega
     ·simp [isRowP] at h;omega
theorem strT_tx (s:ByteArray):S s=strT (tx s):=rfl
end Go.Hx
namespace Go.Hx
def Prints (x:Ex):Prop:=∀ (b:Nat) (H0 H:Heap) (t:List UInt8) (Q:Post),Bld H0 b t H→t.length+(bareT x).length≤140737488355328→(∀ H',Bld H0 b (t++bareT x) H'→Q (.tup []) H')→E 113 [Pt b,encX x] H Q
theorem c52 {x:Ex} (hx:Prints x) (need:Int) (b:Nat) (H0 H:Heap) (t:List UInt8) (Q:Post) (h:Bld H0 b t H) (hl:t.length+(exprT x need).length≤140737488355328)
  (hq:∀ H',Bld H0 b (t++exprT x need) H'→Q (.tup []) H'):E 52 [Pt b,encX x,I need] H Q:=by
 rw [f52_eq,szX,ob_some,partX,ob_some,c112,i_geq,ob_some]
 simp only [exprT,parT] at hl hq
 refine cnd_intro (fun g=>?_) (fun g=>?_)
 ·rw [if_pos (by simpa using g)] at hl hq
  rw [ob_some]
  exact hx b H0 H t _ h hl hq
 ·rw [if_neg (by simpa using g)] at hl hq
  simp only [List.length_cons,List.length_append,List.length_nil] at hl
  simp only [nil_Pt,add0_Pt,ob_some]
  refine c114 b 40 H0 H t _ h (by omega) (fun _ H1 h1=>?_)
  refine hx b H0 H1 (t++[40]) _ h1 (by simp only [List.length_append,List.length_singleton];omega) (fun H2 h2=>?_)
  refine c114 b 41 H0 H2 _ _ h2 (by simp only [List.length_append,List.length_singleton];omega) (fun _ H3 h3=>?_)
  exact hq H3 (by simpa using h3)
theorem c55 (sep:ByteArray) (need:Int) (sz:Nat) (nil:Bool) (tip:Tip) (l:List Ex) (hn:l.length≤1099511627776) (hp:∀ x ∈ l,Prints x) (b:Nat) (H0 H:Heap) (t:List UInt8) (Q:Post) (h:Bld H0 b t H)
  (hl:t.length+(joinT (tx sep) need (bareTs l)).length≤140737488355328) (hq:∀ H',Bld H0 b (t++joinT (tx sep) need (bareTs l)) H'→Q (.tup []) H'):E 55 [Pt b,encXs sz nil tip l,S sep,I need] H Q:=by
 have loop:∀ (r pre:List Ex) (t:List UInt8) (H:Heap),l=pre++r→pre ≠ []→Bld H0 b t H→t.length+(joinR (tx sep) need (bareTs r)).length≤140737488355328→(∀ H',Bld H0 b (t++joinR (tx sep) need (bareTs r)) H'→Q (.tup []) H') →
   f55_l3 (Pt b) (S sep) (I need) (encXs sz nil tip l) (I l.length) (I pre.length) H Q:=by
  intro r
  induction r with
  | nil =>
   intro pre t H e _ h hl hq
   have h1:(pre.length:Int)=l.length:=by rw [e];simp
   rw [f55_l3_eq,i_lss,ob_some,cnd_B,h1]
   simp only [Int.lt_irrefl,decide_false,Bool.false_eq_true,if_false]
   exact hq H (by simpa [joinR,bareTs] using h)
  | cons x r ih =>
   intro pre t H e hne h hl hq
   have hlt:pre.length < l.length:=by rw [e];simp
   have hlt':(pre.length:Int) < l.length:=by omega
   have hp0:0 < pre.length:=List.length_pos_iff.2 hne
   have hgt:decide ((0:Int) < (pre.length:Int))=true:=by simp;omega
   simp only [bareTs,joinR,List.length_append] at hl hq
   rw [f55_l3_eq,i_lss,ob_some,cnd_B,if_pos (by simpa using hlt'),ixX l sz nil tip pre r x e,ob_some,partX,ob_some,szX,ob_some,splX,ob_some,i_gtr,ob_some,hgt,cnd_t,nil_Pt,ob_some,add0_Pt,ob_some]
   refine c118 b sep H0 H t _ h (by omega) (fun _ H1 h1=>?_)
   rw [f55_j20_eq,partX,ob_some]
   refine c52 (hp x (by rw [e];simp)) need b H0 H1 _ _ h1 (by simp only [List.length_append,exprT];omega) (fun H2 h2=>?_)
   rw [i_add,ob_some,w64_succ hlt (by omega)]
   have:=ih (pre++[x]) _ H2 (by simp [e]) (by simp) h2 (by simp only [List.length_append,exprT];omega) (fun H' h'=>hq H' (by simpa [exprT] using h'))
   rw [List.length_append,List.length_singleton] at this
   exact this
 rw [f55_eq,lenX,ob_some]
 cases hc:l with
 | nil =>
  rw [hc] at hq
  rw [f55_l3_eq,i_lss,ob_some,cnd_B]
  simp only [List.length_nil,Int.natCast_zero,Int.lt_irrefl,decide_false,Bool.false_eq_true,if_false]
  exact hq H (by simpa [joinT,bareTs] using h)
 | cons x r =>
  rw [← hc]
  have hlt:0 < l.length:=by rw [hc];simp
  have hlt':(0:Int) < l.length:=by omega
  rw [hc] at hl hq
  simp only [bareTs,joinT,List.length_append] at hl hq
  have i1:ixaA 7 (encXs sz nil tip l) (I 0)=some (encC x):=ixX l sz nil tip [] r x hc
  have h00:decide ((0:Int) < 0)=false:=rfl
  rw [f55_l3_eq,i_lss,ob_some,cnd_B,if_pos (by simpa using hlt'),i1,ob_some,partX,ob_some,szX,ob_some,splX,ob_some,i_gtr,ob_some,h00,cnd_f,f55_j20_eq,partX,ob_some]
  refine c52 (hp x (by rw [hc];simp)) need b H0 H t _ h (by simp only [exprT];omega) (fun H2 h2=>?_)
  rw [i_add,ob_some]
  have h1:W64 ((0:Int)+1)=(([x].length:Nat):Int):=rfl
  rw [h1]
  exact loop r [x] _ H2 (by simp [hc]) (by simp) h2 (by simp only [List.length_append,exprT];omega) (fun H' h'=>hq H' (by simpa [exprT] using h'))
theorem c194 {y:Ex} (hy:Prints y) (b:Nat) (H0 H:Heap) (t:List UInt8) (Q:Post) (h:Bld H0 b t H)
  (hl:t.length+(45::(if numP y=true then 40::(exprT y 1++[41]) else exprT y 7):List UInt8).length≤140737488355328)
  (hq:∀ H',Bld H0 b (t++45::(if numP y=true then 40::(exprT y 1++[41]) else exprT y 7)) H'→Q (.tup []) H'):E 194 [Pt b,encX y] H Q:=by
 rw [f194_eq,szX,ob_some,nil_Pt,ob_some,add0_Pt,ob_some]
 simp only [List.length_cons] at hl
 refine c114 b 45 H0 H t _ h (by omega) (fun _ H1 h1=>?_)
 rw [partX,ob_some,c192,x20,ob_some,x21,ob_some]
 have j9:∀ c:Bool,c=numP y→f194_j9 (Pt b) (encC y) (B c) H1 Q:=fun c hc=>by
  rw [f194_j9_eq]
  refine cnd_intro (fun g=>?_) (fun g=>?_)
  ·have hn:numP y=true:=by rw [← hc,g]
   rw [if_pos hn] at hl hq
   simp only [List.length_cons,List.length_append,List.length_nil] at hl
   rw [nil_Pt,ob_some,add0_Pt,ob_some]
   refine c114 b 40 H0 H1 _ _ h1 (by simp only [List.length_append,List.length_singleton];omega) (fun _ H2 h2=>?_)
   rw [partX,ob_some]
   refine c52 hy 1 b H0 H2 _ _ h2 (by simp only [List.length_append,List.length_singleton];omega) (fun H3 h3=>?_)
   refine c114 b 41 H0 H3 _ _ h3 (by simp only [List.length_append,List.length_singleton];omega) (fun _ H4 h4=>?_)
   exact hq H4 (by simpa using h4)
  ·have hn:¬ numP y=true:=by rw [← hc,g];simp
   rw [if_neg hn] at hl hq
   rw [partX,ob_some]
   exact c52 hy 7 b H0 H1 _ _ h1 (by simp only [List.length_append,List.length_singleton];omega) (fun H3 h3=>hq H3 (by simpa using h3))
 refine cnd_intro (fun g=>?_) (fun g=>?_)
 ·rw [i_geq,ob_some]
  exact j9 _ (by simp [numP,g])
 ·exact j9 false (by simp [numP,g])
def signC:List AV:=[S ⟨#[43]⟩,I 4,S ⟨#[45]⟩,I 5,S ⟨#[42]⟩,I 6,S ⟨#[47]⟩,I 7,S ⟨#[37]⟩,I 8,S ⟨#[61]⟩,I 9,S ⟨#[60,62]⟩,I 10,S ⟨#[60]⟩,I 11,S ⟨#[60,61]⟩,I 12,S ⟨#[62]⟩,I 13,S ⟨#[62,61]⟩,I 14]
theorem c261 (H:Heap) (Q:Post) (hq:∀ H',HExt H H'→Q (.agg signC) H'):E 261 [] H Q:=by
 rw [f261_eq]
 intro b hb
 have b2:∀ (s:ByteArray) (n:Int),bldA [(0,1,S s),(1,1,I n)] [S e0,I 0]=some (.agg [S s,I n]):=fun _ _=>rfl
 simp only [b2,ob_some]
 have hb':bldA [(0,2,.agg [S ⟨#[43]⟩,I 4]),(2,2,.agg [S ⟨#[45]⟩,I 5]),(4,2,.agg [S ⟨#[42]⟩,I 6]),(6,2,.agg [S ⟨#[47]⟩,I 7]),(8,2,.agg [S ⟨#[37]⟩,I 8]),(10,2,.agg [S ⟨#[61]⟩,I 9]),(12,2,.agg [S ⟨#[60,62]⟩,I 10]),(14,2,.agg [S ⟨#[60]⟩,I 11]),(16,2,.agg [S ⟨#[60,61]⟩,I 12]),(18,2,.agg [S ⟨#[62]⟩,I 13]),(20,2,.agg [S ⟨#[62,61]⟩,I 14])]
  [S e0,I 0,S e0,I 0,S e0,I 0,S e0,I 0,S e0,I 0,S e0,I 0,S e0,I 0,S e0,I 0,S e0,I 0,S e0,I 0,S e0,I 0]=some (.agg signC):=rfl
 rw [hb',ob_some]
 have o1:=setObj_same H b (.cells [S e0,I 0,S e0,I 0,S e0,I 0,S e0,I 0,S e0,I 0,S e0,I 0,S e0,I 0,S e0,I 0,S e0,I 0,S e0,I 0,S e0,I 0])
 have e1:HExt H (H.setObj b (.cells [S e0,I 0,S e0,I 0,S e0,I 0,S e0,I 0,S e0,I 0,S e0,I 0,S e0,I 0,S e0,I 0,S e0,I 0,S e0,I 0,S e0,I 0])):=(HExt.refl H).setObj hb _
 simp only [Pt_def]
 generalize H.setObj b (.cells [S e0,I 0,S e0,I 0,S e0,I 0,S e0,I 0,S e0,I 0,S e0,I 0,S e0,I 0,S e0,I 0,S e0,I 0,S e0,I 0,S e0,I 0])=H1 at o1 e1 ⊢
 have hs:=st_agg o1 (xs:=signC) rfl 22 rfl
 rw [hs,ob_some,ld_agg (setObj_same _ _ _) 22 rfl,ob_some]
 exact hq _ (e1.setObj hb _)
theorem sign_ix {j:Nat} (h:j < 11) (K:AV→Prop) (hk:K (S (opS j))):ob (ixAgg 11 true 2 (.agg signC) (I j)) fun r13=>fldK false 0 1 r13 K:=by
 match j,h with
 | 0,_ | 1,_ | 2,_ | 3,_ | 4,_ | 5,_ | 6,_ | 7,_ | 8,_ | 9,_ | 10,_=>exact hk
 | n+11,h=>exact absurd h (by omega)
theorem c195 {x y z:Ex} (hx:x.l=[y,z]) (h4:4≤x.k) (h14:x.k≤14) (hy:Prints y) (hz:Prints z) (n1 n2:Int) (b:Nat) (H0 H:Heap) (t:List UInt8) (Q:Post) (h:Bld H0 b t H)
  (hl:t.length+(exprT y n1++((32::(tx (opS (x.k - 4).toNat)++[32]))++exprT z n2)).length≤140737488355328)
  (hq:∀ H',Bld H0 b (t++(exprT y n1++((32::(tx (opS (x.k - 4).toNat)++[32]))++exprT z n2))) H'→Q (.tup []) H'):E 195 [Pt b,encX x,I n1,I n2] H Q:=by
 simp only [List.length_append,List.length_cons,List.length_nil] at hl
 have i0:ixaA 7 (encXs x.sz x.nil x.tip x.l) (I 0)=some (encC y):=ixX x.l x.sz x.nil x.tip [] [z] y hx
 have i1:ixaA 7 (encXs x.sz x.nil x.tip x.l) (I 1)=some (encC z):=ixX x.l x.sz x.nil x.tip [y] [] z hx
 rw [f195_eq,szX,ob_some,part_f,p6X,ob_some,i0,ob_some,partX,ob_some]
 refine c52 hy n1 b H0 H t _ h (by omega) (fun H1 h1=>?_)
 simp only [nil_Pt,add0_Pt,ob_some,part_f,p0X,i_sub]
 refine c261 H1 _ (fun H2 e2=>?_)
 have hj:W64 (x.k - 4)=(((x.k - 4).toNat:Nat):Int):=by rw [w64_id (by omega) (by omega)];omega
 rw [hj]
 have hsl:=sign_len (x.k - 4).toNat
 refine sign_ix (by omega) _ ?_
 have e32:S ⟨#[32]⟩=strT [32]:=rfl
 rw [e32,strT_tx (opS (x.k - 4).toNat),s_add _ _ _ _ (by simp only [List.length_singleton];omega),ob_some,s_add _ _ _ _ (by simp only [List.length_singleton,List.length_append];omega),ob_some]
 refine c118 b ⟨([32]++tx (opS (x.k - 4).toNat)++[32]).toArray⟩ H0 H2 _ _ (h1.mono e2) (by rw [tx_str];simp only [List.length_append,List.length_singleton];omega) (fun _ H3 h3=>?_)
 rw [i1,ob_some,partX,ob_some]
 refine c52 hz n2 b H0 H3 _ _ h3 (by rw [tx_str];simp only [List.length_append,List.length_singleton];omega) (fun H4 h4=>?_)
 exact hq H4 (by rw [tx_str] at h4;simpa using h4)
theorem one_of {l:List Ex} (h:l.length=1):∃ y,l=[y]:=by
 match l,h with
 | [y],_=>exact ⟨y,rfl⟩
theorem two_of {l:List Ex} (h:l.length=2):∃ y z,l=[y,z]:=by
 match l,h with
 | [y,z],_=>exact ⟨y,z,rfl⟩
theorem c113 (x:Ex) (hok:allX okX x) (hv:allX vX x) (hr:allR x=true):Prints x:=by
 induction x using Ex.ind with
 | h x ih =>
  rw [allX_eq] at hok hv
  rw [allR_eq,Bool.and_eq_true] at hr
  have hch:∀ y ∈ x.l,Prints y:=fun y hy=>ih y hy (allXs_mem hok.2 hy) (allXs_mem hv.2 hy) (allRs_mem hr.2 hy)
  obtain ⟨hk1,hk17⟩:=right_k hr.1
  intro b H0 H t Q h hl hq
  rw [bareT_eq,bareTs_map] at hl hq
  unfold bodyT at hl hq
  have hbt:=bareTs_map x.l
  rw [f113_eq,szX,ob_some,partX,ob_some,c112]
  rw [part_f,p0X,ob_some,i_eql,ob_some]
  refine cnd_intro (fun g=>?_) (fun g=>?_)
  ·have g:x.k=1:=by simpa using g
   have hrv:rightV x.v=true:=by
    have:=hr.1
    simp only [rightP,g,if_true,Bool.and_eq_true] at this
    exact this.2.1
   rw [if_pos g] at hl hq
   rw [partXV,ob_some]
   refine c193 x.v hv.1 hrv H _ (fun H1 e1=>?_)
   simp only [x20,x21,ob_some,nil_Pt,add0_Pt]
   exact c118 b ⟨(valT x.v).toArray⟩ H0 H1 t _ (h.mono e1) (by rw [tx_str];exact hl) (fun _ H2 h2=>hq H2 (by rw [tx_str] at h2;exact h2))
  have g1:¬ x.k=1:=by simpa using g
  rw [ob_some,i_eql,ob_some]
  refine cnd_intro (fun g=>?_) (fun g=>?_)
  ·have g:x.k=2:=by simpa using g
   rw [if_neg g1,if_pos g] at hl hq
   have hlx:(tx x.var).length+1≤140737488355328:=by simp only [List.length_append,List.length_cons] at hl;omega
   rw [nil_Pt,ob_some,add0_Pt,ob_some,part_f,p4X,ob_some]
   have e46:S ⟨#[46]⟩=strT [46]:=rfl
   simp only [List.length_append,List.length_cons] at hl
   rw [strT_tx x.var,e46,s_add _ _ _ _ (by simp only [List.length_singleton];omega),ob_some,part_f,p5X,ob_some,strT_tx x.fld,s_add _ _ _ _ (by simp only [List.length_singleton,List.length_append];omega),ob_some]
   exact c118 b ⟨(tx x.var++[46]++tx x.fld).toArray⟩ H0 H t _ h (by rw [tx_str];simp only [List.length_append,List.length_singleton];omega) (fun _ H2 h2=>hq H2 (by rw [tx_str] at h2;simpa using h2))
  have g2:¬ x.k=2:=by simpa using g
  have hlen:=rightP_len hr.1 g1 g2
  rw [ob_some,i_eql,ob_some]
  rw [if_neg g1,if_neg g2] at hl hq
  refine cnd_intro (fun g=>?_) (fun g=>?_)
  ·have g:x.k=3:=by simpa using g
   obtain ⟨y,hy⟩:=one_of (l:=x.l) (by omega)
   rw [if_pos g,hy] at hl hq
   have i0:ixaA 7 (encXs x.sz x.nil x.tip x.l) (I 0)=some (encC y):=ixX x.l x.sz x.nil x.tip [] [] y hy
   rw [part_f,p6X,ob_some,i0,ob_some,partX,ob_some]
   exact c194 (hch y (by rw [hy];simp)) b H0 H t _ h hl hq
  have g3:¬ x.k=3:=by simpa using g
  rw [if_neg g3] at hl hq
  rw [i_eql,ob_some]
  refine cnd_intro (fun g=>?_) (fun g=>?_)
  ·have g:x.k=17:=by
    simp only [levelX] at g
    by_cases k:x.k=17
    ·exact k
    ·simp only [k,if_false,decide_eq_true_eq] at g
     repeat' split at g
     all_goals omega
   rw [if_pos g,← hbt] at hl hq
   rw [part_f,p6X,ob_some]
   exact c55 ⟨#[32,79,82,32]⟩ 2 x.sz x.nil x.tip x.l hok.1.1 hch b H0 H t _ h hl hq
  have g17:¬ x.k=17:=fun k=>by simp [levelX,k] at g
  rw [if_neg g17] at hl hq
  rw [i_eql,ob_some]
  refine cnd_intro (fun g=>?_) (fun g=>?_)
  ·have g:x.k=16:=by
    simp only [levelX,g17,if_false] at g
    by_cases k:x.k=16
    ·exact k
    ·simp only [k,if_false,decide_eq_true_eq] at g
     repeat' split at g
     all_goals omega
   rw [if_pos g,← hbt] at hl hq
   rw [part_f,p6X,ob_some]
   exact c55 ⟨#[32,65,78,68,32]⟩ 3 x.sz x.nil x.tip x.l hok.1.1 hch b H0 H t _ h hl hq
  have g16:¬ x.k=16:=fun k=>by simp [levelX,k] at g
  rw [if_neg g16] at hl hq
  rw [i_eql,ob_some]
  refine cnd_intro (fun g=>?_) (fun g=>?_)
  ·have g:x.k=15:=by
    simp only [levelX,g17,g16,if_false] at g
    by_cases k:x.k=15
    ·exact k
    ·simp only [k,if_false,decide_eq_true_eq] at g
     repeat' split at g
     all_goals omega
   obtain ⟨y,hy⟩:=one_of (l:=x.l) (by omega)
   rw [if_pos g,hy] at hl hq
   simp only [List.map_cons,List.map_nil,List.length_append] at hl hq
   have i0:ixaA 7 (encXs x.sz x.nil x.tip x.l) (I 0)=some (encC y):=ixX x.l x.sz x.nil x.tip [] [] y hy
   rw [nil_Pt,ob_some,add0_Pt,ob_some]
   have hN:tx ⟨#[78,79,84,32]⟩=sNOT:=rfl
   have hNl:sNOT.length=4:=rfl
   rw [hNl] at hl
   have hle:(exprT y 3).length=(parT y (bareT y) 3).length:=rfl
   refine c118 b ⟨#[78,79,84,32]⟩ H0 H t _ h (by rw [hN,hNl];omega) (fun _ H1 h1=>?_)
   rw [hN] at h1
   rw [part_f,p6X,ob_some,i0,ob_some,partX,ob_some]
   refine c52 (hch y (by rw [hy];simp)) 3 b H0 H1 _ _ h1 (by rw [List.length_append,hNl,hle];omega) (fun H2 h2=>hq H2 ?_)
   rw [List.append_assoc] at h2
   exact h2
  have g15:¬ x.k=15:=fun k=>by simp [levelX,k] at g
  rw [if_neg g15] at hl hq
  rw [i_eql,ob_some]
  have h4:4≤x.k:=by omega
  have h14:x.k≤14:=by omega
  obtain ⟨y,z,hyz⟩:=two_of (l:=x.l) (by omega)
  have hy:=hch y (by rw [hyz];simp)
  have hz:=hch z (by rw [hyz];simp)
  rw [hyz] at hl hq
  simp only [List.map_cons,List.map_nil] at hl hq
  refine cnd_intro (fun g=>?_) (fun g=>?_)
  ·have h9:9≤x.k:=by
    simp only [levelX,g17,g16,g15,if_false,decide_eq_true_eq] at g
    by_cases k:9≤x.k
    ·exact k
    ·simp only [k,if_false] at g
     repeat' split at g
     all_goals omega
   simp only [need1,need2,if_pos h9] at hl hq
   rw [ob_some]
   exact c195 hyz h4 h14 hy hz 5 5 b H0 H t _ h hl hq
  ·have h9:¬ 9≤x.k:=fun k=>by simp [levelX,g17,g16,g15,k] at g
   by_cases h6:6≤x.k
   ·have hlv:levelX x=6:=by simp only [levelX,g17,g16,g15,h9,h6,if_false,if_true]
    simp only [need1,need2,if_neg h9,if_pos h6] at hl hq
    rw [ob_some,hlv,i_add,ob_some]
    exact c195 hyz h4 h14 hy hz 6 7 b H0 H t _ h hl hq
   ·have hlv:levelX x=5:=by simp only [levelX,g17,g16,g15,h9,h6,h4,if_false,if_true]
    simp only [need1,need2,if_neg h9,if_neg h6] at hl hq
    rw [ob_some,hlv,i_add,ob_some]
    exact c195 hyz h4 h14 hy hz 5 6 b H0 H t _ h hl hq
end Go.Hx
namespace Go.Hx
theorem c117 (k:Int) (h4:4≤k) (h14:k≤14) (H:Heap) (Q:Post) (hq:Q (strT (tx (opS (k - 4).toNat))) H):E 117 [I k] H Q:=by
 have hm:mkSlA 1 [S ⟨#[43]⟩,S ⟨#[45]⟩,S ⟨#[42]⟩,S ⟨#[47]⟩,S ⟨#[37]⟩,S ⟨#[61]⟩,S ⟨#[60,62]⟩,S ⟨#[60]⟩,S ⟨#[60,61]⟩,S ⟨#[62]⟩,S ⟨#[62,61]⟩]=some (.sl 1 false .full (signL.map S)):=rfl
 have hj:W64 (k - 4)=(((k - 4).toNat:Nat):Int):=by rw [w64_id (by omega) (by omega)];omega
 have hi:∀ j:Nat,j < 11→ixaA 1 (.sl 1 false .full (signL.map S)) (I j)=some [S (opS j)]:=fun j hj=>by
  match j,hj with
  | 0,_ | 1,_ | 2,_ | 3,_ | 4,_ | 5,_ | 6,_ | 7,_ | 8,_ | 9,_ | 10,_=>rfl
  | n+11,h=>exact absurd h (by omega)
 rw [f117_eq,hm,ob_some,i_sub,ob_some,hj,hi _ (by omega),ob_some,part_f,List.getElem?_cons_zero,ob_some]
 exact hq
def Puts (x:Ex):Prop:=∀ (need:Int) (H:Heap) (Q:Post),(exprT x need).length≤140737488355328→Q (strT (exprT x need)) H→E 54 [encX x,I need] H Q
theorem c56 (w:List UInt8) (need:Int) (sz:Nat) (nil:Bool) (tip:Tip) (l:List Ex) (hn:l.length≤1099511627776) (hp:∀ x ∈ l,Puts x) (H:Heap) (Q:Post)
  (hl:(joinT (32::(w++[32])) need (bareTs l)).length≤140737488355328) (hq:Q (strT (joinT (32::(w++[32])) need (bareTs l))) H):E 56 [encXs sz nil tip l,strT w,I need] H Q:=by
 have e32:S ⟨#[32]⟩=strT [32]:=rfl
 have loop:∀ (r pre:List Ex) (acc:List UInt8),l=pre++r→pre ≠ []→acc.length+(joinR (32::(w++[32])) need (bareTs r)).length≤140737488355328→Q (strT (acc++joinR (32::(w++[32])) need (bareTs r))) H →
   f56_l8 (encXs sz nil tip l) (strT w) (I need) (strT acc) (I pre.length) H Q:=by
  intro r
  induction r with
  | nil =>
   intro pre acc e _ hl hq
   have h1:(pre.length:Int)=l.length:=by rw [e];simp
   rw [f56_l8_eq,lenX,ob_some,i_lss,ob_some,cnd_B,h1]
   simp only [Int.lt_irrefl,decide_false,Bool.false_eq_true,if_false]
   simpa [joinR,bareTs] using hq
  | cons x r ih =>
   intro pre acc e hne hl hq
   have hlt:pre.length < l.length:=by rw [e];simp
   have hlt':(pre.length:Int) < l.length:=by omega
   have hp0:0 < pre.length:=List.length_pos_iff.2 hne
   have hgt:decide ((0:Int) < (pre.length:Int))=true:=by simp;omega
   simp only [bareTs,joinR,List.length_append,List.length_cons,List.length_nil] at hl hq
   have hle:(exprT x need).length=(parT x (bareT x) need).length:=rfl
   rw [f56_l8_eq,lenX,ob_some,i_lss,ob_some,cnd_B,if_pos (by simpa using hlt'),i_gtr,ob_some,hgt,cnd_t,e32,s_add _ _ _ _ (by simp only [List.length_singleton];omega),ob_some,s_add _ _ _ _ (by simp only [List.length_append,List.length_singleton];omega),ob_some,
    s_add _ _ _ _ (by simp only [List.length_append,List.length_singleton];omega),ob_some,f56_j23_eq,ixX l sz nil tip pre r x e,ob_some,partX,ob_some]
   refine hp x (by rw [e];simp) need H _ (by omega) ?_
   rw [s_add _ _ _ _ (by simp only [List.length_append,List.length_singleton];omega),ob_some,i_add,ob_some,w64_succ hlt (by omega)]
   have:=ih (pre++[x]) (acc++[32]++w++[32]++exprT x need) (by simp [e]) (by simp) (by simp only [List.length_append,List.length_singleton];omega) (by simpa [exprT] using hq)
   rw [List.length_append,List.length_singleton] at this
   exact this
 rw [f56_eq]
 have e0s:S ⟨#[]⟩=strT []:=rfl
 cases hc:l with
 | nil =>
  rw [hc] at hq
  rw [f56_l8_eq,lenX,ob_some,i_lss,ob_some,cnd_B]
  simp only [List.length_nil,Int.natCast_zero,Int.lt_irrefl,decide_false,Bool.false_eq_true,if_false]
  exact hq
 | cons x r =>
  rw [← hc]
  have hlt:0 < l.length:=by rw [hc];simp
  have hlt':(0:Int) < l.length:=by omega
  rw [hc] at hl hq
  simp only [bareTs,joinT,List.length_append] at hl hq
  have hle:(exprT x need).length=(parT x (bareT x) need).length:=rfl
  have i1:ixaA 7 (encXs sz nil tip l) (I 0)=some (encC x):=ixX l sz nil tip [] r x hc
  have h00:decide ((0:Int) < 0)=false:=rfl
  rw [f56_l8_eq,lenX,ob_some,i_lss,ob_some,cnd_B,if_pos (by simpa using hlt'),i_gtr,ob_some,h00,cnd_f,f56_j23_eq,i1,ob_some,partX,ob_some]
  refine hp x (by rw [hc];simp) need H _ (by omega) ?_
  rw [e0s,s_add _ _ _ _ (by simp only [List.length_nil];omega),ob_some,i_add,ob_some]
  have h1:W64 ((0:Int)+1)=(([x].length:Nat):Int):=rfl
  rw [h1]
  exact loop r [x] _ (by simp [hc]) (by simp) (by simp only [List.nil_append];omega) (by simpa [exprT] using hq)
theorem j45 (x:Ex) (need:Int) (t:List UInt8) (H:Heap) (Q:Post) (hl:(parT x t need).length≤140737488355328) (hq:Q (strT (parT x t need)) H):f54_j45 (I need) (strT t) (I (levelX x)) H Q:=by
 rw [f54_j45_eq,i_lss,ob_some]
 simp only [parT] at hl hq
 refine cnd_intro (fun g=>?_) (fun g=>?_)
 ·have g:¬ need≤levelX x:=by simp at g;omega
  rw [if_neg g] at hl hq
  simp only [List.length_cons,List.length_append,List.length_nil] at hl
  have e1:S ⟨#[40]⟩=strT [40]:=rfl
  have e2:S ⟨#[41]⟩=strT [41]:=rfl
  rw [e1,e2,s_add _ _ _ _ (by simp only [List.length_singleton];omega),ob_some,s_add _ _ _ _ (by simp only [List.length_append,List.length_singleton];omega),ob_some]
  simpa using hq
 ·have g:need≤levelX x:=by simp at g;omega
  rw [if_pos g] at hq
  exact hq
theorem j37 {y x:Ex} (hy:Puts y) (need:Int) (c:Bool) (hc:c=numP y) (H:Heap) (Q:Post) (hl:(parT x (45::(if numP y=true then 40::(exprT y 1++[41]) else exprT y 7)) need).length≤140737488355328)
  (hlb:(45::(if numP y=true then 40::(exprT y 1++[41]) else exprT y 7)).length≤140737488355328) (hq:Q (strT (parT x (45::(if numP y=true then 40::(exprT y 1++[41]) else exprT y 7)) need)) H):f54_j37 (I need) (I (levelX x)) (encC y) (B c) H Q:=by
 rw [f54_j37_eq]
 refine cnd_intro (fun g=>?_) (fun g=>?_)
 ·have hn:numP y=true:=by rw [← hc,g]
  rw [if_pos hn] at hl hq hlb
  simp only [List.length_cons,List.length_append,List.length_nil] at hlb
  rw [partX,ob_some]
  refine hy 1 H _ (by omega) ?_
  have e1:S ⟨#[45,40]⟩=strT [45,40]:=rfl
  have e2:S ⟨#[41]⟩=strT [41]:=rfl
  rw [e1,e2,s_add _ _ _ _ (by simp only [List.length_cons,List.length_nil];omega),ob_some,s_add _ _ _ _ (by simp only [List.length_append,List.length_cons,List.length_nil];omega),ob_some]
  exact j45 x need ([45,40]++exprT y 1++[41]) H Q (by simpa using hl) (by simpa using hq)
 ·have hn:¬ numP y=true:=by rw [← hc,g];simp
  rw [if_neg hn] at hl hq hlb
  simp only [List.length_cons] at hlb
  rw [partX,ob_some]
  refine hy 7 H _ (by omega) ?_
  have e1:S ⟨#[45]⟩=strT [45]:=rfl
  rw [e1,s_add _ _ _ _ (by simp only [List.length_cons,List.length_nil];omega),ob_some]
  exact j45 x need ([45]++exprT y 7) H Q (by simpa using hl) (by simpa using hq)
theorem c54 (x:Ex) (hok:allX okX x) (hv:allX vX x) (hr:allR x=true):Puts x:=by
 induction x using Ex.ind with
 | h x ih =>
  rw [allX_eq] at hok hv
  rw [allR_eq,Bool.and_eq_true] at hr
  have hch:∀ y ∈ x.l,Puts y:=fun y hy=>ih y hy (allXs_mem hok.2 hy) (allXs_mem hv.2 hy) (allRs_mem hr.2 hy)
  obtain ⟨hk1,hk17⟩:=right_k hr.1
  intro need H Q hl hq
  have hlb:(bareT x).length≤140737488355328:=by
   simp only [exprT,parT] at hl
   split at hl
   ·exact hl
   ·simp only [List.length_cons,List.length_append,List.length_nil] at hl;omega
  have hJ:=fun t (ht:bareT x=t)=>j45 x need t H Q (by rw [← ht];exact hl) (by rw [← ht];exact hq)
  rw [bareT_eq,bareTs_map] at hJ hlb
  unfold bodyT at hJ hlb
  have hbt:=bareTs_map x.l
  rw [f54_eq,szX,ob_some,partX,ob_some,c115 x hk1 hk17,part_f,p0X,ob_some,i_eql,ob_some]
  refine cnd_intro (fun g=>?_) (fun g=>?_)
  ·have g:x.k=1:=by simpa using g
   have hrv:rightV x.v=true:=by
    have:=hr.1
    simp only [rightP,g,if_true,Bool.and_eq_true] at this
    exact this.2.1
   rw [if_pos g] at hJ
   rw [partXV,ob_some]
   refine c116 x.v hv.1 hrv H _ ?_
   rw [x20,ob_some,x21,ob_some]
   exact hJ _ rfl
  have g1:¬ x.k=1:=by simpa using g
  rw [ob_some,i_eql,ob_some]
  refine cnd_intro (fun g=>?_) (fun g=>?_)
  ·have g:x.k=2:=by simpa using g
   rw [if_neg g1,if_pos g] at hJ hlb
   rw [part_f,p4X,ob_some]
   have e46:S ⟨#[46]⟩=strT [46]:=rfl
   simp only [List.length_append,List.length_cons] at hlb
   rw [strT_tx x.var,e46,s_add _ _ _ _ (by simp only [List.length_singleton];omega),ob_some,part_f,p5X,ob_some,strT_tx x.fld,s_add _ _ _ _ (by simp only [List.length_singleton,List.length_append];omega),ob_some]
   exact hJ _ (by simp)
  have g2:¬ x.k=2:=by simpa using g
  have hlen:=rightP_len hr.1 g1 g2
  rw [if_neg g1,if_neg g2] at hJ hlb
  rw [ob_some,i_eql,ob_some]
  refine cnd_intro (fun g=>?_) (fun g=>?_)
  ·have g:x.k=17:=by simpa using g
   have g3:¬ x.k=3:=by omega
   rw [if_neg g3,if_pos g,← hbt] at hJ hlb
   rw [part_f,p6X,ob_some]
   exact c56 [79,82] 2 x.sz x.nil x.tip x.l hok.1.1 hch H _ hlb (hJ _ rfl)
  have g17:¬ x.k=17:=by simpa using g
  rw [if_neg g17] at hJ hlb
  rw [ob_some,i_eql,ob_some]
  refine cnd_intro (fun g=>?_) (fun g=>?_)
  ·have g:x.k=16:=by simpa using g
   have g3:¬ x.k=3:=by omega
   rw [if_neg g3,if_pos g,← hbt] at hJ hlb
   rw [part_f,p6X,ob_some]
   exact c56 [65,78,68] 3 x.sz x.nil x.tip x.l hok.1.1 hch H _ hlb (hJ _ rfl)
  have g16:¬ x.k=16:=by simpa using g
  rw [if_neg g16] at hJ hlb
  rw [ob_some,i_eql,ob_some]
  refine cnd_intro (fun g=>?_) (fun g=>?_)
  ·have g:x.k=15:=by simpa using g
   have g3:¬ x.k=3:=by omega
   obtain ⟨y,hy⟩:=one_of (l:=x.l) (by omega)
   rw [if_neg g3,if_pos g,hy] at hJ hlb
   simp only [List.map_cons,List.map_nil,List.length_append] at hJ hlb
   have i0:ixaA 7 (encXs x.sz x.nil x.tip x.l) (I 0)=some (encC y):=ixX x.l x.sz x.nil x.tip [] [] y hy
   have hNl:sNOT.length=4:=rfl
   rw [hNl] at hlb
   have hle:(exprT y 3).length=(parT y (bareT y) 3).length:=rfl
   rw [part_f,p6X,ob_some,i0,ob_some,partX,ob_some]
   refine hch y (by rw [hy];simp) 3 H _ (by omega) ?_
   have e1:S ⟨#[78,79,84,32]⟩=strT sNOT:=rfl
   rw [e1,s_add _ _ _ _ (by rw [hNl];omega),ob_some]
   exact hJ _ rfl
  have g15:¬ x.k=15:=by simpa using g
  rw [ob_some,i_eql,ob_some]
  refine cnd_intro (fun g=>?_) (fun g=>?_)
  ·have g:x.k=3:=by simpa using g
   obtain ⟨y,hy⟩:=one_of (l:=x.l) (by omega)
   rw [if_pos g,hy] at hJ hlb
   have i0:ixaA 7 (encXs x.sz x.nil x.tip x.l) (I 0)=some (encC y):=ixX x.l x.sz x.nil x.tip [] [] y hy
   have hb:bareT x=45::(if numP y=true then 40::(exprT y 1++[41]) else exprT y 7):=by
    rw [bareT_eq,bareTs_map,hy]
    unfold bodyT
    rw [if_neg g1,if_neg g2,if_pos g]
    rfl
   have hJ':=fun (c:Bool) (hc:c=numP y)=>j37 (x:=x) (hch y (by rw [hy];simp)) need c hc H Q (by rw [← hb];exact hl) hlb (by rw [← hb];exact hq)
   rw [part_f,p6X,ob_some,i0,ob_some,partX,ob_some,szX,ob_some,splX,ob_some,part_f,p0X,ob_some,i_eql,ob_some]
   refine cnd_intro (fun q1=>?_) (fun q1=>hJ' false (by simp [numP,numK,q1]))
   rw [part_f,partV1,ob_some,i_eql,ob_some]
   refine cnd_intro (fun q2=>?_) (fun q2=>hJ' false (by simp [numP,numK,q2]))
   rw [part_f,partV2,ob_some,i_geq,ob_some]
   exact hJ' _ (by simp [numP,numK,q1,q2])
  have g3:¬ x.k=3:=by simpa using g
  rw [if_neg g3,if_neg g15] at hJ hlb
  have h4:4≤x.k:=by omega
  have h14:x.k≤14:=by omega
  obtain ⟨y,z,hyz⟩:=two_of (l:=x.l) (by omega)
  have hy:=hch y (by rw [hyz];simp)
  have hz:=hch z (by rw [hyz];simp)
  rw [hyz] at hJ hlb
  simp only [List.map_cons,List.map_nil] at hJ hlb
  have hsl:=sign_len (x.k - 4).toNat
  simp only [List.length_append,List.length_cons,List.length_nil] at hlb
  have hly:(exprT y (need1 x.k)).length=(parT y (bareT y) (need1 x.k)).length:=rfl
  have hlz:(exprT z (need2 x.k)).length=(parT z (bareT z) (need2 x.k)).length:=rfl
  have i0:ixaA 7 (encXs x.sz x.nil x.tip x.l) (I 0)=some (encC y):=ixX x.l x.sz x.nil x.tip [] [z] y hyz
  have i1:ixaA 7 (encXs x.sz x.nil x.tip x.l) (I 1)=some (encC z):=ixX x.l x.sz x.nil x.tip [y] [] z hyz
  have e32:S ⟨#[32]⟩=strT [32]:=rfl
  have two:∀ a b:Int,a=need1 x.k→b=need2 x.k→E 54 [encX y,I a] H fun r57 H58=>ob (binA Pg .add 9 true r57 (S ⟨#[32]⟩)) fun r59=>E 117 [I x.k] H58 fun r60 H61=>ob (binA Pg .add 9 false r59 r60) fun r62=>ob (binA Pg .add 9 true r62 (S ⟨#[32]⟩)) fun r63 =>
    E 54 [encX z,I b] H61 fun r64 H65=>ob (binA Pg .add 9 false r63 r64) fun r66=>f54_j45 (I need) r66 (I (levelX x)) H65 Q:=fun a b ha hb=>by
   subst ha hb
   refine hy (need1 x.k) H _ (by omega) ?_
   rw [e32,s_add _ _ _ _ (by simp only [List.length_singleton];omega),ob_some]
   refine c117 x.k h4 h14 H _ ?_
   rw [s_add _ _ _ _ (by simp only [List.length_append,List.length_singleton];omega),ob_some,s_add _ _ _ _ (by simp only [List.length_append,List.length_singleton];omega),ob_some]
   refine hz (need2 x.k) H _ (by omega) ?_
   rw [s_add _ _ _ _ (by simp only [List.length_append,List.length_singleton];omega),ob_some]
   exact hJ _ (by simp [exprT])
  rw [i_eql,ob_some]
  refine cnd_intro (fun g=>?_) (fun g=>?_)
  ·have h9:9≤x.k:=by
    simp only [levelX,g17,g16,g15,if_false,decide_eq_true_eq] at g
    by_cases k:9≤x.k
    ·exact k
    ·simp only [k,if_false] at g
     repeat' split at g
     all_goals omega
   rw [part_f,p6X,ob_some,i0,ob_some,partX,ob_some,ob_some,ob_some,i1,ob_some,partX,ob_some]
   exact two 5 5 (by simp [need1,h9]) (by simp [need2,h9])
  ·have h9:¬ 9≤x.k:=fun k=>by simp [levelX,g17,g16,g15,k] at g
   rw [part_f,p6X,ob_some,i0,ob_some,partX,ob_some,ob_some,ob_some,i1,ob_some,partX,ob_some,i_add,ob_some]
   by_cases h6:6≤x.k
   ·have hlv:levelX x=6:=by simp only [levelX,g17,g16,g15,h9,h6,if_false,if_true]
    have t2:=two 6 7 (by simp [need1,h9,h6]) (by simp [need2,h9,h6])
    rw [hlv] at t2 ⊢
    exact t2
   ·have hlv:levelX x=5:=by simp only [levelX,g17,g16,g15,h9,h6,h4,if_false,if_true]
    have t2:=two 5 6 (by simp [need1,h9,h6]) (by simp [need2,h9,h6])
    rw [hlv] at t2 ⊢
    exact t2
end Go.Hx
namespace Go.Hx
def rowErr:List Ex→Int
 | []=>0
 | x::r=>if checkP x=0 then rowErr r else checkP x
def rowA (l:List Ex):AV :=
 if l.length=0 then .tup [S e0,I 1] else if rowErr l=0 then .tup [strT (joinT sAND 3 (bareTs l)),I 0] else .tup [S e0,I (rowErr l)]
theorem rowErr_all:∀ {l:List Ex},rowErr l=0→∀ x ∈ l,checkP x=0:=by
 intro l
 induction l with
 | nil=>intro _ x hx;cases hx
 | cons y r ih =>
  intro h x hx
  simp only [rowErr] at h
  split at h
  ·rename_i hy
   cases hx with
   | head=>exact hy
   | tail _ hx=>exact ih h x hx
  ·rename_i hy;exact absurd h hy
theorem join_len (sep:List UInt8) (need:Int) (hs:sep.length≤5) (l:List Ex) (hl:∀ x ∈ l,allX vX x∧allR x=true):(joinT sep need (bareTs l)).length≤1100 * sizeXs l:=by
 have hR:∀ r:List Ex,(∀ x ∈ r,allX vX x∧allR x=true)→(joinR sep need (bareTs r)).length≤1100 * sizeXs r:=by
  intro r
  induction r with
  | nil=>intro _;simp [bareTs,joinR]
  | cons y r ih =>
   intro h
   have h1:=bare_len y (h y (by simp)).1 (h y (by simp)).2
   have h2:=ih (fun x hx=>h x (by simp [hx]))
   have h3:=parT_len y (bareT y) need
   simp only [bareTs,joinR,sizeXs,List.length_append];omega
 cases l with
 | nil=>simp [bareTs,joinT]
 | cons y r =>
  have h1:=bare_len y (hl y (by simp)).1 (hl y (by simp)).2
  have h2:=hR r (fun x hx=>hl x (by simp [hx]))
  have h3:=parT_len y (bareT y) need
  simp only [bareTs,joinT,sizeXs,List.length_append];omega
/-- conditions that are small enough -/
structure OkL (l:List Ex):Prop where
 len:l.length≤1099511627776
 ok:∀ x ∈ l,allX okX x
 vx:∀ x ∈ l,allX vX x
 sum:sizeXs l≤100000000000
theorem c26 (sz:Nat) (nil:Bool) (tip:Tip) (l:List Ex) (hok:OkL l) (H:Heap) (Q:Post) (hq:∀ H',HExt H H'→Q (rowA l) H'):E 26 [encXs sz nil tip l] H Q:=by
 rw [f26_eq,lenX,ob_some,i_eql,ob_some,len0]
 simp only [rowA] at hq
 refine cnd_intro (fun g=>?_) (fun g=>?_)
 ·have:=hq H (HExt.refl H)
  rw [if_pos (by simpa using g)] at this;exact this
 have g:¬ l.length=0:=by simpa using g
 simp only [if_neg g] at hq
 rw [ob_some]
 have hlen:=hok.len
 have loop:∀ (r pre:List Ex) (H1:Heap),l=pre++r→HExt H H1→(rowErr r ≠ 0→∀ H',HExt H H'→Q (.tup [S e0,I (rowErr r)]) H')→(∀ x ∈ pre,checkP x=0) →
   (rowErr r=0→∀ H',HExt H H'→Q (.tup [strT (joinT sAND 3 (bareTs l)),I 0]) H')→f26_l14 (encXs sz nil tip l) (encXs sz nil tip l) (I l.length) (I pre.length) H1 Q:=by
  intro r
  induction r with
  | nil =>
   intro pre H1 e he _ hall hq
   have h1:(pre.length:Int)=l.length:=by rw [e];simp
   have hp:l=pre:=by rw [e];simp
   have hall:∀ x ∈ l,checkP x=0:=by rw [hp];exact hall
   have hR:∀ x ∈ l,allX vX x∧allR x=true:=fun x hx=>⟨hok.vx x hx,checkP_all (hall x hx)⟩
   have hjl:=join_len sAND 3 (by simp [sAND]) l hR
   have hsum:=hok.sum
   have hb:bldA [] [AV.raw (.pointer none),.sl 0 true .full []]=some (.agg [.raw (.pointer none),.sl 0 true .full []]):=rfl
   have hs:sizedA 2 (.agg [AV.raw (.pointer none),.sl 0 true .full []])=some [.raw (.pointer none),.sl 0 true .full []]:=rfl
   rw [f26_l14_eq,i_lss,ob_some,cnd_B,h1]
   simp only [Int.lt_irrefl,decide_false,Bool.false_eq_true,if_false]
   rw [hb,ob_some,hs,ob_some]
   refine bld_new 95 lies95 he (fun b H2 h2=>?_)
   refine c55 ⟨#[32,65,78,68,32]⟩ 3 sz nil tip l hok.len (fun x hx=>c113 x (hok.ok x hx) (hok.vx x hx) (hR x hx).2) b H H2 [] _ h2 (by
    have:tx ⟨#[32,65,78,68,32]⟩=sAND:=rfl
    rw [this,List.length_nil];omega) (fun H3 h3=>?_)
   have:tx ⟨#[32,65,78,68,32]⟩=sAND:=rfl
   rw [this,List.nil_append] at h3
   rw [nil_Pt,ob_some,add0_Pt,ob_some]
   exact c53 b H H3 _ _ h3 (by omega) (fun H4 e4=>hq rfl H4 e4)
  | cons x r ih =>
   intro pre H1 e he hq1 hall hq2
   have hlt:pre.length < l.length:=by rw [e];simp
   have hlt':(pre.length:Int) < l.length:=by omega
   have hxm:x ∈ l:=by rw [e];simp
   rw [f26_l14_eq,i_lss,ob_some,cnd_B,if_pos (by simpa using hlt'),ixX l sz nil tip pre r x e,ob_some,partX,ob_some,szX,ob_some,splX,ob_some,partX,ob_some]
   refine c28 x (hok.ok x hxm) H1 _ (fun H2 e2=>?_)
   simp only [rowErr] at hq1 hq2
   rw [i_neq,ob_some]
   refine cnd_intro (fun h=>?_) (fun h=>?_)
   ·have h:¬ checkP x=0:=by simpa using h
    rw [if_neg h] at hq1
    exact hq1 h H2 (he.trans e2)
   ·have h:checkP x=0:=by simpa using h
    rw [if_pos h] at hq1 hq2
    rw [i_add,ob_some,w64_succ hlt (by omega)]
    have:=ih (pre++[x]) H2 (by simp [e]) (he.trans e2) hq1 (fun y hy=>by
     rcases List.mem_append.1 hy with hy | hy
     ·exact hall y hy
     ·rw [List.mem_singleton.1 hy];exact h) hq2
    rw [List.length_append,List.length_singleton] at this
    exact this
 refine loop l [] H rfl (HExt.refl H) (fun h H' h'=>?_) (fun x hx=>by cases hx) (fun h H' h'=>?_)
 ·have:=hq H' h'
  rw [if_neg h] at this;exact this
 ·have:=hq H' h'
  rw [if_pos h] at this;exact this
def printA (x:Ex):AV:=if checkP x=0 then .tup [strT (exprT x 1),I 0] else .tup [S e0,I (checkP x)]
theorem exprT_01 (x:Ex):exprT x 0=exprT x 1:=by
 have:1≤levelX x:=by
  simp only [levelX]
  repeat' split
  all_goals omega
 simp only [exprT,parT]
 rw [if_pos (by omega),if_pos this]
theorem c24 (x:Ex) (hok:allX okX x) (hv:allX vX x) (hs:sizeX x≤100000000000) (H:Heap) (Q:Post) (hq:∀ H',HExt H H'→Q (printA x) H'):E 24 [encX x] H Q:=by
 have hb:bldA [] [AV.raw (.pointer none),.sl 0 true .full []]=some (.agg [.raw (.pointer none),.sl 0 true .full []]):=rfl
 have hsz:sizedA 2 (.agg [AV.raw (.pointer none),.sl 0 true .full []])=some [.raw (.pointer none),.sl 0 true .full []]:=rfl
 rw [f24_eq,szX,ob_some,partX,ob_some]
 refine c28 x hok H _ (fun H1 e1=>?_)
 rw [i_neq,ob_some]
 simp only [printA] at hq
 refine cnd_intro (fun h=>?_) (fun h=>?_)
 ·have h:checkP x ≠ 0:=by simpa using h
  have:=hq H1 e1
  rw [if_neg h] at this;exact this
 ·have h:checkP x=0:=by simpa using h
  have hR:=checkP_all h
  have hl:=expr_len x hv hR 0
  rw [if_pos h] at hq
  rw [hb,ob_some,hsz,ob_some]
  refine bld_new 95 lies95 e1 (fun b H2 h2=>?_)
  rw [ob_some]
  refine c52 (c113 x hok hv hR) 0 b H H2 [] _ h2 (by simp only [List.length_nil];omega) (fun H3 h3=>?_)
  rw [nil_Pt,ob_some,add0_Pt,ob_some]
  rw [List.nil_append,exprT_01] at h3
  exact c53 b H H3 _ _ h3 (by rw [exprT_01] at hl;omega) (fun H4 e4=>hq H4 e4)
theorem c25 (x:Ex) (hok:allX okX x) (hv:allX vX x) (hs:sizeX x≤100000000000) (H:Heap) (Q:Post) (hq:Q (printA x) H):E 25 [encX x] H Q:=by
 rw [f25_eq,szX,ob_some,partX,ob_some,c51 x hok hv (by omega),i_neq,ob_some]
 simp only [printA] at hq
 refine cnd_intro (fun h=>?_) (fun h=>?_)
 ·have h:checkP x ≠ 0:=by simpa using h
  rw [if_neg h] at hq;exact hq
 ·have h:checkP x=0:=by simpa using h
  have hR:=checkP_all h
  have hl:=expr_len x hv hR 1
  rw [if_pos h] at hq
  rw [ob_some]
  exact c54 x hok hv hR 1 H _ (by omega) hq
end Go.Hx
namespace Go.Hx
inductive Pa where
 | mk (k:Int) (var typ:ByteArray) (lo hi:Int) (sz:Nat) (nil:Bool) (tip:Tip) (l:List Pa)
namespace Pa
def k:Pa→Int | mk k _ _ _ _ _ _ _ _=>k
def var:Pa→ByteArray | mk _ v _ _ _ _ _ _ _=>v
def typ:Pa→ByteArray | mk _ _ v _ _ _ _ _ _=>v
def lo:Pa→Int | mk _ _ _ n _ _ _ _ _=>n
def hi:Pa→Int | mk _ _ _ _ n _ _ _ _=>n
def sz:Pa→Nat | mk _ _ _ _ _ s _ _ _=>s
def nil:Pa→Bool | mk _ _ _ _ _ _ n _ _=>n
def tip:Pa→Tip | mk _ _ _ _ _ _ _ t _=>t
def l:Pa→List Pa | mk _ _ _ _ _ _ _ _ l=>l
end Pa
theorem Pa.ind {p:Pa→Prop} (h:∀ x,(∀ y ∈ x.l,p y)→p x) (x:Pa):p x :=
 Pa.rec (motive_1:=p) (motive_2:=fun l=>∀ y ∈ l,p y) (fun _ _ _ _ _ _ _ _ _ ih=>h _ ih) (fun _ hy=>by cases hy)
  (fun _ _ hz hr y hy=>by
   cases hy with
   | head=>exact hz
   | tail _ hy=>exact hr y hy) x
mutual
def encTC:Pa→List AV
 | .mk k var typ lo hi sz nil tip l=>[I k,S var,S typ,I lo,I hi,.sl sz nil tip (encTCs l)]
def encTCs:List Pa→List AV
 | []=>[]
 | x::r=>.agg (encTC x)::encTCs r
end
def encT (x:Pa):AV:=.agg (encTC x)
theorem encTCs_map (l:List Pa):encTCs l=l.map encT:=by
 induction l with
 | nil=>simp [encTCs]
 | cons x r ih=>simp [encTCs,ih,encT]
def encTs (sz:Nat) (nil:Bool) (tip:Tip) (l:List Pa):AV:=.sl sz nil tip (l.map encT)
theorem encTC_eq (x:Pa):encTC x=[I x.k,S x.var,S x.typ,I x.lo,I x.hi,encTs x.sz x.nil x.tip x.l]:=by
 cases x;simp [encTC,encTs,encTCs_map,Pa.k,Pa.var,Pa.typ,Pa.lo,Pa.hi,Pa.sz,Pa.nil,Pa.tip,Pa.l]
mutual
def sizeT:Pa→Nat
 | .mk _ _ _ _ _ _ _ _ l=>1+sizeTs l
def sizeTs:List Pa→Nat
 | []=>0
 | x::r=>sizeT x+sizeTs r
end
theorem sizeT_eq (x:Pa):sizeT x=1+sizeTs x.l:=by cases x;simp [sizeT,Pa.l]
theorem szT (x:Pa):sizedA 6 (encT x)=some (encTC x):=by
 have:(encTC x).length=6:=by rw [encTC_eq];rfl
 simp [encT,sizedA,cellsA,this]
theorem partT (x:Pa):partA true 0 6 (encTC x)=some (encT x):=by
 rw [encTC_eq]
 show some (AV.agg [I x.k,S x.var,S x.typ,I x.lo,I x.hi,encTs x.sz x.nil x.tip x.l])=_
 rw [encT,encTC_eq]
theorem splT (x:Pa):spliceA 0 (encTC x) [I 0,S e0,S e0,I 0,I 0,AV.sl 0 true .full []]=some (encTC x):=by
 rw [encTC_eq];rfl
theorem ixT (l:List Pa) (sz:Nat) (nil:Bool) (tip:Tip) (pre r:List Pa) (x:Pa) (e:l=pre++x::r):ixaA 6 (encTs sz nil tip l) (I pre.length)=some (encTC x) :=
 ix_mk 6 nil tip _ pre.length (x:=encT x) (by rw [e];exact get_mid encT pre r x) (szT x)
theorem lenT (sz:Nat) (nil:Bool) (tip:Tip) (l:List Pa):lenA (encTs sz nil tip l)=some (I l.length):=by simp [encTs,len_sl]
theorem p0T (x:Pa):(encTC x)[0]?=some (I x.k):=by rw [encTC_eq];rfl
theorem p1T (x:Pa):(encTC x)[1]?=some (S x.var):=by rw [encTC_eq];rfl
theorem p2T (x:Pa):(encTC x)[2]?=some (S x.typ):=by rw [encTC_eq];rfl
theorem p3T (x:Pa):(encTC x)[3]?=some (I x.lo):=by rw [encTC_eq];rfl
theorem p4T (x:Pa):(encTC x)[4]?=some (I x.hi):=by rw [encTC_eq];rfl
theorem p5T (x:Pa):(encTC x)[5]?=some (encTs x.sz x.nil x.tip x.l):=by rw [encTC_eq];rfl
def encNd (x:Pa) (d:Int):AV:=.agg (encTC x++[I d])
theorem szN (x:Pa) (d:Int):sizedA 7 (encNd x d)=some (encTC x++[I d]):=by
 have:(encTC x++[I d]).length=7:=by rw [encTC_eq];rfl
 simp only [encNd,sizedA,cellsA,this,if_true]
theorem partN (x:Pa) (d:Int):partA true 0 7 (encTC x++[I d])=some (encNd x d):=by
 rw [encNd,encTC_eq];rfl
theorem partNT (x:Pa) (d:Int):partA true 0 6 (encTC x++[I d])=some (encT x):=by
 rw [encT,encTC_eq];rfl
theorem nodeB (x:Pa) (d:Int):bldA [(0,6,encT x),(6,1,I d)] [I 0,S e0,S e0,I 0,I 0,AV.sl 0 true .full [],I 0]=some (encNd x d):=by
 rw [encT,encNd,encTC_eq];rfl
theorem splN (x:Pa) (d:Int):spliceA 0 (encTC x++[I d]) [I 0,S e0,S e0,I 0,I 0,AV.sl 0 true .full [],I 0]=some (encTC x++[I d]):=by
 rw [encTC_eq];rfl
theorem n5 (x:Pa) (d:Int):(encTC x++[I d])[5]?=some (encTs x.sz x.nil x.tip x.l):=by rw [encTC_eq];rfl
theorem n6 (x:Pa) (d:Int):(encTC x++[I d])[6]?=some (I d):=by rw [encTC_eq];rfl
def isLeafT (k:Int):Bool:=decide (k=1) || (decide (k=5) || decide (k=6))
theorem c238 (k:Int) (H:Heap) (Q:Post):E 238 [I k] H Q=Q (B (isLeafT k)) H:=by
 simp only [f238_eq,f238_j4_eq,i_eql,ob_some,cnd_B,decide_eq_true_eq,isLeafT]
 repeat' split
 all_goals simp_all
def countT (lo hi:Int):Bool :=
 if lo < 1 ∨ 1000 < lo ∨ 1000 < hi then false else if hi=0 then true else decide (lo≤hi) && decide (1 < hi)
theorem c236 (lo hi:Int) (H:Heap) (Q:Post):E 236 [I lo,I hi] H Q=Q (B (countT lo hi)) H:=by
 simp only [f236_eq,f236_j14_eq,f236_j27_eq,i_eql,i_lss,i_gtr,i_geq,ob_some,cnd_B,decide_eq_true_eq,countT]
 by_cases h1:lo < 1
 ·simp [h1]
 ·by_cases h2:1000 < lo
  ·simp [h1,h2]
  ·by_cases h3:1000 < hi
   ·simp [h1,h2,h3]
   ·by_cases h4:hi=0
    ·simp [h1,h2,h4]
    ·by_cases h5:lo≤hi<;>simp [h1,h2,h3,h4,h5]
theorem c237 (x y:Pa) (b:Nat) (H:Heap) (Q:Post) (hb:H.objs b=some (.cells (encTC x))):E 237 [encT y,Pt b] H Q=Q (B (decide (y.k=x.k))) H:=by
 have h0:addPA (Pt b) 0=some (Pt b):=rfl
 rw [f237_eq]
 simp only [szT,ob_some,part_f,h0,ld_Pt hb,p0T,i_eql]
def ownIT (k:Int):Nat→List Pa→Int
 | _,[]=>-1
 | i,y::r=>if y.k=k then i else ownIT k (i+1) r
theorem c240_l (x:Pa) (b:Nat) (H:Heap) (hb:H.objs b=some (.cells (encTC x))) (sz:Nat) (nil:Bool) (tip:Tip) (l:List Pa) (hn:l.length≤1099511627776) (Q:Post):∀ (r pre:List Pa),l=pre++r →
  f240_l6 (encTs sz nil tip l) (.fn (.func 237) [] [Pt b]) (I l.length) (I pre.length) H Q=Q (I (ownIT x.k pre.length r)) H:=by
 intro r
 induction r with
 | nil =>
  intro pre e
  have:(pre.length:Int)=l.length:=by rw [e];simp
  rw [f240_l6_eq,i_lss,ob_some,cnd_B,this]
  simp [ownIT]
 | cons y r ih =>
  intro pre e
  have hlt:pre.length < l.length:=by rw [e];simp
  have hlt':(pre.length:Int) < l.length:=by omega
  have ih:=ih (pre++[y]) (by simp [e])
  rw [f240_l6_eq,i_lss,ob_some,cnd_B,if_pos (by simpa using hlt'),ixT l sz nil tip pre r y e,ob_some,partT,ob_some]
  show E 237 [encT y,Pt b] H _=_
  rw [c237 x y b H _ hb,cnd_B,i_add,ob_some,w64_succ hlt (by omega)]
  rw [List.length_append,List.length_singleton] at ih
  rw [ih]
  simp only [ownIT,decide_eq_true_eq]
  split<;>rfl
theorem ownIT_ge (k:Int) (i:Nat) (l:List Pa):decide (0≤ownIT k i l)=l.any fun y=>decide (y.k=k):=by
 induction l generalizing i with
 | nil=>simp [ownIT]
 | cons v r ih =>
  simp only [ownIT,List.any_cons]
  split
  ·rename_i h;simp [h]
  ·rename_i h;simp only [h,decide_false,Bool.false_or];exact ih (i+1)
theorem c169 (x:Pa) (b:Nat) (H:Heap) (hb:H.objs b=some (.cells (encTC x))) (sz:Nat) (nil:Bool) (tip:Tip) (l:List Pa) (hn:l.length≤1099511627776) (Q:Post) :
  E 169 [encTs sz nil tip l,.fn (.func 237) [] [Pt b]] H Q=Q (B (l.any fun y=>decide (y.k=x.k))) H:=by
 have:=fun K=>c240_l x b H hb sz nil tip l hn K l [] rfl
 rw [f169_eq,f240_eq,lenT,ob_some]
 refine (this _).trans ?_
 rw [i_geq,ob_some,ownIT_ge]
def leafT (x:Pa):Bool:=decide (x.l.length=0) && (nameL x.var.data.toList && nameL x.typ.data.toList)
/-- may a node be -/
def rightT (x:Pa):Bool :=
 if x.k=1 ∨ x.k=6 then leafT x && (decide (x.lo=0) && decide (x.hi=0))
 else if x.k=5 then leafT x && countT x.lo x.hi
 else if x.k=2 ∨ x.k=3 ∨ x.k=4 then decide (2≤x.l.length) && (decide (x.var=e0) && (decide (x.typ=e0) && (decide (x.lo=0) && (decide (x.hi=0) && !(x.l.any fun y=>decide (y.k=x.k))))))
 else false
theorem c166 (x:Pa) (hl:x.l.length≤1099511627776) (hv:x.var.size≤1099511627776) (hf:x.typ.size≤1099511627776) (H:Heap) (Q:Post) (hq:∀ H',HExt H H'→Q (B (rightT x)) H'):E 166 [encT x] H Q:=by
 have j34:∀ H1,HExt H H1→(¬ (x.k=1 ∨ x.k=6))→¬ x.k=5→f166_j34 (encTC x) (B (decide (x.k=2 ∨ x.k=3 ∨ x.k=4))) H1 Q:=fun H1 e1 h1 h5=>by
  have q0:=hq
  simp only [rightT,if_neg h1,if_neg h5] at q0
  rw [f166_j34_eq]
  refine cnd_intro (fun h2=>?_) (fun h2=>?_)
  ·have h2:x.k=2 ∨ x.k=3 ∨ x.k=4:=by simpa using h2
   simp only [if_pos h2] at q0
   intro b hb
   have e2:HExt H (H1.setObj b (.cells (encTC x))):=e1.setObj (e1.fresh hb) _
   have ob2:=setObj_same H1 b (.cells (encTC x))
   simp only [Pt_def]
   generalize H1.setObj b (.cells (encTC x))=H2 at e2 ob2 ⊢
   have q1:=q0 H2 e2
   have hF:(decide (2≤x.l.length) && (decide (x.var=e0) && (decide (x.typ=e0) && (decide (x.lo=0) && (decide (x.hi=0) && !(x.l.any fun y=>decide (y.k=x.k)))))))=false→f166_j39 (B false) H2 Q:=fun h=>by
    rw [f166_j39_eq];rw [h] at q1;exact q1
   have a (n:Nat) (hn:n≤5):addPA (Pt b) n=some (.raw (.pointer (some ⟨b,n,none⟩))):=by simp [addPA,Pt]
   simp only [a 5 (by omega),a 4 (by omega),a 3 (by omega),a 2 (by omega),a 1 (by omega),ob_some,ld_off ob2,part_f,p1T,p2T,p3T,p4T,p5T,lenT,i_geq,len2',s_eql,i_eql,f166_c12_9a_eq,f166_c12_9b_eq,f166_c12_14a_eq,f166_c12_14b_eq,f166_c12_19a_eq,f166_c12_19b_eq,f166_c12_24a_eq,f166_c12_24b_eq,f166_c12_31a_eq,f166_c12_31b_eq,c169 x b H2 ob2 x.sz x.nil x.tip x.l hl,not_B]
   refine cnd_intro (fun g1=>cnd_intro (fun g2=>cnd_intro (fun g3=>cnd_intro (fun g4=>cnd_intro (fun g5=>?_) (fun g5=>?_)) (fun g4=>?_)) (fun g3=>?_)) (fun g2=>?_)) (fun g1=>?_)
   ·rw [f166_j39_eq];simp only [g1,g2,g3,g4,g5,Bool.true_and] at q1;exact q1
   ·exact hF (by simp only [g5,Bool.false_and,Bool.and_false])
   ·exact hF (by simp only [g4,Bool.false_and,Bool.and_false])
   ·exact hF (by simp only [g3,Bool.false_and,Bool.and_false])
   ·exact hF (by simp only [g2,Bool.false_and,Bool.and_false])
   ·exact hF (by simp only [g1,Bool.false_and])
  ·have h2:¬ (x.k=2 ∨ x.k=3 ∨ x.k=4):=by simpa using h2
   simp only [if_neg h2] at q0
   exact q0 H1 e1
 have j4:∀ H1,HExt H H1→f166_j4 (encTC x) (B (leafT x)) H1 Q:=fun H1 e1=>by
  have q0:=hq H1 e1
  simp only [f166_j4_eq,f166_j14_eq,part_f,p0T,p3T,p4T,ob_some,i_eql,c236,f166_j17_eq,f166_j23_eq]
  simp only [rightT] at q0
  by_cases h1:x.k=1
  ·simp only [h1,true_or,if_true] at q0 ⊢
   simp only [decide_true,cnd_t]
   refine cnd_intro (fun h=>cnd_intro (fun h'=>?_) (fun h'=>?_)) (fun h=>?_)
   ·simp only [h,h',Bool.true_and] at q0;exact q0
   ·simp only [h',Bool.false_and,Bool.and_false] at q0;exact q0
   ·simp only [h,Bool.false_and] at q0;exact q0
  ·by_cases h6:x.k=6
   ·simp only [h6,or_true,if_true] at q0 ⊢
    have:decide ((6:Int)=1)=false:=rfl
    simp only [this,decide_true,cnd_t,cnd_f]
    refine cnd_intro (fun h=>cnd_intro (fun h'=>?_) (fun h'=>?_)) (fun h=>?_)
    ·simp only [h,h',Bool.true_and] at q0;exact q0
    ·simp only [h',Bool.false_and,Bool.and_false] at q0;exact q0
    ·simp only [h,Bool.false_and] at q0;exact q0
   ·simp only [h1,h6,decide_false,cnd_f]
    have h16:¬ (x.k=1 ∨ x.k=6):=by simp [h1,h6]
    simp only [if_neg h16] at q0
    refine cnd_intro (fun h5=>?_) (fun h5=>?_)
    ·have h5:x.k=5:=by simpa using h5
     simp only [if_pos h5] at q0
     refine cnd_intro (fun h=>?_) (fun h=>?_)
     ·simp only [h,Bool.true_and] at q0;exact q0
     ·simp only [h,Bool.false_and] at q0;exact q0
    ·have h5:¬ x.k=5:=by simpa using h5
     have:=j34 H1 e1 h16 h5
     by_cases h2:x.k=2
     ·simp only [h2,true_or,decide_true] at this
      simp only [h2,decide_true,cnd_t];exact this
     ·by_cases h3:x.k=3
      ·simp only [h3,true_or,or_true,decide_true] at this
       simp only [h3,decide_true,cnd_t]
       have:decide ((3:Int)=2)=false:=rfl
       simp only [this,cnd_f];assumption
      ·simp only [h2,h3,false_or] at this
       simp only [h2,h3,decide_false,cnd_f];exact this
 simp only [f166_eq,szT,ob_some,part_f,p5T,lenT,i_eql,len0,p1T,p2T]
 have hF:∀ H1,HExt H H1→leafT x=false→f166_j4 (encTC x) (B false) H1 Q:=fun H1 e1 h=>by have:=j4 H1 e1;rw [h] at this;exact this
 refine cnd_intro (fun g1=>?_) (fun g1=>?_)
 ·refine c122 _ hv _ _ (fun H1 e1=>cnd_intro (fun g2=>?_) (fun g2=>?_))
  ·refine c122 _ hf _ _ (fun H2 e2=>?_)
   have:=j4 H2 (e1.trans e2)
   simp only [leafT,g1,g2,Bool.true_and] at this
   exact this
  ·exact hF H1 e1 (by simp only [leafT,g2,Bool.false_and,Bool.and_false])
 ·exact hF H (HExt.refl H) (by simp only [leafT,g1,Bool.false_and])

mutual
def foldT {σ:Type} (f:σ→Int→Pa→σ):σ→Int→Pa→σ
 | s,d,.mk k var typ lo hi sz nil tip l=>foldTs f (f s d (.mk k var typ lo hi sz nil tip l)) (W64 (d+1)) l
def foldTs {σ:Type} (f:σ→Int→Pa→σ):σ→Int→List Pa→σ
 | s,_,[]=>s
 | s,d,x::r=>foldTs f (foldT f s d x) d r
end
mutual
/-- of all nodes -/
def allT (p:Pa→Prop):Pa→Prop
 | .mk k var typ lo hi sz nil tip l=>p (.mk k var typ lo hi sz nil tip l)∧allTs p l
def allTs (p:Pa→Prop):List Pa→Prop
 | []=>True
 | x::r=>allT p x∧allTs p r
end
theorem foldT_eq {σ:Type} (f:σ→Int→Pa→σ) (s:σ) (d:Int) (x:Pa):foldT f s d x=foldTs f (f s d x) (W64 (d+1)) x.l:=by
 cases x;simp [foldT,Pa.l]
theorem allT_eq (p:Pa→Prop) (x:Pa):allT p x ↔ p x∧allTs p x.l:=by
 cases x;simp [allT,Pa.l]
theorem allTs_mem {p:Pa→Prop} {l:List Pa} (h:allTs p l) {x:Pa} (hx:x ∈ l):allT p x:=by
 induction l with
 | nil=>cases hx
 | cons y r ih =>
  simp only [allTs] at h
  cases hx with
  | head=>exact h.1
  | tail _ hx=>exact ih h.2 hx
/-- small enough to be gone over -/
def okT (x:Pa):Prop:=x.l.length≤1099511627776∧x.var.size≤1099511627776∧x.typ.size≤1099511627776
structure StepT (σ:Type) (y:AV) (St:σ→Heap→Prop) (f:σ→Int→Pa→σ) (ok:Pa→Prop):Prop where
 call:∀ (s:σ) (H:Heap) (d:Int) (x:Pa) (K:Post),ok x→St s H→(∀ H',St (f s d x) H'→K (B true) H')→callA (Ev Pg Hs) y [encNd x d] H K
section walk
variable {σ:Type} {y:AV} {St:σ→Heap→Prop} {f:σ→Int→Pa→σ} {b2 b4:Nat}
theorem c235_l (h2:∀ s H,St s H→H.objs b2=some (.cells [y])∧H.objs b4=some (.cells [.fn (.func 235) [] [Pt b2,Pt b4]])) (d:Int) (z:Pa) (Q:Post) (sz:Nat) (nil:Bool) (tip:Tip) (l:List Pa) (hn:l.length≤1099511627776)
  (ih:∀ x ∈ l,∀ (s:σ) (H:Heap) (d:Int) (K:Post),St s H→(∀ H',St (foldT f s d x) H'→K (B true) H')→E 235 [encNd x d,Pt b2,Pt b4] H K):∀ (r pre:List Pa) (s:σ) (H:Heap),l=pre++r→St s H →
  (∀ H',St (foldTs f s (W64 (d+1)) r) H'→Q (B true) H')→f235_l14 (Pt b4) (encTC z++[I d]) (encTs sz nil tip l) (I l.length) (I pre.length) H Q:=by
 intro r
 induction r with
 | nil =>
  intro pre s H e hs hq
  have:(pre.length:Int)=l.length:=by rw [e];simp
  rw [f235_l14_eq,i_lss,ob_some,cnd_B,this]
  simp only [Int.lt_irrefl,decide_false,Bool.false_eq_true,if_false]
  exact hq H (by simpa [foldTs] using hs)
 | cons x r ihr =>
  intro pre s H e hs hq
  have hlt:pre.length < l.length:=by rw [e];simp
  have hlt':(pre.length:Int) < l.length:=by omega
  obtain ⟨g1,g2⟩:=h2 s H hs
  rw [f235_l14_eq,i_lss,ob_some,cnd_B,if_pos (by simpa using hlt'),ixT l sz nil tip pre r x e,ob_some,partT,ob_some,szT,ob_some,splT,ob_some,ld_Pt g2]
  simp only [part_f,List.getElem?_cons_zero,ob_some,i_add,partT,n6,nodeB]
  show E 235 [encNd x (W64 (d+1)),Pt b2,Pt b4] H _
  refine ih x (by rw [e];simp) s H _ _ hs (fun H' hs'=>?_)
  rw [not_B,ob_some,cnd_B]
  simp only [Bool.not_true,Bool.false_eq_true,if_false,ob_some]
  rw [w64_succ hlt (by omega)]
  have:=ihr (pre++[x]) _ H' (by simp [e]) hs' (fun H'' hs''=>hq H'' (by simpa [foldTs] using hs''))
  rw [List.length_append,List.length_singleton] at this
  exact this
theorem c235 (hy:StepT σ y St f okT) (h2:∀ s H,St s H→H.objs b2=some (.cells [y])∧H.objs b4=some (.cells [.fn (.func 235) [] [Pt b2,Pt b4]])):∀ (x:Pa),allT okT x→∀ (s:σ) (H:Heap) (d:Int) (Q:Post),St s H →
  (∀ H',St (foldT f s d x) H'→Q (B true) H')→E 235 [encNd x d,Pt b2,Pt b4] H Q:=by
 intro x
 induction x using Pa.ind with
 | h x ih =>
  intro hok s H d Q hs hq
  rw [allT_eq] at hok
  obtain ⟨g1,g2⟩:=h2 s H hs
  rw [f235_eq,szN,ob_some,ld_Pt g1]
  simp only [part_f,List.getElem?_cons_zero,ob_some,partN]
  refine hy.call s H d x _ hok.1 hs (fun H' hs'=>?_)
  rw [not_B,ob_some,cnd_B]
  simp only [Bool.not_true,Bool.false_eq_true,if_false]
  rw [n5,ob_some,lenT,ob_some]
  exact c235_l h2 d x Q x.sz x.nil x.tip x.l hok.1.1 (fun y hy' s H d K=>ih y hy' (allTs_mem hok.2 hy') s H d K) x.l [] _ H' rfl hs' (fun H'' hs''=>hq H'' (by rw [foldT_eq];exact hs''))
end walk
structure VisitT (σ:Type) (y:AV) (own:Nat→Prop) (St:σ→Heap→Prop) (f:σ→Int→Pa→σ):Prop where
 one:sizedA 1 y=some [y]
 stab:∀ s H H',St s H→HExt H H'→St s H'
 old:∀ s H b,St s H→own b→¬ H.fresh b
 call:∀ (s:σ) (H:Heap) (d:Int) (x:Pa) (K:Post),okT x→St s H→(∀ H',St (f s d x) H'→HExc own H H'→K (B true) H')→callA (Ev Pg Hs) y [encNd x d] H K
theorem c234 {σ:Type} {y:AV} {own:Nat→Prop} {St:σ→Heap→Prop} {f:σ→Int→Pa→σ} (hv:VisitT σ y own St f) (x:Pa) (hok:allT okT x) (b1:Nat) (s:σ) (H:Heap) (Q:Post) (h1:H.objs b1=some (.cells (encTC x))) (hs:St s H)
  (hq:∀ H',St (foldT f s 1 x) H'→HExc own H H'→Q (.tup []) H'):E 234 [y,Pt b1] H Q:=by
 rw [f234_eq,hv.one,ob_some]
 intro b2 f2
 simp only [Pt_def]
 have e1:HExt H (H.setObj b2 (.cells [y])):=(HExt.refl H).setObj f2 _
 have o2:=setObj_same H b2 (.cells [y])
 generalize H.setObj b2 (.cells [y])=H1 at e1 o2 ⊢
 intro b4 f4
 simp only [Pt_def]
 have hne:b2 ≠ b4:=fresh_ne o2 f4
 have hne1:b1 ≠ b4:=fresh_ne (e1.obj h1) f4
 have o4:=setObj_same H1 b4 (.cells [.raw .nilFunc])
 have e2:HExt H1 (H1.setObj b4 (.cells [.raw .nilFunc])):=(HExt.refl H1).setObj f4 _
 have o4':∀ o,((H1.setObj b4 (.cells [.raw .nilFunc])).setObj b4 o).objs b4=some o:=fun o=>setObj_same _ _ _
 rw [st_Pt o4 (sz1_fn _ _ _),ob_some]
 have e3:HExt H1 ((H1.setObj b4 (.cells [.raw .nilFunc])).setObj b4 (.cells [.fn (.func 235) [] [Pt b2,Pt b4]])):=e2.setObj f4 _
 have o4:=o4' (.cells [.fn (.func 235) [] [Pt b2,Pt b4]])
 generalize (H1.setObj b4 (.cells [.raw .nilFunc])).setObj b4 (.cells [.fn (.func 235) [] [Pt b2,Pt b4]])=H2 at e3 o4 ⊢
 have o2:=e3.obj o2
 have h1:=e3.obj (e1.obj h1)
 have hs2:=hv.stab _ _ _ hs (e1.trans e3)
 rw [ld_Pt o4,ld_Pt h1,partT]
 simp only [part_f,List.getElem?_cons_zero,ob_some,nodeB]
 show E 235 [encNd x 1,Pt b2,Pt b4] H2 _
 have n2:¬ own b2:=fun h=>hv.old _ _ _ hs h f2
 have n4:¬ own b4:=fun h=>hv.old _ _ _ (hv.stab _ _ _ hs e1) h f4
 refine c235 (St:=fun s H'=>St s H'∧H'.objs b2=some (.cells [y])∧H'.objs b4=some (.cells [.fn (.func 235) [] [Pt b2,Pt b4]])∧HExc own H2 H') (f:=f)
  ⟨fun s H' d x K hx hs' hk=>hv.call s H' d x K hx hs'.1 (fun H'' hs'' he=>hk H'' ⟨hs'',he.obj hs'.2.1 n2,he.obj hs'.2.2.1 n4,hs'.2.2.2.trans he⟩)⟩
  (fun s H' hs'=>⟨hs'.2.1,hs'.2.2.1⟩) x hok s H2 1 _ ⟨hs2,o2,o4,HExc.refl _ _⟩ (fun H' hs'=>?_)
 exact hq H' hs'.1 ((e1.trans e3).exc.trans hs'.2.2.2)
end Go.Hx
namespace Go.Hx
def stepT (s:Int × Int × Bool) (d:Int) (x:Pa):Int × Int × Bool:=(W64 (s.1+1),max s.2.1 d,s.2.2 && rightT x)
def checkT0 (x:Pa):Int :=
 if 64 < (foldT stepT (0,0,true) 1 x).1 ∨ 8 < (foldT stepT (0,0,true) 1 x).2.1 then 2 else if (foldT stepT (0,0,true) 1 x).2.2=false then 1 else 0
theorem c165 (x:Pa) (H:Heap) (Q:Post) (hq:∀ b,H.fresh b→Q (.fn (.func 234) [] [Pt b]) (H.setObj b (.cells (encTC x)))):E 165 [encT x] H Q:=by
 rw [f165_eq,szT,ob_some]
 intro b hb
 exact hq b hb
theorem visitT (bn bd bf l:Nat) (n1:bn ≠ bd) (n2:bn ≠ bf) (n3:bn ≠ l) (n4:bd ≠ bf) (n5:bd ≠ l) (n6':bf ≠ l) (L:LoopInfo) (hL:L=f95_L8 (Pt bn) (Pt bd) (Pt bf)) :
  VisitT (Int × Int × Bool) (.fn (.yield l) [] []) (fun b=>b=bn ∨ b=bd ∨ b=bf ∨ b=l)
   (fun s H=>H.objs bn=some (.cells [I s.1])∧H.objs bd=some (.cells [I s.2.1])∧H.objs bf=some (.cells [B s.2.2])∧H.objs l=some (.loop L .ready)) stepT:=by
 refine ⟨rfl,fun s H H' hs he=>⟨he.obj hs.1,he.obj hs.2.1,he.obj hs.2.2.1,he.obj hs.2.2.2⟩,fun s H b hs hb=>?_,fun s H d x K hx hs hk=>?_⟩
 ·rcases hb with rfl | rfl | rfl | rfl
  ·exact not_fresh hs.1
  ·exact not_fresh hs.2.1
  ·exact not_fresh hs.2.2.1
  ·exact not_fresh hs.2.2.2
 obtain ⟨s1,s2,s3,s4⟩:=hs
 show Ev Pg Hs (.yield l) [encNd x d] H K
 rw [Ev_yield s4,hL,f95_y8_eq,szN,ob_some,splN,ob_some]
 unfold beginA
 rw [s4]
 simp only
 have t1:(H.setObj l (.loop L .busy)).objs bn=some (.cells [I s.1]):=(setObj_ne H _ n3).trans s1
 have t2:(H.setObj l (.loop L .busy)).objs bd=some (.cells [I s.2.1]):=(setObj_ne H _ n5).trans s2
 have t3:(H.setObj l (.loop L .busy)).objs bf=some (.cells [B s.2.2]):=(setObj_ne H _ n6').trans s3
 have t4:=setObj_same H l (.loop L .busy)
 have te:HExc (fun b=>b=bn ∨ b=bd ∨ b=bf ∨ b=l) H (H.setObj l (.loop L .busy)):=(HExc.refl _ H).setObj (.inl (.inr (.inr (.inr rfl)))) _
 generalize H.setObj l (.loop L .busy)=H1 at t1 t2 t3 t4 te ⊢
 rw [ld_Pt t1]
 simp only [part_f,List.getElem?_cons_zero,ob_some,i_add]
 rw [st_Pt t1 (sz1_I _),ob_some]
 have u1:=setObj_same H1 bn (.cells [I (W64 (s.1+1))])
 have u2:(H1.setObj bn (.cells [I (W64 (s.1+1))])).objs bd=some (.cells [I s.2.1]):=(setObj_ne H1 _ (Ne.symm n1)).trans t2
 have u3:(H1.setObj bn (.cells [I (W64 (s.1+1))])).objs bf=some (.cells [B s.2.2]):=(setObj_ne H1 _ (Ne.symm n2)).trans t3
 have u4:(H1.setObj bn (.cells [I (W64 (s.1+1))])).objs l=some (.loop L .busy):=(setObj_ne H1 _ (Ne.symm n3)).trans t4
 have ue:HExc (fun b=>b=bn ∨ b=bd ∨ b=bf ∨ b=l) H (H1.setObj bn (.cells [I (W64 (s.1+1))])):=te.setObj (.inl (.inl rfl)) _
 generalize H1.setObj bn (.cells [I (W64 (s.1+1))])=H2 at u1 u2 u3 u4 ue ⊢
 rw [ld_Pt u2]
 simp only [part_f,List.getElem?_cons_zero,ob_some,n6,max_I]
 rw [st_Pt u2 (sz1_I _),ob_some]
 have v1:(H2.setObj bd (.cells [I (max s.2.1 d)])).objs bn=some (.cells [I (W64 (s.1+1))]):=(setObj_ne H2 _ n1).trans u1
 have v2:=setObj_same H2 bd (.cells [I (max s.2.1 d)])
 have v3:(H2.setObj bd (.cells [I (max s.2.1 d)])).objs bf=some (.cells [B s.2.2]):=(setObj_ne H2 _ (Ne.symm n4)).trans u3
 have v4:(H2.setObj bd (.cells [I (max s.2.1 d)])).objs l=some (.loop L .busy):=(setObj_ne H2 _ (Ne.symm n5)).trans u4
 have ve:HExc (fun b=>b=bn ∨ b=bd ∨ b=bf ∨ b=l) H (H2.setObj bd (.cells [I (max s.2.1 d)])):=ue.setObj (.inl (.inr (.inl rfl))) _
 generalize H2.setObj bd (.cells [I (max s.2.1 d)])=H3 at v1 v2 v3 v4 ve ⊢
 rw [ld_Pt v3]
 simp only [part_f,List.getElem?_cons_zero,ob_some]
 have fin:∀ (c:Bool) (H4:Heap),c=(s.2.2 && rightT x)→HExt H3 H4→ob (stH H4 1 (Pt bf) (B c)) fun H30=>endA l H30 true .ready K:=fun c H4 hc he=>by
  rw [st_Pt (he.obj v3) (sz1_B _),ob_some]
  unfold endA
  have w1:(H4.setObj bf (.cells [B c])).objs bn=some (.cells [I (W64 (s.1+1))]):=(setObj_ne H4 _ n2).trans (he.obj v1)
  have w2:(H4.setObj bf (.cells [B c])).objs bd=some (.cells [I (max s.2.1 d)]):=(setObj_ne H4 _ n4).trans (he.obj v2)
  have w3:=setObj_same H4 bf (.cells [B c])
  have w4:(H4.setObj bf (.cells [B c])).objs l=some (.loop L .busy):=(setObj_ne H4 _ (Ne.symm n6')).trans (he.obj v4)
  have we:HExc (fun b=>b=bn ∨ b=bd ∨ b=bf ∨ b=l) H (H4.setObj bf (.cells [B c])):=(ve.trans he.exc).setObj (.inl (.inr (.inr (.inl rfl)))) _
  rw [w4]
  simp only
  refine hk _ ⟨?_,?_,?_,setObj_same _ _ _⟩ (we.setObj (.inl (.inr (.inr (.inr rfl)))) _)
  ·rw [setObj_ne _ _ n3,w1];rfl
  ·rw [setObj_ne _ _ n5,w2];rfl
  ·rw [setObj_ne _ _ n6',w3,hc];rfl
 refine cnd_intro (fun h=>?_) (fun h=>?_)
 ·rw [partNT,ob_some]
  refine c166 x hx.1 hx.2.1 hx.2.2 H3 _ (fun H4 he=>?_)
  exact fin _ H4 (by rw [h,Bool.true_and]) he
 ·exact fin false H3 (by rw [h,Bool.false_and]) (HExt.refl _)
theorem c95_0 (x:Pa) (hok:allT okT x) (H:Heap) (Q:Post) (hq:∀ H',HExt H H'→Q (I (checkT0 x)) H'):E 95 [encT x] H Q:=by
 rw [f95_eq,szT,ob_some]
 intro bn hn
 simp only [Pt_def]
 have e1:HExt H (H.setObj bn (.cells [I 0])):=(HExt.refl H).setObj hn _
 have o1:=setObj_same H bn (.cells [I 0])
 generalize H.setObj bn (.cells [I 0])=H1 at e1 o1 ⊢
 intro bd hd
 simp only [Pt_def]
 have n1:bn ≠ bd:=fresh_ne o1 hd
 have e2:HExt H (H1.setObj bd (.cells [I 0])):=e1.setObj (e1.fresh hd) _
 have o2:=setObj_same H1 bd (.cells [I 0])
 have o1:(H1.setObj bd (.cells [I 0])).objs bn=some (.cells [I 0]):=(setObj_ne H1 _ n1).trans o1
 have hd':=e1.fresh hd
 generalize H1.setObj bd (.cells [I 0])=H2 at e2 o1 o2 ⊢
 intro bf hf
 simp only [Pt_def]
 have n2:bn ≠ bf:=fresh_ne o1 hf
 have n4:bd ≠ bf:=fresh_ne o2 hf
 have e3:HExt H (H2.setObj bf (.cells [B false])):=e2.setObj (e2.fresh hf) _
 have o3:=setObj_same H2 bf (.cells [B false])
 have o1:(H2.setObj bf (.cells [B false])).objs bn=some (.cells [I 0]):=(setObj_ne H2 _ n2).trans o1
 have o2:(H2.setObj bf (.cells [B false])).objs bd=some (.cells [I 0]):=(setObj_ne H2 _ n4).trans o2
 have hf':=e2.fresh hf
 generalize H2.setObj bf (.cells [B false])=H3 at e3 o1 o2 o3 ⊢
 rw [st_Pt o1 (sz1_I _),ob_some]
 have e4:HExt H (H3.setObj bn (.cells [I 0])):=e3.setObj hn _
 have o2:(H3.setObj bn (.cells [I 0])).objs bd=some (.cells [I 0]):=(setObj_ne H3 _ (Ne.symm n1)).trans o2
 have o3:(H3.setObj bn (.cells [I 0])).objs bf=some (.cells [B false]):=(setObj_ne H3 _ (Ne.symm n2)).trans o3
 have o1:=setObj_same H3 bn (.cells [I 0])
 generalize H3.setObj bn (.cells [I 0])=H4 at e4 o1 o2 o3 ⊢
 rw [st_Pt o2 (sz1_I _),ob_some]
 have e5:HExt H (H4.setObj bd (.cells [I 0])):=e4.setObj hd' _
 have o1:(H4.setObj bd (.cells [I 0])).objs bn=some (.cells [I 0]):=(setObj_ne H4 _ n1).trans o1
 have o3:(H4.setObj bd (.cells [I 0])).objs bf=some (.cells [B false]):=(setObj_ne H4 _ (Ne.symm n4)).trans o3
 have o2:=setObj_same H4 bd (.cells [I 0])
 generalize H4.setObj bd (.cells [I 0])=H5 at e5 o1 o2 o3 ⊢
 rw [st_Pt o3 (sz1_B _),ob_some,partT,ob_some]
 have e6:HExt H (H5.setObj bf (.cells [B true])):=e5.setObj hf' _
 have o1:(H5.setObj bf (.cells [B true])).objs bn=some (.cells [I 0]):=(setObj_ne H5 _ n2).trans o1
 have o2:(H5.setObj bf (.cells [B true])).objs bd=some (.cells [I 0]):=(setObj_ne H5 _ n4).trans o2
 have o3:=setObj_same H5 bf (.cells [B true])
 generalize H5.setObj bf (.cells [B true])=H6 at e6 o1 o2 o3 ⊢
 refine c165 x H6 _ (fun b1 hb=>?_)
 have e7:HExt H6 (H6.setObj b1 (.cells (encTC x))):=(HExt.refl H6).setObj hb _
 have ox:=setObj_same H6 b1 (.cells (encTC x))
 generalize H6.setObj b1 (.cells (encTC x))=H7 at e7 ox ⊢
 have o1:=e7.obj o1
 have o2:=e7.obj o2
 have o3:=e7.obj o3
 refine ⟨trivial,?_⟩
 intro l hl
 have n3:=fresh_ne o1 hl
 have n5:=fresh_ne o2 hl
 have n6':=fresh_ne o3 hl
 have e8:HExt H7 (H7.setObj l (.loop (f95_L8 (Pt bn) (Pt bd) (Pt bf)) .ready)):=(HExt.refl H7).setObj hl _
 have o4:=setObj_same H7 l (.loop (f95_L8 (Pt bn) (Pt bd) (Pt bf)) .ready)
 generalize H7.setObj l (.loop (f95_L8 (Pt bn) (Pt bd) (Pt bf)) .ready)=H8 at e8 o4 ⊢
 show E 234 [.fn (.yield l) [] [],Pt b1] H8 _
 refine c234 (visitT bn bd bf l n1 n2 n3 n4 n5 n6' _ rfl) x hok b1 (0,0,true) H8 _ (e8.obj ox) ⟨e8.obj o1,e8.obj o2,e8.obj o3,o4⟩ (fun H9 hs he=>?_)
 obtain ⟨s1,s2,s3,s4⟩:=hs
 have hE:HExt H H9:=he.ext ((e6.trans e7).trans e8) (fun b hb=>by
  rcases hb with rfl | rfl | rfl | rfl
  ·exact hn
  ·exact hd'
  ·exact hf'
  ·exact (e6.trans e7).fresh hl)
 unfold overA
 rw [s4]
 simp only
 have t1:(H9.setObj l (.loop (f95_L8 (Pt bn) (Pt bd) (Pt bf)) .over)).objs bn=_:=(setObj_ne H9 _ n3).trans s1
 have t2:(H9.setObj l (.loop (f95_L8 (Pt bn) (Pt bd) (Pt bf)) .over)).objs bd=_:=(setObj_ne H9 _ n5).trans s2
 have t3:(H9.setObj l (.loop (f95_L8 (Pt bn) (Pt bd) (Pt bf)) .over)).objs bf=_:=(setObj_ne H9 _ n6').trans s3
 have hE':HExt H (H9.setObj l (.loop (f95_L8 (Pt bn) (Pt bd) (Pt bf)) .over)):=hE.setObj ((e6.trans e7).fresh hl) _
 generalize H9.setObj l (.loop (f95_L8 (Pt bn) (Pt bd) (Pt bf)) .over)=H10 at t1 t2 t3 hE' ⊢
 have:=hq H10 hE'
 simp only [checkT0] at this
 have j24:∀ b:Bool,b=decide (64 < (foldT stepT (0,0,true) 1 x).1 ∨ 8 < (foldT stepT (0,0,true) 1 x).2.1)→f95_j24 (Pt bf) (B b) H10 Q:=fun b hb=>by
  rw [f95_j24_eq]
  simp only [ld_Pt t3,part_f,List.getElem?_cons_zero,ob_some,not_B]
  refine cnd_intro (fun h=>?_) (fun h=>cnd_intro (fun h'=>?_) (fun h'=>?_))
  ·rw [if_pos (by simpa [hb] using h)] at this;exact this
  ·rw [if_neg (by simpa [hb] using h),if_pos (by simpa using h')] at this;exact this
  ·rw [if_neg (by simpa [hb] using h),if_neg (by simpa using h')] at this;exact this
 rw [f95_j16_eq,ld_Pt t1]
 simp only [part_f,List.getElem?_cons_zero,ob_some,i_gtr,ld_Pt t2]
 refine cnd_intro (fun h=>?_) (fun h=>?_)
 ·rw [h];exact j24 true (by simp at h;simp [h])
 ·exact j24 _ (by simp at h; have : ¬ 64 < (foldT stepT (0, 0, true) 1 x).1 := by omega
                  simp [this])
mutual
def deepT:Pa→Nat
 | .mk _ _ _ _ _ _ _ _ l=>1+deepTs l
def deepTs:List Pa→Nat
 | []=>0
 | x::r=>max (deepT x) (deepTs r)
end
theorem deepT_eq (x:Pa):deepT x=1+deepTs x.l:=by cases x;simp [deepT,Pa.l]
mutual
def allRT:Pa→Bool
 | .mk k var typ lo hi sz nil tip l=>rightT (.mk k var typ lo hi sz nil tip l) && allRTs l
def allRTs:List Pa→Bool
 | []=>true
 | x::r=>allRT x && allRTs r
end
theorem allRT_eq (x:Pa):allRT x=(rightT x && allRTs x.l):=by cases x;simp [allRT,Pa.l]
theorem allRTs_mem {l:List Pa} (h:allRTs l=true) {x:Pa} (hx:x ∈ l):allRT x=true:=by
 induction l with
 | nil=>cases hx
 | cons y r ih =>
  simp only [allRTs,Bool.and_eq_true] at h
  cases hx with
  | head=>exact h.1
  | tail _ hx=>exact ih h.2 hx
theorem deep_size (x:Pa):deepT x≤sizeT x:=by
 induction x using Pa.ind with
 | h x ih =>
  rw [deepT_eq,sizeT_eq]
  have:∀ r:List Pa,(∀ y ∈ r,y ∈ x.l)→deepTs r≤sizeTs r:=by
   intro r
   induction r with
   | nil=>intro _;simp [deepTs,sizeTs]
   | cons y r ihr =>
    intro hy
    have:=ih y (hy y (by simp))
    have:=ihr (fun z hz=>hy z (by simp [hz]))
    simp only [deepTs,sizeTs];omega
  have:=this x.l (fun _ h=>h)
  omega
theorem stepT_fold (x:Pa):∀ (n m e:Nat) (b:Bool),n+sizeT x≤1152921504606846976→e+1+deepT x≤1152921504606846976 →
  foldT stepT ((n:Int),(m:Int),b) ((e+1:Nat):Int) x=(((n+sizeT x:Nat):Int),((max m (e+deepT x):Nat):Int),b && allRT x):=by
 induction x using Pa.ind with
 | h x ih =>
  intro n m e b hn he
  rw [sizeT_eq] at hn
  rw [deepT_eq] at he
  have hs:∀ (r:List Pa),(∀ y ∈ r,y ∈ x.l)→∀ (n m:Nat) (b:Bool),n+sizeTs r≤1152921504606846976→e+2+deepTs r≤1152921504606846976 →
    e+1≤m→foldTs stepT ((n:Int),(m:Int),b) ((e+1+1:Nat):Int) r=(((n+sizeTs r:Nat):Int),((max m (e+1+deepTs r):Nat):Int),b && allRTs r):=by
   intro r
   induction r with
   | nil=>intro _ n m b _ _ hm;simp only [foldTs,sizeTs,deepTs,allRTs,Bool.and_true,Nat.add_zero];rw [Nat.max_eq_left hm]
   | cons y r ihr =>
    intro hy n m b hn he hm
    simp only [sizeTs,deepTs] at hn he
    simp only [foldTs]
    rw [ih y (hy y (by simp)) n m (e+1) b (by omega) (by omega),ihr (fun z hz=>hy z (by simp [hz])) _ _ _ (by omega) (by omega) (by omega)]
    simp only [sizeTs,deepTs,allRTs,Bool.and_assoc,Prod.mk.injEq,and_true]
    constructor<;>congr 1<;>omega
  rw [foldT_eq,sizeT_eq,deepT_eq,allRT_eq]
  have h3:stepT ((n:Int),(m:Int),b) ((e+1:Nat):Int) x=(((n+1:Nat):Int),((max m (e+1):Nat):Int),b && rightT x):=by
   simp only [stepT]
   rw [w64_id (by omega) (by omega)]
   simp only [Prod.mk.injEq,and_true]
   constructor
   ·rfl
   ·omega
  have h4:W64 (((e+1:Nat):Int)+1)=((e+1+1:Nat):Int):=by rw [w64_id (by omega) (by omega)];rfl
  rw [h3,h4,hs x.l (fun _ h=>h) _ _ _ (by omega) (by omega) (by omega)]
  simp only [Bool.and_assoc,Prod.mk.injEq,and_true]
  constructor<;>congr 1<;>omega
def checkT (x:Pa):Int:=if 64 < sizeT x ∨ 8 < deepT x then 2 else if allRT x=false then 1 else 0
theorem checkT0_eq (x:Pa) (h:sizeT x≤1152921504606846975):checkT0 x=checkT x:=by
 have hd:=deep_size x
 have h0:=stepT_fold x 0 0 0 true (by omega) (by omega)
 have h1:foldT stepT (0,0,true) 1 x=(((sizeT x:Nat):Int),((deepT x:Nat):Int),allRT x):=by
  have e:(((0+sizeT x:Nat):Int),((max 0 (0+deepT x):Nat):Int),true && allRT x)=(((sizeT x:Nat):Int),((deepT x:Nat):Int),allRT x):=by
   simp
  rw [← e,← h0];rfl
 simp only [checkT0,checkT,h1]
 by_cases h3:64 < sizeT x ∨ 8 < deepT x
 ·rw [if_pos (by omega),if_pos h3]
 ·rw [if_neg (by omega),if_neg h3]
theorem c95 (x:Pa) (hok:allT okT x) (hs:sizeT x≤1152921504606846975) (H:Heap) (Q:Post) (hq:∀ H',HExt H H'→Q (I (checkT x)) H'):E 95 [encT x] H Q :=
 c95_0 x hok H Q (by rw [checkT0_eq x hs];exact hq)
end Go.Hx
namespace Go.Hx
structure It where
 name:ByteArray
 k:Int
 var:ByteArray
 fld:ByteArray
def itC (x:It):List AV:=[S x.name,I x.k,S x.var,S x.fld]
def encIt (x:It):AV:=.agg (itC x)
def encIts (sz:Nat) (nil:Bool) (tip:Tip) (l:List It):AV:=.sl sz nil tip (l.map encIt)
structure Qu where
 p:Pa
 wsz:Nat
 wnil:Bool
 wtip:Tip
 ws:List Ex
 key:ByteArray
 mode:Int
 within:Int
 isz:Nat
 inil:Bool
 itip:Tip
 its:List It
def qC (q:Qu):List AV:=encTC q.p++[encXs q.wsz q.wnil q.wtip q.ws,S q.key,I q.mode,I q.within,encIts q.isz q.inil q.itip q.its]
def encQ (q:Qu):AV:=.agg (qC q)
theorem szIt (x:It):sizedA 4 (encIt x)=some (itC x):=rfl
theorem partIt (x:It):partA true 0 4 (itC x)=some (encIt x):=rfl
theorem ixIt (l:List It) (sz:Nat) (nil:Bool) (tip:Tip) (pre r:List It) (x:It) (e:l=pre++x::r):ixaA 4 (encIts sz nil tip l) (I pre.length)=some (itC x) :=
 ix_mk 4 nil tip _ pre.length (x:=encIt x) (by rw [e];exact get_mid encIt pre r x) (szIt x)
theorem lenIt (sz:Nat) (nil:Bool) (tip:Tip) (l:List It):lenA (encIts sz nil tip l)=some (I l.length):=by simp [encIts,len_sl]
theorem szQ (q:Qu):sizedA 11 (encQ q)=some (qC q):=by
 have:(qC q).length=11:=by rw [qC,encTC_eq];rfl
 simp only [encQ,sizedA,cellsA,this,if_true]
theorem partQ (q:Qu):partA true 0 11 (qC q)=some (encQ q):=by rw [encQ,qC,encTC_eq];rfl
theorem partQT (q:Qu):partA true 0 6 (qC q)=some (encT q.p):=by rw [encT,qC,encTC_eq];rfl
theorem splQ (q:Qu):spliceA 0 (qC q) [I 0,S e0,S e0,I 0,I 0,.sl 0 true .full [],.sl 0 true .full [],S e0,I 0,I 0,.sl 0 true .full []]=some (qC q):=by rw [qC,encTC_eq];rfl
theorem bldQ (q:Qu):bldA [(0,11,encQ q)] [I 0,S e0,S e0,I 0,I 0,.sl 0 true .full [],.sl 0 true .full [],S e0,I 0,I 0,.sl 0 true .full []]=some (encQ q):=by rw [encQ,qC,encTC_eq];rfl
theorem q0 (q:Qu):(qC q)[0]?=some (I q.p.k):=by rw [qC,encTC_eq];rfl
theorem q6 (q:Qu):(qC q)[6]?=some (encXs q.wsz q.wnil q.wtip q.ws):=by rw [qC,encTC_eq];rfl
theorem q7 (q:Qu):(qC q)[7]?=some (S q.key):=by rw [qC,encTC_eq];rfl
theorem q8 (q:Qu):(qC q)[8]?=some (I q.mode):=by rw [qC,encTC_eq];rfl
theorem q9 (q:Qu):(qC q)[9]?=some (I q.within):=by rw [qC,encTC_eq];rfl
theorem q10 (q:Qu):(qC q)[10]?=some (encIts q.isz q.inil q.itip q.its):=by rw [qC,encTC_eq];rfl
def okI (x:It):Prop:=x.name.size≤1099511627776∧x.var.size≤1099511627776∧x.fld.size≤1099511627776
/-- small enough -/
structure OkQ (q:Qu):Prop where
 p:allT okT q.p
 ps:sizeT q.p≤1099511627776
 wl:q.ws.length≤1099511627776
 wx:∀ x ∈ q.ws,allX okX x∧allX vX x
 wsum:sizeXs q.ws≤1099511627776
 key:q.key.size≤1099511627776
 il:q.its.length≤1099511627776
 it:∀ x ∈ q.its,okI x
def stepN (s:Int) (_:Int) (_:Ex):Int:=W64 (s+1)
theorem stepN_size (x:Ex):∀ (n:Nat) (d:Int),n+sizeX x≤1152921504606846976→foldX stepN (n:Int) d x=((n+sizeX x:Nat):Int):=by
 induction x using Ex.ind with
 | h x ih =>
  intro n d hn
  rw [sizeX_eq] at hn
  have:∀ (r:List Ex),(∀ y ∈ r,y ∈ x.l)→∀ (n:Nat) (d:Int),n+sizeXs r≤1152921504606846976→foldXs stepN (n:Int) d r=((n+sizeXs r:Nat):Int):=by
   intro r
   induction r with
   | nil=>intro _ n d _;simp [foldXs,sizeXs]
   | cons y r ihr =>
    intro hy n d hn
    simp only [foldXs,sizeXs] at hn ⊢
    rw [ih y (hy y (by simp)) n d (by omega),ihr (fun z hz=>hy z (by simp [hz])) _ _ (by omega)]
    congr 1;omega
  rw [foldX_eq,sizeX_eq]
  have h3:stepN (n:Int) d x=((n+1:Nat):Int):=by
   simp only [stepN]
   rw [w64_id (by omega) (by omega)];rfl
  rw [h3,this x.l (fun _ h=>h) _ _ (by omega)]
  congr 1;omega
theorem visitN (bn l:Nat) (n2:bn ≠ l) (L:LoopInfo) (hL:L=f160_L8 (Pt bn)) :
  Visit Int (.fn (.yield l) [] []) (fun b=>b=bn ∨ b=l) (fun s H=>H.objs bn=some (.cells [I s])∧H.objs l=some (.loop L .ready)) stepN:=by
 refine ⟨rfl,fun s H H' hs he=>⟨he.obj hs.1,he.obj hs.2⟩,fun s H b hs hb=>?_,fun s H d x K hx hs hk=>?_⟩
 ·rcases hb with rfl | rfl
  ·exact not_fresh hs.1
  ·exact not_fresh hs.2
 obtain ⟨s1,s3⟩:=hs
 show Ev Pg Hs (.yield l) [I d,encX x] H K
 rw [Ev_yield s3,hL,f160_y8_eq]
 unfold beginA
 rw [s3]
 simp only
 have t1:(H.setObj l (.loop L .busy)).objs bn=some (.cells [I s]):=(setObj_ne H _ n2).trans s1
 have t3:=setObj_same H l (.loop L .busy)
 have te:HExc (fun b=>b=bn ∨ b=l) H (H.setObj l (.loop L .busy)):=(HExc.refl _ H).setObj (.inl (.inr rfl)) _
 generalize H.setObj l (.loop L .busy)=H1 at t1 t3 te ⊢
 rw [ld_Pt t1]
 simp only [part_f,List.getElem?_cons_zero,ob_some,i_add]
 rw [st_Pt t1 (sz1_I _),ob_some]
 have u1:=setObj_same H1 bn (.cells [I (W64 (s+1))])
 have u3:(H1.setObj bn (.cells [I (W64 (s+1))])).objs l=some (.loop L .busy):=(setObj_ne H1 _ (Ne.symm n2)).trans t3
 have ue:HExc (fun b=>b=bn ∨ b=l) H (H1.setObj bn (.cells [I (W64 (s+1))])):=te.setObj (.inl (.inl rfl)) _
 generalize H1.setObj bn (.cells [I (W64 (s+1))])=H2 at u1 u3 ue ⊢
 unfold endA
 rw [u3]
 simp only
 refine hk _ ⟨?_,setObj_same _ _ _⟩ (ue.setObj (.inl (.inr rfl)) _)
 rw [setObj_ne _ _ n2,u1];rfl
theorem c160 (x:Ex) (hok:allX okX x) (hsz:sizeX x≤1152921504606846975) (H:Heap) (Q:Post) (hq:∀ H',HExt H H'→Q (I (sizeX x)) H'):E 160 [encX x] H Q:=by
 rw [f160_eq,szX,ob_some]
 intro bn hn
 simp only [Pt_def]
 have e1:HExt H (H.setObj bn (.cells [I 0])):=(HExt.refl H).setObj hn _
 have o1:=setObj_same H bn (.cells [I 0])
 generalize H.setObj bn (.cells [I 0])=H1 at e1 o1 ⊢
 rw [st_Pt o1 (sz1_I _),ob_some,partX,ob_some]
 have e3:HExt H (H1.setObj bn (.cells [I 0])):=e1.setObj hn _
 have o1:=setObj_same H1 bn (.cells [I 0])
 generalize H1.setObj bn (.cells [I 0])=H4 at e3 o1 ⊢
 refine c57 x H4 _ (fun b1 hb=>?_)
 have e5:HExt H4 (H4.setObj b1 (.cells (encC x))):=(HExt.refl H4).setObj hb _
 have ox:=setObj_same H4 b1 (.cells (encC x))
 generalize H4.setObj b1 (.cells (encC x))=H5 at e5 ox ⊢
 have o1:=e5.obj o1
 refine ⟨trivial,?_⟩
 intro l hl
 have n2:=fresh_ne o1 hl
 have e6:HExt H5 (H5.setObj l (.loop (f160_L8 (Pt bn)) .ready)):=(HExt.refl H5).setObj hl _
 have o3:=setObj_same H5 l (.loop (f160_L8 (Pt bn)) .ready)
 generalize H5.setObj l (.loop (f160_L8 (Pt bn)) .ready)=H6 at e6 o3 ⊢
 show E 119 [.fn (.yield l) [] [],Pt b1] H6 _
 refine c119 (visitN bn l n2 _ rfl) x hok b1 0 H6 _ (e6.obj ox) ⟨e6.obj o1,o3⟩ (fun H7 hs he=>?_)
 obtain ⟨s1,s3⟩:=hs
 have hE:HExt H H7:=he.ext ((e3.trans e5).trans e6) (fun b hb=>by
  rcases hb with rfl | rfl
  ·exact hn
  ·exact (e3.trans e5).fresh hl)
 unfold overA
 rw [s3]
 simp only
 have t1:(H7.setObj l (.loop (f160_L8 (Pt bn)) .over)).objs bn=_:=(setObj_ne H7 _ n2).trans s1
 have hE':HExt H (H7.setObj l (.loop (f160_L8 (Pt bn)) .over)):=hE.setObj ((e3.trans e5).fresh hl) _
 generalize H7.setObj l (.loop (f160_L8 (Pt bn)) .over)=H8 at t1 hE' ⊢
 rw [f160_j12_eq,ld_Pt t1]
 simp only [part_f,List.getElem?_cons_zero,ob_some]
 have h0:=stepN_size x 0 1 (by omega)
 rw [Nat.zero_add] at h0
 rw [show foldX stepN 0 1 x=_ from h0]
 exact hq H8 hE'
theorem c91 (q:Qu) (hq0:OkQ q) (H:Heap) (Q:Post) (hq:∀ H',HExt H H'→Q (I (checkT q.p)) H'):E 91 [encQ q] H Q:=by
 rw [f91_eq,szQ,ob_some,partQT,ob_some]
 exact c95 q.p hq0.p (by have:=hq0.ps;omega) H _ hq
def countsP (q:Qu):Int:=if 16 < q.ws.length ∨ 16 < q.its.length then 2 else 0
theorem c92 (q:Qu) (H:Heap) (Q:Post):E 92 [encQ q] H Q=Q (I (countsP q)) H:=by
 simp only [f92_eq,szQ,ob_some,part_f,q6,q10,lenX,lenIt,i_gtr,f92_j5_eq,cnd_B,decide_eq_true_eq,countsP]
 by_cases h:16 < q.ws.length
 ·have h':(16:Int) < (q.ws.length:Int):=by omega
  simp [h,h']
 ·have h':¬ (16:Int) < (q.ws.length:Int):=by omega
  by_cases h2:16 < q.its.length
  ·have h2':(16:Int) < (q.its.length:Int):=by omega
   simp [h,h',h2,h2']
  ·have h2':¬ (16:Int) < (q.its.length:Int):=by omega
   simp [h,h',h2,h2']
def whereP:Nat→List Ex→Int
 | n,[]=>if 100≤n then 2 else 0
 | n,x::r=>if checkP x=0 then whereP (n+sizeX x) r else checkP x
theorem c93 (q:Qu) (hok:OkQ q) (H:Heap) (Q:Post) (hq:∀ H',HExt H H'→Q (I (whereP 0 q.ws)) H'):E 93 [encQ q] H Q:=by
 have loop:∀ (r pre:List Ex) (n:Nat) (H1:Heap),q.ws=pre++r→HExt H H1→n+sizeXs r≤1099511627776→(∀ H',HExt H H'→Q (I (whereP n r)) H') →
   f93_l8 (I n) (encXs q.wsz q.wnil q.wtip q.ws) (I q.ws.length) (I pre.length) H1 Q:=by
  intro r
  induction r with
  | nil =>
   intro pre n H1 e he hn hq
   have h1:(pre.length:Int)=q.ws.length:=by rw [e];simp
   rw [f93_l8_eq,i_lss,ob_some,cnd_B,h1]
   simp only [Int.lt_irrefl,decide_false,Bool.false_eq_true,if_false,i_geq,ob_some]
   have:=hq H1 he
   simp only [whereP] at this
   refine cnd_intro (fun h=>?_) (fun h=>?_)
   ·rw [if_pos (by simp at h;omega)] at this;exact this
   ·rw [if_neg (by simp at h;omega)] at this;exact this
  | cons x r ih =>
   intro pre n H1 e he hn hq
   have hlt:pre.length < q.ws.length:=by rw [e];simp
   have hlt':(pre.length:Int) < q.ws.length:=by omega
   have hx:=hok.wx x (by rw [e];simp)
   have hwl:=hok.wl
   simp only [sizeXs] at hn
   rw [f93_l8_eq,i_lss,ob_some,cnd_B,if_pos (by simpa using hlt'),ixX q.ws q.wsz q.wnil q.wtip pre r x e,ob_some,partX,ob_some,szX,ob_some,splX,ob_some,partX,ob_some]
   refine c28 x hx.1 H1 _ (fun H2 e2=>?_)
   simp only [i_neq,ob_some,whereP] at hq ⊢
   refine cnd_intro (fun h=>?_) (fun h=>?_)
   ·have:=hq H2 (he.trans e2)
    rw [if_neg (by simpa using h)] at this
    exact this
   ·refine c160 x hx.1 (by omega) H2 _ (fun H3 e3=>?_)
    rw [i_add,ob_some,i_add,ob_some,w64_succ hlt (by omega),w64_id (by omega) (by omega)]
    have:=ih (pre++[x]) (n+sizeX x) H3 (by simp [e]) ((he.trans e2).trans e3) (by omega) (fun H' h'=>by
     have:=hq H' h'
     rw [if_pos (by simpa using h)] at this
     exact this)
    rw [List.length_append,List.length_singleton] at this
    exact this
 rw [f93_eq,szQ,ob_some,part_f,q6,ob_some,lenX,ob_some]
 exact loop q.ws [] 0 H rfl (HExt.refl H) (by have:=hok.wsum;omega) hq
theorem c161 (x:Ex) (H:Heap) (Q:Post):E 161 [encX x] H Q=Q (B (decide (x.k=16))) H:=by
 simp only [f161_eq,szX,ob_some,part_f,p0X,i_eql]
theorem c153a_l (sz:Nat) (nil:Bool) (tip:Tip) (l:List Ex) (hn:l.length≤1099511627776) (H:Heap) (Q:Post):∀ (r pre:List Ex),l=pre++r →
  f201_l6 (encXs sz nil tip l) (.fn (.func 161) [] []) (I l.length) (I pre.length) H Q=Q (I (ownIx 16 pre.length r)) H:=by
 intro r
 induction r with
 | nil =>
  intro pre e
  have:(pre.length:Int)=l.length:=by rw [e];simp
  rw [f201_l6_eq,i_lss,ob_some,cnd_B,this]
  simp [ownIx]
 | cons y r ih =>
  intro pre e
  have hlt:pre.length < l.length:=by rw [e];simp
  have hlt':(pre.length:Int) < l.length:=by omega
  have ih:=ih (pre++[y]) (by simp [e])
  rw [f201_l6_eq,i_lss,ob_some,cnd_B,if_pos (by simpa using hlt'),ixX l sz nil tip pre r y e,ob_some,partX,ob_some]
  show E 161 [encX y] H _=_
  rw [c161,cnd_B,i_add,ob_some,w64_succ hlt (by omega)]
  rw [List.length_append,List.length_singleton] at ih
  rw [ih]
  simp only [ownIx,decide_eq_true_eq]
  split<;>rfl
theorem c122a (sz:Nat) (nil:Bool) (tip:Tip) (l:List Ex) (hn:l.length≤1099511627776) (H:Heap) (Q:Post) :
  E 126 [encXs sz nil tip l,.fn (.func 161) [] []] H Q=Q (B (l.any fun y=>decide (y.k=16))) H:=by
 have:=fun K=>c153a_l sz nil tip l hn H K l [] rfl
 rw [f126_eq,f201_eq,lenX,ob_some]
 refine (this _).trans ?_
 rw [i_geq,ob_some,ownIx_ge]
/-- may an item be -/
def itemP (x:It):Bool :=
 nameL x.name.data.toList && (nameL x.var.data.toList && (if x.k=3 then decide (x.fld=e0) else if x.k=1 ∨ x.k=2 ∨ x.k=4 then nameL x.fld.data.toList else false))
theorem c163 (x:It) (hok:okI x) (H:Heap) (Q:Post) (hq:∀ H',HExt H H'→Q (B (itemP x)) H'):E 163 [encIt x] H Q:=by
 have g0:(itC x)[0]?=some (S x.name):=rfl
 have g1:(itC x)[1]?=some (I x.k):=rfl
 have g2:(itC x)[2]?=some (S x.var):=rfl
 have g3:(itC x)[3]?=some (S x.fld):=rfl
 simp only [f163_eq,szIt,ob_some,part_f,g0,g2]
 refine c122 _ hok.1 H _ (fun H1 e1=>?_)
 rw [not_B,ob_some]
 refine cnd_intro (fun h=>?_) (fun h=>?_)
 ·have:=hq H1 e1
  simp only [itemP,show nameL x.name.data.toList=false by simpa using h,Bool.false_and] at this
  rw [f163_j5_eq];exact this
 ·have h:nameL x.name.data.toList=true:=by simpa using h
  refine c122 _ hok.2.1 H1 _ (fun H2 e2=>?_)
  have e12:=e1.trans e2
  rw [not_B,ob_some,f163_j5_eq]
  refine cnd_intro (fun h2=>?_) (fun h2=>?_)
  ·have:=hq H2 e12
   simp only [itemP,h,show nameL x.var.data.toList=false by simpa using h2,Bool.false_and,Bool.and_false] at this
   exact this
  ·have h2:nameL x.var.data.toList=true:=by simpa using h2
   have q1:=fun H' e'=>hq H' e'
   simp only [itemP,h,h2,Bool.true_and] at q1
   simp only [part_f,g1,g3,ob_some,i_eql,s_eql,f163_j30_eq]
   by_cases k3:x.k=3
   ·simp only [k3,decide_true,cnd_t]
    simp only [k3,if_true] at q1
    exact q1 H2 e12
   ·simp only [k3,decide_false,cnd_f]
    simp only [k3,if_false] at q1
    by_cases k1:x.k=1
    ·simp only [k1,decide_true,cnd_t]
     simp only [k1,true_or,if_true] at q1
     exact c122 _ hok.2.2 H2 _ (fun H3 e3=>q1 H3 (e12.trans e3))
    ·by_cases k2:x.k=2
     ·simp only [k2,decide_true,cnd_t]
      simp only [k2,true_or,or_true,if_true] at q1
      have:decide ((2:Int)=1)=false:=rfl
      simp only [this,cnd_f]
      exact c122 _ hok.2.2 H2 _ (fun H3 e3=>q1 H3 (e12.trans e3))
     ·simp only [k1,k2,decide_false,cnd_f]
      simp only [k1,k2,false_or] at q1
      refine cnd_intro (fun h4=>?_) (fun h4=>?_)
      ·rw [if_pos (by simpa using h4)] at q1
       exact c122 _ hok.2.2 H2 _ (fun H3 e3=>q1 H3 (e12.trans e3))
      ·rw [if_neg (by simpa using h4)] at q1
       exact q1 H2 e12
def seenM (l:List ByteArray):List (ByteArray × AV):=l.map fun s=>(s,B true)
def hasB (s:ByteArray) (l:List ByteArray):Bool:=l.any fun k=>decide (s=k)
theorem findM_seen (s:ByteArray) (l:List ByteArray):findM s (seenM l)=if hasB s l=true then some (B true) else none:=by
 induction l with
 | nil=>rfl
 | cons k r ih =>
  simp only [seenM,List.map_cons,findM,hasB,List.any_cons] at ih ⊢
  rw [ba_beq]
  by_cases h:s=k
  ·simp [h]
  ·simp only [h,decide_false,Bool.false_or];exact ih
theorem updM_seen (s:ByteArray) (l:List ByteArray) (h:hasB s l=false):updM s (B true) (seenM l)=seenM (l++[s]):=by
 induction l with
 | nil=>rfl
 | cons k r ih =>
  simp only [hasB,List.any_cons,Bool.or_eq_false_iff] at h
  have h2:hasB s r=false:=h.2
  simp only [seenM,List.map_cons,updM,List.cons_append] at ih ⊢
  rw [ba_beq,h.1,ih h2]
abbrev Mp (m:Nat):AV:=.raw (.map (some m))
structure Seen (H0:Heap) (b m:Nat) (l:List ByteArray) (H:Heap):Prop where
 ext:HExt H0 H
 cell:H.objs b=some (.cells [Mp m])
 map:H.objs m=some (.smap (seenM l))
theorem c162 (H0:Heap) (b m:Nat) (hm:H0.fresh m) (hbm:b ≠ m) (x:It) (hok:okI x) (l:List ByteArray) (H:Heap) (Q:Post) (hs:Seen H0 b m l H)
  (h1:(hasB x.name l || !itemP x)=true→∀ H',HExt H0 H'→Q (B true) H') (h2:(hasB x.name l || !itemP x)=false→∀ H',Seen H0 b m (l++[x.name]) H'→Q (B false) H'):E 162 [encIt x,Pt b] H Q:=by
 have g0:(itC x)[0]?=some (S x.name):=rfl
 have hl:lookA H (B false) (Mp m) (S x.name) false=some (okA (B false) false (findM x.name (seenM l))):=by simp [lookA,S,entsA,hs.map]
 rw [f162_eq,szIt,ob_some,ld_Pt hs.cell]
 have hu:∀ K:Heap→Prop,updA H (Mp m) (S x.name) (B true) K=K (H.setObj m (.smap (updM x.name (B true) (seenM l)))):=fun K=>by simp [updA,S,hs.map]
 simp only [part_f,List.getElem?_cons_zero,ob_some,g0,hl,findM_seen,hu,partIt,f162_j8_eq]
 cases h:hasB x.name l with
 | true =>
  rw [h] at h1
  exact h1 rfl _ (hs.ext.setObj hm _)
 | false =>
  rw [h,Bool.false_or] at h1 h2
  show cndA (B false) _ _
  rw [cnd_f,updM_seen _ _ h]
  refine c163 x hok _ _ (fun H2 e2=>?_)
  rw [not_B,ob_some]
  have es:HExt H0 (H.setObj m (.smap (seenM (l++[x.name])))):=hs.ext.setObj hm _
  cases hi:!itemP x with
  | true=>exact h1 hi _ (es.trans e2)
  | false=>exact h2 hi _ ⟨es.trans e2,e2.obj ((setObj_ne _ _ hbm).trans hs.cell),e2.obj (setObj_same _ _ _)⟩
def wrongI:List ByteArray→List It→Bool
 | _,[]=>false
 | l,x::r=>(hasB x.name l || !itemP x) || wrongI (l++[x.name]) r
theorem c164 (H0:Heap) (b m:Nat) (hm:H0.fresh m) (hbm:b ≠ m) (sz:Nat) (nil:Bool) (tip:Tip) (xs:List It) (hn:xs.length≤1099511627776) (hok:∀ x ∈ xs,okI x) (H:Heap) (Q:Post) (hs:Seen H0 b m [] H)
  (hq:∀ H',HExt H0 H'→Q (B (wrongI [] xs)) H'):E 164 [encIts sz nil tip xs,.fn (.func 162) [] [Pt b]] H Q:=by
 have loop:∀ (r pre:List It) (l:List ByteArray) (H:Heap) (K:Post),xs=pre++r→Seen H0 b m l H→(∀ H' (i:Int),HExt H0 H'→decide (0≤i)=wrongI l r→K (I i) H') →
   f233_l6 (encIts sz nil tip xs) (.fn (.func 162) [] [Pt b]) (I xs.length) (I pre.length) H K:=by
  intro r
  induction r with
  | nil =>
   intro pre l H K e hs hk
   have:(pre.length:Int)=xs.length:=by rw [e];simp
   rw [f233_l6_eq,i_lss,ob_some,cnd_B,this]
   simp only [Int.lt_irrefl,decide_false,Bool.false_eq_true,if_false]
   exact hk H (-1) hs.ext rfl
  | cons x r ih =>
   intro pre l H K e hs hk
   have hlt:pre.length < xs.length:=by rw [e];simp
   have hlt':(pre.length:Int) < xs.length:=by omega
   rw [f233_l6_eq,i_lss,ob_some,cnd_B,if_pos (by simpa using hlt'),ixIt xs sz nil tip pre r x e,ob_some,partIt,ob_some]
   show E 162 [encIt x,Pt b] H _
   refine c162 H0 b m hm hbm x (hok x (by rw [e];simp)) l H _ hs (fun h H' he=>?_) (fun h H' hs'=>?_)
   ·rw [cnd_t]
    exact hk H' _ he (by simp only [wrongI,h,Bool.true_or];simp)
   ·rw [cnd_f,i_add,ob_some,w64_succ hlt (by omega)]
    have:=ih (pre++[x]) (l++[x.name]) H' K (by simp [e]) hs' (fun H'' i he hi=>hk H'' i he (by simp only [wrongI,h,Bool.false_or];exact hi))
    rw [List.length_append,List.length_singleton] at this
    exact this
 rw [f164_eq,f233_eq,lenIt,ob_some]
 refine loop xs [] [] H _ rfl hs (fun H' i he hi=>?_)
 rw [i_geq,ob_some,hi]
 exact hq H' he
def rangeP (q:Qu):Bool:=decide (0≤q.mode) && (decide (q.mode≤2) && (decide (0≤q.within) && decide (q.within≤1099511627776)))
def restP (q:Qu):Int :=
 if (q.key=e0 ∨ nameL q.key.data.toList=true)∧rangeP q=true∧(q.ws.any fun y=>decide (y.k=16))=false∧wrongI [] q.its=false then 0 else 1
theorem c94 (q:Qu) (hok:OkQ q) (H:Heap) (Q:Post) (hq:∀ H',HExt H H'→Q (I (restP q)) H'):E 94 [encQ q] H Q:=by
 have hbad:∀ H',HExt H H'→¬ ((q.key=e0 ∨ nameL q.key.data.toList=true)∧rangeP q=true∧(q.ws.any fun y=>decide (y.k=16))=false∧wrongI [] q.its=false)→Q (I 1) H':=fun H' he h=>by
  have:=hq H' he
  rw [restP,if_neg h] at this;exact this
 rw [f94_eq,szQ,ob_some,partQ,ob_some,szQ,ob_some,splQ,ob_some]
 intro m fm
 have em:HExt H (H.setObj m (.smap [])):=(HExt.refl H).setObj fm _
 have om:=setObj_same H m (.smap [])
 generalize H.setObj m (.smap [])=H1 at em om ⊢
 have z1:sizedA 1 (AV.raw (.map (some m)))=some [Mp m]:=rfl
 have z2:spliceA 0 [Mp m] [AV.raw (.map none)]=some [Mp m]:=rfl
 rw [z1,ob_some,z2,ob_some]
 intro b fb
 have hbm:b ≠ m:=Ne.symm (fresh_ne om fb)
 have eb:HExt H (H1.setObj b (.cells [Mp m])):=em.setObj (em.fresh fb) _
 have ob':=setObj_same H1 b (.cells [Mp m])
 have om:(H1.setObj b (.cells [Mp m])).objs m=some (.smap (seenM [])):=(setObj_ne H1 _ (Ne.symm hbm)).trans om
 simp only [Pt_def]
 generalize H1.setObj b (.cells [Mp m])=H2 at eb ob' om ⊢
 have j32:∀ H3,Seen H b m [] H3→(q.key=e0 ∨ nameL q.key.data.toList=true)→f94_j32 (qC q) (.fn (.func 161) [] []) (.fn (.func 162) [] [Pt b]) (B (!rangeP q)) H3 Q:=fun H3 hs hkey=>by
  rw [f94_j32_eq]
  refine cnd_intro (fun h=>?_) (fun h=>?_)
  ·exact hbad H3 hs.ext (fun hh=>by rw [hh.2.1] at h;cases h)
  ·have hr:rangeP q=true:=by simpa using h
   simp only [part_f,q6,q10,ob_some,c122a q.wsz q.wnil q.wtip q.ws hok.wl,f94_j42_eq]
   refine cnd_intro (fun h2=>?_) (fun h2=>?_)
   ·rw [h2,cnd_t]
    exact hbad H3 hs.ext (fun hh=>by rw [hh.2.2.1] at h2;cases h2)
   ·refine c164 H b m fm hbm q.isz q.inil q.itip q.its hok.il hok.it H3 _ hs (fun H4 e4=>?_)
    refine cnd_intro (fun h3=>?_) (fun h3=>?_)
    ·exact hbad H4 e4 (fun hh=>by rw [hh.2.2.2] at h3;cases h3)
    ·have:=hq H4 e4
     rw [restP,if_pos ⟨hkey,hr,h2,h3⟩] at this
     exact this
 have j14:∀ H3,Seen H b m [] H3→(q.key=e0 ∨ nameL q.key.data.toList=true)→f94_j14 (qC q) (.fn (.func 161) [] []) (.fn (.func 162) [] [Pt b]) (B false) H3 Q:=fun H3 hs hkey=>by
  have:=j32 H3 hs hkey
  simp only [rangeP] at this
  rw [f94_j14_eq,cnd_f]
  simp only [part_f,q8,q9,ob_some,i_lss,i_gtr]
  by_cases h1:0≤q.mode
  ·by_cases h2:q.mode≤2
   ·by_cases h3:0≤q.within
    ·by_cases h4:q.within≤1099511627776
     ·have b1:¬ q.mode < 0:=by omega
      have b2:¬ 2 < q.mode:=by omega
      have b3:¬ q.within < 0:=by omega
      have b4:¬ 1099511627776 < q.within:=by omega
      simp only [h1,h2,h3,h4,b1,b2,b3,b4,decide_true,decide_false,Bool.and_self,Bool.not_true,cnd_f] at this ⊢
      exact this
     ·have b1:¬ q.mode < 0:=by omega
      have b2:¬ 2 < q.mode:=by omega
      have b3:¬ q.within < 0:=by omega
      have b4:1099511627776 < q.within:=by omega
      simp only [h1,h2,h3,h4,b1,b2,b3,b4,decide_true,decide_false,Bool.and_false,Bool.not_false,cnd_f] at this ⊢
      exact this
    ·have b1:¬ q.mode < 0:=by omega
     have b2:¬ 2 < q.mode:=by omega
     have b3:q.within < 0:=by omega
     simp only [h1,h2,h3,b1,b2,b3,decide_true,decide_false,Bool.false_and,Bool.and_false,Bool.not_false,cnd_f,cnd_t] at this ⊢
     exact this
   ·have b1:¬ q.mode < 0:=by omega
    have b2:2 < q.mode:=by omega
    simp only [h1,h2,b1,b2,decide_true,decide_false,Bool.false_and,Bool.and_false,Bool.not_false,cnd_f,cnd_t] at this ⊢
    exact this
  ·have b1:q.mode < 0:=by omega
   simp only [h1,b1,decide_true,decide_false,Bool.false_and,Bool.not_false,cnd_t] at this ⊢
   exact this
 have hs2:Seen H b m [] H2:=⟨eb,ob',om⟩
 simp only [part_f,q7,ob_some,s_neq]
 refine cnd_intro (fun h=>?_) (fun h=>?_)
 ·have hk:q.key ≠ e0:=by simpa using h
  refine c122 _ hok.key H2 _ (fun H3 e3=>?_)
  rw [not_B,ob_some]
  cases hn:nameL q.key.data.toList with
  | true=>exact j14 H3 ⟨eb.trans e3,e3.obj ob',e3.obj om⟩ (.inr hn)
  | false =>
   rw [f94_j14_eq]
   show cndA (B true) _ _
   rw [cnd_t]
   exact hbad H3 (eb.trans e3) (fun hh=>by
    rcases hh.1 with h' | h'
    ·exact hk h'
    ·rw [hn] at h';cases h')
 ·exact j14 H2 hs2 (.inl (by simpa using h))
def queryP (q:Qu):Int :=
 if checkT q.p ≠ 0 then checkT q.p else if countsP q ≠ 0 then 2 else if whereP 0 q.ws ≠ 0 then whereP 0 q.ws else restP q
theorem countsP_ne {q:Qu} (h:countsP q ≠ 0):countsP q=2:=by
 simp only [countsP] at h ⊢
 split at h
 ·rename_i h';rw [if_pos h']
 ·exact absurd rfl h
theorem c40 (q:Qu) (hok:OkQ q) (H:Heap) (Q:Post) (hq:∀ H',HExt H H'→Q (I (queryP q)) H'):E 40 [encQ q] H Q:=by
 rw [f40_eq,szQ,ob_some,partQ,ob_some,bldQ,ob_some,szQ,ob_some,splQ,ob_some,partQ,ob_some]
 simp only [queryP] at hq
 refine c91 q hok H _ (fun H1 e1=>?_)
 rw [i_neq,ob_some]
 refine cnd_intro (fun h=>?_) (fun h=>?_)
 ·have:=hq H1 e1
  rw [if_pos (by simpa using h)] at this;exact this
 rw [if_neg (by simpa using h)] at hq
 rw [ob_some]
 show E 92 [encQ q] H1 _
 rw [c92,i_neq,ob_some]
 refine cnd_intro (fun h=>?_) (fun h=>?_)
 ·have h':countsP q ≠ 0:=by simpa using h
  have:=hq H1 e1
  rw [if_pos h',← countsP_ne h'] at this;exact this
 rw [if_neg (by simpa using h)] at hq
 rw [ob_some]
 show E 93 [encQ q] H1 _
 refine c93 q hok H1 _ (fun H2 e2=>?_)
 rw [i_neq,ob_some]
 refine cnd_intro (fun h=>?_) (fun h=>?_)
 ·have:=hq H2 (e1.trans e2)
  rw [if_pos (by simpa using h)] at this;exact this
 rw [if_neg (by simpa using h)] at hq
 rw [ob_some]
 exact c94 q hok H2 _ (fun H3 e3=>hq H3 ((e1.trans e2).trans e3))
end Go.Hx
namespace Go.Hx
end Go.Hx
namespace Go.Hx
mutual
def notsT:Bool→Pa→Bool
 | w,.mk k _ _ _ _ _ _ _ l=>notsTs k w none l
def notsTs:Int→Bool→Option Int→List Pa→Bool
 | _,_,_,[]=>true
 | k,w,prev,y::r=>(if y.k=6 then !(decide (k ≠ 2) || (decide (prev=none) || (decide (prev=some 6) || (r.isEmpty && !w)))) else notsT false y) && notsTs k w (some y.k) r
end
theorem notsT_eq (w:Bool) (x:Pa):notsT w x=notsTs x.k w none x.l:=by cases x;simp [notsT,Pa.l,Pa.k]
def lastK (l:List Pa):Option Int:=(l.getLast?).map Pa.k
theorem lastK_app (l:List Pa) (y:Pa):lastK (l++[y])=some y.k:=by simp [lastK]
theorem lastK_ix (l:List Pa) (h:l ≠ []):∃ (pre:List Pa) (z:Pa),l=pre++[z]∧lastK l=some z.k:=by
 refine ⟨l.dropLast,l.getLast h,(List.dropLast_concat_getLast h).symm,?_⟩
 simp [lastK,List.getLast?_eq_some_getLast h]
structure Us where
 var:ByteArray
 typ:ByteArray
 k:Int
mutual
def usesT:Pa→List Us
 | .mk k var typ _ _ _ _ _ l=>(if isLeafT k=true then [⟨var,typ,k⟩] else [])++usesTs l
def usesTs:List Pa→List Us
 | []=>[]
 | y::r=>usesT y++usesTs r
end
theorem usesT_eq (x:Pa):usesT x=(if isLeafT x.k=true then [⟨x.var,x.typ,x.k⟩] else [])++usesTs x.l:=by cases x;rw [usesT];rfl
theorem usesTs_app (l r:List Pa):usesTs (l++r)=usesTs l++usesTs r:=by
 induction l with
 | nil=>rfl
 | cons y l ih=>simp only [List.cons_append,usesTs,ih,List.append_assoc]
def agreeU (a b:Us):Bool:=decide (a.typ=b.typ) && (decide (a.k=6) == decide (b.k=6))
def clash (k:Int) (a b:Us):Bool:=decide (a.var=b.var) && !(decide (k=4) && agreeU a b)
def clashes (k:Int) (prev us:List Us):Bool:=us.any fun a=>prev.any fun b=>clash k a b
mutual
def onceT:Pa→Bool
 | .mk k _ _ _ _ _ _ _ l=>onceTs k [] l
def onceTs:Int→List Us→List Pa→Bool
 | _,_,[]=>true
 | k,prev,y::r=>onceT y && (!clashes k prev (usesT y) && onceTs k (prev++usesT y) r)
end
theorem onceT_eq (x:Pa):onceT x=onceTs x.k [] x.l:=by cases x;simp [onceT,Pa.l,Pa.k]
def madeT (x:Pa):Bool:=decide (x.k ≠ 6) && (notsT true x && onceT x)
def madeP (x:Pa):Int:=if checkT x ≠ 0 then checkT x else if madeT x=true then 0 else 4
end Go.Hx
