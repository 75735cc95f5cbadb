/- From a row's readings to the abstract machine, and back. Own work (session 2). -/
import Derived.Test.YtancdapnpceogaaGreatHxAt
import Derived.ProofKit
import Derived.ReadAgain
import Derived.ChangeStays
namespace Go.Hx
open Go.ChangeShapes Go.WideShapes

mutual
def szA:AV→Nat
  | .raw (.string s)=>s.size+1
  | .raw _=>1
  | .sl _ _ _ xs=>szL xs+1
  | .agg cs=>szL cs+1
  | .tup vs=>szL vs+1
  | .fn _ a b=>szL a+szL b+1
  | .iface _ v=>szA v+1
def szL:List AV→Nat
  | []=>0
  | x::xs=>szA x+szL xs
end
theorem szL_append (xs ys:List AV):szL (xs++ys)=szL xs+szL ys:=by
  induction xs with
  | nil=>simp [szL]
  | cons x xs ih=>simp only [List.cons_append,szL,ih];omega
theorem one_le_szA (x:AV):1≤szA x:=by
  cases x with
  | raw v=>cases v<;>simp [szA]
  | sl _ _ _ xs=>simp [szA]
  | agg _=>simp [szA]
  | tup _=>simp [szA]
  | fn _ _ _=>simp [szA]
  | iface _ _=>simp [szA]
theorem length_le_szL (xs:List AV):xs.length≤szL xs:=by
  induction xs with
  | nil=>simp [szL]
  | cons x xs ih=>have:=one_le_szA x;simp only [List.length_cons,szL];omega
/-- how a seat reckons what comes in -/
structure Bulk {H:Type} (b:DataW H→Nat) (ba:List (DataW H)→Nat):Prop where
  str:∀ l,b (.lit (.string l))=l.length+1
  bool:∀ l,b (.lit (.bool l))=1
  int:∀ k l,b (.lit (.int k l))=1
  nil:b .nil=1
  slice:∀ l r,b (.slice l r)=ba l+ba r+1
  agg:∀ l,b (.agg l)=ba l+1
  anil:ba []=0
  acons:∀ x l,ba (x::l)=b x+ba l

section
variable {H:Type} {enc:TypeId × Value→H} {P:Program} {w:World}

def aggT (P:Program) (e:TypeId):Bool :=
  match P.underlying e with
  | some (.struct _)=>true
  | some (.array _ _)=>true
  | _=>false
/-- one value out of its cells -/
def packA (P:Program) (e:TypeId) (cs:List AV):AV :=
  match aggT P e,cs with
  | true,cs=>.agg cs
  | false,x::_=>x
  | false,[]=>B false
/-- cells of a type -/
def HasT (P:Program):Nat→TypeId→List AV→Prop
  | 0,_,_=>False
  | n+1,t,cs=>match P.underlying t with
    | some .bool=>∃ b,cs=[B b]
    | some (.int k)=>∃ i,cs=[.raw (.int k i)]∧(Lit.int k i).wf=true
    | some .string=>∃ s:ByteArray,cs=[S s]∧s.size≤maxLen
    | some (.slice e)=>cs=[.sl (P.cellsOf e) true .full []] ∨ ∃ xs:List AV,cs=[.sl (P.cellsOf e) false .any xs]∧∀ x ∈ xs,∃ c,x=packA P e c∧HasT P n e c
    | some (.struct fs)=>cs.length=P.cellsOf t∧∀ f ∈ fs.toList,HasT P n f.type ((cs.drop f.offset).take (P.cellsOf f.type))
    | _=>False
/-- types of which readings are known -/
def supT (P:Program):Nat→TypeId→Bool
  | 0,_=>true
  | n+1,t=>match P.underlying t with
    | some .bool=>true
    | some (.int _)=>true
    | some .string=>true
    | some (.slice e)=>Nat.blt 0 (P.cellsOf e) && supT P n e
    | some (.struct fs)=>fs.toList.all fun f=>supT P n f.type
    | _=>false

/-- all that can be read -/
def Read (w:World):Prot:=fun b o=>∃ v,w.cell? ⟨b,o,none⟩=some v
def H0:Heap:=⟨fun _=>none,fun _=>none,fun _=>none⟩
theorem inv_H0 (w:World):Inv (Read w) H0 w:=⟨fun _ _ h=>(by cases h),fun _ _ h=>(by cases h),fun _ _ h=>h,fun _ _ h=>(by cases h)⟩

theorem cells_get {a:Addr} {n:Nat} {cs:List Value} (h:w.cells? 0 a n=some cs):cs.length=n∧∀ (i:Nat) v,cs[i]?=some v→w.cell? (a.add i)=some v:=by
  simp only [World.cells?,Nat.zero_le,if_true] at h
  have hl:=mapM_some_length h
  simp only [List.length_range] at hl
  refine ⟨hl,fun i v hi=>?_⟩
  have hlt:i < n:=by
    rcases Nat.lt_or_ge i cs.length with h' | h'
    · omega
    · rw [List.getElem?_eq_none h'] at hi;cases hi
  have:=mapM_some_get h i i (by simp [hlt])
  rw [this,hi]
theorem cell_spot {a:Addr} {v:Value} (h:w.cell? a=some v):a.spot=none:=by
  unfold World.cell? at h
  split at h
  · split at h
    · cases h
    · rename_i hs;simpa using hs
  · cases h

structure Got (P:Program) (w:World) (n:Nat) (t:TypeId) (cs:List Value) (as:List AV) (sz:Nat):Prop where
  rep:RepL (Read w) w as cs
  one:∀ v ∈ cs,oneV v=true
  has:HasT P n t as
  len:cs.length=P.cellsOf t
  size:szL as≤sz
  pack:szA (packA P t as)≤sz

theorem got_pack {n:Nat} {t:TypeId} {cs:List Value} {as:List AV} {sz:Nat} (hg:Got P w n t cs as sz) (hp:0 < P.cellsOf t) (h1:aggT P t=false→P.cellsOf t=1) :
    ∃ u,Rep (Read w) w (packA P t as) u∧(∀ l,u ≠ .tuple l)∧u.cells.toList=cs:=by
  unfold packA
  split
  · exact ⟨.agg cs.toArray,by simp only [Rep];exact ⟨cs.toArray,rfl,by simpa using hg.rep,by simpa using hg.one⟩,by simp,by simp [Value.cells]⟩
  · rename_i x r hagg
    have hl:=hg.len
    rw [h1 hagg] at hl
    obtain ⟨v,hv⟩:∃ v,cs=[v]:=by match cs,hl with | [v],_=>exact ⟨v,rfl⟩
    subst hv
    have hr:=hg.rep
    simp only [RepL] at hr
    obtain ⟨v',r',e,hr,_⟩:=hr
    cases e
    have:=hg.one v (by simp)
    refine ⟨v,hr,fun l e=>by subst e;simp [oneV] at this,?_⟩
    cases v<;>simp_all [oneV,Value.cells]
  · rename_i hagg
    have hl:=hg.len
    have:=hg.rep.length
    simp at this
    subst this
    simp at hl;omega

section fields
variable {n:Nat} {b:DataW H→Nat} {ba:List (DataW H)→Nat}
theorem got_fields (hb:Bulk b ba):∀ (fs:List Field) (cs:List Value) (o:Nat) (xs:List (DataW H × List MemPlace)),
    (∀ (j:Nat) f,fs[j]?=some f→f.offset=o+((fs.take j).map fun f=>P.cellsOf f.type).sum)→cs.length=(fs.map fun f=>P.cellsOf f.type).sum→xs.length=fs.length →
    (∀ (j:Nat) f x,fs[j]?=some f→xs[j]?=some x→∃ as,Got P w n f.type ((cs.drop (f.offset - o)).take (P.cellsOf f.type)) as (b x.1)) →
    ∃ as,RepL (Read w) w as cs∧(∀ v ∈ cs,oneV v=true)∧(∀ f ∈ fs,HasT P n f.type ((as.drop (f.offset - o)).take (P.cellsOf f.type)))∧szL as≤ba (xs.map (·.1))
  | [],cs,o,xs,_,hl,hx,_=>by
    simp at hl;subst hl
    simp at hx;subst hx
    exact ⟨[],RepL.nil,by simp,by simp,by simp [szL]⟩
  | f::fs,cs,o,[],_,_,hx,_=>by simp at hx
  | f::fs,cs,o,x::xs,ho,hl,hx,hg=>by
    have h0:=ho 0 f rfl
    simp at h0
    obtain ⟨as0,g0⟩:=hg 0 f x rfl rfl
    rw [h0,Nat.sub_self,List.drop_zero] at g0
    simp only [List.map_cons,List.sum_cons] at hl
    obtain ⟨as,r1,r2,r3,r4⟩:=got_fields hb fs (cs.drop (P.cellsOf f.type)) (o+P.cellsOf f.type) xs (fun j g hj=>by
        have:=ho (j+1) g (by simpa using hj)
        simp only [List.take_succ_cons,List.map_cons,List.sum_cons] at this
        omega) (by rw [List.length_drop];omega) (by simpa using hx) (fun j g y hj hy=>by
        have h1:=ho (j+1) g (by simpa using hj)
        simp only [List.take_succ_cons,List.map_cons,List.sum_cons] at h1
        have:=hg (j+1) g y (by simpa using hj) (by simpa using hy)
        rw [show g.offset - o=P.cellsOf f.type+(g.offset - (o+P.cellsOf f.type)) by omega,← List.drop_drop] at this
        exact this)
    have hl0:as0.length=P.cellsOf f.type:=by rw [← g0.rep.length,g0.len]
    refine ⟨as0++as,?_,fun v hv=>?_,fun g hg'=>?_,?_⟩
    · have:=RepL.append _ _ _ _ g0.rep r1
      rwa [List.take_append_drop] at this
    · rw [← List.take_append_drop (P.cellsOf f.type) cs,List.mem_append] at hv
      exact hv.elim (g0.one v) (r2 v)
    · rcases List.mem_cons.1 hg' with rfl | hg'
      · rw [h0,Nat.sub_self,List.drop_zero,← hl0,List.take_left']
        · exact g0.has
        · rfl
      · obtain ⟨j,hj⟩:=List.getElem?_of_mem hg'
        have h1:=ho (j+1) g (by simpa using hj)
        simp only [List.take_succ_cons,List.map_cons,List.sum_cons] at h1
        have:=r3 g hg'
        rw [show g.offset - o=as0.length+(g.offset - (o+P.cellsOf f.type)) by omega,List.drop_append,List.drop_eq_nil_of_le (by omega),List.nil_append,Nat.add_sub_cancel_left]
        exact this
    · rw [List.map_cons,hb.acons,szL_append]
      have:=g0.size;omega
end fields

theorem row_of {n:Nat} {e:TypeId} {ds:List (DataW H × List MemPlace)} {b:DataW H→Nat} {ba:List (DataW H)→Nat} (hb:Bulk b ba) (hp:0 < P.cellsOf e) (h1:aggT P e=false→P.cellsOf e=1) :
    ∀ (l:List (DataW H × List MemPlace)) (blk off:Nat),
    (∀ (i:Nat) x,l[i]?=some x→∃ cs as,Got P w n e cs as (b x.1)∧∀ (j:Nat) v,cs[j]?=some v→w.cell? ⟨blk,off+i * P.cellsOf e+j,none⟩=some v) →
    ∃ xs:List AV,xs.length=l.length∧RepRow (Read w) w blk off (P.cellsOf e) xs∧(∀ x ∈ xs,∃ c,x=packA P e c∧HasT P n e c)∧szL xs≤ba (l.map (·.1))
  | [],_,_,_=>⟨[],rfl,by simp [RepRow],by simp,by simp [szL]⟩
  | x::l,blk,off,hg=>by
    obtain ⟨cs,as,g,hc⟩:=hg 0 x rfl
    obtain ⟨u,u1,u2,u3⟩:=got_pack g hp h1
    obtain ⟨xs,r1,r2,r3,r4⟩:=row_of (ds:=ds) hb hp h1 l blk (off+P.cellsOf e) (fun i y hy=>by
      obtain ⟨cs,as,g,hc⟩:=hg (i+1) y (by simpa using hy)
      refine ⟨cs,as,g,fun j v hj=>?_⟩
      rw [← hc j v hj,Nat.add_mul]
      congr 2;omega)
    refine ⟨packA P e as::xs,by simp [r1],?_,fun y hy=>?_,?_⟩
    · simp only [RepRow]
      refine ⟨⟨u,u1,u2,by rw [← Array.length_toList,u3,g.len],fun j v hj=>?_⟩,r2⟩
      have:=hc j v (by rw [← u3];simpa using hj)
      simp only [Nat.zero_mul,Nat.add_zero] at this
      exact ⟨⟨v,this⟩,this⟩
    · rcases List.mem_cons.1 hy with rfl | hy
      · exact ⟨as,rfl,g.has⟩
      · exact r3 y hy
    · rw [List.map_cons,hb.acons]
      simp only [szL]
      have:=g.pack;omega

theorem got {b:DataW H→Nat} {ba:List (DataW H)→Nat} (hb:Bulk b ba) (K:Kids P (· < P.types.size)) (h1':∀ e,e < P.types.size→aggT P e=false→P.cellsOf e=1) :
    ∀ (n:Nat) (t:TypeId) (cs:List Value) (x:DataW H × List MemPlace),t < P.types.size→supT P n t=true→DataW.trod enc P w 0 (fun _=>true) true n t cs=some x→∃ as,Got P w n t cs as (b x.1):=by
  intro n
  induction n with
  | zero=>intro t cs x _ _ h;simp [DataW.trod] at h
  | succ n ih =>
    intro t cs x hT hs h
    have h1:=fun (_:TypeId)=>h1' t hT
    have hnagg:∀ (D:TypeDesc),P.underlying t=some D→(∀ fs,D ≠ .struct fs)→(∀ k e,D ≠ .array k e)→aggT P t=false:=fun D hD h1 h2=>by
      unfold aggT;rw [hD];cases D<;>simp_all
    unfold supT at hs
    split at hs
    · rename_i hu
      obtain ⟨v,rfl,rfl⟩:=DataW.trod_bool hu h
      have ha:=hnagg _ hu (by simp) (by simp)
      exact ⟨[B v],by simp [RepL,Rep,B,simpleV],by simp [oneV],by simp only [HasT,hu];exact ⟨v,rfl⟩,by rw [h1 t ha];rfl,by simp [szL,szA,B,hb.bool],by simp [packA,ha,szA,B,hb.bool]⟩
    · rename_i k hu
      obtain ⟨v,rfl,rfl,hw⟩:=DataW.trod_int hu h
      have ha:=hnagg _ hu (by simp) (by simp)
      exact ⟨[.raw (.int k v)],by simp [RepL,Rep,simpleV],by simp [oneV],by simp [HasT,hu,hw],by rw [h1 t ha];rfl,by simp [szL,szA,hb.int],by simp [packA,ha,szA,hb.int]⟩
    · rename_i hu
      obtain ⟨s,rfl,rfl,hw⟩:=DataW.trod_string hu h
      have ha:=hnagg _ hu (by simp) (by simp)
      have e:s.data.toList.length=s.size:=by rw [Array.length_toList];rfl
      exact ⟨[S s],by simp [RepL,Rep,S,simpleV],by simp [oneV],by simp [HasT,hu,S,hw],by rw [h1 t ha];rfl,by simp only [szL,szA,S,hb.str,e];omega,by simp only [packA,ha,szA,S,hb.str,e];omega⟩
    · rename_i e hu
      simp only [Bool.and_eq_true] at hs
      have hp:0 < P.cellsOf e:=Nat.le_of_ble_eq_true hs.1
      have ha:=hnagg _ hu (by simp) (by simp)
      rcases DataW.trod_slice hu h with ⟨rfl,rfl⟩ | ⟨a,len,cap,elems,rest,m,hm,rfl,rfl,hba,hlc,hcm,hel,helt,_,_⟩
      · exact ⟨[.sl (P.cellsOf e) true .full []],RepL.cons (by simp only [Rep];exact ⟨none,0,rfl,by simp,rfl,by simp,by simp,fun ad h=>(by cases h),by simp⟩) RepL.nil,by simp [oneV],by simp [HasT,hu],by rw [h1 t ha];rfl,by simp [szL,szA,hb.nil],by simp [packA,ha,szA,szL,hb.nil]⟩
      · cases hm
        have key:∀ (i:Nat) y,elems[i]?=some y→∃ cs as,Got P w n e cs as (b y.1)∧a.spot=none∧∀ (j:Nat) v,cs[j]?=some v→w.cell? ⟨a.block,a.off+i * P.cellsOf e+j,none⟩=some v:=fun i y hy=>by
          have hi:i < len:=by
            rcases Nat.lt_or_ge i elems.length with h' | h'
            · omega
            · rw [List.getElem?_eq_none h'] at hy;cases hy
          have h0:0 < elems.length:=by omega
          have hsp:a.spot=none:=by
            have:=helt 0 (by omega)
            rw [List.getElem?_eq_getElem h0] at this
            simp only [Option.bind_eq_some_iff] at this
            obtain ⟨c,hc,_⟩:=this
            obtain ⟨k1,k2⟩:=cells_get hc
            have h0c:0 < c.length:=by omega
            have:=k2 0 c[0] (by rw [List.getElem?_eq_getElem h0c])
            have:=cell_spot this
            simpa [Addr.add] using this
          have had:a=⟨a.block,a.off,none⟩:=by cases a;simp at hsp;simp [hsp]
          have:=helt i hi
          rw [hy] at this
          simp only [Option.bind_eq_some_iff] at this
          obtain ⟨c,hc,ht⟩:=this
          obtain ⟨as,g⟩:=ih e c y (K.slice hT hu) hs.2 ht
          refine ⟨c,as,g,hsp,fun j v hj=>?_⟩
          have:=(cells_get hc).2 j v hj
          rw [had,add_lit',add_lit'] at this
          exact this
        obtain ⟨xs,r1,r2,r3,r4⟩:=row_of (P:=P) (w:=w) (n:=n) (ds:=elems) hb hp (h1' e (K.slice hT hu)) elems a.block a.off (fun i y hy=>by
          obtain ⟨cs,as,g,_,hc⟩:=key i y hy
          exact ⟨cs,as,g,hc⟩)
        have hsz:szL [AV.sl (P.cellsOf e) false .any xs]≤b (.slice (elems.map (·.1)) (rest.map (·.1))):=by
          simp only [szL,szA,hb.slice];omega
        refine ⟨[.sl (P.cellsOf e) false .any xs],?_,by simp [oneV],?_,by rw [h1 t ha];rfl,hsz,by simpa [packA,ha,szL] using hsz⟩
        · refine RepL.cons ?_ RepL.nil
          simp only [Rep]
          refine ⟨some a,cap,by rw [r1,hel],by omega,rfl,by simp,by simp,fun ad hd=>?_,by simp⟩
          cases hd
          refine ⟨fun hne=>?_,r2⟩
          cases elems with
          | nil=>simp at r1;exact absurd r1 hne
          | cons y l=>obtain ⟨_,_,_,h,_⟩:=key 0 y rfl;exact h
        · simp only [HasT,hu]
          exact .inr ⟨xs,rfl,r3⟩
    · rename_i fs hu
      obtain ⟨xs,m,hm,rfl,hl,hlen,hf⟩:=DataW.trod_struct hu h
      cases hm
      obtain ⟨k1,k2,k3⟩:=K.struct hT hu
      have hag:aggT P t=true:=by unfold aggT;rw [hu]
      obtain ⟨as,r1,r2,r3,r4⟩:=got_fields (n:=n) hb fs.toList cs 0 xs (fun j f hj=>by rw [k3 j f hj];omega) (hl.trans k2) (by simpa using hlen) (fun j f y hj hy=>by
        have:=hf j f (by simpa using hj)
        rw [hy] at this
        have hsf:=List.all_eq_true.1 hs f (List.mem_of_getElem? hj)
        obtain ⟨as,g⟩:=ih f.type _ y (k1 f (List.mem_of_getElem? hj)) hsf this
        exact ⟨as,by simpa using g⟩)
      have e:b (.agg (xs.map (·.1)))=ba (xs.map (·.1))+1:=hb.agg _
      refine ⟨as,r1,r2,?_,hl,by simp only [e];omega,?_⟩
      · simp only [HasT,hu]
        exact ⟨by rw [← r1.length,hl],fun f hf'=>by simpa using r3 f hf'⟩
      · simp only [packA,hag,szA,e];omega
    · cases hs

def ArgsT (P:Program):List TypeId→List AV→Prop
  | [],as=>as=[]
  | t::ts,as=>∃ n c r,as=packA P t c::r∧HasT P n t c∧ArgsT P ts r
/-- a list of types that is shut under parts -/
def shutT (P:Program) (l:List TypeId):Bool:=l.all fun t=>Nat.blt t P.types.size && match P.underlying t with
  | some .bool=>true
  | some (.int _)=>true
  | some .string=>true
  | some (.slice e)=>Nat.blt 0 (P.cellsOf e) && memN e l
  | some (.struct fs)=>fs.toList.all fun f=>memN f.type l
  | _=>false
theorem mem_of_memN {i:Nat}:∀ {l:List Nat},memN i l=true→i ∈ l
  | [],h=>by simp [memN] at h
  | x::l,h=>by
    unfold memN at h
    split at h
    · rename_i hb;exact List.mem_cons.2 (.inl (Nat.eq_of_beq_eq_true hb).symm)
    · exact List.mem_cons.2 (.inr (mem_of_memN h))
theorem shutT_sup {l:List TypeId} (h:shutT P l=true):∀ (n:Nat) (t:TypeId),t ∈ l→t < P.types.size∧supT P n t=true:=by
  intro n
  induction n with
  | zero =>
    intro t ht
    have:=List.all_eq_true.1 h t ht
    simp only [Bool.and_eq_true] at this
    exact ⟨Nat.le_of_ble_eq_true this.1,rfl⟩
  | succ n ih =>
    intro t ht
    have:=List.all_eq_true.1 h t ht
    simp only [Bool.and_eq_true] at this
    refine ⟨Nat.le_of_ble_eq_true this.1,?_⟩
    have h2:=this.2
    unfold supT
    split at h2<;>rename_i hu
    · first | rfl | simp only [hu]
    · first | rfl | simp only [hu]
    · first | rfl | simp only [hu]
    · simp only [Bool.and_eq_true] at h2 ⊢
      exact ⟨h2.1,(ih _ (mem_of_memN h2.2)).2⟩
    · try simp only [hu]
      refine List.all_eq_true.2 fun f hf=>(ih _ (mem_of_memN (List.all_eq_true.1 h2 f hf))).2
    · cases h2
theorem got_arg {n:Nat} {t:TypeId} {v:Value} {as:List AV} {sz base:Nat} (hg:Got P w n t v.cells.toList as sz) (ho:Value.okWide P w .any base t v) (hn:supT P n t=true) (hn0:n ≠ 0):Rep (Read w) w (packA P t as) v:=by
  have one:(∀ cs,v ≠ .agg cs)→aggT P t=false→v.cells.toList=[v]→Rep (Read w) w (packA P t as) v:=fun _ ha hc=>by
    have hr:=hg.rep
    rw [hc] at hr
    match as,hr with
    | [],hr=>simp [RepL] at hr
    | a::r,hr =>
      simp only [RepL] at hr
      obtain ⟨v',r',e,h1,_⟩:=hr
      cases e
      simpa [packA,ha] using h1
  cases n with
  | zero=>exact absurd rfl hn0
  | succ n =>
    unfold supT at hn
    unfold Value.okWide at ho
    split at hn
    · rename_i hu
      rw [hu] at ho;simp only [Cell.okWide,hu,Cell.ok] at ho
      split at ho<;>first | exact ho.elim | skip
      all_goals first | (exact one (by simp) (by simp [aggT,hu]) (by simp [Value.cells])) | simp_all
    · rename_i k hu
      rw [hu] at ho;simp only [Cell.okWide,hu,Cell.ok] at ho
      split at ho<;>first | exact ho.elim | skip
      all_goals first | (exact one (by simp) (by simp [aggT,hu]) (by simp [Value.cells])) | simp_all
    · rename_i hu
      rw [hu] at ho;simp only [Cell.okWide,hu,Cell.ok] at ho
      split at ho<;>first | exact ho.elim | skip
      all_goals first | (exact one (by simp) (by simp [aggT,hu]) (by simp [Value.cells])) | simp_all
    · rename_i e hu
      rw [hu] at ho;simp only [Cell.okWide,hu,Cell.ok] at ho
      split at ho<;>first | exact ho.elim | skip
      all_goals first | (exact one (by simp) (by simp [aggT,hu]) (by simp [Value.cells])) | simp_all
    · rename_i fs hu
      rw [hu] at ho
      obtain ⟨cs,rfl,_,_⟩:=ho
      have ha:aggT P t=true:=by simp [aggT,hu]
      have:packA P t as=.agg as:=by simp [packA,ha]
      rw [this]
      simp only [Rep]
      exact ⟨cs,rfl,by simpa [Value.cells] using hg.rep,by simpa [Value.cells] using hg.one⟩
    · cases hn
theorem got_args {b:DataW H→Nat} {ba:List (DataW H)→Nat} (hb:Bulk b ba) (K:Kids P (· < P.types.size)) (h1:∀ e,e < P.types.size→aggT P e=false→P.cellsOf e=1) {l:List TypeId} (hl:shutT P l=true) {base:Nat} :
    ∀ (ts:List TypeId) (vs:List Value) (ds:List (DataW H)) (ps:List MemPlace),(∀ t ∈ ts,t ∈ l)→(∀ (j:Nat) t v,ts[j]?=some t→vs[j]?=some v→Value.okWide P w .any base t v) →
    DataW.TrodAll enc P w 0 (fun _=>true) true ts vs ds ps→∃ as,RepL (Read w) w as vs∧ArgsT P ts as∧szL as≤ba ds
  | [],vs,ds,ps,_,_,h=>by
    obtain ⟨rfl,rfl,rfl⟩:=trodAll_nil h
    exact ⟨[],RepL.nil,rfl,by simp [szL]⟩
  | t::ts,vs,ds,ps,hts,hok,h=>by
    obtain ⟨v,vs,d,ds,p,q,rfl,rfl,rfl,h2,h3⟩:=trodAll_cons h
    obtain ⟨n,hn⟩:=h2
    obtain ⟨htl,hsup⟩:=shutT_sup hl n t (hts t (by simp))
    obtain ⟨c,g⟩:=got hb K h1 n t _ _ htl hsup hn
    have r:=got_arg g (hok 0 t v rfl rfl) hsup (fun e=>by subst e;simp [DataW.trod] at hn)
    obtain ⟨as,r1,r2,r3⟩:=got_args hb K h1 hl ts vs ds q (fun t ht=>hts t (by simp [ht])) (fun j t v h4 h5=>hok (j+1) t v (by simpa using h4) (by simpa using h5)) h3
    refine ⟨packA P t c::as,RepL.cons r r1,⟨n,c,as,rfl,g.has,r2⟩,?_⟩
    rw [hb.acons]
    simp only [szL]
    have:szA (packA P t c)≤b d:=g.pack
    omega

theorem cell_of_heap {w w':World} (hh:∀ b,b < w.heap.size→w'.heap[b]?=w.heap[b]?) {p:MemPlace} (hp:p.block < w.heap.size):w.sameAt w' p:=by
  cases p with
  | cell b o =>
    simp only [World.sameAt,World.cell?]
    rw [hh b hp]
  | map b=>exact hh b hp
theorem trodAll_stays {w':World} (K:Kids P (· < P.types.size)) (hsz:∀ t e,t < P.types.size→P.underlying t=some (.slice e)→0 < P.cellsOf e) {sp:Nat→Bool} :
    ∀ (ts:List TypeId) (vs:List Value) (ds:List (DataW H)) (ps:List MemPlace),(∀ t ∈ ts,t < P.types.size)→DataW.TrodAll enc P w 0 (fun _=>true) true ts vs ds ps→(∀ p ∈ ps,w.sameAt w' p)→(∀ p ∈ ps,sp p.block=true) →
    DataW.TrodAll enc P w' 0 sp true ts vs ds ps
  | [],vs,ds,ps,_,h,_,_=>by
    obtain ⟨rfl,rfl,rfl⟩:=trodAll_nil h
    exact trodAll_mk0
  | t::ts,vs,ds,ps,hts,h,hs,hp=>by
    obtain ⟨v,vs,d,ds,p,q,rfl,rfl,rfl,⟨n,hn⟩,h3⟩:=trodAll_cons h
    exact ⟨p,q,⟨n,DataW.trod_stays K (fun h1 h2=>hsz _ _ h1 h2) (by simp) (hts t (by simp)) hn (fun x hx=>hs x (List.mem_append_left _ hx)) (fun x hx=>hp x (List.mem_append_left _ hx))⟩,
      trodAll_stays K hsz ts vs ds q (fun t ht=>hts t (by simp [ht])) h3 (fun x hx=>hs x (List.mem_append_right _ hx)) (fun x hx=>hp x (List.mem_append_right _ hx)),rfl⟩
theorem kept_of_heap {w w':World} {may:MemPlace→Prop} (hos:w'.os=w.os) (hout:w'.output=w.output) (hh:∀ b,b < w.heap.size→w'.heap[b]?=w.heap[b]?):w.keptBut w' may:=by
  refine ⟨hos,hout,fun i hi=>?_⟩
  rw [hh i hi]
  split
  · rename_i h1 h2;rw [h1] at h2;cases h2;exact ⟨rfl,rfl,rfl,fun _ _=>rfl⟩
  · rename_i h1 h2;rw [h1] at h2;cases h2;exact .inr ⟨rfl,rfl⟩
  · rfl
theorem row_post {f:Func} {s:ChangeSpec} {apart fresh handsOn again:Bool} {W W':World} {args:Array Value} {ds gs:List (DataW H)} {before:List MemPlace} {tb:TypeId}
    (K:Kids P (· < P.types.size)) (hsz:∀ t e,t < P.types.size→P.underlying t=some (.slice e)→0 < P.cellsOf e) (hts:∀ t ∈ f.params.toList,t < P.types.size)
    (hW:DataW.Whole enc P f.params.toList s.vars apart W args.toList ds gs before) (hvars:s.vars=[]) (hfn:s.fn H ds={ results:=[.lit (.bool true)],args:=ds })
    (hos:W'.os=W.os) (hout:W'.output=W.output) (hh:∀ b,b < W.heap.size→W'.heap[b]?=W.heap[b]?) (hres:f.resultTypes=#[tb]) (htb:P.underlying tb=some .bool) :
    s.post enc P f apart fresh handsOn again W args (.bool true) W':=by
  have hlt:=hW.lt
  have hW0:=hW
  obtain ⟨p,q,hA,hV,rfl,hz,hn⟩:=hW0
  rw [hvars] at hV
  obtain ⟨rfl,rfl⟩:=trodVars_none hV
  simp only [List.append_nil] at hlt hz hn hW
  have hsame:∀ x ∈ p,W.sameAt W' x:=fun x hx=>cell_of_heap hh (hlt x hx)
  have hargs:∀ sp:Nat→Bool,(∀ x ∈ p,sp x.block=true)→DataW.TrodAll enc P W' 0 sp true f.params.toList args.toList (s.fn H (ds++[])).args p:=fun sp hsp=>by
    rw [List.append_nil,hfn]
    exact trodAll_stays K hsz _ _ _ _ hts hA hsame hsp
  have hr:∀ (b:Nat) (sp:Nat→Bool) (hd:Bool),DataW.TrodAll enc P W' b sp hd f.resultTypes.toList ((Value.bool true).resultList f.resultTypes.size) (s.fn H (ds++[])).results []:=fun b sp hd=>by
    rw [List.append_nil,hfn,hres]
    refine ⟨[],[],⟨1,?_⟩,trodAll_mk0,rfl⟩
    simp [DataW.trod,htb,Value.cells]
  have hvs:∀ sp:Nat→Bool,DataW.TrodVars enc P W' sp s.vars (s.fn H (ds++[])).vars []:=fun sp=>by
    rw [List.append_nil,hfn,hvars];rfl
  refine ⟨ds,[],p,[],p,[],hW,hr _ _ _,hargs _ (fun x hx=>by simpa using hlt x hx),hvs _,World.keptBut_mono (fun x hx=>⟨hx,.inr (.inl hx)⟩) (kept_of_heap hos hout hh),fun _=>?_⟩
  refine ⟨fun j t r hj hr=>?_,_,_,([]++p)++[],⟨[]++p,[],trodAll_append (hargs _ (fun _ _=>rfl)) (hr _ _ _),hvs _,rfl,?_,?_⟩,?_⟩
  · rw [hres] at hj hr
    cases j with
    | zero =>
      simp at hj;subst hj
      have:r=.bool true:=by simpa [Value.resultList] using hr.symm
      subst this
      simp [Value.okWide,htb,Cell.okWide,Cell.ok]
    | succ j=>simp at hj
  · intro b off hp
    have hp':MemPlace.cell b off ∈ p:=by simpa using hp
    have:=hz b off hp'
    have hb:=hlt _ hp'
    simp only [World.frozen?] at this ⊢
    rw [hh b hb];exact this
  · intro ha
    simpa using hn ha
  · intro x hx _
    simpa using hx

/-- from the abstract machine to what a row asks -/
theorem row_calls (pk:PK P) {hs:Hints} {f:Nat} {fn:Func} {s:ChangeSpec} {apart fresh handsOn again:Bool} {W:World} {base:Nat} {args:Array Value} {ds gs:List (DataW H)} {before:List MemPlace} {tb:TypeId} {b:DataW H→Nat} {ba:List (DataW H)→Nat} (hb:Bulk b ba) {l:List TypeId}
    (K:Kids P (· < P.types.size)) (h1:∀ e,e < P.types.size→aggT P e=false→P.cellsOf e=1) (hl:shutT P l=true) (hsz:∀ t e,t < P.types.size→P.underlying t=some (.slice e)→0 < P.cellsOf e) (hts:∀ t ∈ fn.params.toList,t ∈ l)
    (hval:∀ (j:Nat) t v,fn.params[j]?=some t→args[j]?=some v→Value.okWide P W .any base t v)
    (hW:DataW.Whole enc P fn.params.toList s.vars apart W args.toList ds gs before) (hvars:s.vars=[]) (hfn:s.fn H ds={ results:=[.lit (.bool true)],args:=ds }) (hres:fn.resultTypes=#[tb]) (htb:P.underlying tb=some .bool)
    (hx:∀ as,ArgsT P fn.params.toList as→szL as≤ba ds→Ev P hs (.fn f) as H0 (fun r _=>r=B true)) :
    Calls P f args W fun e W'=>∃ v,e=.returned v∧s.post enc P fn apart fresh handsOn again W args v W':=by
  obtain ⟨p,q,hA,hV,e,hz,hn⟩:=hW
  obtain ⟨as,r1,r2,r3⟩:=got_args hb K h1 hl _ _ _ _ hts (fun j t v h4 h5=>hval j t v (by simpa using h4) (by simpa using h5)) hA
  have:=(Ev_sound pk (hx as r2 r3)).2 (Read W) W args (inv_H0 W) r1
  refine (callsIn_wide.1 this).mono fun e' W' ⟨v,r,H',Pi',e1,e2,e3,e4,e5⟩=>⟨v,e1,?_⟩
  subst e5
  simp only [B,Rep] at e4
  obtain ⟨rfl,_⟩:=e4
  have hh:∀ b,b < W.heap.size→W'.heap[b]?=W.heap[b]?:=fun b hb=>e2.keep b hb rfl rfl
  exact row_post K hsz (fun t ht=>(shutT_sup hl 0 t (hts t ht)).1) ⟨p,q,hA,hV,e,hz,hn⟩ hvars hfn e2.os e2.output hh hres htb
end
end Go.Hx

