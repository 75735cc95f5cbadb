/- Operations: maps whose keys are texts. Own work (session 2). -/
import Derived.Test.YtancdapnpceogaaGreatHxOps6
namespace Go.Hx
section ops
variable {P:Program} {C:CallRel} {S:Start} {h:Hint} {o:Oper} {k:St→Heap→Prop} {st:St} {H:Heap} {a:Act} {w:World} {Pi:Prot} {β:Nat→Nat}
theorem ba_beq' (a b:ByteArray):(a == b)=decide (a=b):=by
  cases a with | mk x=>cases b with | mk y =>
  simp only [BEq.beq,ByteArray.beq,ByteArray.mk.injEq]
  rw [Bool.eq_iff_iff]
  show (x == y)=true ↔ _
  simp
theorem strMap_spec {t:TypeId} {z:AV} (h:strMap P t=some z):∃ kt e i v,P.underlying t=some (.map kt e)∧P.underlying kt=some .string∧P.info? e=some i∧i.zero=some v∧constAV v=some z:=by
  unfold strMap at h
  split at h
  · rename_i kt e hu
    split at h
    · rename_i i hk hi
      split at h
      · rename_i v hz
        exact ⟨kt,e,i,v,hu,hk,hi,hz,h⟩
      · cases h
    · cases h
  · cases h
theorem findNow_spec (s:ByteArray):∀ (l:List (ByteArray × AV)) (es:List MapEntry) (i:Nat),RepM Pi w l es →
    (findM s l=none∧Instr.findNow .string (.string s) es i=some none) ∨ ∃ x j e,findM s l=some x∧Instr.findNow .string (.string s) es i=some (some (i+j,e.val))∧Rep Pi w x e.val∧es[j]?=some e∧e.key=.string s
  | [],es,i,h=>by
    simp only [RepM] at h;subst h
    exact .inl ⟨rfl,rfl⟩
  | (kk,x)::r,es,i,h=>by
    obtain ⟨e,es',rfl,h2,h3,h4⟩:=h
    have hs:Instr.sameNow .string (.string s) e.key=some (s == kk):=by rw [h2];rfl
    cases hk:(s == kk) with
    | true =>
      rw [hk] at hs
      refine .inr ⟨x,0,e,by simp [findM,hk],by simp [Instr.findNow,hs],h3,rfl,?_⟩
      have:s=kk:=by rw [ba_beq'] at hk;simpa using hk
      rw [h2,this]
    | false =>
      rw [hk] at hs
      rcases findNow_spec s r es' (i+1) h4 with ⟨g1,g2⟩ | ⟨y,j,e',g1,g2,g3,g4,g5⟩
      · exact .inl ⟨by simp [findM,hk,g1],by simp [Instr.findNow,hs,g2]⟩
      · exact .inr ⟨y,j+1,e',by simp [findM,hk,g1],by simp [Instr.findNow,hs,g2];omega,g3,by simpa using g4,g5⟩
theorem updM_none {s:ByteArray} {x:AV} {v:Value} (hx:Rep Pi w x v) (c:Nat):∀ (l:List (ByteArray × AV)) (es:List MapEntry),RepM Pi w l es→findM s l=none→RepM Pi w (updM s x l) (es++[{ key:=.string s,val:=v,born:=c }])
  | [],es,h,_=>by
    simp only [RepM] at h;subst h
    exact ⟨_,[],rfl,rfl,hx,rfl⟩
  | (kk,y)::r,es,h,hf=>by
    obtain ⟨e,es',rfl,h2,h3,h4⟩:=h
    simp only [findM] at hf
    split at hf
    · cases hf
    · rename_i hk
      simp only [updM,hk]
      exact ⟨e,_,rfl,h2,h3,updM_none hx c r es' h4 hf⟩
theorem updM_some {s:ByteArray} {x:AV} {v:Value} (hx:Rep Pi w x v):∀ (l:List (ByteArray × AV)) (es:List MapEntry) (i:Nat) (y:AV) (j:Nat) (u:Value),RepM Pi w l es→findM s l=some y→Instr.findNow .string (.string s) es i=some (some (i+j,u)) →
    RepM Pi w (updM s x l) (es.modify j fun e=>{ e with key:=.string s,val:=v })
  | [],es,i,y,j,u,h,hf,_=>by simp [findM] at hf
  | (kk,z)::r,es,i,y,j,u,h,hf,hn=>by
    obtain ⟨e,es',rfl,h2,h3,h4⟩:=h
    have hs:Instr.sameNow .string (.string s) e.key=some (s == kk):=by rw [h2];rfl
    cases hk:(s == kk) with
    | true =>
      rw [hk] at hs
      simp only [Instr.findNow,hs,Option.some.injEq,Prod.mk.injEq] at hn
      have hj:j=0:=by omega
      subst hj
      simp only [updM,hk,List.modify_zero_cons]
      exact ⟨_,es',rfl,rfl,hx,h4⟩
    | false =>
      rw [hk] at hs
      simp only [findM,hk] at hf
      simp only [Instr.findNow,hs] at hn
      have hj:j ≠ 0:=fun e=>by
        subst e
        have:∀ (l:List MapEntry) (i k:Nat) (u:Value),Instr.findNow .string (.string s) l i=some (some (k,u))→i≤k:=by
          intro l
          induction l with
          | nil=>intro i k u h;simp [Instr.findNow] at h
          | cons e l ih =>
            intro i k u h
            simp only [Instr.findNow] at h
            split at h
            · simp only [Option.some.injEq,Prod.mk.injEq] at h;omega
            · have:=ih (i+1) k u h;omega
            · cases h
        have:=this es' (i+1) (i+0) u hn
        omega
      obtain ⟨j',rfl⟩:∃ j',j=j'+1:=⟨j - 1,by omega⟩
      simp only [updM,hk,List.modify_succ_cons]
      exact ⟨e,_,rfl,h2,h3,updM_some hx r es' (i+1) y j' u h4 hf (by rw [hn];congr 3;omega)⟩
theorem Born_push {es:Array MapEntry} {c:Nat} (h:Born es c) (e:MapEntry) (he:e.born=c):Born (es.push e) (c+1):=by
  refine ⟨by rw [Array.size_push,h.1],fun i x hx=>?_⟩
  rw [Array.getElem?_push] at hx
  split at hx
  · simp only [Option.some.injEq] at hx;subst hx
    rw [he,h.1];exact (‹i=es.size›).symm
  · exact h.2 i x hx
theorem Born_modify {es:Array MapEntry} {c:Nat} (h:Born es c) (j:Nat) (f:MapEntry→MapEntry) (hf:∀ e,(f e).born=e.born):Born (es.modify j f) c:=by
  refine ⟨by rw [Array.size_modify];exact h.1,fun i x hx=>?_⟩
  rw [Array.getElem?_modify] at hx
  split at hx
  · cases hes:es[i]? with
    | none=>rw [hes] at hx;cases hx
    | some y =>
      rw [hes] at hx
      simp only [Option.map_some,Option.some.injEq] at hx;subst hx
      rw [hf];exact h.2 i y hes
  · exact h.2 i x hx
theorem updA_spec {m i v:AV} {K:Heap→Prop} (hx:updA H m i v K):∃ b s l,m=.raw (.map (some b))∧i=.raw (.string s)∧H.objs b=some (.smap l)∧K (H.setObj b (.smap (updM s v l))):=by
  unfold updA at hx
  split at hx
  · split at hx
    · rename_i l hb;exact ⟨_,_,l,rfl,rfl,hb,hx⟩
    · exact hx.elim
  · exact hx.elim
theorem entsA_spec {m:AV} {u:Value} {l:List (ByteArray × AV)} (hi:Inv Pi H w) (h:entsA H m=some l) (hr:Rep Pi w m u):(u=.map none∧l=[]) ∨ ∃ b es c,u=.map (some b)∧H.objs b=some (.smap l)∧w.heap[b]?=some (.map es c)∧RepM Pi w l es.toList:=by
  unfold entsA at h
  split at h
  · simp only [Rep] at hr
    simp only [Option.some.injEq] at h
    exact .inl ⟨hr.1,h.symm⟩
  · rename_i b
    split at h
    · rename_i l' hb
      simp only [Option.some.injEq] at h;subst h
      simp only [Rep] at hr
      obtain ⟨es,c,h1,h2,_⟩:=hi.objs b _ hb
      exact .inr ⟨b,es,c,hr.1,hb,h1,h2⟩
    · cases h
  · cases h
theorem checkKey_str {t:TypeId} (ht:P.underlying t=some .string) (b:Bool) (s:ByteArray):(Instr.checkKey b 10000 t (.string s)).run P w=.ok () w:=by
  unfold Instr.checkKey
  simp [run_underlying ht]
variable (he:Ext S.H0 S.Pi0 S.w0 H Pi w) (hi:Inv Pi H w) (hr:RelSt Pi H w S.w0.heap.size S.N st a.tmps β) (hd:Marks S.w0.heap.size H w a.defers)
include he hi hr hd
theorem op_makeMap {t:TypeId} {r:Option Operand} (ho:o.op=.makeMap t r) (hx:opX P C S.N h o k st H):Fine P S o k a w:=by
  simp only [opX,ho] at hx
  split at hx
  · split at hx
    · have e1:=Ext.newObj hi (.map #[] 0) (.smap [])
      have i1:=hi.newObj (.map #[] 0) (.smap []) ⟨#[],0,alloc_new w _,rfl,rfl,fun i e h=>by simp at h⟩
      obtain ⟨st',g1,g2⟩:=val_fine (k:=k) (dst:=o.dst) (v:=.map (some w.heap.size)) (he.trans e1) i1 (hr.step e1) (hd.step e1) (by simp [Rep,simpleV]) (hx w.heap.size hi.fresh_new)
      exact ⟨_,_,st',_,.inl (by simp [execOp,ho,Instr.makeMap,run_newObj_alloc]),g1,g2⟩
    · exact hx.elim
  · exact hx.elim
theorem op_lookup {t:TypeId} {x i:Operand} {ok:Bool} (ho:o.op=.lookup t x i ok) (hx:opX P C S.N h o k st H):Fine P S o k a w:=by
  simp only [opX,ho] at hx
  split at hx
  · rename_i z hs
    obtain ⟨kt,e,inf,zv,g1,g2,g3,g4,g5⟩:=strMap_spec hs
    obtain ⟨m,hx,rm⟩:=evV_rep hr hx
    obtain ⟨ki,hx,rk⟩:=evV_rep hr hx
    obtain ⟨r,h1,hx⟩:=ob_spec hx
    unfold lookA at h1
    split at h1
    · rename_i s
      have ek:a.eval i=.string s:=rep_str.1 rk
      simp only [Option.map_eq_some_iff] at h1
      obtain ⟨l,h1,rfl⟩:=h1
      have rz:Rep Pi w z zv:=const_rep zv z g5
      have fin:∀ es:List MapEntry,RepM Pi w l es→∃ v,(do
            let (v,okk) ← match ← Instr.findKey kt (.string s) es with
              | some (_,v)=>pure (v,true)
              | none=>pure (← zeroValue e,false)
            pure (if ok then .tuple #[v,.bool okk] else v):Sem Value).run P w=.ok v w∧Rep Pi w (okA z ok (findM s l)) v:=fun es hes=>by
        rcases findNow_spec s l es 0 hes with ⟨f1,f2⟩ | ⟨y,j,en,f1,f2,f3,_,_⟩
        · refine ⟨if ok then .tuple #[zv,.bool false] else zv,by simp [Instr.findKey,run_underlying g2,f2,zeroValue,typeInfo,g3,g4],?_⟩
          rw [f1]
          cases ok
          · exact rz
          · simp [okA,Rep,RepL,simpleV,rz]
        · refine ⟨if ok then .tuple #[en.val,.bool true] else en.val,by simp [Instr.findKey,run_underlying g2,f2],?_⟩
          rw [f1]
          cases ok
          · exact f3
          · simp [okA,Rep,RepL,simpleV,f3]
      rcases entsA_spec hi h1 rm with ⟨em,rfl⟩ | ⟨b,es,c,em,hb,hw,hes⟩
      · obtain ⟨v,r1,r2⟩:=fin [] rfl
        exact pure_op he hi hr hd (v:=v) (by
          simp [execOp,ho,Instr.lookup,run_underlying g1,em,ek,checkKey_str g2] at r1 ⊢
          exact congrArg (fun q=>Result.andThen q fun a w'=>Result.ok (Next.value a) w') r1) r2 hx
      · obtain ⟨v,r1,r2⟩:=fin es.toList hes
        have hget:(getObj b).run P w=.ok (.map es c) w:=by simp [getObj,Sem.run,hw]
        exact pure_op he hi hr hd (v:=v) (by
          simp [execOp,ho,Instr.lookup,run_underlying g1,em,ek,checkKey_str g2,hget] at r1 ⊢
          exact congrArg (fun q=>Result.andThen q fun a w'=>Result.ok (Next.value a) w') r1) r2 hx
    · cases h1
  · exact hx.elim
theorem op_mapUpdate {t:TypeId} {m i x:Operand} (ho:o.op=.mapUpdate t m i x) (hx:opX P C S.N h o k st H):Fine P S o k a w:=by
  simp only [opX,ho] at hx
  split at hx
  · rename_i z hs
    obtain ⟨kt,e,inf,zv,g1,g2,g3,g4,g5⟩:=strMap_spec hs
    obtain ⟨mv,hx,rm⟩:=evV_rep hr hx
    obtain ⟨ki,hx,rk⟩:=evV_rep hr hx
    obtain ⟨xv,hx,rx⟩:=evV_rep hr hx
    obtain ⟨b,s,l,rfl,rfl,hb,hx⟩:=updA_spec hx
    have ek:a.eval i=.string s:=rep_str.1 rk
    have em:a.eval m=.map (some b):=by simp only [Rep] at rm;exact rm.1
    obtain ⟨es,c,hw,hes,hborn⟩:=hi.objs b _ hb
    have hget:(getObj b).run P w=.ok (.map es c) w:=by simp [getObj,Sem.run,hw]
    have hset:∀ ob:Obj,(setObj b ob).run P w=.ok () (w.putObj b ob):=fun ob=>by simp [setObj,Sem.run,hw,World.putObj]
    have hnc:∀ vs e fr,w.heap[b]? ≠ some (.cells vs e fr):=by rw [hw];intro _ _ _ h;cases h
    have hlt:=(Array.getElem?_eq_some_iff.1 hw).1
    have put:∀ ob:Obj,∀ l':List (ByteArray × AV),(∃ es' c',ob=.map es' c'∧RepM Pi w l' es'.toList∧Born es' c')→Ext H Pi w (H.setObj b (.smap l')) Pi (w.putObj b ob)∧Inv Pi (H.setObj b (.smap l')) (w.putObj b ob):=fun ob l' ⟨es',c',e1,e2,e3⟩=>by
      subst e1
      exact putObj_obj hi hb hnc ⟨es',c',World.putObj_heap_same hlt,RepM.later (Later.putObj hi hnc) _ _ e2,e3⟩
    rcases findNow_spec s l es.toList 0 hes with ⟨f1,f2⟩ | ⟨y,j,en,f1,f2,f3,f4,f5⟩
    · obtain ⟨e1,i1⟩:=put (.map (es.push { key:=.string s,val:=a.eval x,born:=c }) (c+1)) (updM s xv l) ⟨_,_,rfl,by simpa using updM_none rx c l es.toList hes f1,Born_push hborn _ rfl⟩
      obtain ⟨st',q1,q2⟩:=undef_fine (v:=undef) (he.trans e1) i1 (hr.step e1) (hd.step e1) hx
      refine ⟨_,_,st',_,.inr ⟨?_,rfl⟩,q1,q2⟩
      simp [execOp,ho,Instr.mapUpdate,run_underlying g1,em,ek,hget,checkKey_str g2,Instr.findKey,run_underlying g2,f2,hset]
    · have hu:=updM_some rx l es.toList 0 y j en.val hes f1 f2
      obtain ⟨e1,i1⟩:=put (.map (es.modify j fun e=>{ e with key:=.string s,val:=a.eval x }) c) (updM s xv l) ⟨_,_,rfl,by simpa using hu,Born_modify hborn j _ (fun _=>rfl)⟩
      obtain ⟨st',q1,q2⟩:=undef_fine (v:=undef) (he.trans e1) i1 (hr.step e1) (hd.step e1) hx
      refine ⟨_,_,st',_,.inr ⟨?_,rfl⟩,q1,q2⟩
      have hold:((es[j]?).map (·.key)).getD (.string s)=.string s:=by
        have:es[j]?=some en:=by simpa using f4
        rw [this];simp [f5]
      have hstay:(Instr.keyThatStays (.string s) (.string s)).run P w=.ok (.string s) w:=by
        have:Instr.sameBits 10000 (.string s) (.string s)=true:=by simp [Instr.sameBits,ba_beq']
        simp [Instr.keyThatStays,this]
      simp only [Nat.zero_add] at f2
      simp [execOp,ho,Instr.mapUpdate,run_underlying g1,em,ek,hget,checkKey_str g2,Instr.findKey,run_underlying g2,f2,hold,hstay,hset]
  · exact hx.elim
theorem op_insert {t:TypeId} {m i x:Operand} (ho:o.op=.insert t m i x) (hx:opX P C S.N h o k st H):Fine P S o k a w:=by
  simp only [opX,ho] at hx
  split at hx
  · rename_i z hs
    obtain ⟨kt,e,inf,zv,g1,g2,g3,g4,g5⟩:=strMap_spec hs
    obtain ⟨mv,hx,rm⟩:=evV_rep hr hx
    obtain ⟨ki,hx,rk⟩:=evV_rep hr hx
    obtain ⟨xv,hx,rx⟩:=evV_rep hr hx
    obtain ⟨b,s,l,rfl,rfl,hb,hx⟩:=updA_spec hx
    have ek:a.eval i=.string s:=rep_str.1 rk
    have em:a.eval m=.map (some b):=by simp only [Rep] at rm;exact rm.1
    obtain ⟨es,c,hw,hes,hborn⟩:=hi.objs b _ hb
    have hget:(getObj b).run P w=.ok (.map es c) w:=by simp [getObj,Sem.run,hw]
    have hset:∀ ob:Obj,(setObj b ob).run P w=.ok () (w.putObj b ob):=fun ob=>by simp [setObj,Sem.run,hw,World.putObj]
    have hnc:∀ vs e fr,w.heap[b]? ≠ some (.cells vs e fr):=by rw [hw];intro _ _ _ h;cases h
    have hlt:=(Array.getElem?_eq_some_iff.1 hw).1
    have put:∀ ob:Obj,∀ l':List (ByteArray × AV),(∃ es' c',ob=.map es' c'∧RepM Pi w l' es'.toList∧Born es' c')→Ext H Pi w (H.setObj b (.smap l')) Pi (w.putObj b ob)∧Inv Pi (H.setObj b (.smap l')) (w.putObj b ob):=fun ob l' ⟨es',c',e1,e2,e3⟩=>by
      subst e1
      exact putObj_obj hi hb hnc ⟨es',c',World.putObj_heap_same hlt,RepM.later (Later.putObj hi hnc) _ _ e2,e3⟩
    rcases findNow_spec s l es.toList 0 hes with ⟨f1,f2⟩ | ⟨y,j,en,f1,f2,f3,f4,f5⟩
    · obtain ⟨e1,i1⟩:=put (.map (es.push { key:=.string s,val:=a.eval x,born:=c }) (c+1)) (updM s xv l) ⟨_,_,rfl,by simpa using updM_none rx c l es.toList hes f1,Born_push hborn _ rfl⟩
      obtain ⟨st',q1,q2⟩:=undef_fine (v:=undef) (he.trans e1) i1 (hr.step e1) (hd.step e1) hx
      refine ⟨_,_,st',_,.inr ⟨?_,rfl⟩,q1,q2⟩
      simp [execOp,ho,Instr.mapUpdate,run_underlying g1,em,ek,hget,checkKey_str g2,Instr.findKey,run_underlying g2,f2,hset]
    · have hu:=updM_some rx l es.toList 0 y j en.val hes f1 f2
      obtain ⟨e1,i1⟩:=put (.map (es.modify j fun e=>{ e with key:=.string s,val:=a.eval x }) c) (updM s xv l) ⟨_,_,rfl,by simpa using hu,Born_modify hborn j _ (fun _=>rfl)⟩
      obtain ⟨st',q1,q2⟩:=undef_fine (v:=undef) (he.trans e1) i1 (hr.step e1) (hd.step e1) hx
      refine ⟨_,_,st',_,.inr ⟨?_,rfl⟩,q1,q2⟩
      have hold:((es[j]?).map (·.key)).getD (.string s)=.string s:=by
        have:es[j]?=some en:=by simpa using f4
        rw [this];simp [f5]
      have hstay:(Instr.keyThatStays (.string s) (.string s)).run P w=.ok (.string s) w:=by
        have:Instr.sameBits 10000 (.string s) (.string s)=true:=by simp [Instr.sameBits,ba_beq']
        simp [Instr.keyThatStays,this]
      simp only [Nat.zero_add] at f2
      simp [execOp,ho,Instr.mapUpdate,run_underlying g1,em,ek,hget,checkKey_str g2,Instr.findKey,run_underlying g2,f2,hold,hstay,hset]
  · exact hx.elim
end ops
end Go.Hx

