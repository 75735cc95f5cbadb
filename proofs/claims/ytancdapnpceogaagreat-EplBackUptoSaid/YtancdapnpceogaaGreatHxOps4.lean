/- Operations, fourth part: literals, append, builtins. Own work (session 1). -/
import Derived.Test.YtancdapnpceogaaGreatHxOps3
namespace Go.Hx
section ops
variable {P:Program} {C:CallRel} {S:Start} {h:Hint} {o:Oper} {k:St→Heap→Prop} {st:St} {H:Heap} {a:Act} {w:World} {Pi:Prot} {β:Nat→Nat}

theorem foldl_cells (off:Nat):∀ (vs:List Value) (j:Nat) (cs:Array Value),off+j+vs.length≤cs.size →
    ((vs.zipIdx j).foldl (fun cs (x:Value × Nat)=>cs.setIfInBounds (off+x.2) x.1) cs).toList=cs.toList.take (off+j)++vs++cs.toList.drop (off+j+vs.length)
  | [],j,cs,_=>by simp
  | v::vs,j,cs,hl=>by
    have hlt:off+j < cs.size:=by simp at hl;omega
    simp only [List.zipIdx_cons,List.foldl_cons]
    rw [foldl_cells off vs (j+1) (cs.setIfInBounds (off+j) v) (by simp at hl ⊢;omega)]
    rw [Array.toList_setIfInBounds,← Nat.add_assoc]
    have:=list_seg_step cs.toList (off+j) v vs (by simp at hl ⊢;omega)
    rw [this]
    simp [Nat.add_assoc,Nat.add_comm,Nat.add_left_comm]
theorem fill_run {places:Nat→Option (Nat × Nat)}:∀ (l:List (Nat × Nat × AV)) (ps:List (Nat × Value)) (cs:List AV) (arr:Array Value) (r:AV),
    RepL Pi w cs arr.toList→(∀ v ∈ arr.toList,oneV v=true)→bldA l cs=some r→ps.length=l.length →
    (∀ (i:Nat) off sz v,l[i]?=some (off,sz,v)→∃ f u,ps[i]?=some (f,u)∧places f=some (off,sz)∧Rep Pi w v u) →
    ∃ arr',Instr.fill places arr ps=some arr'∧Rep Pi w r (.agg arr')
  | [],[],cs,arr,r,h1,h2,h3,_,_=>by
    simp only [bldA,Option.some.injEq] at h3;subst h3
    exact ⟨arr,rfl,by simp only [Rep];exact ⟨arr,rfl,h1,h2⟩⟩
  | [],_::_,_,_,_,_,_,_,hl,_=>by simp at hl
  | _::_,[],_,_,_,_,_,_,hl,_=>by simp at hl
  | (off,sz,v)::l,(f,u)::ps,cs,arr,r,h1,h2,h3,hl,h4=>by
    simp only [bldA] at h3
    split at h3
    · rename_i vs hvs
      split at h3
      · rename_i cs' hcs
        obtain ⟨f',u',e1,e2,e3⟩:=h4 0 off sz v (by simp)
        simp only [List.getElem?_cons_zero,Option.some.injEq,Prod.mk.injEq] at e1
        obtain ⟨rfl,rfl⟩:=e1
        obtain ⟨rfl,g1,g2,g3,g4,g5⟩:=sized_spec hvs e3
        unfold spliceA at hcs
        split at hcs
        · rename_i hle
          simp only [Option.some.injEq] at hcs
          have hcl:=h1.length
          have hul:=g1.length
          have hfit:off+0+u.cells.toList.length≤arr.size:=by simp at hcl hul ⊢;omega
          have hfold:=foldl_cells off u.cells.toList 0 arr hfit
          simp only [Nat.add_zero] at hfold
          generalize harr:((u.cells.toList.zipIdx 0).foldl (fun cs (x:Value × Nat)=>cs.setIfInBounds (off+x.2) x.1) arr)=arr1 at hfold
          have k1:RepL Pi w cs' arr1.toList:=by
            rw [hfold,← hcs]
            refine RepL.append _ _ _ _ (RepL.append _ _ _ _ (RepL.take off _ _ h1) g1) ?_
            rw [hul];exact RepL.drop _ _ _ h1
          have k2:∀ v ∈ arr1.toList,oneV v=true:=by
            rw [hfold]
            intro x hx
            simp only [List.mem_append] at hx
            rcases hx with (hx | hx) | hx
            · exact h2 x (List.mem_of_mem_take hx)
            · exact g2 x hx
            · exact h2 x (List.mem_of_mem_drop hx)
          obtain ⟨arr',m1,m2⟩:=fill_run l ps cs' arr1 r k1 k2 h3 (by simpa using hl) (fun i o' s' v' hi=>by simpa using h4 (i+1) o' s' v' (by simpa using hi))
          refine ⟨arr',?_,m2⟩
          rw [← m1]
          conv=>lhs;unfold Instr.fill
          simp only [e2,g3,ne_eq,not_true_eq_false,decide_false,Bool.false_or]
          rw [if_neg (by simp;simp at hfit hcl;omega)]
          rw [← harr,← Array.foldl_toList,Array.toList_zipIdx]
        · cases hcs
      · cases h3
    · cases h3
theorem evParts_rep (hr:RelSt Pi H w S.w0.heap.size S.N st a.tmps β) {t:TypeId}:∀ {ps:List (Nat × Operand)} {k:List (Nat × Nat × AV)→Prop},evParts P st t ps k →
    ∃ l,k l∧l.length=ps.length∧∀ (i:Nat) off sz v,l[i]?=some (off,sz,v)→∃ f x ft,ps[i]?=some (f,x)∧fieldOff P t f=some (off,sz,ft)∧Rep Pi w v (a.eval x)
  | [],k,h=>⟨[],h,rfl,fun i off sz v hi=>by simp at hi⟩
  | (f,x)::ps,k,h=>by
    simp only [evParts] at h
    split at h
    · rename_i off sz ft hf
      obtain ⟨v,h1,h2⟩:=evV_rep hr h
      obtain ⟨l,h3,h4,h5⟩:=evParts_rep hr h1
      refine ⟨_,h3,by simp [h4],fun i off' sz' v' hi=>?_⟩
      cases i with
      | zero =>
        simp only [List.getElem?_cons_zero,Option.some.injEq,Prod.mk.injEq] at hi
        obtain ⟨rfl,rfl,rfl⟩:=hi
        exact ⟨f,x,ft,by simp,hf,h2⟩
      | succ i=>simpa using h5 i off' sz' v' (by simpa using hi)
    · exact h.elim
theorem evPartsN_rep (hr:RelSt Pi H w S.w0.heap.size S.N st a.tmps β) {n sz':Nat}:∀ {ps:List (Nat × Operand)} {k:List (Nat × Nat × AV)→Prop},evPartsN st n sz' ps k →
    ∃ l,k l∧l.length=ps.length∧∀ (i:Nat) off sz v,l[i]?=some (off,sz,v)→∃ f x,ps[i]?=some (f,x)∧off=f * sz'∧sz=sz'∧Rep Pi w v (a.eval x)
  | [],k,h=>⟨[],h,rfl,fun i off sz v hi=>by simp at hi⟩
  | (f,x)::ps,k,h=>by
    simp only [evPartsN] at h
    split at h
    · obtain ⟨v,h1,h2⟩:=evV_rep hr h
      obtain ⟨l,h3,h4,h5⟩:=evPartsN_rep hr h1
      refine ⟨_,h3,by simp [h4],fun i off' sz' v' hi=>?_⟩
      cases i with
      | zero =>
        simp only [List.getElem?_cons_zero,Option.some.injEq,Prod.mk.injEq] at hi
        obtain ⟨rfl,rfl,rfl⟩:=hi
        exact ⟨f,x,by simp,rfl,rfl,h2⟩
      | succ i=>simpa using h5 i off' sz' v' (by simpa using hi)
    · exact h.elim
theorem places_some:∀ (fs:List Field),(fs.all fun f=>(P.info? f.type).isSome)=true →
    ∃ pl,fs.mapM (fun f=>(P.info? f.type).map fun i=>(f.offset,i.size))=some pl∧∀ (j:Nat) fd,fs[j]?=some fd→∃ i,P.info? fd.type=some i∧pl[j]?=some (fd.offset,i.size)
  | [],_=>⟨[],rfl,fun j fd h=>by simp at h⟩
  | f::fs,h=>by
    simp only [List.all_cons,Bool.and_eq_true] at h
    obtain ⟨i,hi⟩:=Option.isSome_iff_exists.1 h.1
    obtain ⟨pl,h1,h2⟩:=places_some fs h.2
    refine ⟨(f.offset,i.size)::pl,by simp [List.mapM_cons,hi,h1],fun j fd hj=>?_⟩
    cases j with
    | zero=>simp only [List.getElem?_cons_zero,Option.some.injEq] at hj;subst hj;exact ⟨i,hi,by simp⟩
    | succ j=>simpa using h2 j fd (by simpa using hj)
theorem zeroCells_spec {t:TypeId} {cs:List AV} (h:zeroCells P t=some cs):∃ i z,P.info? t=some i∧i.zero=some z∧RepL Pi w cs z.cells.toList∧(∀ v ∈ z.cells.toList,oneV v=true):=by
  unfold zeroCells at h
  cases hinf:P.info? t with
  | none=>simp [hinf] at h
  | some i =>
    cases hz:i.zero with
    | none=>simp [hinf,hz] at h
    | some z =>
      cases hc:constAV z with
      | none=>simp [hinf,hz,hc] at h
      | some x =>
        simp only [hinf,hz,hc,Option.map_some,Option.some.injEq] at h;subst h
        have hrep:=const_rep (Pi:=Pi) (w:=w) z x hc
        have hnt:∀ cs,x ≠ .tup cs:=fun cs e=>by
          subst e
          simp only [Rep] at hrep
          obtain ⟨vs,rfl,_⟩:=hrep
          simp [constAV] at hc
        obtain ⟨g1,g2,_⟩:=hrep.cells hnt
        exact ⟨i,z,rfl,hz,g1,g2⟩
theorem ordered_spec:∀ (ps:List (Nat × Operand)) (i:Nat),ordered i ps=true→ps=((ps.map (·.2)).zipIdx i).map fun x=>(x.2,x.1)
  | [],i,_=>rfl
  | (j,x)::r,i,h=>by
    simp only [ordered,Bool.and_eq_true] at h
    have e:=Nat.eq_of_beq_eq_true h.1
    subst e
    simp only [List.map_cons,List.zipIdx_cons]
    rw [← ordered_spec r (i+1) h.2]
theorem mkSlA_spec {sz:Nat} {xs:List AV} {r:AV} (h:mkSlA sz xs=some r):r=.sl sz false .full xs∧∀ x ∈ xs,(sizedA sz x).isSome=true:=by
  unfold mkSlA at h
  split at h
  · rename_i ha
    simp only [Option.some.injEq] at h
    exact ⟨h.symm,List.all_eq_true.1 ha⟩
  · cases h
theorem rowOf_sized:∀ {sz:Nat} {xs:List AV} {us:List Value},RepL Pi w xs us→(∀ x ∈ xs,(sizedA sz x).isSome=true)→RowOf Pi w sz xs (us.flatMap fun v=>v.cells.toList)∧∀ u ∈ us,u.cells.size=sz
  | sz,[],us,h,_=>by simp only [RepL] at h;subst h;exact ⟨rfl,by simp⟩
  | sz,x::xs,us,h,hs=>by
    simp only [RepL] at h
    obtain ⟨u,r,rfl,h1,h2⟩:=h
    obtain ⟨vs,hvs⟩:=Option.isSome_iff_exists.1 (hs x (by simp))
    obtain ⟨_,g1,g2,g3,g4,_⟩:=sized_spec hvs h1
    obtain ⟨k1,k2⟩:=rowOf_sized h2 (fun y hy=>hs y (by simp [hy]))
    refine ⟨?_,?_⟩
    · simp only [RowOf,List.flatMap_cons]
      exact ⟨u,_,rfl,h1,g4,g3,g2,k1⟩
    · intro v hv
      rcases List.mem_cons.1 hv with rfl | hv
      · exact g3
      · exact k2 v hv

section
variable (he:Ext S.H0 S.Pi0 S.w0 H Pi w) (hi:Inv Pi H w) (hr:RelSt Pi H w S.w0.heap.size S.N st a.tmps β) (hd:Marks S.w0.heap.size H w a.defers)
include he hi hr hd
theorem op_build {t:TypeId} {parts:Array (Nat × Operand)} (ho:o.op=.build t parts) (hx:opX P C S.N h o k st H):Fine P S o k a w:=by
  simp only [opX,ho] at hx
  split at hx
  · rename_i fs cs hu hz
    split at hx
    · rename_i hall
      obtain ⟨l,hx1,hlen,hl⟩:=evParts_rep hr hx
      obtain ⟨r,h1,hx2⟩:=ob_spec hx1
      obtain ⟨i,z,hinf,hzz,g1,g2⟩:=zeroCells_spec (Pi:=Pi) (w:=w) hz
      obtain ⟨pl,p1,p2⟩:=places_some fs.toList hall
      obtain ⟨arr',m1,m2⟩:=fill_run (places:=(pl.toArray[·]?)) l (parts.toList.map fun x=>(x.1,a.eval x.2)) cs z.cells r g1 g2 h1 (by simp [hlen]) (fun i off sz v hi=>by
        obtain ⟨f,x,ft,q1,q2,q3⟩:=hl i off sz v hi
        obtain ⟨fs',fd,inf,q4,q5,q6,q7,q8,_⟩:=fieldOff_spec q2
        rw [hu] at q4;simp only [Option.some.injEq,TypeDesc.struct.injEq] at q4;subst q4
        obtain ⟨inf',q9,q10⟩:=p2 f fd (by simpa using q5)
        rw [q6] at q9;simp only [Option.some.injEq] at q9;subst q9
        exact ⟨f,a.eval x,by rw [List.getElem?_map,q1];rfl,by simpa [q7,q8] using q10,q3⟩)
      have hb:P.built t (parts.map fun (x:Nat × Operand)=>(x.1,a.eval x.2)).toList=some arr':=by
        unfold Program.built
        simp only [hinf,hu,hzz,p1,Array.toList_map]
        exact m1
      exact pure_op he hi hr hd (v:=.agg arr') (by simp only [execOp,ho,Sem.run_bind,run_build w t _ arr' hb,Result.andThen_ok,Sem.run_pure]) m2 hx2
    · exact hx.elim
  · rename_i n e cs hu hz
    split at hx
    · rename_i ie hie
      obtain ⟨l,hx1,hlen,hl⟩:=evPartsN_rep hr hx
      obtain ⟨r,h1,hx2⟩:=ob_spec hx1
      obtain ⟨i,z,hinf,hzz,g1,g2⟩:=zeroCells_spec (Pi:=Pi) (w:=w) hz
      obtain ⟨arr',m1,m2⟩:=fill_run (places:=fun j=>some (j * ie.size,ie.size)) l (parts.toList.map fun x=>(x.1,a.eval x.2)) cs z.cells r g1 g2 h1 (by simp [hlen]) (fun i off sz v hi=>by
        obtain ⟨f,x,q1,q2,q3,q4⟩:=hl i off sz v hi
        exact ⟨f,a.eval x,by rw [List.getElem?_map,q1];rfl,by rw [q2,q3],q4⟩)
      have hb:P.built t (parts.map fun (x:Nat × Operand)=>(x.1,a.eval x.2)).toList=some arr':=by
        unfold Program.built
        simp only [hinf,hu,hzz,hie,Array.toList_map]
        exact m1
      exact pure_op he hi hr hd (v:=.agg arr') (by simp only [execOp,ho,Sem.run_bind,run_build w t _ arr' hb,Result.andThen_ok,Sem.run_pure]) m2 hx2
    · exact hx.elim
  · exact hx.elim
/-- a new slice of new cells -/
theorem newSlice_fine {xs:List AV} {l:List Value} {sz c:Nat} {e:TypeId} {arr:Array Value} {tip:Tip} (hrow:RowOf Pi w sz xs l) (hc:arr.toList=l) (hcap:c=xs.length) (htip:tip ≠ .full→tip=.any)
    (hx:putS S.N o.dst (.val (.sl sz false tip xs)) st fun st=>k st H) :
    ∃ st',Good S st' H (a.put o.dst (.slice (some ⟨w.heap.size,0,none⟩) xs.length c)) (w.alloc (.cells arr e))∧k st' H:=by
  have hl:=hrow.length
  have hsize:arr.size=l.length:=by rw [← hc];simp
  obtain ⟨he',hi'⟩:=publish hi arr e arr.size (Nat.le_refl _)
  refine val_fine (he.trans he') hi' (hr.step he') (hd.step he') ?_ hx
  simp only [Rep]
  refine ⟨some ⟨w.heap.size,0,none⟩,c,rfl,by omega,rfl,(fun h=>by cases h),(fun _=>hcap),?_,?_⟩
  · intro ad h
    simp only [Option.some.injEq] at h;subst h
    refine ⟨fun _=>rfl,RowOf.place _ _ (hrow.later he'.later) (fun j v hj=>⟨.inr ⟨rfl,?_⟩,?_⟩)⟩
    · rw [hsize,Nat.zero_add]
      rcases Nat.lt_or_ge j l.length with h | h
      · exact h
      · rw [List.getElem?_eq_none h] at hj;cases hj
    · rw [World.cell?,alloc_new]
      simp only [Nat.zero_add,Option.isSome_none,Bool.false_eq_true,if_false]
      rw [← hj,← hc];simp
  · intro b hb
    exfalso
    have:=htip (by rw [hb];simp)
    rw [hb] at this;cases this
theorem op_buildSlice {t:TypeId} {len:Nat} {parts:Array (Nat × Operand)} (ho:o.op=.buildSlice t len parts) (hx:opX P C S.N h o k st H):Fine P S o k a w:=by
  simp only [opX,ho] at hx
  split at hx
  · rename_i e sz by_ hs
    split at hx
    · rename_i hcond
      simp only [Bool.and_eq_true] at hcond
      obtain ⟨⟨⟨⟨c1,c2⟩,c3⟩,c4⟩,c6⟩:=hcond
      have d2:=Nat.eq_of_beq_eq_true c2
      have d3:=Nat.le_of_ble_eq_true c3
      have d4:=Nat.le_of_ble_eq_true c4
      obtain ⟨zcs,hz⟩:=Option.isSome_iff_exists.1 c6
      obtain ⟨inf,z,hinf,hzz,_,_⟩:=zeroCells_spec (Pi:=Pi) (w:=w) hz
      obtain ⟨g1,i,g2,g3,g4⟩:=sliceElem_spec hs
      rw [hinf] at g2;simp only [Option.some.injEq] at g2;subst g2
      obtain ⟨vs,hx1,rvs⟩:=evVs_rep hr hx
      obtain ⟨r,h1,hx2⟩:=ob_spec hx1
      obtain ⟨rfl,h2⟩:=mkSlA_spec h1
      obtain ⟨hrow,hsz⟩:=rowOf_sized rvs h2
      have hlen:=rvs.length
      have hlen2:vs.length=len:=by rw [← hlen];simp [d2]
      rcases Nat.eq_zero_or_pos len with d5 | d5
      · subst d5
        have hvs:vs=[]:=List.length_eq_zero_iff.1 hlen2
        subst hvs
        have hp0:parts=#[]:=Array.eq_empty_of_size_eq_zero d2
        subst hp0
        obtain ⟨st',k1,k2⟩:=newSlice_fine he hi hr hd (e:=e) (c:=0) (tip:=.full) (xs:=[]) (l:=[]) hrow (arr:=#[]) rfl rfl (by simp) hx2
        refine ⟨_,_,st',H,.inl ?_,k1,k2⟩
        simp [execOp,ho,Instr.buildSlice,run_underlying g1,sizeOf,typeInfo,hinf,newRow,Instr.fill]
        congr 1;congr 1;apply Array.eq_empty_of_size_eq_zero;simp
      have hparts:(parts.map fun (x:Nat × Operand)=>(x.1,a.eval x.2)).toList=(((parts.toList.map (·.2)).map a.eval).zipIdx 0).map fun x=>(x.2,x.1):=by
        have hp:=ordered_spec parts.toList 0 c1
        generalize hys:parts.toList.map (·.2)=ys at hp
        rw [Array.toList_map,hp,List.map_map,List.zipIdx_map,List.map_map]
        rfl
      have hfill:=Great.fill_whole (s:=sz) (by omega) ((parts.toList.map (·.2)).map a.eval) ((Array.range (len * sz)).map (z.cells[· % z.cells.size]!)) hsz (by rw [hlen,hlen2];simp)
      rw [← hparts] at hfill
      have hrun:=run_buildSlice (P:=P) w t e len (parts.map fun (x:Nat × Operand)=>(x.1,a.eval x.2)) _ inf z g1 hinf hzz (by rw [g3];omega) (by rw [g3];exact Nat.ne_of_gt (Nat.mul_pos d5 d4)) (by rw [g3];exact hfill)
      obtain ⟨st',k1,k2⟩:=newSlice_fine he hi hr hd (e:=e) (c:=len) (tip:=.full) hrow (arr:=(((parts.toList.map (·.2)).map a.eval).flatMap fun v=>v.cells.toList).toArray) rfl hlen2.symm (by simp) hx2
      rw [hlen2] at k1
      refine ⟨_,_,st',H,.inl ?_,k1,k2⟩
      simp only [execOp,ho,Sem.run_bind]
      rw [hrun]
      rfl
    · exact hx.elim
  · exact hx.elim
end
end ops
end Go.Hx

