/- Operations, fifth part: append, len, min, max. Own work (session 1). -/
import Derived.Test.YtancdapnpceogaaGreatHxOps4
namespace Go.Hx
section ops
variable {P:Program} {C:CallRel} {S:Start} {h:Hint} {o:Oper} {k:St→Heap→Prop} {st:St} {H:Heap} {a:Act} {w:World} {Pi:Prot} {β:Nat→Nat}

theorem sliceElemZ_spec {t:TypeId} {sz by_:Nat} (h:sliceElemZ P t=some (sz,by_)):∃ e i z,P.underlying t=some (.slice e)∧P.info? e=some i∧i.zero=some z∧z.cells.size=sz∧i.size=sz∧i.bytes=by_∧1≤by_:=by
  unfold sliceElemZ at h
  split at h
  · rename_i e hu
    split at h
    · rename_i i hi
      split at h
      · rename_i z hz
        split at h
        · rename_i hb
          simp only [Bool.and_eq_true] at hb
          have:=Nat.eq_of_beq_eq_true hb.1
          have hb2:=Nat.le_of_ble_eq_true hb.2
          simp only [Option.some.injEq,Prod.mk.injEq] at h
          exact ⟨e,i,z,hu,hi,hz,by omega,h.1,h.2,by omega⟩
        · cases h
      · cases h
    · cases h
  · cases h
/-- what an append takes in -/
theorem tail_src {sz:Nat} {x:AV} {u:Value} {ys:List AV} {t2:TypeId} (h:tailA sz x=some ys) (hr:Rep Pi w x u) (hk:(∃ e,P.underlying t2=some (.slice e)) ∨ P.underlying t2=some .string) :
    ∃ news,RowOf Pi w sz ys news∧Src P sz t2 u ys.length news w:=by
  unfold tailA at h
  split at h
  · rename_i sz' nil tip ys'
    split at h
    · rename_i hs
      simp only [Option.some.injEq] at h;subst h
      obtain ⟨A,c,l,rfl,h2,h3,h4,h5,h6,h7,h8⟩:=hr.rowOf hs
      refine ⟨l,h3,?_⟩
      cases A with
      | none =>
        obtain ⟨rfl,rfl⟩:=h4 rfl
        simp only [RowOf] at h3;subst h3
        exact ⟨hk,fun _=>rfl,run_firstCells_none w sz 0 0 0,run_firstCells_none w.drew sz 0 0 0,by simp,fun _ h=>by cases h⟩
      | some ad =>
        obtain ⟨g1,g2⟩:=h7 ad rfl
        have hnews:∀ j u,l[j]?=some u→w.cell? (ad.add j)=some u:=fun j u hj=>by
          have g1:=g1 (fun e=>by subst e;simp only [RowOf] at h3;subst h3;simp at hj)
          have had:ad=⟨ad.block,ad.off,none⟩:=by cases ad;simp at g1;simp [g1]
          rw [had,add_lit'];exact (g2 j u hj).2
        exact ⟨hk,fun _=>rfl,run_firstCells_some w sz _ ad _ c l h3.length hnews,run_firstCells_some w.drew sz _ ad _ c l h3.length (by simpa using hnews),h3.length,fun u hu=>by rw [one_eq];exact h3.one u hu⟩
    · cases h
  · rename_i s
    split at h
    · rename_i h1
      subst h1
      simp only [Option.some.injEq] at h;subst h
      rw [rep_str] at hr;subst hr
      refine ⟨byteCells s,?_,?_⟩
      · unfold byteCells
        generalize s.data.toList=l
        induction l with
        | nil=>simp [RowOf]
        | cons b l ih=>simp only [List.map_cons,RowOf];exact ⟨.int .u8 b.toNat,_,rfl,rep_int.2 rfl,by simp,rfl,by simp [Value.cells,oneV],ih⟩
      · have hl:(s.data.toList.map fun b=>AV.raw (.int .u8 b.toNat)).length=s.size:=by rw [List.length_map,Array.length_toList];rfl
        rw [hl]
        exact ⟨hk,fun _=>rfl,firstCells_string s w,firstCells_string s w.drew,by rw [byteCells_length,Nat.mul_one],fun u hu=>by
          obtain ⟨_,_,rfl⟩:=List.mem_map.1 hu
          rfl⟩
    · cases h
  · cases h
theorem append_zero {t t2 ty e:TypeId} {i:TypeInfo} {A:Option Addr} {n c:Nat} {u:Value} {ys:List AV} {news:List Value} (hu:P.underlying t=some (.slice e)) (hi:P.info? e=some i)
    (hs:Src P i.size t2 u 0 news w) (hc:n≤c):(Builtin.append_ #[t,t2] ty #[.slice A n c,u]).run P w=.ok (.slice A n c) w:=by
  have hn:news=[]:=by have:=hs.newsLen;exact List.eq_nil_of_length_eq_zero (by omega)
  have hst:∀ ad:Addr,(storeCells ad news).run P w=.ok () w:=fun ad=>by rw [hn];rfl
  rcases hs.kind with ⟨e',hk⟩ | hk<;>cases A<;>simp [Builtin.append_,run_underlying hu,run_underlying hk,sizeOf,typeInfo,hi,hs.len,hc,hs.cells,hst]
theorem append_room {t t2 ty e:TypeId} {i:TypeInfo} {b n c m:Nat} {u:Value} {news:List Value} {vs:Array Value} {e':TypeId} (hu:P.underlying t=some (.slice e)) (hi:P.info? e=some i)
    (hs:Src P i.size t2 u m news w) (hroom:n+m≤c) (hb:w.heap[b]?=some (.cells vs e' (0,0))) (hv:c * i.size≤vs.size) :
    (Builtin.append_ #[t,t2] ty #[.slice (some ⟨b,0,none⟩) n c,u]).run P w=.ok (.slice (some ⟨b,0,none⟩) (n+m) c)
      (w.setRow b (vs.toList.take (n * i.size)++news++vs.toList.drop (n * i.size+news.length)).toArray):=by
  have hfit:n * i.size+0+news.length≤vs.size:=by
    rw [hs.newsLen]
    have h1:(n+m) * i.size≤c * i.size:=Nat.mul_le_mul_right _ hroom
    rw [Nat.add_mul] at h1;omega
  have hst:=run_storeCells_at P b (n * i.size) e' news 0 vs w hb hfit hs.one
  simp only [Nat.add_zero] at hst
  rcases hs.kind with ⟨e'',hk⟩ | hk<;>simp [Builtin.append_,run_underlying hu,run_underlying hk,sizeOf,typeInfo,hi,hs.len,hroom,hs.cells,Addr.add_lit,hst]
theorem Later.draw:Later Pi w Pi w.drew:=Later.draws _
theorem row_cells {xs ys:List AV} {l l':List Value} {sz b:Nat} {Pi':Prot} {w':World} (h:RowOf Pi' w' sz xs l) (h':RowOf Pi' w' sz ys l')
    (hc:∀ (j:Nat) v,(l++l')[j]?=some v→Pi' b j∧w'.cell? ⟨b,j,none⟩=some v):RepRow Pi' w' b 0 sz (xs++ys) :=
  RowOf.place b 0 (h.append h') (fun j v hj=>by simpa using hc j v hj)

/-- an append into spare room -/
theorem append_inplace (hi:Inv Pi H w) {b0 c sz:Nat} {xs ys:List AV} {l news:List Value} {vs:Array Value} {e':TypeId} (ht:H.tips b0=some (xs.length * sz))
    (k1:w.heap[b0]?=some (.cells vs e' (0,0))) (k2:vs.size=c * sz) (g3:RowOf Pi w sz xs l) (gl:∀ (j:Nat) v,l[j]?=some v→Pi b0 j∧w.cell? ⟨b0,j,none⟩=some v)
    (hnews:RowOf Pi w sz ys news) (hc:xs.length+ys.length≤c) {vs':Array Value} (hvs:vs'=(vs.toList.take (xs.length * sz)++news++vs.toList.drop (xs.length * sz+news.length)).toArray) :
    Ext H Pi w (H.setTip b0 ((xs.length+ys.length) * sz)) (addPi Pi b0 ((xs.length+ys.length) * sz)) (w.setRow b0 vs') ∧
    Inv (addPi Pi b0 ((xs.length+ys.length) * sz)) (H.setTip b0 ((xs.length+ys.length) * sz)) (w.setRow b0 vs') ∧
    Rep (addPi Pi b0 ((xs.length+ys.length) * sz)) (w.setRow b0 vs') (.sl sz false (.tip b0) (xs++ys)) (.slice (some ⟨b0,0,none⟩) (xs.length+ys.length) c):=by
  have hnl:=hnews.length
  have hll:=g3.length
  have htot:xs.length * sz+ys.length * sz≤vs.size:=by
    rw [← Nat.add_mul,k2];exact Nat.mul_le_mul_right _ hc
  have hsz:vs'.size=vs.size:=by
    rw [hvs];simp only [List.size_toArray,List.length_append,List.length_take,List.length_drop,Array.length_toList,hnl];omega
  have hget:∀ j:Nat,vs'[j]?=(vs.toList.take (xs.length * sz)++(news++vs.toList.drop (xs.length * sz+news.length)))[j]?:=fun j=>by rw [hvs];simp
  have htl:(vs.toList.take (xs.length * sz)).length=xs.length * sz:=by simp;omega
  obtain ⟨m1,m2⟩:=setRow_tip (n:=xs.length * sz) (m:=(xs.length+ys.length) * sz) (vs':=vs') hi ht k1 hsz
    (Nat.mul_le_mul_right _ (by omega)) (by rw [Nat.add_mul];exact htot)
    (fun o ho=>by
      rw [hget,List.getElem?_append_left (by omega),List.getElem?_take_of_lt ho]
      simp)
  refine ⟨m1,m2,?_⟩
  simp only [Rep]
  refine ⟨some ⟨b0,0,none⟩,c,by simp,by simpa using hc,rfl,(fun h=>by cases h),(fun h=>by cases h),?_,?_⟩
  · intro ad h
    simp only [Option.some.injEq] at h;subst h
    refine ⟨fun _=>rfl,row_cells (l:=l) (l':=news) (g3.later m1.later) (hnews.later m1.later) (fun j v hj=>?_)⟩
    have hjl:j < l.length+news.length:=by
      rcases Nat.lt_or_ge j (l++news).length with h | h
      · simpa using h
      · rw [List.getElem?_eq_none h] at hj;cases hj
    refine ⟨.inr ⟨rfl,by rw [Nat.add_mul];omega⟩,?_⟩
    by_cases hjx:j < l.length
    · rw [List.getElem?_append_left hjx] at hj
      obtain ⟨q1,q2⟩:=gl j v hj
      exact (m1.later.pi _ _ q1).2.trans q2
    · rw [List.getElem?_append_right (by omega)] at hj
      rw [cell_setRow_self k1,hget,List.getElem?_append_right (by omega),List.getElem?_append_left (by omega)]
      rw [← hj];congr 1;omega
  · intro b hb'
    simp only [Tip.tip.injEq] at hb';subst hb'
    exact ⟨rfl,_,e',(0,0),setRow_heap w _ vs _ e' _ k1,by rw [hsz,k2]⟩

section
variable (he:Ext S.H0 S.Pi0 S.w0 H Pi w) (hi:Inv Pi H w) (hr:RelSt Pi H w S.w0.heap.size S.N st a.tmps β) (hd:Marks S.w0.heap.size H w a.defers)
include hi
/-- an append that makes a new row -/
theorem append_grow {t t2 ty e:TypeId} {i:TypeInfo} {z:Value} {sz n c:Nat} {A:Option Addr} {u:Value} {xs ys:List AV} {olds news:List Value}
    (hu:P.underlying t=some (.slice e)) (hinf:P.info? e=some i) (hz:i.zero=some z) (hzs:z.cells.size=i.size) (hisz:i.size=sz)
    (hs:Src P i.size t2 u ys.length news w) (hn:n=xs.length) (hold:RowOf Pi w sz xs olds) (hnew:RowOf Pi w sz ys news)
    (holdc:(Builtin.firstCells i.size n (.slice A n c)).run P w.drew=.ok olds.toArray w.drew)
    (hg:c < n+ys.length) (hb:(n+ys.length) * i.bytes≤140737488355328) (hb1:1≤sz)
    (h63:((n+ys.length:Nat):Int)≤9223372036854775807) :
    ∃ v w' b vs Pi',(Builtin.append_ #[t,t2] ty #[.slice A n c,u]).run P w=.ok v w'∧Ext H Pi w (H.setTip b ((xs.length+ys.length) * sz)) Pi' w'∧Inv Pi' (H.setTip b ((xs.length+ys.length) * sz)) w'∧Rep Pi' w' (.sl sz false (.tip b) (xs++ys)) v∧H.fresh b∧w'.heap[b]?=some (.cells vs e (0,0)):=by
  have hrun:=run_append_grow_src w t t2 ty e i z hu hinf hz A n c olds holdc u ys.length news hs hg h63 (growslice_fits hg hb)
  generalize hcap:grownCap w (n+ys.length) c e=cap at hrun
  have hcap1:n+ys.length≤cap:=by rw [← hcap];simp [grownCap,Question.cut]
  subst hn
  have hol:=hold.length
  have hnl:=hnew.length
  have hi':=hi.draws (w.drawn+1)
  have hsz:((olds++news).toArray++Builtin.zeroCells z.cells (cap - (xs.length+ys.length))).size=cap * sz:=by
    simp only [Builtin.zeroCells,hzs,hisz,Array.size_append,List.size_toArray,List.length_append,Array.size_map,Array.size_range,hol,hnl]
    rw [← Nat.add_mul,← Nat.add_mul];congr 1;omega
  obtain ⟨g1,g2⟩:=newTip (w:=w.drew) hi' ((olds++news).toArray++Builtin.zeroCells z.cells (cap - (xs.length+ys.length))) e ((xs.length+ys.length) * sz) (by rw [hsz];exact Nat.mul_le_mul_right _ hcap1)
  have gE:=(Ext.draws (H:=H) (Pi:=Pi) (w:=w) (w.drawn+1)).trans g1
  refine ⟨_,_,w.heap.size,_,_,hrun,gE,g2,?_,hi.fresh_new,alloc_new w.drew _⟩
  simp only [Rep]
  refine ⟨some ⟨w.heap.size,0,none⟩,cap,by simp,by simpa using hcap1,rfl,(fun h=>by cases h),(fun h=>by cases h),?_,?_⟩
  · intro ad h
    simp only [Option.some.injEq] at h;subst h
    refine ⟨fun _=>rfl,row_cells (l:=olds) (l':=news) (hold.later gE.later) (hnew.later gE.later) (fun j v hj=>⟨.inr ⟨rfl,?_⟩,?_⟩)⟩
    · have:j < (olds++news).length:=by
        rcases Nat.lt_or_ge j (olds++news).length with h | h
        · exact h
        · rw [List.getElem?_eq_none h] at hj;cases hj
      rw [List.length_append,hol,hnl,← Nat.add_mul] at this
      exact this
    · have hw:w.drew.heap.size=w.heap.size:=rfl
      rw [World.cell?]
      simp only []
      rw [show w.heap.size=w.drew.heap.size from rfl,alloc_new]
      simp only [Option.isSome_none,Bool.false_eq_true,if_false]
      have:j < (olds++news).length:=by
        rcases Nat.lt_or_ge j (olds++news).length with h | h
        · exact h
        · rw [List.getElem?_eq_none h] at hj;cases hj
      rw [Array.getElem?_append_left (by simpa using this)]
      simpa using hj
  · intro b hb'
    simp only [Tip.tip.injEq] at hb';subst hb'
    exact ⟨rfl,_,e,(0,0),alloc_new w.drew _,hsz⟩
theorem append_sound {t t2 ty:TypeId} {sz by_:Nat} {x y:AV} {u v:Value} {K:Post} (hz:sliceElemZ P t=some (sz,by_)) (hx:Rep Pi w x u) (hy:Rep Pi w y v)
    (hk:(∃ e,P.underlying t2=some (.slice e)) ∨ P.underlying t2=some .string) (happ:appA sz by_ x y H K) :
    ∃ z w' r H' Pi',(Builtin.append_ #[t,t2] ty #[u,v]).run P w=.ok z w'∧Ext H Pi w H' Pi' w'∧Inv Pi' H' w'∧Rep Pi' w' r z∧K r H':=by
  obtain ⟨e,i,zv,h1,h2,h3,h4,h5,h6,h7⟩:=sliceElemZ_spec hz
  unfold appA at happ
  split at happ
  · rename_i sz' nil tip xs ys htail
    obtain ⟨news,hnews,hsrc⟩:=tail_src htail hy hk
    cases ys with
    | nil =>
      have hx':=hx
      simp only [Rep] at hx
      obtain ⟨A,c,rfl,g2,_⟩:=hx
      rw [← h5] at hsrc
      exact ⟨_,w,_,H,Pi,append_zero (ys:=[]) h1 h2 hsrc g2,Ext.refl _ _ _,hi,hx',happ⟩
    | cons y0 ys =>
      obtain ⟨hs,hsz1,hbytes,happ⟩:=happ
      obtain ⟨A,c,l,rfl,g2,g3,g4,g5,g6,g7,g8⟩:=hx.rowOf hs
      rw [← h5] at hsrc
      have h63:((xs.length+(y0::ys).length:Nat):Int)≤9223372036854775807:=by
        have:=Nat.le_trans (Nat.le_mul_of_pos_right (xs.length+(y0::ys).length) (show 0 < by_ by omega)) hbytes
        omega
      have hfc:(Builtin.firstCells i.size xs.length (.slice A xs.length c)).run P w.drew=.ok l.toArray w.drew:=by
        cases A with
        | none =>
          obtain ⟨rfl,rfl⟩:=g4 rfl
          simp only [RowOf] at g3;subst g3
          exact run_firstCells_none w.drew _ _ _ _
        | some ad =>
          obtain ⟨k1,k2⟩:=g7 ad rfl
          refine run_firstCells_some w.drew _ _ _ _ _ l (by rw [g3.length,h5]) (fun j v hj=>?_)
          have k1:=k1 (fun e=>by subst e;simp only [RowOf] at g3;subst g3;simp at hj)
          have had:ad=⟨ad.block,ad.off,none⟩:=by cases ad;simp at k1;simp [k1]
          rw [had,add_lit']
          exact (k2 j v hj).2
      have hgrow:c < xs.length+(y0::ys).length→(∀ b,H.fresh b→K (.sl sz false (.tip b) (xs++y0::ys)) (H.setTip b ((xs.length+(y0::ys).length) * sz))) →
          ∃ z w' r H' Pi',(Builtin.append_ #[t,t2] ty #[.slice A xs.length c,v]).run P w=.ok z w'∧Ext H Pi w H' Pi' w'∧Inv Pi' H' w'∧Rep Pi' w' r z∧K r H':=fun hc hk'=>by
        obtain ⟨z,w',b,_,Pi',q1,q2,q3,q4,q5,_⟩:=append_grow hi h1 h2 h3 (by omega) h5 hsrc rfl g3 hnews hfc hc (by rw [h6];exact hbytes) hsz1 h63
        exact ⟨z,w',_,_,Pi',q1,q2,q3,q4,hk' b q5⟩
      cases tip with
      | any=>exact happ.elim
      | full =>
        have:=g6 rfl
        exact hgrow (by simp;omega) happ
      | tip b0 =>
        obtain ⟨ht,hk'⟩:=happ
        by_cases hc:c < xs.length+(y0::ys).length
        · exact hgrow hc (fun b hb=>hk' b (.inr hb))
        · obtain ⟨hA,vs,e',fr,k1,k2⟩:=g8 b0 rfl
          subst hA
          obtain ⟨_,⟨vs',e'',k3,k4⟩,k5⟩:=hi.tips b0 _ ht
          rw [k1] at k3
          simp only [Option.some.injEq,Obj.cells.injEq] at k3
          obtain ⟨rfl,rfl,rfl⟩:=k3
          have hs':sz'=sz:=by
            rcases hs with hs | hs
            · rw [hs] at g5;cases g5
            · exact hs
          subst hs'
          have hrun:=append_room (ty:=ty) (n:=xs.length) (c:=c) (m:=(y0::ys).length) h1 h2 hsrc (by omega) k1 (by rw [h5,k2];exact Nat.le_refl _)
          rw [h5] at hrun
          obtain ⟨m1,m2,m3⟩:=append_inplace (ys:=y0::ys) hi ht k1 k2 g3 (fun j v hj=>by simpa using (g7 _ rfl).2 j v hj) hnews (by omega) rfl
          exact ⟨_,_,_,_,_,hrun,m1,m2,m3,hk' b0 (.inl rfl)⟩
  · exact happ.elim
theorem append_soundB {t t2 ty e:TypeId} {x y:AV} {u v:Value} {K:Post} (hbe:byteElem P t=some e) (hx:Rep Pi w x u) (hy:Rep Pi w y v)
    (hk:(∃ e,P.underlying t2=some (.slice e)) ∨ P.underlying t2=some .string) (happ:appB e x y H K) :
    ∃ z w' r H' Pi',(Builtin.append_ #[t,t2] ty #[u,v]).run P w=.ok z w'∧Ext H Pi w H' Pi' w'∧Inv Pi' H' w'∧Rep Pi' w' r z∧K r H':=by
  have hz:sliceElemZ P t=some (1,1)∧P.underlying t=some (.slice e):=by
    unfold byteElem at hbe
    split at hbe
    · rename_i e' q1 q2
      split at hbe
      · simp only [Option.some.injEq] at hbe;subst hbe;exact ⟨q2,q1⟩
      · cases hbe
    · cases hbe
  obtain ⟨e',i,zv,h1,h2,h3,h4,h5,h6,h7⟩:=sliceElemZ_spec hz.1
  have hee:e'=e:=by
    have:=h1.symm.trans hz.2
    simpa using this
  subst hee
  unfold appB at happ
  split at happ
  · rename_i sz' nil tip xs ys htail
    obtain ⟨news,hnews,hsrc⟩:=tail_src htail hy hk
    cases ys with
    | nil =>
      have hx':=hx
      simp only [Rep] at hx
      obtain ⟨A,c,rfl,g2,_⟩:=hx
      rw [← h5] at hsrc
      exact ⟨_,w,_,H,Pi,append_zero (ys:=[]) h1 h2 hsrc g2,Ext.refl _ _ _,hi,hx',happ⟩
    | cons y0 ys =>
      obtain ⟨hs,hbytes,hfr,htp⟩:=happ
      obtain ⟨A,c,l,rfl,g2,g3,g4,g5,g6,g7,g8⟩:=hx.rowOf hs
      rw [← h5] at hsrc
      have h63:((xs.length+(y0::ys).length:Nat):Int)≤9223372036854775807:=by omega
      have hfc:(Builtin.firstCells i.size xs.length (.slice A xs.length c)).run P w.drew=.ok l.toArray w.drew:=by
        cases A with
        | none =>
          obtain ⟨rfl,rfl⟩:=g4 rfl
          simp only [RowOf] at g3;subst g3
          exact run_firstCells_none w.drew _ _ _ _
        | some ad =>
          obtain ⟨k1,k2⟩:=g7 ad rfl
          refine run_firstCells_some w.drew _ _ _ _ _ l (by rw [g3.length,h5]) (fun j v hj=>?_)
          have k1:=k1 (fun e=>by subst e;simp only [RowOf] at g3;subst g3;simp at hj)
          have had:ad=⟨ad.block,ad.off,none⟩:=by cases ad;simp at k1;simp [k1]
          rw [had,add_lit']
          exact (k2 j v hj).2
      have hgrow:c < xs.length+(y0::ys).length →
          ∃ z w' r H' Pi',(Builtin.append_ #[t,t2] ty #[.slice A xs.length c,v]).run P w=.ok z w'∧Ext H Pi w H' Pi' w'∧Inv Pi' H' w'∧Rep Pi' w' r z∧K r H':=fun hc=>by
        obtain ⟨z,w',b,vs,Pi',q1,q2,q3,q4,q5,q6⟩:=append_grow hi h1 h2 h3 (by omega) h5 hsrc rfl g3 hnews hfc hc (by rw [h6];simpa using hbytes) (by omega) h63
        rw [Nat.mul_one] at q2 q3
        exact ⟨z,w',_,_,Pi',q1,q2.setTy b e',q3.setTy q6,q4,hfr b q5⟩
      cases tip with
      | any=>exact htp.elim
      | full =>
        have:=g6 rfl
        exact hgrow (by simp;omega)
      | tip b0 =>
        obtain ⟨ht,hk'⟩:=htp
        by_cases hc:c < xs.length+(y0::ys).length
        · exact hgrow hc
        · obtain ⟨hA,vs,e'',fr,k1,k2⟩:=g8 b0 rfl
          subst hA
          have ht':H.tips b0=some (xs.length * 1):=by rw [Nat.mul_one];exact ht
          obtain ⟨_,⟨vs',e3,k3,k4⟩,k5⟩:=hi.tips b0 _ ht
          rw [k1] at k3
          simp only [Option.some.injEq,Obj.cells.injEq] at k3
          obtain ⟨rfl,rfl,rfl⟩:=k3
          have hs':sz'=1:=by
            rcases hs with hs | hs
            · rw [hs] at g5;cases g5
            · exact hs
          subst hs'
          have hrun:=append_room (ty:=ty) (n:=xs.length) (c:=c) (m:=(y0::ys).length) h1 h2 hsrc (by omega) k1 (by rw [h5,k2];exact Nat.le_refl _)
          rw [h5] at hrun
          obtain ⟨m1,m2,m3⟩:=append_inplace (ys:=y0::ys) hi ht' k1 k2 g3 (fun j v hj=>by simpa using (g7 _ rfl).2 j v hj) hnews (by omega) rfl
          rw [Nat.mul_one ((xs.length+(y0::ys).length))] at m1 m2 m3
          exact ⟨_,_,_,_,_,hrun,m1,m2,m3,hk'⟩
  · exact happ.elim
end
end ops
end Go.Hx

