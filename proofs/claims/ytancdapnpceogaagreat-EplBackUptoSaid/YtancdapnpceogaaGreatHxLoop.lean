/- Loops over functions, and scopes. Own work (session 1). -/
import Derived.Test.YtancdapnpceogaaGreatHxDraw
import Derived.RangeFuncRecord
import Derived.RangeFuncNested
import Derived.Scope
namespace Go.Hx

section scope
variable {P:Program} {F:Fence} {n:Nat} {Q:Exit→Act→World→Prop} {a:Act} {w:World} {b:Frame} {k:List Item} {cs:List Frame}
theorem stepR_scope {c:Code}:step P (lone (b.atR a (.code (.scope c)::k)) cs w)=.next (lone (b.atR a (.code c::.inScope c::k)) cs w) :=
  step_lone_go (by simp [stepG,stepG.exec,Frame.atR])
theorem stepR_inScope {c:Code}:step P (lone (b.atR a (.inScope c::k)) cs w)=.next (lone (b.atR a k) cs w) :=
  step_lone_go (by simp [stepG,stepG.exec,Frame.atR])
theorem wpIn_scope {c:Code} (hx:c.wpIn F n P (Exit.noGoto Q) a w):(Code.scope c).wpIn F n P Q a w:=by
  intro b k cs hro hb hr
  have h0:(lone (b.atR a (.code (.scope c)::k)) cs w).fenced P F:=fenced_calm hb hr rfl
  obtain ⟨e,a₁,w₁,hq,harr⟩:=hx b (.inScope c::k) cs hro hb hr
  cases e with
  | normal=>exact ⟨.normal,a₁,w₁,hq,.of_steps (.one h0 stepR_scope) (StepsIn.trans harr (.one (fenced_calm hb hr rfl) stepR_inScope))⟩
  | exit id=>exact ⟨.exit id,a₁,w₁,hq,.of_steps (.one h0 stepR_scope) ⟨fun k' hk=>harr.1 k' (by simp [exitTo,hk]),fun hr hk=>harr.2 hr (by simp [exitTo,hk])⟩⟩
  | goto l=>exact hq.elim
  | ret=>exact ⟨.ret,a₁,w₁,hq,.of_steps (.one h0 stepR_scope) harr⟩
  | panic ch=>exact ⟨.panic ch,a₁,w₁,hq,.of_steps (.one h0 stepR_scope) harr⟩
  | outgrown=>exact ⟨.outgrown,a₁,w₁,hq,.of_steps (.one h0 stepR_scope) harr⟩
end scope

section put
variable {Pi:Prot} {H:Heap} {w:World}
/-- a block that the abstract heap does not know, and that is no row, turns -/
theorem putObj_free (hi:Inv Pi H w) {b:Nat} {o:Obj} (hH:H.fresh b) (hb:∀ vs e fr,w.heap[b]? ≠ some (.cells vs e fr)):Later Pi w Pi (w.putObj b o)∧Inv Pi H (w.putObj b o):=by
  have hl:=Later.putObj (o:=o) hi hb
  exact ⟨hl,hi.of_same hl (fun x hx=>⟨World.putObj_heap_other (fun e=>hx (e ▸ hH)),fun _ h=>h⟩) rfl (pi_putObj hi hb)⟩
end put

section loops
variable {P:Program} {C:CallRel} {S:Start} {h:Hint} {Pi:Prot} {H:Heap} {w:World} {st:St} {a:Act} {β:Nat→Nat} {B N:Nat}
theorem RelSt.free {B0 N:Nat} {tmps:Array Value} {w':World} (hr:RelSt Pi H w B0 N st tmps β) (hl:Later Pi w Pi w') (hb:∀ t,(get st t).isBox=true→w'.heap[β t]?=w.heap[β t]?):RelSt Pi H w' B0 N st tmps β :=
  ⟨hr.size,fun t=>(hr.slot t).later hl (fun h=>⟨hb t h,fun _ h=>h⟩),hr.box,hr.inj,hr.loc⟩
theorem RelSt.box_cells {B0 N:Nat} {tmps:Array Value} (hr:RelSt Pi H w B0 N st tmps β) {t:Nat} (ht:(get st t).isBox=true):∃ vs e fr,w.heap[β t]?=some (.cells vs e fr):=by
  have hs:=hr.slot t
  cases hg:get st t with
  | lbox cs=>rw [hg] at hs;obtain ⟨_,vs,e,h3,_⟩:=hs;exact ⟨vs,e,_,h3⟩
  | _=>rw [hg] at ht;cases ht
theorem LoopAt.put {b:Nat} {L:LoopInfo} {s s':LSt} {r:Loop} (hi:Inv Pi H w) (hw:w.heap[b]?=some (.loop r)) (hL:LoopAt Pi w b L s) (st:LoopState) (pe:Option Code) (h1:st=(pendOf s').1)
    (h2:∀ j,s'=.left j→pe=(pendOf s').2) (h3:s'=.ready→pe=none):LoopAt Pi (w.putObj b (.loop { r with state:=st,pending:=pe })) b L s':=by
  obtain ⟨r',g1,g2,g3,g4,g5,g6,g7,g8,g9⟩:=hL
  rw [hw] at g1;simp only [Option.some.injEq,Obj.loop.injEq] at g1;subst g1
  have hl:=Later.putObj (Pi:=Pi) (o:=.loop { r with state:=st,pending:=pe }) hi (b:=b) (by rw [hw];intro _ _ _ h;cases h)
  refine ⟨_,World.putObj_heap_same (Array.getElem?_eq_some_iff.1 hw).1,g2,g3,g4,g5,h1,h2,h3,fun t=>⟨(g9 t).1,(g9 t).2.later hl (fun hb=>by rw [← (g9 t).1,snap_noBox] at hb;cases hb)⟩⟩
/-- a loop's record turns -/
theorem Good.putLoop (hg:Good S st H a w) {l:Nat} {L:LoopInfo} {s s':LSt} {r:Loop} (hH:H.objs l=some (.loop L s)) (hw:w.heap[l]?=some (.loop r)) (t:LoopState) (pe:Option Code) (h1:t=(pendOf s').1)
    (h2:∀ j,s'=.left j→pe=(pendOf s').2) (h3:s'=.ready→pe=none):Good S st (H.setObj l (.loop L s')) a (w.putObj l (.loop { r with state:=t,pending:=pe })):=by
  obtain ⟨Pi,β,he,hi,hr,hd⟩:=hg
  obtain ⟨k1,k2⟩:=putObj_obj hi hH (by rw [hw];intro _ _ _ h;cases h) (x':=.loop L s') (LoopAt.put hi hw (hi.objs l _ hH) t pe h1 h2 h3)
  exact ⟨Pi,β,he.trans k1,k2,hr.step k1,hd.step k1⟩
theorem Good.loopAt (hg:Good S st H a w) {l:Nat} {L:LoopInfo} {s:LSt} (hH:H.objs l=some (.loop L s)):∃ r,w.heap[l]?=some (.loop r)∧r.state=(pendOf s).1∧(∀ j,s=.left j→r.pending=(pendOf s).2)∧(s=.ready→r.pending=none):=by
  obtain ⟨Pi,β,he,hi,hr,hd⟩:=hg
  obtain ⟨r,g1,g2,g3,g4,g5,g6,g7,g8,g9⟩:=hi.objs l _ hH
  exact ⟨r,g1,g6,g7,g8⟩
theorem RelSt.params {B0 N:Nat}:∀ (ps:List Nat) (args:List AV) (vs:List Value) (st:St) (tmps:Array Value),RelSt Pi H w B0 N st tmps β→RepL Pi w args vs→args.length=ps.length→(∀ t ∈ ps,t < N) →
    (∀ t,(get st t).isBox=false)→RelSt Pi H w B0 N (putPs ps args st) ((ps.zip vs).foldl (fun tmps (x:Nat × Value)=>tmps.setIfInBounds x.1 x.2) tmps) β
  | [],[],vs,st,tmps,hr,hv,hl,hN,hb=>hr
  | [],_::_,vs,st,tmps,hr,hv,hl,hN,hb=>by simp at hl
  | _::_,[],vs,st,tmps,hr,hv,hl,hN,hb=>by simp at hl
  | t::ps,x::args,vs,st,tmps,hr,hv,hl,hN,hb=>by
    simp only [RepL] at hv
    obtain ⟨v,r,rfl,h1,h2⟩:=hv
    simp only [putPs,List.zip_cons_cons,List.foldl_cons]
    refine RelSt.params ps args r _ _ (hr.put (s:=.val x) (hN t (by simp)) (hb t) rfl (fun _ _ h=>by cases h) h1) h2 (by simpa using hl) (fun u hu=>hN u (by simp [hu])) (fun u=>?_)
    rw [get_cons];split
    · rfl
    · exact hb u
/-- the statement's snapshot -/
theorem get_snap (keep:List Nat) (st:St) (t:Nat):get (snap keep st) t=if t ∈ keep then (get st t).snap else .undef:=by
  unfold snap
  induction keep with
  | nil=>rfl
  | cons k r ih =>
    simp only [List.map_cons,get_cons,ih,List.mem_cons]
    by_cases hk:k=t
    · subst hk;simp
    · have:t ≠ k:=fun e=>hk e.symm
      simp [hk,this]
theorem snap_snap (s:Slot):s.snap.snap=s.snap:=by cases s<;>rfl
theorem RepS.snap {β':Nat→Nat} {t t':Nat} {s:Slot} {v:Value} (hs:RepS Pi w β t s v):RepS Pi w β' t' s.snap v:=by
  cases s<;>first | trivial | exact hs
theorem snap_slot (hr:RelSt Pi H w B N st a.tmps β) (keep:List Nat) (t:Nat):(get (snap keep st) t).snap=get (snap keep st) t∧RepS Pi w id t (get (snap keep st) t) (a.tmps.getD t undef):=by
  rw [get_snap]
  split
  · exact ⟨snap_snap _,(hr.slot t).snap⟩
  · exact ⟨rfl,trivial⟩
theorem Marks.push {B0:Nat} {ds:List Deferred} (hi:Inv Pi H w) (hd:Marks B0 H w ds) (hB:B0≤w.heap.size):Marks B0 H (w.alloc (.deferred (some []))) ([{ target:=.collected w.heap.size,args:=#[] }]++ds):=by
  obtain ⟨rs,m1,m2,m3⟩:=hd
  refine ⟨w.heap.size::rs,by simp [m1],List.nodup_cons.2 ⟨fun hm=>?_,m2⟩,fun q hq=>?_⟩
  · have:=(Array.getElem?_eq_some_iff.1 (m3 _ hm).2.2).1
    omega
  · cases hq with
    | head=>exact ⟨hB,hi.fresh_new,alloc_new w _⟩
    | tail _ hq =>
      obtain ⟨k1,k2,k3⟩:=m3 q hq
      exact ⟨k1,k2,(alloc_old w _ (Array.getElem?_eq_some_iff.1 k3).1).trans k3⟩
/-- a frame on its way out: the marks are taken -/
theorem leaves_marks {fn:Func} {tmps:Array Value} {R:Ending→World→Prop} {B0 N:Nat} {Pi0:Prot} {H0:Heap} {w0:World} (hB:B0=w0.heap.size)
    (hR:∀ w,Ext H0 Pi0 w0 H Pi w→Inv Pi H w→RelSt Pi H w B0 N st tmps β→∃ v,(results fn tmps).run P w=.ok v w∧R (.returned v) w) :
    ∀ (rs:List Nat) (ds:List Deferred) (w:World),ds.map (·.target)=rs.map Target.collected→rs.Nodup→(∀ r ∈ rs,B0≤r∧H.fresh r∧w.heap[r]?=some (.deferred (some []))) →
      Ext H0 Pi0 w0 H Pi w→Inv Pi H w→RelSt Pi H w B0 N st tmps β→LeavesInM Fence.wide 0 P fn tmps R ds .returning w
  | [],[],w,_,_,_,he,hi,hr=>hR w he hi hr
  | [],_::_,w,h,_,_,_,_,_=>by simp at h
  | _::_,[],w,h,_,_,_,_,_=>by simp at h
  | r::rs,d::ds,w,h,hn,hm,he,hi,hr=>by
    simp only [List.map_cons,List.cons.injEq] at h
    obtain ⟨k1,k2,k3⟩:=hm r (by simp)
    have hnc:∀ vs e fr,w.heap[r]? ≠ some (.cells vs e fr):=by rw [k3];intro _ _ _ h;cases h
    obtain ⟨hl,hi'⟩:=putObj_free (o:=.deferred none) hi k2 hnc
    refine ⟨by simp,.inl ⟨r,_,h.1,run_takeDeferred k3,?_⟩⟩
    refine leaves_marks hB hR rs ds _ h.2 (List.nodup_cons.1 hn).2 (fun q hq=>?_) ?_ hi' ?_
    · obtain ⟨q1,q2,q3⟩:=hm q (by simp [hq])
      refine ⟨q1,q2,(World.putObj_heap_other (fun e=>?_)).trans q3⟩
      subst e;exact (List.nodup_cons.1 hn).1 hq
    · exact ⟨by simpa using he.size,he.os,he.tape,he.output,fun x hx h1 h2=>(World.putObj_heap_other (by omega)).trans (he.keep x hx h1 h2),he.later.trans hl,he.dom,he.newPi⟩
    · refine hr.free hl (fun t ht=>World.putObj_heap_other (fun e=>?_))
      obtain ⟨vs,e',fr,hc⟩:=hr.box_cells ht
      rw [e] at hc;exact hnc _ _ _ hc
end loops
end Go.Hx

