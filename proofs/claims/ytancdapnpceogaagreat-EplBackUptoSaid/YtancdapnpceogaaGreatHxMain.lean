/- From the abstract machine to calls. Own work (session 1). -/
import Derived.Test.YtancdapnpceogaaGreatHxLoop
namespace Go.Hx

section sound
variable {P:Program} {C:CallRel} {S:Start} {h:Hint}
/-- what holds where code is left -/
def QQ (S:Start) (n:St→Heap→Prop) (x:Nat→St→Heap→Prop) (r:St→Heap→Prop):Exit→Act→World→Prop
  | .normal,a,w=>∃ st H,Good S st H a w∧n st H
  | .exit id,a,w=>∃ st H,Good S st H a w∧x id st H
  | .ret,a,w=>∃ st H,Good S st H a w∧r st H
  | _,_,_=>False
theorem Good.clr {st:St} {H:Heap} {a:Act} {w:World} (hg:Good S st H a w) (h:Hint) (i:Nat):Good S (Hx.clr h i st) H a w :=
  let ⟨Pi,β,he,hi,hr,hd⟩:=hg
  ⟨Pi,β,he,hi,hr.clr h i,hd⟩
/-- the rounds of a loop, from within -/
def InLoop (F:Fence) (n:Nat) (P:Program) (c:Code) (Q:Exit→Act→World→Prop) (a:Act) (w:World):Prop :=
  ∀ (b:Frame) (k:List Item) (cs:List Frame),b.roundOf=F.round→F.fn b.fn→F.room (cs.length+1+n) →
    ∃ e a' w',Q e a' w'∧ArrivesIn (Machine.fenced P F) P (lone (b.atR a (.code c::.inLoop c::k)) cs w) b k cs e a' w'
theorem InLoop.round {F:Fence} {n:Nat} {c:Code} {Q:Exit→Act→World→Prop} {a:Act} {w:World} (hx:c.wpIn F n P (Exit.then (InLoop F n P c Q) Q) a w):InLoop F n P c Q a w:=by
  intro b k cs hro hb hr
  obtain ⟨e,a₁,w₁,hq,harr⟩:=hx b (.inLoop c::k) cs hro hb hr
  cases e with
  | normal =>
    obtain ⟨e₂,a₂,w₂,hq₂,harr₂⟩:=hq b k cs hro hb hr
    exact ⟨e₂,a₂,w₂,hq₂,.of_steps (StepsIn.trans harr (.one (fenced_calm hb hr rfl) stepR_inLoop)) harr₂⟩
  | exit id=>exact ⟨_,a₁,w₁,hq,.pass (x:=.inLoop c) rfl (fun _ _=>.inl (by simp)) harr⟩
  | goto l=>exact ⟨_,a₁,w₁,hq,.pass (x:=.inLoop c) rfl (fun _ _=>.inl (by simp)) harr⟩
  | ret=>exact ⟨_,a₁,w₁,hq,.pass (x:=.inLoop c) rfl (fun _ _=>.inl (by simp)) harr⟩
  | panic ch=>exact ⟨_,a₁,w₁,hq,.pass (x:=.inLoop c) rfl (fun _ _=>.inl (by simp)) harr⟩
  | outgrown=>exact ⟨_,a₁,w₁,hq,.pass (x:=.inLoop c) rfl (fun _ _=>.inl (by simp)) harr⟩
theorem InLoop.loop {F:Fence} {n:Nat} {c:Code} {Q:Exit→Act→World→Prop} {a:Act} {w:World} (hx:InLoop F n P c Q a w):(Code.loop c).wpIn F n P Q a w:=by
  intro b k cs hro hb hr
  obtain ⟨e,a',w',hq,harr⟩:=hx b k cs hro hb hr
  exact ⟨e,a',w',hq,.of_steps (.one (fenced_calm hb hr rfl) stepR_loop) harr⟩
theorem callF_run {C:CallRel} {ro:Option Nat} {g:AV} {f:Operand} {l:Nat} {H:Heap} {K:Post} {Pi:Prot} {w:World} {a:Act} (pk:PK P) (hC:∀ c args H K,C c args H K→SoundC P c args H K) (hi:Inv Pi H w) (rf:Rep Pi w g (a.eval f))
    (hx:callF C g [.fn (.yield l) [] []] H K):∃ d n args,(resolve a.eval (rangeCall f l) 0).run P w=.ok d w∧(invoke d.target d.args).run P w=.ok (.enter n args) w∧CallsIn (Fro ro) 0 P n args w (Told Pi H w K):=by
  unfold callF at hx
  split at hx
  · rename_i n first cap
    simp only [Rep] at rf
    obtain ⟨x,y,ef,r1,r2⟩:=rf
    obtain ⟨⟨fn,cd,hfn,hbody⟩,hS⟩:=hC _ _ _ _ hx
    refine ⟨⟨.fn (.func n) y,x++#[.func (.yield l) #[] #[]]⟩,n,x++#[.func (.yield l) #[] #[]]++y,?_,?_,?_⟩
    · simp only [resolve,rangeCall,ef];simp [Deferred.ofValue,Act.eval]
    · simp [invoke,callFunc_run pk hfn hbody]
    · exact hS Pi w _ hi (by
        simp only [Array.toList_append]
        rw [List.append_assoc]
        exact RepL.append _ _ _ _ r1 (RepL.append _ _ _ _ (by simp [RepL,Rep]) r2))
  · exact hx.elim
theorem W_sound {ro:Option Nat} (pk:PK P) (hCm:CMono C C) (hC:∀ c args H K,C c args H K→SoundC P c args H K):∀ (c:Code) (i:Nat) (n:St→Heap→Prop) (x:Nat→St→Heap→Prop) (r:St→Heap→Prop) (st:St) (H:Heap) (a:Act) (w:World),
    W P C S.N h ro i c n x r st H→Good S st H a w→c.wpIn (Fro ro) 0 P (QQ S n x r) a w
  | .skip,i,n,x,r,st,H,a,w,hx,hg=>wpIn_skip ⟨st,H,hg,hx⟩
  | .region id ops d,i,n,x,r,st,H,a,w,hx,hg=>by
    cases d with
    | true =>
      simp only [W] at hx
      split at hx
      · split at hx
        · rename_i hl
          exact Wdraw_sound pk hCm hC (fun st H a w hg hk=>⟨st,H,hg,hk⟩) (Nat.le_of_ble_eq_true hl) hx hg
        · exact hx.elim
      · exact hx.elim
    | false=>exact wpIn_region (Wops_sound pk hC (fun st H a w hg hk=>⟨st,H,hg,hk⟩) _ _ _ (range_ops ops) st H a w hx hg)
  | .seq c d,i,n,x,r,st,H,a,w,hx,hg=>by
    refine wpIn_seq (wpIn_mono (W_sound pk hCm hC c _ _ _ _ _ _ _ _ hx hg) (fun e a w hq=>?_))
    cases e with
    | normal =>
      obtain ⟨st',H',g,h'⟩:=hq
      rw [joinK_eq] at h'
      exact W_sound pk hCm hC d _ _ _ _ _ _ _ _ h' (g.clr h _)
    | exit id=>exact hq
    | ret=>exact hq
    | goto l=>exact hq
    | panic c=>exact hq
    | outgrown=>exact hq
  | .cond c d e,i,n,x,r,st,H,a,w,hx,hg=>by
    have hg':=hg
    obtain ⟨Pi,β,he,hi,hr,hd⟩:=hg
    obtain ⟨v,h1,h2⟩:=evV_rep hr hx
    rcases cndA_spec h1 with ⟨rfl,h1⟩ | ⟨rfl,h1⟩
    · exact wpIn_cond_true (rep_bool.1 h2) (W_sound pk hCm hC d _ _ _ _ _ _ _ _ h1 hg')
    · exact wpIn_cond_false (rep_bool.1 h2) (W_sound pk hCm hC e _ _ _ _ _ _ _ _ h1 hg')
  | .block id c,i,n,x,r,st,H,a,w,hx,hg=>by
    refine wpIn_block (wpIn_mono (W_sound pk hCm hC c _ _ _ _ _ _ _ _ hx hg) (fun e a w hq=>?_))
    cases e with
    | normal=>exact hq
    | exit j =>
      obtain ⟨st',H',g,h'⟩:=hq
      simp only [Exit.inBlock]
      split
      · rename_i hji;subst hji
        have:Nat.beq j j=true:=Nat.beq_refl j
        simp only [this] at h'
        exact ⟨st',H',g,h'⟩
      · rename_i hji
        have:Nat.beq j id=false:=by
          cases hb:Nat.beq j id with
          | false=>rfl
          | true=>exact absurd (Nat.eq_of_beq_eq_true hb) hji
        simp only [this] at h'
        exact ⟨st',H',g,h'⟩
    | ret=>exact hq
    | goto l=>exact hq
    | panic c=>exact hq
    | outgrown=>exact hq
  | .loop c,i,n,x,r,st,H,a,w,hx,hg=>by
    refine InLoop.loop ?_
    have:=hx (fun st H=>∀ a w,Good S st H a w→InLoop (Fro ro) 0 P c (QQ S n x r) a w) (fun st H h1 a w hg=>by
      refine InLoop.round (wpIn_mono (W_sound pk hCm hC c _ _ _ _ _ _ _ _ h1 hg) (fun e a w hq=>?_))
      cases e with
      | normal=>obtain ⟨st',H',g,h'⟩:=hq;exact h' a w (g.clr h _)
      | exit id=>exact hq
      | ret=>exact hq
      | goto l=>exact hq
      | panic c=>exact hq
      | outgrown=>exact hq)
    exact this a w (hg.clr h _)
  | .exit id,i,n,x,r,st,H,a,w,hx,hg=>wpIn_exit ⟨st,H,hg,hx⟩
  | .ret,i,n,x,r,st,H,a,w,hx,hg=>wpIn_ret ⟨st,H,hg,hx⟩
  | .rangeFunc f ps asg body,i,n,x,r,st,H,a,w,hx,hg=>by
    obtain ⟨Pi,β,he,hi,hr,hd⟩:=hg
    simp only [W] at hx
    obtain ⟨g,hx,rg⟩:=evV_rep hr hx
    split at hx
    · rename_i keep hkeep
      obtain ⟨har,hx⟩:=hx
      refine wpIn_rangeFunc (fun fn _=>?_)
      have main:∀ (ds:List Deferred) (w1:World) (blk:Nat),Ext H Pi w H Pi w1→Inv Pi H w1→Marks S.w0.heap.size H w1 ds →
          ∃ (d:Deferred) (w₁':World) (n':FuncId) (args:Array Value) (w₂:World),
            (resolve a.eval (rangeCall f w1.heap.size) 0).run P (w1.alloc (.loop { state:=.ready,pending:=none,fn:=fn,tmps:=a.tmps,params:=ps,assign:=asg,body:=body,defers:=blk }))=.ok d w₁' ∧
            (∀ f',Target.leads P w₁' d.target d.args=some f'→(Fro ro).fn f')∧(invoke d.target d.args).run P w₁'=.ok (.enter n' args) w₂∧((Fro ro).depth.isSome=true→1≤0) ∧
            CallsIn (Fro ro) (0 - 1) P n' args w₂ (rangePost (Fro ro) 0 P w1.heap.size (QQ S n x r) { a with defers:=ds }):=by
        intro ds w1 blk e1 i1 hm
        have hr1:=hr.step e1
        let rec0:Loop:={ state:=.ready,pending:=none,fn:=fn,tmps:=a.tmps,params:=ps,assign:=asg,body:=body,defers:=blk }
        let L:LoopInfo:=⟨h,S.N,i,ps.toList,asg,body,snap keep st⟩
        have hl2:=Later.alloc i1 (.loop rec0)
        have hat:ObjAt Pi (w1.alloc (.loop rec0)) w1.heap.size (.loop L .ready):=by
          refine ⟨rec0,alloc_new w1 _,rfl,rfl,rfl,hr.size,rfl,fun _ h=>(by cases h),fun _=>rfl,fun t=>?_⟩
          obtain ⟨k1,k2⟩:=snap_slot hr1 keep t
          exact ⟨k1,k2.later hl2 (fun hb=>by rw [← k1,snap_noBox] at hb;cases hb)⟩
        have e2:=Ext.newObj i1 (.loop rec0) (.loop L .ready)
        have i2:=i1.newObj (.loop rec0) (.loop L .ready) hat
        have hcall:=hx w1.heap.size i1.fresh_new
        obtain ⟨d,n',args,k1,k2,k3⟩:=callF_run (ro:=ro) (f:=f) pk hC i2 (rg.later (e1.later.trans e2.later)) hcall
        refine ⟨d,_,n',args,_,k1,fun _ _=>trivial,k2,fun h=>by simp [Fro,Fence.wide] at h,?_⟩
        refine CallsIn.mono k3 (fun e w' hq=>?_)
        obtain ⟨v,rv,H',Pi',rfl,h1,h2,h3,h4⟩:=hq
        have hg3:Good S st H' { a with defers:=ds } w':=⟨Pi',β,((he.trans e1).trans e2).trans h1,h2,(hr1.step e2).step h1,(hm.step e2).step h1⟩
        unfold overA at h4
        split at h4
        · rename_i L' hl
          obtain ⟨r',g1,g2,g3,g4⟩:=hg3.loopAt hl
          refine ⟨_,_,run_endLoop g1 (by rw [g2];simp [pendOf]),?_⟩
          rw [g4 rfl]
          exact ⟨st,_,hg3.putLoop (s':=.over) hl g1 _ _ rfl (fun _ h=>by cases h) (fun h=>by cases h),h4⟩
        · rename_i L' id hl
          obtain ⟨r',g1,g2,g3,g4⟩:=hg3.loopAt hl
          refine ⟨_,_,run_endLoop g1 (by rw [g2];simp [pendOf]),?_⟩
          rw [g3 _ rfl]
          exact wpIn_exit ⟨st,_,hg3.putLoop (s':=.over) hl g1 _ _ rfl (fun _ h=>by cases h) (fun h=>by cases h),h4⟩
        · rename_i L' hl
          obtain ⟨r',g1,g2,g3,g4⟩:=hg3.loopAt hl
          refine ⟨_,_,run_endLoop g1 (by rw [g2];simp [pendOf]),?_⟩
          rw [g3 _ rfl]
          exact wpIn_ret ⟨st,_,hg3.putLoop (s':=.over) hl g1 _ _ rfl (fun _ h=>by cases h) (fun h=>by cases h),h4⟩
        · exact h4.elim
      cases ro with
      | none =>
        have e1:=Ext.alloc (H:=H) hi (.deferred (some []))
        have i1:=hi.alloc (.deferred (some []))
        have hm:=Marks.push hi hd he.size
        obtain ⟨d,w₁',n',args,w₂,k1,k2,k3,k4,k5⟩:=main _ _ w.heap.size e1 i1 hm
        exact ⟨_,_,_,d,w₁',n',args,w₂,run_enterLoop_outer _ _ _ _ _,by simpa using k1,k2,k3,k4,by simpa using k5⟩
      | some l0 =>
        simp only [aroundA] at har
        split at har
        · rename_i L0 s0 hl0
          obtain ⟨r0,g1,_⟩:=hi.objs l0 _ hl0
          obtain ⟨d,w₁',n',args,w₂,k1,k2,k3,k4,k5⟩:=main a.defers w r0.defers (Ext.refl _ _ _) hi hd
          exact ⟨_,_,_,d,w₁',n',args,w₂,run_enterLoop_inner g1 _ _ _ _ _,k1,k2,k3,k4,by simpa using k5⟩
        · exact har.elim
    · exact hx.elim
  | .scope c,i,n,x,r,st,H,a,w,hx,hg=>by
    refine wpIn_scope (wpIn_mono (W_sound pk hCm hC c _ _ _ _ _ _ _ _ hx hg) (fun e a w hq=>?_))
    cases e with
    | goto l=>exact hq
    | _=>exact hq
  | .label _,i,n,x,r,st,H,a,w,hx,hg=>wpIn_label ⟨st,H,hg,hx⟩
  | .goto _,i,n,x,r,st,H,a,w,hx,hg=>hx.elim
  | .refuse _,i,n,x,r,st,H,a,w,hx,hg=>hx.elim
def resSem (tmps:Array Value):ResultVar→Sem Value
  | .tmp t=>pure (tmps.getD t undef)
  | .cell b t=>do loadVar t (← asAddr (tmps.getD b undef))
theorem resVals_run {Pi:Prot} {H:Heap} {w:World} {B0 N:Nat} {st:St} {a:Act} {β:Nat→Nat} (hi:Inv Pi H w) (hr:RelSt Pi H w B0 N st a.tmps β):∀ {l:List ResultVar} {k:List AV→Prop},resVals P H st l k →
    ∃ vs us,k vs∧(l.mapM (resSem a.tmps)).run P w=.ok us w∧RepL Pi w vs us
  | [],k,h=>⟨[],[],h,rfl,by simp [RepL]⟩
  | .tmp t::r,k,h=>by
    obtain ⟨v,h1,h2⟩:=evV_rep (a:=a) hr h
    obtain ⟨vs,us,h3,h4,h5⟩:=resVals_run hi hr h1
    exact ⟨v::vs,a.tmps.getD t undef::us,h3,by simp [List.mapM_cons,h4,resSem],RepL.cons h2 h5⟩
  | .cell b t::r,k,h=>by
    simp only [resVals] at h
    split at h
    · rename_i agg sz hty
      have h2:=(ev_rep (a:=a) hr (.tmp b)).1
      split at h
      · rename_i b' off hev
        rw [hev] at h2
        split at h
        · rename_i cs hg
          obtain ⟨v,h1,h⟩:=ob_spec h
          have hs:=hr.slot b'
          rw [hg] at hs
          obtain ⟨_,vs,e,h3,h4,h5,h6⟩:=hs
          obtain ⟨u,hu,hru⟩:=run_loadVar' (b:=β b') (base:=0) (off:=off) hty h4 h5 (fun i v hv=>by simp only [World.cell?,h3];simpa using hv) h1
          obtain ⟨vs',us,g3,g4,g5⟩:=resVals_run hi hr h
          have h2':a.tmps.getD b undef=.pointer (some ⟨β b',off,none⟩):=h2
          have hu':(loadVar t ⟨β b',off,none⟩).run P w=.ok u w:=by simpa using hu
          exact ⟨v::vs',u::us,g3,by simp [List.mapM_cons,resSem,h2',asAddr,hu',g4],RepL.cons hru g5⟩
        · exact h.elim
      · rename_i p hev
        rw [hev] at h2
        obtain ⟨v,h1,hk⟩:=ob_spec h
        obtain ⟨b',off,cs,rfl,hobj,hp⟩:=ldH_spec h1
        obtain ⟨vs,e,h3,h4,h5,h6⟩:=hi.objs b' _ hobj
        obtain ⟨u,hu,hru⟩:=run_loadVar' (b:=b') (base:=0) (off:=off) hty h4 h5 (fun i v hv=>by simp only [World.cell?,h3];simpa using hv) hp
        obtain ⟨vs',us,g3,g4,g5⟩:=resVals_run hi hr hk
        have h2':a.tmps.getD b undef=.pointer (some ⟨b',off,none⟩):=by have h3':=h2;simp only [RepS] at h3';exact rep_ptr.1 h3'
        have hu':(loadVar t ⟨b',off,none⟩).run P w=.ok u w:=by simpa using hu
        exact ⟨v::vs',u::us,g3,by simp [List.mapM_cons,resSem,h2',asAddr,hu',g4],RepL.cons hru g5⟩
      · exact h.elim
    · exact h.elim
theorem results_run {Pi:Prot} {H:Heap} {w:World} {B0 N:Nat} {st:St} {a:Act} {β:Nat→Nat} (hi:Inv Pi H w) (hr:RelSt Pi H w B0 N st a.tmps β) {fn:Func} {Q:Post} (hx:fin P fn Q st H) :
    ∃ v r,(results fn a.tmps).run P w=.ok v w∧Rep Pi w r v∧Q r H:=by
  obtain ⟨vs,us,h1,h2,h3⟩:=resVals_run hi hr hx
  have hlen:=h3.length
  have hrun:(results fn a.tmps).run P w=.ok (if h:us.toArray.size=1 then us.toArray[0] else .tuple us.toArray) w:=by
    unfold results
    rw [Array.mapM_eq_mapM_toList]
    simp only [Sem.run_bind,Sem.run_map]
    have h3':∀ f:ResultVar→Sem Value,f=resSem a.tmps→(fn.results.toList.mapM f).run P w=.ok us w:=fun f e=>by rw [e];exact h2
    rw [h3' _ (by funext x;cases x<;>rfl)]
    simp only [Result.andThen_ok,Sem.run_pure]
  refine ⟨_,one1 vs,hrun,?_,h1⟩
  match vs,us,hlen,h3 with
  | [],[],_,h3=>simp only [one1,Rep];exact ⟨#[],by simp,by simp [RepL]⟩
  | [v],[u],_,h3 =>
    simp only [RepL] at h3
    obtain ⟨_,_,e,h4,_⟩:=h3
    simp only [List.cons.injEq] at e
    obtain ⟨rfl,_⟩:=e
    simpa [one1] using h4
  | v1::v2::vs,u1::u2::us,_,h3 =>
    simp only [one1,Rep]
    exact ⟨(u1::u2::us).toArray,by simp,by simpa using h3⟩
theorem get_init:∀ (args:List AV) (i t:Nat),get (initSt i args) t=if i≤t then (match args[t - i]? with | some x=>.val x | none=>.undef) else .undef
  | [],i,t=>by simp [initSt,get]
  | x::r,i,t=>by
    simp only [initSt]
    by_cases h:i=t
    · subst h;rw [get_cons_self];simp
    · rw [get_cons_ne h,get_init r (i+1) t]
      by_cases h2:i+1≤t
      · rw [if_pos h2,if_pos (by omega),show t - i=t - (i+1)+1 by omega];simp
      · rw [if_neg h2,if_neg (by omega)]
theorem Good.init {H:Heap} {Pi:Prot} {w:World} {N:Nat} (hi:Inv Pi H w) {args:List AV} {vs:Array Value} (hv:RepL Pi w args vs.toList) (hN:args.length≤N) :
    Good ⟨H,Pi,w,N⟩ (initSt 0 args) H { tmps:=vs++Array.replicate (N - vs.size) undef,defers:=[] } w:=by
  have hl:=hv.length
  have hl':vs.size=args.length:=by simpa using hl
  have hnb:∀ t,(get (initSt 0 args) t).isBox=false:=fun t=>by
    rw [get_init];simp only [Nat.zero_le,if_true];split<;>rfl
  refine ⟨Pi,fun _=>0,Ext.refl _ _ _,hi,⟨by simp;omega,fun t=>?_,fun t ht=>?_,fun t t' h _ _=>?_,fun t d off h=>?_⟩,Marks.nil⟩
  · rw [get_init]
    simp only [Nat.zero_le,if_true,Nat.sub_zero]
    split
    · rename_i x hx
      obtain ⟨v,h1,h2⟩:=RepL.get _ _ hv t x hx
      have hlt:t < vs.size:=by
        rw [hl']
        rcases Nat.lt_or_ge t args.length with h | h
        · exact h
        · rw [List.getElem?_eq_none h] at hx;cases hx
      have:(vs++Array.replicate (N - vs.size) undef).getD t undef=v:=by
        rw [Array.getD_eq_getD_getElem?,Array.getElem?_append_left hlt]
        have h1':vs[t]?=some v:=by simpa using h1
        rw [h1'];rfl
      simp only [RepS]
      rw [this];exact h2
    · trivial
  · rw [hnb] at ht;cases ht
  · rw [hnb] at h;cases h
  · rw [get_init] at h
    simp only [Nat.zero_le,if_true] at h
    split at h<;>cases h
theorem Told.mono {Pi:Prot} {H:Heap} {w:World} {p q:Post} (hpq:∀ v H,p v H→q v H) (e:Ending) (w':World) (h:Told Pi H w p e w'):Told Pi H w q e w' :=
  let ⟨v,r,H',Pi',h1,h2,h3,h4,h5⟩:=h
  ⟨v,r,H',Pi',h1,h2,h3,h4,hpq _ _ h5⟩
theorem SoundC_mono:CMono (SoundC P) (SoundC P):=by
  intro c args H p q hpq hx
  cases c with
  | yield l=>exact fun Pi w vs hi hv =>
      let ⟨f,tmps,asg,body,h1,h2⟩:=hx Pi w vs hi hv
      ⟨f,tmps,asg,body,h1,RoundIn.mono h2 (Told.mono hpq)⟩
  | fn f=>exact ⟨hx.1,fun Pi w vs hi hv=>CallsIn.mono (hx.2 Pi w vs hi hv) (Told.mono hpq)⟩
theorem foldl_params (ps:Array Nat) (vs tmps:Array Value):(ps.zip vs).foldl (fun tmps (t,a)=>tmps.setIfInBounds t a) tmps=(ps.toList.zip vs.toList).foldl (fun tmps (x:Nat × Value)=>tmps.setIfInBounds x.1 x.2) tmps:=by
  rw [← Array.foldl_toList,Array.toList_zip]
/-- a round of a loop over a function -/
theorem Yield_sound (pk:PK P) (hCm:CMono C C) (hC:∀ c args H K,C c args H K→SoundC P c args H K) {L:LoopInfo} {s:LSt} {l:Nat} {args:List AV} {H:Heap} {Q:Post} (hl:H.objs l=some (.loop L s))
    (hx:YieldA P C L l args H Q):SoundC P (.yield l) args H Q:=by
  unfold YieldA at hx
  split at hx
  · rename_i hck
    simp only [Bool.and_eq_true] at hck
    have hlen:=Nat.eq_of_beq_eq_true hck.1
    have hN:∀ t ∈ L.params,t < L.N:=fun t ht=>Nat.le_of_ble_eq_true (List.all_eq_true.1 hck.2 t ht)
    intro Pi w vs hi hv
    obtain ⟨r,g1,g2,g3,g4,g5,g6,g7,g8,g9⟩:=hi.objs l _ hl
    have hsz:vs.size=r.params.size:=by
      have h1:=hv.length
      have h2:r.params.size=L.params.length:=by rw [← g2];simp
      rw [h2,← hlen,← h1];simp
    refine ⟨_,_,_,_,run_yield g1 hsz,?_⟩
    let S:Start:=⟨H,Pi,w,L.N⟩
    have hnb:∀ t,(get L.st t).isBox=false:=fun t=>by rw [← (g9 t).1];exact snap_noBox _
    have hr0:RelSt Pi H w w.heap.size L.N L.st r.tmps id :=
      ⟨g5,fun t=>(g9 t).2,fun t ht=>(by rw [hnb] at ht;cases ht),fun t t' ht=>(by rw [hnb] at ht;cases ht),fun t d off h=>(by
        have:=(g9 t).1;rw [h] at this;cases this)⟩
    have hr1:=RelSt.params L.params args vs.toList L.st r.tmps hr0 hv hlen hN hnb
    have hg:Good S (putPs L.params args L.st) H { tmps:=(r.params.zip vs).foldl (fun tmps (t,a)=>tmps.setIfInBounds t a) r.tmps,defers:=[] } w :=
      ⟨Pi,id,Ext.refl _ _ _,hi,by
        show RelSt Pi H w w.heap.size L.N _ ((r.params.zip vs).foldl (fun tmps (t,a)=>tmps.setIfInBounds t a) r.tmps) id
        rw [foldl_params,g2];exact hr1,Marks.nil⟩
    refine roundIn_of_wpIn (F:=Fence.wide) trivial ?_
    rw [g3,g4]
    have:=W_sound (ro:=some l) (S:=S) pk hCm hC L.assign _ _ _ _ _ _ _ _ hx hg
    refine wpIn_mono this (fun e a1 w1 hq=>?_)
    have fin:∀ (jump:Option Code) (s':LSt) (b:Bool) (st:St) (H1:Heap) (a2:Act) (w2:World),Good S st H1 a2 w2→endA l H1 b s' Q→b=jump.isNone→(if jump.isNone then LoopState.ready else .done)=(pendOf s').1→jump=(pendOf s').2 →
        ∃ v w',(Instr.endRound l jump).run P w2=.ok v w'∧Told Pi H w Q (.returned v) w':=by
      intro jump s' b st H1 a2 w2 hg2 hend hb h1 h2
      unfold endA at hend
      split at hend
      · rename_i L' s'' hl'
        obtain ⟨r',k1,_⟩:=hg2.loopAt hl'
        refine ⟨_,_,run_endRound jump k1,?_⟩
        obtain ⟨Pi3,β3,e3,i3,r3,d3⟩:=hg2.putLoop (s':=s') hl' k1 _ jump h1 (fun j hj=>h2) (fun hj=>by subst hj;exact h2)
        exact ⟨_,_,_,_,rfl,e3,i3,rep_bool.2 (by rw [hb]),hend⟩
      · exact hend.elim
    cases e with
    | normal =>
      obtain ⟨st1,H1,hg1,hb⟩:=hq
      unfold beginA at hb
      split at hb
      · rename_i L' hl'
        obtain ⟨r',k1,k2,_⟩:=hg1.loopAt hl'
        refine ⟨_,run_beginRound k1 k2,?_⟩
        have hg2:=hg1.putLoop (s':=.busy) hl' k1 .busy r'.pending rfl (fun _ h=>by cases h) (fun h=>by cases h)
        refine wpIn_mono (W_sound (ro:=some l) (S:=S) pk hCm hC L.body _ _ _ _ _ _ _ _ hb hg2) (fun e a3 w3 hq=>?_)
        cases e with
        | normal=>obtain ⟨st3,H3,g,hend⟩:=hq;exact fin none .ready true st3 H3 a3 w3 g hend rfl rfl rfl
        | exit id=>obtain ⟨st3,H3,g,hend⟩:=hq;exact fin (some (.exit id)) (.left (.exit id)) false st3 H3 a3 w3 g hend rfl rfl rfl
        | ret=>obtain ⟨st3,H3,g,hend⟩:=hq;exact fin (some .ret) (.left .ret) false st3 H3 a3 w3 g hend rfl rfl rfl
        | goto t=>exact hq.elim
        | panic c=>exact hq.elim
        | outgrown=>exact hq.elim
      · exact hb.elim
    | exit id=>obtain ⟨_,_,_,h⟩:=hq;exact h.elim
    | ret=>obtain ⟨_,_,_,h⟩:=hq;exact h.elim
    | goto t=>exact hq.elim
    | panic c=>exact hq.elim
    | outgrown=>exact hq.elim
  · exact hx.elim
/-- THE WHOLE: what the abstract machine says of a call, the machine does. -/
theorem Ev_sound (pk:PK P) {hs:Hints} {c:Callee} {args:List AV} {H:Heap} {Q:Post} (hx:Ev P hs c args H Q):SoundC P c args H Q:=by
  refine hx (SoundC P) (fun c args H Q hw=>?_)
  cases c with
  | yield l =>
    simp only [WF] at hw
    split at hw
    · rename_i L s hl;exact Yield_sound pk SoundC_mono (fun _ _ _ _ h=>h) hl hw
    · exact hw.elim
  | fn f =>
    simp only [WF] at hw
    split at hw
    · rename_i fn hf
      split at hw
      · rename_i cd hb
        have hN:Nat.ble args.length fn.ntmps=true:=by
          cases hl:Nat.ble args.length fn.ntmps with
          | true=>rfl
          | false=>simp only [hl] at hw
        simp only [hN] at hw
        refine ⟨⟨fn,cd,hf,hb⟩,fun Pi w vs hi hv=>?_⟩
        have hg:=Good.init hi hv (N:=fn.ntmps) (Nat.le_of_ble_eq_true hN)
        have:=W_sound (ro:=none) (S:=⟨H,Pi,w,fn.ntmps⟩) pk SoundC_mono (fun _ _ _ _ h=>h) cd _ _ _ _ _ _ _ _ hw hg
        refine callsIn_of_wp_marks (F:=Fence.wide) hf hb trivial (wpIn_mono this (fun e a w' hq=>?_))
        have fin:∀ st H',Good ⟨H,Pi,w,fn.ntmps⟩ st H' a w'→fin P fn Q st H'→LeavesInM Fence.wide 0 P fn a.tmps (Told Pi H w Q) a.defers .returning w':=by
          intro st H' hg hf
          obtain ⟨Pi',β,he,hi',hr,⟨rs,m1,m2,m3⟩⟩:=hg
          refine leaves_marks (B0:=w.heap.size) rfl (fun w2 he2 hi2 hr2=>?_) rs a.defers w' m1 m2 m3 he hi' hr
          obtain ⟨v,r,h1,h2,h3⟩:=results_run hi2 hr2 hf
          exact ⟨v,h1,v,r,H',Pi',rfl,he2,hi2,h2,h3⟩
        cases e with
        | normal=>obtain ⟨st,H',g,h⟩:=hq;exact fin st H' g h
        | ret=>obtain ⟨st,H',g,h⟩:=hq;exact fin st H' g h
        | exit id=>obtain ⟨st,H',g,h⟩:=hq;exact h.elim
        | goto l=>exact hq.elim
        | panic c=>exact hq.elim
        | outgrown=>exact hq.elim
      · exact hw.elim
    · exact hw.elim
end sound
end Go.Hx

