/- The abstract machine is sound. Own work (session 1). -/
import Derived.Test.YtancdapnpceogaaGreatHxOps7
import Derived.Lib.UnsafeStr
namespace Go.Hx
section ops
variable {P:Program} {C:CallRel} {S:Start} {h:Hint} {o:Oper} {k:St→Heap→Prop} {st:St} {H:Heap} {a:Act} {w:World} {Pi:Prot} {β:Nat→Nat}

theorem lenA_run {x r:AV} {u:Value} {t ty e:TypeId} (h:lenA x=some r) (hr:Rep Pi w x u) (hu:P.underlying t=some (.slice e)):∃ v,(Builtin.len_ #[t] ty #[u]).run P w=.ok v w∧Rep Pi w r v:=by
  unfold lenA at h
  split at h
  · simp only [Option.some.injEq] at h;subst h
    simp only [Rep] at hr
    obtain ⟨A,c,rfl,_⟩:=hr
    exact raw_run (by simp [Builtin.len_,run_underlying hu,goInt]) rfl
  · cases h
theorem lenSA_run {x r:AV} {u:Value} {t ty:TypeId} (h:lenSA x=some r) (hr:Rep Pi w x u) (hu:P.underlying t=some .string):∃ v,(Builtin.len_ #[t] ty #[u]).run P w=.ok v w∧Rep Pi w r v:=by
  unfold lenSA at h
  split at h
  · simp only [Option.some.injEq] at h;subst h
    rw [rep_str] at hr;subst hr
    exact raw_run (by simp [Builtin.len_,run_underlying hu,goInt]) rfl
  · cases h
theorem min2_spec {x y r:AV} (h:min2A x y=some r):∃ k a b,x=.raw (.int k a)∧y=.raw (.int k b)∧r=.raw (.int k (if b < a then b else a)):=by
  unfold min2A at h
  split at h
  · split at h
    · rename_i hk;subst hk
      simp only [Option.some.injEq] at h;exact ⟨_,_,_,rfl,rfl,h.symm⟩
    · cases h
  · cases h
theorem max2_spec {x y r:AV} (h:max2A x y=some r):∃ k a b,x=.raw (.int k a)∧y=.raw (.int k b)∧r=.raw (.int k (if b > a then b else a)):=by
  unfold max2A at h
  split at h
  · split at h
    · rename_i hk;subst hk
      simp only [Option.some.injEq] at h;exact ⟨_,_,_,rfl,rfl,h.symm⟩
    · cases h
  · cases h
theorem list1 {α:Type} {a:Array α} {x:α} (h:a.toList=[x]):a=#[x]:=by cases a;simp_all
theorem list2 {α:Type} {a:Array α} {x y:α} (h:a.toList=[x,y]):a=#[x,y]:=by cases a;simp_all

/-- bytes that became a text turn no more -/
theorem freeze_tip {Pi:Prot} {H:Heap} {w:World} (hi:Inv Pi H w) {b n:Nat} (ht:H.tips b=some n) (m:Nat):Ext H Pi w (H.dropTip b) Pi (w.freeze ⟨b,0,none⟩ m)∧Inv Pi (H.dropTip b) (w.freeze ⟨b,0,none⟩ m):=by
  obtain ⟨hob,⟨vs,e,hb,hn⟩,hp⟩:=hi.tips b n ht
  have hother:∀ c,c ≠ b→(w.freeze ⟨b,0,none⟩ m).heap[c]?=w.heap[c]?:=fun c hc=>by
    unfold World.freeze
    split
    · rfl
    · rw [Array.getElem?_modify];rw [if_neg (fun e=>hc e.symm)]
  have hself:∃ fr,(w.freeze ⟨b,0,none⟩ m).heap[b]?=some (.cells vs e fr):=by
    unfold World.freeze
    split
    · exact ⟨_,hb⟩
    · rw [Array.getElem?_modify,if_pos rfl,hb];exact ⟨_,rfl⟩
  obtain ⟨fr,hself⟩:=hself
  have hcell:∀ c o,(w.freeze ⟨b,0,none⟩ m).cell? ⟨c,o,none⟩=w.cell? ⟨c,o,none⟩:=fun c o=>by
    by_cases hc:c=b
    · subst hc;simp [World.cell?,hself,hb]
    · simp only [World.cell?,hother c hc]
  have hl:Later Pi w Pi (w.freeze ⟨b,0,none⟩ m):=⟨fun c o h=>⟨h,hcell c o⟩,fun c us e' fr' hc=>by
    by_cases h:c=b
    · subst h
      rw [hb] at hc;simp only [Option.some.injEq,Obj.cells.injEq] at hc
      obtain ⟨rfl,rfl,rfl⟩:=hc
      exact ⟨vs,fr,hself,rfl⟩
    · exact ⟨us,fr',(hother c h).trans hc,rfl⟩⟩
  have hfields:(w.freeze ⟨b,0,none⟩ m).os=w.os∧(w.freeze ⟨b,0,none⟩ m).tape=w.tape∧(w.freeze ⟨b,0,none⟩ m).output=w.output∧(w.freeze ⟨b,0,none⟩ m).heap.size=w.heap.size:=by
    unfold World.freeze;split<;>simp
  refine ⟨⟨by rw [hfields.2.2.2];exact Nat.le_refl _,hfields.1,hfields.2.1,hfields.2.2.1,fun c _ _ h2=>hother c (fun e=>by subst e;rw [ht] at h2;cases h2),hl,fun c _=>⟨id,fun h=>?_⟩,fun _ _ _ _ _ h=>h⟩,fun c o ho=>?_,fun c k hk=>?_,fun c o ho=>?_,hi.tysLater hl rfl⟩
  · simp only [Heap.dropTip];split
    · rfl
    · exact h
  · have hc:c ≠ b:=fun e=>by subst e;rw [show H.objs c=some o from ho] at hob;cases hob
    exact (hi.objs c o ho).later hl (hother c hc) (fun _ h=>h)
  · simp only [Heap.dropTip] at hk
    split at hk
    · cases hk
    · rename_i hc
      obtain ⟨k1,⟨us,e',k2,k3⟩,k4⟩:=hi.tips c k hk
      exact ⟨k1,⟨us,e',(hother c hc).trans k2,k3⟩,k4⟩
  · rw [hcell];exact hi.pi c o ho
theorem op_builtin {c:Call} {b:Builtin} (ho:o.op=.call c) (hb:c.callee=.builtin b) (hg:Good S st H a w) (hx:opX P C S.N h o k st H):Fine P S o k a w:=by
  obtain ⟨Pi,β,he,hi,hr,hd⟩:=hg
  obtain ⟨callee,args,tys⟩:=c
  simp only at hb;subst hb
  cases b<;>simp only [opX,ho] at hx<;>first | exact hx.elim | skip
  · -- append
    split at hx
    · rename_i x y t t2 ha ht
      have fin:∀ (sz by_:Nat),sliceElemZ P t=some (sz,by_)→((∃ e,P.underlying t2=some (.slice e)) ∨ P.underlying t2=some .string) →
          (evV st x fun a=>evV st y fun b=>appA sz by_ a b H fun r H=>putS S.N o.dst (.val r) st fun st=>k st H)→Fine P S o k a w:=by
        intro sz by_ hz hu hx
        obtain ⟨va,hx1,ra⟩:=evV_rep hr hx
        obtain ⟨vb,hx2,rb⟩:=evV_rep hr hx1
        obtain ⟨z,w',r,H',Pi',h1,h2,h3,h4,h5⟩:=append_sound hi hz ra rb hu hx2 (ty:=o.type)
        obtain ⟨st',g1,g2⟩:=val_fine (he.trans h2) h3 (hr.step h2) (hd.step h2) h4 h5
        refine ⟨z,w',st',H',.inl ?_,g1,g2⟩
        rw [list2 ha,list2 ht] at ho
        simp [execOp,ho,resolve,invoke,builtin,h1]
      have finB:∀ (e:TypeId),byteElem P t=some e→((∃ e,P.underlying t2=some (.slice e)) ∨ P.underlying t2=some .string) →
          (evV st x fun a=>evV st y fun b=>appB e a b H fun r H=>putS S.N o.dst (.val r) st fun st=>k st H)→Fine P S o k a w:=by
        intro e hz hu hx
        obtain ⟨va,hx1,ra⟩:=evV_rep hr hx
        obtain ⟨vb,hx2,rb⟩:=evV_rep hr hx1
        obtain ⟨z,w',r,H',Pi',h1,h2,h3,h4,h5⟩:=append_soundB hi hz ra rb hu hx2 (ty:=o.type)
        obtain ⟨st',g1,g2⟩:=val_fine (he.trans h2) h3 (hr.step h2) (hd.step h2) h4 h5
        refine ⟨z,w',st',H',.inl ?_,g1,g2⟩
        rw [list2 ha,list2 ht] at ho
        simp [execOp,ho,resolve,invoke,builtin,h1]
      split at hx
      · rename_i e hz
        split at hx
        · rename_i hu
          exact finB e hz (.inl ⟨_,hu⟩) hx
        · rename_i hu
          exact finB e hz (.inr hu) hx
        · exact hx.elim
      · split at hx
        · rename_i sz by_ e hz hu
          exact fin sz by_ hz (.inl ⟨_,hu⟩) hx
        · rename_i sz by_ hz hu
          exact fin sz by_ hz (.inr hu) hx
        · exact hx.elim
    · exact hx.elim
  · -- len
    split at hx
    · rename_i x t ha ht
      rw [list1 ha,list1 ht] at ho
      split at hx
      · rename_i hu
        obtain ⟨va,hx1,ra⟩:=evV_rep hr hx
        obtain ⟨r,h1,hx2⟩:=ob_spec hx1
        obtain ⟨v,h2,h3⟩:=lenSA_run (P:=P) (ty:=o.type) h1 ra hu
        exact pure_op he hi hr hd (by simp [execOp,ho,resolve,invoke,builtin,h2]) h3 hx2
      · rename_i hu
        obtain ⟨va,hx1,ra⟩:=evV_rep hr hx
        obtain ⟨r,h1,hx2⟩:=ob_spec hx1
        obtain ⟨v,h2,h3⟩:=lenA_run (P:=P) (ty:=o.type) h1 ra hu
        exact pure_op he hi hr hd (by simp [execOp,ho,resolve,invoke,builtin,h2]) h3 hx2
      · exact hx.elim
    · exact hx.elim
  · -- max
    split at hx
    · rename_i x y ha
      obtain ⟨va,hx1,ra⟩:=evV_rep hr hx
      obtain ⟨vb,hx2,rb⟩:=evV_rep hr hx1
      obtain ⟨r,h1,hx3⟩:=ob_spec hx2
      obtain ⟨kd,p,q,rfl,rfl,rfl⟩:=max2_spec h1
      rw [rep_int] at ra rb
      rw [list2 ha] at ho
      exact pure_op he hi hr hd (v:=.int kd (if q > p then q else p)) (by simp [execOp,ho,resolve,invoke,builtin,Builtin.max_,Builtin.max2,ra,rb]) (rep_int.2 rfl) hx3
    · exact hx.elim
  · -- min
    split at hx
    · rename_i x y ha
      obtain ⟨va,hx1,ra⟩:=evV_rep hr hx
      obtain ⟨vb,hx2,rb⟩:=evV_rep hr hx1
      obtain ⟨r,h1,hx3⟩:=ob_spec hx2
      obtain ⟨kd,p,q,rfl,rfl,rfl⟩:=min2_spec h1
      rw [rep_int] at ra rb
      rw [list2 ha] at ho
      exact pure_op he hi hr hd (v:=.int kd (if q < p then q else p)) (by simp [execOp,ho,resolve,invoke,builtin,Builtin.min_,Builtin.min2,ra,rb]) (rep_int.2 rfl) hx3
    · exact hx.elim
  · -- unsafe.SliceData
    split at hx
    · rename_i x ha
      obtain ⟨va,hx1,ra⟩:=evV_rep hr hx
      obtain ⟨r,h1,hx2⟩:=ob_spec hx1
      rw [list1 ha] at ho
      unfold datA at h1
      split at h1
      · simp only [Option.some.injEq] at h1;subst h1
        have ra':=ra
        simp only [Rep] at ra
        obtain ⟨A,c,ev,_,hA,_⟩:=ra
        have hA:A=none:=by cases A with | none=>rfl | some _=>cases hA
        subst hA
        have hrun:(execOp a.eval o).run P w=.ok (.value (.pointer none)) w:=by simp [execOp,ho,resolve,invoke,builtin,ev,Lib.run_unsafeSliceData_nil]
        obtain ⟨st',g1,g2⟩:=put_fine (v:=.pointer none) he hi hr hd (s:=.dat _) ⟨none,_,_,by rw [← ev];exact ra',fun _=>rfl,fun _ h=>(by cases h)⟩ rfl (fun _ _ h=>(by cases h)) hx2
        exact ⟨_,w,st',H,.inl hrun,g1,g2⟩
      · rename_i sz tip y ys
        simp only [Option.some.injEq] at h1;subst h1
        have ra':=ra
        simp only [Rep] at ra
        obtain ⟨A,c,ev,hc,hA,_⟩:=ra
        cases A with
        | none=>cases hA
        | some ad =>
          have hc0:c ≠ 0:=by simp at hc;omega
          have hrun:(execOp a.eval o).run P w=.ok (.value (.pointer (some ad))) w:=by simp [execOp,ho,resolve,invoke,builtin,ev,Lib.run_unsafeSliceData_row _ _ _ _ _ _ hc0]
          obtain ⟨st',g1,g2⟩:=put_fine (v:=.pointer (some ad)) he hi hr hd (s:=.dat _) ⟨some ad,_,_,by rw [← ev];exact ra',fun h=>(by cases h),fun _ h=>by cases h;rfl⟩ rfl (fun _ _ h=>(by cases h)) hx2
          exact ⟨_,w,st',H,.inl hrun,g1,g2⟩
      · cases h1
    · exact hx.elim
  · -- unsafe.String
    split at hx
    · rename_i x n pt t2 ha ht
      unfold evD at hx
      split at hx
      · rename_i da hda
        obtain ⟨h2,_,_⟩:=ev_rep hr x
        rw [hda] at h2
        obtain ⟨A,m,c,q1,q2,q3⟩:=h2
        obtain ⟨vn,hx1,rn⟩:=evV_rep hr hx
        rw [list2 ha,list2 ht] at ho
        unfold strA at hx1
        split at hx1
        · have evn:a.eval n=.int .i64 0:=rep_int.1 rn
          simp only [Rep] at q1
          obtain ⟨A',c',e1,_,hA,_⟩:=q1
          simp only [Value.slice.injEq] at e1
          obtain ⟨rfl,rfl,rfl⟩:=e1
          have hA:A=none:=by cases A with | none=>rfl | some _=>cases hA
          have evx:=q2 hA
          refine pure_op he hi hr hd (v:=.string .empty) ?_ (rep_str.2 rfl) hx1
          simp [execOp,ho,resolve,invoke,builtin,evx,evn,Lib.run_unsafeString_none]
        · rename_i b y ys m'
          obtain ⟨e,l,r1,r2,r3,r4,r5,r6,r7,hx1⟩:=hx1
          have evn:a.eval n=.int .i64 m':=rep_int.1 rn
          simp only [Rep] at q1
          obtain ⟨A',c',e1,hlc,_,_,_,hrow,htip⟩:=q1
          simp only [Value.slice.injEq] at e1
          obtain ⟨rfl,rfl,rfl⟩:=e1
          obtain ⟨hA,vs0,e0,fr0,t1,t2'⟩:=htip b rfl
          have evx:=q3 _ hA
          obtain ⟨vs1,fr1,t3⟩:=hi.tys b e r3
          obtain ⟨hob,⟨vs2,e2,t4,t5⟩,t6⟩:=hi.tips b _ r7
          rw [t4] at t3 t1
          simp only [Option.some.injEq,Obj.cells.injEq] at t3 t1
          obtain ⟨rfl,rfl,rfl⟩:=t3
          obtain ⟨rfl,rfl,rfl⟩:=t1
          have hrow:=(hrow _ hA).2
          have hl0:l ≠ []:=fun e=>by subst e;simp at r4
          have hsh:w.shape? b=some (e2,vs2.size):=by simp [World.shape?,t4]
          have hcell:∀ (j:Nat) (x:UInt8),l[j]?=some x→w.cell? ((⟨b,0,none⟩:Addr).add j)=some (.int .u8 x.toNat):=fun j x hj=>by
            obtain ⟨u,v1,v2,v3,v4⟩:=RepRow.get _ b 0 1 hrow j (byteA x) (by rw [r4,List.getElem?_map,hj];rfl)
            have hu:u=.int .u8 x.toNat:=rep_int.1 v1
            subst hu
            have:=(v4 0 (.int .u8 x.toNat) rfl).2
            rw [add_lit']
            simpa using this
          have hrun:=Lib.run_unsafeString_row (P:=P) w pt t2 o.type e2 r1 r2 b vs2.size hsh l hl0 t5 r6 hcell
          obtain ⟨f1,f2⟩:=freeze_tip hi r7 l.length
          obtain ⟨st',g1,g2⟩:=val_fine (v:=.string ⟨l.toArray⟩) (he.trans f1) f2 (hr.step f1) (hd.step f1) (r:=.raw (.string ⟨l.toArray⟩)) (rep_str.2 rfl) hx1
          refine ⟨_,_,st',_,.inl ?_,g1,g2⟩
          simp [execOp,ho,resolve,invoke,builtin,evx,evn,r5,hrun]
        · exact hx1.elim
      · exact hx.elim
    · exact hx.elim

theorem callFunc_run (pk:PK P) {f:FuncId} {fn:Func} {c:Code} (hf:P.funcs[f]?=some fn) (hb:fn.body=some c) (args:Array Value) (w:World):(callFunc f args).run P w=.ok (.enter f args) w:=by
  have hn:=pk.names f fn hf
  unfold callFunc
  have hn' : ¬ fn.name = "runtime.NumGoroutine" := by simpa using hn
  simp [hf,hn',hb]
theorem primA_run {g:FuncId} {args:List AV} {vs:Array Value} {Pi:Prot} {w:World} {K:AV→Prop} (hr:RepL Pi w args vs.toList) (hx:primA P g args K) :
    ∃ v r,(callFunc g vs).run P w=.ok (.value v) w∧Rep Pi w r v∧K r:=by
  obtain ⟨vs⟩:=vs
  unfold primA at hx
  split at hx
  · rename_i t x
    obtain ⟨rt,p,h1,h2⟩:=hx
    simp only [RepL,Rep] at hr
    obtain ⟨v,r,e,⟨u,rfl,_⟩,rfl⟩:=hr
    subst e
    exact ⟨_,_,h1 w u,by simp [Rep,RepL,simpleV,oneV],h2⟩
  · rename_i p
    obtain ⟨h1,h2⟩:=hx
    simp only [RepL,Rep] at hr
    obtain ⟨v,r,e,⟨rfl,_⟩,rfl⟩:=hr
    subst e
    exact ⟨_,_,h1 w,by simp [Rep,simpleV],h2⟩
  · rename_i p
    obtain ⟨b,h1,h2⟩:=hx
    simp only [RepL,Rep] at hr
    obtain ⟨v,r,e,⟨us,rfl,⟨v',r',e',⟨rfl,_⟩,rfl⟩,_⟩,rfl⟩:=hr
    subst e
    obtain ⟨us⟩:=us
    simp only at e';subst e'
    exact ⟨_,_,h1 w,by simp [Rep,simpleV],h2⟩
  · exact hx.elim
theorem op_invoke {c:Call} {f:Operand} {name:String} {ro:Option Nat} {K:Act→World→Prop} {Q:Exit→Act→World→Prop} (pk:PK P) (hC:∀ c args H K,C c args H K→SoundC P c args H K) (ho:o.op=.call c) (hb:c.callee=.invoke f name)
    (hK:∀ st H a w,Good S st H a w→k st H→K a w) (hg:Good S st H a w) (hx:opX P C S.N h o k st H):o.uponIn (Fro ro) 0 P a K Q ((execOp a.eval o).run P w):=by
  obtain ⟨Pi,β,he,hi,hr,hd⟩:=hg
  obtain ⟨callee,args,tys⟩:=c
  simp only at hb;subst hb
  simp only [opX,ho] at hx
  obtain ⟨vf,hx1,rf⟩:=evV_rep hr hx
  obtain ⟨vs,hx2,rvs⟩:=evVs_rep hr hx1
  unfold invA at hx2
  split at hx2
  · rename_i t v
    simp only [Rep] at rf
    obtain ⟨u,ef,ru⟩:=rf
    obtain ⟨g,hm,hx2⟩:=hx2
    have hall:RepL Pi w (v::vs) (#[u]++args.map a.eval).toList:=by
      simp only [Array.toList_append,Array.toList_map]
      exact RepL.cons ru rvs
    have hrun:(execOp a.eval o).run P w=(callFunc g (#[u]++args.map a.eval)).run P w:=by
      have hi2:∀ xs:Array Value,xs[0]?=some (.iface t u)→(invoke (.fn (.method name) #[]) xs).run P w=(callFunc g (#[u]++xs.extract 1 xs.size)).run P w:=fun xs e=>by
        simp [invoke,e,callMethod,hm w u]
      have e1:(#[Value.iface t u]++args.map a.eval)[0]?=some (.iface t u):=by
        rw [Array.getElem?_append_left (show 0 < 1 by decide)];rfl
      have e2:(#[Value.iface t u]++args.map a.eval).extract 1 (#[Value.iface t u]++args.map a.eval).size=args.map a.eval:=by
        apply Array.ext
        · simp
        · intro i h1 h2;simp [Array.getElem_append]
      have h3:=hi2 _ e1
      rw [e2] at h3
      rw [← h3]
      simp only [execOp,ho,resolve,ef]
      rfl
    rcases hx2 with hx2 | hx2
    · obtain ⟨v',r,h1,h2,h3⟩:=primA_run hall hx2
      obtain ⟨st',g1,g2⟩:=val_fine he hi hr hd h2 h3
      rw [hrun,h1,Oper.uponIn_value]
      exact hK _ _ _ _ g1 g2
    · obtain ⟨⟨fn,cd,hfn,hbody⟩,hS⟩:=hC _ _ _ _ hx2
      rw [hrun,callFunc_run pk hfn hbody,Oper.uponIn_enter]
      refine ⟨fun h=>by simp [Fro,Fence.wide] at h,?_⟩
      have hcall:CallsIn (Fro ro) 0 P g (#[u]++args.map a.eval) w _:=hS Pi w _ hi hall
      refine CallsIn.mono hcall (fun e w' hq=>?_)
      obtain ⟨v,r,H',Pi',rfl,h1,h2,h3,h4⟩:=hq
      obtain ⟨st',g1,g2⟩:=val_fine (he.trans h1) h2 (hr.step h1) (hd.step h1) h3 h4
      exact hK _ _ _ _ g1 g2
  · exact hx2.elim
theorem extOp_some {x:Operand} {g:FuncId} (hx:extOp P x=some g):x=.func g:=by
  unfold extOp at hx
  split at hx
  · split at hx
    · split at hx
      · simpa using hx
      · cases hx
    · cases hx
  · cases hx
theorem op_call {c:Call} {f:Operand} {ro:Option Nat} {K:Act→World→Prop} {Q:Exit→Act→World→Prop} (pk:PK P) (hC:∀ c args H K,C c args H K→SoundC P c args H K) (ho:o.op=.call c) (hb:c.callee=.value f)
    (hK:∀ st H a w,Good S st H a w→k st H→K a w) (hg:Good S st H a w) (hx:opX P C S.N h o k st H):o.uponIn (Fro ro) 0 P a K Q ((execOp a.eval o).run P w):=by
  obtain ⟨Pi,β,he,hi,hr,hd⟩:=hg
  obtain ⟨callee,args,tys⟩:=c
  simp only at hb;subst hb
  simp only [opX,ho] at hx
  split at hx
  · rename_i g hg
    have:=extOp_some hg
    subst this
    obtain ⟨vs,hx2,rvs⟩:=evVs_rep hr hx
    obtain ⟨v',r,h1,h2,h3⟩:=primA_run (vs:=args.map a.eval) (by simpa using rvs) hx2
    obtain ⟨st',g1,g2⟩:=val_fine he hi hr hd h2 h3
    have hrun:(execOp a.eval o).run P w=(callFunc g (args.map a.eval)).run P w:=by
      simp [execOp,ho,resolve,Act.eval,Deferred.ofValue,invoke]
    rw [hrun,h1,Oper.uponIn_value]
    exact hK _ _ _ _ g1 g2
  obtain ⟨vf,hx1,rf⟩:=evV_rep hr hx
  obtain ⟨vs,hx2,rvs⟩:=evVs_rep hr hx1
  unfold callA at hx2
  split at hx2
  · rename_i n first cap
    simp only [Rep] at rf
    obtain ⟨x,y,ef,r1,r2⟩:=rf
    obtain ⟨⟨fn,cd,hfn,hbody⟩,hS⟩:=hC _ _ _ _ hx2
    have hrun:(execOp a.eval o).run P w=.ok (.enter n ((x++args.map a.eval)++y)) w:=by
      simp [execOp,ho,resolve,ef,Deferred.ofValue,invoke,callFunc_run pk hfn hbody]
    rw [hrun,Oper.uponIn_enter]
    refine ⟨fun h=>by simp [Fro,Fence.wide] at h,?_⟩
    have hcall:CallsIn (Fro ro) 0 P n ((x++args.map a.eval)++y) w _:=hS Pi w ((x++args.map a.eval)++y) hi (by
      simp only [Array.toList_append,Array.toList_map]
      rw [List.append_assoc]
      exact RepL.append _ _ _ _ r1 (RepL.append _ _ _ _ rvs r2))
    refine CallsIn.mono hcall (fun e w' hq=>?_)
    obtain ⟨v,r,H',Pi',rfl,h1,h2,h3,h4⟩:=hq
    obtain ⟨st',g1,g2⟩:=val_fine (he.trans h1) h2 (hr.step h1) (hd.step h1) h3 h4
    exact hK _ _ _ _ g1 g2
  · rename_i l
    simp only [Rep] at rf
    obtain ⟨x,y,ef,r1,r2⟩:=rf
    obtain ⟨fr,tmps,asg,body,hy,hround⟩:=hC _ _ _ _ hx2 Pi w (x++args.map a.eval) hi (by
      simp only [Array.toList_append,Array.toList_map]
      simp only [RepL] at r1;rw [r1];exact rvs)
    have hrun:(execOp a.eval o).run P w=.ok (.round l fr tmps asg body) w:=by
      simp [execOp,ho,resolve,ef,Deferred.ofValue,invoke,hy]
    rw [hrun,Oper.uponIn_round]
    refine ⟨fun h=>by simp [Fro,Fence.wide] at h,?_⟩
    have hround':RoundIn (Fro ro) 0 P l fr tmps asg body w _:=hround
    refine RoundIn.mono hround' (fun e w' hq=>?_)
    obtain ⟨v,r,H',Pi',rfl,h1,h2,h3,h4⟩:=hq
    obtain ⟨st',g1,g2⟩:=val_fine (he.trans h1) h2 (hr.step h1) (hd.step h1) h3 h4
    exact hK _ _ _ _ g1 g2
  · exact hx2.elim

theorem opX_sound {ro:Option Nat} {K:Act→World→Prop} {Q:Exit→Act→World→Prop} (pk:PK P) (hC:∀ c args H K,C c args H K→SoundC P c args H K)
    (hK:∀ st H a w,Good S st H a w→k st H→K a w) (hx:opX P C S.N h o k st H) (hg:Good S st H a w):o.wpIn (Fro ro) 0 P a w K Q:=by
  have fine:Fine P S o k a w→(∀ c,o.op ≠ .defer c)→o.wpIn (Fro ro) 0 P a w K Q:=fun ⟨v,w',st',H',h1,h2,h3⟩ hnd=>by
    refine ⟨fun _ _=>trivial,?_⟩
    rw [Oper.semAt_eq _ _ _ hnd]
    rcases h1 with h1 | ⟨h1,rfl⟩
    · rw [h1,Oper.uponIn_value];exact hK _ _ _ _ h2 h3
    · rw [h1,Oper.uponIn_skip];exact hK _ _ _ _ h2 h3
  have hg':=hg
  obtain ⟨Pi,β,he,hi,hr,hd⟩:=hg
  cases hop:o.op with
  | move x=>exact fine (op_move he hi hr hd (.inl hop) hx) (by simp [hop])
  | assign x=>exact fine (op_move he hi hr hd (.inr hop) hx) (by simp [hop])
  | pick c a b=>exact fine (op_pick he hi hr hd hop hx) (by simp [hop])
  | alloc e=>exact fine (op_alloc he hi hr hd hop hx) (by simp [hop])
  | box e x=>exact fine (op_box he hi hr hd hop hx) (by simp [hop])
  | build t parts=>exact fine (op_build he hi hr hd hop hx) (by simp [hop])
  | buildSlice t n parts=>exact fine (op_buildSlice he hi hr hd hop hx) (by simp [hop])
  | load t x=>exact fine (op_load he hi hr hd hop hx) (by simp [hop])
  | store t x y=>exact fine (op_store he hi hr hd hop hx) (by simp [hop])
  | nilCheck x=>exact fine (op_nilCheck he hi hr hd hop hx) (by simp [hop])
  | binOp op t x y yt=>exact fine (op_binOp he hi hr hd hop hx) (by simp [hop])
  | unOp op t x=>exact fine (op_unOp he hi hr hd hop hx) (by simp [hop])
  | makeFunc f x y=>exact fine (op_makeFunc he hi hr hd hop hx) (by simp [hop])
  | slice t x lo hi' mx=>exact fine (op_slice he hi hr hd hop hx) (by simp [hop])
  | fieldAddr t x f=>exact fine (op_fieldAddr he hi hr hd hop hx) (by simp [hop])
  | field t x f=>exact fine (op_field he hi hr hd hop hx) (by simp [hop])
  | indexAddr t x i=>exact fine (op_indexAddr he hi hr hd hop hx) (by simp [hop])
  | index t x i=>exact fine (op_index he hi hr hd hop hx) (by simp [hop])
  | range t x=>exact fine (op_range he hi hr hd hop hx) (by simp [hop])
  | next x i=>exact fine (op_next he hi hr hd hop hx) (by simp [hop])
  | makeMap t r=>exact fine (op_makeMap he hi hr hd hop hx) (by simp [hop])
  | lookup t x i ok=>exact fine (op_lookup he hi hr hd hop hx) (by simp [hop])
  | mapUpdate t m i x=>exact fine (op_mapUpdate he hi hr hd hop hx) (by simp [hop])
  | insert t m i x=>exact fine (op_insert he hi hr hd hop hx) (by simp [hop])
  | entry x=>exact fine (op_entry he hi hr hd hop hx) (by simp [hop])
  | convert s d x=>exact fine (op_convert he hi hr hd hop hx) (by simp [hop])
  | makeInterface t x=>exact fine (op_makeInterface he hi hr hd hop hx) (by simp [hop])
  | typeAssert x t1 t2 ok=>exact fine (op_typeAssert he hi hr hd hop hx) (by simp [hop])
  | extract x i=>exact fine (op_extract he hi hr hd hop hx) (by simp [hop])
  | call c =>
    cases hc:c.callee with
    | value f =>
      refine ⟨fun _ _=>trivial,?_⟩
      rw [Oper.semAt_eq _ _ _ (by simp [hop])]
      exact op_call pk hC hop hc hK hg' hx
    | builtin b=>exact fine (op_builtin hop hc hg' hx) (by simp [hop])
    | invoke r m =>
      refine ⟨fun _ _=>trivial,?_⟩
      rw [Oper.semAt_eq _ _ _ (by simp [hop])]
      exact op_invoke pk hC hop hc hK hg' hx
  | _=>simp only [opX,hop] at hx

theorem guard_wanted {ops:Array Oper} {g j:Nat} {want b:Bool} (hj:(ops[j]?).bind (·.dst)=some g) (hg:o.guard=some (j,want)) (hb:a.tmps.getD g undef=.bool b):Region.wanted o (yielded ops a.tmps)=(b == want):=by
  have ht:a.tmps[g]?=some (.bool b):=by
    rw [Array.getD_eq_getD_getElem?] at hb
    cases h:a.tmps[g]? with
    | none=>rw [h] at hb;simp [undef] at hb
    | some v=>rw [h] at hb;simp at hb;rw [hb]
  simp only [Region.wanted,hg,yielded,hj,Option.bind_some,ht]
  cases b<;>cases want<;>rfl
theorem opG_sound {ops:Array Oper} {ro:Option Nat} {K:Act→World→Prop} {Q:Exit→Act→World→Prop} (pk:PK P) (hC:∀ c args H K,C c args H K→SoundC P c args H K)
    (hK:∀ st H a w,Good S st H a w→k st H→K a w) (hx:opG P C S.N h ops o k st H) (hg:Good S st H a w) :
    if Region.wanted o (yielded ops a.tmps) then o.wpIn (Fro ro) 0 P a w K Q else (∀ f,o.about P w a.eval=some f→(Fro ro).fn f)∧K (a.put o.dst undef) w:=by
  unfold opG at hx
  split at hx
  · rename_i hgd
    have:Region.wanted o (yielded ops a.tmps)=true:=by simp [Region.wanted,hgd]
    rw [if_pos this]
    exact opX_sound pk hC hK hx hg
  · rename_i j want hgd
    split at hx
    · exact hx.elim
    · rename_i g hj
      obtain ⟨Pi,β,he,hi,hr,hd⟩:=hg
      split at hx
      · rename_i hev
        have h2:=(ev_rep (a:=a) hr (.tmp g)).1
        rw [hev] at h2
        have h2':a.tmps.getD g undef=undef:=h2
        have hw:Region.wanted o (yielded ops a.tmps)=false:=by
          simp only [Region.wanted,hgd,yielded,hj,Option.bind_some]
          rw [Array.getD_eq_getD_getElem?] at h2'
          cases hq:a.tmps[g]? with
          | none=>rfl
          | some v=>rw [hq] at h2';simp only [Option.getD_some] at h2';subst h2';rfl
        rw [if_neg (by rw [hw];simp)]
        obtain ⟨st',g1,g2⟩:=nov_fine he hi hr hd hx
        exact ⟨fun _ _=>trivial,hK _ _ _ _ g1 g2⟩
      rotate_left
      · exact hx.elim
      rename_i x hev
      have rx:Rep Pi w x (a.eval (.tmp g)):=by have h2:=(ev_rep (a:=a) hr (.tmp g)).1;rw [hev] at h2;exact h2
      have hx1:=hx
      have hbox:(get st g).isBox=false:=by
        cases hb:get st g with
        | lbox cs=>simp only [ev,hb] at hev;cases hev
        | _=>rfl
      have fin:∀ b:Bool,x=.raw (.bool b)→(match (b == want:Bool) with
          | true=>opX P C S.N h o k ((g,.val (.raw (.bool b)))::st) H
          | false=>putS S.N o.dst .nov ((g,.val (.raw (.bool b)))::st) fun st=>k st H) →
          if Region.wanted o (yielded ops a.tmps) then o.wpIn (Fro ro) 0 P a w K Q else (∀ f,o.about P w a.eval=some f→(Fro ro).fn f)∧K (a.put o.dst undef) w:=by
        intro b hb hx2
        subst hb
        have ev:a.tmps.getD g undef=.bool b:=rep_bool.1 rx
        have hw:=guard_wanted (a:=a) hj hgd ev
        have hr':=hr.know (d:=g) (x:=.raw (.bool b)) hbox (by rw [ev];exact rep_bool.2 rfl)
        cases hbw:(b == want) with
        | true =>
          rw [hbw] at hx2
          rw [if_pos (hw.trans hbw)]
          exact opX_sound pk hC hK hx2 ⟨Pi,β,he,hi,hr',hd⟩
        | false =>
          rw [hbw] at hx2
          rw [if_neg (by rw [hw,hbw];simp)]
          obtain ⟨st',g1,g2⟩:=nov_fine he hi hr' hd hx2
          exact ⟨fun _ _=>trivial,hK _ _ _ _ g1 g2⟩
      rcases cndA_spec hx1 with ⟨rfl,h2⟩ | ⟨rfl,h2⟩
      · exact fin true rfl (by cases want<;>exact h2)
      · exact fin false rfl (by cases want<;>exact h2)
theorem get_mem {st:St} {t:Nat}:get st t=.undef ∨ (t,get st t) ∈ st:=by
  induction st with
  | nil=>exact .inl rfl
  | cons a r ih =>
    obtain ⟨u,s⟩:=a
    by_cases e:u=t
    · subst e;rw [get_cons_self];exact .inr (by simp)
    · rw [get_cons_ne e]
      rcases ih with h | h
      · exact .inl h
      · exact .inr (by simp [h])
theorem memN_cons (x t:Nat) (r:List Nat):memN t (x::r)=(decide (x=t) || memN t r):=by
  simp only [memN]
  by_cases e:x=t
  · subst e;simp
  · have:Nat.beq x t=false:=by
      cases hb:Nat.beq x t with
      | false=>rfl
      | true=>exact absurd (Nat.eq_of_beq_eq_true hb) e
    simp [this,e]
theorem get_map {f:Nat→Slot} {keep:List Nat} {t:Nat}:get (keep.map fun t=>(t,f t)) t=if memN t keep then f t else .undef:=by
  induction keep with
  | nil=>rfl
  | cons x r ih =>
    simp only [List.map_cons,memN_cons]
    by_cases e:x=t
    · subst e;rw [get_cons_self];simp
    · rw [get_cons_ne e,ih];simp [e]
/-- what forgetting within a region leaves -/
theorem get_clearR (keep:List Nat) (st:St) (t:Nat):get (clearR keep st) t=get st t ∨ (get (clearR keep st) t=.undef∧(get st t).isBox=false):=by
  unfold clearR
  split
  · rename_i hall
    rw [get_map]
    split
    · cases hs:get st t with
      | loc u off=>simp only [Slot.stripR];split<;>simp [Slot.isBox]
      | _=>exact .inl rfl
    · rename_i hm
      refine .inr ⟨rfl,?_⟩
      cases hb:(get st t).isBox with
      | false=>rfl
      | true =>
        rcases get_mem (st:=st) (t:=t) with h | h
        · rw [h] at hb;cases hb
        · have:=List.all_eq_true.1 hall _ h
          simp only [hb,Bool.not_true,Bool.false_or] at this
          exact absurd this hm
  · exact .inl rfl
theorem get_cutAt (h:Hint) (rid pos:Nat) (st:St) (t:Nat):get (cutAt h rid pos st) t=get st t ∨ (get (cutAt h rid pos st) t=.undef∧(get st t).isBox=false):=by
  unfold cutAt
  split
  · exact .inl rfl
  · split
    · exact .inl rfl
    · exact get_clearR _ _ _
theorem RelSt.less {Pi:Prot} {H:Heap} {w:World} {B0 N:Nat} {st st':St} {tmps:Array Value} {β:Nat→Nat} (hr:RelSt Pi H w B0 N st tmps β) (hl:∀ t,get st' t=get st t ∨ (get st' t=.undef∧(get st t).isBox=false)):RelSt Pi H w B0 N st' tmps β where
  size:=hr.size
  slot:=fun t=>by
    rcases hl t with h | ⟨h,_⟩
    · rw [h];exact hr.slot t
    · rw [h];trivial
  box:=fun t ht=>by
    rcases hl t with h | ⟨h,_⟩
    · rw [h] at ht;exact hr.box t ht
    · rw [h] at ht;cases ht
  inj:=fun t t' ht ht' e=>by
    rcases hl t with h | ⟨h,_⟩
    · rcases hl t' with h' | ⟨h',_⟩
      · rw [h] at ht;rw [h'] at ht';exact hr.inj t t' ht ht' e
      · rw [h'] at ht';cases ht'
    · rw [h] at ht;cases ht
  loc:=fun t d off ht=>by
    rcases hl t with h | ⟨h,_⟩
    · rw [h] at ht
      have:=hr.loc t d off ht
      rcases hl d with h' | ⟨h',hn⟩
      · rw [h'];exact this
      · rw [this] at hn;cases hn
    · rw [h] at ht;cases ht
theorem Good.cutAt (hg:Good S st H a w) (h:Hint) (rid pos:Nat):Good S (Hx.cutAt h rid pos st) H a w :=
  let ⟨Pi,β,he,hi,hr,hd⟩:=hg
  ⟨Pi,β,he,hi,hr.less (get_cutAt h rid pos st),hd⟩
theorem Wops_sound {rid:Nat} {ops:Array Oper} {ro:Option Nat} {Q:Exit→Act→World→Prop} (pk:PK P) (hC:∀ c args H K,C c args H K→SoundC P c args H K)
    (hQ:∀ st H a w,Good S st H a w→k st H→Q .normal a w):∀ (j:Nat) (l:List Nat) (r:List Oper),l.map (ops[·]?)=r.map some→∀ (st:St) (H:Heap) (a:Act) (w:World),Wops P C S.N h rid ops k j r st H→Good S st H a w→wpOpsIn (Fro ro) 0 P ops Q l a w
  | _,[],[],_,st,H,a,w,hx,hg=>hQ st H a w hg hx
  | _,[],_::_,e,_,_,_,_,_,_=>by simp at e
  | _,_::_,[],e,_,_,_,_,_,_=>by simp at e
  | j,i::l,o::r,e,st,H,a,w,hx,hg=>by
    simp only [List.map_cons,List.cons.injEq] at e
    simp only [wpOpsIn,e.1]
    simp only [Wops] at hx
    have:=opG_sound (Q:=Q) (ro:=ro) pk hC (K:=wpOpsIn (Fro ro) 0 P ops Q l) (fun st H a w hg hx=>Wops_sound pk hC hQ (j+1) l r e.2 _ H a w (by rw [cutK_eq] at hx;exact hx) (hg.cutAt h rid (j+1))) hx hg
    exact this
theorem range_ops (ops:Array Oper):(List.range ops.size).map (ops[·]?)=ops.toList.map some:=by
  apply List.ext_getElem?
  intro i
  simp only [List.getElem?_map]
  by_cases h:i < ops.size
  · simp [h]
  · simp [h]
end ops
end Go.Hx

