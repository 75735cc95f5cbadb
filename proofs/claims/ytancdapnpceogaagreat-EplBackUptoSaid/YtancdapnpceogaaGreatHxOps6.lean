/- Operations: walks over texts, conversions. Own work (session 1). -/
import Derived.Test.YtancdapnpceogaaGreatHxOps5
import Derived.RangeFuncRecord
import Derived.Laws.BytesArg
import Derived.Lib.ConvBytes
namespace Go.Hx
section ops
variable {P:Program} {C:CallRel} {S:Start} {h:Hint} {o:Oper} {k:St→Heap→Prop} {st:St} {H:Heap} {a:Act} {w:World} {Pi:Prot} {β:Nat→Nat}
variable (he:Ext S.H0 S.Pi0 S.w0 H Pi w) (hi:Inv Pi H w) (hr:RelSt Pi H w S.w0.heap.size S.N st a.tmps β) (hd:Marks S.w0.heap.size H w a.defers)
theorem no_pi (hi:Inv Pi H w) {b:Nat} (hb:∀ vs e fr,w.heap[b]? ≠ some (.cells vs e fr)):∀ o,¬ Pi b o:=fun o ho=>by
  obtain ⟨v,hv⟩:=hi.pi b o ho
  cases hw:w.heap[b]? with
  | none=>simp [World.cell?,hw] at hv
  | some x =>
    cases x with
    | cells vs e fr=>exact hb _ _ _ hw
    | _=>simp [World.cell?,hw] at hv
theorem cell_putObj {b x k:Nat} {o:Obj} (h:x ≠ b):(w.putObj b o).cell? ⟨x,k,none⟩=w.cell? ⟨x,k,none⟩:=by
  simp only [World.cell?,World.putObj_heap_other h]
theorem Later.putObj (hi:Inv Pi H w) {b:Nat} {o:Obj} (hb:∀ vs e fr,w.heap[b]? ≠ some (.cells vs e fr)):Later Pi w Pi (w.putObj b o):=by
  have hp:=no_pi hi hb
  refine ⟨fun x k hx=>⟨hx,cell_putObj (fun e=>hp k (e ▸ hx))⟩,fun x us e fr hx=>?_⟩
  have h:x ≠ b:=fun e'=>by subst e';exact hb _ _ _ hx
  exact ⟨us,fr,(World.putObj_heap_other h).trans hx,rfl⟩
theorem pi_putObj (hi:Inv Pi H w) {b:Nat} {o:Obj} (hb:∀ vs e fr,w.heap[b]? ≠ some (.cells vs e fr)):∀ x k,Pi x k→∃ v,(w.putObj b o).cell? ⟨x,k,none⟩=some v:=fun x k hx=>by
  have hne:x ≠ b:=fun e=>by subst e;exact no_pi hi hb k hx
  rw [cell_putObj hne];exact hi.pi x k hx
/-- an object of the abstract heap that is no row turns -/
theorem putObj_obj (hi:Inv Pi H w) {b:Nat} {x x':AObj} {o:Obj} (hH:H.objs b=some x) (hb:∀ vs e fr,w.heap[b]? ≠ some (.cells vs e fr)) (hx:ObjAt Pi (w.putObj b o) b x') :
    Ext H Pi w (H.setObj b x') Pi (w.putObj b o)∧Inv Pi (H.setObj b x') (w.putObj b o):=by
  have hl:=Later.putObj (o:=o) hi hb
  have hne:∀ y,H.objs y=none→y ≠ b:=fun y hy e=>by subst e;rw [hH] at hy;cases hy
  refine ⟨⟨by simp,rfl,rfl,rfl,fun y _ hy _=>World.putObj_heap_other (hne y hy),hl,fun y hy=>⟨fun h=>?_,id⟩,fun _ _ _ _ _ h=>h⟩,?_,?_,pi_putObj hi hb,hi.tysLater hl rfl⟩
  · simp only [Heap.setObj];rw [if_neg (hne y h)];exact h
  · intro y z hy
    simp only [Heap.setObj] at hy
    split at hy
    · rename_i e;subst e;simp only [Option.some.injEq] at hy;subst hy;exact hx
    · rename_i e;exact (hi.objs y z hy).later hl (World.putObj_heap_other e) (fun _ h=>h)
  · intro y n hn
    obtain ⟨h1,⟨vs,e,h2,h3⟩,h4⟩:=hi.tips y n hn
    have hyb:y ≠ b:=hne y h1
    refine ⟨?_,⟨vs,e,(World.putObj_heap_other hyb).trans h2,h3⟩,h4⟩
    simp only [Heap.setObj];rw [if_neg hyb];exact h1
theorem isU8_spec {P:Program} {t:TypeId} (h:isU8 P t=true):P.underlying t=some (.int .u8):=by
  unfold isU8 at h
  split at h
  · assumption
  · cases h
theorem RepM_length:∀ {l:List (ByteArray × AV)} {es:List MapEntry},RepM Pi w l es→es.length=l.length
  | [],es,h=>by simp only [RepM] at h;subst h;rfl
  | (k,x)::r,es,h=>by
    obtain ⟨e,es',rfl,_,_,h4⟩:=h
    simp [RepM_length h4]
theorem RepM_get:∀ {l:List (ByteArray × AV)} {es:List MapEntry},RepM Pi w l es→∀ (i:Nat) s x,l[i]?=some (s,x)→∃ e,es[i]?=some e∧e.key=.string s∧Rep Pi w x e.val
  | [],es,h,i,s,x,hi=>by simp at hi
  | (k,y)::r,es,h,i,s,x,hi=>by
    obtain ⟨e,es',rfl,h2,h3,h4⟩:=h
    cases i with
    | zero=>simp only [List.getElem?_cons_zero,Option.some.injEq,Prod.mk.injEq] at hi;obtain ⟨rfl,rfl⟩:=hi;exact ⟨e,rfl,h2,h3⟩
    | succ i=>simpa using RepM_get h4 i s x (by simpa using hi)
theorem born_find {es:Array MapEntry} {c:Nat} (h:Born es c) {i:Nat} {e:MapEntry} (hi:es[i]?=some e):es.find? (·.born == i)=some e:=by
  have hlt:i < es.size:=(Array.getElem?_eq_some_iff.1 hi).1
  rw [Array.find?_eq_some_iff_getElem]
  refine ⟨by simp [h.2 i e hi],i,hlt,(Array.getElem?_eq_some_iff.1 hi).2,fun j hj=>?_⟩
  have:=h.2 j es[j] (by simp)
  simp [this];omega
theorem foldl_bytes:∀ (l:List UInt8),((l.map fun c=>(c.toNat:Int)).map fun n=>UInt8.ofNat n.toNat)=l
  | []=>rfl
  | c::l=>by
    have:=foldl_bytes l
    simp only [List.map_cons,this]
    congr 1
    simp
theorem bytesToString_run (l:List UInt8) (xs:List AV) (hx:xs=l.map byteA) (ad:Addr) (c:Nat) (f1:xs ≠ []→ad.spot=none) (f2:RepRow Pi w ad.block ad.off 1 xs):(Conv.bytesToString (.slice (some ad) xs.length c)).run P w=.ok (.string ⟨l.toArray⟩) w:=by
  have hl:(loadCells ad xs.length).run P w=.ok ((l.map fun c=>(c.toNat:Int)).map (Value.int .u8)).toArray w:=by
    have:=run_loadCells_list (P:=P) w ad ((l.map fun c=>(c.toNat:Int)).map (Value.int .u8)) (fun j v hj=>by
      rw [List.getElem?_map,List.getElem?_map] at hj
      cases hlj:l[j]? with
      | none=>rw [hlj] at hj;simp at hj
      | some b =>
        rw [hlj] at hj
        simp only [Option.map_some,Option.some.injEq] at hj;subst hj
        obtain ⟨u,v1,v2,v3,v4⟩:=RepRow.get _ _ _ _ f2 j (byteA b) (by rw [hx,List.getElem?_map,hlj];rfl)
        have hu:u=.int .u8 b.toNat:=rep_int.1 v1
        subst hu
        have:=(v4 0 (.int .u8 b.toNat) rfl).2
        have f1:=f1 (fun e=>by rw [hx] at e;simp at e;subst e;simp at hlj)
        have had:ad=⟨ad.block,ad.off,none⟩:=by cases ad;simp at f1;simp [f1]
        rw [had,add_lit']
        simpa using this)
    have hlen:xs.length=((l.map fun c=>(c.toNat:Int)).map (Value.int .u8)).length:=by rw [hx];simp
    rw [hlen];exact this
  rw [run_bytesToString w ad _ c _ hl,foldl_push_bytes,foldl_bytes]
  simp [ByteArray.empty,ByteArray.emptyWithCapacity]
  rfl
theorem bytes_run (hi:Inv Pi H w) (e:TypeId) (s:ByteArray):Ext H Pi w H (addPi Pi w.heap.size s.size) (Lib.bytesWorld w e s)∧Inv (addPi Pi w.heap.size s.size) H (Lib.bytesWorld w e s) ∧
    Rep (addPi Pi w.heap.size s.size) (Lib.bytesWorld w e s) (.sl 1 false .any (s.data.toList.map byteA)) (.slice (some ⟨w.heap.size,0,none⟩) s.size (grownCap w s.size 0 e)):=by
  have hold:∀ b,b < w.heap.size→(Lib.bytesWorld w e s).heap[b]?=w.heap[b]?:=fun b hb=>Lib.bytesWorld_at_old w e s b hb
  have hcell:∀ b k,b < w.heap.size→(Lib.bytesWorld w e s).cell? ⟨b,k,none⟩=w.cell? ⟨b,k,none⟩:=fun b k hb=>Lib.bytesWorld_old w e s _ hb
  have hl:Later Pi w (addPi Pi w.heap.size s.size) (Lib.bytesWorld w e s):=⟨fun b k h=>⟨.inl h,hcell b k (hi.pi_lt h)⟩,fun b vs e' fr h=>⟨vs,fr,(hold b (Array.getElem?_eq_some_iff.1 h).1).trans h,rfl⟩⟩
  have hpi:∀ b o,b < w.heap.size→addPi Pi w.heap.size s.size b o→Pi b o:=fun b o hb h=>by
    rcases h with h | ⟨rfl,_⟩
    · exact h
    · exact absurd hb (Nat.lt_irrefl _)
  have hsz:s.data.toList.length=s.size:=by rw [Array.length_toList];rfl
  have hcap:s.size≤grownCap w s.size 0 e:=by simp [grownCap,Question.cut]
  have hnew:∀ k,k < s.size→(Lib.bytesWorld w e s).cell? ⟨w.heap.size,k,none⟩=some (.int .u8 (s.data.toList.getD k 0).toNat):=fun k hk=>Lib.bytesWorld_cell w e s k hk
  refine ⟨⟨by rw [Lib.bytesWorld_size];omega,?_,?_,?_,fun b hb _ _=>hold b hb,hl,fun _ _=>⟨id,id⟩,fun b o hb _ _ h=>hpi b o hb h⟩,?_,?_⟩
  · unfold Lib.bytesWorld World.freeze;split<;>rfl
  · unfold Lib.bytesWorld World.freeze;split<;>rfl
  · unfold Lib.bytesWorld World.freeze;split<;>rfl
  · refine hi.of_same hl (fun b hb=>⟨hold b (hi.block_lt hb),fun o h=>hpi b o (hi.block_lt hb) h⟩) rfl ?_
    rintro b k (h | ⟨rfl,h⟩)
    · obtain ⟨v,hv⟩:=hi.pi b k h;exact ⟨v,(hcell b k (hi.pi_lt h)).trans hv⟩
    · exact ⟨_,hnew k h⟩
  · simp only [Rep]
    refine ⟨_,_,by rw [List.length_map,hsz],by rw [List.length_map,hsz];exact hcap,rfl,(fun h=>by cases h),(fun h=>by cases h),fun ad had=>?_,fun b h=>by cases h⟩
    simp only [Option.some.injEq] at had;subst had
    refine ⟨fun _=>rfl,row1 (w:=Lib.bytesWorld w e s) (b:=w.heap.size) 0 _ (s.data.toList.map fun c=>.int .u8 c.toNat) ?_ ?_ ?_⟩
    · have:∀ l:List UInt8,RepL (addPi Pi w.heap.size s.size) (Lib.bytesWorld w e s) (l.map byteA) (l.map fun c=>Value.int .u8 c.toNat):=fun l=>by
        induction l with
        | nil=>exact RepL.nil
        | cons c l ih=>exact RepL.cons (rep_int.2 rfl) ih
      exact this _
    · intro v hv
      obtain ⟨c,_,rfl⟩:=List.mem_map.1 hv
      rfl
    · intro k v hk
      rw [List.getElem?_map] at hk
      cases hc:s.data.toList[k]? with
      | none=>rw [hc] at hk;cases hk
      | some c =>
        rw [hc] at hk
        simp only [Option.map_some,Option.some.injEq] at hk;subst hk
        have hlt:k < s.size:=by
          have:=(List.getElem?_eq_some_iff.1 hc).1
          omega
        rw [Nat.zero_add]
        refine ⟨.inr ⟨rfl,hlt⟩,?_⟩
        rw [hnew k hlt]
        simp [List.getD,hc]
theorem nextM_spec {x:AV} {K:Post} (hx:nextM x H K):∃ b m n seen l,x=.raw (.pointer (some ⟨b,0,none⟩))∧H.objs b=some (.miter m n seen)∧H.objs m=some (.smap l)∧l.length=n ∧
    (∀ i s v,l[i]?=some (s,v)→i ∉ seen→K (.tup [.raw (.bool true),.raw (.string s),v]) (H.setObj b (.miter m n (seen++[i]))))∧((∀ i,i < n→i ∈ seen)→K (.tup [.raw (.bool false)]) H):=by
  unfold nextM at hx
  split at hx
  · split at hx
    · rename_i hb
      split at hx
      · rename_i hm
        exact ⟨_,_,_,_,_,rfl,hb,hm,hx.1,hx.2.1,hx.2.2⟩
      · exact hx.elim
    · exact hx.elim
  · exact hx.elim
theorem rngA_spec {x:AV} {K:Post} (hx:rngA x H K):∃ s,x=.raw (.string s)∧∀ b,H.fresh b→K (.raw (.pointer (some ⟨b,0,none⟩))) (H.setObj b (.siter s 0)):=by
  unfold rngA at hx
  split at hx
  · exact ⟨_,rfl,hx⟩
  · exact hx.elim
theorem nextA_spec {x:AV} {K:Post} (hx:nextA x H K):∃ b s pos,x=.raw (.pointer (some ⟨b,0,none⟩))∧H.objs b=some (.siter s pos) ∧
    if pos < s.size then K (.tup [B true,I pos,.raw (.int .i32 (Utf8.decode s pos).1)]) (H.setObj b (.siter s (pos+(Utf8.decode s pos).2))) else K (.tup [B false]) H:=by
  unfold nextA at hx
  split at hx
  · split at hx
    · exact ⟨_,_,_,rfl,by assumption,hx⟩
    · exact hx.elim
  · exact hx.elim
include he hi hr hd
theorem op_range {t:TypeId} {x:Operand} (ho:o.op=.range t x) (hx:opX P C S.N h o k st H):Fine P S o k a w:=by
  simp only [opX,ho] at hx
  split at hx
  · rename_i hu
    obtain ⟨v,hx,rv⟩:=evV_rep hr hx
    obtain ⟨s,rfl,hx⟩:=rngA_spec hx
    have ev:a.eval x=.string s:=rep_str.1 rv
    have e1:=Ext.newObj hi (.stringIter s 0) (.siter s 0)
    have i1:=hi.newObj (.stringIter s 0) (.siter s 0) (alloc_new w _)
    obtain ⟨st',g1,g2⟩:=val_fine (k:=k) (dst:=o.dst) (v:=.pointer (some ⟨w.heap.size,0,none⟩)) (he.trans e1) i1 (hr.step e1) (hd.step e1) (rep_ptr.2 rfl) (hx w.heap.size hi.fresh_new)
    exact ⟨_,_,st',_,.inl (by simp [execOp,ho,Instr.range,run_underlying hu,ev,run_newObj_alloc]),g1,g2⟩
  · rename_i kt et hu
    obtain ⟨v,hx,rv⟩:=evV_rep hr hx
    unfold rngM at hx
    split at hx
    · rename_i m
      split at hx
      · rename_i l hm
        have ev:a.eval x=.map (some m):=by simp only [Rep] at rv;exact rv.1
        obtain ⟨es,c,h1,h2,h3⟩:=hi.objs m _ hm
        have hc:c=l.length:=by rw [h3.1,← RepM_length h2];simp
        subst hc
        have e1:=Ext.newObj hi (.mapIter (some m) l.length #[] l.length) (.miter m l.length [])
        have i1:=hi.newObj (.mapIter (some m) l.length #[] l.length) (.miter m l.length []) (alloc_new w _)
        obtain ⟨st',g1,g2⟩:=val_fine (k:=k) (dst:=o.dst) (v:=.pointer (some ⟨w.heap.size,0,none⟩)) (he.trans e1) i1 (hr.step e1) (hd.step e1) (rep_ptr.2 rfl) (hx w.heap.size hi.fresh_new)
        have hget:(getObj m).run P w=.ok (.map es l.length) w:=by simp [getObj,Sem.run,h1]
        exact ⟨_,_,st',_,.inl (by simp [execOp,ho,Instr.range,run_underlying hu,ev,hget,run_newObj_alloc]),g1,g2⟩
      · exact hx.elim
    · exact hx.elim
  · exact hx.elim
theorem op_nextM {x:Operand} (ho:o.op=.next x false) (hx:evV st x fun a=>nextM a H fun r H=>putS S.N o.dst (.val r) st fun st=>k st H):Fine P S o k a w:=by
  obtain ⟨v,hx,rv⟩:=evV_rep hr hx
  obtain ⟨b,m,n,seen,l,rfl,hb,hm,hln,hmore,hover⟩:=nextM_spec hx
  have ev:a.eval x=.pointer (some ⟨b,0,none⟩):=rep_ptr.1 rv
  have hw:w.heap[b]?=some (.mapIter (some m) n seen.toArray n):=hi.objs b _ hb
  obtain ⟨es,c,h2,h3,h4⟩:=hi.objs m _ hm
  have hes:es.size=n:=by rw [← hln,← RepM_length h3];simp
  have hc:c=n:=by rw [h4.1,hes]
  subst hc
  have hgb:(getObj b).run P w=.ok (.mapIter (some m) c seen.toArray c) w:=by simp [getObj,Sem.run,hw]
  have hgm:(getObj m).run P w=.ok (.map es c) w:=by simp [getObj,Sem.run,h2]
  have hold:∀ e ∈ es,e.born < c:=fun e he'=>by
    obtain ⟨i,hi',rfl⟩:=Array.mem_iff_getElem.1 he'
    have:=h4.2 i es[i] (by simp)
    omega
  have htest:(!seen.toArray.isEmpty && !es.isEmpty && es.all (·.born ≥ c))=false:=by
    by_cases h0:es.size=0
    · have:es=#[]:=Array.eq_empty_of_size_eq_zero h0
      simp [this]
    · have:es.all (·.born ≥ c)=false:=by
        rw [Array.all_eq_false]
        refine ⟨0,by omega,?_⟩
        have:=h4.2 0 es[0] (by simp)
        simp [this];omega
      rw [this,Bool.and_false]
  have hmem:∀ e ∈ es.filter (fun e=>!seen.toArray.contains e.born),e.born < c:=fun e he'=>hold e (by simp at he';exact he'.1)
  generalize hL:es.filter (fun e=>!seen.toArray.contains e.born)=L at hmem
  have e1:L.filter (fun x=>decide (x.born < c))=L:=Array.filter_eq_self.2 (fun x hx=>by simpa using hmem x hx)
  have e2:L.filter (fun x=>decide (x.born ≥ c))=#[]:=by
    rw [Array.filter_eq_empty_iff]
    intro x hx
    have:=hmem x hx
    simp;omega
  have hset:∀ (w1:World) (ob:Obj),w1.heap=w.heap→(setObj b ob).run P w1=.ok () (w1.putObj b ob):=fun w1 ob hh=>by simp [setObj,Sem.run,hh,hw,World.putObj]
  by_cases h0:L.size=0
  · have hLe:L=#[]:=Array.eq_empty_of_size_eq_zero h0
    have hseen:∀ i,i < c→i ∈ seen:=fun i hic=>by
      have hlt:i < es.size:=by omega
      by_cases hs:i ∈ seen
      · exact hs
      · have hb':=h4.2 i es[i] (by simp [hlt])
        have:es[i] ∈ L:=by rw [← hL];simp [hb',hs]
        rw [hLe] at this;simp at this
    obtain ⟨st',g1,g2⟩:=val_fine (k:=k) (dst:=o.dst) (v:=.tuple #[.bool false]) he hi hr hd (by simp [Rep,RepL,simpleV]) (hover hseen)
    refine ⟨_,_,st',_,.inl ?_,g1,g2⟩
    simp only [execOp,ho,ev,Instr.next,Sem.run_bind,hgb,hgm,Result.andThen,htest,hL,e1,e2,hLe]
    simp [choose,Sem.run,Question.forced]
  · have hne:L.isEmpty=false:=by simp [Array.isEmpty,h0]
    obtain ⟨j,d,hj,hrun⟩:∃ (j:Nat) (d:Nat),j < L.size∧(choose (Question.mapNext L.size)).run P w=.ok j { w with drawn:=d }:=by
      by_cases hf:L.size≤1
      · exact ⟨0,w.drawn,by omega,by simp [choose,Sem.run,Question.forced,hf]⟩
      · exact ⟨_,w.drawn+1,Nat.mod_lt _ (by omega),by
          simp only [choose,Sem.run,Question.forced,decide_eq_true_eq,hf,if_false,Question.cut]
          rfl⟩
    have hin:L[j] ∈ es∧L[j].born ∉ seen:=by
      have:L[j] ∈ es.filter (fun e=>!seen.toArray.contains e.born):=by rw [hL];exact Array.getElem_mem hj
      simpa using this
    obtain ⟨i,hi',hie⟩:=Array.mem_iff_getElem.1 hin.1
    have hborn:L[j].born=i:=by rw [← hie];exact h4.2 i es[i] (by simp)
    have hil:i < l.length:=by omega
    obtain ⟨en,q1,q2,q3⟩:=RepM_get h3 i l[i].1 l[i].2 (by simp [hil])
    have hen:en=L[j]:=by
      have:es.toList[i]?=some es[i]:=by simp [hi']
      rw [this] at q1
      rw [← hie];exact (Option.some.inj q1).symm
    subst hen
    have hk:=hmore i l[i].1 l[i].2 (by simp [hil]) (by rw [← hborn];exact hin.2)
    have hi0:=hi.draws d
    have he0:=Ext.draws (H:=H) (Pi:=Pi) (w:=w) d
    obtain ⟨x1,x2⟩:=putObj_obj (w:={ w with drawn:=d }) (x':=.miter m c (seen++[i])) (o:=.mapIter (some m) c (seen.toArray.push L[j].born) c) hi0 hb (by rw [show ({ w with drawn:=d }:World).heap=w.heap from rfl,hw];intro _ _ _ h;cases h)
      (by rw [hborn];show (World.putObj _ b _).heap[b]?=some (.mapIter (some m) c (seen++[i]).toArray c);rw [World.putObj_heap_same (w:={ w with drawn:=d }) (Array.getElem?_eq_some_iff.1 hw).1];simp)
    have hx12:=he0.trans x1
    obtain ⟨st',g1,g2⟩:=val_fine (k:=k) (dst:=o.dst) (v:=.tuple #[.bool true,L[j].key,L[j].val]) (he.trans hx12) x2 (hr.step hx12) (hd.step hx12) (by
      simp only [Rep,RepL]
      exact ⟨_,rfl,_,_,rfl,⟨rfl,rfl⟩,_,_,rfl,by rw [q2];exact ⟨rfl,rfl⟩,_,_,rfl,Rep.later hx12.later _ _ q3,rfl⟩) hk
    refine ⟨_,_,st',_,.inl ?_,g1,g2⟩
    simp only [execOp,ho,ev,Instr.next,Sem.run_bind,hgb,hgm,Result.andThen,htest,hL,e1,e2]
    simp only [hne,Bool.false_eq_true,if_false,Array.empty_append,Array.append_empty,Array.size_map,hrun,Array.getElem?_map,Array.getElem?_eq_getElem hj,Option.map_some,Result.andThen]
    simp only [Sem.run_bind,hrun,Result.andThen,Array.getElem?_eq_getElem hj,Option.map_some,hset { w with drawn:=d } _ rfl]
    simp [Sem.run]
theorem op_next {x:Operand} {isS:Bool} (ho:o.op=.next x isS) (hx:opX P C S.N h o k st H):Fine P S o k a w:=by
  simp only [opX,ho] at hx
  split at hx
  · obtain ⟨v,hx,rv⟩:=evV_rep hr hx
    obtain ⟨b,s,pos,rfl,hH,hx⟩:=nextA_spec hx
    have ev:a.eval x=.pointer (some ⟨b,0,none⟩):=rep_ptr.1 rv
    have hw:w.heap[b]?=some (.stringIter s pos):=hi.objs b _ hH
    have hget:(getObj b).run P w=.ok (.stringIter s pos) w:=by simp [getObj,Sem.run,hw]
    split at hx
    · rename_i hlt
      have hset:(setObj b (.stringIter s (pos+(Utf8.decode s pos).2))).run P w=.ok () (w.putObj b (.stringIter s (pos+(Utf8.decode s pos).2))):=by simp [setObj,Sem.run,hw,World.putObj]
      obtain ⟨e1,i1⟩:=putObj_obj (x':=.siter s (pos+(Utf8.decode s pos).2)) (o:=.stringIter s (pos+(Utf8.decode s pos).2)) hi hH (by rw [hw];intro _ _ _ h;cases h) (World.putObj_heap_same (Array.getElem?_eq_some_iff.1 hw).1)
      obtain ⟨st',g1,g2⟩:=val_fine (k:=k) (dst:=o.dst) (v:=.tuple #[.bool true,goInt pos,.int .i32 (Utf8.decode s pos).1]) (he.trans e1) i1 (hr.step e1) (hd.step e1) (by simp [Rep,RepL,B,I,simpleV,goInt]) hx
      refine ⟨_,_,st',_,.inl ?_,g1,g2⟩
      simp [execOp,ho,ev,Instr.next,hget,hlt,hset]
    · rename_i hlt
      obtain ⟨st',g1,g2⟩:=val_fine (k:=k) (dst:=o.dst) (v:=.tuple #[.bool false]) he hi hr hd (by simp [Rep,RepL,B,simpleV]) hx
      refine ⟨_,_,st',_,.inl ?_,g1,g2⟩
      simp [execOp,ho,ev,Instr.next,hget,hlt]
  · exact op_nextM he hi hr hd ho hx
theorem op_entry {x:Operand} (ho:o.op=.entry x) (hx:opX P C S.N h o k st H):Fine P S o k a w:=by
  simp only [opX,ho] at hx
  obtain ⟨v,hx,rv⟩:=evV_rep hr hx
  obtain ⟨r,h1,hx⟩:=ob_spec hx
  unfold entM at h1
  split at h1
  · rename_i b
    split at h1
    · rename_i m n seen hb
      split at h1
      · rename_i l hm
        split at h1
        · rename_i i hbe hlast
          split at h1
          · rename_i s y hli
            simp only [Option.some.injEq] at h1;subst h1
            have hln:l.length=n:=Nat.eq_of_beq_eq_true hbe
            have ev:a.eval x=.pointer (some ⟨b,0,none⟩):=rep_ptr.1 rv
            have hw:w.heap[b]?=some (.mapIter (some m) n seen.toArray n):=hi.objs b _ hb
            obtain ⟨es,c,h2,h3,h4⟩:=hi.objs m _ hm
            obtain ⟨en,q1,q2,q3⟩:=RepM_get h3 i s y hli
            have hc:c=n:=by rw [h4.1,← hln,← RepM_length h3];simp
            have hgb:(getObj b).run P w=.ok (.mapIter (some m) n seen.toArray n) w:=by simp [getObj,Sem.run,hw]
            have hgm:(getObj m).run P w=.ok (.map es c) w:=by simp [getObj,Sem.run,h2]
            have hfind:es.find? (·.born == i)=some en:=born_find h4 (by simpa using q1)
            have hback:seen.toArray.back?=some i:=by simpa [Array.back?,List.getLast?_eq_getElem?] using hlast
            refine pure_op he hi hr hd (v:=.tuple #[en.key,en.val]) ?_ (by simp only [Rep,RepL];exact ⟨_,rfl,_,_,rfl,by rw [q2];exact rep_str.2 rfl,_,_,rfl,q3,rfl⟩) hx
            subst hc
            simp [execOp,ho,Instr.entry,ev,hgb,hback,hgm,hfind]
          · cases h1
        · cases h1
      · cases h1
    · cases h1
  · cases h1
theorem op_convP {s d:TypeId} {x:Operand} (ho:o.op=.convert s d x) (hx:evV st x fun a=>convP P s d a H fun r=>putS S.N o.dst (.val r) st fun st=>k st H):Fine P S o k a w:=by
  obtain ⟨v,hx,rv⟩:=evV_rep hr hx
  unfold convP at hx
  split at hx
  · rename_i b
    split at hx
    · rename_i e cs h1 h2
      obtain ⟨h3,hx⟩:=hx
      obtain ⟨vs,fr,h4⟩:=hi.tys b e h1
      obtain ⟨vs',e',h5,h6,_⟩:=hi.objs b _ h2
      rw [h4] at h5
      simp only [Option.some.injEq,Obj.cells.injEq] at h5
      obtain ⟨rfl,rfl,rfl⟩:=h5
      have ev:a.eval x=.pointer (some ⟨b,0,none⟩):=rep_ptr.1 rv
      have hsz:vs.size=cs.length:=by rw [← h6.length];simp
      exact pure_op he hi hr hd (v:=.pointer (some ⟨b,0,none⟩)) (by simp [execOp,ho,ev,h3 w vs _ h4 hsz]) (rep_ptr.2 rfl) hx
    · exact hx.elim
  · exact hx.elim
theorem op_convert {s d:TypeId} {x:Operand} (ho:o.op=.convert s d x) (hx:opX P C S.N h o k st H):Fine P S o k a w:=by
  simp only [opX,ho] at hx
  split at hx
  · rename_i k1 k2 h1 h2
    obtain ⟨v,hx,rv⟩:=evV_rep hr hx
    obtain ⟨r,h3,hx⟩:=ob_spec hx
    unfold cvtIA at h3
    split at h3
    · rename_i kk n
      simp only [Option.some.injEq] at h3;subst h3
      have ev:a.eval x=.int kk n:=rep_int.1 rv
      exact pure_op he hi hr hd (v:=.int k2 (k2.wrap n)) (by simp [execOp,ho,convert,run_underlying h1,run_underlying h2,ev,Conv.intToInt]) (rep_int.2 rfl) hx
    · cases h3
  · split at hx
    · exact op_convP he hi hr hd ho hx
    · exact hx.elim
  · split at hx
    · exact op_convP he hi hr hd ho hx
    · exact hx.elim
  · rename_i e h1 h2
    split at hx
    · rename_i hu8 _
      obtain ⟨va,hx,ra⟩:=evV_rep hr hx
      unfold bsA at hx
      split at hx
      · rename_i sz' nil tip xs
        obtain ⟨hs,l,hxs,hx⟩:=hx
        have hu:=isU8_spec hu8
        simp only [Rep] at ra
        obtain ⟨A,c,ea,hlc,hA,_,_,hrow,_⟩:=ra
        refine pure_op he hi hr hd (v:=.string ⟨l.toArray⟩) ?_ (rep_str.2 rfl) hx
        have hconv:(Conv.bytesToString (.slice A xs.length c)).run P w=.ok (.string ⟨l.toArray⟩) w:=by
          cases A with
          | none =>
            have:xs=[]:=by
              have:=‹none=none→c=0› rfl
              exact List.eq_nil_of_length_eq_zero (by omega)
            subst this
            have hl:l=[]:=by simpa using hxs.symm
            subst hl
            simp [Conv.bytesToString];rfl
          | some ad =>
            obtain ⟨f1,f2⟩:=hrow ad rfl
            have hs1:sz'=1:=by
              rcases hs with h | h
              · rw [h] at hA;cases hA
              · exact h
            subst hs1
            exact bytesToString_run l xs hxs ad c f1 f2
        simp [execOp,ho,convert,run_underlying h1,run_underlying h2,ea,run_underlying hu,hconv]
      · exact hx.elim
    · exact hx.elim
  · rename_i e h1 h2
    split at hx
    · rename_i hu8 _
      obtain ⟨va,hx,ra⟩:=evV_rep hr hx
      unfold sbA at hx
      split at hx
      · rename_i s
        have hu:=isU8_spec hu8
        have ea:a.eval x=.string s:=rep_str.1 ra
        have k1:=Lib.run_convert_string_bytes (P:=P) w _ _ e s h1 h2 hu
        obtain ⟨k2,k3,k4⟩:=bytes_run hi e s
        obtain ⟨st',q1,q2⟩:=val_fine (v:=.slice (some ⟨w.heap.size,0,none⟩) s.size (grownCap w s.size 0 e)) (he.trans k2) k3 (hr.step k2) (hd.step k2) k4 hx
        refine ⟨_,_,st',H,.inl ?_,q1,q2⟩
        simp [execOp,ho,ea,k1]
      · exact hx.elim
    · exact hx.elim
  · exact hx.elim
theorem op_makeInterface {t:TypeId} {x:Operand} (ho:o.op=.makeInterface t x) (hx:opX P C S.N h o k st H):Fine P S o k a w:=by
  simp only [opX,ho] at hx
  split at hx
  · rename_i hc
    obtain ⟨v,hx,rv⟩:=evV_rep hr hx
    exact pure_op he hi hr hd (v:=.iface t (a.eval x)) (by simp [execOp,ho,run_makeInterface w t (a.eval x) hc]) (by simp only [Rep];exact ⟨_,rfl,rv⟩) hx
  · exact hx.elim
theorem op_typeAssert {x:Operand} {t1 t2:TypeId} {ok:Bool} (ho:o.op=.typeAssert x t1 t2 ok) (hx:opX P C S.N h o k st H):Fine P S o k a w:=by
  simp only [opX,ho] at hx
  split at hx
  · obtain ⟨v,hx,rv⟩:=evV_rep hr hx
    obtain ⟨r,h3,hx⟩:=ob_spec hx
    unfold asrtA at h3
    split at h3
    · rename_i t v
      simp only [Rep] at rv
      obtain ⟨u,ev,ru⟩:=rv
      split at h3
      · rename_i want j h4 h5
        split at h3
        · rename_i i h6 h7
          split at h3
          · rename_i h8
            simp only [Option.some.injEq] at h3;subst h3
            exact pure_op he hi hr hd (v:=.tuple #[.iface t u,.bool true]) (by simp [execOp,ho,ev,run_typeAssert_has h4 h7 (List.isEmpty_iff.1 h8)]) (by simp [Rep,RepL,simpleV];exact ru) hx
          · rename_i h8
            simp only [Option.some.injEq] at h3;subst h3
            exact pure_op he hi hr hd (v:=.tuple #[.nilIface,.bool false]) (by simp [execOp,ho,ev,run_typeAssert_lacks h4 h7 h5 h6 (fun e=>by rw [e] at h8;cases h8)]) (by simp [Rep,RepL,simpleV]) hx
        · cases h3
      · cases h3
    · cases h3
  · exact hx.elim
end ops
end Go.Hx

