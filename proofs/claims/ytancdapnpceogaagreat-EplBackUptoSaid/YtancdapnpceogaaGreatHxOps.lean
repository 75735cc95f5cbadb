/- Each operation of the abstract machine is met by the machine's own. Own work (session 1). -/
import Derived.Test.YtancdapnpceogaaGreatHxEval
namespace Go.Hx

section types
variable {P:Program}
theorem tyAgg_spec {t:TypeId} {agg:Bool} {sz:Nat} (h:tyAgg P t=some (agg,sz)):∃ d i,P.underlying t=some d∧P.info? t=some i∧i.size=sz∧agg=(match d with | .struct _=>true | .array _ _=>true | _=>false):=by
  unfold tyAgg at h
  cases hu:P.underlying t with
  | none=>simp [hu] at h
  | some d =>
    cases hi:P.info? t with
    | none=>simp [hu,hi] at h
    | some i=>simp only [hu,hi,Option.some.injEq,Prod.mk.injEq] at h;exact ⟨d,i,rfl,rfl,h.2,h.1.symm⟩
theorem run_isAgg {t:TypeId} {agg:Bool} {sz:Nat} (h:tyAgg P t=some (agg,sz)) (w:World):(isAgg t).run P w=.ok agg w:=by
  obtain ⟨d,i,hu,_,_,rfl⟩:=tyAgg_spec h
  cases d<;>simp [isAgg,run_underlying hu]
theorem run_sizeOf' {t:TypeId} {i:TypeInfo} (h:P.info? t=some i) (w:World):(sizeOf t).run P w=.ok i.size w:=by simp [sizeOf,typeInfo,h]
theorem run_sizeAgg {t:TypeId} {agg:Bool} {sz:Nat} (h:tyAgg P t=some (agg,sz)) (w:World):(sizeOf t).run P w=.ok sz w:=by
  obtain ⟨d,i,_,hi,rfl,_⟩:=tyAgg_spec h
  exact run_sizeOf' hi w
theorem sliceElem_spec {t e:TypeId} {sz by_:Nat} (h:sliceElem P t=some (e,sz,by_)):P.underlying t=some (.slice e)∧∃ i,P.info? e=some i∧i.size=sz∧i.bytes=by_:=by
  unfold sliceElem at h
  cases hu:P.underlying t with
  | none=>simp [hu] at h
  | some d =>
    cases d<;>simp [hu] at h
    rename_i e'
    cases hi:P.info? e' with
    | none=>simp [hi] at h
    | some i=>simp only [hi,Option.some.injEq,Prod.mk.injEq] at h;obtain ⟨rfl,h2,h3⟩:=h;exact ⟨rfl,i,hi,h2,h3⟩
theorem fieldOff_spec {t:TypeId} {f off sz:Nat} {ft:TypeId} (h:fieldOff P t f=some (off,sz,ft)):∃ fs fd i,P.underlying t=some (.struct fs)∧fs[f]?=some fd∧P.info? fd.type=some i∧fd.offset=off∧i.size=sz∧fd.type=ft:=by
  unfold fieldOff at h
  cases hu:P.underlying t with
  | none=>simp [hu] at h
  | some d =>
    cases d<;>simp [hu] at h
    rename_i fs
    cases hf:fs[f]? with
    | none=>simp [hf] at h
    | some fd =>
      simp only [hf] at h
      cases hi:P.info? fd.type with
      | none=>simp [hi] at h
      | some i=>simp only [hi,Option.some.injEq,Prod.mk.injEq] at h;exact ⟨fs,fd,i,rfl,hf,hi,h.1,h.2.1,h.2.2⟩
theorem add_lit' (b o n:Nat):(⟨b,o,none⟩:Addr).add n=⟨b,o+n,none⟩:=by
  unfold Addr.add;split<;>simp_all
end types

section memory
variable {P:Program} {Pi:Prot} {w:World}
theorem run_loadVar' {t:TypeId} {agg:Bool} {sz b base off:Nat} {cs:List AV} {vs:List Value} {r:AV} (hty:tyAgg P t=some (agg,sz)) (hr:RepL Pi w cs vs) (h1:∀ v ∈ vs,oneV v=true)
    (hc:∀ (i:Nat) v,vs[i]?=some v→w.cell? ⟨b,base+i,none⟩=some v) (hp:partA agg off sz cs=some r):∃ u,(loadVar t ⟨b,base+off,none⟩).run P w=.ok u w∧Rep Pi w r u:=by
  cases agg with
  | true =>
    simp only [partA] at hp
    split at hp
    · rename_i hlen
      simp only [Option.some.injEq] at hp;subst hp
      have hl:((vs.drop off).take sz).length=sz:=by
        have:=hr.length
        rw [List.length_take,List.length_drop];omega
      have hrun:=run_loadCells_list (P:=P) w ⟨b,base+off,none⟩ ((vs.drop off).take sz) (fun j v hj=>by
        rw [add_lit',Nat.add_assoc]
        refine hc (off+j) v ?_
        have hj':j < sz:=by
          rcases Nat.lt_or_ge j sz with h | h
          · exact h
          · rw [List.getElem?_eq_none (by rw [hl];exact h)] at hj;cases hj
        rw [List.getElem?_take_of_lt hj',List.getElem?_drop] at hj
        exact hj)
      rw [hl] at hrun
      refine ⟨.agg ((vs.drop off).take sz).toArray,?_,?_⟩
      · simp only [loadVar,Sem.run_bind,run_isAgg hty,Result.andThen_ok,if_true,run_sizeAgg hty,hrun,Sem.run_pure]
      · simp only [Rep]
        exact ⟨_,rfl,by simpa using RepL.take sz _ _ (RepL.drop off cs vs hr),fun v hv=>h1 v (List.mem_of_mem_drop (List.mem_of_mem_take (by simpa using hv)))⟩
    · cases hp
  | false =>
    simp only [partA] at hp
    obtain ⟨v,h2,h3⟩:=RepL.get cs vs hr off r hp
    refine ⟨v,?_,h3⟩
    simp only [loadVar,Sem.run_bind,run_isAgg hty,Result.andThen_ok,Bool.false_eq_true,if_false,run_load,hc off v h2]
theorem sized_spec {sz:Nat} {v:AV} {vs:List AV} {u:Value} (h:sizedA sz v=some vs) (hr:Rep Pi w v u):vs=cellsA v∧RepL Pi w vs u.cells.toList∧(∀ x ∈ u.cells.toList,oneV x=true)∧u.cells.size=sz∧(∀ l,u ≠ .tuple l)∧vs.length=sz:=by
  unfold sizedA at h
  split at h
  · rename_i hl
    have ht:∀ cs,v ≠ .tup cs:=fun cs e=>by subst e;simp at h
    have h':vs=cellsA v:=by cases v<;>simp_all
    obtain ⟨h2,h3,h4⟩:=hr.cells ht
    subst h'
    have:=h2.length
    refine ⟨rfl,h2,h3,by rw [← hl,← this];simp,h4,hl⟩
  · cases h
theorem run_storeVar' {t:TypeId} {agg:Bool} {sz b off:Nat} {cs cs' vs:List AV} {arr:Array Value} {e:TypeId} {v:AV} {u:Value} (hty:tyAgg P t=some (agg,sz)) (hw:w.heap[b]?=some (.cells arr e (0,0)))
    (hr:RepL Pi w cs arr.toList) (h1:∀ x ∈ arr.toList,oneV x=true) (hv:Rep Pi w v u) (hs:sizedA sz v=some vs) (hp:spliceA off vs cs=some cs') :
    ∃ arr':Array Value,arr'.size=arr.size∧(storeVar t ⟨b,off,none⟩ u).run P w=.ok () (w.setRow b arr')∧RepL Pi w cs' arr'.toList∧∀ x ∈ arr'.toList,oneV x=true:=by
  obtain ⟨rfl,g1,g2,g3,g4,g5⟩:=sized_spec hs hv
  unfold spliceA at hp
  split at hp
  · rename_i hl
    simp only [Option.some.injEq] at hp;subst hp
    have hcl:=hr.length
    have hvl:=g1.length
    have hst:=run_storeCells_at P b off e u.cells.toList 0 arr w hw (by simp at hcl hvl ⊢;omega) (fun x hx=>by rw [one_eq];exact g2 x hx)
    simp only [Nat.add_zero] at hst
    refine ⟨(arr.toList.take off++u.cells.toList++arr.toList.drop (off+u.cells.toList.length)).toArray,?_,?_,?_,?_⟩
    rotate_left
    · simp only [storeVar,Sem.run_bind,run_sizeAgg hty,Result.andThen_ok,g3,ne_eq,not_true_eq_false,if_false,hst,Sem.run_pure]
    · simp only []
      refine RepL.append _ _ _ _ (RepL.append _ _ _ _ (RepL.take off cs _ hr) g1) ?_
      rw [hvl]
      exact RepL.drop _ cs _ hr
    · intro x hx
      simp only [List.mem_append] at hx
      rcases hx with (hx | hx) | hx
      · exact h1 x (List.mem_of_mem_take hx)
      · exact g2 x hx
      · exact h1 x (List.mem_of_mem_drop hx)
    · simp at hcl hvl ⊢;omega
  · cases hp
end memory

theorem ldH_spec {H:Heap} {agg:Bool} {sz:Nat} {a r:AV} (h:ldH H agg sz a=some r):∃ b o cs,a=.raw (.pointer (some ⟨b,o,none⟩))∧H.objs b=some (.cells cs)∧partA agg o sz cs=some r:=by
  unfold ldH at h
  split at h
  · split at h
    · exact ⟨_,_,_,rfl,by assumption,h⟩
    · cases h
  · cases h
theorem stH_spec {H H':Heap} {sz:Nat} {a v:AV} (h:stH H sz a v=some H'):∃ b o cs vs cs',a=.raw (.pointer (some ⟨b,o,none⟩))∧H.objs b=some (.cells cs)∧sizedA sz v=some vs∧spliceA o vs cs=some cs'∧H'=H.setObj b (.cells cs'):=by
  unfold stH at h
  split at h
  · split at h
    · split at h
      · split at h
        · simp only [Option.some.injEq] at h
          exact ⟨_,_,_,_,_,rfl,by assumption,by assumption,by assumption,h.symm⟩
        · cases h
      · cases h
    · cases h
  · cases h

theorem cndA_spec {x:AV} {p q:Prop} (h:cndA x p q):(x=.raw (.bool true)∧p) ∨ (x=.raw (.bool false)∧q):=by
  unfold cndA at h
  split at h
  · exact .inl ⟨rfl,h⟩
  · exact .inr ⟨rfl,h⟩
  · exact h.elim

def Fro (ro:Option Nat):Fence:={ Fence.wide with round:=ro }
structure PK (P:Program):Prop where
  names : ∀ (f : Nat) (fn : Func), P.funcs[f]? = some fn → (fn.name == "runtime.NumGoroutine") = false
  mixed:P.follows .mixedOrders=true

/-- what a call must come to -/
def Told (Pi:Prot) (H:Heap) (w:World) (Q:Post) (e:Ending) (w':World):Prop :=
  ∃ v r H' Pi',e=.returned v∧Ext H Pi w H' Pi' w'∧Inv Pi' H' w'∧Rep Pi' w' r v∧Q r H'
def SoundC (P:Program):CallRel:=fun c args H Q =>
  match c with
  | .fn f=>(∃ fn c,P.funcs[f]?=some fn∧fn.body=some c)∧∀ (Pi:Prot) (w:World) (vs:Array Value),Inv Pi H w→RepL Pi w args vs.toList →
      CallsIn Fence.wide 0 P f vs w (Told Pi H w Q)
  | .yield l=>∀ (Pi:Prot) (w:World) (vs:Array Value),Inv Pi H w→RepL Pi w args vs.toList →
      ∃ f tmps asg body,(Instr.yield l vs).run P w=.ok (.round l f tmps asg body) w∧RoundIn Fence.wide 0 P l f tmps asg body w (Told Pi H w Q)

/-- the frame that began in w0 -/
structure Start where
  H0:Heap
  Pi0:Prot
  w0:World
  N:Nat
/-- the marks of loops over functions among the deferred calls -/
def Marks (B0:Nat) (H:Heap) (w:World) (ds:List Deferred):Prop :=
  ∃ rs:List Nat,ds.map (·.target)=rs.map Target.collected∧rs.Nodup∧∀ r ∈ rs,B0≤r∧H.fresh r∧w.heap[r]?=some (.deferred (some []))
theorem Marks.nil {B0:Nat} {H:Heap} {w:World}:Marks B0 H w []:=⟨[],rfl,.nil,fun _ h=>by cases h⟩
theorem Marks.step {B0:Nat} {H H':Heap} {Pi Pi':Prot} {w w':World} {ds:List Deferred} (hm:Marks B0 H w ds) (he:Ext H Pi w H' Pi' w'):Marks B0 H' w' ds:=by
  obtain ⟨rs,h1,h2,h3⟩:=hm
  refine ⟨rs,h1,h2,fun r hr=>?_⟩
  obtain ⟨k1,k2,k3⟩:=h3 r hr
  have hlt:r < w.heap.size:=(Array.getElem?_eq_some_iff.1 k3).1
  exact ⟨k1,⟨(he.dom r hlt).1 k2.1,(he.dom r hlt).2 k2.2⟩,(he.keep r hlt k2.1 k2.2).trans k3⟩
theorem Marks.set {B0:Nat} {H:Heap} {w:World} {ds:List Deferred} (hm:Marks B0 H w ds) {b:Nat} {vs vs':Array Value} {e:TypeId} {fr:Nat × Nat} (hb:w.heap[b]?=some (.cells vs e fr)):Marks B0 H (w.setRow b vs') ds:=by
  obtain ⟨rs,h1,h2,h3⟩:=hm
  refine ⟨rs,h1,h2,fun r hr=>?_⟩
  obtain ⟨k1,k2,k3⟩:=h3 r hr
  exact ⟨k1,k2,(setRow_other w b r vs' (fun e=>by subst e;rw [k3] at hb;cases hb)).trans k3⟩
def Good (S:Start) (st:St) (H:Heap) (a:Act) (w:World):Prop :=
  ∃ Pi β,Ext S.H0 S.Pi0 S.w0 H Pi w∧Inv Pi H w∧RelSt Pi H w S.w0.heap.size S.N st a.tmps β∧Marks S.w0.heap.size H w a.defers

section ops
variable {P:Program} {C:CallRel} {S:Start} {h:Hint} {o:Oper} {k:St→Heap→Prop} {st:St} {H:Heap} {a:Act} {w:World} {Pi:Prot} {β:Nat→Nat}

def Fine (P:Program) (S:Start) (o:Oper) (k:St→Heap→Prop) (a:Act) (w:World):Prop :=
  ∃ v w' st' H',((execOp a.eval o).run P w=.ok (.value v) w' ∨ ((execOp a.eval o).run P w=.ok .skip w'∧v=undef))∧Good S st' H' (a.put o.dst v) w'∧k st' H'

/-- a value that is no box goes into its slot -/
theorem put_fine (he:Ext S.H0 S.Pi0 S.w0 H Pi w) (hi:Inv Pi H w) (hr:RelSt Pi H w S.w0.heap.size S.N st a.tmps β) (hd:Marks S.w0.heap.size H w a.defers) {s:Slot} {v:Value} {dst:Option Tmp}
    (hv:RepS Pi w β 0 s v) (hs:s.isBox=false) (hl:∀ d' off,s=.loc d' off→(get st d').isBox=true) (hk:putS S.N dst s st fun st=>k st H) :
    ∃ st',Good S st' H (a.put dst v) w∧k st' H:=by
  cases dst with
  | none=>exact ⟨st,⟨Pi,β,he,hi,hr,hd⟩,hk⟩
  | some d =>
    simp only [putS] at hk
    split at hk
    · rename_i hc
      simp only [Bool.and_eq_true,Bool.not_eq_true'] at hc
      have hlt:d < S.N:=Nat.le_of_ble_eq_true hc.1
      exact ⟨_,⟨Pi,β,he,hi,hr.put hlt hc.2 hs hl hv,hd⟩,hk⟩
    · exact hk.elim
theorem val_fine (he:Ext S.H0 S.Pi0 S.w0 H Pi w) (hi:Inv Pi H w) (hr:RelSt Pi H w S.w0.heap.size S.N st a.tmps β) (hd:Marks S.w0.heap.size H w a.defers) {r:AV} {v:Value} {dst:Option Tmp}
    (hv:Rep Pi w r v) (hk:putS S.N dst (.val r) st fun st=>k st H):∃ st',Good S st' H (a.put dst v) w∧k st' H :=
  put_fine he hi hr hd (s:=.val r) hv rfl (fun _ _ h=>by cases h) hk
theorem undef_fine (he:Ext S.H0 S.Pi0 S.w0 H Pi w) (hi:Inv Pi H w) (hr:RelSt Pi H w S.w0.heap.size S.N st a.tmps β) (hd:Marks S.w0.heap.size H w a.defers) {v:Value} {dst:Option Tmp}
    (hk:putS S.N dst .undef st fun st=>k st H):∃ st',Good S st' H (a.put dst v) w∧k st' H :=
  put_fine he hi hr hd (s:=.undef) trivial rfl (fun _ _ h=>by cases h) hk
theorem nov_fine (he:Ext S.H0 S.Pi0 S.w0 H Pi w) (hi:Inv Pi H w) (hr:RelSt Pi H w S.w0.heap.size S.N st a.tmps β) (hd:Marks S.w0.heap.size H w a.defers) {dst:Option Tmp}
    (hk:putS S.N dst .nov st fun st=>k st H):∃ st',Good S st' H (a.put dst undef) w∧k st' H :=
  put_fine he hi hr hd (s:=.nov) rfl rfl (fun _ _ h=>by cases h) hk
/-- a new box -/
theorem box_fine (he:Ext S.H0 S.Pi0 S.w0 H Pi w) (hi:Inv Pi H w) (hr:RelSt Pi H w S.w0.heap.size S.N st a.tmps β) (hd:Marks S.w0.heap.size H w a.defers) {cs:List AV} {vs:Array Value} {e:TypeId} {dst:Option Tmp}
    (hv:RepL Pi w cs vs.toList) (h1:∀ v ∈ vs.toList,oneV v=true) (hk:putS S.N dst (.lbox cs) st fun st=>k st H) :
    ∃ st',Good S st' H (a.put dst (.pointer (some ⟨w.heap.size,0,none⟩))) (w.alloc (.cells vs e))∧k st' H:=by
  have he':=Ext.alloc hi (.cells vs e)
  have hi':=hi.alloc (.cells vs e)
  have hr':=hr.step he'
  cases dst with
  | none=>exact ⟨st,⟨Pi,β,he.trans he',hi',hr',hd.step he'⟩,hk⟩
  | some d =>
    simp only [putS] at hk
    split at hk
    · rename_i hc
      simp only [Bool.and_eq_true,Bool.not_eq_true'] at hc
      have hlt:d < S.N:=Nat.le_of_ble_eq_true hc.1
      refine ⟨_,⟨Pi,_,he.trans he',hi',hr'.putBox hlt hc.2 he.size hi.fresh_new (fun t ht heq=>?_) (newObj_at hi vs e cs hv h1),hd.step he'⟩,hk⟩
      have hs:=hr.slot t
      cases hg:get st t with
      | lbox cs' =>
        rw [hg] at hs
        obtain ⟨_,vs',e',h3,_⟩:=hs
        have:=(Array.getElem?_eq_some_iff.1 h3).1
        omega
      | _=>rw [hg] at ht;cases ht
    · exact hk.elim
/-- a new object of the abstract heap -/
theorem newH_fine (he:Ext S.H0 S.Pi0 S.w0 H Pi w) (hi:Inv Pi H w) (hr:RelSt Pi H w S.w0.heap.size S.N st a.tmps β) (hd:Marks S.w0.heap.size H w a.defers) {cs:List AV} {vs:Array Value} {e:TypeId} {dst:Option Tmp}
    (hv:RepL Pi w cs vs.toList) (h1:∀ v ∈ vs.toList,oneV v=true) (hk:newH H cs fun r H=>putS S.N dst (.val r) st fun st=>k st H) :
    ∃ st' H',Good S st' H' (a.put dst (.pointer (some ⟨w.heap.size,0,none⟩))) (w.alloc (.cells vs e))∧k st' H':=by
  have he':=Ext.newObj hi (.cells vs e) (.cells cs)
  have hi':=hi.newObj (.cells vs e) (.cells cs) (newObj_at hi vs e cs hv h1)
  obtain ⟨st',h2,h3⟩:=val_fine (k:=k) (dst:=dst) (v:=.pointer (some ⟨w.heap.size,0,none⟩)) (he.trans he') hi' (hr.step he') (hd.step he') (r:=.raw (.pointer (some ⟨w.heap.size,0,none⟩))) (by simp [Rep,simpleV]) (hk w.heap.size hi.fresh_new)
  exact ⟨st',_,h2,h3⟩
/-- a new object whose block's type is kept in mind -/
theorem newT_fine (he:Ext S.H0 S.Pi0 S.w0 H Pi w) (hi:Inv Pi H w) (hr:RelSt Pi H w S.w0.heap.size S.N st a.tmps β) (hd:Marks S.w0.heap.size H w a.defers) {cs:List AV} {vs:Array Value} {e:TypeId} {dst:Option Tmp}
    (hv:RepL Pi w cs vs.toList) (h1:∀ v ∈ vs.toList,oneV v=true) (hk:newT H e cs fun r H=>putS S.N dst (.val r) st fun st=>k st H) :
    ∃ st' H',Good S st' H' (a.put dst (.pointer (some ⟨w.heap.size,0,none⟩))) (w.alloc (.cells vs e))∧k st' H':=by
  have he':=(Ext.newObj hi (.cells vs e) (.cells cs)).setTy w.heap.size e
  have hi':=(hi.newObj (.cells vs e) (.cells cs) (newObj_at hi vs e cs hv h1)).setTy (e:=e) (alloc_new w (.cells vs e))
  obtain ⟨st',h2,h3⟩:=val_fine (k:=k) (dst:=dst) (v:=.pointer (some ⟨w.heap.size,0,none⟩)) (he.trans he') hi' (hr.step he') (hd.step he') (r:=.raw (.pointer (some ⟨w.heap.size,0,none⟩))) (by simp [Rep,simpleV]) (hk w.heap.size hi.fresh_new)
  exact ⟨st',_,h2,h3⟩
theorem ob_spec {α:Type} {x:Option α} {k:α→Prop} (h:ob x k):∃ v,x=some v∧k v:=by
  cases x with
  | none=>exact h.elim
  | some v=>exact ⟨v,rfl,h⟩

section
variable (he:Ext S.H0 S.Pi0 S.w0 H Pi w) (hi:Inv Pi H w) (hr:RelSt Pi H w S.w0.heap.size S.N st a.tmps β) (hd:Marks S.w0.heap.size H w a.defers)
include he hi hr hd

theorem op_move {x:Operand} (ho:o.op=.move x ∨ o.op=.assign x) (hx:opX P C S.N h o k st H):Fine P S o k a w:=by
  have h1:(execOp a.eval o).run P w=.ok (.value (a.eval x)) w:=by rcases ho with ho | ho<;>simp [execOp,ho]
  obtain ⟨h2,h3,h4⟩:=ev_rep hr x
  have h5:putS S.N o.dst (ev st x) st fun st=>k st H:=by
    rcases ho with ho | ho<;>simp only [opX,ho] at hx<;>(cases he':ev st x<;>rw [he'] at hx<;>first | exact hx | exact hx.elim)
  obtain ⟨st',g1,g2⟩:=put_fine he hi hr hd h2 h3 h4 h5
  exact ⟨_,w,st',H,.inl h1,g1,g2⟩
theorem op_pick {c x y:Operand} (ho:o.op=.pick c x y) (hx:opX P C S.N h o k st H):Fine P S o k a w:=by
  simp only [opX,ho] at hx
  obtain ⟨vc,hx1,rc⟩:=evV_rep hr hx
  rcases cndA_spec hx1 with ⟨rfl,hx2⟩ | ⟨rfl,hx2⟩
  · obtain ⟨va,hx3,ra⟩:=evV_rep hr hx2
    simp only [Rep] at rc
    obtain ⟨st',g1,g2⟩:=val_fine he hi hr hd ra hx3
    exact ⟨_,w,st',H,.inl (by simp [execOp,ho,rc.1,asBool]),g1,g2⟩
  · obtain ⟨va,hx3,ra⟩:=evV_rep hr hx2
    simp only [Rep] at rc
    obtain ⟨st',g1,g2⟩:=val_fine he hi hr hd ra hx3
    exact ⟨_,w,st',H,.inl (by simp [execOp,ho,rc.1,asBool]),g1,g2⟩
theorem op_alloc {e:TypeId} (ho:o.op=.alloc e) (hx:opX P C S.N h o k st H):Fine P S o k a w:=by
  simp only [opX,ho] at hx
  unfold zeroCells at hx
  cases hinf:P.info? e with
  | none=>simp [hinf] at hx
  | some i =>
    cases hz:i.zero with
    | none=>simp [hinf,hz] at hx
    | some z =>
      cases hc:constAV z with
      | none=>simp [hinf,hz,hc] at hx
      | some x =>
        simp only [hinf,hz,hc,Option.map_some] at hx
        have hrep:=const_rep (Pi:=Pi) (w:=w) z x hc
        have hnt:∀ cs,x ≠ .tup cs:=fun cs e=>by
          subst e
          simp only [Rep] at hrep
          obtain ⟨vs,rfl,_⟩:=hrep
          simp [constAV] at hc
        obtain ⟨g1,g2,_⟩:=hrep.cells hnt
        have hrun:(execOp a.eval o).run P w=.ok (.value (.pointer (some ⟨w.heap.size,0,none⟩))) (w.alloc (.cells z.cells e)):=by
          simp [execOp,ho,Instr.alloc,zeroValue,typeInfo,hinf,hz,newVar,newRow]
        split at hx
        · split at hx
          · obtain ⟨st',H',k1,k2⟩:=newT_fine he hi hr hd (e:=e) g1 g2 hx
            exact ⟨_,_,st',H',.inl hrun,k1,k2⟩
          · obtain ⟨st',H',k1,k2⟩:=newH_fine he hi hr hd (e:=e) g1 g2 hx
            exact ⟨_,_,st',H',.inl hrun,k1,k2⟩
        · obtain ⟨st',k1,k2⟩:=box_fine he hi hr hd (e:=e) g1 g2 hx
          exact ⟨_,_,st',H,.inl hrun,k1,k2⟩
theorem op_box {e:TypeId} {x:Operand} (ho:o.op=.box e x) (hx:opX P C S.N h o k st H):Fine P S o k a w:=by
  simp only [opX,ho] at hx
  split at hx
  · rename_i sz hty
    obtain ⟨v,hx,rv⟩:=evV_rep hr hx
    obtain ⟨cs,h1,hx⟩:=ob_spec hx
    obtain ⟨rfl,g1,g2,g3,g4,g5⟩:=sized_spec h1 rv
    have hrun:(execOp a.eval o).run P w=.ok (.value (.pointer (some ⟨w.heap.size,0,none⟩))) (w.alloc (.cells (a.eval x).cells e)):=by
      simp [execOp,ho,Instr.box,newVar,newRow]
    split at hx
    · split at hx
      · obtain ⟨st',H',k1,k2⟩:=newT_fine he hi hr hd (e:=e) g1 g2 hx
        exact ⟨_,_,st',H',.inl hrun,k1,k2⟩
      · obtain ⟨st',H',k1,k2⟩:=newH_fine he hi hr hd (e:=e) g1 g2 hx
        exact ⟨_,_,st',H',.inl hrun,k1,k2⟩
    · obtain ⟨st',k1,k2⟩:=box_fine he hi hr hd (e:=e) g1 g2 hx
      exact ⟨_,_,st',H,.inl hrun,k1,k2⟩
  · exact hx.elim
theorem op_load {t:TypeId} {x:Operand} (ho:o.op=.load t x) (hx:opX P C S.N h o k st H):Fine P S o k a w:=by
  simp only [opX,ho] at hx
  split at hx
  · rename_i agg sz hty
    obtain ⟨h2,_,_⟩:=ev_rep hr x
    have fin:∀ (b base off:Nat) (cs:List AV) (vs:List Value) (r:AV),a.eval x=.pointer (some ⟨b,base+off,none⟩)→RepL Pi w cs vs→(∀ v ∈ vs,oneV v=true) →
        (∀ (i:Nat) v,vs[i]?=some v→w.cell? ⟨b,base+i,none⟩=some v)→partA agg off sz cs=some r→(putS S.N o.dst (.val r) st fun st=>k st H)→Fine P S o k a w:=by
      intro b base off cs vs r hev g1 g2 g3 g4 g5
      obtain ⟨u,hu,hru⟩:=run_loadVar' hty g1 g2 g3 g4
      obtain ⟨st',k1,k2⟩:=val_fine he hi hr hd hru g5
      exact ⟨u,w,st',H,.inl (by simp [execOp,ho,Instr.loadAt,hev,Instr.sureAddr,hu]),k1,k2⟩
    split at hx
    · rename_i b off hev
      rw [hev] at h2
      split at hx
      · rename_i cs hg
        obtain ⟨r,h1,hx⟩:=ob_spec hx
        have hs:=hr.slot b
        rw [hg] at hs
        obtain ⟨_,vs,e,h3,h4,h5,h6⟩:=hs
        exact fin (β b) 0 off cs vs.toList r (by simpa [RepS] using h2) h4 h5 (fun i v hv=>by simp only [World.cell?,h3];simpa using hv) h1 hx
      · exact hx.elim
    · rename_i cs hev
      rw [hev] at h2
      obtain ⟨r,h1,hx⟩:=ob_spec hx
      obtain ⟨b,off,vs,h3,h4,h5,h6⟩:=h2
      exact fin b off 0 cs vs r (by simpa using h3) h4 h5 (fun i v hv=>(h6 i v hv).2) h1 hx
    · rename_i p hev
      rw [hev] at h2
      obtain ⟨r,h1,hk⟩:=ob_spec hx
      obtain ⟨b,o',cs,rfl,hobj,h1⟩:=ldH_spec h1
      obtain ⟨vs,e,h3,h4,h5,h6⟩:=hi.objs b _ hobj
      simp only [RepS,Rep] at h2
      exact fin b 0 o' cs vs.toList r (by rw [h2.1];simp) h4 h5 (fun i v hv=>by simp only [World.cell?,h3];simpa using hv) h1 hk
    · exact hx.elim
  · exact hx.elim
theorem op_store {t:TypeId} {x y:Operand} (ho:o.op=.store t x y) (hx:opX P C S.N h o k st H):Fine P S o k a w:=by
  simp only [opX,ho] at hx
  split at hx
  · rename_i agg sz hty
    obtain ⟨h2,_,_⟩:=ev_rep hr x
    split at hx
    · rename_i b off hev
      rw [hev] at h2
      split at hx
      · rename_i cs hg
        obtain ⟨v,hx,rv⟩:=evV_rep hr hx
        obtain ⟨vs,h1,hx⟩:=ob_spec hx
        obtain ⟨cs',h3,hx⟩:=ob_spec hx
        have hs:=hr.slot b
        rw [hg] at hs
        obtain ⟨_,arr,e,h4,h5,h6,h7⟩:=hs
        obtain ⟨arr',k1,k2,k3,k4⟩:=run_storeVar' hty h4 h5 h6 rv h1 h3
        have hf:H.fresh (β b):=(hr.box b (by rw [hg];rfl)).2
        obtain ⟨hl,hi'⟩:=setRow_box hi hf h4 k1 h7
        have hr':=hr.setBox hg h4 k1 h7 hl k3 k4
        have hB:=(hr.box b (by rw [hg];rfl)).1
        have he':Ext S.H0 S.Pi0 S.w0 H Pi (w.setRow (β b) arr') :=
          ⟨by simpa using he.size,he.os,he.tape,he.output,fun x hx h1 h2=>(setRow_other w _ x arr' (fun e=>by omega)).trans (he.keep x hx h1 h2),he.later.trans hl,he.dom,he.newPi⟩
        obtain ⟨st',g1,g2⟩:=undef_fine (v:=undef) he' hi' hr' (hd.set h4) hx
        refine ⟨undef,_,st',H,.inr ⟨?_,rfl⟩,g1,g2⟩
        simp only [RepS] at h2
        simp [execOp,ho,Instr.storeAt,h2,Instr.sureAddr,k2]
      · exact hx.elim
    · rename_i p hev
      rw [hev] at h2
      obtain ⟨v,hx,rv⟩:=evV_rep hr hx
      obtain ⟨H',h1,hk⟩:=ob_spec hx
      obtain ⟨b,o',cs,vs,cs',rfl,hobj,hvs,hcs,rfl⟩:=stH_spec h1
      obtain ⟨arr,e,h3,h4,h5,h6⟩:=hi.objs b _ hobj
      obtain ⟨arr',k1,k2,k3,k4⟩:=run_storeVar' hty h3 h4 h5 rv hvs hcs
      obtain ⟨he',hi'⟩:=setRow_obj hi hobj h3 k1 h6 k3 k4
      obtain ⟨st',g1,g2⟩:=undef_fine (v:=undef) (he.trans he') hi' (hr.step he') (hd.step he') hk
      refine ⟨undef,_,st',_,.inr ⟨?_,rfl⟩,g1,g2⟩
      simp only [RepS,Rep] at h2
      simp [execOp,ho,Instr.storeAt,h2.1,Instr.sureAddr,k2]
    · exact hx.elim
  · exact hx.elim
theorem op_nilCheck {x:Operand} (ho:o.op=.nilCheck x) (hx:opX P C S.N h o k st H):Fine P S o k a w:=by
  simp only [opX,ho] at hx
  obtain ⟨h2,h3,h4⟩:=ev_rep hr x
  split at hx
  · rename_i v hev
    rw [hev] at h2
    obtain ⟨r,h1,hx⟩:=ob_spec hx
    have:Rep Pi w r (a.eval x)∧(execOp a.eval o).run P w=.ok (.value (a.eval x)) w:=by
      unfold nilA at h1
      split at h1
      · simp only [Option.some.injEq] at h1;subst h1
        refine ⟨h2,?_⟩
        simp only [RepS,Rep] at h2
        simp [execOp,ho,h2.1]
      · simp only [Option.some.injEq] at h1;subst h1
        refine ⟨h2,?_⟩
        simp only [RepS,Rep] at h2
        obtain ⟨u1,u2,h2,_⟩:=h2
        simp [execOp,ho,h2]
      · simp only [Option.some.injEq] at h1;subst h1
        refine ⟨h2,?_⟩
        simp only [RepS,Rep] at h2
        obtain ⟨u1,u2,h2,_⟩:=h2
        simp [execOp,ho,h2]
      · cases h1
    obtain ⟨st',g1,g2⟩:=val_fine he hi hr hd this.1 hx
    exact ⟨_,w,st',H,.inl this.2,g1,g2⟩
  · rename_i b off hev
    have hv:=h2
    rw [hev] at h2
    obtain ⟨st',g1,g2⟩:=put_fine he hi hr hd h2 rfl (fun d' off' h=>h4 d' off' (by rw [hev];exact h)) hx
    simp only [RepS] at h2
    exact ⟨_,w,st',H,.inl (by simp [execOp,ho,h2]),g1,g2⟩
  · rename_i cs hev
    rw [hev] at h2
    obtain ⟨st',g1,g2⟩:=put_fine he hi hr hd h2 rfl (fun d' off' h=>by cases h) hx
    obtain ⟨b,off,vs,h2,_⟩:=h2
    exact ⟨_,w,st',H,.inl (by simp [execOp,ho,h2]),g1,g2⟩
  · exact hx.elim
end
end ops
end Go.Hx

