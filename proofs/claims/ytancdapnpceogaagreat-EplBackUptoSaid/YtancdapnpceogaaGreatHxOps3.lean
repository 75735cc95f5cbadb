/- Operations, third part: slices, literals, append, calls. Own work (session 1). -/
import Derived.Test.YtancdapnpceogaaGreatHxOps2
namespace Go.Hx

def RowOf (Pi:Prot) (w:World) (sz:Nat):List AV→List Value→Prop
  | [],l=>l=[]
  | x::xs,l=>∃ u r,l=u.cells.toList++r∧Rep Pi w x u∧(∀ l,u ≠ .tuple l)∧u.cells.size=sz∧(∀ v ∈ u.cells.toList,oneV v=true)∧RowOf Pi w sz xs r
section rows
variable {Pi Pi':Prot} {w w':World} {sz:Nat}
theorem RowOf.length:∀ {xs:List AV} {l:List Value},RowOf Pi w sz xs l→l.length=xs.length * sz
  | [],l,h=>by simp only [RowOf] at h;simp [h]
  | x::xs,l,h=>by
    simp only [RowOf] at h
    obtain ⟨u,r,rfl,_,_,h4,_,h6⟩:=h
    have:=RowOf.length h6
    simp only [List.length_append,Array.length_toList,h4,this,List.length_cons,Nat.add_mul];omega
theorem RowOf.one:∀ {xs:List AV} {l:List Value},RowOf Pi w sz xs l→∀ v ∈ l,oneV v=true
  | [],l,h=>by simp only [RowOf] at h;simp [h]
  | x::xs,l,h=>by
    simp only [RowOf] at h
    obtain ⟨u,r,rfl,_,_,_,h5,h6⟩:=h
    intro v hv
    rcases List.mem_append.1 hv with hv | hv
    · exact h5 v hv
    · exact RowOf.one h6 v hv
theorem RowOf.later (hl:Later Pi w Pi' w'):∀ {xs:List AV} {l:List Value},RowOf Pi w sz xs l→RowOf Pi' w' sz xs l
  | [],l,h=>h
  | x::xs,l,h=>by
    simp only [RowOf] at h ⊢
    obtain ⟨u,r,h1,h2,h3,h4,h5,h6⟩:=h
    exact ⟨u,r,h1,Rep.later hl _ _ h2,h3,h4,h5,RowOf.later hl h6⟩
theorem RowOf.append:∀ {xs ys:List AV} {l r:List Value},RowOf Pi w sz xs l→RowOf Pi w sz ys r→RowOf Pi w sz (xs++ys) (l++r)
  | [],ys,l,r,h,h'=>by simp only [RowOf] at h;subst h;simpa using h'
  | x::xs,ys,l,r,h,h'=>by
    simp only [RowOf,List.cons_append] at h ⊢
    obtain ⟨u,q,rfl,h2,h3,h4,h5,h6⟩:=h
    exact ⟨u,q++r,by simp,h2,h3,h4,h5,RowOf.append h6 h'⟩
theorem RowOf.place:∀ {xs:List AV} {l:List Value} (b off:Nat),RowOf Pi w sz xs l→(∀ (j:Nat) v,l[j]?=some v→Pi b (off+j)∧w.cell? ⟨b,off+j,none⟩=some v)→RepRow Pi w b off sz xs
  | [],l,b,off,h,h'=>by simp [RepRow]
  | x::xs,l,b,off,h,h'=>by
    simp only [RowOf] at h
    obtain ⟨u,r,rfl,h2,h3,h4,h5,h6⟩:=h
    simp only [RepRow]
    refine ⟨⟨u,h2,h3,h4,fun j v hj=>h' j v ?_⟩,RowOf.place b (off+sz) h6 (fun j v hj=>?_)⟩
    · rw [List.getElem?_append_left]
      · simpa using hj
      · rcases Nat.lt_or_ge j u.cells.size with h | h
        · simpa using h
        · rw [Array.getElem?_eq_none h] at hj;cases hj
    · have:=h' (sz+j) v (by rw [List.getElem?_append_right (by simp [h4])];simpa [h4] using hj)
      rw [Nat.add_assoc];exact this
theorem RepRow.row:∀ {xs:List AV} {b off:Nat},RepRow Pi w b off sz xs→∃ l,RowOf Pi w sz xs l∧∀ (j:Nat) v,l[j]?=some v→Pi b (off+j)∧w.cell? ⟨b,off+j,none⟩=some v
  | [],b,off,h=>⟨[],rfl,fun j v h=>by simp at h⟩
  | x::xs,b,off,h=>by
    simp only [RepRow] at h
    obtain ⟨⟨u,h1,h2,h3,h4⟩,h5⟩:=h
    obtain ⟨l,g1,g2⟩:=RepRow.row h5
    have hnt:∀ cs,x ≠ .tup cs:=fun cs e=>by
      subst e;simp only [Rep] at h1;obtain ⟨vs,e,_⟩:=h1;exact h2 _ e
    refine ⟨u.cells.toList++l,?_,fun j v hj=>?_⟩
    · simp only [RowOf];exact ⟨u,l,rfl,h1,h2,h3,(h1.cells hnt).2.1,g1⟩
    · by_cases hlt:j < sz
      · rw [List.getElem?_append_left (by simp [h3,hlt])] at hj
        exact h4 j v (by simpa using hj)
      · rw [List.getElem?_append_right (by simp [h3];omega)] at hj
        have:=g2 (j - sz) v (by simpa [h3] using hj)
        rw [show off+sz+(j - sz)=off+j by omega] at this
        exact this
/-- the elements of a slice value -/
theorem Rep.rowOf {sz':Nat} {nil:Bool} {tip:Tip} {xs:List AV} {u:Value} (h:Rep Pi w (.sl sz' nil tip xs) u) (hs:nil=true ∨ sz'=sz) :
    ∃ A c l,u=.slice A xs.length c∧xs.length≤c∧RowOf Pi w sz xs l∧(A=none→c=0∧xs=[])∧(nil=A.isNone)∧(tip=.full→c=xs.length) ∧
      (∀ ad,A=some ad→(xs ≠ []→ad.spot=none)∧∀ (j:Nat) v,l[j]?=some v→Pi ad.block (ad.off+j)∧w.cell? ⟨ad.block,ad.off+j,none⟩=some v) ∧
      (∀ b,tip=.tip b→A=some ⟨b,0,none⟩∧∃ vs e fr,w.heap[b]?=some (.cells vs e fr)∧vs.size=c * sz'):=by
  simp only [Rep] at h
  obtain ⟨A,c,h1,h2,h3,h4,h5,h6,h7⟩:=h
  cases A with
  | none =>
    have hc:=h4 rfl
    have hx:xs=[]:=by cases xs<;>simp_all
    exact ⟨none,c,[],h1,h2,by rw [hx];rfl,(fun _=>⟨hc,hx⟩),h3,h5,(fun ad h=>by cases h),h7⟩
  | some ad =>
    have hs' : sz' = sz := by rcases hs with hs | hs
                              · rw [hs] at h3;cases h3
                              · exact hs
    subst hs'
    obtain ⟨g1,g2⟩:=h6 ad rfl
    obtain ⟨l,k1,k2⟩:=g2.row
    exact ⟨some ad,c,l,h1,h2,k1,(fun h=>by cases h),h3,h5,(fun ad' h=>by cases h;exact ⟨g1,k2⟩),h7⟩
end rows

section ops
variable {P:Program} {C:CallRel} {S:Start} {h:Hint} {o:Oper} {k:St→Heap→Prop} {st:St} {H:Heap} {a:Act} {w:World} {Pi:Prot} {β:Nat→Nat}

def RepO (Pi:Prot) (w:World) (x:Option AV) (u:Option Value):Prop:=(x=none∧u=none) ∨ ∃ y v,x=some y∧u=some v∧Rep Pi w y v
theorem intOf_spec {d i:Int} {x:Option AV} {u:Option Value} (h:intOfA d x=some i) (hr:RepO Pi w x u):(x=none∧u=none∧i=d) ∨ u=some (.int .i64 i):=by
  rcases hr with ⟨rfl,rfl⟩ | ⟨y,v,rfl,rfl,hr⟩
  · simp only [intOfA,Option.some.injEq] at h;exact .inl ⟨rfl,rfl,h.symm⟩
  · unfold intOfA at h
    split at h
    · rename_i e;cases e
    · rename_i kk e
      simp only [Option.some.injEq] at e h;subst e h
      rw [rep_int] at hr;exact .inr (by rw [hr])
    · cases h
theorem bound_run {i:Int} {y:Nat} {code:BoundsCode} (h0:0≤i) (h1:i≤y):(Instr.sliceBound (.int .i64 i) y code).run P w=.ok i.toNat w:=by
  simp [Instr.sliceBound,asIntOf,h0,h1]
theorem sliceBounds_run {isSlice:Bool} {len cap:Nat} {low high mx:Option Value} {l hh m:Int} (hlen:len≤cap)
    (hl:(low=none∧l=0) ∨ low=some (.int .i64 l)) (hhh:(high=none∧mx=none∧hh=len) ∨ high=some (.int .i64 hh)) (hm:(mx=none∧m=cap) ∨ mx=some (.int .i64 m))
    (b0:0≤l) (b1:l≤hh) (b2:hh≤m) (b3:m≤cap):(Instr.sliceBounds isSlice len cap low high mx).run P w=.ok (l.toNat,hh.toNat,m.toNat) w:=by
  have e2:hh≤(m.toNat:Int):=by omega
  have e1:l≤(hh.toNat:Int):=by omega
  unfold Instr.sliceBounds
  rcases hm with ⟨rfl,rfl⟩ | rfl
  · rcases hhh with ⟨rfl,_,rfl⟩ | rfl
    · rcases hl with ⟨rfl,rfl⟩ | rfl
      · simp
      · simp [bound_run (P:=P) (w:=w) b0 b1]
    · rcases hl with ⟨rfl,rfl⟩ | rfl
      · simp [bound_run (P:=P) (w:=w) (i:=hh) (y:=cap) (by omega) (by omega)]
      · simp [bound_run (P:=P) (w:=w) (i:=hh) (y:=cap) (by omega) (by omega),bound_run (P:=P) (w:=w) b0 e1]
  · rcases hhh with ⟨_,h,_⟩ | rfl
    · cases h
    · rcases hl with ⟨rfl,rfl⟩ | rfl
      · simp [bound_run (P:=P) (w:=w) (i:=m) (y:=cap) (by omega) (by omega),bound_run (P:=P) (w:=w) (i:=hh) (y:=m.toNat) (by omega) e2]
      · simp [bound_run (P:=P) (w:=w) (i:=m) (y:=cap) (by omega) (by omega),bound_run (P:=P) (w:=w) (i:=hh) (y:=m.toNat) (by omega) e2,bound_run (P:=P) (w:=w) b0 e1]
theorem sliceSA_spec {x:AV} {lo hi:Option AV} {r:AV} (h:sliceSA x lo hi=some r) :
    ∃ s l u,x=.raw (.string s)∧intOfA 0 lo=some l∧intOfA s.size hi=some u∧0≤l∧l≤u∧u≤s.size∧r=.raw (.string (s.extract l.toNat u.toNat)):=by
  unfold sliceSA at h
  split at h
  · split at h
    · split at h
      · rename_i l u h1 h2 h3
        simp only [Option.some.injEq] at h
        exact ⟨_,l,u,rfl,h1,h2,h3.1,h3.2.1,h3.2.2,h.symm⟩
      · cases h
    · cases h
  · cases h
theorem slArr_spec {n:Nat} {x lo:AV} {H:Heap} {K:Post} (h:slArr n x lo H K):∃ b k cs,x=.raw (.pointer (some ⟨b,0,none⟩))∧lo=.raw (.int .i64 k)∧H.objs b=some (.cells cs)∧cs.length=n∧0≤k∧k≤n∧K (.sl 1 false .any (cs.drop k.toNat)) (H.dropObj b):=by
  unfold slArr at h
  split at h
  · split at h
    · rename_i hb
      exact ⟨_,_,_,rfl,rfl,hb,h⟩
    · exact h.elim
  · exact h.elim
theorem row1 {b:Nat}:∀ (off:Nat) (cs:List AV) (vs:List Value),RepL Pi w cs vs→(∀ v ∈ vs,oneV v=true)→(∀ (j:Nat) v,vs[j]?=some v→Pi b (off+j)∧w.cell? ⟨b,off+j,none⟩=some v)→RepRow Pi w b off 1 cs
  | off,[],vs,h,_,_=>by simp [RepRow]
  | off,x::cs,vs,h,h1,h2=>by
    simp only [RepL] at h
    obtain ⟨v,r,rfl,g1,g2⟩:=h
    have ho:=h1 v (by simp)
    have hc:v.cells=#[v]:=by cases v<;>simp_all [oneV,Value.cells]
    simp only [RepRow]
    refine ⟨⟨v,g1,fun l e=>(by subst e;cases ho),(by rw [hc];rfl),fun j u hj=>?_⟩,row1 (off+1) cs r g2 (fun u hu=>h1 u (by simp [hu])) (fun j u hj=>?_)⟩
    · rw [hc] at hj
      cases j with
      | zero=>simp at hj;subst hj;exact h2 0 v rfl
      | succ j=>simp at hj
    · have:=h2 (j+1) u (by simpa using hj)
      rw [show off+1+j=off+(j+1) by omega];exact this
theorem sliceA_sl {sz sz':Nat} {nil:Bool} {tip:Tip} {xs:List AV} {lo hi mx:Option AV} {r:AV} (h:sliceA sz (.sl sz' nil tip xs) lo hi mx=some r) :
    (nil=true ∨ sz'=sz)∧∃ l u tip',intOfA 0 lo=some l∧intOfA xs.length hi=some u∧0≤l∧l≤u∧u≤xs.length∧r=.sl sz' nil tip' ((xs.take u.toNat).drop l.toNat) ∧
      ((mx=none∧tip'=.any) ∨ (mx=some (.raw (.int .i64 u))∧hi ≠ none∧tip'=.full)):=by
  simp only [sliceA] at h
  split at h
  · rename_i hs
    split at h
    · rename_i l u h1 h2
      split at h
      · rename_i h3
        refine ⟨hs,l,u,?_⟩
        split at h
        · simp only [Option.some.injEq] at h
          exact ⟨.any,h1,h2,h3.1,h3.2.1,h3.2.2,h.symm,.inl ⟨rfl,rfl⟩⟩
        · split at h
          · rename_i hm
            simp only [Option.some.injEq] at h;subst hm
            exact ⟨.full,h1,h2,h3.1,h3.2.1,h3.2.2,h.symm,.inr ⟨rfl,by simp,rfl⟩⟩
          · cases h
        · cases h
      · cases h
    · cases h
  · cases h
theorem sliceA_kind {sz:Nat} {x r:AV} {lo hi mx:Option AV} (h:sliceA sz x lo hi mx=some r):∃ sz' nil tip xs,x=.sl sz' nil tip xs:=by
  unfold sliceA at h
  split at h
  · exact ⟨_,_,_,_,rfl⟩
  · cases h
theorem evO_repO (hr:RelSt Pi H w S.w0.heap.size S.N st a.tmps β) {x:Option Operand} {k:Option AV→Prop} (h:evO st x k):∃ y,k y∧RepO Pi w y (x.map a.eval):=by
  rcases evO_rep hr h with ⟨rfl,h⟩ | ⟨y,v,rfl,h,hv⟩
  · exact ⟨none,h,.inl ⟨rfl,rfl⟩⟩
  · exact ⟨some v,h,.inr ⟨v,_,rfl,rfl,hv⟩⟩

section
variable (he:Ext S.H0 S.Pi0 S.w0 H Pi w) (hi:Inv Pi H w) (hr:RelSt Pi H w S.w0.heap.size S.N st a.tmps β) (hd:Marks S.w0.heap.size H w a.defers)
include he hi hr hd
theorem op_slice {t:TypeId} {x:Operand} {lo hi' mx:Option Operand} (ho:o.op=.slice t x lo hi' mx) (hx:opX P C S.N h o k st H):Fine P S o k a w:=by
  simp only [opX,ho] at hx
  split at hx
  · rename_i hu
    obtain ⟨va,hx1,ra⟩:=evV_rep hr hx
    obtain ⟨vl,hx2,rl⟩:=evO_repO hr hx1
    obtain ⟨vh,hx3,rh⟩:=evO_repO hr hx2
    obtain ⟨r,l1,hx4⟩:=ob_spec hx3
    have hmx:mx=none:=by cases mx with | none=>rfl | some _=>exact hx4.elim
    subst hmx
    clear hx hx1 hx2 hx3
    obtain ⟨s,l,u,rfl,h1,h2,b0,b1,b2,rfl⟩:=sliceSA_spec l1
    rw [rep_str] at ra
    have hb:=sliceBounds_run (P:=P) (w:=w) (isSlice:=false) (len:=s.size) (cap:=s.size) (low:=lo.map a.eval) (high:=hi'.map a.eval) (mx:=none) (l:=l) (hh:=u) (m:=s.size) (Nat.le_refl _)
      (by rcases intOf_spec h1 rl with ⟨_,e,rfl⟩ | e
          · exact .inl ⟨e,rfl⟩
          · exact .inr e)
      (by rcases intOf_spec h2 rh with ⟨_,e,rfl⟩ | e
          · exact .inl ⟨e,rfl,rfl⟩
          · exact .inr e) (.inl ⟨rfl,rfl⟩) b0 b1 b2 (Int.le_refl _)
    refine pure_op he hi hr hd (v:=.string (s.extract l.toNat u.toNat)) ?_ (rep_str.2 rfl) hx4
    simp [execOp,ho,Instr.sliceAt,run_underlying hu,Instr.slice,ra,hb]
  · rename_i hns
    split at hx
    · rename_i e sz by_ hs
      obtain ⟨g1,i,g2,g3,g4⟩:=sliceElem_spec hs
      obtain ⟨va,hx1,ra⟩:=evV_rep hr hx
      obtain ⟨vl,hx2,rl⟩:=evO_repO hr hx1
      obtain ⟨vh,hx3,rh⟩:=evO_repO hr hx2
      obtain ⟨vm,hx4,rm⟩:=evO_repO hr hx3
      obtain ⟨r,l1,hx5⟩:=ob_spec hx4
      clear hx hx1 hx2 hx3 hx4
      obtain ⟨sz',nil,tip,xs,rfl⟩:=sliceA_kind l1
      obtain ⟨hsz,l,u,tip',h1,h2,b0,b1,b2,rfl,hmt⟩:=sliceA_sl l1
      clear l1
      simp only [Rep] at ra
      obtain ⟨A,c,e1,e2,e3,e4,e5,e6,e7⟩:=ra
      obtain ⟨m,hm,hm2,hm3,hmf⟩:∃ m:Int,(((mx.map a.eval)=none∧m=c) ∨ (mx.map a.eval)=some (.int .i64 m))∧u≤m∧m≤c∧(tip'=.full→m=u)∧tip' ≠ .tip 0∧(∀ b,tip' ≠ .tip b):=by
        rcases hmt with ⟨rfl,rfl⟩ | ⟨rfl,_,rfl⟩
        · rcases rm with ⟨_,hm⟩ | ⟨y,v,hy,_⟩
          · exact ⟨c,.inl ⟨hm,rfl⟩,by omega,Int.le_refl _,by simp,by simp,by simp⟩
          · cases hy
        · rcases rm with ⟨hy,_⟩ | ⟨y,v,hy,hv,hrv⟩
          · cases hy
          · simp only [Option.some.injEq] at hy;subst hy
            rw [rep_int] at hrv;subst hrv
            exact ⟨u,.inr hv,Int.le_refl _,by omega,fun _=>rfl,by simp,by simp⟩
      have hb:=sliceBounds_run (P:=P) (w:=w) (isSlice:=true) (len:=xs.length) (cap:=c) (low:=lo.map a.eval) (high:=hi'.map a.eval) (mx:=mx.map a.eval) (l:=l) (hh:=u) (m:=m) e2
        (by rcases intOf_spec h1 rl with ⟨_,e,rfl⟩ | e
            · exact .inl ⟨e,rfl⟩
            · exact .inr e)
        (by rcases intOf_spec h2 rh with ⟨eh,e,rfl⟩ | e
            · rcases hmt with ⟨rfl,_⟩ | ⟨_,hne,_⟩
              · rcases rm with ⟨_,hm'⟩ | ⟨y,v,hy,_⟩
                · exact .inl ⟨e,hm',rfl⟩
                · cases hy
              · exact absurd eh hne
            · exact .inr e) hm b0 b1 hm2 hm3
      have hlen:((xs.take u.toNat).drop l.toNat).length=u.toNat - l.toNat:=by
        rw [List.length_drop,List.length_take];omega
      have hrun:(execOp a.eval o).run P w=.ok (.value (.slice (if m.toNat=l.toNat then A else A.map (·.add (l.toNat * sz))) (u.toNat - l.toNat) (m.toNat - l.toNat))) w:=by
        simp [execOp,ho,Instr.sliceAt,run_underlying g1,Instr.slice,e1,hb,sizeOf,typeInfo,g2,g3]
      refine pure_op he hi hr hd hrun ?_ hx5
      simp only [Rep]
      refine ⟨_,m.toNat - l.toNat,by rw [hlen],by rw [hlen];omega,?_,?_,?_,?_,fun b hb'=>absurd hb' (hmf.2.2 b)⟩
      · split<;>cases A<;>simp_all
      · intro hA
        have:A=none:=by revert hA;split<;>cases A<;>simp
        have:=e4 this;omega
      · intro hf;have:=hmf.1 hf;rw [hlen];omega
      · intro ad hA
        by_cases hml:m.toNat=l.toNat
        · rw [if_pos hml] at hA
          have:(xs.take u.toNat).drop l.toNat=[]:=by apply List.eq_nil_of_length_eq_zero;rw [hlen];omega
          rw [this]
          exact ⟨fun e=>absurd rfl e,by simp [RepRow]⟩
        · rw [if_neg hml] at hA
          cases A with
          | none=>cases hA
          | some ad0 =>
            simp only [Option.map_some,Option.some.injEq] at hA;subst hA
            obtain ⟨f1,f2⟩:=e6 ad0 rfl
            have hs':sz'=sz:=by
              rcases hsz with hs | hs
              · rw [hs] at e3;cases e3
              · exact hs
            subst hs'
            by_cases hnil:(xs.take u.toNat).drop l.toNat=[]
            · rw [hnil];exact ⟨fun e=>absurd rfl e,by simp [RepRow]⟩
            · have f1:=f1 (fun e=>hnil (by rw [e];simp))
              have had:ad0=⟨ad0.block,ad0.off,none⟩:=by cases ad0;simp at f1;simp [f1]
              rw [had,add_lit']
              exact ⟨fun _=>rfl,RepRow.drop _ _ _ _ _ (RepRow.take _ _ _ _ _ f2)⟩
    · split at hx
      · rename_i n e lo' hs hin
        obtain ⟨h1,i,h2,h3⟩:=arrElem_spec hs
        obtain ⟨va,hx,ra⟩:=evV_rep hr hx
        obtain ⟨vl,hx,rl⟩:=evV_rep hr hx
        obtain ⟨b,q,cs,rfl,rfl,hb,hc,hk0,hkn,hx2⟩:=slArr_spec hx
        clear hx
        rw [rep_ptr] at ra;rw [rep_int] at rl
        obtain ⟨vs,e',g1,g2,g3,g4⟩:=hi.objs b _ hb
        have hvs:vs.size=cs.length:=by rw [← g2.length];simp
        obtain ⟨e1,i1⟩:=dropObj_pub hi hb
        have hbd:=sliceBounds_run (P:=P) (w:=w) (isSlice:=false) (len:=n) (cap:=n) (low:=some (.int .i64 q)) (high:=none) (mx:=none) (l:=q) (hh:=n) (m:=n) (Nat.le_refl _) (.inr rfl) (.inl ⟨rfl,rfl,rfl⟩) (.inl ⟨rfl,rfl⟩) hk0 hkn (Int.le_refl _) (Int.le_refl _)
        have hrun:(execOp a.eval o).run P w=.ok (.value (.slice (some (if n=q.toNat then ⟨b,0,none⟩ else ⟨b,q.toNat,none⟩)) (n - q.toNat) (n - q.toNat))) w:=by
          simp only [Int.toNat_natCast] at hbd
          simp [execOp,ho,Instr.sliceAt,run_underlying h1,ra,rl,Instr.sureAddr,hbd,sizeOf,typeInfo,h2,h3,add_lit']
        have hlen:(cs.drop q.toNat).length=n - q.toNat:=by rw [List.length_drop,hc]
        obtain ⟨st',k1,k2⟩:=val_fine (v:=.slice (some (if n=q.toNat then ⟨b,0,none⟩ else ⟨b,q.toNat,none⟩)) (n - q.toNat) (n - q.toNat)) (he.trans e1) i1 (hr.step e1) (hd.step e1) (r:=.sl 1 false .any (cs.drop q.toNat)) (by
          simp only [Rep]
          refine ⟨_,n - q.toNat,by rw [hlen],by rw [hlen];exact Nat.le_refl _,rfl,(fun h=>by cases h),(fun h=>by cases h),fun ad had=>?_,fun b' h=>by cases h⟩
          simp only [Option.some.injEq] at had
          by_cases hq:n=q.toNat
          · have:cs.drop q.toNat=[]:=List.drop_eq_nil_of_le (by omega)
            rw [this];exact ⟨fun h=>absurd rfl h,by simp [RepRow]⟩
          · rw [if_neg hq] at had;subst had
            refine ⟨fun _=>rfl,?_⟩
            have hall:=row1 (Pi:=fun x o=>Pi x o ∨ (x=b∧o < cs.length)) (w:=w) (b:=b) 0 cs vs.toList (RepL.later e1.later _ _ g2) g3 (fun j v hj=>by
              have hjl:j < vs.size:=by
                rcases Nat.lt_or_ge j vs.size with h | h
                · exact h
                · rw [List.getElem?_eq_none (by simpa using h)] at hj;cases hj
              refine ⟨.inr ⟨rfl,by omega⟩,?_⟩
              simp only [World.cell?,g1,Nat.zero_add]
              simpa using hj)
            have:=RepRow.drop q.toNat _ _ _ _ hall
            simpa using this) hx2
        exact ⟨_,w,st',_,.inl hrun,k1,k2⟩
      · exact hx.elim
end
end ops
end Go.Hx

