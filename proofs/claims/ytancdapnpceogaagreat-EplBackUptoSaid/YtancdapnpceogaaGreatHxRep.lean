/- What abstract values stand for in memory; how that lives on. Own work (session 1). -/
import Derived.Test.YtancdapnpceogaaGreatHxCore
namespace Go.Hx

def oneV:Value→Bool
  | .agg _=>false
  | .tuple _=>false
  | _=>true
def simpleV:Value→Bool
  | .bool _=>true
  | .int _ _=>true
  | .string _=>true
  | .pointer _=>true
  | .map _=>true
  | .nilFunc=>true
  | .nilIface=>true
  | _=>false
theorem oneV_simple {v:Value} (h:simpleV v=true):oneV v=true:=by cases v<;>simp_all [simpleV,oneV]

abbrev Prot:=Nat→Nat→Prop
mutual
def Rep (Pi:Prot) (w:World):AV→Value→Prop
  | .raw v,u=>u=v∧simpleV v=true
  | .sl sz nil tip xs,u=>∃ A c,u=.slice A xs.length c∧xs.length≤c∧nil=A.isNone∧(A=none→c=0)∧(tip=.full→c=xs.length) ∧
      (∀ ad,A=some ad→(xs ≠ []→ad.spot=none)∧RepRow Pi w ad.block ad.off sz xs) ∧
      (∀ b,tip=.tip b→A=some ⟨b,0,none⟩∧∃ vs e fr,w.heap[b]?=some (.cells vs e fr)∧vs.size=c * sz)
  | .agg cs,u=>∃ vs:Array Value,u=.agg vs∧RepL Pi w cs vs.toList∧∀ v ∈ vs.toList,oneV v=true
  | .tup cs,u=>∃ vs:Array Value,u=.tuple vs∧RepL Pi w cs vs.toList
  | .fn f first cap,u=>∃ a b:Array Value,u=.func f a b∧RepL Pi w first a.toList∧RepL Pi w cap b.toList
  | .iface t x,u=>∃ v,u=.iface t v∧Rep Pi w x v
def RepL (Pi:Prot) (w:World):List AV→List Value→Prop
  | [],vs=>vs=[]
  | x::xs,vs=>∃ v r,vs=v::r∧Rep Pi w x v∧RepL Pi w xs r
def RepRow (Pi:Prot) (w:World):Nat→Nat→Nat→List AV→Prop
  | _,_,_,[]=>True
  | b,off,sz,x::xs=>(∃ u,Rep Pi w x u∧(∀ l,u ≠ .tuple l)∧u.cells.size=sz∧∀ (j:Nat) v,u.cells[j]?=some v→Pi b (off+j)∧w.cell? ⟨b,off+j,none⟩=some v) ∧
      RepRow Pi w b (off+sz) sz xs
end

/-- From one world on to another: what is read stays, blocks keep their shape. -/
structure Later (Pi:Prot) (w:World) (Pi':Prot) (w':World):Prop where
  pi:∀ b o,Pi b o→Pi' b o∧w'.cell? ⟨b,o,none⟩=w.cell? ⟨b,o,none⟩
  shape:∀ (b:Nat) vs e fr,w.heap[b]?=some (.cells vs e fr)→∃ vs' fr',w'.heap[b]?=some (.cells vs' e fr')∧vs'.size=vs.size
theorem Later.refl (Pi:Prot) (w:World):Later Pi w Pi w:=⟨fun _ _ h=>⟨h,rfl⟩,fun _ vs _ fr h=>⟨vs,fr,h,rfl⟩⟩
theorem Later.trans {Pi Pi' Pi'':Prot} {w w' w'':World} (h:Later Pi w Pi' w') (h':Later Pi' w' Pi'' w''):Later Pi w Pi'' w'' :=
  ⟨fun b o hb=>let ⟨p,c⟩:=h.pi b o hb;let ⟨p',c'⟩:=h'.pi b o p;⟨p',c'.trans c⟩,fun b vs e fr hb=>by
    obtain ⟨vs',fr',h1,h2⟩:=h.shape b vs e fr hb
    obtain ⟨vs'',fr'',h3,h4⟩:=h'.shape b vs' e fr' h1
    exact ⟨vs'',fr'',h3,h4.trans h2⟩⟩

mutual
theorem Rep.later {Pi Pi':Prot} {w w':World} (hl:Later Pi w Pi' w'):∀ (x:AV) (u:Value),Rep Pi w x u→Rep Pi' w' x u
  | .raw v,u,h=>by simpa [Rep] using h
  | .sl sz nil tip xs,u,h=>by
    simp only [Rep] at h ⊢
    obtain ⟨A,c,h1,h2,h3,h4,h5,h6,h7⟩:=h
    refine ⟨A,c,h1,h2,h3,h4,h5,fun ad ha=>⟨(h6 ad ha).1,RepRow.later hl xs _ _ _ (h6 ad ha).2⟩,fun b hb=>?_⟩
    obtain ⟨g1,vs,e,fr,g3,g4⟩:=h7 b hb
    obtain ⟨vs',fr',k1,k2⟩:=hl.shape b vs e fr g3
    exact ⟨g1,vs',e,fr',k1,k2.trans g4⟩
  | .agg cs,u,h=>by
    simp only [Rep] at h ⊢
    obtain ⟨vs,h1,h2,h3⟩:=h
    exact ⟨vs,h1,RepL.later hl cs _ h2,h3⟩
  | .tup cs,u,h=>by
    simp only [Rep] at h ⊢
    obtain ⟨vs,h1,h2⟩:=h
    exact ⟨vs,h1,RepL.later hl cs _ h2⟩
  | .fn f first cap,u,h=>by
    simp only [Rep] at h ⊢
    obtain ⟨a,b,h1,h2,h3⟩:=h
    exact ⟨a,b,h1,RepL.later hl first _ h2,RepL.later hl cap _ h3⟩
  | .iface t x,u,h=>by
    simp only [Rep] at h ⊢
    obtain ⟨v,h1,h2⟩:=h
    exact ⟨v,h1,Rep.later hl x v h2⟩
theorem RepL.later {Pi Pi':Prot} {w w':World} (hl:Later Pi w Pi' w'):∀ (xs:List AV) (vs:List Value),RepL Pi w xs vs→RepL Pi' w' xs vs
  | [],vs,h=>by simpa [RepL] using h
  | x::xs,vs,h=>by
    simp only [RepL] at h ⊢
    obtain ⟨v,r,h1,h2,h3⟩:=h
    exact ⟨v,r,h1,Rep.later hl x v h2,RepL.later hl xs r h3⟩
theorem RepRow.later {Pi Pi':Prot} {w w':World} (hl:Later Pi w Pi' w'):∀ (xs:List AV) (b off sz:Nat),RepRow Pi w b off sz xs→RepRow Pi' w' b off sz xs
  | [],b,off,sz,h=>by simp [RepRow]
  | x::xs,b,off,sz,h=>by
    simp only [RepRow] at h ⊢
    obtain ⟨⟨u,h1,h2,h3,h4⟩,h5⟩:=h
    refine ⟨⟨u,Rep.later hl x u h1,h2,h3,fun j v hj=>?_⟩,RepRow.later hl xs _ _ _ h5⟩
    obtain ⟨p,c⟩:=h4 j v hj
    obtain ⟨p',c'⟩:=hl.pi _ _ p
    exact ⟨p',c'.trans c⟩
end

section lists
variable {Pi:Prot} {w:World}
theorem RepL.length:∀ (xs:List AV) (vs:List Value),RepL Pi w xs vs→vs.length=xs.length
  | [],vs,h=>by simp only [RepL] at h;simp [h]
  | x::xs,vs,h=>by
    simp only [RepL] at h
    obtain ⟨v,r,rfl,_,h3⟩:=h
    simp [RepL.length xs r h3]
theorem RepL.get:∀ (xs:List AV) (vs:List Value),RepL Pi w xs vs→∀ (i:Nat) x,xs[i]?=some x→∃ v,vs[i]?=some v∧Rep Pi w x v
  | [],vs,h,i,x,hi=>by simp at hi
  | y::xs,vs,h,i,x,hi=>by
    simp only [RepL] at h
    obtain ⟨v,r,rfl,h2,h3⟩:=h
    cases i with
    | zero=>simp only [List.getElem?_cons_zero,Option.some.injEq] at hi;subst hi;exact ⟨v,by simp,h2⟩
    | succ i=>simpa using RepL.get xs r h3 i x (by simpa using hi)
theorem RepL.append:∀ (xs ys:List AV) (vs us:List Value),RepL Pi w xs vs→RepL Pi w ys us→RepL Pi w (xs++ys) (vs++us)
  | [],ys,vs,us,h,h'=>by simp only [RepL] at h;subst h;simpa using h'
  | x::xs,ys,vs,us,h,h'=>by
    simp only [RepL] at h
    obtain ⟨v,r,rfl,h2,h3⟩:=h
    simp only [List.cons_append,RepL]
    exact ⟨v,r++us,rfl,h2,RepL.append xs ys r us h3 h'⟩
theorem RepL.drop:∀ (n:Nat) (xs:List AV) (vs:List Value),RepL Pi w xs vs→RepL Pi w (xs.drop n) (vs.drop n)
  | 0,xs,vs,h=>by simpa using h
  | n+1,[],vs,h=>by simp only [RepL] at h;subst h;simp [RepL]
  | n+1,x::xs,vs,h=>by
    simp only [RepL] at h
    obtain ⟨v,r,rfl,h2,h3⟩:=h
    simpa using RepL.drop n xs r h3
theorem RepL.take:∀ (n:Nat) (xs:List AV) (vs:List Value),RepL Pi w xs vs→RepL Pi w (xs.take n) (vs.take n)
  | 0,xs,vs,h=>by simp [RepL]
  | n+1,[],vs,h=>by simp only [RepL] at h;subst h;simp [RepL]
  | n+1,x::xs,vs,h=>by
    simp only [RepL] at h
    obtain ⟨v,r,rfl,h2,h3⟩:=h
    simp only [List.take_succ_cons,RepL]
    exact ⟨v,_,rfl,h2,RepL.take n xs r h3⟩
theorem RepL.nil:RepL Pi w [] []:=by simp [RepL]
theorem RepL.cons {x:AV} {v:Value} {xs:List AV} {vs:List Value} (h:Rep Pi w x v) (h':RepL Pi w xs vs):RepL Pi w (x::xs) (v::vs):=by
  simp only [RepL];exact ⟨v,vs,rfl,h,h'⟩
/-- the cells of a value -/
theorem Rep.cells {x:AV} {u:Value} (h:Rep Pi w x u) (ht:∀ cs,x ≠ .tup cs):RepL Pi w (cellsA x) u.cells.toList∧(∀ v ∈ u.cells.toList,oneV v=true)∧∀ l,u ≠ .tuple l:=by
  cases x with
  | agg cs =>
    simp only [Rep] at h
    obtain ⟨vs,rfl,h2,h3⟩:=h
    exact ⟨by simpa [cellsA,Value.cells] using h2,by simpa [Value.cells] using h3,by simp⟩
  | tup cs=>exact absurd rfl (ht cs)
  | raw v =>
    have h0:=h
    simp only [Rep] at h
    obtain ⟨rfl,h2⟩:=h
    have h1:=oneV_simple h2
    refine ⟨?_,?_,?_⟩<;>cases u<;>simp_all [oneV,simpleV,Value.cells,cellsA,RepL]
  | sl sz nil tip xs =>
    have h0:=h
    simp only [Rep] at h
    obtain ⟨A,c,rfl,_⟩:=h
    exact ⟨by simpa [cellsA,Value.cells,RepL] using h0,by simp [Value.cells,oneV],by simp⟩
  | fn f a b =>
    have h0:=h
    simp only [Rep] at h
    obtain ⟨a,b,rfl,_⟩:=h
    exact ⟨by simpa [cellsA,Value.cells,RepL] using h0,by simp [Value.cells,oneV],by simp⟩
  | iface t x =>
    have h0:=h
    simp only [Rep] at h
    obtain ⟨a,rfl,_⟩:=h
    exact ⟨by simpa [cellsA,Value.cells,RepL] using h0,by simp [Value.cells,oneV],by simp⟩
theorem oneA_one {x:AV} {u:Value} (h:Rep Pi w x u) (hx:oneA x=true):oneV u=true:=by
  cases x with
  | agg cs=>simp [oneA] at hx
  | tup cs=>simp [oneA] at hx
  | raw v=>simp only [Rep] at h;obtain ⟨rfl,h2⟩:=h;exact oneV_simple h2
  | sl sz nil tip xs=>simp only [Rep] at h;obtain ⟨A,c,rfl,_⟩:=h;rfl
  | fn f a b=>simp only [Rep] at h;obtain ⟨a,b,rfl,_⟩:=h;rfl
  | iface t x=>simp only [Rep] at h;obtain ⟨a,rfl,_⟩:=h;rfl

theorem RepRow.get:∀ (xs:List AV) (b off sz:Nat),RepRow Pi w b off sz xs→∀ (i:Nat) x,xs[i]?=some x →
    ∃ u,Rep Pi w x u∧(∀ l,u ≠ .tuple l)∧u.cells.size=sz∧∀ (j:Nat) v,u.cells[j]?=some v→Pi b (off+i * sz+j)∧w.cell? ⟨b,off+i * sz+j,none⟩=some v
  | [],b,off,sz,h,i,x,hi=>by simp at hi
  | y::xs,b,off,sz,h,i,x,hi=>by
    simp only [RepRow] at h
    obtain ⟨h1,h2⟩:=h
    cases i with
    | zero=>simp only [List.getElem?_cons_zero,Option.some.injEq] at hi;subst hi;simpa using h1
    | succ i =>
      obtain ⟨u,g1,g2,g3,g4⟩:=RepRow.get xs b (off+sz) sz h2 i x (by simpa using hi)
      refine ⟨u,g1,g2,g3,fun j v hj=>?_⟩
      have:=g4 j v hj
      rw [show off+(i+1) * sz+j=off+sz+i * sz+j by rw [Nat.add_mul];omega]
      exact this
theorem RepRow.drop:∀ (n:Nat) (xs:List AV) (b off sz:Nat),RepRow Pi w b off sz xs→RepRow Pi w b (off+n * sz) sz (xs.drop n)
  | 0,xs,b,off,sz,h=>by simpa using h
  | n+1,[],b,off,sz,h=>by simp [RepRow]
  | n+1,x::xs,b,off,sz,h=>by
    simp only [RepRow] at h
    have:=RepRow.drop n xs b (off+sz) sz h.2
    rw [show off+(n+1) * sz=off+sz+n * sz by rw [Nat.add_mul];omega]
    simpa using this
theorem RepRow.take:∀ (n:Nat) (xs:List AV) (b off sz:Nat),RepRow Pi w b off sz xs→RepRow Pi w b off sz (xs.take n)
  | 0,xs,b,off,sz,h=>by simp [RepRow]
  | n+1,[],b,off,sz,h=>by simp [RepRow]
  | n+1,x::xs,b,off,sz,h=>by
    simp only [RepRow,List.take_succ_cons] at h ⊢
    exact ⟨h.1,RepRow.take n xs b (off+sz) sz h.2⟩
theorem RepRow.append:∀ (xs ys:List AV) (b off sz:Nat),RepRow Pi w b off sz xs→RepRow Pi w b (off+xs.length * sz) sz ys→RepRow Pi w b off sz (xs++ys)
  | [],ys,b,off,sz,h,h'=>by simpa using h'
  | x::xs,ys,b,off,sz,h,h'=>by
    simp only [RepRow,List.cons_append] at h ⊢
    refine ⟨h.1,RepRow.append xs ys b (off+sz) sz h.2 ?_⟩
    rw [show off+sz+xs.length * sz=off+(x::xs).length * sz by rw [List.length_cons,Nat.add_mul];omega]
    exact h'
end lists

def BoxAt (Pi:Prot) (w:World) (cs:List AV) (b:Nat):Prop :=
  ∃ vs e,w.heap[b]?=some (.cells vs e (0,0))∧RepL Pi w cs vs.toList∧(∀ v ∈ vs.toList,oneV v=true)∧∀ o,¬ Pi b o
def RepS (Pi:Prot) (w:World) (β:Nat→Nat) (t:Nat):Slot→Value→Prop
  | .undef,_=>True
  | .nov,u=>u=undef
  | .val x,u=>Rep Pi w x u
  | .lbox cs,u=>u=.pointer (some ⟨β t,0,none⟩)∧BoxAt Pi w cs (β t)
  | .loc t' off,u=>u=.pointer (some ⟨β t',off,none⟩)
  | .dat a,u=>∃ A n c,Rep Pi w a (.slice A n c)∧(A=none→u=.pointer none)∧∀ ad,A=some ad→u=.pointer (some ad)
  | .cp cs,u=>∃ b off vs,u=.pointer (some ⟨b,off,none⟩)∧RepL Pi w cs vs∧(∀ v ∈ vs,oneV v=true)∧∀ (i:Nat) v,vs[i]?=some v→Pi b (off+i)∧w.cell? ⟨b,off+i,none⟩=some v
/-- what a loop's record holds -/
def pendOf:LSt→LoopState × Option Code
  | .ready=>(.ready,none)
  | .busy=>(.busy,none)
  | .left (.exit id)=>(.done,some (.exit id))
  | .left .ret=>(.done,some .ret)
  | .over=>(.exhausted,none)
def LoopAt (Pi:Prot) (w:World) (b:Nat) (L:LoopInfo) (s:LSt):Prop :=
  ∃ (r:Loop),w.heap[b]?=some (.loop r)∧r.params.toList=L.params∧r.assign=L.assign∧r.body=L.body∧r.tmps.size=L.N∧r.state=(pendOf s).1∧(∀ j,s=.left j→r.pending=(pendOf s).2)∧(s=.ready→r.pending=none) ∧
    ∀ t,(get L.st t).snap=get L.st t∧RepS Pi w id t (get L.st t) (r.tmps.getD t undef)
/-- the entries of a map -/
def RepM (Pi:Prot) (w:World):List (ByteArray × AV)→List MapEntry→Prop
  | [],es=>es=[]
  | (k,x)::r,es=>∃ e es',es=e::es'∧e.key=.string k∧Rep Pi w x e.val∧RepM Pi w r es'
theorem RepM.later {Pi Pi':Prot} {w w':World} (hl:Later Pi w Pi' w'):∀ (l:List (ByteArray × AV)) (es:List MapEntry),RepM Pi w l es→RepM Pi' w' l es
  | [],es,h=>h
  | (k,x)::r,es,h=>by
    obtain ⟨e,es',h1,h2,h3,h4⟩:=h
    exact ⟨e,es',h1,h2,Rep.later hl _ _ h3,RepM.later hl r es' h4⟩
/-- entries are stamped as they came -/
def Born (es:Array MapEntry) (c:Nat):Prop:=c=es.size∧∀ (i:Nat) e,es[i]?=some e→e.born=i
def ObjAt (Pi:Prot) (w:World) (b:Nat):AObj→Prop
  | .cells cs=>BoxAt Pi w cs b
  | .siter s p=>w.heap[b]?=some (.stringIter s p)
  | .smap l=>∃ es c,w.heap[b]?=some (.map es c)∧RepM Pi w l es.toList∧Born es c
  | .miter m n seen=>w.heap[b]?=some (.mapIter (some m) n seen.toArray n)
  | .loop L s=>LoopAt Pi w b L s
structure Inv (Pi:Prot) (H:Heap) (w:World):Prop where
  objs:∀ b o,H.objs b=some o→ObjAt Pi w b o
  tips:∀ b n,H.tips b=some n→H.objs b=none∧(∃ vs e,w.heap[b]?=some (.cells vs e (0,0))∧n≤vs.size)∧∀ o,n≤o→¬ Pi b o
  pi:∀ b o,Pi b o→∃ v,w.cell? ⟨b,o,none⟩=some v
  tys:∀ b e,H.tys b=some e→∃ vs fr,w.heap[b]?=some (.cells vs e fr)
structure Ext (H:Heap) (Pi:Prot) (w:World) (H':Heap) (Pi':Prot) (w':World):Prop where
  size:w.heap.size≤w'.heap.size
  os:w'.os=w.os
  tape:w'.tape=w.tape
  output:w'.output=w.output
  keep:∀ b,b < w.heap.size→H.objs b=none→H.tips b=none→w'.heap[b]?=w.heap[b]?
  later:Later Pi w Pi' w'
  dom:∀ b,b < w.heap.size→(H.objs b=none→H'.objs b=none)∧(H.tips b=none→H'.tips b=none)
  newPi:∀ b o,b < w.heap.size→H.objs b=none→H.tips b=none→Pi' b o→Pi b o
theorem Ext.refl (H:Heap) (Pi:Prot) (w:World):Ext H Pi w H Pi w :=
  ⟨Nat.le_refl _,rfl,rfl,rfl,fun _ _ _ _=>rfl,Later.refl _ _,fun _ _=>⟨id,id⟩,fun _ _ _ _ _ h=>h⟩
theorem Ext.trans {H H' H'':Heap} {Pi Pi' Pi'':Prot} {w w' w'':World} (h:Ext H Pi w H' Pi' w') (h':Ext H' Pi' w' H'' Pi'' w''):Ext H Pi w H'' Pi'' w'' where
  size:=Nat.le_trans h.size h'.size
  os:=h'.os.trans h.os
  tape:=h'.tape.trans h.tape
  output:=h'.output.trans h.output
  keep:=fun b hb h1 h2=>(h'.keep b (Nat.lt_of_lt_of_le hb h.size) ((h.dom b hb).1 h1) ((h.dom b hb).2 h2)).trans (h.keep b hb h1 h2)
  later:=h.later.trans h'.later
  dom:=fun b hb=>⟨fun h1=>(h'.dom b (Nat.lt_of_lt_of_le hb h.size)).1 ((h.dom b hb).1 h1),fun h1=>(h'.dom b (Nat.lt_of_lt_of_le hb h.size)).2 ((h.dom b hb).2 h1)⟩
  newPi:=fun b o hb h0 h1 h2=>h.newPi b o hb h0 h1 (h'.newPi b o (Nat.lt_of_lt_of_le hb h.size) ((h.dom b hb).1 h0) ((h.dom b hb).2 h1) h2)

theorem BoxAt.later {Pi Pi':Prot} {w w':World} {cs:List AV} {b:Nat} (h:BoxAt Pi w cs b) (hl:Later Pi w Pi' w') (hb:w'.heap[b]?=w.heap[b]?) (hp:∀ o,Pi' b o→Pi b o):BoxAt Pi' w' cs b:=by
  obtain ⟨vs,e,h1,h2,h3,h4⟩:=h
  exact ⟨vs,e,hb.trans h1,RepL.later hl _ _ h2,h3,fun o ho=>h4 o (hp o ho)⟩
theorem RepS.later {Pi Pi':Prot} {w w':World} {β:Nat→Nat} {t:Nat} {s:Slot} {u:Value} (h:RepS Pi w β t s u) (hl:Later Pi w Pi' w')
    (hb:s.isBox=true→w'.heap[β t]?=w.heap[β t]?∧∀ o,Pi' (β t) o→Pi (β t) o):RepS Pi' w' β t s u:=by
  cases s with
  | undef=>trivial
  | nov=>exact h
  | val x=>exact Rep.later hl x u h
  | lbox cs=>exact ⟨h.1,h.2.later hl (hb rfl).1 (hb rfl).2⟩
  | loc t' off=>exact h
  | dat a =>
    obtain ⟨A,n,c,h1,h2,h3⟩:=h
    exact ⟨A,n,c,Rep.later hl _ _ h1,h2,h3⟩
  | cp cs =>
    obtain ⟨b,off,vs,h1,h2,h3,h4⟩:=h
    refine ⟨b,off,vs,h1,RepL.later hl _ _ h2,h3,fun i v hi=>?_⟩
    obtain ⟨p,c⟩:=h4 i v hi
    obtain ⟨p',c'⟩:=hl.pi _ _ p
    exact ⟨p',c'.trans c⟩
theorem snap_noBox (s:Slot):s.snap.isBox=false:=by cases s<;>rfl
theorem ObjAt.later {Pi Pi':Prot} {w w':World} {o:AObj} {b:Nat} (h:ObjAt Pi w b o) (hl:Later Pi w Pi' w') (hb:w'.heap[b]?=w.heap[b]?) (hp:∀ o,Pi' b o→Pi b o):ObjAt Pi' w' b o:=by
  cases o with
  | cells cs=>exact BoxAt.later h hl hb hp
  | siter s p=>exact hb.trans h
  | smap l =>
    obtain ⟨es,c,h1,h2,h3⟩:=h
    exact ⟨es,c,hb.trans h1,RepM.later hl _ _ h2,h3⟩
  | miter m n seen=>exact hb.trans h
  | loop L s =>
    obtain ⟨r,h1,h2,h3,h4,h5,h6,h7,h8,h9⟩:=h
    exact ⟨r,hb.trans h1,h2,h3,h4,h5,h6,h7,h8,fun t=>⟨(h9 t).1,(h9 t).2.later hl (fun hb=>by rw [← (h9 t).1,snap_noBox] at hb;cases hb)⟩⟩

theorem Inv.setTy {Pi:Prot} {H:Heap} {w:World} (hi:Inv Pi H w) {b:Nat} {e:TypeId} {vs:Array Value} {fr:Nat × Nat} (hb:w.heap[b]?=some (.cells vs e fr)):Inv Pi (H.setTy b e) w :=
  ⟨hi.objs,hi.tips,hi.pi,fun c d hc=>by
    simp only [Heap.setTy] at hc
    split at hc
    · rename_i hcb;subst hcb
      simp only [Option.some.injEq] at hc;subst hc
      exact ⟨vs,fr,hb⟩
    · exact hi.tys c d hc⟩
theorem Ext.setTy {Pi Pi':Prot} {H H':Heap} {w w':World} (he:Ext H Pi w H' Pi' w') (b:Nat) (e:TypeId):Ext H Pi w (H'.setTy b e) Pi' w' :=
  ⟨he.size,he.os,he.tape,he.output,he.keep,he.later,he.dom,he.newPi⟩
theorem Inv.tysLater {Pi Pi' Pi'':Prot} {H H':Heap} {w w':World} (hi:Inv Pi H w) (hl:Later Pi' w Pi'' w') (hH:H'.tys=H.tys):∀ b e,H'.tys b=some e→∃ vs fr,w'.heap[b]?=some (.cells vs e fr):=fun b e hb=>by
  rw [hH] at hb
  obtain ⟨vs,fr,h⟩:=hi.tys b e hb
  obtain ⟨vs',fr',h',_⟩:=hl.shape b vs e fr h
  exact ⟨vs',fr',h'⟩
theorem Inv.block_lt {Pi:Prot} {H:Heap} {w:World} (hi:Inv Pi H w) {b:Nat} (h:¬ H.fresh b):b < w.heap.size:=by
  by_cases h1:H.objs b=none
  · cases h2:H.tips b with
    | none=>exact absurd ⟨h1,h2⟩ h
    | some n =>
      obtain ⟨_,⟨vs,e,h3,_⟩,_⟩:=hi.tips b n h2
      exact (Array.getElem?_eq_some_iff.1 h3).1
  · cases h2:H.objs b with
    | none=>exact absurd h2 h1
    | some o =>
      have:=hi.objs b o h2
      cases o with
      | cells cs=>obtain ⟨vs,e,h3,_⟩:=this;exact (Array.getElem?_eq_some_iff.1 h3).1
      | siter s p=>exact (Array.getElem?_eq_some_iff.1 this).1
      | miter m n seen=>exact (Array.getElem?_eq_some_iff.1 this).1
      | smap l=>obtain ⟨es,c,h3,_⟩:=this;exact (Array.getElem?_eq_some_iff.1 h3).1
      | loop L s=>obtain ⟨r,h3,_⟩:=this;exact (Array.getElem?_eq_some_iff.1 h3).1
theorem Inv.pi_lt {Pi:Prot} {H:Heap} {w:World} (hi:Inv Pi H w) {b o:Nat} (h:Pi b o):b < w.heap.size:=by
  obtain ⟨v,hv⟩:=hi.pi b o h
  rcases Nat.lt_or_ge b w.heap.size with h1 | h1
  · exact h1
  · simp [World.cell?,Array.getElem?_eq_none h1] at hv
theorem Inv.fresh_new {Pi:Prot} {H:Heap} {w:World} (hi:Inv Pi H w):H.fresh w.heap.size:=by
  by_cases h:H.fresh w.heap.size
  · exact h
  · exact absurd (hi.block_lt h) (Nat.lt_irrefl _)

structure RelSt (Pi:Prot) (H:Heap) (w:World) (B0 N:Nat) (st:St) (tmps:Array Value) (β:Nat→Nat):Prop where
  size:tmps.size=N
  slot:∀ t,RepS Pi w β t (get st t) (tmps.getD t undef)
  box:∀ t,(get st t).isBox=true→B0≤β t∧H.fresh (β t)
  inj:∀ t t',(get st t).isBox=true→(get st t').isBox=true→β t=β t'→t=t'
  loc:∀ t d off,get st t=.loc d off→(get st d).isBox=true
theorem get_cons_self (t:Nat) (s:Slot) (st:St):get ((t,s)::st) t=s:=by
  simp [get]
theorem get_cons_ne {t u:Nat} (h:t ≠ u) (s:Slot) (st:St):get ((t,s)::st) u=get st u:=by
  have h1:Nat.beq t u=false:=by
    cases hb:Nat.beq t u with
    | false=>rfl
    | true=>exact absurd (Nat.eq_of_beq_eq_true hb) h
  simp [get,h1]
end Go.Hx

