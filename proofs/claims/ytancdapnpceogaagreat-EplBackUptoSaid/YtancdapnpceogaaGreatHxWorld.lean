/- How the heap lives on through allocations and stores. Own work (session 1). -/
import Derived.Test.YtancdapnpceogaaGreatHxRep
import Derived.Laws.CopyRow
import Derived.Laws.NewFold
namespace Go.Hx

theorem one_eq (v:Value):v.oneCell'=oneV v:=by cases v<;>rfl

section draws
variable {Pi:Prot} {H:Heap} {w:World}
theorem Later.draws (d:Nat):Later Pi w Pi { w with drawn:=d }:=⟨fun _ _ h=>⟨h,rfl⟩,fun _ vs _ fr h=>⟨vs,fr,h,rfl⟩⟩
theorem Ext.draws (d:Nat):Ext H Pi w H Pi { w with drawn:=d }:=⟨Nat.le_refl _,rfl,rfl,rfl,fun _ _ _ _=>rfl,Later.draws d,fun _ _=>⟨id,id⟩,fun _ _ _ _ _ h=>h⟩
theorem Inv.of_same {Pi':Prot} {H':Heap} {w':World} (hi:Inv Pi H w) (hl:Later Pi w Pi' w')
    (hb:∀ b,¬ H.fresh b→w'.heap[b]?=w.heap[b]?∧∀ o,Pi' b o→Pi b o) (hH:H'=H)
    (hp:∀ b o,Pi' b o→∃ v,w'.cell? ⟨b,o,none⟩=some v):Inv Pi' H' w':=by
  subst hH
  refine ⟨fun b o ho=>?_,fun b n hn=>?_,hp,hi.tysLater hl rfl⟩
  · have hf:¬ H'.fresh b:=fun hf=>by rw [hf.1] at ho;cases ho
    exact (hi.objs b o ho).later hl (hb b hf).1 (hb b hf).2
  · have hf:¬ H'.fresh b:=fun hf=>by rw [hf.2] at hn;cases hn
    obtain ⟨h1,⟨vs,e,h2,h3⟩,h4⟩:=hi.tips b n hn
    exact ⟨h1,⟨vs,e,(hb b hf).1.trans h2,h3⟩,fun o ho hpo=>h4 o ho ((hb b hf).2 o hpo)⟩
theorem Inv.draws (hi:Inv Pi H w) (d:Nat):Inv Pi H { w with drawn:=d } :=
  hi.of_same (Later.draws d) (fun _ _=>⟨rfl,fun _ h=>h⟩) rfl hi.pi
end draws

section alloc
variable {Pi:Prot} {H:Heap} {w:World}
/-- the new block's first n cells are protected -/
def addPi (Pi:Prot) (b n:Nat):Prot:=fun x o=>Pi x o ∨ (x=b∧o < n)
theorem alloc_old (w:World) (o:Obj) {b:Nat} (h:b < w.heap.size):(w.alloc o).heap[b]?=w.heap[b]?:=by
  simp only [World.alloc,Array.getElem?_push]
  split
  · omega
  · rfl
theorem alloc_new (w:World) (o:Obj):(w.alloc o).heap[w.heap.size]?=some o:=by
  unfold World.alloc
  exact Array.getElem?_push_size
theorem cell_alloc {w:World} (o:Obj) {b k:Nat} (h:b < w.heap.size):(w.alloc o).cell? ⟨b,k,none⟩=w.cell? ⟨b,k,none⟩:=by
  simp only [World.cell?,alloc_old w o h]
theorem Later.alloc (hi:Inv Pi H w) (o:Obj):Later Pi w Pi (w.alloc o) :=
  ⟨fun b k h=>⟨h,cell_alloc o (hi.pi_lt h)⟩,fun b vs e fr h=>⟨vs,fr,(alloc_old w o (Array.getElem?_eq_some_iff.1 h).1).trans h,rfl⟩⟩
theorem Ext.alloc (hi:Inv Pi H w) (o:Obj):Ext H Pi w H Pi (w.alloc o) :=
  ⟨by simp,rfl,rfl,rfl,fun b hb _ _=>alloc_old w o hb,Later.alloc hi o,fun _ _=>⟨id,id⟩,fun _ _ _ _ _ h=>h⟩
theorem Inv.alloc (hi:Inv Pi H w) (o:Obj):Inv Pi H (w.alloc o) :=
  hi.of_same (Later.alloc hi o) (fun b hb=>⟨alloc_old w o (hi.block_lt hb),fun _ h=>h⟩) rfl
    (fun b k h=>by obtain ⟨v,hv⟩:=hi.pi b k h;exact ⟨v,(cell_alloc o (hi.pi_lt h)).trans hv⟩)
theorem Later.addPi (n:Nat) (b:Nat):Later Pi w (addPi Pi b n) w:=⟨fun _ _ h=>⟨.inl h,rfl⟩,fun _ vs _ fr h=>⟨vs,fr,h,rfl⟩⟩
/-- A new row whose cells are told for good. -/
theorem publish (hi:Inv Pi H w) (vs:Array Value) (e:TypeId) (n:Nat) (hn:n≤vs.size) :
    Ext H Pi w H (addPi Pi w.heap.size n) (w.alloc (.cells vs e (0,0)))∧Inv (addPi Pi w.heap.size n) H (w.alloc (.cells vs e (0,0))):=by
  have hl:Later Pi w (Hx.addPi Pi w.heap.size n) (w.alloc (.cells vs e (0,0))):=(Later.alloc hi _).trans (Later.addPi n _)
  have hpi:∀ b o,b < w.heap.size→Hx.addPi Pi w.heap.size n b o→Pi b o:=fun b o hb h=>by
    rcases h with h | ⟨rfl,_⟩
    · exact h
    · exact absurd hb (Nat.lt_irrefl _)
  refine ⟨⟨by simp,rfl,rfl,rfl,fun b hb _ _=>alloc_old w _ hb,hl,fun _ _=>⟨id,id⟩,fun b o hb _ _ h=>hpi b o hb h⟩,?_⟩
  refine hi.of_same hl (fun b hb=>⟨alloc_old w _ (hi.block_lt hb),fun o h=>hpi b o (hi.block_lt hb) h⟩) rfl ?_
  rintro b k (h | ⟨rfl,h⟩)
  · obtain ⟨v,hv⟩:=hi.pi b k h;exact ⟨v,(cell_alloc _ (hi.pi_lt h)).trans hv⟩
  · have hk:k < vs.size:=by omega
    exact ⟨vs[k],by rw [World.cell?,alloc_new];simp [hk]⟩
/-- A new row that only the abstract heap knows. -/
theorem newObj_at (hi:Inv Pi H w) (vs:Array Value) (e:TypeId) (cs:List AV) (hr:RepL Pi w cs vs.toList) (h1:∀ v ∈ vs.toList,oneV v=true) :
    BoxAt Pi (w.alloc (.cells vs e (0,0))) cs w.heap.size :=
  ⟨vs,e,alloc_new w _,RepL.later (Later.alloc hi _) _ _ hr,h1,fun o h=>Nat.lt_irrefl _ (hi.pi_lt h)⟩
theorem Ext.newObj (hi:Inv Pi H w) (o:Obj) (x:AObj):Ext H Pi w (H.setObj w.heap.size x) Pi (w.alloc o):=by
  refine ⟨by simp,rfl,rfl,rfl,fun b hb _ _=>alloc_old w o hb,Later.alloc hi o,fun b hb=>⟨fun h=>?_,id⟩,fun _ _ _ _ _ h=>h⟩
  simp only [Heap.setObj]
  rw [if_neg (by omega)];exact h
theorem Inv.newObj (hi:Inv Pi H w) (o:Obj) (x:AObj) (hx:ObjAt Pi (w.alloc o) w.heap.size x):Inv Pi (H.setObj w.heap.size x) (w.alloc o):=by
  have ha:=hi.alloc o
  refine ⟨fun b y hy=>?_,fun b n hn=>?_,ha.pi,hi.tysLater (Later.alloc hi o) rfl⟩
  · simp only [Heap.setObj] at hy
    split at hy
    · rename_i hb;subst hb;simp only [Option.some.injEq] at hy;subst hy;exact hx
    · exact ha.objs b y hy
  · obtain ⟨h1,h2,h3⟩:=ha.tips b n hn
    refine ⟨?_,h2,h3⟩
    simp only [Heap.setObj]
    rw [if_neg]
    · exact h1
    · rintro rfl
      have:=hi.fresh_new.2
      rw [show H.tips w.heap.size=some n from hn] at this
      cases this
end alloc

/-- an object is let go: what it holds is told for good -/
theorem dropObj_pub {Pi:Prot} {H:Heap} {w:World} {b:Nat} {cs:List AV} (hi:Inv Pi H w) (hb:H.objs b=some (.cells cs)):Ext H Pi w (H.dropObj b) (fun x o=>Pi x o ∨ (x=b∧o < cs.length)) w∧Inv (fun x o=>Pi x o ∨ (x=b∧o < cs.length)) (H.dropObj b) w:=by
  obtain ⟨vs,e,h1,h2,h3,h4⟩:=hi.objs b _ hb
  have hsz:vs.size=cs.length:=by rw [← h2.length];simp
  have hl:Later Pi w (fun x o=>Pi x o ∨ (x=b∧o < cs.length)) w:=⟨fun _ _ h=>⟨.inl h,rfl⟩,fun _ vs _ fr h=>⟨vs,fr,h,rfl⟩⟩
  refine ⟨⟨Nat.le_refl _,rfl,rfl,rfl,fun _ _ _ _=>rfl,hl,fun x _=>⟨fun h=>?_,id⟩,fun x o _ h0 _ h=>?_⟩,fun x y hy=>?_,fun x n hn=>?_,fun x o ho=>?_,hi.tys⟩
  · simp only [Heap.dropObj];split
    · rfl
    · exact h
  · rcases h with h | ⟨rfl,_⟩
    · exact h
    · rw [hb] at h0;cases h0
  · simp only [Heap.dropObj] at hy
    split at hy
    · cases hy
    · rename_i hx
      refine (hi.objs x y hy).later hl rfl (fun o ho=>?_)
      rcases ho with ho | ⟨rfl,_⟩
      · exact ho
      · exact absurd rfl hx
  · obtain ⟨k1,k2,k3⟩:=hi.tips x n hn
    have hx:x ≠ b:=fun e=>by subst e;rw [hb] at k1;cases k1
    refine ⟨?_,k2,fun o ho hpo=>?_⟩
    · simp only [Heap.dropObj];rw [if_neg hx];exact k1
    · rcases hpo with hpo | ⟨rfl,_⟩
      · exact k3 o ho hpo
      · exact absurd rfl hx
  · rcases ho with ho | ⟨rfl,ho⟩
    · exact hi.pi x o ho
    · exact ⟨vs[o]'(by omega),by simp [World.cell?,h1,hsz,ho]⟩
section store
variable {Pi:Prot} {H:Heap} {w:World} {b:Nat} {vs vs':Array Value} {e:TypeId}
theorem cell_setRow_other (w:World) (vs':Array Value) {x b k:Nat} (h:x ≠ b):(w.setRow b vs').cell? ⟨x,k,none⟩=w.cell? ⟨x,k,none⟩:=by
  simp only [World.cell?,setRow_other w b x vs' h]
theorem cell_setRow_self {fr:Nat × Nat} (h:w.heap[b]?=some (.cells vs e fr)) (k:Nat):(w.setRow b vs').cell? ⟨b,k,none⟩=vs'[k]?:=by
  simp only [World.cell?,setRow_heap w b vs vs' e fr h];simp
theorem Later.setRow (h:w.heap[b]?=some (.cells vs e (0,0))) (hs:vs'.size=vs.size) (hp:∀ o,Pi b o→vs'[o]?=vs[o]?):Later Pi w Pi (w.setRow b vs'):=by
  refine ⟨fun x k hx=>⟨hx,?_⟩,fun x us e' fr hx=>?_⟩
  · by_cases hb:x=b
    · subst hb
      rw [cell_setRow_self h,hp k hx]
      simp [World.cell?,h]
    · exact cell_setRow_other w vs' hb
  · by_cases hb:x=b
    · subst hb
      rw [h] at hx
      simp only [Option.some.injEq,Obj.cells.injEq] at hx
      obtain ⟨rfl,rfl,rfl⟩:=hx
      exact ⟨vs',(0,0),setRow_heap w x vs vs' e _ h,hs⟩
    · exact ⟨us,fr,(setRow_other w b x vs' hb).trans hx,rfl⟩
theorem pi_setRow (hi:Inv Pi H w) (h:w.heap[b]?=some (.cells vs e (0,0))) (hs:vs'.size=vs.size):∀ x o,Pi x o→∃ v,(w.setRow b vs').cell? ⟨x,o,none⟩=some v:=by
  intro x o hx
  obtain ⟨v,hv⟩:=hi.pi x o hx
  by_cases hb:x=b
  · subst hb
    rw [cell_setRow_self h]
    simp only [World.cell?,h] at hv
    have:o < vs.size:=by
      rcases Nat.lt_or_ge o vs.size with h' | h'
      · exact h'
      · simp [Array.getElem?_eq_none h'] at hv
    exact ⟨vs'[o],by simp [hs,this]⟩
  · exact ⟨v,(cell_setRow_other w vs' hb).trans hv⟩
/-- a store into a block that the abstract heap does not know (a box of the frame's own) -/
theorem setRow_box (hi:Inv Pi H w) (hf:H.fresh b) (h:w.heap[b]?=some (.cells vs e (0,0))) (hs:vs'.size=vs.size) (hp:∀ o,¬ Pi b o) :
    Later Pi w Pi (w.setRow b vs')∧Inv Pi H (w.setRow b vs'):=by
  have hl:=Later.setRow (Pi:=Pi) h hs (fun o ho=>absurd ho (hp o))
  exact ⟨hl,hi.of_same hl (fun x hx=>⟨setRow_other w b x vs' (fun e=>hx (e ▸ hf)),fun _ h=>h⟩) rfl (pi_setRow hi h hs)⟩
/-- a store into an object of the abstract heap -/
theorem setRow_obj (hi:Inv Pi H w) {cs cs':List AV} (ho:H.objs b=some (.cells cs)) (h:w.heap[b]?=some (.cells vs e (0,0))) (hs:vs'.size=vs.size) (hp:∀ o,¬ Pi b o)
    (hr:RepL Pi w cs' vs'.toList) (h1:∀ v ∈ vs'.toList,oneV v=true) :
    Ext H Pi w (H.setObj b (.cells cs')) Pi (w.setRow b vs')∧Inv Pi (H.setObj b (.cells cs')) (w.setRow b vs'):=by
  have hl:=Later.setRow (Pi:=Pi) h hs (fun o ho=>absurd ho (hp o))
  have hb:b < w.heap.size:=(Array.getElem?_eq_some_iff.1 h).1
  refine ⟨⟨by simp,rfl,rfl,rfl,fun x hx h1 _=>setRow_other w b x vs' (fun e=>by subst e;rw [ho] at h1;cases h1),hl,fun x hx=>⟨fun h1=>?_,id⟩,fun _ _ _ _ _ h=>h⟩,?_,?_,pi_setRow hi h hs,hi.tysLater hl rfl⟩
  · simp only [Heap.setObj];split
    · rename_i hxb;subst hxb;rw [ho] at h1;cases h1
    · exact h1
  · intro x y hy
    simp only [Heap.setObj] at hy
    split at hy
    · rename_i hxb;subst hxb
      simp only [Option.some.injEq] at hy;subst hy
      exact ⟨vs',e,setRow_heap w x vs vs' e _ h,RepL.later hl _ _ hr,h1,hp⟩
    · rename_i hxb
      exact (hi.objs x y hy).later hl (setRow_other w b x vs' hxb) (fun _ h=>h)
  · intro x n hn
    obtain ⟨h2,⟨us,e',h3,h4⟩,h5⟩:=hi.tips x n hn
    have hxb:x ≠ b:=fun e=>by subst e;rw [ho] at h2;cases h2
    refine ⟨?_,⟨us,e',(setRow_other w b x vs' hxb).trans h3,h4⟩,h5⟩
    simp only [Heap.setObj];rw [if_neg hxb];exact h2
/-- an append in place -/
theorem setRow_tip (hi:Inv Pi H w) {n m:Nat} (ht:H.tips b=some n) (h:w.heap[b]?=some (.cells vs e (0,0))) (hs:vs'.size=vs.size) (hm:n≤m) (hmv:m≤vs.size)
    (hp:∀ o,o < n→vs'[o]?=vs[o]?) :
    Ext H Pi w (H.setTip b m) (addPi Pi b m) (w.setRow b vs')∧Inv (addPi Pi b m) (H.setTip b m) (w.setRow b vs'):=by
  obtain ⟨g1,⟨us,e',g2,g3⟩,g4⟩:=hi.tips b n ht
  have hlt:b < w.heap.size:=(Array.getElem?_eq_some_iff.1 h).1
  have hl0:=Later.setRow (Pi:=Pi) h hs (fun o ho=>hp o (by
    rcases Nat.lt_or_ge o n with h' | h'
    · exact h'
    · exact absurd ho (g4 o h')))
  have hl:Later Pi w (addPi Pi b m) (w.setRow b vs'):=hl0.trans (Later.addPi m b)
  refine ⟨⟨by simp,rfl,rfl,rfl,fun x hx _ h2=>setRow_other w b x vs' (fun e=>by subst e;rw [ht] at h2;cases h2),hl,fun x hx=>⟨id,fun h1=>?_⟩,fun x o hx _ h1 h2=>?_⟩,?_,?_,?_,hi.tysLater hl rfl⟩
  · simp only [Heap.setTip];split
    · rename_i hxb;subst hxb;rw [ht] at h1;cases h1
    · exact h1
  · rcases h2 with h2 | ⟨rfl,_⟩
    · exact h2
    · rw [ht] at h1;cases h1
  · intro x y hy
    have hxb:x ≠ b:=fun e=>by subst e;rw [show H.objs x=some y from hy] at g1;cases g1
    refine (hi.objs x y hy).later hl (setRow_other w b x vs' hxb) (fun o h=>?_)
    rcases h with h | ⟨rfl,_⟩
    · exact h
    · exact absurd rfl hxb
  · intro x k hk
    simp only [Heap.setTip] at hk
    split at hk
    · rename_i hxb;subst hxb
      simp only [Option.some.injEq] at hk;subst hk
      refine ⟨g1,⟨vs',e,setRow_heap w x vs vs' e _ h,by omega⟩,fun o ho hpo=>?_⟩
      rcases hpo with hpo | ⟨_,hpo⟩
      · exact g4 o (by omega) hpo
      · omega
    · rename_i hxb
      obtain ⟨k1,⟨us',e'',k2,k3⟩,k4⟩:=hi.tips x k hk
      refine ⟨k1,⟨us',e'',(setRow_other w b x vs' hxb).trans k2,k3⟩,fun o ho hpo=>?_⟩
      rcases hpo with hpo | ⟨h',_⟩
      · exact k4 o ho hpo
      · exact hxb h'
  · rintro x o (h2 | ⟨rfl,h2⟩)
    · exact pi_setRow hi h hs x o h2
    · rw [cell_setRow_self h];exact ⟨vs'[o]'(by omega),by simp⟩
/-- an append into a new row -/
theorem newTip (hi:Inv Pi H w) (vs:Array Value) (e:TypeId) (m:Nat) (hm:m≤vs.size) :
    Ext H Pi w (H.setTip w.heap.size m) (addPi Pi w.heap.size m) (w.alloc (.cells vs e (0,0)))∧Inv (addPi Pi w.heap.size m) (H.setTip w.heap.size m) (w.alloc (.cells vs e (0,0))):=by
  obtain ⟨he,hv⟩:=publish hi vs e m hm
  have hf:=hi.fresh_new
  refine ⟨⟨he.size,he.os,he.tape,he.output,he.keep,he.later,fun x hx=>⟨id,fun h=>?_⟩,he.newPi⟩,hv.objs,?_,hv.pi,hv.tys⟩
  · simp only [Heap.setTip];rw [if_neg (by omega)];exact h
  · intro x k hk
    simp only [Heap.setTip] at hk
    split at hk
    · rename_i hxb;subst hxb
      simp only [Option.some.injEq] at hk;subst hk
      refine ⟨hf.1,⟨vs,e,alloc_new w _,hm⟩,fun o ho hpo=>?_⟩
      rcases hpo with hpo | ⟨_,hpo⟩
      · exact Nat.lt_irrefl _ (hi.pi_lt hpo)
      · omega
    · exact hv.tips x k hk
end store
end Go.Hx

