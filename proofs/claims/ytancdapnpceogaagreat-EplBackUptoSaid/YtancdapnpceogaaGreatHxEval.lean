/- Operands, slots, and the frame. Own work (session 1). -/
import Derived.Test.YtancdapnpceogaaGreatHxWorld
import Derived.Deep.AppendSrc
import Derived.Great.BuildSlice
namespace Go.Hx

mutual
theorem const_rep {Pi:Prot} {w:World}:∀ (v:Value) (a:AV),constAV v=some a→Rep Pi w a v
  | .bool b,a,h=>by simp only [constAV,Option.some.injEq] at h;subst h;simp [Rep,simpleV]
  | .int k n,a,h=>by simp only [constAV,Option.some.injEq] at h;subst h;simp [Rep,simpleV]
  | .string s,a,h=>by simp only [constAV,Option.some.injEq] at h;subst h;simp [Rep,simpleV]
  | .pointer p,a,h=>by simp only [constAV,Option.some.injEq] at h;subst h;simp [Rep,simpleV]
  | .map r,a,h=>by simp only [constAV,Option.some.injEq] at h;subst h;simp [Rep,simpleV]
  | .nilFunc,a,h=>by simp only [constAV,Option.some.injEq] at h;subst h;simp [Rep,simpleV]
  | .nilIface,a,h=>by simp only [constAV,Option.some.injEq] at h;subst h;simp [Rep,simpleV]
  | .slice none 0 0,a,h=>by
    simp only [constAV,Option.some.injEq] at h;subst h
    simp only [Rep]
    exact ⟨none,0,rfl,Nat.le_refl _,rfl,fun _=>rfl,fun _=>rfl,fun ad h=>(by cases h),fun b h=>(by cases h)⟩
  | .slice (some _) _ _,a,h=>by simp [constAV] at h
  | .slice none (n+1) c,a,h=>by simp [constAV] at h
  | .slice none 0 (c+1),a,h=>by simp [constAV] at h
  | .agg ⟨l⟩,a,h=>by
    simp only [constAV] at h
    cases hl:constAVs l with
    | none=>simp [hl] at h
    | some cs =>
      simp only [hl] at h
      cases ho:cs.all oneA with
      | false=>simp [ho] at h
      | true =>
        simp only [ho,Option.some.injEq] at h;subst h
        simp only [Rep]
        have hr:=consts_rep (Pi:=Pi) (w:=w) l cs hl
        refine ⟨⟨l⟩,rfl,hr,fun v hv=>?_⟩
        obtain ⟨i,hi,he⟩:=List.getElem_of_mem hv
        have hlen:=hr.length
        obtain ⟨v',h1,h2⟩:=RepL.get cs l hr i (cs[i]'(by simp at hi;omega)) (by simp)
        have:v'=v:=by simp at he hi;rw [List.getElem?_eq_getElem hi] at h1;simp at h1;rw [← h1,he]
        subst this
        exact oneA_one h2 (List.all_eq_true.1 ho _ (List.getElem_mem _))
  | .float _ _,a,h=>by simp [constAV] at h
  | .complex _ _ _,a,h=>by simp [constAV] at h
  | .chan _,a,h=>by simp [constAV] at h
  | .func _ _ _,a,h=>by simp [constAV] at h
  | .iface _ _,a,h=>by simp [constAV] at h
  | .tuple _,a,h=>by simp [constAV] at h
theorem consts_rep {Pi:Prot} {w:World}:∀ (l:List Value) (cs:List AV),constAVs l=some cs→RepL Pi w cs l
  | [],cs,h=>by simp only [constAVs,Option.some.injEq] at h;subst h;simp [RepL]
  | v::r,cs,h=>by
    simp only [constAVs] at h
    cases h1:constAV v with
    | none=>simp [h1] at h
    | some a =>
      cases h2:constAVs r with
      | none=>simp [h1,h2] at h
      | some l =>
        simp only [h1,h2,Option.some.injEq] at h;subst h
        exact RepL.cons (const_rep v a h1) (consts_rep r l h2)
end

section eval
variable {Pi:Prot} {H:Heap} {w:World} {B0 N:Nat} {st:St} {a:Act} {β:Nat→Nat}
theorem ev_rep (hr:RelSt Pi H w B0 N st a.tmps β) (x:Operand):RepS Pi w β 0 (ev st x) (a.eval x)∧(ev st x).isBox=false∧∀ d off,ev st x=.loc d off→(get st d).isBox=true:=by
  cases x with
  | tmp t =>
    have h:=hr.slot t
    have hl:=hr.loc t
    simp only [ev,Act.eval]
    cases hs:get st t with
    | undef=>simp [RepS,Slot.isBox]
    | nov=>rw [hs] at h;exact ⟨h,rfl,fun _ _ h=>by cases h⟩
    | val x=>rw [hs] at h;exact ⟨h,rfl,fun _ _ h=>by cases h⟩
    | lbox cs =>
      rw [hs] at h
      refine ⟨h.1,rfl,fun d off he=>?_⟩
      simp only [Slot.loc.injEq] at he
      rw [← he.1,hs];rfl
    | loc t' off=>rw [hs] at h;exact ⟨h,rfl,fun d off' he=>by simp only [Slot.loc.injEq] at he;exact hl d off (by rw [hs,he.1])⟩
    | cp cs=>rw [hs] at h;exact ⟨h,rfl,fun _ _ h=>by cases h⟩
    | dat a=>rw [hs] at h;exact ⟨h,rfl,fun _ _ h=>by cases h⟩
  | const v =>
    simp only [ev,Act.eval]
    cases hc:constAV v with
    | none=>simp [RepS,Slot.isBox]
    | some x=>exact ⟨const_rep v x hc,rfl,fun _ _ h=>by cases h⟩
  | global g=>exact ⟨by simp [ev,Act.eval,RepS,Rep,simpleV],rfl,fun _ _ h=>by cases h⟩
  | func f=>exact ⟨by simp [ev,Act.eval,RepS,Rep,RepL],rfl,fun _ _ h=>by cases h⟩
theorem evV_rep (hr:RelSt Pi H w B0 N st a.tmps β) {x:Operand} {k:AV→Prop} (h:evV st x k):∃ v,k v∧Rep Pi w v (a.eval x):=by
  have:=(ev_rep hr x).1
  unfold evV at h
  cases he:ev st x with
  | val v=>rw [he] at h this;exact ⟨v,h,this⟩
  | _=>rw [he] at h;exact h.elim
theorem evVs_rep (hr:RelSt Pi H w B0 N st a.tmps β):∀ {xs:List Operand} {k:List AV→Prop},evVs st xs k→∃ vs,k vs∧RepL Pi w vs (xs.map a.eval)
  | [],k,h=>⟨[],h,by simp [RepL]⟩
  | x::xs,k,h=>by
    obtain ⟨v,hv,hr1⟩:=evV_rep hr h
    obtain ⟨vs,hk,hr2⟩:=evVs_rep hr hv
    exact ⟨v::vs,hk,RepL.cons hr1 hr2⟩
theorem evO_rep (hr:RelSt Pi H w B0 N st a.tmps β) {x:Option Operand} {k:Option AV→Prop} (h:evO st x k) :
    (x=none∧k none) ∨ ∃ y v,x=some y∧k (some v)∧Rep Pi w v (a.eval y):=by
  cases x with
  | none=>exact .inl ⟨rfl,h⟩
  | some y=>obtain ⟨v,h1,h2⟩:=evV_rep hr h;exact .inr ⟨y,v,rfl,h1,h2⟩

theorem RelSt.step {H':Heap} {Pi':Prot} {w':World} {tmps:Array Value} (hr:RelSt Pi H w B0 N st tmps β) (he:Ext H Pi w H' Pi' w'):RelSt Pi' H' w' B0 N st tmps β:=by
  have hbox:∀ t,(get st t).isBox=true→w'.heap[β t]?=w.heap[β t]?∧(∀ o,Pi' (β t) o→Pi (β t) o)∧H'.fresh (β t):=fun t ht=>by
    have hf:=(hr.box t ht).2
    have hlt:β t < w.heap.size:=by
      have hs:=hr.slot t
      cases hg:get st t with
      | lbox cs =>
        rw [hg] at hs
        obtain ⟨_,vs,e,h3,_⟩:=hs
        exact (Array.getElem?_eq_some_iff.1 h3).1
      | _=>rw [hg] at ht;cases ht
    exact ⟨he.keep _ hlt hf.1 hf.2,fun o=>he.newPi _ o hlt hf.1 hf.2,(he.dom _ hlt).1 hf.1,(he.dom _ hlt).2 hf.2⟩
  exact ⟨hr.size,fun t=>(hr.slot t).later he.later (fun h=>⟨(hbox t h).1,(hbox t h).2.1⟩),fun t h=>⟨(hr.box t h).1,(hbox t h).2.2⟩,hr.inj,hr.loc⟩

theorem getD_set (tmps:Array Value) (d t:Nat) (v:Value):(tmps.setIfInBounds d v).getD t undef=if d=t∧t < tmps.size then v else tmps.getD t undef:=by
  by_cases h:d=t
  · subst h
    by_cases hd:d < tmps.size
    · simp [hd]
    · simp [hd]
  · simp only [h,false_and,if_false]
    simp [Array.getD_eq_getD_getElem?,Array.getElem?_setIfInBounds_ne h]

/-- a slot is written -/
theorem RelSt.put {tmps:Array Value} (hr:RelSt Pi H w B0 N st tmps β) {d:Nat} {s:Slot} {v:Value} (hd:d < N) (hb:(get st d).isBox=false) (hs:s.isBox=false)
    (hl:∀ d' off,s=.loc d' off→(get st d').isBox=true) (hv:RepS Pi w β 0 s v):RelSt Pi H w B0 N ((d,s)::st) (tmps.setIfInBounds d v) β:=by
  have hv':∀ t,RepS Pi w β t s v:=fun t=>by cases s<;>first | exact hv | cases hs
  have hget:∀ t,(get ((d,s)::st) t).isBox=true→t ≠ d∧get ((d,s)::st) t=get st t:=fun t ht=>by
    by_cases h:d=t
    · subst h;rw [get_cons_self] at ht;rw [hs] at ht;cases ht
    · exact ⟨Ne.symm h,get_cons_ne h s st⟩
  have hbox:∀ t,(get st t).isBox=true→(get ((d,s)::st) t).isBox=true:=fun t ht=>by
    have:d ≠ t:=fun e=>by subst e;rw [hb] at ht;cases ht
    rw [get_cons_ne this];exact ht
  refine ⟨by simp [hr.size],fun t=>?_,fun t ht=>?_,fun t t' h h'=>?_,fun t d' off h=>?_⟩
  · by_cases h:d=t
    · subst h
      rw [get_cons_self,getD_set,if_pos ⟨rfl,by rw [hr.size];exact hd⟩]
      exact hv' d
    · rw [get_cons_ne h,getD_set,if_neg (fun h'=>h h'.1)]
      exact hr.slot t
  · rw [(hget t ht).2] at ht;exact hr.box t ht
  · rw [(hget t h).2] at h;rw [(hget t' h').2] at h';exact hr.inj t t' h h'
  · by_cases hdt:d=t
    · subst hdt;rw [get_cons_self] at h;exact hbox _ (hl d' off h)
    · rw [get_cons_ne hdt] at h;exact hbox _ (hr.loc t d' off h)
/-- a slot is the address of a new box -/
theorem RelSt.putBox {tmps:Array Value} (hr:RelSt Pi H w B0 N st tmps β) {d b:Nat} {cs:List AV} (hd:d < N) (hb:(get st d).isBox=false)
    (hB:B0≤b) (hf:H.fresh b) (hne:∀ t,(get st t).isBox=true→β t ≠ b) (hx:BoxAt Pi w cs b) :
    RelSt Pi H w B0 N ((d,.lbox cs)::st) (tmps.setIfInBounds d (.pointer (some ⟨b,0,none⟩))) (fun t=>if t=d then b else β t):=by
  have hnl:∀ t off,get st t ≠ .loc d off:=fun t off h=>by have:=hr.loc t d off h;rw [hb] at this;cases this
  refine ⟨by simp [hr.size],fun t=>?_,fun t ht=>?_,fun t t' h h' heq=>?_,fun t d' off h=>?_⟩
  · by_cases h:d=t
    · subst h
      rw [get_cons_self,getD_set,if_pos ⟨rfl,by rw [hr.size];exact hd⟩]
      simp only [RepS,if_true]
      exact ⟨trivial,hx⟩
    · rw [get_cons_ne h,getD_set,if_neg (fun h'=>h h'.1)]
      have:=hr.slot t
      cases hg:get st t with
      | loc t' off =>
        rw [hg] at this
        simp only [RepS] at this ⊢
        rw [if_neg (fun e=>hnl t off (by rw [hg,e]))];exact this
      | lbox cs'=>rw [hg] at this;simp only [RepS] at this ⊢;rw [if_neg (Ne.symm h)];exact this
      | undef=>trivial
      | nov=>rw [hg] at this;exact this
      | val x=>rw [hg] at this;exact this
      | cp x=>rw [hg] at this;exact this
      | dat x=>rw [hg] at this;exact this
  · by_cases h:d=t
    · subst h;simp only [if_true];exact ⟨hB,hf⟩
    · rw [get_cons_ne h] at ht;simp only [Ne.symm h,if_false];exact hr.box t ht
  · by_cases h1:d=t
    · by_cases h2:d=t'
      · rw [← h1,← h2]
      · subst h1
        rw [get_cons_ne h2] at h'
        simp only [if_true,Ne.symm h2,if_false] at heq
        exact absurd heq.symm (hne t' h')
    · rw [get_cons_ne h1] at h
      by_cases h2:d=t'
      · subst h2
        simp only [if_true,Ne.symm h1,if_false] at heq
        exact absurd heq (hne t h)
      · rw [get_cons_ne h2] at h'
        simp only [Ne.symm h1,Ne.symm h2,if_false] at heq
        exact hr.inj t t' h h' heq
  · by_cases hdt:d=t
    · subst hdt;rw [get_cons_self] at h;cases h
    · rw [get_cons_ne hdt] at h
      by_cases h2:d=d'
      · subst h2;rw [get_cons_self];rfl
      · rw [get_cons_ne h2];exact hr.loc t d' off h
/-- a box is written -/
theorem RelSt.setBox {tmps:Array Value} (hr:RelSt Pi H w B0 N st tmps β) {b:Nat} {cs cs':List AV} {vs vs':Array Value} {e:TypeId} (hg:get st b=.lbox cs)
    (hw:w.heap[β b]?=some (.cells vs e (0,0))) (hs:vs'.size=vs.size) (hp:∀ o,¬ Pi (β b) o) (hl:Later Pi w Pi (w.setRow (β b) vs'))
    (hr':RepL Pi w cs' vs'.toList) (h1:∀ v ∈ vs'.toList,oneV v=true) :
    RelSt Pi H (w.setRow (β b) vs') B0 N ((b,.lbox cs')::st) tmps β:=by
  have hbb:(get st b).isBox=true:=by rw [hg];rfl
  have hbox:∀ t,(get ((b,Slot.lbox cs')::st) t).isBox=(get st t).isBox:=fun t=>by
    by_cases h:b=t
    · subst h;rw [get_cons_self,hbb];rfl
    · rw [get_cons_ne h]
  refine ⟨hr.size,fun t=>?_,fun t ht=>?_,fun t t' h h' heq=>?_,fun t d' off h=>?_⟩
  · by_cases h:b=t
    · subst h
      rw [get_cons_self]
      have:=hr.slot b
      rw [hg] at this
      exact ⟨this.1,vs',e,setRow_heap w _ vs vs' e _ hw,RepL.later hl _ _ hr',h1,hp⟩
    · rw [get_cons_ne h]
      refine (hr.slot t).later hl (fun ht=>⟨setRow_other w _ _ vs' (fun e=>h (hr.inj b t hbb ht e.symm)),fun _ h=>h⟩)
  · rw [hbox] at ht;exact hr.box t ht
  · rw [hbox] at h h';exact hr.inj t t' h h' heq
  · rw [hbox]
    by_cases hdt:b=t
    · subst hdt;rw [get_cons_self] at h;cases h
    · rw [get_cons_ne hdt] at h;exact hr.loc t d' off h
/-- a slot is told more of -/
theorem RelSt.know {tmps:Array Value} (hr:RelSt Pi H w B0 N st tmps β) {d:Nat} {x:AV} (hb:(get st d).isBox=false) (hv:Rep Pi w x (tmps.getD d undef)):RelSt Pi H w B0 N ((d,.val x)::st) tmps β:=by
  have hbox:∀ t,(get ((d,Slot.val x)::st) t).isBox=(get st t).isBox:=fun t=>by
    by_cases h:d=t
    · subst h;rw [get_cons_self,hb];rfl
    · rw [get_cons_ne h]
  refine ⟨hr.size,fun t=>?_,fun t ht=>?_,fun t t' h h' heq=>?_,fun t d' off h=>?_⟩
  · by_cases h:d=t
    · subst h;rw [get_cons_self];exact hv
    · rw [get_cons_ne h];exact hr.slot t
  · rw [hbox] at ht;exact hr.box t ht
  · rw [hbox] at h h';exact hr.inj t t' h h' heq
  · rw [hbox]
    by_cases hdt:d=t
    · subst hdt;rw [get_cons_self] at h;cases h
    · rw [get_cons_ne hdt] at h;exact hr.loc t d' off h
theorem get_clear (keep:List Nat) (st:St) (t:Nat):get (clear keep st) t=(if t ∈ keep then (get st t).strip else .undef):=by
  unfold clear
  induction keep with
  | nil=>simp [get]
  | cons k r ih =>
    simp only [List.map_cons]
    by_cases h:k=t
    · subst h;rw [get_cons_self];simp
    · rw [get_cons_ne h,ih]
      by_cases h2:t ∈ r
      · simp [h2]
      · simp [h2,Ne.symm h]
/-- what is forgotten -/
theorem RelSt.clear {tmps:Array Value} (hr:RelSt Pi H w B0 N st tmps β) (keep:List Nat):RelSt Pi H w B0 N (Hx.clear keep st) tmps β:=by
  have hbox:∀ t,(get (Hx.clear keep st) t).isBox=true→(get st t).isBox=true:=fun t h=>by
    rw [get_clear] at h
    split at h
    · cases hg:get st t<;>rw [hg] at h<;>first | rfl | cases h
    · cases h
  refine ⟨hr.size,fun t=>?_,fun t ht=>hr.box t (hbox t ht),fun t t' h h' heq=>hr.inj t t' (hbox t h) (hbox t' h') heq,fun t d' off h=>?_⟩
  · rw [get_clear]
    split
    · have:=hr.slot t
      cases hg:get st t<;>rw [hg] at this<;>first | exact this | trivial
    · trivial
  · rw [get_clear] at h
    split at h
    · cases hg:get st t<;>rw [hg] at h<;>cases h
    · cases h
theorem RelSt.clr {tmps:Array Value} (hr:RelSt Pi H w B0 N st tmps β) (h:Hint) (i:Nat):RelSt Pi H w B0 N (Hx.clr h i st) tmps β:=by
  unfold Hx.clr
  split
  · exact hr.clear _
  · exact hr
end eval
end Go.Hx

