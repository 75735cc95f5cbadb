/- Contracts of layer 12: is a pattern well made (the program's answer). Own work. And what builds on it. -/
import Derived.Test.YtancdapnpceogaaGreatS5M1
set_option maxRecDepth 20000
namespace Go.Hx
theorem c168 (x:Pa):allT okT x→∀ (w:Bool) (H:Heap) (Q:Post),E 168 [encT x,B w] H Q=Q (B (notsT w x)) H:=by
 induction x using Pa.ind with
 | h x ih =>
  intro hok w H Q
  have hok':=(allT_eq _ _).1 hok
  have hn:=hok'.1.1
  have loop:∀ (r pre:List Pa),x.l=pre++r→f168_l6 (B w) (encTC x) (encTs x.sz x.nil x.tip x.l) (I x.l.length) (I pre.length) H Q=Q (B (notsTs x.k w (lastK pre) r)) H:=by
   intro r
   induction r with
   | nil =>
    intro pre e
    have h1:(pre.length:Int)=x.l.length:=by rw [e];simp
    rw [f168_l6_eq,i_lss,ob_some,cnd_B,h1]
    simp [notsTs]
   | cons y r ihr =>
    intro pre e
    have hlt:pre.length < x.l.length:=by rw [e];simp
    have hlt':(pre.length:Int) < x.l.length:=by omega
    have hy:=ih y (by rw [e];simp) (allTs_mem hok'.2 (by rw [e];simp)) false H
    have ih2:=ihr (pre++[y]) (by simp [e])
    rw [List.length_append,List.length_singleton,lastK_app] at ih2
    have i1:=ixT x.l x.sz x.nil x.tip pre r y e
    have hlast:decide ((pre.length:Int)=W64 ((x.l.length:Int) - 1))=r.isEmpty:=by
     rw [w64_id (by omega) (by omega)]
     have:x.l.length=pre.length+(r.length+1):=by rw [e];simp
     cases r with
     | nil=>simp at this ⊢;omega
     | cons z r=>simp at this ⊢;omega
    have hj:∀ b:Bool,f168_j35 (B w) (encTC x) (encTs x.sz x.nil x.tip x.l) (I x.l.length) (I pre.length) (B b) H Q=Q (B (!b && notsTs x.k w (some y.k) r)) H:=fun b=>by
     rw [f168_j35_eq,cnd_B,i_add,ob_some,w64_succ hlt (by omega),ih2]
     cases b<;>rfl
    rw [f168_l6_eq,i_lss,ob_some,cnd_B,if_pos (by simpa using hlt')]
    simp only [part_f,p5T,ob_some,i1,partT,szT,splT,p0T,i_eql,i_neq,hy,not_B,i_add,w64_succ hlt (show x.l.length≤1152921504606846976 by omega),ih2,f168_c8_7a_eq,f168_c8_7b_eq,f168_c8_17a_eq,f168_c8_17b_eq,f168_c8_23a_eq,f168_c8_23b_eq,f168_c8_23c_eq,hj,lenT,i_sub,cnd_B,hlast,notsTs]
    by_cases h6:y.k=6
    ·simp only [h6,decide_true,Bool.not_true,Bool.false_eq_true,if_false,if_true]
     by_cases h2:x.k=2
     ·cases hp:pre with
      | nil =>
       simp [h2,lastK]
      | cons p0 pr =>
       obtain ⟨pre2,z,e2,hz⟩:=lastK_ix pre (by rw [hp];simp)
       rw [← hp,hz]
       have hpl:pre.length=pre2.length+1:=by rw [e2];simp
       have hne:¬ (pre.length:Int)=0:=by omega
       have hs:W64 ((pre.length:Int) - 1)=(pre2.length:Int):=by rw [w64_id (by omega) (by omega)];omega
       have i3:=ixT x.l x.sz x.nil x.tip pre2 (y::r) z (by rw [e,e2];simp)
       have p0':((encTC z).drop 0)[0]?=some (I z.k):=p0T z
       simp only [h2,decide_true,Bool.not_true,Bool.false_eq_true,if_false,hne,decide_false,hs,i3,ob_some,part_f,p0',i_eql,cnd_B,ne_eq,not_true,Bool.false_or,reduceCtorEq,Option.some.injEq]
       by_cases hz6:z.k=6
       ·simp [hz6]
       ·cases hr:r.isEmpty
        ·simp [hz6]
        ·simp [hz6]
     ·simp [h2]
    ·simp only [h6,decide_false,Bool.not_false,if_true,if_false]
     cases notsT false y<;>simp
  rw [f168_eq,szT,ob_some,part_f,p5T,ob_some,lenT,ob_some,notsT_eq]
  exact loop x.l [] rfl
def useOf (x:Pa):Us:=⟨x.var,x.typ,x.k⟩
theorem c280 (a b:Pa) (H:Heap) (Q:Post):E 280 [encT a,encT b] H Q=Q (B (agreeU (useOf a) (useOf b))) H:=by
 simp only [f280_eq,f280_j4_eq,szT,ob_some,part_f,p0T,p2T,s_eql,i_eql,b_eql 4 false u4,cnd_B,decide_eq_true_eq,agreeU,useOf]
 by_cases h:a.typ=b.typ
 ·simp only [h,if_true,decide_true,Bool.true_and]
  rfl
 ·simp [h]
abbrev ML:=List (ByteArray × Pa)
def encM (M:ML):List (ByteArray × AV):=M.map fun p=>(p.1,encT p.2)
def lookM (s:ByteArray):ML→Option Pa
 | []=>none
 | (k,v)::r=>if s=k then some v else lookM s r
def putM (s:ByteArray) (x:Pa):ML→ML
 | []=>[(s,x)]
 | (k,v)::r=>if s=k then (s,x)::r else (k,v)::putM s x r
theorem findM_enc (s:ByteArray) (M:ML):findM s (encM M)=(lookM s M).map encT:=by
 induction M with
 | nil=>rfl
 | cons p r ih =>
  obtain ⟨k,v⟩:=p
  simp only [encM,List.map_cons,findM,lookM] at ih ⊢
  rw [ba_beq]
  by_cases h:s=k
  ·simp [h]
  ·simp only [h,decide_false,if_false];exact ih
theorem updM_enc (s:ByteArray) (x:Pa) (M:ML):updM s (encT x) (encM M)=encM (putM s x M):=by
 induction M with
 | nil=>rfl
 | cons p r ih =>
  obtain ⟨k,v⟩:=p
  simp only [encM,List.map_cons,updM,putM] at ih ⊢
  rw [ba_beq]
  by_cases h:s=k
  ·simp [h]
  ·simp only [h,decide_false,if_false,List.map_cons,ih]
theorem lookM_mem {s:ByteArray} {M:ML} {x:Pa} (h:lookM s M=some x):(s,x) ∈ M:=by
 induction M with
 | nil=>cases h
 | cons p r ih =>
  obtain ⟨k,v⟩:=p
  simp only [lookM] at h
  split at h
  ·rename_i hk;cases h;rw [hk];exact List.mem_cons_self
  ·exact List.mem_cons_of_mem _ (ih h)
theorem lookM_none {s:ByteArray} {M:ML} (h:lookM s M=none):∀ x,(s,x) ∉ M:=by
 induction M with
 | nil=>intro x hx;cases hx
 | cons p r ih =>
  obtain ⟨k,v⟩:=p
  simp only [lookM] at h
  split at h
  ·cases h
  ·rename_i hk
   intro x hx
   cases hx with
   | head=>exact hk rfl
   | tail _ hx=>exact ih h x hx
theorem putM_mem {s t:ByteArray} {x y:Pa} {M:ML} (h:(t,y) ∈ putM s x M):(t=s∧y=x) ∨ (t,y) ∈ M:=by
 induction M with
 | nil=>simp only [putM,List.mem_singleton,Prod.mk.injEq] at h;exact .inl h
 | cons p r ih =>
  obtain ⟨k,v⟩:=p
  simp only [putM] at h
  split at h
  ·rcases List.mem_cons.1 h with h | h
   ·simp only [Prod.mk.injEq] at h;exact .inl h
   ·exact .inr (List.mem_cons_of_mem _ h)
  ·rcases List.mem_cons.1 h with h | h
   ·exact .inr (by rw [h];exact List.mem_cons_self)
   ·rcases ih h with h | h
    ·exact .inl h
    ·exact .inr (List.mem_cons_of_mem _ h)
theorem putM_key {s:ByteArray} {x:Pa} {M:ML}:(s,x) ∈ putM s x M:=by
 induction M with
 | nil=>exact List.mem_singleton.2 rfl
 | cons p r ih =>
  obtain ⟨k,v⟩:=p
  simp only [putM]
  split
  ·exact List.mem_cons_self
  ·exact List.mem_cons_of_mem _ ih
theorem putM_old {s t:ByteArray} {x y:Pa} {M:ML} (h:(t,y) ∈ M):∃ z,(t,z) ∈ putM s x M:=by
 induction M with
 | nil=>cases h
 | cons p r ih =>
  obtain ⟨k,v⟩:=p
  simp only [putM]
  split
  ·rename_i hk
   rcases List.mem_cons.1 h with h | h
   ·simp only [Prod.mk.injEq] at h
    exact ⟨x,by rw [h.1,hk];exact List.mem_cons_self⟩
   ·exact ⟨y,List.mem_cons_of_mem _ h⟩
  ·rcases List.mem_cons.1 h with h | h
   ·exact ⟨y,by rw [h];exact List.mem_cons_self⟩
   ·obtain ⟨z,hz⟩:=ih h
    exact ⟨z,List.mem_cons_of_mem _ hz⟩
/-- a map has the leaves of these uses -/
structure Reps (M:ML) (us:List Us):Prop where
 sub:∀ s x,(s,x) ∈ M→x.var=s∧useOf x ∈ us
 all:∀ u ∈ us,∃ x,(u.var,x) ∈ M
/-- uses of one Var agree -/
def agreeAll (us:List Us):Prop:=∀ a ∈ us,∀ b ∈ us,a.var=b.var→agreeU a b=true
theorem agreeU_iff (a b:Us):agreeU a b=true ↔ a.typ=b.typ∧(a.k=6 ↔ b.k=6):=by
 simp only [agreeU,Bool.and_eq_true,decide_eq_true_eq,beq_iff_eq,decide_eq_decide]
theorem agreeU_trans {a b c:Us} (h1:agreeU a b=true) (h2:agreeU b c=true):agreeU a c=true:=by
 rw [agreeU_iff] at *
 exact ⟨h1.1.trans h2.1,h1.2.trans h2.2⟩
theorem agreeU_symm {a b:Us} (h1:agreeU a b=true):agreeU b a=true:=by
 rw [agreeU_iff] at *
 exact ⟨h1.1.symm,h1.2.symm⟩
theorem clashes_false {k:Int} {p us:List Us}:clashes k p us=false ↔ ∀ a ∈ us,∀ b ∈ p,a.var=b.var→k=4∧agreeU a b=true:=by
 simp only [clashes,List.any_eq_false,clash]
 constructor
 ·intro h a ha b hb hv
  have:=h a ha
  simp only [Bool.not_eq_true,List.any_eq_false,Bool.and_eq_true,decide_eq_true_eq,hv,true_and,Bool.not_eq_true',Bool.not_eq_false] at this
  have:=this b hb
  simpa using this
 ·intro h a ha
  simp only [Bool.not_eq_true,List.any_eq_false]
  intro b hb
  by_cases hv:a.var=b.var
  ·have:=h a ha b hb hv
   simp [this.1,this.2]
  ·simp [hv]
theorem agreeAll_app {k:Int} {p us:List Us} (h1:agreeAll p) (h2:agreeAll us) (hc:clashes k p us=false):agreeAll (p++us):=by
 rw [clashes_false] at hc
 intro a ha b hb hv
 rcases List.mem_append.1 ha with ha | ha
 ·rcases List.mem_append.1 hb with hb | hb
  ·exact h1 a ha b hb hv
  ·exact agreeU_symm (hc b hb a ha hv.symm).2
 ·rcases List.mem_append.1 hb with hb | hb
  ·exact (hc a ha b hb hv).2
  ·exact h2 a ha b hb hv
/-- an entry stands where it may not -/
def badE (k:Int) (M:ML) (p:ByteArray × Pa):Bool :=
 match lookM p.1 M with
 | some old=>!(decide (k=4) && agreeU (useOf old) (useOf p.2))
 | none=>false
theorem bad_iff {k:Int} {M O:ML} {p us:List Us} (hM:Reps M p) (hO:Reps O us) (hp:agreeAll p) (hu:agreeAll us):(O.any (badE k M))=clashes k p us:=by
 rw [Bool.eq_iff_iff]
 constructor
 ·intro h
  obtain ⟨e,he,hb⟩:=List.any_eq_true.1 h
  obtain ⟨s,leaf⟩:=e
  simp only [badE] at hb
  cases hl:lookM s M with
  | none=>rw [hl] at hb;cases hb
  | some old =>
   rw [hl] at hb
   have h1:=hM.sub s old (lookM_mem hl)
   have h2:=hO.sub s leaf he
   cases hc:clashes k p us with
   | true=>rfl
   | false =>
    have:=clashes_false.1 hc (useOf leaf) h2.2 (useOf old) h1.2 (h2.1.trans h1.1.symm)
    simp only [this.1,decide_true,Bool.true_and,agreeU_symm this.2,Bool.not_true] at hb
    cases hb
 ·intro h
  cases hc:O.any (badE k M) with
  | true=>rfl
  | false =>
   have hcl:clashes k p us=false:=clashes_false.2 (fun a ha b hb hv=>by
    obtain ⟨leaf,hl⟩:=hO.all a ha
    have h2:=hO.sub _ _ hl
    obtain ⟨o1,ho1⟩:=hM.all b hb
    rw [← hv] at ho1
    have hb0:¬ badE k M (a.var,leaf)=true:=List.any_eq_false.1 hc _ hl
    simp only [badE] at hb0
    cases hlk:lookM a.var M with
    | none=>exact absurd ho1 (lookM_none hlk o1)
    | some old =>
     rw [hlk] at hb0
     have h3:=hM.sub _ _ (lookM_mem hlk)
     simp only [Bool.not_eq_true,Bool.not_eq_false',Bool.and_eq_true,decide_eq_true_eq] at hb0
     refine ⟨hb0.1,?_⟩
     have a1:agreeU a (useOf leaf)=true:=hu a ha (useOf leaf) h2.2 h2.1.symm
     have a2:agreeU (useOf old) b=true:=hp (useOf old) h3.2 b hb (h3.1.trans hv)
     exact agreeU_trans a1 (agreeU_trans (agreeU_symm hb0.2) a2))
   rw [hcl] at h;cases h
theorem next_intro {it mo n:Nat} {seen:List Nat} {O:ML} {H:Heap} {K:Post} (h1:H.objs it=some (.miter mo n seen)) (h2:H.objs mo=some (.smap (encM O))) (hn:O.length=n)
  (hk:∀ (i:Nat) v x,O[i]?=some (v,x)→i ∉ seen→K (.tup [B true,S v,encT x]) (H.setObj it (.miter mo n (seen++[i])))) (he:(∀ i,i < n→i ∈ seen)→K (.tup [B false]) H):nextM (Pt it) H K:=by
 simp only [nextM,Pt,h1,h2]
 refine ⟨by simpa [encM] using hn,fun i s v hi hs=>?_,he⟩
 simp only [encM,List.getElem?_map,Option.map_eq_some_iff,Prod.mk.injEq] at hi
 obtain ⟨⟨s',x⟩,h3,h4,h5⟩:=hi
 have:=hk i s' x h3 hs
 rw [← h4,← h5]
 exact this
theorem ent_eq {it mo n i:Nat} {seen:List Nat} {O:ML} {v:ByteArray} {x:Pa} {H:Heap} (h1:H.objs it=some (.miter mo n (seen++[i]))) (h2:H.objs mo=some (.smap (encM O))) (hn:O.length=n) (hi:O[i]?=some (v,x)) :
  entM H (Pt it)=some (.tup [S v,encT x]):=by
 have hi':(encM O)[i]?=some (v,encT x):=by simp [encM,hi]
 have hl:(encM O).length=n:=by simpa [encM] using hn
 have hb:Nat.beq n n=true:=by simp
 simp only [entM,Pt,h1,h2,hl,List.getLast?_append,List.getLast?_singleton,Option.some_or,hi',hb]
theorem rng_intro {mo:Nat} {O:ML} {H:Heap} {K:Post} (h2:H.objs mo=some (.smap (encM O))) (hk:∀ b,H.fresh b→K (Pt b) (H.setObj b (.miter mo O.length []))):rngM (.raw (.map (some mo))) H K:=by
 simp only [rngM,h2]
 intro b hb
 have:=hk b hb
 simpa [encM,Pt] using this
/-- how many are left -/
theorem left_lt {n:Nat} {seen:List Nat} {i f:Nat} (hi:i < n) (hs:i ∉ seen) (hf:((List.range n).filter fun j=>decide (j ∉ seen)).length≤f+1):((List.range n).filter fun j=>decide (j ∉ seen++[i])).length≤f:=by
 have h1:((List.range n).filter fun j=>decide (j ∉ seen++[i]))=((List.range n).filter fun j=>decide (j ∉ seen)).filter fun j=>decide (j ≠ i):=by
  rw [List.filter_filter]
  congr 1
  funext j
  simp only [List.mem_append,List.mem_singleton,not_or,ne_eq,Bool.decide_and]
  exact Bool.and_comm _ _
 have hm:i ∈ (List.range n).filter fun j=>decide (j ∉ seen):=by simp [hi,hs]
 have h2:(((List.range n).filter fun j=>decide (j ∉ seen)).filter fun j=>decide (j ≠ i)).length < ((List.range n).filter fun j=>decide (j ∉ seen)).length :=
  List.length_filter_lt_length_iff_exists.2 ⟨i,hm,by simp⟩
 rw [h1];omega
theorem left_none {n:Nat} {seen:List Nat} (hf:((List.range n).filter fun j=>decide (j ∉ seen)).length≤0) {i:Nat} (hi:i < n) (hs:i ∉ seen):False:=by
 have hm:i ∈ (List.range n).filter fun j=>decide (j ∉ seen):=by simp [hi,hs]
 have:=List.length_pos_of_mem hm
 omega
abbrev zT:AV:=.agg [I 0,S e0,S e0,I 0,I 0,.sl 0 true .full []]
theorem okA_some (z v:AV):okA z true (some v)=.tup [v,B true]:=rfl
theorem okA_none (z:AV):okA z true none=.tup [z,B false]:=rfl
theorem x1_0 (a:AV):extractA (.tup [a]) 0=some a:=rfl
theorem c239 (k:Int) (mu mo:Nat) (hne:mu ≠ mo) (M O:ML) (H:Heap) (Q:Post) (hM:H.objs mu=some (.smap (encM M))) (hO:H.objs mo=some (.smap (encM O)))
  (h1:O.any (badE k M)=true→∀ H',HExt H H'→Q (B false) H')
  (h2:O.any (badE k M)=false→∀ H' M',HExc (fun b=>b=mu) H H'→H'.objs mu=some (.smap (encM M'))→(∀ s x,(s,x) ∈ M'→(s,x) ∈ M ∨ (s,x) ∈ O)→(∀ s x,(s,x) ∈ M ∨ (s,x) ∈ O→∃ y,(s,y) ∈ M')→Q (B true) H') :
  E 239 [Mp mu,I k,Mp mo] H Q:=by
 have second:∀ (f:Nat) (seen:List Nat) (it:Nat) (H1:Heap) (M1:ML),H.fresh it→it ≠ mu→it ≠ mo→HExc (fun b=>b=mu) H H1→H1.objs mu=some (.smap (encM M1))→H1.objs it=some (.miter mo O.length seen) →
   ((List.range O.length).filter fun j=>decide (j ∉ seen)).length≤f →
   (∀ s x,(s,x) ∈ M1→(s,x) ∈ M ∨ (s,x) ∈ O)→(∀ s x,(s,x) ∈ M→∃ y,(s,y) ∈ M1)→(∀ i ∈ seen,∀ s x,O[i]?=some (s,x)→∃ y,(s,y) ∈ M1) →
   O.any (badE k M)=false→f239_l29 (Mp mu) (Pt it) H1 Q:=by
  intro f
  induction f with
  | zero =>
   intro seen it H1 M1 hf n1 n2 he hm hi hl g1 g2 g3 hb
   have ho:H1.objs mo=some (.smap (encM O)):=he.obj hO (fun e=>hne e.symm)
   rw [f239_l29_eq]
   refine next_intro hi ho rfl (fun i v x hx hs=>?_) (fun hall=>?_)
   ·exact (left_none hl (List.getElem?_eq_some_iff.1 hx).1 hs).elim
   ·simp only [x1_0,ob_some,cnd_f]
    refine h2 hb H1 M1 he hm g1 (fun s x hx=>?_)
    rcases hx with hx | hx
    ·exact g2 s x hx
    ·obtain ⟨i,hi',e⟩:=List.getElem_of_mem hx
     exact g3 i (hall i hi') s x (by rw [List.getElem?_eq_getElem hi',e])
  | succ f ih =>
   intro seen it H1 M1 hf n1 n2 he hm hi hl g1 g2 g3 hb
   have ho:H1.objs mo=some (.smap (encM O)):=he.obj hO (fun e=>hne e.symm)
   rw [f239_l29_eq]
   refine next_intro hi ho rfl (fun i v x hx hs=>?_) (fun hall=>?_)
   ·have oi:=setObj_same H1 it (.miter mo O.length (seen++[i]))
    have om:=(setObj_ne H1 (.miter mo O.length (seen++[i])) (Ne.symm n1)).trans hm
    have oo:=(setObj_ne H1 (.miter mo O.length (seen++[i])) (Ne.symm n2)).trans ho
    have e1:HExc (fun b=>b=mu) H (H1.setObj it (.miter mo O.length (seen++[i]))):=he.setObj (.inr hf) _
    generalize H1.setObj it (.miter mo O.length (seen++[i]))=H2 at oi om oo e1 ⊢
    have hu:∀ K:Heap→Prop,updA H2 (Mp mu) (S v) (encT x) K=K (H2.setObj mu (.smap (updM v (encT x) (encM M1)))):=fun K=>by simp [updA,S,om]
    simp only [x3_0,ob_some,cnd_t,ent_eq oi oo rfl hx,x2_0,x2_1,szT,splT,partT,hu,updM_enc]
    have hxO:(v,x) ∈ O:=List.mem_of_getElem? hx
    refine ih (seen++[i]) it _ (putM v x M1) hf n1 n2 (e1.setObj (.inl rfl) _) (setObj_same _ _ _) ((setObj_ne _ _ n1).trans oi) (left_lt (List.getElem?_eq_some_iff.1 hx).1 hs hl) (fun s y hy=>?_) (fun s y hy=>?_) (fun j hj s y hy=>?_) hb
    ·rcases putM_mem hy with h | h
     ·exact .inr (by rw [h.1,h.2];exact hxO)
     ·exact g1 s y h
    ·obtain ⟨z,hz⟩:=g2 s y hy
     exact putM_old hz
    ·rcases List.mem_append.1 hj with hj | hj
     ·obtain ⟨z,hz⟩:=g3 j hj s y hy
      exact putM_old hz
     ·simp only [List.mem_singleton] at hj
      rw [hj,hx] at hy
      cases hy
      exact ⟨x,putM_key⟩
   ·simp only [x1_0,ob_some,cnd_f]
    refine h2 hb H1 M1 he hm g1 (fun s x hx=>?_)
    rcases hx with hx | hx
    ·exact g2 s x hx
    ·obtain ⟨i,hi',e⟩:=List.getElem_of_mem hx
     exact g3 i (hall i hi') s x (by rw [List.getElem?_eq_getElem hi',e])
 have fin:∀ (H1:Heap),HExt H H1→O.any (badE k M)=false→rngM (Mp mo) H1 (fun r22 H23=>f239_l29 (Mp mu) r22 H23 Q):=fun H1 he hb=>by
  refine rng_intro (he.obj hO) (fun b fb=>?_)
  have n1:=fresh_ne (he.obj hM) fb
  have n2:=fresh_ne (he.obj hO) fb
  exact second _ [] b _ M (he.fresh fb) (Ne.symm n1) (Ne.symm n2) (he.exc.setObj (.inr (he.fresh fb)) _) ((setObj_ne _ _ n1).trans (he.obj hM)) (setObj_same _ _ _) (Nat.le_refl _) (fun s x h=>.inl h) (fun s x h=>⟨x,h⟩) (fun i hi=>by cases hi) hb
 have first:∀ (f:Nat) (seen:List Nat) (it:Nat) (H1:Heap),H.fresh it→it ≠ mu→it ≠ mo→HExt H H1→H1.objs it=some (.miter mo O.length seen) →
   ((List.range O.length).filter fun j=>decide (j ∉ seen)).length≤f→(∀ i ∈ seen,∀ p,O[i]?=some p→badE k M p=false)→f239_l6 (Mp mu) (I k) (Mp mo) (Pt it) H1 Q:=by
  intro f
  induction f with
  | zero =>
   intro seen it H1 hf n1 n2 he hi hl hg
   rw [f239_l6_eq]
   refine next_intro hi (he.obj hO) rfl (fun i v x hx hs=>?_) (fun hall=>?_)
   ·exact (left_none hl (List.getElem?_eq_some_iff.1 hx).1 hs).elim
   ·simp only [x1_0,ob_some,cnd_f]
    refine fin H1 he (List.any_eq_false.2 (fun p hp=>?_))
    obtain ⟨i,hi',e⟩:=List.getElem_of_mem hp
    rw [hg i (hall i hi') p (by rw [List.getElem?_eq_getElem hi',e])]
    simp
  | succ f ih =>
   intro seen it H1 hf n1 n2 he hi hl hg
   rw [f239_l6_eq]
   refine next_intro hi (he.obj hO) rfl (fun i v x hx hs=>?_) (fun hall=>?_)
   ·have oi:=setObj_same H1 it (.miter mo O.length (seen++[i]))
    have e1:HExt H (H1.setObj it (.miter mo O.length (seen++[i]))):=he.setObj hf _
    generalize H1.setObj it (.miter mo O.length (seen++[i]))=H2 at oi e1 ⊢
    have om:=e1.obj hM
    have oo:=e1.obj hO
    have hxO:(v,x) ∈ O:=List.mem_of_getElem? hx
    have hlk:lookA H2 zT (Mp mu) (S v) true=some (okA zT true (findM v (encM M))):=by simp [lookA,S,entsA,om]
    have hj:∀ b:Bool,b=badE k M (v,x)→f239_j20 (Mp mu) (I k) (Mp mo) (Pt it) (B b) H2 Q:=fun b hb=>by
     rw [f239_j20_eq]
     refine cnd_intro (fun h=>?_) (fun h=>?_)
     ·exact h1 (List.any_eq_true.2 ⟨(v,x),hxO,by rw [← hb,h]⟩) H2 e1
     ·refine ih (seen++[i]) it H2 hf n1 n2 e1 oi (left_lt (List.getElem?_eq_some_iff.1 hx).1 hs hl) (fun j hj p hp=>?_)
      rcases List.mem_append.1 hj with hj | hj
      ·exact hg j hj p hp
      ·simp only [List.mem_singleton] at hj
       rw [hj,hx] at hp
       cases hp
       rw [← hb,h]
    simp only [x3_0,ob_some,cnd_t,ent_eq oi oo rfl hx,x2_0,x2_1,szT,splT,hlk,findM_enc]
    simp only [badE] at hj
    cases hm:lookM v M with
    | none =>
     rw [hm] at hj
     have z1:sizedA 6 zT=some [I 0,S e0,S e0,I 0,I 0,.sl 0 true .full []]:=rfl
     have z2:spliceA 0 [I 0,S e0,S e0,I 0,I 0,.sl 0 true .full []] [I 0,S e0,S e0,I 0,I 0,.sl 0 true .full []]=some [I 0,S e0,S e0,I 0,I 0,.sl 0 true .full []]:=rfl
     simp only [Option.map_none,okA_none,x2_0,x2_1,ob_some,z1,z2,cnd_f]
     exact hj false rfl
    | some old =>
     rw [hm] at hj
     simp only [Option.map_some,okA_some,x2_0,x2_1,ob_some,szT,splT,cnd_t,i_neq,partT,c280,not_B]
     refine cnd_intro (fun h=>?_) (fun h=>?_)
     ·exact hj true (by simp at h;simp [h])
     ·exact hj _ (by simp at h;simp [h])
   ·simp only [x1_0,ob_some,cnd_f]
    refine fin H1 he (List.any_eq_false.2 (fun p hp=>?_))
    obtain ⟨i,hi',e⟩:=List.getElem_of_mem hp
    rw [hg i (hall i hi') p (by rw [List.getElem?_eq_getElem hi',e])]
    simp
 rw [f239_eq]
 refine rng_intro hO (fun b fb=>?_)
 have n1:=fresh_ne hM fb
 have n2:=fresh_ne hO fb
 exact first _ [] b _ fb (Ne.symm n1) (Ne.symm n2) ((HExt.refl H).setObj fb _) (setObj_same _ _ _) (Nat.le_refl _) (fun i hi=>by cases hi)
theorem once_agree (x:Pa) (h:allRT x=true):onceT x=true→agreeAll (usesT x):=by
 induction x using Pa.ind with
 | h x ih =>
  intro ho
  rw [onceT_eq] at ho
  rw [allRT_eq,Bool.and_eq_true] at h
  have loop:∀ (r:List Pa) (p:List Us),(∀ y ∈ r,y ∈ x.l)→agreeAll p→onceTs x.k p r=true→agreeAll (p++usesTs r):=by
   intro r
   induction r with
   | nil=>intro p _ hp _;simpa [usesTs] using hp
   | cons y r ihr =>
    intro p hm hp ho
    simp only [onceTs,Bool.and_eq_true,Bool.not_eq_true'] at ho
    have h1:=ih y (hm y (by simp)) (allRTs_mem h.2 (hm y (by simp))) ho.1
    have:=ihr (p++usesT y) (fun z hz=>hm z (by simp [hz])) (agreeAll_app hp h1 ho.2.1) ho.2.2
    simpa [usesTs] using this
  have h2:=loop x.l [] (fun _ h=>h) (fun a ha=>by cases ha) ho
  rw [usesT_eq]
  by_cases hl:isLeafT x.k=true
  ·rw [if_pos hl]
   have hnil:x.l=[]:=by
    have hr:=h.1
    simp only [isLeafT,Bool.or_eq_true,decide_eq_true_eq] at hl
    simp only [rightT] at hr
    split at hr
    ·simp [leafT] at hr;exact List.eq_nil_of_length_eq_zero (by simp [hr])
    ·split at hr
     ·simp [leafT] at hr;exact List.eq_nil_of_length_eq_zero (by simp [hr])
     ·omega
   rw [hnil]
   intro a ha b hb _
   simp only [usesTs,List.append_nil,List.mem_singleton] at ha hb
   rw [ha,hb]
   simp [agreeU]
  ·rw [if_neg hl];simpa using h2
theorem leaf_nil {x:Pa} (h:rightT x=true) (hl:isLeafT x.k=true):x.l=[]:=by
 simp only [isLeafT,Bool.or_eq_true,decide_eq_true_eq] at hl
 simp only [rightT] at h
 split at h
 ·simp [leafT] at h;exact List.eq_nil_of_length_eq_zero (by simp [h])
 ·split at h
  ·simp [leafT] at h;exact List.eq_nil_of_length_eq_zero (by simp [h])
  ·omega
theorem c167 (x:Pa):allT okT x→allRT x=true→∀ (H:Heap) (Q:Post),(onceT x=true→∀ H' m M,HExt H H'→H.fresh m→H'.objs m=some (.smap (encM M))→Reps M (usesT x)→Q (.tup [Mp m,B true]) H') →
  (onceT x=false→∀ H' v,HExt H H'→Q (.tup [v,B false]) H')→E 167 [encT x] H Q:=by
 induction x using Pa.ind with
 | h x ih =>
  intro hok hr H Q hq1 hq2
  have hok':=(allT_eq _ _).1 hok
  have hn:=hok'.1.1
  have hr':=hr
  rw [allRT_eq,Bool.and_eq_true] at hr'
  rw [f167_eq,szT,ob_some,part_f,p0T,ob_some,c238]
  refine cnd_intro (fun hl=>?_) (fun hl=>?_)
  ·have hnil:=leaf_nil hr'.1 hl
   intro m fm
   have hu:∀ K:Heap→Prop,updA (H.setObj m (.smap [])) (Mp m) (S x.var) (encT x) K=K ((H.setObj m (.smap [])).setObj m (.smap (encM [(x.var,x)]))):=fun K=>by
    simp [updA,S,setObj_same,updM,encM]
   simp only [part_f,p1T,ob_some,partT,hu]
   refine hq1 (by rw [onceT_eq,hnil];rfl) _ m [(x.var,x)] (((HExt.refl H).setObj fm _).setObj fm _) fm (setObj_same _ _ _) ⟨fun s y hy=>?_,fun u hu=>?_⟩
   ·simp only [List.mem_singleton,Prod.mk.injEq] at hy
    rw [hy.1,hy.2,usesT_eq,if_pos hl]
    exact ⟨rfl,by simp [useOf]⟩
   ·rw [usesT_eq,if_pos hl,hnil] at hu
    simp only [usesTs,List.append_nil,List.mem_singleton] at hu
    exact ⟨x,by rw [hu];exact List.mem_singleton.2 rfl⟩
  ·have huse:usesT x=usesTs x.l:=by rw [usesT_eq,if_neg (by rw [hl];simp)];rfl
   rw [onceT_eq,huse] at hq1
   rw [onceT_eq] at hq2
   intro m fm
   have loop:∀ (r pre:List Pa) (M:ML) (H1:Heap),x.l=pre++r→HExt H H1→H1.objs m=some (.smap (encM M))→Reps M (usesTs pre)→agreeAll (usesTs pre) →
     (onceTs x.k (usesTs pre) r=true→∀ H' M,HExt H H'→H'.objs m=some (.smap (encM M))→Reps M (usesTs x.l)→Q (.tup [Mp m,B true]) H') →
     (onceTs x.k (usesTs pre) r=false→∀ H' v,HExt H H'→Q (.tup [v,B false]) H')→f167_l16 (encTC x) (Mp m) (encTs x.sz x.nil x.tip x.l) (I x.l.length) (I pre.length) H1 Q:=by
    intro r
    induction r with
    | nil =>
     intro pre M H1 e he hm hM ha g1 g2
     have h1:(pre.length:Int)=x.l.length:=by rw [e];simp
     have h2:pre=x.l:=by rw [e];simp
     rw [f167_l16_eq,i_lss,ob_some,cnd_B,h1]
     simp only [Int.lt_irrefl,decide_false,Bool.false_eq_true,if_false]
     exact g1 rfl H1 M he hm (by rw [← h2];exact hM)
    | cons y r ihr =>
     intro pre M H1 e he hm hM ha g1 g2
     have hlt:pre.length < x.l.length:=by rw [e];simp
     have hlt':(pre.length:Int) < x.l.length:=by omega
     have hym:y ∈ x.l:=by rw [e];simp
     have hry:=allRTs_mem hr'.2 hym
     simp only [onceTs] at g1 g2
     rw [f167_l16_eq,i_lss,ob_some,cnd_B,if_pos (by simpa using hlt'),ixT x.l x.sz x.nil x.tip pre r y e,ob_some,partT,ob_some,szT,ob_some,splT,ob_some,partT,ob_some]
     refine ih y hym (allTs_mem hok'.2 hym) hry H1 _ (fun ho H2 m2 O e2 f2 hm2 hO=>?_) (fun ho H2 v e2=>?_)
     ·simp only [ho,Bool.true_and] at g1 g2
      have hne:m ≠ m2:=fun ee=>not_fresh hm (ee ▸ f2)
      have hay:=once_agree y hry ho
      have hb:=bad_iff (k:=x.k) hM hO ha hay
      simp only [x2_0,x2_1,ob_some,not_B,Bool.not_true,cnd_f,part_f,p0T]
      refine c239 x.k m m2 hne M O H2 _ (e2.obj hm) hm2 (fun hc H3 e3=>?_) (fun hc H3 M3 e3 hm3 s1 s2=>?_)
      ·rw [hb] at hc
       simp only [not_B,ob_some,f167_j31_eq,Bool.not_false,cnd_t]
       rw [hc] at g2
       exact g2 rfl H3 _ ((he.trans e2).trans e3)
      ·rw [hb] at hc
       simp only [hc,Bool.not_false,Bool.true_and] at g1 g2
       simp only [not_B,ob_some,f167_j31_eq,Bool.not_true,cnd_f,i_add,w64_succ hlt (show x.l.length≤1152921504606846976 by omega)]
       have e3':HExt H H3:=HExc.ext (he.trans e2) e3 (fun b hb=>by rw [hb];exact fm)
       have hus:usesTs (pre++[y])=usesTs pre++usesT y:=by simp [usesTs_app,usesTs]
       have:=ihr (pre++[y]) M3 H3 (by simp [e]) e3' hm3 (by
        rw [hus]
        refine ⟨fun s z hz=>?_,fun u hu=>?_⟩
        ·rcases s1 s z hz with h | h
         ·have:=hM.sub s z h;exact ⟨this.1,List.mem_append_left _ this.2⟩
         ·have:=hO.sub s z h;exact ⟨this.1,List.mem_append_right _ this.2⟩
        ·rcases List.mem_append.1 hu with hu | hu
         ·obtain ⟨z,hz⟩:=hM.all u hu;exact s2 _ z (.inl hz)
         ·obtain ⟨z,hz⟩:=hO.all u hu;exact s2 _ z (.inr hz)) (by rw [hus];exact agreeAll_app ha hay hc) (by rw [hus];exact g1) (by rw [hus];exact g2)
       rw [List.length_append,List.length_singleton] at this
       exact this
     ·simp only [ho,Bool.false_and] at g2
      simp only [x2_0,x2_1,ob_some,not_B,Bool.not_false,cnd_t,f167_j31_eq]
      exact g2 trivial H2 _ (he.trans e2)
   simp only [part_f,p5T,ob_some,lenT]
   have em:HExt H (H.setObj m (.smap [])):=(HExt.refl H).setObj fm _
   refine loop x.l [] [] _ rfl em (setObj_same _ _ _) (Reps.mk (fun s y hy=>by cases hy) (fun u hu=>by cases hu)) (fun a ha=>by cases ha) (fun h H' M he hm hM=>hq1 h H' m M he fm hm hM) hq2
theorem c96 (x:Pa) (hok:allT okT x) (hr:allRT x=true) (H:Heap) (Q:Post) (hq:∀ H',HExt H H'→Q (B (madeT x)) H'):E 96 [encT x] H Q:=by
 rw [f96_eq,szT,ob_some,partT,ob_some]
 have fin:∀ (b:Bool) H',HExt H H'→b=madeT x→f96_j6 (B b) H' Q:=fun b H' he hb=>by rw [f96_j6_eq,hb];exact hq H' he
 refine c167 x hok hr H _ (fun ho H1 m M e1 _ _ _=>?_) (fun ho H1 v e1=>?_)
 ·simp only [x2_0,x2_1,ob_some,cnd_t,part_f,p0T,i_neq,partT,c168 x hok]
  refine cnd_intro (fun h=>fin _ H1 e1 (by simp at h;simp [madeT,h,ho])) (fun h=>fin _ H1 e1 (by simp at h;simp [madeT,h]))
 ·simp only [x2_0,x2_1,ob_some,cnd_f]
  exact fin false H1 e1 (by simp [madeT,ho])
theorem checkT_all {x:Pa} (h:checkT x=0):allRT x=true:=by
 simp only [checkT] at h
 split at h
 ·cases h
 ·split at h
  ·cases h
  ·rename_i h3;simpa using h3
theorem c41 (x:Pa) (hok:allT okT x) (hs:sizeT x≤1099511627776) (H:Heap) (Q:Post) (hq:∀ H',HExt H H'→Q (I (madeP x)) H'):E 41 [encT x] H Q:=by
 rw [f41_eq,szT,ob_some,partT,ob_some]
 simp only [madeP] at hq
 refine c95 x hok (by omega) H _ (fun H1 e1=>?_)
 rw [i_neq,ob_some]
 refine cnd_intro (fun h=>?_) (fun h=>?_)
 ·have:=hq H1 e1
  rw [if_pos (by simpa using h)] at this;exact this
 have h:checkT x=0:=by simpa using h
 simp only [h,ne_eq,not_true,if_false] at hq
 rw [ob_some]
 refine c96 x hok (checkT_all h) H1 _ (fun H2 e2=>?_)
 have:=hq H2 (e1.trans e2)
 rw [not_B,ob_some]
 refine cnd_intro (fun h=>?_) (fun h=>?_)
 ·rw [if_neg (by simpa using h)] at this;exact this
 ·rw [if_pos (by simpa using h)] at this;exact this
def fineP (q:Qu):Int:=if queryP q ≠ 0 then queryP q else madeP q.p
theorem c82 (q:Qu) (hok:OkQ q) (H:Heap) (Q:Post) (hq:∀ H',HExt H H'→Q (I (fineP q)) H'):E 82 [encQ q] H Q:=by
 rw [f82_eq,szQ,ob_some,partQ,ob_some]
 simp only [fineP] at hq
 refine c40 q hok H _ (fun H1 e1=>?_)
 rw [i_neq,ob_some]
 refine cnd_intro (fun h=>?_) (fun h=>?_)
 ·have:=hq H1 e1
  rw [if_pos (by simpa using h)] at this;exact this
 rw [if_neg (by simpa using h)] at hq
 rw [partQT,ob_some]
 exact c41 q.p hok.p hok.ps H1 _ (fun H2 e2=>hq H2 (e1.trans e2))
end Go.Hx
namespace Go.Hx
/-- texts are put into one, one by one -/
def cat (ss:List ByteArray):List UInt8:=(ss.map tx).flatten
theorem c84 (b:Nat) (ss:List ByteArray) (sz:Nat) (nil:Bool) (tip:Tip) (hs:ss.length≤1099511627776) (H0 H:Heap) (t:List UInt8) (Q:Post) (h:Bld H0 b t H) (hl:t.length+(cat ss).length≤140737488355328)
  (hq:∀ H',Bld H0 b (t++cat ss) H'→Q (.tup []) H'):E 84 [Pt b,.sl sz nil tip (ss.map S)] H Q:=by
 have loop:∀ (r pre:List ByteArray) (t:List UInt8) (H:Heap),ss=pre++r→Bld H0 b t H→t.length+(cat r).length≤140737488355328→(∀ H',Bld H0 b (t++cat r) H'→Q (.tup []) H') →
   f84_l3 (Pt b) (.sl sz nil tip (ss.map S)) (I ss.length) (I pre.length) H Q:=by
  intro r
  induction r with
  | nil =>
   intro pre t H e h hl hq
   have h1:(pre.length:Int)=ss.length:=by rw [e];simp
   rw [f84_l3_eq,i_lss,ob_some,cnd_B,h1]
   simp only [Int.lt_irrefl,decide_false,Bool.false_eq_true,if_false]
   exact hq H (by simpa [cat] using h)
  | cons s r ih =>
   intro pre t H e h hl hq
   have hlt:pre.length < ss.length:=by rw [e];simp
   have hlt':(pre.length:Int) < ss.length:=by omega
   have i1:ixaA 1 (.sl sz nil tip (ss.map S)) (I pre.length)=some [S s]:=ix_mk 1 nil tip _ pre.length (x:=S s) (by rw [e];exact get_mid S pre r s) rfl
   have hc:cat (s::r)=tx s++cat r:=by simp [cat]
   rw [hc,List.length_append] at hl
   rw [hc] at hq
   rw [f84_l3_eq,i_lss,ob_some,cnd_B,if_pos (by simpa using hlt'),i1,ob_some,part_f,List.getElem?_cons_zero,ob_some,nil_Pt,ob_some,add0_Pt,ob_some]
   refine c118 b s H0 H t _ h (by omega) (fun v H1 h1=>?_)
   rw [i_add,ob_some,w64_succ hlt (by omega)]
   have:=ih (pre++[s]) (t++tx s) H1 (by simp [e]) h1 (by rw [List.length_append];omega) (by rw [List.append_assoc];exact hq)
   rw [List.length_append,List.length_singleton] at this
   exact this
 rw [f84_eq,len_sl,ob_some,List.length_map]
 exact loop ss [] t H rfl h hl hq
end Go.Hx
namespace Go.Hx
/-- a number is put into a builder -/
theorem c158 (b:Nat) (n:Int) (hr:rng n) (H0 H:Heap) (t:List UInt8) (Q:Post) (h:Bld H0 b t H) (hl:t.length+20≤140737488355328) (hq:∀ H',Bld H0 b (t++numT n) H'→Q (.tup []) H'):E 158 [Pt b,I n] H Q:=by
 rw [f158_eq]
 refine c232 n hr H _ (fun H1 e1=>?_)
 have hm:mkSlA 1 [strT (numT n)]=some (.sl 1 false .full ([(⟨(numT n).toArray⟩:ByteArray)].map S)):=rfl
 rw [hm,ob_some]
 have hn:=numT_len hr
 have hc:cat [(⟨(numT n).toArray⟩:ByteArray)]=numT n:=by simp [cat,tx]
 refine c84 b [⟨(numT n).toArray⟩] 1 false .full (by simp) H0 H1 t _ (h.mono e1) (by rw [hc];omega) (fun H2 h2=>hq H2 (by rw [hc] at h2;exact h2))
end Go.Hx
namespace Go.Hx
def sWHERE:List UInt8:=[32,87,72,69,82,69,32]
def sWITHIN:List UInt8:=[32,87,73,84,72,73,78,32]
def whereT (l:List Ex):List UInt8:=if l.length=0 then [] else sWHERE++joinT sAND 3 (bareTs l)
def withinT (n:Int):List UInt8:=if n=0 then [] else sWITHIN++numT n
theorem okl_len {l:List Ex} (hok:OkL l) (he:rowErr l=0):(whereT l).length≤7+1100 * sizeXs l:=by
 have hR:∀ x ∈ l,allX vX x∧allR x=true:=fun x hx=>⟨hok.vx x hx,checkP_all (rowErr_all he x hx)⟩
 have:=join_len sAND 3 (by simp [sAND]) l hR
 simp only [whereT]
 split
 ·simp
 ·simp only [List.length_append,sWHERE,List.length_cons,List.length_nil];omega
theorem c86 (sz:Nat) (nil:Bool) (tip:Tip) (l:List Ex) (hok:OkL l) (he:rowErr l=0) (b:Nat) (H0 H:Heap) (t:List UInt8) (Q:Post) (h:Bld H0 b t H) (hl:t.length+(whereT l).length≤140737488355328)
  (hq:∀ H',Bld H0 b (t++whereT l) H'→Q (.tup []) H'):E 86 [Pt b,encXs sz nil tip l] H Q:=by
 rw [f86_eq]
 refine c26 sz nil tip l hok H _ (fun H1 e1=>?_)
 simp only [rowA,whereT] at hl hq ⊢
 split
 ·rename_i g
  rw [if_pos g] at hq
  rw [x20,ob_some,x21,ob_some,i_eql,ob_some]
  have:decide ((1:Int)=0)=false:=rfl
  rw [this,cnd_f]
  exact hq H1 (by rw [List.append_nil];exact h.mono e1)
 ·rename_i g
  rw [if_neg g] at hl hq
  rw [x20,ob_some,x21,ob_some,i_eql,ob_some]
  have:decide ((0:Int)=0)=true:=rfl
  rw [this,cnd_t]
  have hm:mkSlA 1 [S ⟨#[32,87,72,69,82,69,32]⟩,strT (joinT sAND 3 (bareTs l))]=some (.sl 1 false .full ([(⟨#[32,87,72,69,82,69,32]⟩:ByteArray),⟨(joinT sAND 3 (bareTs l)).toArray⟩].map S)):=rfl
  have hc:cat [(⟨#[32,87,72,69,82,69,32]⟩:ByteArray),⟨(joinT sAND 3 (bareTs l)).toArray⟩]=sWHERE++joinT sAND 3 (bareTs l):=by simp [cat,tx,sWHERE]
  rw [hm,ob_some]
  exact c84 b _ 1 false .full (by simp) H0 H1 t _ (h.mono e1) (by rw [hc];exact hl) (fun H2 h2=>hq H2 (by rw [hc] at h2;exact h2))
theorem c87 (n:Int) (hn:rng n) (b:Nat) (H0 H:Heap) (t:List UInt8) (Q:Post) (h:Bld H0 b t H) (hl:t.length+28≤140737488355328) (hq:∀ H',Bld H0 b (t++withinT n) H'→Q (.tup []) H'):E 87 [Pt b,I n] H Q:=by
 rw [f87_eq,i_neq,ob_some]
 simp only [withinT] at hq
 refine cnd_intro (fun g=>?_) (fun g=>?_)
 ·rw [if_neg (by simpa using g)] at hq
  have hm:mkSlA 1 [S ⟨#[32,87,73,84,72,73,78,32]⟩]=some (.sl 1 false .full ([(⟨#[32,87,73,84,72,73,78,32]⟩:ByteArray)].map S)):=rfl
  have hc:cat [(⟨#[32,87,73,84,72,73,78,32]⟩:ByteArray)]=sWITHIN:=by simp [cat,tx,sWITHIN]
  rw [hm,ob_some]
  have h8:sWITHIN.length=8:=rfl
  refine c84 b _ 1 false .full (by simp) H0 H t _ h (by rw [hc,h8];omega) (fun H1 h1=>?_)
  rw [hc] at h1
  exact c158 b n hn H0 H1 _ _ h1 (by rw [List.length_append,h8];omega) (fun H2 h2=>hq H2 (by simpa using h2))
 ·rw [if_pos (by simpa using g)] at hq
  exact hq H (by rw [List.append_nil];exact h)
theorem withinT_len {n:Int} (hn:rng n):(withinT n).length≤28:=by
 have:=numT_len hn
 simp only [withinT]
 split
 ·simp
 ·simp only [List.length_append,sWITHIN,List.length_cons,List.length_nil];omega
theorem where_facts:∀ (l:List Ex) (n:Nat),whereP n l=0→n+sizeXs l < 100∧rowErr l=0:=by
 intro l
 induction l with
 | nil =>
  intro n h
  simp only [whereP] at h
  split at h
  ·cases h
  ·simp only [sizeXs,rowErr];exact ⟨by omega,trivial⟩
 | cons x r ih =>
  intro n h
  simp only [whereP] at h
  split at h
  ·rename_i hx
   have:=ih _ h
   simp only [sizeXs,rowErr,hx,if_true]
   exact ⟨by omega,this.2⟩
  ·rename_i hx;exact absurd h hx
structure FineQ (q:Qu):Prop where
 size:sizeT q.p≤64
 all:allRT q.p=true
 made:madeT q.p=true
 row:rowErr q.ws=0
 sum:sizeXs q.ws < 100
 its:q.its.length≤16
 rest:restP q=0
theorem fine_of {q:Qu} (h:fineP q=0):FineQ q:=by
 simp only [fineP] at h
 split at h
 ·rename_i h1;exact absurd h h1
 ·rename_i h1
  have h1:queryP q=0:=by simpa using h1
  simp only [queryP] at h1
  split at h1
  ·rename_i h2;exact absurd h1 h2
  ·rename_i h2
   have h2:checkT q.p=0:=by simpa using h2
   split at h1
   ·cases h1
   ·rename_i h3
    have h3:countsP q=0:=by simpa using h3
    split at h1
    ·rename_i h4;exact absurd h1 h4
    ·rename_i h4
     have h4:whereP 0 q.ws=0:=by simpa using h4
     have hw:=where_facts q.ws 0 h4
     simp only [madeP,h2,ne_eq,not_true,if_false] at h
     have hm:madeT q.p=true:=by
      split at h
      ·assumption
      ·cases h
     have hs:sizeT q.p≤64:=by
      simp only [checkT] at h2
      split at h2
      ·cases h2
      ·rename_i h5;omega
     have hi:q.its.length≤16:=by
      simp only [countsP] at h3
      split at h3
      ·cases h3
      ·rename_i h5;omega
     exact ⟨hs,checkT_all h2,hm,hw.2,by omega,hi,h1⟩
theorem okl_of {q:Qu} (hok:OkQ q) (hf:FineQ q):OkL q.ws:=⟨hok.wl,fun x hx=>(hok.wx x hx).1,fun x hx=>(hok.wx x hx).2,by have:=hf.sum;omega⟩
theorem fine_name {x:Pa} (h:allRT x=true) (hl:x.k ≠ 2∧x.k ≠ 3∧x.k ≠ 4):nameL x.var.data.toList=true∧nameL x.typ.data.toList=true:=by
 rw [allRT_eq,Bool.and_eq_true] at h
 have h:=h.1
 simp only [rightT] at h
 split at h
 ·simp only [leafT,Bool.and_eq_true] at h;exact h.1.2
 ·split at h
  ·simp only [leafT,Bool.and_eq_true] at h;exact h.1.2
  ·split at h
   ·omega
   ·cases h
end Go.Hx
namespace Go.Hx
def lvE (k:Int):Int:=if k=2 then 1 else if k=4 then 2 else if k=3 then 3 else 4
def sepE (k:Int):List UInt8:=if k=2 then [32,45,62,32] else if k=4 then sOR else if k=3 then sAND else []
def catR (sep:List UInt8):List (List UInt8)→List UInt8
 | []=>[]
 | p::r=>sep++(p++catR sep r)
def catL (sep:List UInt8):List (List UInt8)→List UInt8
 | []=>[]
 | p::r=>p++catR sep r
def varT (var typ:ByteArray):List UInt8:=tx var++(61::tx typ)
def leafE (k:Int) (var typ:ByteArray) (lo:Int):List UInt8 :=
 if k=6 then sNOT++varT var typ else if k=5 then (91::(numT lo++[93,32]))++varT var typ else varT var typ
mutual
def putE:Pa→Int→List UInt8
 | .mk k var typ lo _ _ _ _ l,need=>if lvE k=4 then leafE k var typ lo else if lvE k < need then 40::(catL (sepE k) (putEs (lvE k+1) l)++[41]) else catL (sepE k) (putEs (lvE k+1) l)
def putEs:Int→List Pa→List (List UInt8)
 | _,[]=>[]
 | need,x::r=>putE x need::putEs need r
end
theorem putE_eq (x:Pa) (need:Int):putE x need=if lvE x.k=4 then leafE x.k x.var x.typ x.lo else if lvE x.k < need then 40::(catL (sepE x.k) (putEs (lvE x.k+1) x.l)++[41]) else catL (sepE x.k) (putEs (lvE x.k+1) x.l):=by
 cases x;rw [putE];rfl
theorem lvE_leaf {k:Int}:lvE k=4 ↔ k ≠ 2∧k ≠ 3∧k ≠ 4:=by
 simp only [lvE]
 repeat' split
 all_goals simp_all
theorem lvE_rng (k:Int):1≤lvE k∧lvE k≤4:=by
 simp only [lvE]
 repeat' split
 all_goals omega
theorem sepE_len (k:Int):(sepE k).length≤5:=by
 simp only [sepE,sOR,sAND]
 repeat' split
 all_goals simp
/-- a PMany's least number -/
theorem many_lo {x:Pa} (h:rightT x=true) (h5:x.k=5):1≤x.lo∧x.lo≤1000:=by
 have h1:¬ (x.k=1 ∨ x.k=6):=by omega
 simp only [rightT,if_neg h1,if_pos h5,Bool.and_eq_true] at h
 have h:=h.2
 simp only [countT] at h
 split at h
 ·cases h
 ·omega
theorem numT_small {n:Int} (h:1≤n∧n≤1000):rng n:=⟨by omega,by omega⟩
theorem leafE_len {x:Pa} (h:allRT x=true) (hl:lvE x.k=4):(leafE x.k x.var x.typ x.lo).length≤90:=by
 have hn:=fine_name h (lvE_leaf.1 hl)
 have a1:=name_len hn.1
 have a2:=name_len hn.2
 simp only [leafE,varT]
 split
 ·simp only [sNOT,List.length_append,List.length_cons,List.length_nil];omega
 ·split
  ·rename_i h5
   rw [allRT_eq,Bool.and_eq_true] at h
   have:=numT_len (numT_small (many_lo h.1 h5))
   simp only [List.length_append,List.length_cons,List.length_nil];omega
  ·simp only [List.length_append,List.length_cons];omega
theorem putE_len (x:Pa) (h:allRT x=true):∀ need,(putE x need).length+5≤110 * sizeT x:=by
 induction x using Pa.ind with
 | h x ih =>
  intro need
  have h':=h
  rw [allRT_eq,Bool.and_eq_true] at h'
  have hch:∀ y ∈ x.l,∀ need,(putE y need).length+5≤110 * sizeT y:=fun y hy=>ih y hy (allRTs_mem h'.2 hy)
  have hsum:∀ (sep:List UInt8) (n:Int) (r:List Pa),sep.length≤5→(∀ y ∈ r,y ∈ x.l)→(catR sep (putEs n r)).length≤110 * sizeTs r:=by
   intro sep n r hs
   induction r with
   | nil=>intro _;simp [putEs,catR]
   | cons y r ihr =>
    intro hm
    have h1:=hch y (hm y (by simp)) n
    have h2:=ihr (fun z hz=>hm z (by simp [hz]))
    simp only [putEs,catR,sizeTs,List.length_append];omega
  have hcat:∀ (sep:List UInt8) (n:Int),sep.length≤5→(catL sep (putEs n x.l)).length≤110 * sizeTs x.l:=by
   intro sep n hs
   cases hl:x.l with
   | nil=>simp [putEs,catL]
   | cons y r =>
    have h1:=hch y (by rw [hl];simp) n
    have h2:=hsum sep n r hs (fun z hz=>by rw [hl];simp [hz])
    simp only [putEs,catL,sizeTs,List.length_append];omega
  have hc:=hcat (sepE x.k) (lvE x.k+1) (sepE_len _)
  rw [putE_eq,sizeT_eq]
  split
  ·rename_i hl;have:=leafE_len h hl;omega
  ·split
   ·simp only [List.length_cons,List.length_append,List.length_nil];omega
   ·omega
theorem lit_strs (ss:List ByteArray):mkSlA 1 (ss.map S)=some (.sl 1 false .full (ss.map S)):=by
 have:((ss.map S).all fun x=>(sizedA 1 x).isSome)=true:=by
  rw [List.all_eq_true]
  intro x hx
  obtain ⟨c,_,rfl⟩:=List.mem_map.1 hx
  rfl
 simp only [mkSlA,this]
/-- one text is put -/
theorem put1 (w:List UInt8) (b:Nat) (H0 H:Heap) (t:List UInt8) (K:Post) (h:Bld H0 b t H) (hl:t.length+w.length≤140737488355328) (hq:∀ H',Bld H0 b (t++w) H'→K (.tup []) H') :
  ob (mkSlA 1 [strT w]) fun r=>E 84 [Pt b,r] H K:=by
 have hm:mkSlA 1 [strT w]=some (.sl 1 false .full ([(⟨w.toArray⟩:ByteArray)].map S)):=lit_strs [⟨w.toArray⟩]
 have hc:cat [(⟨w.toArray⟩:ByteArray)]=w:=by simp [cat,tx]
 rw [hm,ob_some]
 exact c84 b _ 1 false .full (by simp) H0 H t _ h (by rw [hc];exact hl) (fun H1 h1=>hq H1 (by rw [hc] at h1;exact h1))
theorem put3 (u v w:ByteArray) (b:Nat) (H0 H:Heap) (t:List UInt8) (K:Post) (h:Bld H0 b t H) (hl:t.length+(tx u++(tx v++tx w)).length≤140737488355328) (hq:∀ H',Bld H0 b (t++(tx u++(tx v++tx w))) H'→K (.tup []) H') :
  ob (mkSlA 1 [S u,S v,S w]) fun r=>E 84 [Pt b,r] H K:=by
 have hm:mkSlA 1 [S u,S v,S w]=some (.sl 1 false .full ([u,v,w].map S)):=lit_strs [u,v,w]
 have hc:cat [u,v,w]=tx u++(tx v++tx w):=by simp [cat]
 rw [hm,ob_some]
 exact c84 b _ 1 false .full (by simp) H0 H t _ h (by rw [hc];exact hl) (fun H1 h1=>hq H1 (by rw [hc] at h1;exact h1))
theorem c156 (k:Int) (H:Heap) (Q:Post) (hq:Q (.tup [I (lvE k),strT (sepE k)]) H):E 156 [I k] H Q:=by
 rw [f156_eq,i_eql,ob_some]
 by_cases k2:k=2
 ·subst k2;exact hq
 by_cases k4:k=4
 ·subst k4;exact hq
 by_cases k3:k=3
 ·subst k3;exact hq
 simp only [lvE,sepE,k2,k3,k4,if_false] at hq
 simp only [k2,decide_false,cnd_f]
 rw [i_eql,ob_some]
 simp only [k4,decide_false,cnd_f]
 rw [i_eql,ob_some]
 simp only [k3,decide_false,cnd_f]
 exact hq
theorem c157 (x:Pa) (hlo:x.k=5→rng x.lo) (b:Nat) (H0 H:Heap) (t:List UInt8) (Q:Post) (h:Bld H0 b t H) (hl:t.length+(leafE x.k x.var x.typ x.lo).length+20≤140737488355328)
  (hq:∀ H',Bld H0 b (t++leafE x.k x.var x.typ x.lo) H'→Q (.tup []) H'):E 157 [Pt b,encT x] H Q:=by
 have j19:∀ (t:List UInt8) (H:Heap),Bld H0 b t H→t.length+(varT x.var x.typ).length≤140737488355328→(∀ H',Bld H0 b (t++varT x.var x.typ) H'→Q (.tup []) H')→f157_j19 (Pt b) (encTC x) H Q:=fun t H h hl hq=>by
  rw [f157_j19_eq,nil_Pt,ob_some,add0_Pt,ob_some,part_f,p1T,ob_some,part_f,p2T,ob_some]
  exact put3 x.var ⟨#[61]⟩ x.typ b H0 H t _ h hl (fun H' h'=>hq H' h')
 rw [f157_eq,szT,ob_some,part_f,p0T,ob_some,i_eql,ob_some]
 simp only [leafE] at hl hq
 refine cnd_intro (fun g=>?_) (fun g=>?_)
 ·rw [if_pos (by simpa using g)] at hl hq
  simp only [List.length_append] at hl
  rw [nil_Pt,ob_some,add0_Pt,ob_some]
  refine put1 sNOT b H0 H t _ h (by omega) (fun H1 h1=>?_)
  exact j19 _ H1 h1 (by rw [List.length_append];omega) (fun H' h'=>hq H' (by simpa using h'))
 rw [if_neg (by simpa using g)] at hl hq
 rw [i_eql,ob_some]
 refine cnd_intro (fun g=>?_) (fun g=>?_)
 ·have g:x.k=5:=by simpa using g
  rw [if_pos g] at hl hq
  have hn:=numT_len (hlo g)
  simp only [List.length_append,List.length_cons,List.length_nil] at hl
  rw [nil_Pt,ob_some,add0_Pt,ob_some]
  refine put1 [91] b H0 H t _ h (by simp only [List.length_singleton];omega) (fun H1 h1=>?_)
  rw [ob_some,add0_Pt,ob_some,part_f,p3T,ob_some]
  refine c158 b x.lo (hlo g) H0 H1 _ _ h1 (by simp only [List.length_append,List.length_singleton];omega) (fun H2 h2=>?_)
  rw [ob_some,add0_Pt,ob_some]
  refine put1 [93,32] b H0 H2 _ _ h2 (by simp only [List.length_append,List.length_cons,List.length_nil];omega) (fun H3 h3=>?_)
  exact j19 _ H3 h3 (by simp only [List.length_append,List.length_cons,List.length_nil];omega) (fun H' h'=>hq H' (by simpa using h'))
 ·rw [if_neg (by simpa using g)] at hl hq
  exact j19 t H h (by omega) hq
def PutsE (x:Pa):Prop:=∀ (need:Int) (b:Nat) (H0 H:Heap) (t:List UInt8) (Q:Post),Bld H0 b t H→t.length+(putE x need).length+20≤140737488355328→(∀ H',Bld H0 b (t++putE x need) H'→Q (.tup []) H')→E 85 [Pt b,encT x,I need] H Q
theorem c85 (x:Pa) (hok:allT okT x) (hr:allRT x=true):PutsE x:=by
 induction x using Pa.ind with
 | h x ih =>
  rw [allT_eq] at hok
  have hr':=hr
  rw [allRT_eq,Bool.and_eq_true] at hr'
  have hch:∀ y ∈ x.l,PutsE y:=fun y hy=>ih y hy (allTs_mem hok.2 hy) (allRTs_mem hr'.2 hy)
  have hn:=hok.1.1
  intro need b H0 H t Q h hl hq
  rw [putE_eq] at hl hq
  have hlv:=lvE_rng x.k
  rw [f85_eq,szT,ob_some,part_f,p0T,ob_some]
  refine c156 x.k H _ ?_
  rw [x20,ob_some,x21,ob_some,i_eql,ob_some]
  refine cnd_intro (fun g=>?_) (fun g=>?_)
  ·have g:lvE x.k=4:=by simpa using g
   rw [if_pos g] at hl hq
   rw [partT,ob_some]
   exact c157 x (fun h5=>numT_small (many_lo hr'.1 h5)) b H0 H t _ h hl hq
  have g:¬ lvE x.k=4:=by simpa using g
  rw [if_neg g] at hl hq
  have hw:W64 (lvE x.k+1)=lvE x.k+1:=w64_id (by omega) (by omega)
  have loop:∀ (r pre:List Pa) (t:List UInt8) (H:Heap),x.l=pre++r→pre ≠ []→Bld H0 b t H→t.length+(catR (sepE x.k) (putEs (lvE x.k+1) r)).length+20≤140737488355328 →
    (∀ H',Bld H0 b (t++(catR (sepE x.k) (putEs (lvE x.k+1) r)++(if lvE x.k < need then [41] else []))) H'→Q (.tup []) H')→f85_l22 (Pt b) (I need) (I (lvE x.k)) (strT (sepE x.k)) (encTs x.sz x.nil x.tip x.l) (I x.l.length) (I pre.length) H Q:=by
   intro r
   induction r with
   | nil =>
    intro pre t H e _ h hl hq
    have h1:(pre.length:Int)=x.l.length:=by rw [e];simp
    rw [f85_l22_eq,i_lss,ob_some,cnd_B,h1]
    simp only [Int.lt_irrefl,decide_false,Bool.false_eq_true,if_false]
    rw [i_lss,ob_some]
    simp only [putEs,catR,List.nil_append,List.length_nil] at hl hq
    refine cnd_intro (fun g2=>?_) (fun g2=>?_)
    ·rw [if_pos (by simpa using g2)] at hq
     rw [nil_Pt,ob_some,add0_Pt,ob_some]
     exact put1 [41] b H0 H t _ h (by simp only [List.length_singleton];omega) (fun H1 h1=>hq H1 h1)
    ·rw [if_neg (by simpa using g2),List.append_nil] at hq
     exact hq H h
   | cons y r ihr =>
    intro pre t H e hne h hl hq
    have hlt:pre.length < x.l.length:=by rw [e];simp
    have hlt':(pre.length:Int) < x.l.length:=by omega
    have hp0:0 < pre.length:=List.length_pos_iff.2 hne
    have hgt:decide ((0:Int) < (pre.length:Int))=true:=by simp;omega
    simp only [putEs,catR,List.length_append] at hl hq
    rw [f85_l22_eq,i_lss,ob_some,cnd_B,if_pos (by simpa using hlt'),ixT x.l x.sz x.nil x.tip pre r y e,ob_some,partT,ob_some,szT,ob_some,splT,ob_some,i_gtr,ob_some,hgt,cnd_t,nil_Pt,ob_some,add0_Pt,ob_some]
    refine put1 (sepE x.k) b H0 H t _ h (by omega) (fun H1 h1=>?_)
    rw [f85_j39_eq,partT,ob_some,i_add,ob_some,hw]
    refine hch y (by rw [e];simp) (lvE x.k+1) b H0 H1 _ _ h1 (by rw [List.length_append];omega) (fun H2 h2=>?_)
    rw [i_add,ob_some,w64_succ hlt (by omega)]
    have:=ihr (pre++[y]) _ H2 (by simp [e]) (by simp) h2 (by simp only [List.length_append];omega) (fun H' h'=>hq H' (by simpa using h'))
    rw [List.length_append,List.length_singleton] at this
    exact this
  have j18:∀ (t:List UInt8) (H:Heap),Bld H0 b t H→t.length+(catL (sepE x.k) (putEs (lvE x.k+1) x.l)).length+20≤140737488355328 →
    (∀ H',Bld H0 b (t++(catL (sepE x.k) (putEs (lvE x.k+1) x.l)++(if lvE x.k < need then [41] else []))) H'→Q (.tup []) H')→f85_j18 (Pt b) (I need) (encTC x) (I (lvE x.k)) (strT (sepE x.k)) H Q:=fun t H h hl hq=>by
   rw [f85_j18_eq,part_f,p5T,ob_some,lenT,ob_some]
   cases hc:x.l with
   | nil =>
    rw [hc] at hl hq
    simp only [putEs,catL,List.nil_append,List.length_nil] at hl hq
    rw [f85_l22_eq,i_lss,ob_some,cnd_B]
    simp only [List.length_nil,Int.natCast_zero,Int.lt_irrefl,decide_false,Bool.false_eq_true,if_false]
    rw [i_lss,ob_some]
    refine cnd_intro (fun g2=>?_) (fun g2=>?_)
    ·rw [if_pos (by simpa using g2)] at hq
     rw [nil_Pt,ob_some,add0_Pt,ob_some]
     exact put1 [41] b H0 H t _ h (by simp only [List.length_singleton];omega) (fun H1 h1=>hq H1 h1)
    ·rw [if_neg (by simpa using g2),List.append_nil] at hq
     exact hq H h
   | cons y r =>
    rw [← hc]
    have hlt:0 < x.l.length:=by rw [hc];simp
    have hlt':(0:Int) < x.l.length:=by omega
    rw [hc] at hl hq
    simp only [putEs,catL,List.length_append] at hl hq
    have i1:ixaA 6 (encTs x.sz x.nil x.tip x.l) (I 0)=some (encTC y):=ixT x.l x.sz x.nil x.tip [] r y hc
    have h00:decide ((0:Int) < 0)=false:=rfl
    rw [f85_l22_eq,i_lss,ob_some,cnd_B,if_pos (by simpa using hlt'),i1,ob_some,partT,ob_some,szT,ob_some,splT,ob_some,i_gtr,ob_some,h00,cnd_f,f85_j39_eq,partT,ob_some,i_add,ob_some,hw]
    refine hch y (by rw [hc];simp) (lvE x.k+1) b H0 H t _ h (by omega) (fun H2 h2=>?_)
    rw [i_add,ob_some]
    have h1:W64 ((0:Int)+1)=(([y].length:Nat):Int):=rfl
    rw [h1]
    exact loop r [y] _ H2 (by simp [hc]) (by simp) h2 (by simp only [List.length_append];omega) (fun H' h'=>hq H' (by simpa using h'))
  rw [i_lss,ob_some]
  refine cnd_intro (fun g2=>?_) (fun g2=>?_)
  ·have g2:lvE x.k < need:=by simpa using g2
   rw [if_pos g2] at hl hq
   simp only [List.length_cons,List.length_append,List.length_nil] at hl
   rw [nil_Pt,ob_some,add0_Pt,ob_some]
   refine put1 [40] b H0 H t _ h (by simp only [List.length_singleton];omega) (fun H1 h1=>?_)
   exact j18 _ H1 h1 (by simp only [List.length_append,List.length_singleton];omega) (fun H' h'=>hq H' (by rw [if_pos g2] at h';simpa using h'))
  ·have g2:¬ lvE x.k < need:=by simpa using g2
   rw [if_neg g2] at hl hq
   exact j18 t H h hl (fun H' h'=>hq H' (by rw [if_neg g2,List.append_nil] at h';exact h'))
end Go.Hx
namespace Go.Hx
mutual
def exactT:Pa→Bool
 | .mk k _ _ lo hi _ _ _ l=>!(decide (k=5) && !decide (lo=hi)) && exactTs l
def exactTs:List Pa→Bool
 | []=>true
 | x::r=>exactT x && exactTs r
end
theorem exactT_eq (x:Pa):exactT x=(!(decide (x.k=5) && !decide (x.lo=x.hi)) && exactTs x.l):=by cases x;rw [exactT];rfl
theorem c155 (x:Pa):allT okT x→∀ (H:Heap) (Q:Post),E 155 [encT x] H Q=Q (B (!exactT x)) H:=by
 induction x using Pa.ind with
 | h x ih =>
  intro hok H Q
  have hok':=(allT_eq _ _).1 hok
  have hn:=hok'.1.1
  have loop:∀ (r pre:List Pa) (K:Post),x.l=pre++r→∃ i:Int,decide (0≤i)=(!exactTs r)∧f240_l6 (encTs x.sz x.nil x.tip x.l) (.fn (.func 155) [] []) (I x.l.length) (I pre.length) H K=K (I i) H:=by
   intro r
   induction r with
   | nil =>
    intro pre K e
    have h1:(pre.length:Int)=x.l.length:=by rw [e];simp
    refine ⟨-1,by simp [exactTs],?_⟩
    rw [f240_l6_eq,i_lss,ob_some,cnd_B,h1]
    simp
   | cons y r ihr =>
    intro pre K e
    have hlt:pre.length < x.l.length:=by rw [e];simp
    have hlt':(pre.length:Int) < x.l.length:=by omega
    obtain ⟨i,h1,h2⟩:=ihr (pre++[y]) K (by simp [e])
    rw [List.length_append,List.length_singleton] at h2
    have hy:∀ K:Post,callA (Ev Pg Hs) (.fn (.func 155) [] []) [encT y] H K=K (B (!exactT y)) H:=fun K=>ih y (by rw [e];simp) (allTs_mem hok'.2 (by rw [e];simp)) H K
    cases hx:exactT y with
    | true =>
     refine ⟨i,by rw [h1];simp [exactTs,hx],?_⟩
     rw [f240_l6_eq,i_lss,ob_some,cnd_B,if_pos (by simpa using hlt'),ixT x.l x.sz x.nil x.tip pre r y e,ob_some,partT,ob_some,hy,hx,Bool.not_true,cnd_f,i_add,ob_some,w64_succ hlt (by omega),h2]
    | false =>
     refine ⟨pre.length,by simp [exactTs,hx],?_⟩
     rw [f240_l6_eq,i_lss,ob_some,cnd_B,if_pos (by simpa using hlt'),ixT x.l x.sz x.nil x.tip pre r y e,ob_some,partT,ob_some,hy,hx,Bool.not_false,cnd_t]
  have h71:∀ K:Post,E 169 [encTs x.sz x.nil x.tip x.l,.fn (.func 155) [] []] H K=K (B (!exactTs x.l)) H:=fun K=>by
   obtain ⟨i,h1,h2⟩:=loop x.l [] (fun r1 H2=>ob (binA Pg .geq 3 true r1 (I 0)) fun r3=>K r3 H2) rfl
   rw [f169_eq,f240_eq,lenT,ob_some]
   refine h2.trans ?_
   rw [i_geq,ob_some,h1]
  rw [f155_eq,szT,ob_some,part_f,p0T,ob_some,i_eql,ob_some,cnd_B,part_f,p3T,ob_some,part_f,p4T,ob_some,i_neq,ob_some,cnd_B,part_f,p5T,ob_some,h71,f155_j4_eq,f155_j4_eq,exactT_eq]
  by_cases h:x.k=5
  ·by_cases h2:x.lo=x.hi<;>simp [h,h2]
  ·simp [h]
def plainE (q:Qu):Bool:=exactT q.p && (decide (q.key=e0) && (decide (q.its.length=0) && decide (q.mode=0)))
theorem c83 (q:Qu) (hok:OkQ q) (H:Heap) (Q:Post):E 83 [encQ q] H Q=Q (B (plainE q)) H:=by
 rw [f83_eq,szQ,ob_some,partQT,ob_some,c155 q.p hok.p,not_B,ob_some,cnd_B]
 simp only [part_f,q7,q8,q10,ob_some,s_eql,lenIt,i_eql,len0,f83_c1_9a_eq,f83_c1_9b_eq,f83_c1_15a_eq,f83_c1_15b_eq,f83_c1_20a_eq,f83_c1_20b_eq,f83_j4_eq,cnd_B,plainE]
 cases exactT q.p
 ·simp
 ·by_cases h1:q.key=e0
  ·by_cases h2:q.its.length=0<;>simp [h1,h2]
  ·simp [h1]
theorem c38 (q:Qu) (hok:OkQ q) (H:Heap) (Q:Post) (hq:∀ H',HExt H H'→Q (B (decide (fineP q=0) && plainE q)) H'):E 38 [encQ q] H Q:=by
 rw [f38_eq,szQ,ob_some,partQ,ob_some]
 refine c82 q hok H _ (fun H1 e1=>?_)
 have:=hq H1 e1
 rw [i_eql,ob_some,ob_some,c83 q hok,f38_j4_eq,f38_j4_eq]
 refine cnd_intro (fun h=>?_) (fun h=>?_)
 ·rw [h,Bool.true_and] at this;exact this
 ·rw [h,Bool.false_and] at this;exact this
def sEVERY:List UInt8:=[69,86,69,82,89,32]
def textE (q:Qu):List UInt8:=sEVERY++putE q.p 1++whereT q.ws++withinT q.within
def printE (q:Qu):AV:=if fineP q ≠ 0 then .tup [S e0,I (fineP q)] else if plainE q=false then .tup [S e0,I 12] else .tup [strT (textE q),I 0]
theorem fine_within {q:Qu} (hf:FineQ q):rng q.within:=by
 have h:=hf.rest
 simp only [restP] at h
 split at h
 ·rename_i h1
  have:=h1.2.1
  simp only [rangeP,Bool.and_eq_true,decide_eq_true_eq] at this
  exact ⟨by omega,by omega⟩
 ·cases h
theorem c37 (q:Qu) (hok:OkQ q) (H:Heap) (Q:Post) (hq:∀ H',HExt H H'→Q (printE q) H'):E 37 [encQ q] H Q:=by
 simp only [printE] at hq
 rw [f37_eq,szQ,ob_some,partQ,ob_some]
 refine c82 q hok H _ (fun H1 e1=>?_)
 rw [i_neq,ob_some]
 refine cnd_intro (fun h=>?_) (fun h=>?_)
 ·have:=hq H1 e1
  rw [if_pos (by simpa using h)] at this;exact this
 have h:fineP q=0:=by simpa using h
 simp only [h,ne_eq,not_true,if_false] at hq
 have hf:=fine_of h
 rw [ob_some,c83 q hok,not_B,ob_some]
 refine cnd_intro (fun h2=>?_) (fun h2=>?_)
 ·have:=hq H1 e1
  rw [if_pos (by simpa using h2)] at this;exact this
 have h2:¬ plainE q=false:=by simpa using h2
 rw [if_neg h2] at hq
 have hb:bldA [] [AV.raw (.pointer none),.sl 0 true .full []]=some (.agg [.raw (.pointer none),.sl 0 true .full []]):=rfl
 have hs:sizedA 2 (.agg [AV.raw (.pointer none),.sl 0 true .full []])=some [.raw (.pointer none),.sl 0 true .full []]:=rfl
 have hpl:=putE_len q.p hf.all 1
 have hsz:=hf.size
 have hwl:=okl_len (okl_of hok hf) hf.row
 have hsum:=hf.sum
 have hwi:=fine_within hf
 have hwil:=withinT_len hwi
 have h6:sEVERY.length=6:=rfl
 rw [hb,ob_some,hs,ob_some]
 refine bld_new 128 lies128 e1 (fun b H2 hb2=>?_)
 rw [nil_Pt,ob_some,add0_Pt,ob_some]
 refine put1 sEVERY b H H2 [] _ hb2 (by rw [h6,List.length_nil];omega) (fun H3 h3=>?_)
 rw [partQT,ob_some]
 refine c85 q.p hok.p hf.all 1 b H H3 _ _ h3 (by rw [List.nil_append,h6];omega) (fun H4 h4=>?_)
 rw [ob_some,add0_Pt,ob_some,part_f,q6,ob_some]
 refine c86 q.wsz q.wnil q.wtip q.ws (okl_of hok hf) hf.row b H H4 _ _ h4 (by simp only [List.nil_append,List.length_append,h6];omega) (fun H5 h5=>?_)
 rw [ob_some,add0_Pt,ob_some,part_f,q9,ob_some]
 refine c87 q.within hwi b H H5 _ _ h5 (by simp only [List.nil_append,List.length_append,h6];omega) (fun H6 h6'=>?_)
 rw [ob_some,add0_Pt,ob_some,add0_Pt,ob_some]
 refine c53 b H H6 _ _ h6' (by simp only [List.nil_append,List.length_append,h6];omega) (fun H7 e7=>?_)
 exact hq H7 e7
theorem dS (x:ByteArray):decide (x=x)=true:=decide_eq_true rfl
def awakeP:Pa:=.mk 1 ⟨#[97]⟩ ⟨#[116]⟩ 0 0 0 true .full []
def awakeQ:Qu:=⟨awakeP,0,true,.full,[],e0,0,0,0,true,.full,[]⟩
theorem awake_fine:fineP awakeQ=0:=by kernel_rfl
theorem awake_ok:OkQ awakeQ:=by
 refine ⟨?_,by decide,by decide,fun x hx=>(by cases hx),by decide,by decide,by decide,fun x hx=>(by cases hx)⟩
 rw [allT_eq]
 exact ⟨⟨by decide,by decide,by decide⟩,trivial⟩
theorem awake_text:textE awakeQ=[69,86,69,82,89,32,97,61,116]:=by kernel_rfl
theorem awake_plain:plainE awakeQ=true:=by kernel_rfl
theorem c33 (H:Heap) (Q:Post) (hq:∀ H',HExt H H'→Q (B true) H'):E 33 [] H Q:=by
 have h1:bldA [(0,1,I 1),(1,1,S ⟨#[97]⟩),(2,1,S ⟨#[116]⟩)] [I 0,S e0,S e0,I 0,I 0,.sl 0 true .full []]=some (encT awakeP):=rfl
 have h2:bldA [(0,6,encT awakeP)] [I 0,S e0,S e0,I 0,I 0,.sl 0 true .full [],.sl 0 true .full [],S e0,I 0,I 0,.sl 0 true .full []]=some (encQ awakeQ):=rfl
 rw [f33_eq,h1,ob_some,h2,ob_some]
 refine c37 awakeQ awake_ok H _ (fun H1 e1=>?_)
 simp only [printE,awake_fine,awake_plain,ne_eq,not_true,if_false,Bool.true_eq_false]
 have hs:strT (textE awakeQ)=S ⟨#[69,86,69,82,89,32,97,61,116]⟩:=by rw [awake_text];rfl
 rw [hs,x20,ob_some,x21,ob_some,i_eql,ob_some]
 have d0:decide ((0:Int)=0)=true:=rfl
 rw [d0,cnd_t,s_eql,ob_some,f33_j6_eq,dS]
 exact hq H1 e1
end Go.Hx
namespace Go.Hx
def uppI (r:Int):Bool:=decide (65≤r) && decide (r≤90)
def uppB (c:UInt8):Bool:=uppI c.toNat
def digB (c:UInt8):Bool:=digI c.toNat
def blankI (r:Int):Bool:=decide (r=32) || (decide (r=9) || decide (r=10))
def blankB (c:UInt8):Bool:=blankI c.toNat
abbrev bs (l:List UInt8):ByteArray:=⟨l.toArray⟩
structure Tk where
 k:Int
 s:ByteArray
 p:Nat
def encK (t:Tk):AV:=.agg [I t.k,S t.s,I t.p]
/-- what a digit of base 16 is worth -/
def hexN (n:Nat):Option Nat:=if 48≤n∧n≤57 then some (n - 48) else if 97≤n∧n≤102 then some (n - 87) else none
def hexV (c:UInt8):Option Nat:=hexN c.toNat
inductive UQ where
 | ok (s:List UInt8) (n:Nat)
 | bad (n:Nat) (e:Int)
inductive ER where
 | ok (c:UInt8) (n:Nat)
 | bad (q:Nat)
/-- two digits of base 16 -/
def hexR (p:Nat):List UInt8→ER
 | []=>.bad p
 | x::r=>match hexV x with
  | none=>.bad p
  | some a=>match r with
   | []=>.bad (p+1)
   | y::_=>match hexV y with
    | none=>.bad (p+1)
    | some b=>.ok (UInt8.ofNat (16 * a+b)) 2
/-- what an escape says: its sign stands at a place -/
def escR (p:Nat):List UInt8→ER
 | []=>.bad (p+1)
 | d::r =>
  if d.toNat=39 ∨ d.toNat=92 then .ok d 2
  else if d.toNat ≠ 120 then .bad (p+1)
  else match hexR (p+2) r with
   | .bad q=>.bad q
   | .ok c _=>if plainB c=true then .bad p else .ok c 4
/-- what is quoted, from a place on -/
def unqF (p:Nat) (out:List UInt8):List UInt8→UQ
 | []=>.bad p 4
 | c::r =>
  if c.toNat=39 then (if 256 < out.length then .bad 0 2 else .ok out (p+1))
  else if c.toNat=92 then match escR p r with
   | .bad q=>.bad q 4
   | .ok d n=>unqF (p+n) (out++[d]) (r.drop (n - 1))
  else if plainB c=true then unqF (p+1) (out++[c]) r
  else .bad p 4
termination_by r=>r.length
decreasing_by all_goals (simp_wf;try omega)
def unq:List UInt8→UQ
 | []=>.bad 0 4
 | c::r=>if c.toNat=39 then unqF 1 [] r else .bad 0 4
def signW:List (List UInt8):=[[60,61],[62,61],[60,62],[45,62],[40],[41],[44],[46],[43],[45],[42],[47],[37],[61],[60],[62],[33],[124],[123],[125],[91],[93]]
def pre? (r w:List UInt8):Bool:=decide (w.length≤r.length) && decide (r.take w.length=w)
inductive L1 where
 | tok (k:Int) (s:List UInt8) (n:Nat)
 | bad (n:Nat) (e:Int)
def wordT (k:Int) (p:UInt8→Bool) (r:List UInt8):L1 :=
 if 32 < (r.takeWhile p).length then .bad 0 4 else .tok k (r.takeWhile p) (r.takeWhile p).length
def intT (r:List UInt8):L1 :=
 if 19 < (r.takeWhile digB).length ∨ (1 < (r.takeWhile digB).length∧r.head?.map (·.toNat)=some 48) then .bad 0 4 else .tok 3 (r.takeWhile digB) (r.takeWhile digB).length
def signF (r:List UInt8):L1 :=
 match signW.find? (pre? r) with
 | none=>.bad 0 4
 | some w=>.tok 5 w w.length
/-- the token that begins a text -/
def lex1 (r:List UInt8):L1 :=
 match r with
 | []=>.bad 0 4
 | c::_ =>
  if c.toNat=39 then match unq r with
   | .ok s n=>.tok 4 s n
   | .bad n e=>.bad n e
  else if uppB c=true then wordT 1 uppB r
  else if lowB c=true then wordT 2 signB r
  else if digB c=true then intT r
  else signF r
/-- all tokens from a place on -/
def lexW (p:Nat):List UInt8→Except (Nat × Int) (List Tk)
 | []=>.ok [⟨6,e0,p⟩]
 | c::r =>
  if blankB c=true then lexW (p+1) r
  else match lex1 (c::r) with
   | .bad n e=>.error (p+n,e)
   | .tok k w n=>match lexW (p+n) (r.drop (n - 1)) with
    | .error e=>.error e
    | .ok l=>.ok (⟨k,bs w,p⟩::l)
termination_by r=>r.length
decreasing_by all_goals (simp_wf;try omega)
def lexA (s:ByteArray):Except (Nat × Int) (List Tk):=if 8192 < s.size then .error (0,2) else lexW 0 (tx s)
/-- tokens end with an end -/
def endsT:List Tk→Prop
 | []=>False
 | [t]=>t.k=6
 | t::r=>t.k ≠ 6∧endsT r
theorem endsT_ne {r:List Tk} (h:endsT r):r ≠ []:=fun e=>by subst e;exact h
/-- behind what is no end, more comes -/
theorem endsT_tail {t:Tk} {r:List Tk} (h:endsT (t::r)) (hk:t.k ≠ 6):endsT r:=by
 cases r with
 | nil=>exact (hk h).elim
 | cons u r=>exact h.2
theorem hexR_len {p:Nat} {r:List UInt8} {c:UInt8} {n:Nat} (h:hexR p r=.ok c n):n=2∧2≤r.length:=by
 cases r with
 | nil=>cases h
 | cons x r =>
  simp only [hexR] at h
  split at h
  ·cases h
  ·cases r with
   | nil=>cases h
   | cons y r =>
    simp only at h
    split at h
    ·cases h
    ·cases h;exact ⟨rfl,by simp⟩
theorem escR_len {p:Nat} {r:List UInt8} {c:UInt8} {n:Nat} (h:escR p r=.ok c n):2≤n∧n≤r.length+1:=by
 cases r with
 | nil=>cases h
 | cons d r =>
  simp only [escR] at h
  split at h
  ·cases h;exact ⟨by omega,by simp⟩
  ·split at h
   ·cases h
   ·split at h
    ·cases h
    ·rename_i h1
     split at h
     ·cases h
     ·cases h
      have:=hexR_len h1
      exact ⟨by omega,by simp;omega⟩
theorem unqF_len:∀ (m p:Nat) (out r:List UInt8),r.length≤m→∀ s n,unqF p out r=.ok s n→s.length≤256∧p < n∧n≤p+r.length:=by
 intro m
 induction m with
 | zero =>
  intro p out r hr s n h
  cases r with
  | nil=>rw [unqF] at h;cases h
  | cons c r=>simp at hr
 | succ m ih =>
  intro p out r hr s n h
  cases r with
  | nil=>rw [unqF] at h;cases h
  | cons c r =>
   rw [unqF.eq_def] at h
   simp only [List.length_cons] at hr h ⊢
   split at h
   ·split at h
    ·cases h
    ·rename_i h1;cases h;omega
   ·split at h
    ·split at h
     ·cases h
     ·rename_i d k hd
      have h1:=escR_len hd
      have:=ih _ _ (r.drop (k - 1)) (by simp;omega) _ _ h
      simp only [List.length_drop] at this;omega
    ·split at h
     ·have:=ih _ _ r (by omega) _ _ h;omega
     ·cases h
def nextIs (k:Int) (s:ByteArray):List Tk→Bool
 | []=>false
 | t::_=>decide (t.k=k) && decide (t.s=s)
def posn:List Tk→Nat
 | []=>0
 | t::_=>t.p
def kindN:List Tk→Int
 | []=>6
 | t::_=>t.k
def nd (k:Int) (v:Vl) (var fld:ByteArray) (l:List Ex):Ex:=.mk k v var fld 0 true .any l
mutual
/-- a node, but for how its slices lie -/
def norm:Ex→Ex
 | .mk k v var fld _ _ _ l=>nd k v var fld (norms l)
def norms:List Ex→List Ex
 | []=>[]
 | x::r=>norm x::norms r
end
theorem norms_map (l:List Ex):norms l=l.map norm:=by
 induction l with
 | nil=>simp [norms]
 | cons x r ih=>simp [norms,ih]
theorem norm_eq (x:Ex):norm x=nd x.k x.v x.var x.fld (x.l.map norm):=by
 cases x;simp [norm,norms_map,Ex.k,Ex.v,Ex.var,Ex.fld,Ex.l]
theorem norm_mk (k:Int) (v:Vl) (var fld:ByteArray) (sz:Nat) (nil:Bool) (tip:Tip) (l:List Ex):norm (.mk k v var fld sz nil tip l)=nd k v var fld (l.map norm):=norm_eq _
def partsJ (k:Int) (l:List Ex):List Ex:=l.flatMap fun x=>if x.k=k then x.l else [x]
def joinE (k:Int) (l:List Ex):Ex :=
 match partsJ k l with
 | []=>nd 1 (boolV (decide (k=16))) e0 e0 []
 | [x]=>x
 | out=>nd k nullV e0 e0 out
def opI (lo hi:Int) (s:ByteArray):Nat→Nat→Option Int
 | 0,_=>none
 | m+1,j=>if lo≤(j:Int)+4∧(j:Int)+4≤hi∧s=opS j then some ((j:Int)+4) else opI lo hi s m (j+1)
/-- the kind of the sign that is next, if it is from one to another -/
def opOf (lo hi:Int):List Tk→Option Int
 | []=>none
 | t::_=>if t.k=5 then opI lo hi t.s 11 0 else none
/-- what digits are worth -/
def valD (l:List UInt8):Nat:=l.foldl (fun n c=>10 * n+(c.toNat - 48)) 0
def numOf (minus:Bool) (s:ByteArray):Option Int :=
 if minus=true then (if valD (tx s)≤9223372036854775808 then some (-(valD (tx s):Int)) else none)
 else if valD (tx s)≤9223372036854775807 then some (valD (tx s):Int) else none
inductive PR where
 | ok (x:Ex) (r:List Tk)
 | bad (e:Int) (p:Nat)
def numR (minus:Bool):List Tk→PR
 | []=>.bad 4 0
 | t::r=>match numOf minus t.s with
  | none=>.bad 4 t.p
  | some n=>.ok (nd 1 (intV n) e0 e0 []) r
def textV (s:ByteArray):Vl:=⟨3,0,s⟩
def fieldR (v:ByteArray) (r:List Tk):PR :=
 if nextIs 5 ⟨#[46]⟩ r=true then match r.tail with
  | []=>.bad 4 0
  | t::r2=>if t.k=2 then .ok (nd 2 nullV v t.s []) r2 else .bad 4 t.p
 else .bad 4 (posn r)
def sTRUE:ByteArray:=⟨#[84,82,85,69]⟩
def sFALSE:ByteArray:=⟨#[70,65,76,83,69]⟩
def sNULL:ByteArray:=⟨#[78,85,76,76]⟩
def wordV (s:ByteArray):Option Vl:=if s=sTRUE then some (boolV true) else if s=sFALSE then some (boolV false) else if s=sNULL then some nullV else none
/-- what is no part in parentheses -/
def atomR:List Tk→PR
 | []=>.bad 4 0
 | t::r =>
  if t.k=3 then numR false (t::r)
  else if t.k=4 then .ok (nd 1 (textV t.s) e0 e0 []) r
  else if t.k=2 then fieldR t.s r
  else if t.k=1 then match wordV t.s with
   | some v=>.ok (nd 1 v e0 e0 []) r
   | none=>.bad 4 t.p
  else .bad 4 t.p
inductive Gl where
 | row (b:Bool)
 | more (b:Bool) (l:List Ex)
 | not
 | cmp
 | left (b:Bool)
 | lmore (b:Bool) (x:Ex)
 | neg
 | last
def rowK (b:Bool):Int:=if b=true then 17 else 16
def rowW (b:Bool):ByteArray:=if b=true then ⟨#[79,82]⟩ else ⟨#[65,78,68]⟩
def rowP (b:Bool):Gl:=if b=true then .row false else .not
def leftP (b:Bool):Gl:=if b=true then .left false else .neg
def leftLo (b:Bool):Int:=if b=true then 4 else 6
def leftHi (b:Bool):Int:=if b=true then 5 else 8
def wNOT:ByteArray:=⟨#[78,79,84]⟩
def wMinus:ByteArray:=⟨#[45]⟩
def wOpen:ByteArray:=⟨#[40]⟩
def wShut:ByteArray:=⟨#[41]⟩
/-- what is read: so many are open, so much is left -/
inductive P:Gl→Nat→List Tk→PR→Prop
 | row_bad {b o r e p}:P (rowP b) o r (.bad e p)→P (.row b) o r (.bad e p)
 | row_ok {b o r x r1 R}:P (rowP b) o r (.ok x r1)→P (.more b [x]) o r1 R→P (.row b) o r R
 | more_no {b l o r}:nextIs 1 (rowW b) r=false→P (.more b l) o r (.ok (joinE (rowK b) l) r)
 | more_bad {b l o t r e p}:nextIs 1 (rowW b) (t::r)=true→P (rowP b) o r (.bad e p)→P (.more b l) o (t::r) (.bad e p)
 | more_ok {b l o t r x r1 R}:nextIs 1 (rowW b) (t::r)=true→P (rowP b) o r (.ok x r1)→P (.more b (l++[x])) o r1 R→P (.more b l) o (t::r) R
 | not_no {o r R}:nextIs 1 wNOT r=false→P .cmp o r R→P .not o r R
 | not_long {o r}:nextIs 1 wNOT r=true→200≤o→P .not o r (.bad 2 (posn r))
 | not_bad {o t r e p}:nextIs 1 wNOT (t::r)=true→o < 200→P .not (o+1) r (.bad e p)→P .not o (t::r) (.bad e p)
 | not_ok {o t r x r1}:nextIs 1 wNOT (t::r)=true→o < 200→P .not (o+1) r (.ok x r1)→P .not o (t::r) (.ok (nd 15 nullV e0 e0 [x]) r1)
 | cmp_bad {o r e p}:P (.left true) o r (.bad e p)→P .cmp o r (.bad e p)
 | cmp_no {o r x r1}:P (.left true) o r (.ok x r1)→opOf 9 14 r1=none→P .cmp o r (.ok x r1)
 | cmp_bad2 {o r x t r1 k e p}:P (.left true) o r (.ok x (t::r1))→opOf 9 14 (t::r1)=some k→P (.left true) o r1 (.bad e p)→P .cmp o r (.bad e p)
 | cmp_ok {o r x t r1 k y r2}:P (.left true) o r (.ok x (t::r1))→opOf 9 14 (t::r1)=some k→P (.left true) o r1 (.ok y r2)→P .cmp o r (.ok (nd k nullV e0 e0 [x,y]) r2)
 | left_bad {b o r e p}:P (leftP b) o r (.bad e p)→P (.left b) o r (.bad e p)
 | left_ok {b o r x r1 R}:P (leftP b) o r (.ok x r1)→P (.lmore b x) o r1 R→P (.left b) o r R
 | lmore_no {b x o r}:opOf (leftLo b) (leftHi b) r=none→P (.lmore b x) o r (.ok x r)
 | lmore_bad {b x o t r k e p}:opOf (leftLo b) (leftHi b) (t::r)=some k→P (leftP b) o r (.bad e p)→P (.lmore b x) o (t::r) (.bad e p)
 | lmore_ok {b x o t r k y r1 R}:opOf (leftLo b) (leftHi b) (t::r)=some k→P (leftP b) o r (.ok y r1)→P (.lmore b (nd k nullV e0 e0 [x,y])) o r1 R→P (.lmore b x) o (t::r) R
 | neg_no {o r R}:nextIs 5 wMinus r=false→P .last o r R→P .neg o r R
 | neg_num {o t r}:nextIs 5 wMinus (t::r)=true→kindN r=3→P .neg o (t::r) (numR true r)
 | neg_long {o t r}:nextIs 5 wMinus (t::r)=true→kindN r ≠ 3→200≤o→P .neg o (t::r) (.bad 2 t.p)
 | neg_bad {o t r e p}:nextIs 5 wMinus (t::r)=true→kindN r ≠ 3→o < 200→P .neg (o+1) r (.bad e p)→P .neg o (t::r) (.bad e p)
 | neg_ok {o t r x r1}:nextIs 5 wMinus (t::r)=true→kindN r ≠ 3→o < 200→P .neg (o+1) r (.ok x r1)→P .neg o (t::r) (.ok (nd 3 nullV e0 e0 [x]) r1)
 | last_atom {o r}:nextIs 5 wOpen r=false→P .last o r (atomR r)
 | last_long {o r}:nextIs 5 wOpen r=true→200≤o→P .last o r (.bad 2 (posn r))
 | last_bad {o t r e p}:nextIs 5 wOpen (t::r)=true→o < 200→P (.row true) (o+1) r (.bad e p)→P .last o (t::r) (.bad e p)
 | last_open {o t r x r1}:nextIs 5 wOpen (t::r)=true→o < 200→P (.row true) (o+1) r (.ok x r1)→nextIs 5 wShut r1=false→P .last o (t::r) (.bad 4 (posn r1))
 | last_ok {o t r x u r1}:nextIs 5 wOpen (t::r)=true→o < 200→P (.row true) (o+1) r (.ok x (u::r1))→nextIs 5 wShut (u::r1)=true→P .last o (t::r) (.ok x r1)
def rank:Gl→Nat
 | .row true=>9
 | .row false=>8
 | .not=>7
 | .cmp=>6
 | .left true=>5
 | .left false=>4
 | .neg=>3
 | .last=>2
 | _=>1
theorem nextIs_ne {k:Int} {s:ByteArray} {r:List Tk} (h:nextIs k s r=true):∃ t r1,r=t::r1∧t.k=k∧t.s=s:=by
 cases r with
 | nil=>simp [nextIs] at h
 | cons t r=>simp only [nextIs,Bool.and_eq_true,decide_eq_true_eq] at h;exact ⟨t,r,rfl,h.1,h.2⟩
theorem opOf_ne {lo hi k:Int} {r:List Tk} (h:opOf lo hi r=some k):∃ t r1,r=t::r1∧t.k=5:=by
 cases r with
 | nil=>simp [opOf] at h
 | cons t r =>
  simp only [opOf] at h
  split at h
  ·exact ⟨t,r,rfl,by assumption⟩
  ·cases h
/-- what is left of something read -/
def Left (r:List Tk):PR→Prop
 | .ok _ r1=>endsT r1∧r1.length≤r.length
 | .bad _ _=>True
theorem numR_left {m:Bool} {r:List Tk} (h:endsT r) (hk:kindN r=3):Left r (numR m r):=by
 cases r with
 | nil=>exact h.elim
 | cons t r =>
  simp only [numR]
  split
  ·trivial
  ·exact ⟨endsT_tail h (by simp only [kindN] at hk;omega),by simp⟩
theorem atomR_left {r:List Tk} (h:endsT r):Left r (atomR r):=by
 cases r with
 | nil=>exact h.elim
 | cons t r =>
  simp only [atomR]
  split
  ·exact numR_left h (by simpa [kindN])
  ·rename_i h3
   split
   ·rename_i h4;exact ⟨endsT_tail h (by omega),by simp⟩
   ·split
    ·rename_i h2
     have ht:=endsT_tail h (by omega:t.k ≠ 6)
     simp only [fieldR]
     split
     ·rename_i hn
      obtain ⟨u,r1,rfl,hu,_⟩:=nextIs_ne hn
      have ht1:=endsT_tail ht (by omega:u.k ≠ 6)
      simp only [List.tail_cons]
      split
      ·trivial
      ·rename_i v r2
       split
       ·exact ⟨endsT_tail ht1 (by omega),by simp;omega⟩
       ·trivial
     ·trivial
    ·split
     ·split
      ·exact ⟨endsT_tail h (by omega),by simp⟩
      ·trivial
     ·trivial
/-- something is read of all tokens -/
theorem P_total:∀ (n:Nat) (g:Gl) (o:Nat) (r:List Tk),20 * r.length+rank g≤n→endsT r→∃ R,P g o r R∧Left r R:=by
 intro n
 induction n with
 | zero=>intro g o r hn;cases g<;>simp [rank] at hn<;>(try split at hn)<;>omega
 | succ n ih =>
  intro g o r hn hr
  have step:∀ (g':Gl) (o':Nat) (r':List Tk),endsT r'→20 * r'.length+rank g' < 20 * r.length+rank g→∃ R,P g' o' r' R∧Left r' R:=fun g' o' r' h1 h2=>ih g' o' r' (by omega) h1
  have rk:∀ g,1≤rank g∧rank g≤9:=fun g=>by cases g<;>simp [rank]<;>split<;>omega
  have low:∀ (g':Gl) (o':Nat) (r':List Tk),endsT r'→r'.length < r.length→∃ R,P g' o' r' R∧Left r' R:=fun g' o' r' h1 h2=>step g' o' r' h1 (by have:=rk g';have:=rk g;omega)
  cases g with
  | row b =>
   have hlt:rank (rowP b) < rank (.row b):=by cases b<;>simp [rowP,rank]
   have hm:∀ l,rank (.more b l) < rank (.row b):=by intro l;cases b<;>simp [rank]
   obtain ⟨R,h1,h2⟩:=step (rowP b) o r hr (by omega)
   cases R with
   | bad e p=>exact ⟨_,.row_bad h1,trivial⟩
   | ok x r1 =>
    obtain ⟨R,h3,h4⟩:=step (.more b [x]) o r1 h2.1 (by have:=hm [x];have:=h2.2;omega)
    refine ⟨R,.row_ok h1 h3,?_⟩
    cases R with
    | bad=>trivial
    | ok=>exact ⟨h4.1,Nat.le_trans h4.2 h2.2⟩
  | more b l =>
   cases hx:nextIs 1 (rowW b) r with
   | false=>exact ⟨_,.more_no hx,hr,Nat.le_refl _⟩
   | true =>
    obtain ⟨t,r1,rfl,hk,_⟩:=nextIs_ne hx
    have ht:=endsT_tail hr (by omega:t.k ≠ 6)
    obtain ⟨R,h1,h2⟩:=low (rowP b) o r1 ht (by simp)
    cases R with
    | bad e p=>exact ⟨_,.more_bad hx h1,trivial⟩
    | ok x r2 =>
     have:=h2.2
     obtain ⟨R,h3,h4⟩:=low (.more b (l++[x])) o r2 h2.1 (by simp;omega)
     refine ⟨R,.more_ok hx h1 h3,?_⟩
     cases R with
     | bad=>trivial
     | ok=>exact ⟨h4.1,by have:=h4.2;simp;omega⟩
  | not =>
   cases hx:nextIs 1 wNOT r with
   | false =>
    obtain ⟨R,h1,h2⟩:=step .cmp o r hr (by simp [rank])
    exact ⟨R,.not_no hx h1,h2⟩
   | true =>
    rcases Nat.lt_or_ge o 200 with ho | ho
    ·obtain ⟨t,r1,rfl,hk,_⟩:=nextIs_ne hx
     have ht:=endsT_tail hr (by omega:t.k ≠ 6)
     obtain ⟨R,h1,h2⟩:=low .not (o+1) r1 ht (by simp)
     cases R with
     | bad e p=>exact ⟨_,.not_bad hx ho h1,trivial⟩
     | ok x r2=>exact ⟨_,.not_ok hx ho h1,h2.1,by have:=h2.2;simp;omega⟩
    ·exact ⟨_,.not_long hx ho,trivial⟩
  | cmp =>
   obtain ⟨R,h1,h2⟩:=step (.left true) o r hr (by simp [rank])
   cases R with
   | bad e p=>exact ⟨_,.cmp_bad h1,trivial⟩
   | ok x r1 =>
    cases hx:opOf 9 14 r1 with
    | none=>exact ⟨_,.cmp_no h1 hx,h2⟩
    | some k =>
     obtain ⟨t,r2,rfl,hk⟩:=opOf_ne hx
     have ht:=endsT_tail h2.1 (by omega:t.k ≠ 6)
     have:=h2.2
     simp only [List.length_cons] at this
     obtain ⟨R,h3,h4⟩:=low (.left true) o r2 ht (by omega)
     cases R with
     | bad e p=>exact ⟨_,.cmp_bad2 h1 hx h3,trivial⟩
     | ok y r3=>exact ⟨_,.cmp_ok h1 hx h3,h4.1,by have:=h4.2;omega⟩
  | left b =>
   have hlt:rank (leftP b) < rank (.left b):=by cases b<;>simp [leftP,rank]
   have hm:∀ x,rank (.lmore b x) < rank (.left b):=by intro l;cases b<;>simp [rank]
   obtain ⟨R,h1,h2⟩:=step (leftP b) o r hr (by omega)
   cases R with
   | bad e p=>exact ⟨_,.left_bad h1,trivial⟩
   | ok x r1 =>
    obtain ⟨R,h3,h4⟩:=step (.lmore b x) o r1 h2.1 (by have:=hm x;have:=h2.2;omega)
    refine ⟨R,.left_ok h1 h3,?_⟩
    cases R with
    | bad=>trivial
    | ok=>exact ⟨h4.1,Nat.le_trans h4.2 h2.2⟩
  | lmore b x =>
   cases hx:opOf (leftLo b) (leftHi b) r with
   | none=>exact ⟨_,.lmore_no hx,hr,Nat.le_refl _⟩
   | some k =>
    obtain ⟨t,r1,rfl,hk⟩:=opOf_ne hx
    have ht:=endsT_tail hr (by omega:t.k ≠ 6)
    obtain ⟨R,h1,h2⟩:=low (leftP b) o r1 ht (by simp)
    cases R with
    | bad e p=>exact ⟨_,.lmore_bad hx h1,trivial⟩
    | ok y r2 =>
     have:=h2.2
     obtain ⟨R,h3,h4⟩:=low (.lmore b (nd k nullV e0 e0 [x,y])) o r2 h2.1 (by simp;omega)
     refine ⟨R,.lmore_ok hx h1 h3,?_⟩
     cases R with
     | bad=>trivial
     | ok=>exact ⟨h4.1,by have:=h4.2;simp;omega⟩
  | neg =>
   cases hx:nextIs 5 wMinus r with
   | false =>
    obtain ⟨R,h1,h2⟩:=step .last o r hr (by simp [rank])
    exact ⟨R,.neg_no hx h1,h2⟩
   | true =>
    obtain ⟨t,r1,rfl,hk,_⟩:=nextIs_ne hx
    have ht:=endsT_tail hr (by omega:t.k ≠ 6)
    rcases Decidable.em (kindN r1=3) with h3 | h3
    ·refine ⟨_,.neg_num hx h3,?_⟩
     have:=numR_left (m:=true) ht h3
     revert this
     cases numR true r1 with
     | bad=>exact fun _=>trivial
     | ok=>exact fun h=>⟨h.1,by have:=h.2;simp;omega⟩
    ·rcases Nat.lt_or_ge o 200 with ho | ho
     ·obtain ⟨R,h1,h2⟩:=low .neg (o+1) r1 ht (by simp)
      cases R with
      | bad e p=>exact ⟨_,.neg_bad hx h3 ho h1,trivial⟩
      | ok x r2=>exact ⟨_,.neg_ok hx h3 ho h1,h2.1,by have:=h2.2;simp;omega⟩
     ·exact ⟨_,.neg_long hx h3 ho,trivial⟩
  | last =>
   cases hx:nextIs 5 wOpen r with
   | false=>exact ⟨_,.last_atom hx,atomR_left hr⟩
   | true =>
    rcases Nat.lt_or_ge o 200 with ho | ho
    ·obtain ⟨t,r1,rfl,hk,_⟩:=nextIs_ne hx
     have ht:=endsT_tail hr (by omega:t.k ≠ 6)
     obtain ⟨R,h1,h2⟩:=low (.row true) (o+1) r1 ht (by simp)
     cases R with
     | bad e p=>exact ⟨_,.last_bad hx ho h1,trivial⟩
     | ok x r2 =>
      cases hy:nextIs 5 wShut r2 with
      | false=>exact ⟨_,.last_open hx ho h1 hy,trivial⟩
      | true =>
       obtain ⟨u,r3,rfl,hu,_⟩:=nextIs_ne hy
       exact ⟨_,.last_ok hx ho h1 hy,endsT_tail h2.1 (by omega),by have:=h2.2;simp at this;simp;omega⟩
    ·exact ⟨_,.last_long hx ho,trivial⟩
end Go.Hx
namespace Go.Hx
theorem bs_tx (s:ByteArray):bs (tx s)=s:=by cases s;simp [tx]
theorem tx_bs (l:List UInt8):tx (bs l)=l:=by simp [tx]
theorem extract_bs (s:ByteArray) (i j:Nat):s.extract i j=bs (((tx s).take j).drop i):=by
 have h:(s.extract i j).data=s.data.extract i j:=by simp
 have:tx (s.extract i j)=((tx s).take j).drop i:=by
  show (s.extract i j).data.toList=_
  rw [h,Array.toList_extract,List.extract_eq_take_drop,List.take_drop]
  rcases Nat.le_total i j with hij | hij
  ·rw [Nat.add_sub_cancel' hij]
  ·have:i+(j - i)=i:=by omega
   rw [this,List.drop_eq_nil_of_le (by simp;omega),List.drop_eq_nil_of_le (by simp;omega)]
 rw [← this,bs_tx]
theorem slS_from {s:ByteArray} {pre r:List UInt8} (e:tx s=pre++r):sliceSA (S s) (some (I pre.length)) none=some (S (bs r)):=by
 have hs:(tx s).length=s.size:=size_list s
 have hl:pre.length≤s.size:=by rw [← hs,e];simp
 have h0:(0:Int)≤pre.length∧(pre.length:Int)≤(s.size:Int)∧(s.size:Int)≤s.size:=by omega
 simp only [sliceSA,S,intOfA,I,if_pos h0,Int.toNat_natCast,extract_bs]
 rw [← hs,List.take_length,e,List.drop_left]
theorem slS_mid {s:ByteArray} {pre r:List UInt8} (e:tx s=pre++r) {n:Nat} (hn:n≤r.length):sliceSA (S s) (some (I pre.length)) (some (I ((pre.length+n:Nat):Int)))=some (S (bs (r.take n))):=by
 have hs:(tx s).length=s.size:=size_list s
 have hl:pre.length+n≤s.size:=by rw [← hs,e,List.length_append];omega
 have h0:(0:Int)≤pre.length∧(pre.length:Int)≤((pre.length+n:Nat):Int)∧((pre.length+n:Nat):Int)≤s.size:=by omega
 simp only [sliceSA,S,intOfA,I,if_pos h0,Int.toNat_natCast,extract_bs]
 rw [e,List.take_append,List.take_of_length_le (by omega),List.drop_left,Nat.add_sub_cancel_left]
theorem slS_to {s:ByteArray} {n:Nat} (hn:n≤s.size):sliceSA (S s) none (some (I n))=some (S (bs ((tx s).take n))):=by
 have h0:(0:Int)≤0∧(0:Int)≤(n:Int)∧(n:Int)≤s.size:=by omega
 simp only [sliceSA,S,intOfA,I,if_pos h0,Int.toNat_natCast,extract_bs]
 rfl
theorem w64_nat {n:Nat} (h:n≤1152921504606846976):W64 (n:Int)=(n:Int):=w64_id (by omega) (by omega)
theorem w64_add {m n:Nat} (h:m+n≤1152921504606846976):W64 ((m:Int)+(n:Int))=((m+n:Nat):Int):=by
 rw [w64_id (by omega) (by omega)];omega
structure Sc (H0:Heap) (T:Nat→Option Nat) (b:Nat) (s:ByteArray) (p:Nat) (H:Heap):Prop where
 ext:HExt H0 H
 fr:H0.fresh b
 obj:H.objs b=some (.cells [S s,I p])
 tp:∀ c n,T c=some n→H.tips c=some n
variable {T:Nat→Option Nat}
theorem Sc.mono {H0 H H':Heap} {b p:Nat} {s:ByteArray} (h:Sc H0 T b s p H) (he:HExt H H'):Sc H0 T b s p H' :=
 ⟨h.ext.trans he,h.fr,he.obj h.obj,fun c n hc=>by have:=h.tp c n hc;rw [(he c (fun hf=>by rw [hf.2] at this;cases this)).2.1];exact this⟩
theorem Sc.set {H0 H:Heap} {b p:Nat} {s:ByteArray} (h:Sc H0 T b s p H) (q:Nat):Sc H0 T b s q (H.setObj b (.cells [S s,I q])):=⟨h.ext.setObj h.fr _,h.fr,setObj_same _ _ _,h.tp⟩
theorem Sc.ld0 {H0 H:Heap} {b p:Nat} {s:ByteArray} (h:Sc H0 T b s p H):ldH H false 1 (Poff b 0)=some (S s):=by rw [ld_off h.obj];rfl
theorem Sc.ld1 {H0 H:Heap} {b p:Nat} {s:ByteArray} (h:Sc H0 T b s p H):ldH H false 1 (Poff b 1)=some (I p):=by rw [ld_off h.obj];rfl
theorem Sc.st1 {H0 H:Heap} {b p:Nat} {s:ByteArray} (h:Sc H0 T b s p H) (q:Int):stH H 1 (Poff b 1) (I q)=some (H.setObj b (.cells [S s,I q])):=by
 simp [stH,h.obj,sizedA,cellsA,spliceA,I]
/-- what a tip says -/
def tipT (n:Nat):Tip→Nat→Option Nat
 | .tip c=>fun x=>if x=c then some n else none
 | _=>fun _=>none
theorem Sc.tip {H0 H:Heap} {b p:Nat} {s:ByteArray} {sz n:Nat} {tip:Tip} (h:Sc H0 T b s p H) (ho:OwnS H0 H sz n tip):Sc H0 (tipT (n * sz) tip) b s p H :=
 ⟨h.ext,h.fr,h.obj,fun c m hc=>by
  cases tip with
  | any=>cases hc
  | full=>cases hc
  | tip d =>
   simp only [tipT] at hc
   split at hc
   ·rename_i e;subst e;cases hc;exact ho.1
   ·cases hc⟩
theorem Sc.own {H0 H1 H:Heap} {b p:Nat} {s:ByteArray} {sz n:Nat} {tip:Tip} (h:Sc H0 (tipT (n * sz) tip) b s p H) (ho:OwnS H0 H1 sz n tip):OwnS H0 H sz n tip:=by
 cases tip with
 | any=>exact ho
 | full=>exact ho
 | tip d=>exact ⟨h.tp d _ (by simp [tipT]),ho.2⟩
theorem sc_new {H0 H:Heap} {s:ByteArray} (q:Nat) (he:HExt H0 H) {K:AV→Heap→Prop} (hk:∀ b H',Sc H0 (fun _=>none) b s q H'→K (Pt b) H'):newH H [S s,I q] K:=by
 intro b hb
 exact hk b _ ⟨he.setObj (he.fresh hb) _,he.fresh hb,setObj_same _ _ _,fun _ _ h=>by cases h⟩
theorem c175 (r:Int) (H:Heap) (Q:Post):E 175 [R32 r] H Q=Q (B (uppI r)) H:=by
 simp only [f175_eq,f175_j4_eq,k_geq,k_leq,ob_some,cnd_B,decide_eq_true_eq,uppI]
 split<;>rename_i h<;>simp only [h,decide_true,decide_false,Bool.true_and,Bool.false_and]
theorem c176 (r:Int) (H:Heap) (Q:Post):E 176 [R32 r] H Q=Q (B (lowI r)) H:=by
 simp only [f176_eq,f176_j4_eq,k_geq,k_leq,ob_some,cnd_B,decide_eq_true_eq,lowI]
 split<;>rename_i h<;>simp only [h,decide_true,decide_false,Bool.true_and,Bool.false_and]
theorem c177 (r:Int) (H:Heap) (Q:Post):E 177 [R32 r] H Q=Q (B (digI r)) H:=by
 simp only [f177_eq,f177_j4_eq,k_geq,k_leq,ob_some,cnd_B,decide_eq_true_eq,digI]
 split<;>rename_i h<;>simp only [h,decide_true,decide_false,Bool.true_and,Bool.false_and]
theorem c244 (r:Int) (H:Heap) (Q:Post):E 244 [R32 r] H Q=Q (B (signI r)) H:=by
 simp only [f244_eq,f244_j4_eq,c176,c177,k_eql,ob_some,cnd_B,signI]
 repeat' split
 all_goals simp_all
theorem c173 (c:UInt8) (H:Heap) (Q:Post):E 173 [U8 c.toNat] H Q=Q (B (blankB c)) H:=by
 simp only [f173_eq,f173_j4_eq,k_eql,ob_some,cnd_B,decide_eq_true_eq,blankB,blankI]
 repeat' split
 all_goals simp_all
theorem tw_bad {p:UInt8→Bool} {pre r:List UInt8} {c:UInt8} (h:pre.all p=true) (hc:p c=false):((pre++c::r).takeWhile p).length=pre.length:=by
 rw [List.takeWhile_append_of_pos (fun a ha=>List.all_eq_true.1 h a ha)];simp [hc]
theorem tw_all {p:UInt8→Bool} {pre:List UInt8} (h:pre.all p=true):(pre.takeWhile p).length=pre.length:=by
 have:=List.takeWhile_append_of_pos (l₂:=[]) (fun a ha=>List.all_eq_true.1 h a ha)
 simp only [List.append_nil,List.takeWhile_nil] at this
 rw [this]
theorem c243_l (g:AV) (pI:Int→Bool) (hg:∀ (r:Int) (H:Heap) (K:Post),K (B (pI r)) H→callA (Ev Pg Hs) g [R32 r] H K) (hp:∀ x:Int,128≤x→pI x=false)
  (H0:Heap) (s:ByteArray) (b:Nat) (hb:H0.fresh b) (Q:Post) (hq:∀ H',HExt H0 H'→Q (I ((tx s).takeWhile fun c=>pI c.toNat).length) H'):∀ (r pre:List UInt8) (H:Heap),tx s=pre++r→HExt H0 H →
  H.objs b=some (.siter s pre.length)→pre.all (fun c=>pI c.toNat)=true→f243_l6 (S s) g (Pt b) H Q:=by
 intro r
 induction r with
 | nil =>
  intro pre H e he hobj hall
  have hs:(tx s).length=s.size:=size_list s
  have hlen:pre.length=s.size:=by rw [← hs,e];simp
  have hn:nextA (Pt b) H=fun K=>K (.tup [B false]) H:=by
   funext K;simp [nextA,Pt,hobj,hlen]
  have x0:extractA (.tup [B false]) 0=some (B false):=rfl
  rw [f243_l6_eq,hn]
  simp only [x0,ob_some,cnd_B,Bool.false_eq_true,if_false,len_S]
  have:=hq H he
  rw [e,List.append_nil,tw_all hall,hlen] at this
  exact this
 | cons c r ih =>
  intro pre H e he hobj hall
  have hs:(tx s).length=s.size:=size_list s
  have hlt:pre.length < s.size:=by rw [← hs,e];simp
  have hc:s[pre.length]'hlt=c:=by
   have h1:(tx s)[pre.length]?=some c:=by rw [e];simp
   have h2:(tx s)[pre.length]?=some (s[pre.length]'hlt):=by
    rw [List.getElem?_eq_getElem (by rw [size_list];exact hlt)];rfl
   rw [h1] at h2;exact (Option.some.inj h2).symm
  have hn:nextA (Pt b) H=fun K=>K (.tup [B true,I pre.length,R32 (Utf8.decode s pre.length).1]) (H.setObj b (.siter s (pre.length+(Utf8.decode s pre.length).2))):=by
   funext K;simp [nextA,Pt,hobj,hlt]
  have he':HExt H0 (H.setObj b (.siter s (pre.length+(Utf8.decode s pre.length).2))):=he.setObj hb _
  have x0:∀ x y z,extractA (.tup [x,y,z]) 0=some x:=fun _ _ _=>rfl
  have x1:∀ x y z,extractA (.tup [x,y,z]) 1=some y:=fun _ _ _=>rfl
  have x2:∀ x y z,extractA (.tup [x,y,z]) 2=some z:=fun _ _ _=>rfl
  have hbad:∀ H',HExt H0 H'→pI c.toNat=false→Q (I pre.length) H':=fun H' hx hcs=>by
   have:=hq H' hx
   rw [e,tw_bad hall hcs] at this
   exact this
  rw [f243_l6_eq,hn]
  simp only [x0,x1,x2,ob_some,cnd_t]
  rcases Nat.lt_or_ge c.toNat 128 with ha | ha
  ·have hd:=decode_ascii s pre.length hlt (by rw [hc];exact ha)
   rw [hc] at hd
   simp only [hd]
   rw [hd] at he'
   refine hg _ _ _ ?_
   rw [not_B,ob_some]
   refine cnd_intro (fun h=>hbad _ he' (by simpa using h)) (fun h=>?_)
   exact ih (pre++[c]) _ (by simp [e]) he' (by simp [setObj_same]) (by simp only [List.all_append,hall,Bool.true_and,List.all_cons,List.all_nil,Bool.and_true];simpa using h)
  ·have hd:=decode_high s pre.length hlt (by rw [hc];exact ha)
   refine hg _ _ _ ?_
   rw [not_B,ob_some,hp _ (by omega)]
   exact hbad _ he' (hp _ (by omega))
theorem c243 (g:AV) (pI:Int→Bool) (hg:∀ (r:Int) (H:Heap) (K:Post),K (B (pI r)) H→callA (Ev Pg Hs) g [R32 r] H K) (hp:∀ x:Int,128≤x→pI x=false)
  (s:ByteArray) (H:Heap) (Q:Post) (hq:∀ H',HExt H H'→Q (I ((tx s).takeWhile fun c=>pI c.toNat).length) H'):E 243 [S s,g] H Q:=by
 rw [f243_eq]
 intro b hb
 exact c243_l g pI hg hp H s b hb Q hq (tx s) [] _ rfl ((HExt.refl H).setObj hb _) (by simp [setObj_same]) rfl
theorem run_upp (s:ByteArray) (H:Heap) (Q:Post) (hq:∀ H',HExt H H'→Q (I ((tx s).takeWhile uppB).length) H'):E 243 [S s,.fn (.func 175) [] []] H Q :=
 c243 _ uppI (fun r H K hk=>by show E 175 [R32 r] H K;rw [c175];exact hk) (fun x hx=>by simp only [uppI,Bool.and_eq_false_iff,decide_eq_false_iff_not];omega) s H Q hq
theorem run_sign (s:ByteArray) (H:Heap) (Q:Post) (hq:∀ H',HExt H H'→Q (I ((tx s).takeWhile signB).length) H'):E 243 [S s,.fn (.func 244) [] []] H Q :=
 c243 _ signI (fun r H K hk=>by show E 244 [R32 r] H K;rw [c244];exact hk) (fun x hx=>by simp only [signI,lowI,digI,Bool.or_eq_false_iff,Bool.and_eq_false_iff,decide_eq_false_iff_not];omega) s H Q hq
theorem run_dig (s:ByteArray) (H:Heap) (Q:Post) (hq:∀ H',HExt H H'→Q (I ((tx s).takeWhile digB).length) H'):E 243 [S s,.fn (.func 177) [] []] H Q :=
 c243 _ digI (fun r H K hk=>by show E 177 [R32 r] H K;rw [c177];exact hk) (fun x hx=>by simp only [digI,Bool.and_eq_false_iff,decide_eq_false_iff_not];omega) s H Q hq
section
variable {H0 H:Heap} {b:Nat} {s:ByteArray} {pre r:List UInt8} {Q:Post}
theorem c242 (h:Sc H0 T b s pre.length H) (e:tx s=pre++r) (hq:Q (S (bs r)) H):E 242 [Pt b] H Q:=by
 rw [f242_eq]
 simp only [nil_Pt,ob_some,add_Pt,h.ld0,h.ld1,slS_from e]
 exact hq
theorem size_bound (e:tx s=pre++r):pre.length+r.length=s.size:=by
 have:(tx s).length=s.size:=size_list s
 rw [← this,e,List.length_append]
theorem c245 (h:Sc H0 T b s pre.length H) (e:tx s=pre++r) (hsz:s.size≤1099511627776) (k:Int) {n:Nat} (hn:n≤r.length)
  (hq:∀ H',Sc H0 T b s (pre.length+n) H'→Q (encK ⟨k,bs (r.take n),pre.length⟩) H'):E 245 [Pt b,I k,I n] H Q:=by
 have hb:=size_bound e
 have hw:W64 ((pre.length:Int)+(n:Int))=((pre.length+n:Nat):Int):=w64_add (by omega)
 have hbd:bldA [(0,1,I k),(1,1,S (bs (r.take n))),(2,1,I pre.length)] [I 0,S ⟨#[]⟩,I 0]=some (encK ⟨k,bs (r.take n),pre.length⟩):=rfl
 have hs:sizedA 3 (encK ⟨k,bs (r.take n),pre.length⟩)=some [I k,S (bs (r.take n)),I pre.length]:=rfl
 have hsp:spliceA 0 [I k,S (bs (r.take n)),I pre.length] [I 0,S ⟨#[]⟩,I 0]=some [I k,S (bs (r.take n)),I pre.length]:=rfl
 have hp:partA true 0 3 [I k,S (bs (r.take n)),I pre.length]=some (encK ⟨k,bs (r.take n),pre.length⟩):=rfl
 rw [f245_eq]
 simp only [nil_Pt,ob_some,add_Pt,h.ld0,h.ld1,i_add,hw,slS_mid e hn,hbd,hs,hsp,h.st1,hp]
 exact hq _ (h.set _)
def zeroK:AV:=.agg [I 0,S e0,I 0]
def resV (p:Nat):L1→AV
 | .tok k w _=>.tup [encK ⟨k,bs w,p⟩,B true]
 | .bad _ _=>.tup [zeroK,B false]
def resN:L1→Nat
 | .tok _ _ n=>n
 | .bad _ _=>0
theorem tw_take (p:UInt8→Bool) (l:List UInt8):l.take (l.takeWhile p).length=l.takeWhile p:=by
 induction l with
 | nil=>rfl
 | cons a l ih =>
  rw [List.takeWhile_cons]
  split
  ·simp [ih]
  ·rfl
theorem tw_le (p:UInt8→Bool) (l:List UInt8):(l.takeWhile p).length≤l.length:=by
 have:=congrArg List.length (tw_take p l)
 rw [List.length_take] at this;omega
theorem j41 (h:Sc H0 T b s pre.length H) (e:tx s=pre++r) (hsz:s.size≤1099511627776) (k:Int) {n:Nat} (hn:n≤r.length)
  (hq:∀ H',Sc H0 T b s (pre.length+n) H'→Q (.tup [encK ⟨k,bs (r.take n),pre.length⟩,B true]) H'):f178_j41 (Pt b) (I k) [I 0,S ⟨#[]⟩,I 0] (I n) H Q:=by
 rw [f178_j41_eq]
 refine c245 h e hsz k hn (fun H' h'=>?_)
 have hs:sizedA 3 (encK ⟨k,bs (r.take n),pre.length⟩)=some [I k,S (bs (r.take n)),I pre.length]:=rfl
 have hsp:spliceA 0 [I k,S (bs (r.take n)),I pre.length] [I 0,S ⟨#[]⟩,I 0]=some [I k,S (bs (r.take n)),I pre.length]:=rfl
 have hp:partA true 0 3 [I k,S (bs (r.take n)),I pre.length]=some (encK ⟨k,bs (r.take n),pre.length⟩):=rfl
 rw [hs,ob_some,hsp,ob_some,hp,ob_some]
 exact hq H' h'
/-- words, names -/
theorem c178_w (h:Sc H0 T b s pre.length H) (e:tx s=pre++r) (hsz:s.size≤1099511627776) (k:Int) (hk:k=1 ∨ k=2)
  (hq:∀ H',Sc H0 T b s (pre.length+resN (wordT k (if k=1 then uppB else signB) r)) H'→Q (resV pre.length (wordT k (if k=1 then uppB else signB) r)) H'):E 178 [Pt b,I k] H Q:=by
 have hz:bldA [] [I 0,S ⟨#[]⟩,I 0]=some zeroK:=rfl
 have hzs:sizedA 3 zeroK=some [I 0,S ⟨#[]⟩,I 0]:=rfl
 have hzp:spliceA 0 [I 0,S ⟨#[]⟩,I 0] [I 0,S ⟨#[]⟩,I 0]=some [I 0,S ⟨#[]⟩,I 0]:=rfl
 have hzt:partA true 0 3 [I 0,S ⟨#[]⟩,I 0]=some zeroK:=rfl
 have go:∀ (p:UInt8→Bool) (H':Heap),HExt H H'→(p=if k=1 then uppB else signB)→ob (binA Pg .gtr 3 true (I (r.takeWhile p).length) (I 32)) (fun r6=>cndA r6 (Q (.tup [zeroK,B false]) H') (f178_j41 (Pt b) (I k) [I 0,S ⟨#[]⟩,I 0] (I (r.takeWhile p).length) H' Q)):=fun p H' he hp=>by
  subst hp
  rw [i_gtr,ob_some]
  refine cnd_intro (fun h1=>?_) (fun h1=>?_)
  ·have:=hq H'
   rw [wordT,if_pos (by simp at h1;omega)] at this
   exact this (h.mono he)
  ·refine j41 (h.mono he) e hsz k (tw_le _ _) (fun H2 h2=>?_)
   have:=hq H2
   rw [wordT,if_neg (by simp at h1;omega)] at this
   rw [tw_take];exact this h2
 rw [f178_eq]
 rcases hk with rfl | rfl
 ·simp only [i_eql,decide_true,ob_some,cnd_t]
  refine c242 h e ?_
  refine run_upp _ _ _ (fun H' he=>?_)
  simp only [hz,hzs,hzp,hzt,ob_some,tx_bs]
  exact go uppB H' he rfl
 ·have:decide ((2:Int)=1)=false:=rfl
  simp only [i_eql,this,ob_some,cnd_f,decide_true,cnd_t]
  refine c242 h e ?_
  refine run_sign _ _ _ (fun H' he=>?_)
  simp only [hz,hzs,hzp,hzt,ob_some,tx_bs]
  exact go signB H' he rfl
/-- numbers -/
theorem c178_n (h:Sc H0 T b s pre.length H) (e:tx s=pre++r) (hsz:s.size≤1099511627776) (hr:r ≠ [])
  (hq:∀ H',Sc H0 T b s (pre.length+resN (intT r)) H'→Q (resV pre.length (intT r)) H'):E 178 [Pt b,I 3] H Q:=by
 have hz:bldA [] [I 0,S ⟨#[]⟩,I 0]=some zeroK:=rfl
 have hzs:sizedA 3 zeroK=some [I 0,S ⟨#[]⟩,I 0]:=rfl
 have hzp:spliceA 0 [I 0,S ⟨#[]⟩,I 0] [I 0,S ⟨#[]⟩,I 0]=some [I 0,S ⟨#[]⟩,I 0]:=rfl
 have hzt:partA true 0 3 [I 0,S ⟨#[]⟩,I 0]=some zeroK:=rfl
 have d1:decide ((3:Int)=1)=false:=rfl
 have d2:decide ((3:Int)=2)=false:=rfl
 rw [f178_eq]
 simp only [i_eql,d1,d2,ob_some,cnd_f]
 refine c242 h e ?_
 refine run_dig _ _ _ (fun H' he=>?_)
 simp only [tx_bs,i_gtr,ob_some]
 have h':=h.mono he
 have jb:(19 < (r.takeWhile digB).length ∨ (1 < (r.takeWhile digB).length∧r.head?.map (·.toNat)=some 48))→∀ d,d=true→f178_j36 (Pt b) (I 3) [I 0,S ⟨#[]⟩,I 0] (I (r.takeWhile digB).length) (B d) H' Q:=fun hc d hd=>by
  subst hd
  rw [f178_j36_eq]
  simp only [cnd_t,hz,hzs,hzp,hzt,ob_some]
  have:=hq H'
  rw [intT,if_pos hc] at this
  exact this h'
 have jg:¬ (19 < (r.takeWhile digB).length ∨ (1 < (r.takeWhile digB).length∧r.head?.map (·.toNat)=some 48))→∀ d,d=false→f178_j36 (Pt b) (I 3) [I 0,S ⟨#[]⟩,I 0] (I (r.takeWhile digB).length) (B d) H' Q:=fun hc d hd=>by
  subst hd
  rw [f178_j36_eq,cnd_f]
  refine j41 h' e hsz 3 (tw_le _ _) (fun H2 h2=>?_)
  have:=hq H2
  rw [intT,if_neg hc] at this
  rw [tw_take];exact this h2
 refine cnd_intro (fun h1=>?_) (fun h1=>?_)
 ·exact jb (.inl (by simp at h1;omega)) _ rfl
 ·have h19:¬ 19 < (r.takeWhile digB).length:=by simp at h1;omega
  refine cnd_intro (fun h2=>?_) (fun h2=>?_)
  ·have h2:1 < (r.takeWhile digB).length:=by simp at h2;omega
   cases r with
   | nil=>exact (hr rfl).elim
   | cons c r =>
    simp only [nil_Pt,ob_some,add_Pt,h'.ld0,h'.ld1,ixS s pre r c e,k_eql]
    rcases Decidable.em (c.toNat=48) with h3 | h3
    ·exact jb (.inr ⟨h2,by simp [h3]⟩) _ (by simp [h3])
    ·exact jg (by intro hc;rcases hc with hc | hc;exact h19 hc;simp at hc;exact h3 hc.2) _ (decide_eq_false (by omega))
  ·exact jg (by intro hc;rcases hc with hc | hc;exact h19 hc;simp at h2;omega) _ rfl
theorem bs_size (l:List UInt8):(bs l).size=l.length:=by show l.toArray.size=_;simp
theorem bs_inj {a b:List UInt8}:bs a=bs b ↔ a=b:=⟨fun h=>by have:=congrArg tx h;rwa [tx_bs,tx_bs] at this,fun h=>by rw [h]⟩
theorem c247 (r w:List UInt8) (H:Heap) (Q:Post):E 247 [S (bs r),S (bs w)] H Q=Q (B (pre? r w)) H:=by
 rw [f247_eq]
 simp only [len_S,ob_some,i_geq,bs_size,cnd_B,decide_eq_true_eq,f247_j4_eq]
 rcases Nat.lt_or_ge r.length w.length with h | h
 ·rw [if_neg (by omega)]
  have:pre? r w=false:=by simp [pre?];omega
  rw [this]
 ·rw [if_pos (by omega),slS_to (by rw [bs_size];exact h),ob_some,s_eql,ob_some]
  have:decide (bs ((tx (bs r)).take w.length)=bs w)=pre? r w:=by
   rw [tx_bs,pre?,decide_eq_true h,Bool.true_and];simp only [bs_inj]
  rw [this]
def signA:List AV:=signW.map fun w=>S (bs w)
theorem c246 (H:Heap) (Q:Post) (hq:∀ H',HExt H H'→Q (.agg signA) H'):E 246 [] H Q:=by
 rw [f246_eq]
 intro b hb
 have e1:HExt H (H.setObj b (.cells (List.replicate 22 (S e0)))):=(HExt.refl H).setObj hb _
 have o1:(H.setObj b (.cells (List.replicate 22 (S e0)))).objs b=some (.cells (List.replicate 22 (S e0))):=setObj_same _ _ _
 have hb':bldA [(0,1,(S ⟨#[60,61]⟩)),(1,1,(S ⟨#[62,61]⟩)),(2,1,(S ⟨#[60,62]⟩)),(3,1,(S ⟨#[45,62]⟩)),(4,1,(S ⟨#[40]⟩)),(5,1,(S ⟨#[41]⟩)),(6,1,(S ⟨#[44]⟩)),(7,1,(S ⟨#[46]⟩)),(8,1,(S ⟨#[43]⟩)),(9,1,(S ⟨#[45]⟩)),(10,1,(S ⟨#[42]⟩)),(11,1,(S ⟨#[47]⟩)),(12,1,(S ⟨#[37]⟩)),(13,1,(S ⟨#[61]⟩)),(14,1,(S ⟨#[60]⟩)),(15,1,(S ⟨#[62]⟩)),(16,1,(S ⟨#[33]⟩)),(17,1,(S ⟨#[124]⟩)),(18,1,(S ⟨#[123]⟩)),(19,1,(S ⟨#[125]⟩)),(20,1,(S ⟨#[91]⟩)),(21,1,(S ⟨#[93]⟩))]
  [(S ⟨#[]⟩),(S ⟨#[]⟩),(S ⟨#[]⟩),(S ⟨#[]⟩),(S ⟨#[]⟩),(S ⟨#[]⟩),(S ⟨#[]⟩),(S ⟨#[]⟩),(S ⟨#[]⟩),(S ⟨#[]⟩),(S ⟨#[]⟩),(S ⟨#[]⟩),(S ⟨#[]⟩),(S ⟨#[]⟩),(S ⟨#[]⟩),(S ⟨#[]⟩),(S ⟨#[]⟩),(S ⟨#[]⟩),(S ⟨#[]⟩),(S ⟨#[]⟩),(S ⟨#[]⟩),(S ⟨#[]⟩)]=some (.agg signA):=rfl
 rw [hb',ob_some]
 refine (?_:ob (stH (H.setObj b (.cells (List.replicate 22 (S e0)))) 22 (Pt b) (.agg signA)) fun H4=>ob (ldH H4 true 22 (Pt b)) fun r5=>Q r5 H4)
 rw [st_agg o1 (xs:=signA) rfl 22 rfl,ob_some,ld_agg (setObj_same _ _ _) 22 rfl,ob_some]
 exact hq _ (e1.setObj hb _)
theorem c179 (h:Sc H0 T b s pre.length H) (e:tx s=pre++r) (hsz:s.size≤1099511627776)
  (hq:∀ H',Sc H0 T b s (pre.length+resN (signF r)) H'→Q (resV pre.length (signF r)) H'):E 179 [Pt b] H Q:=by
 have hz:bldA [] [I 0,S ⟨#[]⟩,I 0]=some zeroK:=rfl
 have hzs:sizedA 3 zeroK=some [I 0,S ⟨#[]⟩,I 0]:=rfl
 have hzp:spliceA 0 [I 0,S ⟨#[]⟩,I 0] [I 0,S ⟨#[]⟩,I 0]=some [I 0,S ⟨#[]⟩,I 0]:=rfl
 have hzt:partA true 0 3 [I 0,S ⟨#[]⟩,I 0]=some zeroK:=rfl
 have loop:∀ (ws done:List (List UInt8)) (H:Heap),signW=done++ws→Sc H0 T b s pre.length H →
   (∀ L,L=(match ws.find? (pre? r) with | none=>L1.bad 0 4 | some w=>.tok 5 w w.length)→∀ H',Sc H0 T b s (pre.length+resN L) H'→Q (resV pre.length L) H') →
   f179_l6 (Pt b) [I 0,S ⟨#[]⟩,I 0] (.agg signA) (I done.length) H Q:=by
  intro ws
  induction ws with
  | nil =>
   intro done H ed h hq
   have hd:done.length=22:=by rw [List.append_nil] at ed;rw [← ed];rfl
   have:decide (((done.length:Nat):Int) < 22)=false:=by rw [hd];rfl
   rw [f179_l6_eq,i_lss,ob_some,this,cnd_f]
   simp only [hz,hzs,hzp,hzt,ob_some]
   exact hq _ rfl H h
  | cons w ws ih =>
   intro done H ed h hq
   have h22:done.length+(w::ws).length=22:=by rw [← List.length_append,← ed];rfl
   simp only [List.length_cons] at h22
   have hlt:decide (((done.length:Nat):Int) < 22)=true:=by simp;omega
   have hix:ixAgg 22 false 1 (.agg signA) (I done.length)=some (S (bs w)):=by
    have h0:(0:Int)≤(done.length:Int)∧(done.length:Int) < ((22:Nat):Int):=by omega
    have:signA[done.length]?=some (S (bs w)):=by rw [signA,ed];exact get_mid (fun w=>S (bs w)) done ws w
    simp only [ixAgg,I,if_pos h0,Int.toNat_natCast,part_f,Nat.mul_one,this]
   rw [f179_l6_eq,i_lss,ob_some,hlt,cnd_t,hix,ob_some]
   refine c242 h e ?_
   rw [c247]
   cases hp:pre? r w with
   | true =>
    have hp':=hp
    simp only [pre?,Bool.and_eq_true,decide_eq_true_eq] at hp
    rw [cnd_t,len_S,bs_size,ob_some]
    refine c245 h e hsz 5 hp.1 (fun H' h'=>?_)
    rw [hp.2]
    have hs:sizedA 3 (encK ⟨5,bs w,pre.length⟩)=some [I 5,S (bs w),I pre.length]:=rfl
    have hsp:spliceA 0 [I 5,S (bs w),I pre.length] [I 0,S ⟨#[]⟩,I 0]=some [I 5,S (bs w),I pre.length]:=rfl
    have hpt:partA true 0 3 [I 5,S (bs w),I pre.length]=some (encK ⟨5,bs w,pre.length⟩):=rfl
    simp only [hs,hsp,hpt,ob_some]
    exact hq (.tok 5 w w.length) (by simp [List.find?,hp']) H' h'
   | false =>
    rw [cnd_f,i_add,ob_some,w64_succ (n:=22) (by omega) (by omega)]
    have:=ih (done++[w]) H (by simp [ed]) h (fun L hL=>hq L (by simp only [List.find?,hp];exact hL))
    rw [List.length_append,List.length_singleton] at this
    exact this
 rw [f179_eq]
 refine c246 H _ (fun H1 e1=>?_)
 exact loop signW [] H1 rfl (h.mono e1) (fun L hL H' h'=>by
  have:L=signF r:=hL
  subst this
  exact hq H' h')
end
end Go.Hx
namespace Go.Hx
def idxH (n:Nat):Nat→Nat→Int
 | 0,_=>-1
 | k+1,j=>if (hexD j).toNat=n then j else idxH n k (j+1)
def hexI (n:Nat):Int:=match hexN n with
 | some a=>a
 | none=>-1
theorem idxH_eq:∀ n:Fin 256,idxH n.1 16 0=hexI n.1:=by decide +kernel
theorem c308 (c:UInt8) (H:Heap) (Q:Post) (hq:∀ H',HExt H H'→Q (I (hexI c.toNat)) H'):E 308 [byteA c] H Q:=by
 have loop:∀ (k j:Nat) (H:Heap),j+k=16→f308_l6 (byteA c) (.agg hexC) (I j) H Q=Q (I (idxH c.toNat k j)) H:=by
  intro k
  induction k with
  | zero =>
   intro j H e
   have:decide ((j:Int) < 16)=false:=by simp;omega
   rw [f308_l6_eq,i_lss,ob_some,this,cnd_f,idxH]
  | succ k ih =>
   intro j H e
   have h1:decide ((j:Int) < 16)=true:=by simp;omega
   have hix:ixAgg 16 false 1 (.agg hexC) (I j)=some (byteA (hexD j)):=by
    have h0:(0:Int)≤(j:Int)∧(j:Int) < ((16:Nat):Int):=by omega
    simp only [ixAgg,I,if_pos h0,Int.toNat_natCast,part_f,Nat.mul_one,hex_get (by omega:j < 16)]
   rw [f308_l6_eq,i_lss,ob_some,h1,cnd_t,hix,ob_some]
   have hbe:binA Pg .eql 5 false (byteA (hexD j)) (byteA c)=some (B (decide ((hexD j).toNat=c.toNat))):=b_eq39 (hexD j) c.toNat 5 false
   rw [hbe,ob_some,cnd_B,i_add,ob_some,w64_succ (n:=16) (by omega) (by omega),ih (j+1) H (by omega),idxH]
   simp only [decide_eq_true_eq]
   split<;>rfl
 rw [f308_eq]
 refine c289 H _ (fun H1 e1=>?_)
 have:=loop 16 0 H1 rfl
 refine this.mpr ?_
 rw [idxH_eq ⟨c.toNat,byte_lt c⟩]
 exact hq H1 e1
theorem shl4:∀ a:Fin 16,binA Pg .shl 3 true (I (a.1:Int)) (U64 4)=some (I ((16 * a.1:Nat):Int)):=by
 intro a
 have:∀ a:Fin 16,IntKind.i64.wrap ((a.1:Int) * 16)=((16 * a.1:Nat):Int):=by decide +kernel
 rw [← this a];rfl
theorem or4:∀ a b:Fin 16,bitsI .or .i64 ((16 * a.1:Nat):Int) (b.1:Int)=((16 * a.1+b.1:Nat):Int):=by decide +kernel
theorem i_or (t:TypeId) (l:Bool) (a b:Int):binA Pg .or t l (I a) (I b)=some (I (bitsI .or .i64 a b)):=rfl
theorem hexN_lt {n a:Nat} (h:hexN n=some a):a < 16:=by
 simp only [hexN] at h
 split at h
 ·cases h;omega
 ·split at h
  ·cases h;omega
  ·cases h
section
variable {T:Nat→Option Nat} {H0 H:Heap} {b:Nat} {s:ByteArray} {pre r:List UInt8} {Q:Post}
theorem c298 {p:Nat} (h:Sc H0 T b s p H):E 298 [Pt b] H Q=Q (B (decide (s.size≤p))) H:=by
 rw [f298_eq]
 simp only [nil_Pt,ob_some,add_Pt,h.ld0,h.ld1,len_S,i_geq]
 have:decide ((s.size:Int)≤(p:Int))=decide (s.size≤p):=by simp
 rw [this]
theorem done_nil (e:tx s=pre++[]):decide (s.size≤pre.length)=true:=by have:=size_bound e;simp at this ⊢;omega
theorem done_cons {c:UInt8} (e:tx s=pre++c::r):decide (s.size≤pre.length)=false:=by have:=size_bound e;simp at this ⊢;omega
theorem step1 {c:UInt8} (h:Sc H0 T b s pre.length H) (e:tx s=pre++c::r) (hsz:s.size≤1099511627776) (K:Heap→Prop) (hk:∀ H',Sc H0 T b s (pre++[c]).length H'→tx s=(pre++[c])++r→(pre++[c]).length=pre.length+1→K H') :
  (ob (binA Pg .add 3 true (I pre.length) (I 1)) fun r19=>ob (stH H 1 (Poff b 1) r19) fun H22=>K H22):=by
 have hb:=size_bound e
 simp only [List.length_cons] at hb
 rw [i_add,ob_some,w64_succ (n:=s.size) (by omega) (by omega),h.st1,ob_some]
 exact hk _ (by rw [List.length_append];exact h.set _) (by simp [e]) (by simp)
theorem c305 (h:Sc H0 T b s pre.length H) (e:tx s=pre++r) (hsz:s.size≤1099511627776)
  (hok:∀ c n H',hexR pre.length r=.ok c n→Sc H0 T b s (pre.length+n) H'→Q (.tup [byteA c,B true]) H')
  (hbad:∀ q H',hexR pre.length r=.bad q→Sc H0 T b s q H'→Q (.tup [U8 0,B false]) H'):E 305 [Pt b] H Q:=by
 have l0:decide ((0:Int) < 2)=true:=rfl
 have l1:decide ((1:Int) < 2)=true:=rfl
 have l2:decide ((2:Int) < 2)=false:=rfl
 rw [f305_eq,f305_l8_eq,i_lss,l0,ob_some,cnd_t,c298 h]
 cases r with
 | nil=>rw [done_nil e,cnd_t];exact hbad _ H rfl h
 | cons x r =>
  rw [done_cons e,cnd_f]
  simp only [nil_Pt,ob_some,add_Pt,h.ld0,h.ld1,ixS s pre r x e]
  refine c308 x H _ (fun H1 e1=>?_)
  have h1:=h.mono e1
  cases hx:hexV x with
  | none =>
   have hi:hexI x.toNat=-1:=by rw [hexV] at hx;simp [hexI,hx]
   have:decide ((-1:Int) < 0)=true:=rfl
   rw [hi,i_lss,ob_some,this,cnd_t]
   exact hbad _ H1 (by simp [hexR,hx]) h1
  | some a =>
   have hi:hexI x.toNat=(a:Int):=by rw [hexV] at hx;simp [hexI,hx]
   have ha:a < 16:=hexN_lt hx
   have hn:decide ((a:Int) < 0)=false:=by simp
   have s0:binA Pg .shl 3 true (I 0) (AV.raw (.int .u64 4))=some (I 0):=shl4 ⟨0,by omega⟩
   have o0:bitsI .or .i64 0 (a:Int)=(a:Int):=by have:=or4 ⟨0,by omega⟩ ⟨a,ha⟩;simpa using this
   rw [hi,i_lss,ob_some,hn,cnd_f,s0,ob_some,i_or,o0,ob_some]
   simp only [nil_Pt,ob_some,add_Pt,h1.ld1]
   refine step1 h1 e hsz _ (fun H2 h2 e2 hl2=>?_)
   have a1:W64 (0+1)=1:=rfl
   rw [i_add,a1,ob_some,f305_l8_eq,i_lss,l1,ob_some,cnd_t,c298 h2]
   cases r with
   | nil=>rw [done_nil e2,cnd_t];exact hbad (pre.length+1) H2 (by simp [hexR,hx]) (by rw [hl2] at h2;exact h2)
   | cons y r =>
    rw [done_cons e2,cnd_f]
    simp only [nil_Pt,ob_some,add_Pt,h2.ld0,h2.ld1,ixS s _ r y e2]
    refine c308 y H2 _ (fun H3 e3=>?_)
    have h3:=h2.mono e3
    cases hy:hexV y with
    | none =>
     have hi:hexI y.toNat=-1:=by rw [hexV] at hy;simp [hexI,hy]
     have:decide ((-1:Int) < 0)=true:=rfl
     rw [hi,i_lss,ob_some,this,cnd_t]
     exact hbad (pre.length+1) H3 (by simp [hexR,hx,hy]) (by rw [hl2] at h3;exact h3)
    | some d =>
     have hi:hexI y.toNat=(d:Int):=by rw [hexV] at hy;simp [hexI,hy]
     have hd:d < 16:=hexN_lt hy
     have hn:decide ((d:Int) < 0)=false:=by simp
     have s1:binA Pg .shl 3 true (I (a:Int)) (AV.raw (.int .u64 4))=some (I ((16 * a:Nat):Int)):=shl4 ⟨a,ha⟩
     have o1:bitsI .or .i64 ((16 * a:Nat):Int) (d:Int)=((16 * a+d:Nat):Int):=or4 ⟨a,ha⟩ ⟨d,hd⟩
     rw [hi,i_lss,ob_some,hn,cnd_f,s1,ob_some,i_or,o1,ob_some]
     simp only [nil_Pt,ob_some,add_Pt,h3.ld1]
     refine step1 h3 e2 hsz _ (fun H4 h4 e4 hl4=>?_)
     have a2:W64 (1+1)=2:=rfl
     have cv:cvtIA .u8 (I ((16 * a+d:Nat):Int))=some (byteA (UInt8.ofNat (16 * a+d))):=by
      have hw:IntKind.u8.wrap ((16 * a+d:Nat):Int)=((16 * a+d:Nat):Int):=by
       have:∀ a b:Fin 16,IntKind.u8.wrap ((16 * a.1+b.1:Nat):Int)=((16 * a.1+b.1:Nat):Int):=by decide +kernel
       exact this ⟨a,ha⟩ ⟨d,hd⟩
      have hm:(UInt8.ofNat (16 * a+d)).toNat=16 * a+d:=by simp;omega
      show some (AV.raw (.int .u8 (IntKind.u8.wrap _)))=_
      rw [hw,byteA,hm]
     rw [i_add,a2,ob_some,f305_l8_eq,i_lss,l2,ob_some,cnd_f,cv,ob_some]
     exact hok _ 2 H4 (by simp [hexR,hx,hy]) (by rw [hl4,hl2] at h4;exact h4)
theorem c299 {p:Nat} (hp:pre.length=p+1) (h:Sc H0 T b s pre.length H) (e:tx s=pre++r) (hsz:s.size≤1099511627776)
  (hok:∀ c n H',escR p r=.ok c n→Sc H0 T b s (p+n) H'→Q (.tup [byteA c,B true]) H')
  (hbad:∀ q H',escR p r=.bad q→Sc H0 T b s q H'→Q (.tup [U8 0,B false]) H'):E 299 [Pt b] H Q:=by
 have hb:=size_bound e
 have hs:W64 ((pre.length:Int) - 1)=(p:Int):=by rw [w64_id (by omega) (by omega)];omega
 rw [f299_eq]
 simp only [nil_Pt,ob_some,add_Pt,h.ld1,i_sub,hs]
 rw [c298 h]
 cases r with
 | nil=>rw [done_nil e,cnd_t];exact hbad (p+1) H rfl (hp ▸ h)
 | cons d r =>
  rw [done_cons e,cnd_f]
  simp only [h.ld0,h.ld1,ixS s pre r d e,ob_some]
  have j:∀ x:Bool,x=decide (d.toNat=39 ∨ d.toNat=92)→f299_j17 (Pt b) (I p) (U8 d.toNat) (B x) H Q:=fun x hx=>by
   rw [f299_j17_eq]
   simp only [nil_Pt,ob_some,add_Pt,h.ld1]
   refine cnd_intro (fun h1=>?_) (fun h1=>?_)
   ·have h1:d.toNat=39 ∨ d.toNat=92:=by rw [h1] at hx;simpa using hx.symm
    refine step1 h e hsz _ (fun H2 h2 e2 hl2=>?_)
    exact hok d 2 H2 (by simp [escR,h1]) (by rw [hl2,hp] at h2;exact h2)
   ·have h1:¬ (d.toNat=39 ∨ d.toNat=92):=by rw [h1] at hx;simpa using hx.symm
    have hne:binA Pg .neq 5 true (U8 d.toNat) (AV.raw (.int .u8 120))=some (B (!decide (d.toNat=120))):=by
     rw [k_neq]
     have:decide ((d.toNat:Int)=120)=decide (d.toNat=120):=by simp;omega
     rw [this]
    rw [hne,ob_some]
    refine cnd_intro (fun h2=>?_) (fun h2=>?_)
    ·have h2:d.toNat ≠ 120:=by simpa using h2
     exact hbad (p+1) H (by simp [escR,h1,h2]) (hp ▸ h)
    ·have h2:d.toNat=120:=by simpa using h2
     refine step1 h e hsz _ (fun H2 h3 e2 hl2=>?_)
     have hl:(pre++[d]).length=p+2:=by omega
     refine c305 h3 e2 hsz (fun c n H' hc h4=>?_) (fun q H' hc h4=>?_)
     ·rw [hl] at hc h4
      have hn:=(hexR_len hc).1
      subst hn
      simp only [x20,x21,ob_some,cnd_t]
      rw [c290]
      rw [f299_j39_eq]
      simp only [nil_Pt,ob_some,add_Pt,h4.st1]
      refine cnd_intro (fun h5=>?_) (fun h5=>?_)
      ·exact hbad p _ (by simp [escR,h1,h2,hc,h5]) (h4.set p)
      ·exact hok c 4 H' (by simp [escR,h1,h2,hc,h5]) h4
     ·rw [hl] at hc
      simp only [x20,x21,ob_some,cnd_f]
      rw [f299_j39_eq,cnd_f]
      exact hbad q H' (by simp [escR,h1,h2,hc]) h4
  have e39:binA Pg .eql 5 true (U8 d.toNat) (AV.raw (.int .u8 39))=some (B (decide (d.toNat=39))):=b_eq39 d 39 5 true
  have e92:binA Pg .eql 5 true (U8 d.toNat) (AV.raw (.int .u8 92))=some (B (decide (d.toNat=92))):=b_eq39 d 92 5 true
  rw [e39,ob_some]
  refine cnd_intro (fun h1=>j true (by simp at h1;simp [h1])) (fun h1=>?_)
  rw [e92,ob_some]
  exact j _ (by simp at h1;simp [h1])
/-- what one step of reading a quoted text says -/
theorem c281 (h:Sc H0 T b s pre.length H) (e:tx s=pre++r) (hsz:s.size≤1099511627776)
  (hend:∀ c r1 H',r=c::r1→c.toNat=39→Sc H0 T b s (pre.length+1) H'→Q (.tup [U8 0,B false,B true]) H')
  (hesc:∀ c r1 d n H',r=c::r1→c.toNat=92→escR pre.length r1=.ok d n→Sc H0 T b s (pre.length+n) H'→Q (.tup [byteA d,B true,B false]) H')
  (hpl:∀ c r1 H',r=c::r1→c.toNat ≠ 39→c.toNat ≠ 92→plainB c=true→Sc H0 T b s (pre.length+1) H'→Q (.tup [byteA c,B true,B false]) H')
  (hbad:∀ q H',(r=[]∧q=pre.length ∨ (∃ c r1,r=c::r1∧c.toNat=92∧escR pre.length r1=.bad q) ∨ (∃ c r1,r=c::r1∧c.toNat ≠ 39∧c.toNat ≠ 92∧plainB c=false∧q=pre.length))→Sc H0 T b s q H'→Q (.tup [U8 0,B false,B false]) H') :
  E 281 [Pt b] H Q:=by
 rw [f281_eq,c298 h]
 cases r with
 | nil=>rw [done_nil e,cnd_t];exact hbad _ H (.inl ⟨rfl,rfl⟩) h
 | cons c r =>
  have e39:binA Pg .eql 5 true (U8 c.toNat) (AV.raw (.int .u8 39))=some (B (decide (c.toNat=39))):=b_eq39 c 39 5 true
  have e92:binA Pg .eql 5 true (U8 c.toNat) (AV.raw (.int .u8 92))=some (B (decide (c.toNat=92))):=b_eq39 c 92 5 true
  rw [done_cons e,cnd_f]
  simp only [nil_Pt,ob_some,add_Pt,h.ld0,h.ld1,ixS s pre r c e,e39,e92]
  refine cnd_intro (fun h1=>?_) (fun h1=>?_)
  ·refine step1 h e hsz _ (fun H2 h2 e2 hl2=>?_)
   exact hend c r H2 rfl (by simpa using h1) (hl2 ▸ h2)
  ·have h1:c.toNat ≠ 39:=by simpa using h1
   refine cnd_intro (fun h3=>?_) (fun h3=>?_)
   ·have h3:c.toNat=92:=by simpa using h3
    refine step1 h e hsz _ (fun H2 h2 e2 hl2=>?_)
    refine c299 hl2 h2 e2 hsz (fun d n H' hd h4=>?_) (fun q H' hd h4=>?_)
    ·rw [x20,ob_some,x21,ob_some]
     exact hesc c r d n H' rfl h3 hd h4
    ·rw [x20,ob_some,x21,ob_some]
     exact hbad q H' (.inr (.inl ⟨c,r,rfl,h3,hd⟩)) h4
   ·have h3:c.toNat ≠ 92:=by simpa using h3
    have cp:∀ K:Post,E 290 [U8 c.toNat] H K=K (B (plainB c)) H:=fun K=>c290 c H K
    rw [cp]
    cases hp:plainB c with
    | true =>
     rw [cnd_t,h.ld1,ob_some]
     refine step1 h e hsz _ (fun H2 h2 e2 hl2=>?_)
     exact hpl c r H2 rfl h1 h3 hp (hl2 ▸ h2)
    | false =>
     rw [cnd_f]
     exact hbad _ H (.inr (.inr ⟨c,r,rfl,h1,h3,hp,rfl⟩)) h
def uqV:UQ→AV
 | .ok s n=>.tup [S (bs s),I n,I 0]
 | .bad n e=>.tup [S e0,I n,I e]
theorem c241 (l:List UInt8) (hl:l.length≤1099511627776) (H0:Heap) (Q:Post) (hq:∀ H',HExt H0 H'→Q (uqV (unq l)) H'):E 241 [S (bs l)] H0 Q:=by
 have loop:∀ (m:Nat) (r pre out:List UInt8) (sz:Nat) (nil:Bool) (tip:Tip) (b:Nat) (H:Heap) (T:Nat→Option Nat),r.length≤m→l=pre++r→Sc H0 T b (bs l) pre.length H→(nil=true ∨ sz=1)→OwnS H0 H 1 out.length tip→out.length≤pre.length →
   (∀ H',HExt H0 H'→Q (uqV (unqF pre.length out r)) H')→f241_l15 (Pt b) (.sl sz nil tip (out.map byteA)) H Q:=by
  intro m
  induction m with
  | zero =>
   intro r pre out sz nil tip b H T hm e h hn ho hol hq
   have hr:r=[]:=List.eq_nil_of_length_eq_zero (by omega)
   subst hr
   rw [f241_l15_eq]
   have e':tx (bs l)=pre++[]:=by rw [tx_bs];exact e
   refine c281 h e' (by rw [bs_size];exact hl) (fun c r1 H' hc=>by cases hc) (fun c r1 d n H' hc=>by cases hc) (fun c r1 H' hc=>by cases hc) (fun q H' hc h'=>?_)
   simp only [x3_0,x3_1,x3_2,ob_some,cnd_f]
   rcases hc with ⟨_,rfl⟩ | ⟨c,r1,hc,_⟩ | ⟨c,r1,hc,_⟩
   ·rw [f241_j23_eq,cnd_f,cnd_f,not_B,ob_some]
    simp only [Bool.not_false,cnd_t,nil_Pt,ob_some,add_Pt,h'.ld1]
    have:=hq H' h'.ext
    rw [unqF] at this;exact this
   ·cases hc
   ·cases hc
  | succ m ih =>
   intro r pre out sz nil tip b H T hm e h hn ho hol hq
   have e':tx (bs l)=pre++r:=by rw [tx_bs];exact e
   have hsz:(bs l).size≤1099511627776:=by rw [bs_size];exact hl
   have hpl:pre.length≤l.length:=by rw [e];simp
   have bad:∀ (q:Nat) (x:AV) (H':Heap),Sc H0 (tipT (out.length * 1) tip) b (bs l) q H'→(∀ H',HExt H0 H'→Q (.tup [S e0,I q,I 4]) H')→f241_j23 (Pt b) (.sl sz nil tip (out.map byteA)) x (B false) (B false) (B false) H' Q:=fun q x H' h' hq=>by
    rw [f241_j23_eq,cnd_f,cnd_f,not_B,ob_some]
    simp only [Bool.not_false,cnd_t,nil_Pt,ob_some,add_Pt,h'.ld1]
    exact hq H' h'.ext
   have push:∀ (c:UInt8) (r2:List UInt8) (n:Nat) (H':Heap),1≤n→r=(r.take n)++r2→n≤r.length→Sc H0 (tipT (out.length * 1) tip) b (bs l) (pre.length+n) H'→(∀ H',HExt H0 H'→Q (uqV (unqF (pre.length+n) (out++[c]) r2)) H') →
     f241_j23 (Pt b) (.sl sz nil tip (out.map byteA)) (byteA c) (B true) (B false) (B false) H' Q:=fun c r2 n H' hn1 hr2 hnr h' hq=>by
    have hm1:mkSlA 1 [byteA c]=_:=lit_bytes [c]
    rw [f241_j23_eq,cnd_f,cnd_f,not_B,ob_some,Bool.not_true,cnd_f,hm1,ob_some]
    refine app_b h'.ext (h'.own ho) hn (ys:=[c]) (by simp [tailA]) (by simp;omega) (fun s2 n2 t2 H2 hn2 ho2 he2 hobj=>?_)
    have hl2:(pre++r.take n).length=pre.length+n:=by simp;omega
    refine ih r2 (pre++r.take n) (out++[c]) s2 n2 t2 b H2 (fun _=>none) ?_ (by rw [List.append_assoc,← hr2];exact e) ⟨he2,h'.fr,by rw [hobj,hl2];exact h'.obj,fun _ _ h=>by cases h⟩ hn2 ho2 (by rw [hl2];simp;omega) (by rw [hl2];exact hq)
    have:=congrArg List.length hr2
    rw [List.length_append,List.length_take] at this;omega
   rw [f241_l15_eq]
   refine c281 (h.tip ho) e' hsz (fun c r1 H' hc h1 h'=>?_) (fun c r1 d n H' hc h1 hd h'=>?_) (fun c r1 H' hc h1 h3 hp h'=>?_) (fun q H' hc h'=>?_)
   ·simp only [x3_0,x3_1,x3_2,ob_some,cnd_t,len_sl,List.length_map,i_gtr]
    rw [f241_j23_eq]
    refine cnd_intro (fun h2=>?_) (fun h2=>?_)
    ·have:=hq H' h'.ext
     rw [hc,unqF.eq_def] at this
     simp only [h1,if_true] at this
     rw [if_pos (by simp at h2;omega)] at this
     exact this
    ·simp only [cnd_t,nil_Pt,ob_some,add_Pt,h'.ld1,apL]
     have:=hq H' h'.ext
     rw [hc,unqF.eq_def] at this
     simp only [h1,if_true] at this
     rw [if_neg (by simp at h2;omega)] at this
     exact ⟨hn,out,rfl,this⟩
   ·simp only [x3_0,x3_1,x3_2,ob_some,cnd_f]
    have hn2:=escR_len hd
    have hr1:r.length=r1.length+1:=by rw [hc];rfl
    refine push d (r1.drop (n - 1)) n H' (by omega) ?_ (by omega) h' (fun H2 h2=>?_)
    ·rw [hc]
     obtain ⟨k,rfl⟩:∃ k,n=k+1:=⟨n - 1,by omega⟩
     simp
    ·have:=hq H2 h2
     rw [hc,unqF.eq_def] at this
     simp only [h1,hd] at this
     simpa using this
   ·simp only [x3_0,x3_1,x3_2,ob_some,cnd_f]
    refine push c r1 1 H' (by omega) (by rw [hc];rfl) (by rw [hc];simp) h' (fun H2 h2=>?_)
    ·have:=hq H2 h2
     rw [hc,unqF.eq_def] at this
     simp only [if_neg h1,if_neg h3,hp,if_true] at this
     exact this
   ·simp only [x3_0,x3_1,x3_2,ob_some,cnd_f]
    refine bad q _ H' h' (fun H2 h2=>?_)
    have:=hq H2 h2
    rcases hc with ⟨hc,rfl⟩ | ⟨c,r1,hc,h1,hd⟩ | ⟨c,r1,hc,h1,h3,hp,rfl⟩
    ·rw [hc,unqF] at this;exact this
    ·rw [hc,unqF.eq_def] at this
     simp only [h1,hd] at this
     exact this
    ·rw [hc,unqF.eq_def] at this
     simp only [if_neg h1,if_neg h3,hp] at this
     exact this
 have nb:∀ x:Bool,x=!(decide (l.head?.map (·.toNat)=some 39))→f241_j5 (S (bs l)) (B x) H0 Q:=fun x hx=>by
  rw [f241_j5_eq]
  refine cnd_intro (fun h1=>?_) (fun h1=>?_)
  ·have:=hq H0 (HExt.refl H0)
   cases l with
   | nil=>exact this
   | cons c r =>
    have hc:c.toNat ≠ 39:=by rw [h1] at hx;simpa using hx.symm
    simp only [unq,if_neg hc] at this
    exact this
  ·cases l with
   | nil=>rw [h1] at hx;simp at hx
   | cons c r =>
    have hc:c.toNat=39:=by rw [h1] at hx;simpa using hx.symm
    have hbd:bldA [(0,1,S (bs (c::r))),(1,1,I 1)] [S ⟨#[]⟩,I 0]=some (.agg [S (bs (c::r)),I 1]):=rfl
    have hsd:sizedA 2 (.agg [S (bs (c::r)),I 1])=some [S (bs (c::r)),I 1]:=rfl
    rw [hbd,ob_some,hsd,ob_some]
    refine sc_new 1 (HExt.refl H0) (fun b H' h'=>?_)
    refine loop r.length r [c] [] 0 true .full b H' (fun _=>none) (Nat.le_refl _) rfl h' (.inl rfl) trivial (by simp) (fun H2 h2=>?_)
    have:=hq H2 h2
    simp only [unq,if_pos hc] at this
    exact this
 rw [f241_eq,s_eql,ob_some]
 refine cnd_intro (fun h1=>?_) (fun h1=>?_)
 ·have : l = [] := by have : bs l = bs [] := by simpa using h1
                      exact bs_inj.1 this
  subst this
  exact nb true rfl
 ·cases l with
  | nil=>simp at h1
  | cons c r =>
   have i0:ixA (S (bs (c::r))) (I 0)=some (U8 c.toNat):=ixS (bs (c::r)) [] r c (by rw [← tx_bs (c::r)];simp)
   have hne:binA Pg .neq 5 true (U8 c.toNat) (AV.raw (.int .u8 39))=some (B (!decide (c.toNat=39))):=by
    rw [k_neq]
    have:decide ((c.toNat:Int)=39)=decide (c.toNat=39):=by simp;omega
    rw [this]
   rw [i0,ob_some,hne,ob_some]
   exact nb _ (by simp)
end
end Go.Hx
namespace Go.Hx
def nextV (p:Nat):L1→AV
 | .tok k w n=>.tup [encK ⟨k,bs w,p⟩,I ((p+n:Nat):Int),I 0]
 | .bad n e=>.tup [zeroK,I ((p+n:Nat):Int),I e]
theorem encK_sz (t:Tk):sizedA 3 (encK t)=some [I t.k,S t.s,I t.p]:=rfl
theorem encK_sp (t:Tk):spliceA 0 [I t.k,S t.s,I t.p] [I 0,S ⟨#[]⟩,I 0]=some [I t.k,S t.s,I t.p]:=rfl
theorem encK_pt (t:Tk):partA true 0 3 [I t.k,S t.s,I t.p]=some (encK t):=rfl
theorem zK_b:bldA [] [I 0,S ⟨#[]⟩,I 0]=some zeroK:=rfl
theorem zK_sz:sizedA 3 zeroK=some [I 0,S ⟨#[]⟩,I 0]:=rfl
theorem zK_sp:spliceA 0 [I 0,S ⟨#[]⟩,I 0] [I 0,S ⟨#[]⟩,I 0]=some [I 0,S ⟨#[]⟩,I 0]:=rfl
theorem zK_pt:partA true 0 3 [I 0,S ⟨#[]⟩,I 0]=some zeroK:=rfl
section
variable {T:Nat→Option Nat} {H0 H:Heap} {b:Nat} {s:ByteArray} {pre r:List UInt8} {Q:Post}
def textL (r:List UInt8):L1:=match unq r with
 | .ok s n=>.tok 4 s n
 | .bad n e=>.bad n e
theorem unq_len {r s:List UInt8} {n:Nat} (h:unq r=.ok s n):s.length≤256∧1≤n∧n≤r.length:=by
 cases r with
 | nil=>cases h
 | cons c r =>
  simp only [unq] at h
  split at h
  ·have:=unqF_len _ _ _ r (Nat.le_refl _) _ _ h
   simp only [List.length_cons];omega
  ·cases h
theorem unq_bad:∀ (m p:Nat) (out r:List UInt8),r.length≤m→∀ n e,unqF p out r=.bad n e→n≤p+r.length∧e ≠ 0:=by
 intro m
 induction m with
 | zero =>
  intro p out r hr n e h
  cases r with
  | nil=>rw [unqF] at h;cases h;simp
  | cons c r=>simp at hr
 | succ m ih =>
  intro p out r hr n e h
  cases r with
  | nil=>rw [unqF] at h;cases h;simp
  | cons c r =>
   rw [unqF.eq_def] at h
   simp only [List.length_cons] at hr h ⊢
   split at h
   ·split at h
    ·cases h;simp
    ·cases h
   ·split at h
    ·split at h
     ·rename_i q hq
      cases h
      refine ⟨?_,by simp⟩
      cases r with
      | nil=>simp only [escR] at hq;cases hq;simp
      | cons d r =>
       simp only [escR] at hq
       split at hq
       ·cases hq
       ·split at hq
        ·cases hq;simp
        ·split at hq
         ·rename_i q' hq'
          cases hq
          cases r with
          | nil=>simp only [hexR] at hq';cases hq';simp
          | cons x r =>
           simp only [hexR] at hq'
           split at hq'
           ·cases hq';simp
           ·cases r with
            | nil=>simp only at hq';cases hq';simp
            | cons y r =>
             simp only at hq'
             split at hq'
             ·cases hq';simp;omega
             ·cases hq'
         ·split at hq
          ·cases hq;omega
          ·cases hq
     ·rename_i d k hd
      have h1:=escR_len hd
      have:=ih _ _ (r.drop (k - 1)) (by simp;omega) _ _ h
      simp only [List.length_drop] at this;omega
    ·split at h
     ·have:=ih _ _ r (by omega) _ _ h;omega
     ·cases h;simp
theorem unq_bad' {r:List UInt8} {n:Nat} {e:Int} (h:unq r=.bad n e):n≤r.length∧e ≠ 0:=by
 cases r with
 | nil=>cases h;simp
 | cons c r =>
  simp only [unq] at h
  split at h
  ·have:=unq_bad _ _ _ r (Nat.le_refl _) _ _ h
   simp only [List.length_cons];omega
  ·cases h;simp
theorem c174 (h:Sc H0 T b s pre.length H) (e:tx s=pre++r) (hsz:s.size≤1099511627776)
  (hq:∀ H' p,Sc H0 T b s p H'→(∀ k w n,textL r=.tok k w n→p=pre.length+n)→Q (nextV pre.length (textL r)) H'):E 174 [Pt b] H Q:=by
 have hb:=size_bound e
 rw [f174_eq]
 refine c242 h e ?_
 refine c241 r (by omega) H _ (fun H1 e1=>?_)
 have h1:=h.mono e1
 cases hu:unq r with
 | bad n er =>
  have hn:=unq_bad' hu
  have hne:decide (er=0)=false:=decide_eq_false hn.2
  have hw:W64 ((pre.length:Int)+(n:Int))=((pre.length+n:Nat):Int):=w64_add (by omega)
  simp only [uqV,x3_0,x3_1,x3_2,ob_some,i_neq,hne,Bool.not_false,cnd_t,nil_Pt,add_Pt,apL,h1.ld1,i_add,hw,zK_b,zK_sz,zK_sp,zK_pt]
  have:=hq H1 pre.length h1
  simp only [textL,hu] at this
  exact this (fun _ _ _ h=>by cases h)
 | ok w n =>
  have hn:=unq_len hu
  have hw:W64 ((pre.length:Int)+(n:Int))=((pre.length+n:Nat):Int):=w64_add (by omega)
  have hbd:bldA [(0,1,I 4),(1,1,S (bs w)),(2,1,I pre.length)] [I 0,S ⟨#[]⟩,I 0]=some (encK ⟨4,bs w,pre.length⟩):=rfl
  have hne:(!decide ((0:Int)=0))=false:=rfl
  have es:=encK_sz ⟨4,bs w,pre.length⟩
  have ep:=encK_sp ⟨4,bs w,pre.length⟩
  have et:=encK_pt ⟨4,bs w,pre.length⟩
  have h2:=h1.set (pre.length+n)
  simp only [uqV,x3_0,x3_1,x3_2,ob_some,i_neq,hne,cnd_f,nil_Pt,add_Pt,apL,h1.ld1,i_add,hw,hbd,es,ep,et,h1.st1,h2.ld1]
  have:=hq _ _ h2
  simp only [textL,hu] at this
  exact this (fun _ _ _ h=>by cases h;rfl)
theorem cv32 (c:UInt8):cvtIA .i32 (U8 c.toNat)=some (R32 c.toNat):=by
 have:∀ n:Fin 256,IntKind.i32.wrap (n.1:Int)=(n.1:Int):=by decide +kernel
 have:=this ⟨c.toNat,byte_lt c⟩
 show some (AV.raw (.int .i32 (IntKind.i32.wrap _)))=_
 rw [this]
/-- behind what tells whether there is a token -/
theorem lexN {L:L1} {p:Nat} {H':Heap} (h':Sc H0 T b s (p+resN L) H') (hL:∀ n e,L=.bad n e→n=0∧e=4) (hq:∀ p',Sc H0 T b s p' H'→(∀ k w n,L=.tok k w n→p'=p+n)→Q (nextV p L) H') :
  ob (extractA (resV p L) 0) fun r29=>ob (extractA (resV p L) 1) fun r31=>ob (sizedA 3 r29) fun b33=>ob (spliceA 0 b33 [I 0,S ⟨#[]⟩,I 0]) fun b34=>ob (unA .not r31) fun r35=>cndA r35 (ob (bldA [] [I 0,S ⟨#[]⟩,I 0]) fun r36=>ob (sizedA 3 r36) fun b37=>ob (spliceA 0 b37 [I 0,S ⟨#[]⟩,I 0]) fun b38=>ob (partA true 0 3 b38) fun r39=>Q (.tup [r39,I p,I 4]) H')
   (ob (partA true 0 3 b34) fun r40=>ob (nilA (Pt b)) fun r41=>ob (addPA r41 1) fun r42=>apL r42 [] (ob (ldH H' false 1 r42) fun r43=>ob (sizedA 3 r40) fun b44=>ob (spliceA 0 b44 [I 0,S ⟨#[]⟩,I 0]) fun b45=>ob (partA true 0 3 b45) fun r46=>Q (.tup [r46,r43,I 0]) H')):=by
 cases L with
 | bad n e =>
  obtain ⟨rfl,rfl⟩:=hL n e rfl
  have:unA .not (B false)=some (B true):=rfl
  simp only [resV,x20,x21,ob_some,zK_b,zK_sz,zK_sp,zK_pt,this,cnd_t]
  exact hq _ h' (fun _ _ _ h=>by cases h)
 | tok k w n =>
  have:unA .not (B true)=some (B false):=rfl
  have es:=encK_sz ⟨k,bs w,p⟩
  have ep:=encK_sp ⟨k,bs w,p⟩
  have et:=encK_pt ⟨k,bs w,p⟩
  simp only [resN] at h'
  simp only [resV,x20,x21,ob_some,es,ep,et,this,cnd_f,nil_Pt,add_Pt,apL,h'.ld1]
  exact hq _ h' (fun _ _ _ h=>by cases h;rfl)
theorem wordT_bad {k:Int} {p:UInt8→Bool} {r:List UInt8}:∀ n e,wordT k p r=.bad n e→n=0∧e=4:=by
 intro n e h;simp only [wordT] at h;split at h<;>cases h;exact ⟨rfl,rfl⟩
theorem intT_bad {r:List UInt8}:∀ n e,intT r=.bad n e→n=0∧e=4:=by
 intro n e h;simp only [intT] at h;split at h<;>cases h;exact ⟨rfl,rfl⟩
theorem signF_bad {r:List UInt8}:∀ n e,signF r=.bad n e→n=0∧e=4:=by
 intro n e h;simp only [signF] at h;split at h<;>cases h;exact ⟨rfl,rfl⟩
/-- the next token -/
theorem c105 {c:UInt8} (h:Sc H0 T b s pre.length H) (e:tx s=pre++c::r) (hsz:s.size≤1099511627776)
  (hq:∀ H' p,Sc H0 T b s p H'→(∀ k w n,lex1 (c::r)=.tok k w n→p=pre.length+n)→Q (nextV pre.length (lex1 (c::r))) H'):E 105 [Pt b] H Q:=by
 have z:([I 0,S ⟨#[]⟩,I 0]:List AV)=[I 0,S ⟨#[]⟩,I 0]:=rfl
 rw [f105_eq]
 simp only [nil_Pt,ob_some,add_Pt,h.ld0,h.ld1,ixS s pre r c e,cv32]
 have e39:binA Pg .eql 21 true (R32 c.toNat) (AV.raw (.int .i32 39))=some (B (decide (c.toNat=39))):=by
  rw [k_eql]
  have:decide ((c.toNat:Int)=39)=decide (c.toNat=39):=by simp;omega
  rw [this]
 rw [e39,ob_some]
 refine cnd_intro (fun h1=>?_) (fun h1=>?_)
 ·have h1:c.toNat=39:=by simpa using h1
  refine c174 h e hsz (fun H' p h' hp=>?_)
  have hl:lex1 (c::r)=textL (c::r):=by simp only [lex1,textL,if_pos h1]<;>cases unq (c::r)<;>rfl
  have:=hq H' p h' (by rw [hl];exact hp)
  rw [hl] at this
  cases hL:textL (c::r) with
  | bad n er =>
   rw [hL] at this
   simp only [nextV,x3_0,x3_1,x3_2,ob_some,zK_sz,zK_sp,zK_pt];exact this
  | tok k w n =>
   have es:=encK_sz ⟨k,bs w,pre.length⟩
   have ep:=encK_sp ⟨k,bs w,pre.length⟩
   have et:=encK_pt ⟨k,bs w,pre.length⟩
   rw [hL] at this
   simp only [nextV,x3_0,x3_1,x3_2,ob_some,es,ep,et];exact this
 ·have h1:c.toNat ≠ 39:=by simpa using h1
  have u:uppI (c.toNat:Nat)=uppB c:=rfl
  have l:lowI (c.toNat:Nat)=lowB c:=rfl
  have d:digI (c.toNat:Nat)=digB c:=rfl
  have j55:∀ (k:Int) (x:Bool),(x=true→k=2 ∨ k=3)→(∀ L,L=(if x=true then (if k=2 then wordT 2 signB (c::r) else intT (c::r)) else signF (c::r))→∀ H' p,Sc H0 T b s p H'→(∀ k w n,L=.tok k w n→p=pre.length+n)→Q (nextV pre.length L) H') →
    f105_j55 (Pt b) [I 0,S ⟨#[]⟩,I 0] (I k) (I pre.length) [I 0,S ⟨#[]⟩,I 0] (B x) H Q:=fun k x hk hq=>by
   rw [f105_j55_eq]
   refine cnd_intro (fun h2=>?_) (fun h2=>?_)
   ·subst h2
    rcases hk rfl with rfl | rfl
    ·refine c178_w h e hsz 2 (.inr rfl) (fun H' h'=>?_)
     have e2:(if (2:Int)=1 then uppB else signB)=signB:=rfl
     rw [e2] at h' ⊢
     exact lexN h' wordT_bad (fun p' h2 h3=>hq _ rfl H' p' h2 h3)
    ·refine c178_n h e hsz (by simp) (fun H' h'=>?_)
     exact lexN h' intT_bad (fun p' h2 h3=>hq _ rfl H' p' h2 h3)
   ·subst h2
    refine c179 h e hsz (fun H' h'=>?_)
    exact lexN h' signF_bad (fun p' h2 h3=>hq _ rfl H' p' h2 h3)
  have k1:decide ((1:Int)=1)=true:=rfl
  have k21:decide ((2:Int)=1)=false:=rfl
  have k31:decide ((3:Int)=1)=false:=rfl
  have k51:decide ((5:Int)=1)=false:=rfl
  have k22:decide ((2:Int)=2)=true:=rfl
  have k32:decide ((3:Int)=2)=false:=rfl
  have k52:decide ((5:Int)=2)=false:=rfl
  have k33:decide ((3:Int)=3)=true:=rfl
  have k53:decide ((5:Int)=3)=false:=rfl
  rw [c175,u]
  refine cnd_intro (fun h2=>?_) (fun h2=>?_)
  ·rw [f105_j27_eq]
   simp only [nil_Pt,ob_some,add_Pt,h.ld1,i_eql,k1,cnd_t]
   refine c178_w h e hsz 1 (.inl rfl) (fun H' h'=>?_)
   have e2:(if (1:Int)=1 then uppB else signB)=uppB:=rfl
   rw [e2] at h' ⊢
   have hl:lex1 (c::r)=wordT 1 uppB (c::r):=by simp only [lex1,if_neg h1,if_pos h2]
   exact lexN h' wordT_bad (fun p' h2 h3=>by rw [← hl];exact hq H' p' h2 (by rw [hl];exact h3))
  ·rw [c176,l]
   refine cnd_intro (fun h3=>?_) (fun h3=>?_)
   ·rw [f105_j27_eq]
    simp only [nil_Pt,ob_some,add_Pt,h.ld1,i_eql,k21,cnd_f,k22,cnd_t]
    have hl:lex1 (c::r)=wordT 2 signB (c::r):=by simp only [lex1,if_neg h1,h2,h3,if_true];rfl
    exact j55 2 true (fun _=>.inl rfl) (fun L hL H' p h' hp=>by
     have:L=lex1 (c::r):=by rw [hl,hL];rfl
     subst this;exact hq H' p h' hp)
   ·rw [c177,d]
    refine cnd_intro (fun h4=>?_) (fun h4=>?_)
    ·rw [f105_j27_eq]
     simp only [nil_Pt,ob_some,add_Pt,h.ld1,i_eql,k31,cnd_f,k32,k33]
     have hl:lex1 (c::r)=intT (c::r):=by simp only [lex1,if_neg h1,h2,h3,h4,if_true];rfl
     exact j55 3 true (fun _=>.inr rfl) (fun L hL H' p h' hp=>by
      have:L=lex1 (c::r):=by rw [hl,hL];rfl
      subst this;exact hq H' p h' hp)
    ·rw [f105_j27_eq]
     simp only [nil_Pt,ob_some,add_Pt,h.ld1,i_eql,k51,cnd_f,k52,k53]
     have hl:lex1 (c::r)=signF (c::r):=by simp only [lex1,if_neg h1,h2,h3,h4];rfl
     exact j55 5 false (fun h=>by cases h) (fun L hL H' p h' hp=>by
      have:L=lex1 (c::r):=by rw [hl,hL];rfl
      subst this;exact hq H' p h' hp)
/-- what is blank is passed -/
theorem c104 (hsz:s.size≤1099511627776):∀ (r pre:List UInt8) (H:Heap) (Q:Post),Sc H0 T b s pre.length H→tx s=pre++r →
  (∀ H' w r1,r=w++r1→w.all blankB=true→(∀ c r2,r1=c::r2→blankB c=false)→Sc H0 T b s (pre++w).length H'→Q (.tup []) H')→f104_l1 (Pt b) H Q:=by
 intro r
 induction r with
 | nil =>
  intro pre H Q h e hq
  have hb:=size_bound e
  rw [f104_l1_eq]
  have hlt:decide ((pre.length:Int) < (s.size:Int))=false:=by simp at hb ⊢;omega
  simp only [nil_Pt,ob_some,add_Pt,h.ld0,h.ld1,len_S,i_lss,hlt,cnd_f]
  rw [f104_j5_eq,cnd_f]
  exact hq H [] [] rfl rfl (fun _ _ h=>by cases h) (by simpa using h)
 | cons c r ih =>
  intro pre H Q h e hq
  have hb:=size_bound e
  simp only [List.length_cons] at hb
  rw [f104_l1_eq]
  have hlt:decide ((pre.length:Int) < (s.size:Int))=true:=by simp;omega
  simp only [nil_Pt,ob_some,add_Pt,h.ld0,h.ld1,len_S,i_lss,hlt,cnd_t,ixS s pre r c e]
  rw [c173,f104_j5_eq]
  refine cnd_intro (fun h1=>?_) (fun h1=>?_)
  ·simp only [nil_Pt,ob_some,add_Pt,h.ld1]
   refine step1 h e hsz _ (fun H2 h2 e2 hl2=>?_)
   refine ih (pre++[c]) H2 Q h2 e2 (fun H' w r1 hr hw hb h'=>?_)
   exact hq H' (c::w) r1 (by rw [hr];rfl) (by simp [h1,hw]) hb (by rw [List.append_assoc] at h';exact h')
  ·exact hq H [] (c::r) rfl rfl (fun c' r2 h=>by cases h;exact h1) (by simpa using h)
end
theorem lexW_blank:∀ (w:List UInt8) (p:Nat) (r:List UInt8),w.all blankB=true→lexW p (w++r)=lexW (p+w.length) r:=by
 intro w
 induction w with
 | nil=>intro p r _;rfl
 | cons c w ih =>
  intro p r h
  simp only [List.all_cons,Bool.and_eq_true] at h
  rw [List.cons_append,lexW,if_pos h.1,ih _ _ h.2,List.length_cons]
  congr 1;omega
def allV (sz:Nat) (v:AV):Except (Nat × Int) (List Tk)→Prop
 | .error (p,e)=>v=.tup [.sl 0 true .full [],I p,I e]
 | .ok l=>∃ s' n' t',v=.tup [.sl s' n' t' (l.map encK),I sz,I 0]∧(n'=true ∨ s'=3)
theorem lex1_len {c:UInt8} {r w:List UInt8} {k:Int} {n:Nat} (h:lex1 (c::r)=.tok k w n):1≤n∧n≤(c::r).length∧k ≠ 6:=by
 simp only [lex1] at h
 split at h
 ·split at h
  ·rename_i hu;cases h;have:=unq_len hu;exact ⟨this.2.1,this.2.2,by decide⟩
  ·cases h
 ·have tw:∀ (p:UInt8→Bool),p c=true→1≤((c::r).takeWhile p).length:=fun p hp=>by simp [List.takeWhile_cons,hp]
  split at h
  ·rename_i hu
   simp only [wordT] at h
   split at h
   ·cases h
   ·cases h;exact ⟨tw _ hu,tw_le _ _,by decide⟩
  ·split at h
   ·rename_i hu
    simp only [wordT] at h
    split at h
    ·cases h
    ·cases h;exact ⟨tw _ (by show signI _=true;simp only [signI];rw [show lowI (c.toNat:Nat)=lowB c from rfl,hu];rfl),tw_le _ _,by decide⟩
   ·split at h
    ·rename_i hu
     simp only [intT] at h
     split at h
     ·cases h
     ·cases h;exact ⟨tw _ hu,tw_le _ _,by decide⟩
    ·simp only [signF] at h
     split at h
     ·cases h
     ·rename_i w' hw
      cases h
      have hp:=List.find?_some hw
      have hm:=List.mem_of_find?_eq_some hw
      simp only [pre?,Bool.and_eq_true,decide_eq_true_eq] at hp
      refine ⟨?_,hp.1,by decide⟩
      have:∀ w ∈ signW,1≤w.length:=by decide
      exact this _ hm
theorem lex1_bad {c:UInt8} {r:List UInt8} {n:Nat} {e:Int} (h:lex1 (c::r)=.bad n e):n≤(c::r).length∧e ≠ 0:=by
 simp only [lex1] at h
 split at h
 ·split at h
  ·cases h
  ·rename_i hu;cases h;exact unq_bad' hu
 ·split at h
  ·have:=wordT_bad _ _ h;simp [this]
  ·split at h
   ·have:=wordT_bad _ _ h;simp [this]
   ·split at h
    ·have:=intT_bad _ _ h;simp [this]
    ·have:=signF_bad _ _ h;simp [this]
theorem app_obj {H0 H:Heap} {sz sz' bytes:Nat} {nil nil2:Bool} {tip tip2:Tip} {xs ys:List AV} {K:Post} (he:HExt H0 H) (ho:OwnS H0 H sz xs.length tip) (hs:nil=true ∨ sz'=sz) (h1:1≤sz)
  (hb:(xs.length+ys.length) * bytes≤140737488355328) (hk:∀ s' n' tip' H',(n'=true ∨ s'=sz)→HExt H0 H'→H'.objs=H.objs→OwnS H0 H' sz (xs++ys).length tip'→K (.sl s' n' tip' (xs++ys)) H') :
  appA sz bytes (.sl sz' nil tip xs) (.sl sz nil2 tip2 ys) H K:=by
 have ht:tailA sz (.sl sz nil2 tip2 ys)=some ys:=by simp [tailA]
 unfold appA
 simp only [ht]
 cases ys with
 | nil=>have:=hk sz' nil tip H hs he rfl (by simpa using ho);simpa using this
 | cons y ys =>
  refine ⟨hs,h1,hb,?_⟩
  cases tip with
  | any=>exact ho.elim
  | full =>
   intro b hf
   exact hk sz false _ _ (.inr rfl) (he.setTip (he.fresh hf) _) rfl ⟨by simp [Heap.setTip],he.fresh hf⟩
  | tip b0 =>
   refine ⟨ho.1,fun b hf=>?_⟩
   have hf0:H0.fresh b:=by
    rcases hf with rfl | hf
    ·exact ho.2
    ·exact he.fresh hf
   exact hk sz false _ _ (.inr rfl) (he.setTip hf0 _) rfl ⟨by simp [Heap.setTip],hf0⟩
theorem c47 (s:ByteArray) (hsz:s.size≤1099511627776) (H0:Heap) (Q:Post) (hq:∀ v H',allV s.size v (lexA s)→HExt H0 H'→Q v H'):E 47 [S s] H0 Q:=by
 rw [f47_eq,len_S,ob_some,i_gtr,ob_some]
 refine cnd_intro (fun h1=>?_) (fun h1=>?_)
 ·refine hq _ H0 ?_ (HExt.refl H0)
  rw [lexA,if_pos (by simp at h1;omega)];rfl
 have hsz2:s.size≤8192:=by simp at h1;omega
 have hq:∀ v H',allV s.size v (lexW 0 (tx s))→HExt H0 H'→Q v H':=by rw [lexA,if_neg (by omega)] at hq;exact hq
 have hbd:bldA [(0,1,S s)] [S ⟨#[]⟩,I 0]=some (.agg [S s,I 0]):=rfl
 have hsd:sizedA 2 (.agg [S s,I 0])=some [S s,I 0]:=rfl
 rw [hbd,ob_some,hsd,ob_some]
 refine sc_new 0 (HExt.refl H0) (fun b H1 h1=>?_)
 have enter:∀ (T:Nat→Option Nat) (r pre:List UInt8) (H:Heap) (K:Heap→Prop),Sc H0 T b s pre.length H→tx s=pre++r→(∀ H' pre' r',tx s=pre'++r'→lexW pre.length r=lexW pre'.length r'→r'.length≤r.length→(∀ c r2,r'=c::r2→blankB c=false)→Sc H0 T b s pre'.length H'→K H')→E 104 [Pt b] H (fun _ H=>K H):=fun T r pre H K h e hk=>by
  rw [f104_eq]
  refine c104 hsz r pre H _ h e (fun H' w r1 hr hw hb h'=>?_)
  refine hk H' (pre++w) r1 (by rw [e,hr,List.append_assoc]) (by rw [hr,lexW_blank w _ _ hw,List.length_append]) (by rw [hr];simp) hb h'
 have loop:∀ (m:Nat) (r pre:List UInt8) (out:List Tk) (s':Nat) (n':Bool) (t':Tip) (H:Heap),r.length≤m→Sc H0 (tipT (out.length * 3) t') b s pre.length H→tx s=pre++r→(∀ c r2,r=c::r2→blankB c=false)→(n'=true ∨ s'=3)→OwnS H0 H 3 out.length t'→out.length≤pre.length →
   (∀ v H',allV s.size v (match lexW pre.length r with | .error x=>.error x | .ok l=>.ok (out++l))→HExt H0 H'→Q v H')→f47_l18 (S s) (Pt b) (.sl s' n' t' (out.map encK)) H Q:=by
  intro m
  induction m with
  | zero =>
   intro r pre out s' n' t' H hm h e hbl hn ho hol hq
   have hr:r=[]:=List.eq_nil_of_length_eq_zero (by omega)
   subst hr
   have hb:=size_bound e
   have hlt:decide ((pre.length:Int) < (s.size:Int))=false:=by simp at hb ⊢;omega
   have hbd:bldA [(0,1,I 6),(2,1,I s.size)] [I 0,S ⟨#[]⟩,I 0]=some (encK ⟨6,e0,s.size⟩):=rfl
   have hmk:mkSlA 3 [encK ⟨6,e0,s.size⟩]=some (.sl 3 false .full [encK ⟨6,e0,s.size⟩]):=rfl
   have hp:pre.length=s.size:=by simpa using hb
   rw [f47_l18_eq]
   simp only [nil_Pt,ob_some,add_Pt,h.ld1,len_S,i_lss,hlt,cnd_f,hbd,hmk]
   refine app_obj (bytes:=32) (xs:=out.map encK) (ys:=[encK ⟨6,e0,s.size⟩]) h.ext (by rw [List.length_map];exact ho) hn (by omega) (by simp only [List.length_map,List.length_singleton];omega) (fun s2 n2 t2 H2 hn2 e2 _ ho2=>?_)
   refine hq _ H2 ?_ e2
   rw [lexW,hp]
   exact ⟨s2,n2,t2,by simp,hn2⟩
  | succ m ih =>
   intro r pre out s' n' t' H hm h e hbl hn ho hol hq
   cases r with
   | nil=>exact ih [] pre out s' n' t' H (by simp) h e (fun _ _ h=>by cases h) hn ho hol hq
   | cons c r =>
    have hb:=size_bound e
    simp only [List.length_cons] at hb hm
    have hlt:decide ((pre.length:Int) < (s.size:Int))=true:=by simp;omega
    have hnb:blankB c=false:=hbl c r rfl
    rw [f47_l18_eq]
    simp only [nil_Pt,ob_some,add_Pt,h.ld1,len_S,i_lss,hlt,cnd_t]
    refine c105 h e hsz (fun H2 p h2 hp=>?_)
    cases hL:lex1 (c::r) with
    | bad n er =>
     have hn:=lex1_bad hL
     have hne:decide (er=0)=false:=decide_eq_false hn.2
     simp only [nextV,x3_0,x3_1,x3_2,ob_some,zK_sz,zK_sp,i_neq,hne,Bool.not_false,cnd_t]
     refine hq _ H2 ?_ h2.ext
     rw [lexW,if_neg (by rw [hnb];decide)]
     simp only [hL]
     rfl
    | tok k w n =>
     have hn1:=lex1_len hL
     have hp:=hp k w n hL
     subst hp
     have hne:(!decide ((0:Int)=0))=false:=rfl
     have es:=encK_sz ⟨k,bs w,pre.length⟩
     have ep:=encK_sp ⟨k,bs w,pre.length⟩
     have et:=encK_pt ⟨k,bs w,pre.length⟩
     have hmk:mkSlA 3 [encK ⟨k,bs w,pre.length⟩]=some (.sl 3 false .full [encK ⟨k,bs w,pre.length⟩]):=rfl
     simp only [nextV,x3_0,x3_1,x3_2,ob_some,es,ep,i_neq,decide_true,Bool.not_true,cnd_f,et,hmk]
     have ho2:=h2.own ho
     refine app_obj (bytes:=32) (xs:=out.map encK) (ys:=[encK ⟨k,bs w,pre.length⟩]) h2.ext (by rw [List.length_map];exact ho2) hn (by omega) (by simp only [List.length_map,List.length_singleton];omega) (fun s3 n3 t3 H3 hn3 e3 hobj ho3=>?_)
     have hxs:out.map encK++[encK ⟨k,bs w,pre.length⟩]=(out++[(⟨k,bs w,pre.length⟩:Tk)]).map encK:=by simp
     rw [hxs] at ho3 ⊢
     rw [List.length_map] at ho3
     have hdr:(c::r).drop n=r.drop (n - 1):=by
      obtain ⟨j,rfl⟩:∃ j,n=j+1:=⟨n - 1,by omega⟩
      simp
     have hsp:c::r=(c::r).take n++r.drop (n - 1):=by rw [← hdr,List.take_append_drop]
     have hpl:(pre++(c::r).take n).length=pre.length+n:=by rw [List.length_append,List.length_take];omega
     have h3:Sc H0 (fun _=>none) b s (pre++(c::r).take n).length H3:=⟨e3,h2.fr,by rw [hobj,hpl];exact h2.obj,fun _ _ h=>by cases h⟩
     refine enter _ (r.drop (n - 1)) (pre++(c::r).take n) H3 _ (h3.tip ho3) (by rw [List.append_assoc,← hsp];exact e) (fun H4 pre' r' e4 hlw hrl hb4 h4=>?_)
     have hlw':lexW pre.length (c::r)=match lexW pre'.length r' with | .error x=>.error x | .ok l=>.ok (⟨k,bs w,pre.length⟩::l):=by
      rw [lexW,if_neg (by rw [hnb];decide)]
      simp only [hL]
      rw [← hpl,hlw]<;>cases lexW pre'.length r'<;>rfl
     refine ih r' pre' (out++[(⟨k,bs w,pre.length⟩:Tk)]) s3 n3 t3 H4 (by simp only [List.length_drop] at hrl;omega) h4 e4 hb4 hn3 (h4.own ho3) ?_ (fun v H5 hv h5=>?_)
     ·have hb':=size_bound e4
      have:r'.length≤r.length - (n - 1):=by simpa using hrl
      rw [List.length_append,List.length_singleton]
      omega
     ·refine hq v H5 ?_ h5
      rw [hlw']
      cases hx:lexW pre'.length r' with
      | error x=>rw [hx] at hv;exact hv
      | ok l=>rw [hx] at hv;simpa using hv
 refine enter _ (tx s) [] H1 _ h1 rfl (fun H2 pre' r' e2 hlw hrl hb2 h2=>?_)
 refine loop r'.length r' pre' [] 0 true .full H2 (Nat.le_refl _) (h2.tip (sz:=3) (n:=0) (tip:=.full) trivial) e2 hb2 (.inl rfl) trivial (by simp) (fun v H3 hv h3=>?_)
 refine hq v H3 ?_ h3
 have hlw:lexW 0 (tx s)=lexW pre'.length r':=hlw
 rw [hlw]
 cases hx:lexW pre'.length r' with
 | error x=>rw [hx] at hv;exact hv
 | ok l=>rw [hx] at hv;simpa using hv
/-- a reader stands before what is left -/
def RS (b:Nat) (r:List Tk) (H:Heap):Prop:=∃ (L:List Tk) (i:Nat) (s':Nat) (n':Bool) (t':Tip),H.objs b=some (.cells [.sl s' n' t' (L.map encK),I i])∧L.drop i=r∧L.length≤1048576
theorem RS.mono {b:Nat} {r:List Tk} {H H':Heap} (h:RS b r H) (he:HExt H H'):RS b r H':=by
 obtain ⟨L,i,s',n',t',h1,h2⟩:=h
 exact ⟨L,i,s',n',t',he.obj h1,h2⟩
def newV (v:AV) (H:Heap) (sz:Nat):Except (Nat × Int) (List Tk)→Prop
 | .error (p,e)=>v=.tup [.raw (.pointer none),I p,I e]
 | .ok l=>∃ b,v=.tup [Pt b,I sz,I 0]∧RS b l H
theorem lexW_len:∀ (m p:Nat) (r:List UInt8),r.length≤m→∀ l,lexW p r=.ok l→l.length≤r.length+1∧endsT l:=by
 intro m
 induction m with
 | zero =>
  intro p r hr l h
  have:r=[]:=List.eq_nil_of_length_eq_zero (by omega)
  subst this
  rw [lexW] at h;cases h;exact ⟨by simp,rfl⟩
 | succ m ih =>
  intro p r hr l h
  cases r with
  | nil=>rw [lexW] at h;cases h;exact ⟨by simp,rfl⟩
  | cons c r =>
   rw [lexW] at h
   simp only [List.length_cons] at hr ⊢
   split at h
   ·have:=ih _ r (by omega) _ h;exact ⟨by omega,this.2⟩
   ·split at h
    ·cases h
    ·rename_i k w n hL
     have hn:=lex1_len hL
     split at h
     ·cases h
     ·rename_i l' hl'
      cases h
      have:=ih _ (r.drop (n - 1)) (by simp;omega) _ hl'
      simp only [List.length_drop] at this
      refine ⟨by simp;omega,?_⟩
      cases l' with
      | nil=>exact this.2.elim
      | cons t l'=>exact ⟨hn.2.2,this.2⟩
theorem lexA_len {s:ByteArray} {l:List Tk} (h:lexA s=.ok l):l.length≤8193∧endsT l:=by
 simp only [lexA] at h
 split at h
 ·cases h
 ·have hs:(tx s).length=s.size:=size_list s
  have:=lexW_len _ _ (tx s) (Nat.le_refl _) _ h
  exact ⟨by omega,this.2⟩
theorem lexW_bad:∀ (m p:Nat) (r:List UInt8),r.length≤m→∀ q e,lexW p r=.error (q,e)→q≤p+r.length∧e ≠ 0:=by
 intro m
 induction m with
 | zero =>
  intro p r hr l e h
  have:r=[]:=List.eq_nil_of_length_eq_zero (by omega)
  subst this
  rw [lexW] at h;cases h
 | succ m ih =>
  intro p r hr q e h
  cases r with
  | nil=>rw [lexW] at h;cases h
  | cons c r =>
   rw [lexW] at h
   simp only [List.length_cons] at hr ⊢
   split at h
   ·have:=ih _ r (by omega) _ _ h;exact ⟨by omega,this.2⟩
   ·split at h
    ·rename_i n e' hL
     cases h
     have:=lex1_bad hL
     simp only [List.length_cons] at this
     exact ⟨by omega,this.2⟩
    ·rename_i k w n hL
     have hn:=lex1_len hL
     simp only [List.length_cons] at hn
     split at h
     ·rename_i x hx
      cases h
      have:=ih _ (r.drop (n - 1)) (by simp;omega) _ _ hx
      simp only [List.length_drop] at this
      exact ⟨by omega,this.2⟩
     ·cases h
theorem lexA_bad {s:ByteArray} {q:Nat} {e:Int} (h:lexA s=.error (q,e)):q≤s.size∧e ≠ 0:=by
 simp only [lexA] at h
 split at h
 ·cases h;simp
 ·have hs:(tx s).length=s.size:=size_list s
  have:=lexW_bad _ _ (tx s) (Nat.le_refl _) _ _ h
  exact ⟨by omega,this.2⟩
theorem c16 (s:ByteArray) (hsz:s.size≤1099511627776) (H0:Heap) (Q:Post) (hq:∀ v H',newV v H' s.size (lexA s)→HExt H0 H'→(∀ b w,v=.tup [Pt b,w,I 0]→H0.fresh b)→Q v H'):E 16 [S s] H0 Q:=by
 rw [f16_eq]
 refine c47 s hsz H0 _ (fun v H1 hv h1=>?_)
 cases hl:lexA s with
 | error x =>
  obtain ⟨p,e⟩:=x
  rw [hl] at hv hq
  have hv:v=.tup [.sl 0 true .full [],I p,I e]:=hv
  subst hv
  have hne:decide (e=0)=false:=decide_eq_false (lexA_bad hl).2
  simp only [x3_0,x3_1,x3_2,ob_some,i_neq,hne,Bool.not_false,cnd_t]
  exact hq _ H1 rfl h1 (fun b w h=>by cases h)
 | ok l =>
  rw [hl] at hv hq
  obtain ⟨s',n',t',rfl,hn⟩:=hv
  have hne:(!decide ((0:Int)=0))=false:=rfl
  have hbd:bldA [(0,1,.sl s' n' t' (l.map encK))] [.sl 0 true .full [],I 0]=some (.agg [.sl s' n' t' (l.map encK),I 0]):=rfl
  have hsd:sizedA 2 (.agg [.sl s' n' t' (l.map encK),I 0])=some [.sl s' n' t' (l.map encK),I 0]:=rfl
  simp only [x3_0,x3_1,x3_2,ob_some,i_neq,decide_true,Bool.not_true,cnd_f,hbd,hsd]
  intro b hb
  have:=lexA_len hl
  refine hq _ _ ⟨b,rfl,l,0,s',n',t',setObj_same _ _ _,rfl,by omega⟩ (h1.setObj (h1.fresh hb) _) (fun b' w h=>?_)
  have:b=b':=by
   have:Pt b=Pt b':=by injection h with h;injection h
   simpa [Pt] using this
  exact this ▸ h1.fresh hb
end Go.Hx
namespace Go.Hx
def negN (a:Int):Int × Int:=if a=-9223372036854775808 then (0,10) else (W64 (0 - a),0)
def subN (a b:Int):Int × Int:=if bitsI .xor .i64 a b < 0∧bitsI .xor .i64 a (W64 (a - b)) < 0 then (0,10) else (W64 (a - b),0)
def signN (a:Int):Int:=if a < 0 then -1 else if 0 < a then 1 else 0
def mulN (a b:Int):Int × Int :=
 if W64 (signN a * signN b)=1 then
  (if (0 < a∧W64 ((9223372036854775807:Int).tdiv a) < b) ∨ (a < 0∧b < W64 ((9223372036854775807:Int).tdiv a)) then (0,10) else (W64 (a * b),0))
 else if W64 (signN a * signN b)=-1 then
  (if (0 < a∧b < W64 ((-9223372036854775808:Int).tdiv a)) ∨ (0 < b∧a < W64 ((-9223372036854775808:Int).tdiv b)) then (0,10) else (W64 (a * b),0))
 else (0,0)
def encN (p:Int × Int):AV:=.tup [I p.1,I p.2]
theorem c295 (a:Int) (H:Heap) (Q:Post):E 295 [I a] H Q=Q (encN (negN a)) H:=by
 simp only [f295_eq,i_eql,ob_some,cnd_B,decide_eq_true_eq,neg_I,negN]
 split<;>rfl
theorem c294 (a b:Int) (H:Heap) (Q:Post):E 294 [I a,I b] H Q=Q (encN (subN a b)) H:=by
 simp only [f294_eq,f294_j7_eq,i_sub,i_xor,i_lss,ob_some,cnd_B,decide_eq_true_eq,subN]
 repeat' split
 all_goals first | rfl | (simp_all;done) | (exfalso;simp_all;done) | (simp_all;omega)
theorem c304 (a:Int) (H:Heap) (Q:Post):E 304 [I a] H Q=Q (I (signN a)) H:=by
 simp only [f304_eq,i_lss,i_gtr,ob_some,cnd_B,decide_eq_true_eq,signN]
 split
 ·rfl
 ·split<;>rfl
theorem c293 (a b:Int) (H:Heap) (Q:Post):E 293 [I a,I b] H Q=Q (encN (mulN a b)) H:=by
 by_cases ha:a=0
 ·subst ha
  have h:W64 (signN 0 * signN b)=0:=by simp [signN];rfl
  simp [f293_eq,c304,i_mul,ob_some,i_eql,cnd_B,h,mulN,f293_j50_eq,encN]
 by_cases hb:b=0
 ·subst hb
  have h:W64 (signN a * signN 0)=0:=by simp [signN];rfl
  simp [f293_eq,c304,i_mul,ob_some,i_eql,cnd_B,h,mulN,f293_j50_eq,encN]
 have q1:=fun x=>i_quo (P:=Pg) 2 true x a ha
 have q2:=fun x=>i_quo (P:=Pg) 2 true x b hb
 simp only [f293_eq,f293_c5_8a_eq,f293_c5_8b_eq,f293_c7_8a_eq,f293_c7_8b_eq,f293_j50_eq,f293_c5_17a_eq,f293_c5_17b_eq,f293_c5_17c_eq,f293_c7_17a_eq,f293_c7_17b_eq,f293_c7_17c_eq,f293_j35_eq,f293_j44_eq,
  c304,i_mul,i_eql,i_gtr,i_lss,q1,q2,ob_some,cnd_B,decide_eq_true_eq,mulN,Bool.false_eq_true,if_false,if_true]
 repeat' split
 all_goals first | rfl | (simp_all;done) | (exfalso;simp_all;done) | (exfalso;simp_all;omega) | (exfalso;omega)
theorem xor_neg {a b:Int} (ha:rng a) (hb:rng b):bitsI .xor .i64 a b < 0 ↔ ((a < 0) ↔ ¬ (b < 0)):=by
 have h:bitsI .xor .i64 a b=(BitVec.ofInt 64 a ^^^ BitVec.ofInt 64 b).toInt:=wrap_bv _
 have hm:∀ x:BitVec 64,x.toInt < 0 ↔ x.msb=true:=fun x=>by rw [BitVec.msb_eq_toInt];simp
 rw [h,hm,BitVec.msb_xor,BitVec.msb_eq_toInt,BitVec.msb_eq_toInt,toInt_of ha,toInt_of hb]
 by_cases h1:a < 0<;>by_cases h2:b < 0<;>simp [h1,h2]
def inOr (n:Int):Int × Int:=if -9223372036854775808≤n∧n≤9223372036854775807 then (n,0) else (0,10)
theorem subN_eq {a b:Int} (ha:rng a) (hb:rng b):subN a b=inOr (a - b):=by
 have hw:=w64_rng (a - b)
 obtain ⟨k,hk⟩:=w64_mod (a - b)
 simp only [subN,xor_neg ha hb,xor_neg ha hw,inOr]
 obtain ⟨a1,a2⟩:=ha
 obtain ⟨b1,b2⟩:=hb
 obtain ⟨w1,w2⟩:=hw
 have hk1:k=0 ∨ k=1 ∨ k=-1:=by omega
 rcases hk1 with rfl | rfl | rfl
 ·rw [if_neg (by omega),if_pos (by omega)]
  congr 1;omega
 ·rw [if_pos (by omega),if_neg (by omega)]
 ·rw [if_pos (by omega),if_neg (by omega)]
/-- a quotient tells whether a product is beyond -/
theorem gt_div {m a b:Int} (ha:0 < a):m / a < b ↔ m < a * b:=by
 rw [Int.ediv_lt_iff_lt_mul ha,Int.mul_comm]
theorem div_rng {m a:Int} (hm:0≤m) (ha:0 < a):0≤m / a∧m / a≤m:=⟨Int.ediv_nonneg hm (by omega),Int.ediv_le_self _ hm⟩
theorem mulN_eq {a b:Int} (ha:rng a) (hb:rng b):mulN a b=inOr (a * b):=by
 obtain ⟨a1,a2⟩:=ha
 obtain ⟨b1,b2⟩:=hb
 have w1:W64 (1:Int)=1:=rfl
 have wm:W64 (-1:Int)=-1:=rfl
 have w0:W64 (0:Int)=0:=rfl
 simp only [mulN,inOr]
 rcases Int.lt_trichotomy a 0 with h | rfl | h
 ·have sa:signN a=-1:=by simp [signN,h]
  rcases Int.lt_trichotomy b 0 with g | rfl | g
  ·have sb:signN b=-1:=by simp [signN,g]
   have hp:0 < a * b:=Int.mul_pos_of_neg_of_neg h g
   have hd:(9223372036854775807:Int).tdiv a=-(9223372036854775807 / (-a)):=by
    rw [← Int.tdiv_eq_ediv_of_nonneg (by omega),Int.tdiv_neg,Int.neg_neg]
   obtain ⟨d1,d2⟩:=div_rng (m:=9223372036854775807) (a:=-a) (by omega) (by omega)
   have hg:=gt_div (m:=9223372036854775807) (a:=-a) (b:=-b) (by omega)
   rw [Int.neg_mul_neg] at hg
   rw [sa,sb,show (-1:Int) * -1=1 from rfl,w1,if_pos rfl,hd,w64_id (n:=-(9223372036854775807 / (-a))) (by omega) (by omega)]
   by_cases hc:9223372036854775807 < a * b
   ·rw [if_pos (.inr ⟨h,by have:=hg.2 hc;omega⟩),if_neg (by omega)]
   ·have:¬ 9223372036854775807 / (-a) < -b:=fun x=>hc (hg.1 x)
    rw [if_neg (by omega),if_pos (by omega),w64_id (by omega) (by omega)]
  ·simp [signN,w0]
  ·have sb : signN b = 1 := by have : ¬ b < 0 := by omega
                               simp [signN,g,this]
   have hp:a * b < 0:=Int.mul_neg_of_neg_of_pos h g
   have hd:(-9223372036854775808:Int).tdiv b=-(9223372036854775808 / b):=by
    rw [← Int.tdiv_eq_ediv_of_nonneg (by omega),← Int.neg_tdiv]
   obtain ⟨d1,d2⟩:=div_rng (m:=9223372036854775808) (a:=b) (by omega) g
   have hg:=gt_div (m:=9223372036854775808) (a:=b) (b:=-a) g
   rw [Int.mul_neg,Int.mul_comm b a] at hg
   rw [sa,sb,show (-1:Int) * 1=-1 from rfl,wm,if_neg (by decide),if_pos rfl,hd,w64_id (n:=-(9223372036854775808 / b)) (by omega) (by omega)]
   by_cases hc:a * b < -9223372036854775808
   ·rw [if_pos (.inr ⟨g,by have:=hg.2 (by omega);omega⟩),if_neg (by omega)]
   ·have:¬ 9223372036854775808 / b < -a:=fun x=>hc (by have:=hg.1 x;omega)
    rw [if_neg (by omega),if_pos (by omega),w64_id (by omega) (by omega)]
 ·simp [signN,w0]
 ·have sa : signN a = 1 := by have : ¬ a < 0 := by omega
                              simp [signN,h,this]
  rcases Int.lt_trichotomy b 0 with g | rfl | g
  ·have sb:signN b=-1:=by simp [signN,g]
   have hp:a * b < 0:=Int.mul_neg_of_pos_of_neg h g
   have hd:(-9223372036854775808:Int).tdiv a=-(9223372036854775808 / a):=by
    rw [← Int.tdiv_eq_ediv_of_nonneg (by omega),← Int.neg_tdiv]
   obtain ⟨d1,d2⟩:=div_rng (m:=9223372036854775808) (a:=a) (by omega) h
   have hg:=gt_div (m:=9223372036854775808) (a:=a) (b:=-b) h
   rw [Int.mul_neg] at hg
   rw [sa,sb,show (1:Int) * -1=-1 from rfl,wm,if_neg (by decide),if_pos rfl,hd,w64_id (n:=-(9223372036854775808 / a)) (by omega) (by omega)]
   by_cases hc:a * b < -9223372036854775808
   ·rw [if_pos (.inl ⟨h,by have:=hg.2 (by omega);omega⟩),if_neg (by omega)]
   ·have:¬ 9223372036854775808 / a < -b:=fun x=>hc (by have:=hg.1 x;omega)
    rw [if_neg (by omega),if_pos (by omega),w64_id (by omega) (by omega)]
  ·simp [signN,w0]
  ·have sb : signN b = 1 := by have : ¬ b < 0 := by omega
                               simp [signN,g,this]
   have hp:0 < a * b:=Int.mul_pos h g
   have hd:(9223372036854775807:Int).tdiv a=9223372036854775807 / a:=Int.tdiv_eq_ediv_of_nonneg (by omega)
   obtain ⟨d1,d2⟩:=div_rng (m:=9223372036854775807) (a:=a) (by omega) h
   have hg:=gt_div (m:=9223372036854775807) (a:=a) (b:=b) h
   rw [sa,sb,show (1:Int) * 1=1 from rfl,w1,if_pos rfl,hd,w64_id (n:=9223372036854775807 / a) (by omega) (by omega)]
   by_cases hc:9223372036854775807 < a * b
   ·rw [if_pos (.inl ⟨h,hg.2 hc⟩),if_neg (by omega)]
   ·have:¬ 9223372036854775807 / a < b:=fun x=>hc (hg.1 x)
    rw [if_neg (by omega),if_pos (by omega),w64_id (by omega) (by omega)]
theorem extN0 (p:Int × Int):extractA (encN p) 0=some (I p.1):=rfl
theorem extN1 (p:Int × Int):extractA (encN p) 1=some (I p.2):=rfl
end Go.Hx
namespace Go.Hx
def valF (acc:Nat) (l:List UInt8):Nat:=l.foldl (fun n c=>10 * n+(c.toNat - 48)) acc
theorem valF_ge:∀ (l:List UInt8) (a:Nat),a≤valF a l:=by
 intro l
 induction l with
 | nil=>intro a;exact Nat.le_refl a
 | cons c l ih=>intro a;have:=ih (10 * a+(c.toNat - 48));simp only [valF,List.foldl_cons] at this ⊢;omega
def numV (m:Bool) (d:ByteArray):Int × Int:=match numOf m d with
 | some n=>(n,0)
 | none=>(0,10)
/-- digits as a number's text has them -/
def DigL (m:Bool) (d:List UInt8):Prop:=d ≠ []∧d.all digB=true∧(d.head?.map (·.toNat) ≠ some 48 ∨ (m=false∧d.length=1))
def numB (m:Bool) (d:List UInt8):List UInt8:=(if m=true then [45] else [])++d
theorem digB_iff {c:UInt8}:digB c=true ↔ 48≤c.toNat∧c.toNat≤57:=by
 show digI (c.toNat:Nat)=true ↔ _
 simp only [digI,Bool.and_eq_true,decide_eq_true_eq];omega
theorem sub48 {c:UInt8} (h:digB c=true):binA Pg .sub 5 true (byteA c) (AV.raw (.int .u8 48))=some (U8 ((c.toNat - 48:Nat):Int)):=by
 have h:=digB_iff.1 h
 have:∀ n:Fin 10,IntKind.u8.wrap (((48+n.1:Nat):Int) - 48)=(n.1:Int):=by decide +kernel
 have:=this ⟨c.toNat - 48,by omega⟩
 show some (AV.raw (.int .u8 (IntKind.u8.wrap ((c.toNat:Int) - 48))))=_
 have e:((c.toNat:Nat):Int)=((48+(c.toNat - 48):Nat):Int):=by omega
 rw [e,this]
theorem cv64 (n:Nat) (h:n < 10):cvtIA .i64 (U8 (n:Int))=some (I (n:Int)):=by
 show some (AV.raw (.int .i64 (W64 (n:Int))))=_
 rw [w64_nat (by omega)];rfl
theorem mul10 {a:Nat} (h:a≤9223372036854775808):mulN (-(a:Int)) 10=inOr (-((10 * a:Nat):Int)):=by
 rw [mulN_eq ⟨by omega,by omega⟩ ⟨by omega,by omega⟩];congr 1;omega
theorem inOr_ok {a:Nat} (h:a≤9223372036854775808):inOr (-(a:Int))=(-(a:Int),0):=by simp only [inOr];rw [if_pos (by omega)]
theorem inOr_no {a:Nat} (h:9223372036854775808 < a):inOr (-(a:Int))=(0,10):=by simp only [inOr];rw [if_neg (by omega)]
theorem sub_dig {a d:Nat} (h:a≤9223372036854775808) (hd:d < 10):subN (-(a:Int)) (d:Int)=inOr (-((a+d:Nat):Int)):=by
 rw [subN_eq ⟨by omega,by omega⟩ ⟨by omega,by omega⟩];congr 1;omega
theorem numV_over {m:Bool} {d:List UInt8} (h:9223372036854775808 < valD d):numV m (bs d)=(0,10):=by
 simp only [numV,numOf,tx_bs]
 rw [if_neg (by omega:¬ valD d≤9223372036854775808),if_neg (by omega:¬ valD d≤9223372036854775807)]
 cases m<;>rfl
theorem enc_err (e:Int) (he:e ≠ 0) (t:TypeId):binA Pg .neq t true (I e) (I 0)=some (B true):=by rw [i_neq,decide_eq_false he];rfl
theorem enc_ok (t:TypeId):binA Pg .neq t true (I 0) (I 0)=some (B false):=rfl
theorem neg_num (m:Bool) (d:List UInt8) (h:valD d≤9223372036854775808):(if m=true then ((-(valD d:Int),0):Int × Int) else negN (-(valD d:Int)))=numV m (bs d):=by
 simp only [numV,numOf,tx_bs]
 cases m with
 | true=>simp only [if_true,if_pos h]
 | false =>
  simp only [Bool.false_eq_true,if_false,negN]
  by_cases h1:valD d≤9223372036854775807
  ·rw [if_pos h1,if_neg (by omega),w64_id (by omega) (by omega)]
   congr 1;omega
  ·rw [if_neg h1,if_pos (by omega)]
theorem ixb (nil:Bool) (tip:Tip) (l pre r:List UInt8) (c:UInt8) (e:l=pre++c::r):ixaA 1 (.sl 1 nil tip (l.map byteA)) (I pre.length)=some [byteA c] :=
 ix_mk 1 nil tip _ pre.length (x:=byteA c) (by rw [e];exact get_mid byteA pre r c) rfl
theorem c269_l (m:Bool) (d:List UInt8) (hl:d.length≤1099511627776) (hd:d.all digB=true) (H:Heap) (Q:Post):∀ (r pre:List UInt8) (a:Nat),d=pre++r→a≤9223372036854775808→valF a r=valD d →
  f269_l18 (B m) (I (-(a:Int))) (.sl 1 false .any (d.map byteA)) (I d.length) (I pre.length) H Q=Q (encN (numV m (bs d))) H:=by
 intro r
 induction r with
 | nil =>
  intro pre a e ha hv
  have h1:(pre.length:Int)=d.length:=by rw [e];simp
  have hv:a=valD d:=hv
  rw [f269_l18_eq,i_lss,ob_some,cnd_B,h1]
  simp only [Int.lt_irrefl,decide_false,Bool.false_eq_true,if_false]
  rw [← neg_num m d (by omega),← hv]
  cases m with
  | true=>rw [cnd_t];rfl
  | false=>rw [cnd_f,c295,extN0,ob_some,extN1,ob_some];rfl
 | cons c r ih =>
  intro pre a e ha hv
  have hlt:pre.length < d.length:=by rw [e];simp
  have hlt':(pre.length:Int) < d.length:=by omega
  have hc:digB c=true:=List.all_eq_true.1 hd c (by rw [e];simp)
  have hcd:=digB_iff.1 hc
  have hv':valF (10 * a+(c.toNat - 48)) r=valD d:=hv
  have hge:=valF_ge r (10 * a+(c.toNat - 48))
  rw [f269_l18_eq,i_lss,ob_some,cnd_B,if_pos (by simpa using hlt'),ixb false .any d pre r c e,ob_some,part_f,List.getElem?_cons_zero,ob_some,c293,mul10 ha,extN0,ob_some,extN1,ob_some]
  by_cases h1:10 * a≤9223372036854775808
  ·rw [inOr_ok h1]
   simp only [enc_ok,ob_some,cnd_f,sub48 hc,cv64 (c.toNat - 48) (by omega)]
   rw [c294,sub_dig h1 (by omega),extN0,ob_some,extN1,ob_some]
   by_cases h2:10 * a+(c.toNat - 48)≤9223372036854775808
   ·rw [inOr_ok h2]
    simp only [enc_ok,ob_some,cnd_f]
    rw [i_add,ob_some,w64_succ hlt (by omega)]
    have:=ih (pre++[c]) (10 * a+(c.toNat - 48)) (by simp [e]) h2 hv'
    rw [List.length_append,List.length_singleton] at this
    exact this
   ·rw [inOr_no (by omega)]
    simp only [enc_err 10 (by decide),ob_some,cnd_t]
    rw [numV_over (by omega)];rfl
  ·rw [inOr_no (by omega)]
   simp only [enc_err 10 (by decide),ob_some,cnd_t]
   rw [numV_over (by omega)];rfl
theorem c292_l (m:Bool) (d:List UInt8) (hl:d.length≤1099511627776) (hd:d.all digB=true) (H:Heap) (Q:Post):∀ (r pre:List UInt8),d=pre++r →
  f292_l22 (S (bs d)) (B m) (.sl 1 false .any (d.map byteA)) (I d.length) (I pre.length) H Q=Q (.tup [S (bs d),B m,B true]) H:=by
 intro r
 induction r with
 | nil =>
  intro pre e
  have h1:(pre.length:Int)=d.length:=by rw [e];simp
  rw [f292_l22_eq,i_lss,ob_some,cnd_B,h1]
  simp only [Int.lt_irrefl,decide_false,Bool.false_eq_true,if_false]
 | cons c r ih =>
  intro pre e
  have hlt:pre.length < d.length:=by rw [e];simp
  have hlt':(pre.length:Int) < d.length:=by omega
  have hc:digB c=true:=List.all_eq_true.1 hd c (by rw [e];simp)
  have hcd:=digB_iff.1 hc
  have l1:binA Pg .lss 5 true (byteA c) (AV.raw (.int .u8 48))=some (B false):=by rw [byteA,k_lss,decide_eq_false (by omega)]
  have l2:binA Pg .gtr 5 true (byteA c) (AV.raw (.int .u8 57))=some (B false):=by rw [byteA,k_gtr,decide_eq_false (by omega)]
  rw [f292_l22_eq,i_lss,ob_some,cnd_B,if_pos (by simpa using hlt'),ixb false .any d pre r c e,ob_some,part_f,List.getElem?_cons_zero,ob_some,l1,ob_some,cnd_f,l2,ob_some,f292_j35_eq,cnd_f,i_add,ob_some,w64_succ hlt (by omega)]
  have:=ih (pre++[c]) (by simp [e])
  rw [List.length_append,List.length_singleton] at this
  exact this
theorem e45 (c:UInt8):binA Pg .eql 5 true (U8 c.toNat) (AV.raw (.int .u8 45))=some (B (decide (c.toNat=45))):=b_eq39 c 45 5 true
theorem e48 (c:UInt8):binA Pg .eql 5 true (U8 c.toNat) (AV.raw (.int .u8 48))=some (B (decide (c.toNat=48))):=b_eq39 c 48 5 true
theorem ix0 (c:UInt8) (r:List UInt8):ixA (S (bs (c::r))) (I 0)=some (U8 c.toNat):=ixS (bs (c::r)) [] r c (by rw [← tx_bs (c::r)];simp)
theorem s_ne {c:UInt8} {r:List UInt8} (t:TypeId) (l:Bool):binA Pg .eql t l (S (bs (c::r))) (S ⟨#[]⟩)=some (B false):=by
 rw [s_eql,decide_eq_false]
 intro h
 have:bs (c::r)=bs []:=h
 have:=bs_inj.1 this
 cases this
theorem c292 (m:Bool) (d:List UInt8) (hl:d.length≤1099511627775) (hd:DigL m d) (H:Heap) (Q:Post):E 292 [S (bs (numB m d))] H Q=Q (.tup [S (bs d),B m,B true]) H:=by
 obtain ⟨hne,hall,hz⟩:=hd
 cases d with
 | nil=>exact (hne rfl).elim
 | cons c r =>
  have hc:digB c=true:=List.all_eq_true.1 hall c (by simp)
  have hcd:=digB_iff.1 hc
  have fin:∀ K:Prop,f292_j13 (S (bs (c::r))) (B m) (B false) H Q=Q (.tup [S (bs (c::r)),B m,B true]) H:=fun _=>by
   rw [f292_j13_eq,cnd_f]
   show ob (lenA (.sl 1 false .any ((tx (bs (c::r))).map byteA))) (fun r17=>f292_l22 (S (bs (c::r))) (B m) (.sl 1 false .any ((tx (bs (c::r))).map byteA)) r17 (I 0) H Q)=_
   rw [tx_bs,len_sl,ob_some,List.length_map]
   exact c292_l m (c::r) (by omega) hall H Q (c::r) [] rfl
  have hs0:binA Pg .gtr 3 true (I ((numB m (c::r)).length:Nat)) (I 0)=some (B true):=by
   rw [i_gtr,decide_eq_true];simp [numB];omega
  rw [f292_eq,len_S,ob_some,bs_size,hs0,ob_some,cnd_t]
  cases m with
  | true =>
   have hz:c.toNat ≠ 48:=by rcases hz with hz | hz<;>simp at hz;exact hz
   have e0:numB true (c::r)=45::c::r:=rfl
   rw [e0,ix0,ob_some,e45,ob_some]
   have:decide ((45:UInt8).toNat=45)=true:=rfl
   have sl:sliceSA (S (bs (45::c::r))) (some (I 1)) none=some (S (bs (c::r))):=slS_from (pre:=[45]) (by rw [tx_bs];rfl)
   rw [this,f292_j7_eq,cnd_t,sl,ob_some,s_ne,ob_some,cnd_f,ix0,ob_some,e48,ob_some,decide_eq_false hz,cnd_f]
   exact fin True
  | false =>
   have e0:numB false (c::r)=c::r:=rfl
   rw [e0,ix0,ob_some,e45,ob_some,decide_eq_false (by omega),f292_j7_eq,cnd_f,s_ne,ob_some,cnd_f,ix0,ob_some,e48,ob_some]
   by_cases h48:c.toNat=48
   ·have h1:r=[]:=by
     rcases hz with hz | hz
     ·simp [h48] at hz
     ·simpa using hz.2
    subst h1
    rw [decide_eq_true h48,cnd_t,len_S,ob_some]
    exact fin True
   ·rw [decide_eq_false h48,cnd_f];exact fin True
theorem c269 (m:Bool) (d:List UInt8) (hl:d.length≤1099511627775) (hd:DigL m d) (H:Heap) (Q:Post):E 269 [S (bs (numB m d))] H Q=Q (encN (numV m (bs d))) H:=by
 rw [f269_eq,c292 m d hl hd]
 simp only [x3_0,x3_1,x3_2,ob_some,not_B,Bool.not_true,cnd_f]
 show ob (lenA (.sl 1 false .any ((tx (bs d)).map byteA))) (fun r8=>f269_l18 (B m) (I 0) (.sl 1 false .any ((tx (bs d)).map byteA)) r8 (I 0) H Q)=_
 rw [tx_bs,len_sl,ob_some,List.length_map]
 exact c269_l m d (by omega) hd.2.1 H Q d [] 0 rfl (by omega) rfl
end Go.Hx
namespace Go.Hx
theorem numR_bad {m:Bool} {r:List Tk} {e:Int} {p:Nat} (h:numR m r=.bad e p):e=4:=by
 cases r with
 | nil=>cases h;rfl
 | cons t r =>
  simp only [numR] at h
  split at h<;>cases h
  rfl
theorem atomR_bad {r:List Tk} {e:Int} {p:Nat} (h:atomR r=.bad e p):e=4:=by
 cases r with
 | nil=>cases h;rfl
 | cons t r =>
  simp only [atomR] at h
  split at h
  ·exact numR_bad h
  ·split at h
   ·cases h
   ·split at h
    ·simp only [fieldR] at h
     split at h
     ·split at h
      ·cases h;rfl
      ·split at h
       ·cases h
       ·cases h;rfl
     ·cases h;rfl
    ·split at h
     ·split at h
      ·cases h
      ·cases h;rfl
     ·cases h;rfl
theorem P_ne {g:Gl} {o:Nat} {r:List Tk} {R:PR} (h:P g o r R):∀ e p,R=.bad e p→e ≠ 0:=by
 induction h with
 | neg_num h1 h2=>intro e p h;rw [numR_bad h];decide
 | last_atom h1=>intro e p h;rw [atomR_bad h];decide
 | row_bad _ ih=>exact ih
 | row_ok _ _ _ ih=>exact ih
 | more_no=>intro e p h;cases h
 | more_bad _ _ ih=>exact ih
 | more_ok _ _ _ _ ih=>exact ih
 | not_no _ _ ih=>exact ih
 | not_long=>intro e p h;cases h;decide
 | not_bad _ _ _ ih=>exact ih
 | not_ok=>intro e p h;cases h
 | cmp_bad _ ih=>exact ih
 | cmp_no=>intro e p h;cases h
 | cmp_bad2 _ _ _ _ ih=>exact ih
 | cmp_ok=>intro e p h;cases h
 | left_bad _ ih=>exact ih
 | left_ok _ _ _ ih=>exact ih
 | lmore_no=>intro e p h;cases h
 | lmore_bad _ _ ih=>exact ih
 | lmore_ok _ _ _ _ ih=>exact ih
 | neg_no _ _ ih=>exact ih
 | neg_long=>intro e p h;cases h;decide
 | neg_bad _ _ _ _ ih=>exact ih
 | neg_ok=>intro e p h;cases h
 | last_long=>intro e p h;cases h;decide
 | last_bad _ _ _ ih=>exact ih
 | last_open=>intro e p h;cases h;decide
 | last_ok=>intro e p h;cases h
/-- what is left ends what there was -/
def Suf (r r1:List Tk):Prop:=endsT r1∧∃ pre,r=pre++r1
theorem Suf.refl {r:List Tk} (h:endsT r):Suf r r:=⟨h,[],rfl⟩
theorem Suf.trans {r r1 r2:List Tk} (h:Suf r r1) (h':Suf r1 r2):Suf r r2:=by
 obtain ⟨_,p1,rfl⟩:=h
 obtain ⟨h2,p2,rfl⟩:=h'
 exact ⟨h2,p1++p2,by simp⟩
theorem Suf.cons {t:Tk} {r r1:List Tk} (h:Suf r r1):Suf (t::r) r1:=by
 obtain ⟨h1,p,rfl⟩:=h
 exact ⟨h1,t::p,rfl⟩
theorem Suf.len {r r1:List Tk} (h:Suf r r1):r1.length≤r.length:=by
 obtain ⟨_,p,rfl⟩:=h
 simp
theorem Suf.mem {r r1:List Tk} (h:Suf r r1) {p:Tk→Prop} (hp:∀ t ∈ r,p t):∀ t ∈ r1,p t:=by
 obtain ⟨_,q,rfl⟩:=h
 exact fun t ht=>hp t (by simp [ht])
def SufR (r:List Tk):PR→Prop
 | .ok _ r1=>Suf r r1
 | .bad _ _=>True
theorem numR_suf {m:Bool} {r:List Tk} (h:endsT r) (hk:kindN r=3):SufR r (numR m r):=by
 cases r with
 | nil=>exact h.elim
 | cons t r =>
  simp only [numR]
  split
  ·trivial
  ·exact (Suf.refl (endsT_tail h (by simp only [kindN] at hk;omega))).cons
theorem atomR_suf {r:List Tk} (h:endsT r):SufR r (atomR r):=by
 cases r with
 | nil=>exact h.elim
 | cons t r =>
  simp only [atomR]
  split
  ·exact numR_suf h (by simpa [kindN])
  ·rename_i h3
   split
   ·rename_i h4;exact (Suf.refl (endsT_tail h (by omega))).cons
   ·split
    ·rename_i h2
     have ht:=endsT_tail h (by omega:t.k ≠ 6)
     simp only [fieldR]
     split
     ·rename_i hn
      obtain ⟨u,r1,rfl,hu,_⟩:=nextIs_ne hn
      have ht1:=endsT_tail ht (by omega:u.k ≠ 6)
      simp only [List.tail_cons]
      split
      ·trivial
      ·rename_i v r2
       split
       ·exact (Suf.refl (endsT_tail ht1 (by omega))).cons.cons.cons
       ·trivial
     ·trivial
    ·split
     ·split
      ·exact (Suf.refl (endsT_tail h (by omega))).cons
      ·trivial
     ·trivial
theorem nextIs_cons {k:Int} {s:ByteArray} {t:Tk} {r:List Tk} (h:nextIs k s (t::r)=true):t.k=k∧t.s=s:=by
 simp only [nextIs,Bool.and_eq_true,decide_eq_true_eq] at h;exact h
theorem opOf_cons {lo hi k:Int} {t:Tk} {r:List Tk} (h:opOf lo hi (t::r)=some k):t.k=5:=by
 obtain ⟨u,r1,e,hu⟩:=opOf_ne h
 cases e;exact hu
theorem P_suf {g:Gl} {o:Nat} {r:List Tk} {R:PR} (h:P g o r R):endsT r→SufR r R:=by
 have tl:∀ {k:Int} {s:ByteArray} {t:Tk} {r:List Tk},k ≠ 6→nextIs k s (t::r)=true→endsT (t::r)→endsT r:=fun hk h he=>endsT_tail he (by rw [(nextIs_cons h).1];exact hk)
 have tl5:∀ {lo hi k:Int} {t:Tk} {r:List Tk},opOf lo hi (t::r)=some k→endsT (t::r)→endsT r:=fun h he=>endsT_tail he (by rw [opOf_cons h];decide)
 have up:∀ {r r1:List Tk} {R:PR},Suf r r1→SufR r1 R→SufR r R:=fun {r r1 R} h1 h2=>by
  cases R with
  | ok=>exact h1.trans h2
  | bad=>trivial
 have upc:∀ {t:Tk} {r:List Tk} {R:PR},SufR r R→SufR (t::r) R:=fun {t r R} h2=>by
  cases R with
  | ok=>exact Suf.cons h2
  | bad=>trivial
 induction h with
 | neg_num h1 h2=>intro he;exact upc (numR_suf (tl (by decide) h1 he) h2)
 | last_atom h1=>intro he;exact atomR_suf he
 | row_bad _ ih=>exact fun _=>trivial
 | row_ok _ _ ih1 ih2=>intro he;have h1:=ih1 he;exact up h1 (ih2 h1.1)
 | more_no=>intro he;exact Suf.refl he
 | more_bad=>exact fun _=>trivial
 | more_ok hn _ _ ih1 ih2=>intro he;have h1:=ih1 (tl (by decide) hn he);exact upc (up h1 (ih2 h1.1))
 | not_no _ _ ih=>exact ih
 | not_long=>exact fun _=>trivial
 | not_bad=>exact fun _=>trivial
 | not_ok hn _ _ ih=>intro he;exact Suf.cons (ih (tl (by decide) hn he))
 | cmp_bad=>exact fun _=>trivial
 | cmp_no _ _ ih=>exact ih
 | cmp_bad2=>exact fun _=>trivial
 | cmp_ok _ hk _ ih1 ih2=>intro he;have h1:=ih1 he;exact h1.trans (Suf.cons (ih2 (tl5 hk h1.1)))
 | left_bad=>exact fun _=>trivial
 | left_ok _ _ ih1 ih2=>intro he;have h1:=ih1 he;exact up h1 (ih2 h1.1)
 | lmore_no=>intro he;exact Suf.refl he
 | lmore_bad=>exact fun _=>trivial
 | lmore_ok hk _ _ ih1 ih2=>intro he;have h1:=ih1 (tl5 hk he);exact upc (up h1 (ih2 h1.1))
 | neg_no _ _ ih=>exact ih
 | neg_long=>exact fun _=>trivial
 | neg_bad=>exact fun _=>trivial
 | neg_ok hn _ _ _ ih=>intro he;exact Suf.cons (ih (tl (by decide) hn he))
 | last_long=>exact fun _=>trivial
 | last_bad=>exact fun _=>trivial
 | last_open=>exact fun _=>trivial
 | last_ok hn _ _ hs ih=>intro he;have h1:=ih (tl (by decide) hn he);exact Suf.cons (Suf.trans h1 ((Suf.refl (tl (by decide) hs h1.1)).cons))
theorem sizeX_nd (k:Int) (v:Vl) (a b:ByteArray) (l:List Ex):sizeX (nd k v a b l)=1+sizeXs l:=by simp [nd,sizeX]
theorem sizeXs_parts (k:Int) (l:List Ex):sizeXs (partsJ k l)≤sizeXs l:=by
 induction l with
 | nil=>simp [partsJ,sizeXs]
 | cons x l ih =>
  have e:partsJ k (x::l)=(if x.k=k then x.l else [x])++partsJ k l:=by simp [partsJ]
  rw [e,sizeXs_append]
  have:=sizeX_eq x
  simp only [sizeXs]
  split
  ·omega
  ·simp only [sizeXs];omega
theorem size_join (k:Int) (l:List Ex) (hl:l ≠ []):sizeX (joinE k l)≤sizeXs l+if l.length≤1 then 0 else 1:=by
 have hp:=sizeXs_parts k l
 have h1:=len_sizeXs l
 have hl':1≤l.length:=List.length_pos_iff.2 hl
 simp only [joinE]
 split
 ·rw [sizeX_nd];simp only [sizeXs];omega
 ·rename_i x hx;rw [hx] at hp;simp only [sizeXs] at hp;omega
 ·rename_i hne hns
  rw [sizeX_nd]
  split
  ·rename_i h1
   obtain ⟨x,rfl⟩:=List.length_eq_one_iff.1 (by omega:l.length=1)
   have e:partsJ k [x]=if x.k=k then x.l else [x]:=by simp [partsJ]
   rw [e] at hns ⊢
   by_cases hk:x.k=k
   ·rw [if_pos hk];have:=sizeX_eq x;simp only [sizeXs];omega
   ·rw [if_neg hk] at hns;exact (hns x rfl).elim
  ·omega
def SizeR (g:Gl) (r:List Tk):PR→Prop
 | .bad _ _=>True
 | .ok x r1=>match g with
  | .more _ l=>l ≠ []→sizeX x+r1.length≤r.length+sizeXs l+if l.length≤1 then 0 else 1
  | .lmore _ y=>sizeX x+r1.length≤r.length+sizeX y
  | _=>sizeX x+r1.length≤r.length
theorem numR_size {m:Bool} {r:List Tk} {x:Ex} {r1:List Tk} (h:numR m r=.ok x r1):sizeX x+r1.length≤r.length:=by
 cases r with
 | nil=>cases h
 | cons t r =>
  simp only [numR] at h
  split at h<;>cases h
  rw [sizeX_nd];simp [sizeXs];omega
theorem atomR_size {r:List Tk} {x:Ex} {r1:List Tk} (h:atomR r=.ok x r1):sizeX x+r1.length≤r.length:=by
 cases r with
 | nil=>cases h
 | cons t r =>
  simp only [atomR] at h
  split at h
  ·exact numR_size h
  ·split at h
   ·cases h;rw [sizeX_nd];simp [sizeXs];omega
   ·split at h
    ·simp only [fieldR] at h
     split at h
     ·rename_i hn
      obtain ⟨u,r2,rfl,hu,_⟩:=nextIs_ne hn
      simp only [List.tail_cons] at h
      split at h
      ·cases h
      ·split at h
       ·cases h;rw [sizeX_nd];simp [sizeXs];omega
       ·cases h
     ·cases h
    ·split at h
     ·split at h
      ·cases h;rw [sizeX_nd];simp [sizeXs];omega
      ·cases h
     ·cases h
theorem P_size {g:Gl} {o:Nat} {r:List Tk} {R:PR} (h:P g o r R):SizeR g r R:=by
 have gp:∀ (b:Bool) {r:List Tk} {x:Ex} {r1:List Tk},SizeR (rowP b) r (.ok x r1)→sizeX x+r1.length≤r.length:=fun b=>by cases b<;>exact id
 have gl:∀ (b:Bool) {r:List Tk} {x:Ex} {r1:List Tk},SizeR (leftP b) r (.ok x r1)→sizeX x+r1.length≤r.length:=fun b=>by cases b<;>exact id
 induction h with
 | neg_num h1 h2 =>
  rename_i o t r
  cases hr:numR true r with
  | bad=>trivial
  | ok x r1=>have:=numR_size hr;show _≤_;simp;omega
 | last_atom h1 =>
  rename_i o r
  cases hr:atomR r with
  | bad=>trivial
  | ok x r1=>exact atomR_size hr
 | row_bad=>trivial
 | row_ok _ _ ih1 ih2 =>
  rename_i b o r x r1 R _ _
  cases R with
  | bad=>trivial
  | ok y r2 =>
   have h1:=gp b ih1
   have h2:=ih2 (by simp)
   simp only [sizeXs,List.length_singleton,Nat.le_refl,if_true] at h2
   show _≤_
   omega
 | more_no =>
  rename_i b l o r hn
  intro hl
  have:=size_join (rowK b) l hl
  omega
 | more_bad=>trivial
 | more_ok hn _ _ ih1 ih2 =>
  rename_i b l o t r x r1 R _ _
  cases R with
  | bad=>trivial
  | ok y r2 =>
   intro hl
   have h1:=gp b ih1
   have h2:=ih2 (by simp)
   rw [sizeXs_append] at h2
   have hl':1≤l.length:=List.length_pos_iff.2 hl
   simp only [sizeXs,List.length_append,List.length_singleton] at h2
   rw [if_neg (by omega)] at h2
   simp only [List.length_cons]
   omega
 | not_no _ _ ih =>
  rename_i R _ _
  cases R with
  | bad=>trivial
  | ok=>exact ih
 | not_long=>trivial
 | not_bad=>trivial
 | not_ok hn _ _ ih =>
  have h1:_≤_:=ih
  show _≤_
  rw [sizeX_nd];simp only [sizeXs,List.length_cons];omega
 | cmp_bad=>trivial
 | cmp_no _ _ ih=>exact ih
 | cmp_bad2=>trivial
 | cmp_ok _ hk _ ih1 ih2 =>
  have h1:_≤_:=ih1
  have h2:_≤_:=ih2
  show _≤_
  simp only [List.length_cons] at h1
  rw [sizeX_nd];simp only [sizeXs];omega
 | left_bad=>trivial
 | left_ok _ _ ih1 ih2 =>
  rename_i b o r x r1 R _ _
  cases R with
  | bad=>trivial
  | ok y r2 =>
   have h1:=gl b ih1
   have h2:_≤_:=ih2
   show _≤_
   omega
 | lmore_no=>show _≤_;omega
 | lmore_bad=>trivial
 | lmore_ok hk _ _ ih1 ih2 =>
  rename_i b x o t r k y r1 R _ _
  cases R with
  | bad=>trivial
  | ok z r2 =>
   have h1:=gl b ih1
   have h2:_≤_:=ih2
   rw [sizeX_nd] at h2
   simp only [sizeXs] at h2
   show _≤_
   simp only [List.length_cons];omega
 | neg_no _ _ ih =>
  rename_i R _ _
  cases R with
  | bad=>trivial
  | ok=>exact ih
 | neg_long=>trivial
 | neg_bad=>trivial
 | neg_ok hn _ _ _ ih =>
  have h1:_≤_:=ih
  show _≤_
  rw [sizeX_nd];simp only [sizeXs,List.length_cons];omega
 | last_long=>trivial
 | last_bad=>trivial
 | last_open=>trivial
 | last_ok hn _ _ hs ih =>
  have h1:_≤_:=ih
  show _≤_
  simp only [List.length_cons] at h1 ⊢;omega
def okTk (t:Tk):Prop:=t.s.size≤1099511627775∧(t.k=3→DigL false (tx t.s))∧(t.k=4→t.s.size≤256)
def gX (x:Ex):Prop:=x.var.size≤1099511627776∧x.fld.size≤1099511627776∧vr x.v
theorem allX_nd {p:Ex→Prop} (k:Int) (v:Vl) (a b:ByteArray) (l:List Ex):allX p (nd k v a b l) ↔ p (nd k v a b l)∧allXs p l:=by simp [nd,allX]
theorem allXs_of {p:Ex→Prop} {l:List Ex} (h:∀ x ∈ l,allX p x):allXs p l:=by
 induction l with
 | nil=>trivial
 | cons x l ih=>exact ⟨h x (by simp),ih fun y hy=>h y (by simp [hy])⟩
theorem gX_nd {k:Int} {v:Vl} (hv:vr v) (l:List Ex):gX (nd k v e0 e0 l):=⟨by show 0≤_;omega,by show 0≤_;omega,hv⟩
theorem vr_null:vr nullV:=⟨by show _≤(0:Int);omega,by show (0:Int)≤_;omega⟩
def GoodR:PR→Prop
 | .bad _ _=>True
 | .ok x _=>allX gX x
theorem numOf_rng {m:Bool} {s:ByteArray} {n:Int} (h:numOf m s=some n):rng n:=by
 simp only [numOf] at h
 split at h
 ·split at h
  ·cases h;exact ⟨by omega,by omega⟩
  ·cases h
 ·split at h
  ·cases h;exact ⟨by omega,by omega⟩
  ·cases h
theorem numR_good {m:Bool} {r:List Tk}:GoodR (numR m r):=by
 cases r with
 | nil=>trivial
 | cons t r =>
  simp only [numR]
  split
  ·trivial
  ·rename_i n hn
   exact (allX_nd _ _ _ _ _).2 ⟨gX_nd (numOf_rng hn) _,trivial⟩
theorem atomR_good {r:List Tk} (h:∀ t ∈ r,okTk t):GoodR (atomR r):=by
 cases r with
 | nil=>trivial
 | cons t r =>
  simp only [atomR]
  have z:rng 0:=⟨by omega,by omega⟩
  have o:rng 1:=⟨by omega,by omega⟩
  split
  ·exact numR_good
  ·split
   ·exact (allX_nd _ _ _ _ _).2 ⟨gX_nd (show vr (textV t.s) from z) _,trivial⟩
   ·split
    ·simp only [fieldR]
     split
     ·rename_i hn
      obtain ⟨u,r2,rfl,hu,_⟩:=nextIs_ne hn
      simp only [List.tail_cons]
      split
      ·trivial
      ·rename_i v r3
       split
       ·have h1:=(h t (by simp)).1
        have h2:=(h v (by simp)).1
        exact (allX_nd _ _ _ _ _).2 ⟨⟨by show t.s.size≤_;omega,by show v.s.size≤_;omega,vr_null⟩,trivial⟩
       ·trivial
     ·trivial
    ·split
     ·split
      ·rename_i v hv
       refine (allX_nd _ _ _ _ _).2 ⟨gX_nd ?_ _,trivial⟩
       simp only [wordV] at hv
       split at hv
       ·cases hv;exact o
       ·split at hv
        ·cases hv;exact z
        ·split at hv
         ·cases hv;exact z
         ·cases hv
      ·trivial
     ·trivial
theorem good_join {k:Int} {l:List Ex} (h:∀ x ∈ l,allX gX x):allX gX (joinE k l):=by
 have hp:∀ x ∈ partsJ k l,allX gX x:=fun x hx=>by
  simp only [partsJ,List.mem_flatMap] at hx
  obtain ⟨y,hy,hx⟩:=hx
  split at hx
  ·exact allXs_mem ((allX_eq _ _).1 (h y hy)).2 hx
  ·simp at hx;subst hx;exact h _ hy
 simp only [joinE]
 split
 ·refine (allX_nd _ _ _ _ _).2 ⟨gX_nd ?_ _,trivial⟩
  by_cases hk:k=16<;>simp [hk,boolV,vr,rng]
 ·rename_i x hx;exact hp x (by rw [hx];simp)
 ·exact (allX_nd _ _ _ _ _).2 ⟨gX_nd vr_null _,allXs_of hp⟩
theorem P_good {g:Gl} {o:Nat} {r:List Tk} {R:PR} (h:P g o r R):(∀ t ∈ r,okTk t)→endsT r→(∀ b l,g=.more b l→∀ x ∈ l,allX gX x)→(∀ b x,g=.lmore b x→allX gX x)→GoodR R:=by
 have tl:∀ {k:Int} {s:ByteArray} {t:Tk} {r:List Tk},k ≠ 6→nextIs k s (t::r)=true→endsT (t::r)→endsT r:=fun hk h he=>endsT_tail he (by rw [(nextIs_cons h).1];exact hk)
 have tl5:∀ {lo hi k:Int} {t:Tk} {r:List Tk},opOf lo hi (t::r)=some k→endsT (t::r)→endsT r:=fun h he=>endsT_tail he (by rw [opOf_cons h];decide)
 have tm:∀ {t:Tk} {r:List Tk},(∀ u ∈ t::r,okTk u)→∀ u ∈ r,okTk u:=fun h u hu=>h u (by simp [hu])
 have bin:∀ {k:Int} {x y:Ex},allX gX x→allX gX y→allX gX (nd k nullV e0 e0 [x,y]):=fun h1 h2=>(allX_nd _ _ _ _ _).2 ⟨gX_nd vr_null _,h1,h2,trivial⟩
 have un:∀ {k:Int} {x:Ex},allX gX x→allX gX (nd k nullV e0 e0 [x]):=fun h1=>(allX_nd _ _ _ _ _).2 ⟨gX_nd vr_null _,h1,trivial⟩
 have rp:∀ b b' l,rowP b ≠ .more b' l:=fun b b' l h=>by cases b<;>cases h
 have rp':∀ b b' l,rowP b ≠ .lmore b' l:=fun b b' l h=>by cases b<;>cases h
 have lp:∀ b b' l,leftP b ≠ .more b' l:=fun b b' l h=>by cases b<;>cases h
 have lp':∀ b b' l,leftP b ≠ .lmore b' l:=fun b b' l h=>by cases b<;>cases h
 induction h with
 | neg_num h1 h2=>intros;exact numR_good
 | last_atom h1=>intro ht _ _ _;exact atomR_good ht
 | row_bad=>intros;trivial
 | row_ok h1 _ ih1 ih2 =>
  intro ht he _ _
  have hs:Suf _ _:=P_suf h1 he
  have g1:allX gX _:=ih1 ht he (fun _ _ h=>(rp _ _ _ h).elim) (fun _ _ h=>(rp' _ _ _ h).elim)
  exact ih2 (hs.mem ht) hs.1 (fun _ _ h x hx=>by cases h;simp at hx;subst hx;exact g1) (fun _ _ h=>by cases h)
 | more_no=>intro ht he hl _;exact good_join (hl _ _ rfl)
 | more_bad=>intros;trivial
 | more_ok hn h1 _ ih1 ih2 =>
  intro ht he hl _
  have he':=tl (by decide) hn he
  have hs:Suf _ _:=P_suf h1 he'
  have g1:allX gX _:=ih1 (tm ht) he' (fun _ _ h=>(rp _ _ _ h).elim) (fun _ _ h=>(rp' _ _ _ h).elim)
  refine ih2 (hs.mem (tm ht)) hs.1 (fun _ _ h x hx=>?_) (fun _ _ h=>by cases h)
  cases h
  simp only [List.mem_append,List.mem_singleton] at hx
  rcases hx with hx | hx
  ·exact hl _ _ rfl x hx
  ·subst hx;exact g1
 | not_no _ _ ih=>intro ht he _ _;exact ih ht he (fun _ _ h=>by cases h) (fun _ _ h=>by cases h)
 | not_long=>intros;trivial
 | not_bad=>intros;trivial
 | not_ok hn _ _ ih=>intro ht he _ _;exact un (ih (tm ht) (tl (by decide) hn he) (fun _ _ h=>by cases h) (fun _ _ h=>by cases h))
 | cmp_bad=>intros;trivial
 | cmp_no _ _ ih=>intro ht he _ _;exact ih ht he (fun _ _ h=>by cases h) (fun _ _ h=>by cases h)
 | cmp_bad2=>intros;trivial
 | cmp_ok h1 hk _ ih1 ih2 =>
  intro ht he _ _
  have hs:Suf _ _:=P_suf h1 he
  exact bin (ih1 ht he (fun _ _ h=>by cases h) (fun _ _ h=>by cases h)) (ih2 (tm (hs.mem ht)) (tl5 hk hs.1) (fun _ _ h=>by cases h) (fun _ _ h=>by cases h))
 | left_bad=>intros;trivial
 | left_ok h1 _ ih1 ih2 =>
  intro ht he _ _
  have hs:Suf _ _:=P_suf h1 he
  have g1:allX gX _:=ih1 ht he (fun _ _ h=>(lp _ _ _ h).elim) (fun _ _ h=>(lp' _ _ _ h).elim)
  exact ih2 (hs.mem ht) hs.1 (fun _ _ h=>by cases h) (fun _ _ h=>by cases h;exact g1)
 | lmore_no=>intro ht he _ hx;exact hx _ _ rfl
 | lmore_bad=>intros;trivial
 | lmore_ok hk h1 _ ih1 ih2 =>
  intro ht he _ hx
  have he':=tl5 hk he
  have hs:Suf _ _:=P_suf h1 he'
  have g1:allX gX _:=ih1 (tm ht) he' (fun _ _ h=>(lp _ _ _ h).elim) (fun _ _ h=>(lp' _ _ _ h).elim)
  exact ih2 (hs.mem (tm ht)) hs.1 (fun _ _ h=>by cases h) (fun _ _ h=>by cases h;exact bin (hx _ _ rfl) g1)
 | neg_no _ _ ih=>intro ht he _ _;exact ih ht he (fun _ _ h=>by cases h) (fun _ _ h=>by cases h)
 | neg_long=>intros;trivial
 | neg_bad=>intros;trivial
 | neg_ok hn _ _ _ ih=>intro ht he _ _;exact un (ih (tm ht) (tl (by decide) hn he) (fun _ _ h=>by cases h) (fun _ _ h=>by cases h))
 | last_long=>intros;trivial
 | last_bad=>intros;trivial
 | last_open=>intros;trivial
 | last_ok hn _ _ hs ih=>intro ht he _ _;exact ih (tm ht) (tl (by decide) hn he) (fun _ _ h=>by cases h) (fun _ _ h=>by cases h)
theorem norm_k (x:Ex):(norm x).k=x.k:=by rw [norm_eq];rfl
theorem norm_v (x:Ex):(norm x).v=x.v:=by rw [norm_eq];rfl
theorem norm_var (x:Ex):(norm x).var=x.var:=by rw [norm_eq];rfl
theorem norm_fld (x:Ex):(norm x).fld=x.fld:=by rw [norm_eq];rfl
theorem norm_l (x:Ex):(norm x).l=x.l.map norm:=by rw [norm_eq];rfl
theorem norm_size (x:Ex):sizeX (norm x)=sizeX x:=by
 induction x using Ex.ind with
 | h x ih =>
  rw [sizeX_eq,sizeX_eq x,norm_l]
  have:∀ l:List Ex,(∀ y ∈ l,y ∈ x.l)→sizeXs (l.map norm)=sizeXs l:=by
   intro l
   induction l with
   | nil=>intro _;rfl
   | cons y l ihl=>intro h;simp only [List.map_cons,sizeXs,ih y (h y (by simp)),ihl fun z hz=>h z (by simp [hz])]
  rw [this x.l fun _ h=>h]
theorem norm_right (x:Ex):rightP (norm x)=rightP x:=by
 have hb:bareP (norm x)=bareP x:=by simp only [bareP,norm_v,norm_var,norm_fld]
 have ha:(norm x).l.any (fun y=>decide (y.k=(norm x).k))=x.l.any fun y=>decide (y.k=x.k):=by
  rw [norm_l,List.any_map,norm_k]
  congr 1
  funext y
  simp only [Function.comp,norm_k]
 simp only [rightP,hb,norm_k,norm_v,norm_var,norm_fld,norm_l,List.length_map]
 rw [norm_l,norm_k] at ha
 simp only [ha]
theorem norm_allR (x:Ex):allR (norm x)=allR x:=by
 induction x using Ex.ind with
 | h x ih =>
  rw [allR_eq,allR_eq x,norm_right,norm_l]
  have:∀ l:List Ex,(∀ y ∈ l,y ∈ x.l)→allRs (l.map norm)=allRs l:=by
   intro l
   induction l with
   | nil=>intro _;rfl
   | cons y l ihl=>intro h;simp only [List.map_cons,allRs,ih y (h y (by simp)),ihl fun z hz=>h z (by simp [hz])]
  rw [this x.l fun _ h=>h]
theorem norm_gX (x:Ex):allX gX (norm x) ↔ allX gX x:=by
 induction x using Ex.ind with
 | h x ih =>
  rw [allX_eq,allX_eq gX x,norm_l]
  have:∀ l:List Ex,(∀ y ∈ l,y ∈ x.l)→(allXs gX (l.map norm) ↔ allXs gX l):=by
   intro l
   induction l with
   | nil=>intro _;exact Iff.rfl
   | cons y l ihl=>intro h;simp only [List.map_cons,allXs,ih y (h y (by simp)),ihl fun z hz=>h z (by simp [hz])]
  rw [this x.l fun _ h=>h]
  simp only [gX,norm_var,norm_fld,norm_v]
theorem gX_ok {x:Ex} (h:allX gX x) (hs:sizeX x≤1099511627776):allX okX x∧allX vX x:=by
 induction x using Ex.ind with
 | h x ih =>
  have h':=(allX_eq _ _).1 h
  have hs':=sizeX_eq x
  have hl:=len_sizeXs x.l
  have:∀ l:List Ex,(∀ y ∈ l,y ∈ x.l)→sizeXs l≤1099511627776→allXs okX l∧allXs vX l:=by
   intro l
   induction l with
   | nil=>intro _ _;exact ⟨trivial,trivial⟩
   | cons y l ihl =>
    intro hy hl
    simp only [sizeXs] at hl
    have h1:=ih y (hy y (by simp)) (allXs_mem h'.2 (hy y (by simp))) (by omega)
    have h2:=ihl (fun z hz=>hy z (by simp [hz])) (by omega)
    exact ⟨⟨h1.1,h2.1⟩,h1.2,h2.2⟩
  have:=this x.l (fun _ h=>h) (by omega)
  exact ⟨(allX_eq _ _).2 ⟨⟨by omega,h'.1.1,h'.1.2.1⟩,this.1⟩,(allX_eq _ _).2 ⟨h'.1.2.2,this.2⟩⟩
end Go.Hx
namespace Go.Hx
theorem rp_some (b:Nat):binA Pg .eql 33 true (Pt b) (.raw (.pointer none))=some (B false):=by kernel_rfl
theorem fK0 (t:Tk) (K:AV→Prop):fldK false 0 1 (encK t) K=K (I t.k):=rfl
theorem fK1 (t:Tk) (K:AV→Prop):fldK false 1 1 (encK t) K=K (S t.s):=rfl
theorem fK2 (t:Tk) (K:AV→Prop):fldK false 2 1 (encK t) K=K (I t.p):=rfl
/-- a reader: its tokens, how many were taken -/
structure RI (b:Nat) (L:List Tk) (i:Nat) (H:Heap):Prop where
 obj:∃ s' n' t',H.objs b=some (.cells [.sl s' n' t' (L.map encK),I i])
 len:L.length≤1048576
theorem RS_RI {b:Nat} {r:List Tk} {H:Heap}:RS b r H ↔ ∃ L i,RI b L i H∧L.drop i=r :=
 ⟨fun ⟨L,i,s',n',t',h1,h2,h3⟩=>⟨L,i,⟨⟨s',n',t',h1⟩,h3⟩,h2⟩,fun ⟨L,i,⟨⟨s',n',t',h1⟩,h3⟩,h2⟩=>⟨L,i,s',n',t',h1,h2,h3⟩⟩
theorem RI.get {b i:Nat} {L:List Tk} {H:Heap} {t:Tk} {r:List Tk} (_h:RI b L i H) (e:L.drop i=t::r):L[i]?=some t∧i < L.length∧L.drop (i+1)=r:=by
 have h1:L[i]?=some t:=by
  have:=congrArg (fun l=>l[0]?) e
  simpa using this
 have h2:i < L.length:=by
  rcases Nat.lt_or_ge i L.length with h | h
  ·exact h
  ·rw [List.drop_eq_nil_of_le h] at e;cases e
 refine ⟨h1,h2,?_⟩
 rw [← List.drop_drop,e];rfl
theorem RI.set {b i:Nat} {L:List Tk} {H:Heap} (h:RI b L i H) (j:Nat):∃ o,stH H 1 (Poff b 1) (I j)=some (H.setObj b o)∧RI b L j (H.setObj b o):=by
 obtain ⟨⟨s',n',t',h1⟩,h2⟩:=h
 exact ⟨.cells [.sl s' n' t' (L.map encK),I j],by simp [stH,h1,sizedA,cellsA,spliceA,I],⟨s',n',t',setObj_same _ _ _⟩,h2⟩
theorem c100 {b i:Nat} {L:List Tk} {H:Heap} (h:RI b L i H) (hl:L ≠ []) (Q:Post):E 100 [Pt b] H Q=Q (B false) H:=by
 obtain ⟨⟨s',n',t',h1⟩,h2⟩:=h
 have hz:decide ((L.length:Int)=0)=false:=decide_eq_false (by have:=List.length_pos_iff.2 hl;omega)
 rw [f100_eq,rp_some,ob_some,cnd_f]
 simp only [nil_Pt,ob_some,add_Pt,ld_off h1,part_f,List.getElem?_cons_zero,len_sl,List.length_map,i_eql,hz]
 rw [f100_j4_eq]
theorem ne_of_drop {L r:List Tk} {t:Tk} {i:Nat} (e:L.drop i=t::r):L ≠ []:=fun h=>by subst h;simp at e
theorem c44 {b i:Nat} {L r:List Tk} {t:Tk} {H:Heap} (h:RI b L i H) (e:L.drop i=t::r) (Q:Post):E 44 [Pt b] H Q=Q (encK t) H:=by
 rw [f44_eq,c100 h (ne_of_drop e),cnd_f]
 have hg:=(h.get e).1
 obtain ⟨⟨s',n',t',h1⟩,h2⟩:=h
 have hx:(L.map encK)[i]?=some (encK t):=by rw [List.getElem?_map,hg];rfl
 simp only [nil_Pt,ob_some,add_Pt,ld_off h1,part_f,List.getElem?_cons_zero,List.getElem?_cons_succ,ix_mk 3 n' t' (L.map encK) i hx (encK_sz t),encK_pt,encK_sz,encK_sp]
theorem c44' {b:Nat} {r:List Tk} {t:Tk} {H:Heap} (h:RS b (t::r) H) (Q:Post):E 44 [Pt b] H Q=Q (encK t) H:=by
 obtain ⟨L,i,h1,e⟩:=RS_RI.1 h
 exact c44 h1 e Q
theorem c21 {b:Nat} {r:List Tk} {H:Heap} (h:RS b r H) (he:r ≠ []) (Q:Post):E 21 [Pt b] H Q=Q (I (posn r)) H:=by
 cases r with
 | nil=>exact (he rfl).elim
 | cons t r=>rw [f21_eq,c44' h,fK2];rfl
theorem c268 {b i:Nat} {L r:List Tk} {t:Tk} {H:Heap} (h:RI b L i H) (e:L.drop i=t::r) (hk:t.k ≠ 6) (Q:Post) (hq:∀ o,RI b L (i+1) (H.setObj b o)→Q (encK t) (H.setObj b o)):E 268 [Pt b] H Q:=by
 have hg:=h.get e
 obtain ⟨o,ho,h'⟩:=h.set (i+1)
 have h0:=h
 obtain ⟨⟨s',n',t',h1⟩,h2⟩:=h
 rw [f268_eq,c44 h0 e]
 have hb:binA Pg .neq 3 true (I t.k) (I 6)=some (B true):=by rw [i_neq,decide_eq_false hk];rfl
 simp only [encK_sz,encK_sp,ob_some,part_f,List.getElem?_cons_zero,hb,cnd_t,nil_Pt,add_Pt,ld_off h1,List.getElem?_cons_succ,i_add]
 rw [w64_succ hg.2.1 (by omega),ho,ob_some,f268_j10_eq]
 simp only [encK_pt,encK_sz,encK_sp,ob_some]
 exact hq o h'
theorem c268' {b:Nat} {r:List Tk} {t:Tk} {H:Heap} (h:RS b (t::r) H) (hk:t.k ≠ 6) (Q:Post) (hq:∀ o,RS b r (H.setObj b o)→Q (encK t) (H.setObj b o)):E 268 [Pt b] H Q:=by
 obtain ⟨L,i,h1,e⟩:=RS_RI.1 h
 exact c268 h1 e hk Q (fun o h2=>hq o (RS_RI.2 ⟨L,i+1,h2,(h1.get e).2.2⟩))
/-- takes it, if it is that -/
theorem c206 {b:Nat} {r:List Tk} {H:Heap} (k:Int) (s:ByteArray) (hk:k ≠ 6) (h:RS b r H) (he:r ≠ []) (Q:Post) (h0:nextIs k s r=false→Q (B false) H)
  (h1:∀ t r1 o,r=t::r1→nextIs k s r=true→RS b r1 (H.setObj b o)→Q (B true) (H.setObj b o)):E 206 [Pt b,I k,S s] H Q:=by
 cases r with
 | nil=>exact (he rfl).elim
 | cons t r =>
  rw [f206_eq,c44' h]
  simp only [encK_sz,encK_sp,ob_some,part_f,List.getElem?_cons_zero,List.getElem?_cons_succ,i_neq,s_neq]
  by_cases hk1:t.k=k
  ·rw [decide_eq_true hk1,Bool.not_true,cnd_f,f206_j7_eq]
   by_cases hs1:t.s=s
   ·rw [decide_eq_true hs1,Bool.not_true,cnd_f]
    exact c268' h (hk1 ▸ hk) _ (fun o h2=>h1 t r o rfl (by simp [nextIs,hk1,hs1]) h2)
   ·rw [decide_eq_false hs1,Bool.not_false,cnd_t]
    exact h0 (by simp [nextIs,hs1])
  ·rw [decide_eq_false hk1,Bool.not_false,cnd_t,f206_j7_eq,cnd_t]
   exact h0 (by simp [nextIs,hk1])
theorem c130 {b:Nat} {r:List Tk} {H:Heap} (s:ByteArray) (h:RS b r H) (he:r ≠ []) (Q:Post) (h0:nextIs 1 s r=false→Q (B false) H)
  (h1:∀ t r1 o,r=t::r1→nextIs 1 s r=true→RS b r1 (H.setObj b o)→Q (B true) (H.setObj b o)):E 130 [Pt b,S s] H Q:=by
 rw [f130_eq];exact c206 1 s (by decide) h he _ h0 h1
theorem c228 {b:Nat} {r:List Tk} {H:Heap} (s:ByteArray) (h:RS b r H) (he:r ≠ []) (Q:Post) (h0:nextIs 5 s r=false→Q (B false) H)
  (h1:∀ t r1 o,r=t::r1→nextIs 5 s r=true→RS b r1 (H.setObj b o)→Q (B true) (H.setObj b o)):E 228 [Pt b,S s] H Q:=by
 rw [f228_eq];exact c206 5 s (by decide) h he _ h0 h1
theorem c229 {b:Nat} {r:List Tk} {H:Heap} (h:RS b r H) (he:r ≠ []) (Q:Post) (h0:kindN r ≠ 2→Q (.tup [S e0,B false]) H)
  (h1:∀ t r1 o,r=t::r1→t.k=2→RS b r1 (H.setObj b o)→Q (.tup [S t.s,B true]) (H.setObj b o)):E 229 [Pt b] H Q:=by
 cases r with
 | nil=>exact (he rfl).elim
 | cons t r =>
  rw [f229_eq,c44' h]
  simp only [encK_sz,encK_sp,ob_some,part_f,List.getElem?_cons_zero,List.getElem?_cons_succ,i_neq]
  by_cases hk:t.k=2
  ·rw [decide_eq_true hk,Bool.not_true,cnd_f]
   exact c268' h (by omega) _ (fun o h2=>h1 t r o rfl hk h2)
  ·rw [decide_eq_false hk,Bool.not_false,cnd_t]
   exact h0 hk
theorem c310 {b i:Nat} {L:List Tk} {H:Heap} (h:RI b L i H) (hl:L ≠ []) (Q:Post):E 310 [Pt b] H Q=Q (I i) H:=by
 rw [f310_eq,c100 h hl,cnd_f]
 obtain ⟨⟨s',n',t',h1⟩,h2⟩:=h
 simp only [nil_Pt,ob_some,add_Pt,ld_off h1,part_f,List.getElem?_cons_zero,List.getElem?_cons_succ]
theorem c312 {b i j:Nat} {L:List Tk} {H:Heap} (h:RI b L i H) (hl:L ≠ []) (hj:j≤i) (Q:Post) (hq:∀ o,RI b L j (H.setObj b o)→Q (.tup []) (H.setObj b o)):E 312 [Pt b,I j] H Q:=by
 rw [f312_eq,c100 h hl,not_B,ob_some,Bool.not_false,cnd_t]
 obtain ⟨o,ho,h'⟩:=h.set j
 obtain ⟨⟨s',n',t',h1⟩,h2⟩:=h
 have g0:decide ((0:Int)≤(j:Int))=true:=decide_eq_true (by omega)
 have g1:decide ((j:Int)≤(i:Int))=true:=decide_eq_true (by omega)
 rw [i_geq,g0,ob_some,cnd_t,nil_Pt,ob_some,add_Pt,ob_some,ld_off h1,part_f]
 simp only [List.getElem?_cons_succ,List.getElem?_cons_zero,ob_some,i_leq,g1]
 rw [f312_j2_eq,cnd_t,nil_Pt,ob_some,add_Pt,ob_some,ho,ob_some]
 exact hq o h'
structure PS (H0:Heap) (T:Nat→Nat→Prop) (pb rb:Nat) (r:List Tk) (o e a:Int) (H:Heap):Prop where
 ext:HExt H0 H
 fp:H0.fresh pb
 fr:H0.fresh rb
 ne:pb ≠ rb
 op:H.objs pb=some (.cells [Pt rb,I o,I e,I a])
 rd:RS rb r H
 tp:∀ c n,T c n→H.tips c=some n
section
variable {H0 H:Heap} {T:Nat→Nat→Prop} {pb rb:Nat} {r:List Tk} {o e a:Int} {Q:Post}
theorem PS.mono {H':Heap} (h:PS H0 T pb rb r o e a H) (he:HExt H H'):PS H0 T pb rb r o e a H' :=
 ⟨h.ext.trans he,h.fp,h.fr,h.ne,he.obj h.op,h.rd.mono he,fun c n hc=>by have:=h.tp c n hc;rw [(he c (fun hf=>by rw [hf.2] at this;cases this)).2.1];exact this⟩
theorem PS.setr {ob:AObj} {r1:List Tk} (h:PS H0 T pb rb r o e a H) (hr:RS rb r1 (H.setObj rb ob)):PS H0 T pb rb r1 o e a (H.setObj rb ob) :=
 ⟨h.ext.setObj h.fr _,h.fp,h.fr,h.ne,by rw [setObj_ne _ _ h.ne];exact h.op,hr,h.tp⟩
theorem PS.setp (h:PS H0 T pb rb r o e a H) (o' e' a':Int):PS H0 T pb rb r o' e' a' (H.setObj pb (.cells [Pt rb,I o',I e',I a'])) :=
 ⟨h.ext.setObj h.fp _,h.fp,h.fr,h.ne,setObj_same _ _ _,by
  obtain ⟨L,i,s',n',t',h1,h2⟩:=h.rd
  exact ⟨L,i,s',n',t',by rw [setObj_ne _ _ (Ne.symm h.ne)];exact h1,h2⟩,h.tp⟩
theorem PS.ld0 (h:PS H0 T pb rb r o e a H):ldH H false 1 (Poff pb 0)=some (Pt rb):=by rw [ld_off h.op];rfl
theorem PS.ld1 (h:PS H0 T pb rb r o e a H):ldH H false 1 (Poff pb 1)=some (I o):=by rw [ld_off h.op];rfl
theorem PS.ld2 (h:PS H0 T pb rb r o e a H):ldH H false 1 (Poff pb 2)=some (I e):=by rw [ld_off h.op];rfl
theorem PS.ld3 (h:PS H0 T pb rb r o e a H):ldH H false 1 (Poff pb 3)=some (I a):=by rw [ld_off h.op];rfl
theorem PS.st1 (h:PS H0 T pb rb r o e a H) (n:Int):stH H 1 (Poff pb 1) (I n)=some (H.setObj pb (.cells [Pt rb,I n,I e,I a])):=by simp [stH,h.op,sizedA,cellsA,spliceA,I,Pt]
theorem PS.st2 (h:PS H0 T pb rb r o e a H) (n:Int):stH H 1 (Poff pb 2) (I n)=some (H.setObj pb (.cells [Pt rb,I o,I n,I a])):=by simp [stH,h.op,sizedA,cellsA,spliceA,I,Pt]
theorem PS.st3 (h:PS H0 T pb rb r o e a H) (n:Int):stH H 1 (Poff pb 3) (I n)=some (H.setObj pb (.cells [Pt rb,I o,I e,I n])):=by simp [stH,h.op,sizedA,cellsA,spliceA,I,Pt]
/-- no node -/
def zX:Ex:=.mk 0 nullV e0 e0 0 true .full []
theorem zX_b:bldA [] [I 0,I 0,I 0,S ⟨#[]⟩,S ⟨#[]⟩,S ⟨#[]⟩,AV.sl 0 true .full []]=some (encX zX):=rfl
/-- the first fault is noted -/
theorem c285 (h:PS H0 T pb rb r o 0 a H) (hr:r ≠ []) (e':Int) (hq:∀ H',PS H0 T pb rb r o e' (posn r) H'→Q (encX zX) H'):E 285 [Pt pb,I e'] H Q:=by
 have e0':decide ((0:Int)=0)=true:=rfl
 rw [f285_eq]
 simp only [nil_Pt,ob_some,add_Pt,h.ld2,i_eql,e0',cnd_t,h.ld0]
 rw [c21 h.rd hr]
 have h1:=h.setp o e' a
 have h2:=h1.setp o e' (posn r)
 rw [h.st2,ob_some,h1.st3,ob_some,f285_j8_eq]
 simp only [zX_b,ob_some,szX,splX,partX]
 exact hq _ h2
end
end Go.Hx
namespace Go.Hx
theorem encX_mk (k:Int) (v:Vl) (var fld:ByteArray) (s:Nat) (n:Bool) (t:Tip) (l:List Ex):encX (.mk k v var fld s n t l)=.agg [I k,I v.k,I v.n,S v.s,S var,S fld,.sl s n t (l.map encX)]:=by
 rw [encX,encC_eq];rfl
def shX (x:Ex):Prop:=(x.nil=true ∨ x.sz=7)∧(x.nil=true→x.l=[])
theorem allX_mk {p:Ex→Prop} (k:Int) (v:Vl) (a b:ByteArray) (s:Nat) (n:Bool) (t:Tip) (l:List Ex):allX p (.mk k v a b s n t l) ↔ p (.mk k v a b s n t l)∧allXs p l:=by simp [allX]
theorem sh_leaf (k:Int) (v:Vl) (a b:ByteArray) (s:Nat) (t:Tip):allX shX (.mk k v a b s true t []):=(allX_mk _ _ _ _ _ _ _ _).2 ⟨⟨.inl rfl,fun _=>rfl⟩,trivial⟩
theorem parts_cons (k:Int) (x:Ex) (l:List Ex):partsJ k (x::l)=(if x.k=k then x.l else [x])++partsJ k l:=by simp [partsJ]
theorem parts_len (k:Int) (l:List Ex):(partsJ k l).length≤sizeXs l:=Nat.le_trans (len_sizeXs _) (sizeXs_parts k l)
theorem parts_norm (k:Int) (l:List Ex):partsJ k (l.map norm)=(partsJ k l).map norm:=by
 induction l with
 | nil=>rfl
 | cons x l ih =>
  rw [List.map_cons,parts_cons,parts_cons,ih,List.map_append,norm_k,norm_l]
  split<;>rfl
theorem parts_sh {k:Int} {l:List Ex} (h:∀ x ∈ l,allX shX x):∀ x ∈ partsJ k l,allX shX x:=fun x hx=>by
 simp only [partsJ,List.mem_flatMap] at hx
 obtain ⟨y,hy,hx⟩:=hx
 split at hx
 ·exact allXs_mem ((allX_eq _ _).1 (h y hy)).2 hx
 ·simp at hx;subst hx;exact h _ hy
theorem mk1X (x:Ex):mkSlA 7 [encX x]=some (.sl 7 false .full ([x].map encX)):=by
 simp [mkSlA,szX]
theorem mk2X (x y:Ex):mkSlA 7 [encX x,encX y]=some (.sl 7 false .full ([x,y].map encX)):=by
 simp [mkSlA,szX]
theorem q6X (x:Ex):partA false 6 1 (encC x)=some (encXs x.sz x.nil x.tip x.l):=by rw [encC_eq];rfl
theorem q0X (x:Ex):partA false 0 1 (encC x)=some (I x.k):=by rw [encC_eq];rfl
theorem constb (v:Vl):bldA [(0,1,I 1),(1,3,encV v)] [I 0,I 0,I 0,S ⟨#[]⟩,S ⟨#[]⟩,S ⟨#[]⟩,AV.sl 0 true .full []]=some (encX (.mk 1 v e0 e0 0 true .full [])):=by rw [encX_mk];rfl
theorem rowb (k:Int) (s:Nat) (n:Bool) (t:Tip) (l:List Ex):bldA [(0,1,I k),(6,1,.sl s n t (l.map encX))] [I 0,I 0,I 0,S ⟨#[]⟩,S ⟨#[]⟩,S ⟨#[]⟩,AV.sl 0 true .full []]=some (encX (.mk k nullV e0 e0 s n t l)):=by rw [encX_mk];rfl
theorem norm_mkl (k:Int) (v:Vl) (a b:ByteArray) (s:Nat) (n:Bool) (t:Tip) (l:List Ex):norm (.mk k v a b s n t l)=nd k v a b (l.map norm):=norm_mk _ _ _ _ _ _ _ _
theorem app_man2 {H0 H:Heap} {sz sz' bytes s2:Nat} {nil nil2:Bool} {tip tip2:Tip} {xs ys:List AV} {K:Post} (he:HExt H0 H) (ho:OwnS H0 H sz xs.length tip) (hs:(nil=true ∨ sz'=sz)∧(nil=true→xs=[])) (hs2:nil2=true ∨ s2=sz) (h1:1≤sz)
  (hb:(xs.length+ys.length) * bytes≤140737488355328) (hk:∀ s' n' tip' H',((n'=true ∨ s'=sz)∧(n'=true→xs++ys=[]))→HExt H0 H'→OwnS H0 H' sz (xs++ys).length tip'→K (.sl s' n' tip' (xs++ys)) H') :
  appA sz bytes (.sl sz' nil tip xs) (.sl s2 nil2 tip2 ys) H K:=by
 have ht:tailA sz (.sl s2 nil2 tip2 ys)=some ys:=by simp [tailA,hs2]
 have nf:(false=true ∨ sz=sz)∧((false:Bool)=true→xs++ys=[]):=⟨.inr rfl,fun h=>by cases h⟩
 unfold appA
 simp only [ht]
 cases ys with
 | nil=>have:=hk sz' nil tip H (by simpa using hs) he (by simpa using ho);simpa using this
 | cons y ys =>
  refine ⟨hs.1,h1,hb,?_⟩
  cases tip with
  | any=>exact ho.elim
  | full =>
   intro b hf
   exact hk sz false _ _ nf (he.setTip (he.fresh hf) _) ⟨by simp [Heap.setTip],he.fresh hf⟩
  | tip b0 =>
   refine ⟨ho.1,fun b hf=>?_⟩
   have hf0:H0.fresh b:=by
    rcases hf with rfl | hf
    ·exact ho.2
    ·exact he.fresh hf
   exact hk sz false _ _ nf (he.setTip hf0 _) ⟨by simp [Heap.setTip],hf0⟩
/-- what is made of all parts -/
theorem join_end {H0 H:Heap} {k:Int} (hk:k=16 ∨ k=17) {Q:Post} (l:List Ex) {s:Nat} {n:Bool} {t:Tip} (hn:(n=true ∨ s=7)∧(n=true→partsJ k l=[])) (hsh:∀ x ∈ partsJ k l,allX shX x)
  (hq:∀ y H',HExt H0 H'→norm y=joinE k (l.map norm)→allX shX y→Q (encX y) H') (he:HExt H0 H) (out:List Ex) (ho:out=partsJ k l) :
  (out=[]→Q (encX (.mk 1 (boolV (decide (k=16))) e0 e0 0 true .full [])) H)∧(∀ x,out=[x]→Q (encX x) H)∧(2≤out.length→Q (encX (.mk k nullV e0 e0 s n t out)) H):=by
 subst ho
 have hj:joinE k (l.map norm)=match (partsJ k l).map norm with | []=>nd 1 (boolV (decide (k=16))) e0 e0 [] | [x]=>x | out=>nd k nullV e0 e0 out:=by
  rw [joinE,parts_norm]
  try (generalize (partsJ k l).map norm=z;rcases z with _ | ⟨a,_ | ⟨b,r⟩⟩<;>rfl)
 refine ⟨fun h=>?_,fun x h=>?_,fun h=>?_⟩
 ·refine hq _ H he ?_ (sh_leaf _ _ _ _ _ _)
  rw [hj,h,norm_mkl];rfl
 ·refine hq x H he ?_ (hsh x (by rw [h];simp))
  rw [hj,h];rfl
 ·refine hq _ H he ?_ ((allX_mk _ _ _ _ _ _ _ _).2 ⟨hn,allXs_of hsh⟩)
  rw [hj,norm_mkl]
  cases hp:partsJ k l with
  | nil=>rw [hp] at h;simp at h
  | cons a r =>
   cases r with
   | nil=>rw [hp] at h;simp at h
   | cons b r=>rfl
theorem c186 (k:Int) (hk:k=16 ∨ k=17) (l:List Ex) (s:Nat) (n:Bool) (t:Tip) (hsh:∀ x ∈ l,allX shX x) (hl:sizeXs l≤1099511627776) (H0:Heap) (Q:Post)
  (hq:∀ y H',HExt H0 H'→norm y=joinE k (l.map norm)→allX shX y→Q (encX y) H'):E 186 [I k,.sl s n t (l.map encX)] H0 Q:=by
 have hr:isRowP k=true:=by rcases hk with rfl | rfl<;>rfl
 have hll:=len_sizeXs l
 have loop:∀ (r pre:List Ex) (H:Heap) (s':Nat) (n':Bool) (t':Tip),l=pre++r→HExt H0 H→((n'=true ∨ s'=7)∧(n'=true→partsJ k pre=[]))→OwnS H0 H 7 (partsJ k pre).length t' →
   f186_l16 (I k) [I 0,I 0,I 0,S ⟨#[]⟩,S ⟨#[]⟩,S ⟨#[]⟩,AV.sl 0 true .full []] (.sl s' n' t' ((partsJ k pre).map encX)) (.sl s n t (l.map encX)) (I l.length) (I pre.length) H Q:=by
  intro r
  induction r with
  | nil =>
   intro pre H s' n' t' e he hn ho
   rw [List.append_nil] at e
   subst e
   obtain ⟨h0,h1,h2⟩:=join_end hk l hn (parts_sh hsh) hq he (partsJ k l) rfl (s:=s') (n:=n') (t:=t')
   have hlt:decide ((l.length:Int) < (l.length:Int))=false:=decide_eq_false (by omega)
   rw [f186_l16_eq,i_lss,ob_some,hlt,cnd_f,len_sl,ob_some,List.length_map,i_eql,ob_some]
   cases hp:partsJ k l with
   | nil =>
    rw [List.length_nil,show decide (((0:Nat):Int)=0)=true from rfl,cnd_t,i_eql,ob_some,c251,constb,ob_some,szX,ob_some,splX,ob_some,partX,ob_some]
    exact h0 hp
   | cons a r =>
    have z0:decide (((a::r).length:Int)=0)=false:=decide_eq_false (by simp;omega)
    rw [z0,cnd_f,i_eql,ob_some]
    cases r with
    | nil =>
     have i0:ixaA 7 (.sl s' n' t' (([a]:List Ex).map encX)) (I 0)=some (encC a):=ixX [a] s' n' t' [] [] a rfl
     rw [show decide ((([a]:List Ex).length:Int)=1)=true from rfl,cnd_t,i0,ob_some,partX,ob_some,szX,ob_some,splX,ob_some,partX,ob_some]
     exact h1 a hp
    | cons b r =>
     have z1:decide (((a::b::r).length:Int)=1)=false:=decide_eq_false (by simp;omega)
     rw [z1,cnd_f,rowb,ob_some,szX,ob_some,splX,ob_some,partX,ob_some,← hp]
     exact h2 (by rw [hp];simp)
  | cons x r ih =>
   intro pre H s' n' t' e he hn ho
   have hlt:pre.length < l.length:=by rw [e];simp
   have hlt':decide ((pre.length:Int) < (l.length:Int))=true:=decide_eq_true (by omega)
   have hsz:(partsJ k (pre++[x])).length≤1099511627776:=by
    have h1:partsJ k l=partsJ k (pre++[x])++partsJ k r:=by rw [e];simp [partsJ]
    have h2:=parts_len k l
    rw [h1,List.length_append] at h2;omega
   have hpx:partsJ k (pre++[x])=partsJ k pre++(if x.k=k then x.l else [x]):=by simp [partsJ]
   have hx:allX shX x:=hsh x (by rw [e];simp)
   have next:∀ (s2:Nat) (n2:Bool) (t2:Tip) (H2:Heap),((n2=true ∨ s2=7)∧(n2=true→partsJ k (pre++[x])=[]))→HExt H0 H2→OwnS H0 H2 7 (partsJ k (pre++[x])).length t2 →
     f186_j32 (I k) [I 0,I 0,I 0,S ⟨#[]⟩,S ⟨#[]⟩,S ⟨#[]⟩,AV.sl 0 true .full []] (.sl s2 n2 t2 ((partsJ k (pre++[x])).map encX)) (.sl s n t (l.map encX)) (I l.length) (I pre.length) H2 Q:=fun s2 n2 t2 H2 hn2 he2 ho2=>by
    rw [f186_j32_eq,i_add,ob_some,w64_succ hlt (by omega)]
    have:=ih (pre++[x]) H2 s2 n2 t2 (by rw [e];simp) he2 hn2 ho2
    rw [List.length_append,List.length_singleton] at this
    exact this
   rw [f186_l16_eq,i_lss,ob_some,hlt',cnd_t]
   have hix:ixaA 7 (.sl s n t (l.map encX)) (I pre.length)=some (encC x):=ixX l s n t pre r x e
   rw [hix,ob_some,partX,ob_some,szX,ob_some,splX,ob_some,q0X,ob_some,i_eql,ob_some]
   rw [hpx,List.length_append] at hsz
   refine cnd_intro (fun h1=>?_) (fun h1=>?_)
   ·have h1:x.k=k:=by simpa using h1
    rw [if_pos h1] at hpx hsz
    rw [q6X,ob_some]
    refine app_man2 he (by rw [List.length_map];exact ho) ⟨hn.1,fun h=>by rw [hn.2 h];rfl⟩ ((allX_eq _ _).1 hx).1.1 (by omega) (by simp only [List.length_map];omega) (fun s2 n2 t2 H2 hn2 he2 ho2=>?_)
    rw [← List.map_append,← hpx] at ho2 hn2 ⊢
    rw [List.length_map] at ho2
    exact next s2 n2 t2 H2 ⟨hn2.1,fun h=>List.map_eq_nil_iff.1 (hn2.2 h)⟩ he2 ho2
   ·have h1:x.k ≠ k:=by simpa using h1
    rw [if_neg h1] at hpx hsz
    have hm:=mk1X x
    rw [partX,ob_some,hm,ob_some]
    refine app_man2 he (by rw [List.length_map];exact ho) ⟨hn.1,fun h=>by rw [hn.2 h];rfl⟩ (.inr rfl) (by omega) (by simp only [List.length_map];omega) (fun s2 n2 t2 H2 hn2 he2 ho2=>?_)
    rw [← List.map_append,← hpx] at ho2 hn2 ⊢
    rw [List.length_map] at ho2
    exact next s2 n2 t2 H2 ⟨hn2.1,fun h=>List.map_eq_nil_iff.1 (hn2.2 h)⟩ he2 ho2
 rw [f186_eq,c125,hr,not_B,ob_some,Bool.not_true,cnd_f,len_sl,ob_some,List.length_map]
 exact loop l [] H0 0 true .full rfl (HExt.refl H0) ⟨.inl rfl,fun _=>rfl⟩ trivial
end Go.Hx
namespace Go.Hx
/-- what is answered -/
def Res (H0:Heap) (T:Nat→Nat→Prop) (pb rb:Nat) (o:Nat) (Bd:Nat) (Q:Post):PR→Prop
 | .ok x r1=>∀ y H',norm y=x→allX shX y→PS H0 T pb rb r1 o 0 0 H'→Q (encX y) H'
 | .bad e p=>∀ y H' r1 o',allX shX y→sizeX y≤Bd→r1 ≠ []→PS H0 T pb rb r1 o' e p H'→Q (encX y) H'
theorem zX_sh:allX shX zX:=sh_leaf _ _ _ _ _ _
theorem zX_size:sizeX zX=1:=rfl
theorem constX_sh (v:Vl):allX shX (.mk 1 v e0 e0 0 true .full []):=sh_leaf _ _ _ _ _ _
theorem fieldb (v f:ByteArray):bldA [(0,1,I 2),(4,1,S v),(5,1,S f)] [I 0,I 0,I 0,S ⟨#[]⟩,S ⟨#[]⟩,S ⟨#[]⟩,AV.sl 0 true .full []]=some (encX (.mk 2 nullV v f 0 true .full [])):=by rw [encX_mk];rfl
section
variable {H0 H:Heap} {T:Nat→Nat→Prop} {pb rb:Nat} {r:List Tk} {o:Nat} {Q:Post} {Bd:Nat}
theorem c252 {a e:Int} (h:PS H0 T pb rb r o e a H) (hr:r ≠ []) (k:Int) (s:ByteArray):E 252 [Pt pb,I k,S s] H Q=Q (B (nextIs k s r)) H:=by
 cases r with
 | nil=>exact (hr rfl).elim
 | cons t r =>
  rw [f252_eq,nil_Pt,ob_some,add_Pt,ob_some,h.ld0,ob_some,c44' h.rd]
  simp only [encK_sz,encK_sp,ob_some,part_f,List.getElem?_cons_zero,List.getElem?_cons_succ,i_eql,s_eql,f252_j6_eq,cnd_B,decide_eq_true_eq,nextIs]
  split<;>simp_all
theorem c315 (s:ByteArray) (hs:s.size≤256) (H:Heap) (Q:Post):E 315 [S s] H Q=Q (encV (textV s)) H:=by
 have h0:decide ((256:Int) < (s.size:Int))=false:=decide_eq_false (by omega)
 have hb:bldA [(0,1,I 3),(2,1,S s)] [I 0,I 0,S ⟨#[]⟩]=some (encV (textV s)):=rfl
 have h1:spliceA 0 [I (textV s).k,I (textV s).n,S (textV s).s] [I 0,I 0,S ⟨#[]⟩]=some [I (textV s).k,I (textV s).n,S (textV s).s]:=rfl
 have h2:partA true 0 3 [I (textV s).k,I (textV s).n,S (textV s).s]=some (encV (textV s)):=rfl
 rw [f315_eq,len_S,ob_some,i_gtr,ob_some,h0,cnd_f,hb,ob_some,sz3,ob_some,h1,ob_some,h2,ob_some]
theorem c317 (s:ByteArray) (H:Heap) (Q:Post):E 317 [S s] H Q=Q (match wordV s with | some v=>.tup [encV v,B true] | none=>.tup [encV nullV,B false]) H:=by
 have h1:∀ v:Vl,spliceA 0 [I v.k,I v.n,S v.s] [I 0,I 0,S ⟨#[]⟩]=some [I v.k,I v.n,S v.s]:=fun v=>rfl
 have h2:∀ v:Vl,partA true 0 3 [I v.k,I v.n,S v.s]=some (encV v):=fun v=>rfl
 rw [f317_eq,s_eql,ob_some]
 by_cases g1:s=sTRUE
 ·have hw:wordV s=some (boolV true):=by rw [wordV,if_pos g1]
  rw [hw,decide_eq_true (show s=⟨#[84,82,85,69]⟩ from g1),cnd_t,c251,sz3,ob_some,h1,ob_some,h2,ob_some]
 ·rw [decide_eq_false (show ¬ s=⟨#[84,82,85,69]⟩ from g1),cnd_f,s_eql,ob_some]
  by_cases g2:s=sFALSE
  ·have hw:wordV s=some (boolV false):=by rw [wordV,if_neg g1,if_pos g2]
   rw [hw,decide_eq_true (show s=⟨#[70,65,76,83,69]⟩ from g2),cnd_t,c251,sz3,ob_some,h1,ob_some,h2,ob_some]
  ·rw [decide_eq_false (show ¬ s=⟨#[70,65,76,83,69]⟩ from g2),cnd_f,s_eql,ob_some]
   by_cases g3:s=sNULL
   ·have hw:wordV s=some nullV:=by rw [wordV,if_neg g1,if_neg g2,if_pos g3]
    rw [hw,decide_eq_true (show s=⟨#[78,85,76,76]⟩ from g3),cnd_t,c259,sz3,ob_some,h1,ob_some,h2,ob_some]
   ·have hw:wordV s=none:=by rw [wordV,if_neg g1,if_neg g2,if_neg g3]
    rw [hw,decide_eq_false (show ¬ s=⟨#[78,85,76,76]⟩ from g3),cnd_f,c259,sz3,ob_some,h1,ob_some,h2,ob_some]
/-- a number -/
theorem c311 (m:Bool) {t:Tk} {r:List Tk} (h:PS H0 T pb rb (t::r) o 0 0 H) (hk:t.k=3) (hok:okTk t) (hB:1≤Bd) (hq:Res H0 T pb rb o Bd Q (numR m (t::r))):E 311 [Pt pb,strT (if m=true then [45] else [])] H Q:=by
 obtain ⟨hsz,hdig,_⟩:=hok
 have hdig:=hdig hk
 have hts:t.s=bs (tx t.s):=(bs_tx t.s).symm
 have hlen:(tx t.s).length=t.s.size:=size_list t.s
 have j10:∀ d:AV,d=S (bs (numB (m && !decide (t.s=⟨#[48]⟩)) (tx t.s)))→f311_j10 (Pt pb) [I 0,I 0,I 0,S ⟨#[]⟩,S ⟨#[]⟩,S ⟨#[]⟩,AV.sl 0 true .full []] d H Q:=fun d hd=>by
  subst hd
  have hD:DigL (m && !decide (t.s=⟨#[48]⟩)) (tx t.s):=by
   obtain ⟨h1,h2,h3⟩:=hdig
   refine ⟨h1,h2,?_⟩
   rcases h3 with h3 | ⟨_,h3⟩
   ·exact .inl h3
   ·by_cases h48:t.s=⟨#[48]⟩
    ·right;rw [decide_eq_true h48];exact ⟨by simp,h3⟩
    ·left
     intro hh
     apply h48
     cases hl:tx t.s with
     | nil=>rw [hl] at h3;cases h3
     | cons c l =>
      rw [hl] at h3 hh
      have:l=[]:=by simpa using h3
      subst this
      have hc:c.toNat=48:=by simpa using hh
      have hc:c=48:=UInt8.toNat_inj.1 hc
      rw [hts,hl,hc]
  have hv:numV (m && !decide (t.s=⟨#[48]⟩)) (bs (tx t.s))=numV m t.s:=by
   rw [bs_tx]
   by_cases h48:t.s=⟨#[48]⟩
   ·rw [h48];cases m<;>rfl
   ·rw [decide_eq_false h48];simp
  rw [f311_j10_eq,c269 _ _ (by omega) hD,hv,extN0,ob_some,extN1,ob_some]
  cases hn:numOf m t.s with
  | none =>
   have hN:numV m t.s=(0,10):=by simp only [numV,hn]
   rw [hN,enc_err 10 (by decide),ob_some,cnd_t]
   refine c285 h (by simp) 4 (fun H' h'=>?_)
   simp only [szX,splX,partX,ob_some]
   simp only [numR,hn] at hq
   exact hq zX H' _ _ zX_sh (by rw [zX_size];exact hB) (by simp) h'
  | some n =>
   have hN:numV m t.s=(n,0):=by simp only [numV,hn]
   rw [hN,enc_ok,ob_some,cnd_f]
   simp only [nil_Pt,ob_some,add_Pt,h.ld0]
   refine c268' h.rd (by omega) _ (fun ob1 hr=>?_)
   rw [c319,constb,ob_some,szX,ob_some,splX,ob_some,partX,ob_some]
   simp only [numR,hn] at hq
   exact hq _ _ (by rw [norm_mkl];rfl) (constX_sh _) (h.setr hr)
 rw [f311_eq,nil_Pt,ob_some,add_Pt,ob_some,h.ld0,ob_some,c44' h.rd,fK1,s_neq,ob_some]
 refine cnd_intro (fun h1=>?_) (fun h1=>?_)
 ·have h1:t.s ≠ ⟨#[48]⟩:=by simpa using h1
  have hS:S t.s=strT (tx t.s):=by show S t.s=S (bs (tx t.s));rw [bs_tx]
  rw [hS, s_add _ _ _ _ (by have : (if m = true then [45] else ([] : List UInt8)).length ≤ 1 := by cases m <;> simp
                            omega),ob_some]
  refine j10 _ ?_
  rw [decide_eq_false h1];simp only [Bool.not_false,Bool.and_true];rfl
 ·have h1:t.s=⟨#[48]⟩:=by simpa using h1
  refine j10 _ ?_
  rw [decide_eq_true h1];simp only [Bool.not_true,Bool.and_false,numB,Bool.false_eq_true,if_false,List.nil_append,bs_tx]
/-- a field, behind its Var -/
theorem c316 (v:ByteArray) {a:Int} (h:PS H0 T pb rb r o 0 0 H) (he:endsT r) (hB:1≤Bd) (hq:Res H0 T pb rb o Bd Q (fieldR v r)):E 316 [Pt pb,S v] H Q:=by
 have hr:=endsT_ne he
 rw [f316_eq]
 simp only [nil_Pt,ob_some,add_Pt,h.ld0]
 refine c228 _ h.rd hr _ (fun hn=>?_) (fun t r1 ob1 e hn h1=>?_)
 ·rw [not_B,ob_some,Bool.not_false,cnd_t]
  refine c285 h hr 4 (fun H' h'=>?_)
  simp only [szX,splX,partX,ob_some]
  simp only [fieldR,hn] at hq
  exact hq zX H' _ _ zX_sh (by rw [zX_size];exact hB) hr h'
 ·subst e
  have h2:=h.setr h1
  have he1:=endsT_tail he (by rw [(nextIs_cons hn).1];decide)
  have hr1:=endsT_ne he1
  rw [not_B,ob_some,Bool.not_true,cnd_f]
  rw [h2.ld0,ob_some]
  simp only [fieldR,hn,if_true,List.tail_cons] at hq
  refine c229 h2.rd hr1 _ (fun hk=>?_) (fun u r2 ob2 e hk h3=>?_)
  ·rw [x20,ob_some,x21,ob_some,not_B,ob_some,Bool.not_false,cnd_t]
   refine c285 h2 hr1 4 (fun H' h'=>?_)
   simp only [szX,splX,partX,ob_some]
   cases r1 with
   | nil=>exact (hr1 rfl).elim
   | cons u r2 =>
    simp only [kindN] at hk
    simp only [if_neg hk] at hq
    exact hq zX H' _ _ zX_sh (by rw [zX_size];exact hB) (by simp) h'
  ·subst e
   simp only [if_pos hk] at hq
   rw [x20,ob_some,x21,ob_some,not_B,ob_some,Bool.not_true,cnd_f,fieldb,ob_some,szX,ob_some,splX,ob_some,partX,ob_some]
   exact hq _ _ (by rw [norm_mkl];rfl) (sh_leaf _ _ _ _ _ _) (h2.setr h3)
/-- something within, behind a token -/
theorem c254 {fv:AV} {t:Tk} (h:PS H0 T pb rb (t::r) o 0 0 H) (hk:t.k ≠ 6) (h0:200≤o→∀ H',PS H0 T pb rb (t::r) o 2 t.p H'→Q (encX zX) H')
  (h1:o < 200→∀ H',PS H0 T pb rb r ((o+1:Nat):Int) 0 0 H'→∀ K:Post,(∀ y H2 r1 o1 e a,PS H0 T pb rb r1 o1 e a H2→(∀ H3,PS H0 T pb rb r1 (W64 (o1 - 1)) e a H3→Q (encX y) H3)→K (encX y) H2)→callA (Ev Pg Hs) fv [] H' K):E 254 [Pt pb,fv] H Q:=by
 rw [f254_eq,nil_Pt,ob_some,add_Pt,ob_some,h.ld1,ob_some,i_geq,ob_some]
 refine cnd_intro (fun hc=>?_) (fun hc=>?_)
 ·refine c285 h (by simp) 2 (fun H' h'=>?_)
  simp only [szX,splX,partX,ob_some]
  exact h0 (by simp at hc;omega) H' h'
 ·have hc:o < 200:=by simp at hc;omega
  simp only [nil_Pt,ob_some,add_Pt,h.ld0]
  refine c268' h.rd hk _ (fun ob1 hr=>?_)
  have h2:=h.setr hr
  have hw:W64 ((o:Int)+1)=((o+1:Nat):Int):=w64_succ (n:=1000) (by omega) (by omega)
  have h3:=h2.setp ((o+1:Nat):Int) 0 0
  rw [h2.ld1,ob_some,i_add,ob_some,hw,h2.st1,ob_some]
  refine h1 hc _ h3 _ (fun y H2 r1 o1 e a h4 hQ=>?_)
  have h5:=h4.setp (W64 (o1 - 1)) e a
  rw [szX,ob_some,splX,ob_some,h4.ld1,ob_some,i_sub,ob_some,h4.st1,ob_some,partX,ob_some,szX,ob_some,splX,ob_some,partX,ob_some]
  exact hQ _ h5
/-- the next sign of two parts -/
theorem c284 {lo hi:Int} (h:PS H0 T pb rb r o 0 0 H) (hr:r ≠ []) (h0:opOf lo hi r=none→∀ H',PS H0 T pb rb r o 0 0 H'→Q (.tup [I 0,B false]) H')
  (h1:∀ t r1 k H',r=t::r1→opOf lo hi r=some k→PS H0 T pb rb r1 o 0 0 H'→Q (.tup [I k,B true]) H'):E 284 [Pt pb,I lo,I hi] H Q:=by
 cases r with
 | nil=>exact (hr rfl).elim
 | cons t r =>
  have loop:∀ (m j:Nat) (H:Heap),j+m=11→PS H0 T pb rb (t::r) o 0 0 H→((if t.k=5 then opI lo hi t.s m j else none)=none→∀ H',PS H0 T pb rb (t::r) o 0 0 H'→Q (.tup [I 0,B false]) H') →
    (∀ k H',(if t.k=5 then opI lo hi t.s m j else none)=some k→PS H0 T pb rb r o 0 0 H'→Q (.tup [I k,B true]) H')→f284_l6 (Pt pb) (I lo) (I hi) (.agg signC) (I j) H Q:=by
   intro m
   induction m with
   | zero =>
    intro j H e h h0 h1
    have:decide ((j:Int) < 11)=false:=decide_eq_false (by omega)
    rw [f284_l6_eq,i_lss,ob_some,this,cnd_f]
    exact h0 (by simp only [opI];split<;>rfl) H h
   | succ m ih =>
    intro j H e h h0 h1
    have hlt:decide ((j:Int) < 11)=true:=decide_eq_true (by omega)
    have hj:j < 11:=by omega
    have hix:ixAgg 11 true 2 (.agg signC) (I j)=some (.agg [S (opS j),I ((j:Int)+4)]):=by
     clear ih e h h0 h1 hlt
     match j,hj with
     | 0,_ | 1,_ | 2,_ | 3,_ | 4,_ | 5,_ | 6,_ | 7,_ | 8,_ | 9,_ | 10,_=>rfl
     | n+11,h=>exact absurd h (by omega)
    have hsz:sizedA 2 (.agg [S (opS j),I ((j:Int)+4)])=some [S (opS j),I ((j:Int)+4)]:=rfl
    have hsp:spliceA 0 [S (opS j),I ((j:Int)+4)] [S ⟨#[]⟩,I 0]=some [S (opS j),I ((j:Int)+4)]:=rfl
    have next:(∀ (X:Prop),(if t.k=5 then opI lo hi t.s (m+1) j else none)=(if t.k=5 then opI lo hi t.s m (j+1) else none))→∀ H',PS H0 T pb rb (t::r) o 0 0 H' →
      f284_j19 (Pt pb) (I lo) (I hi) [S (opS j),I ((j:Int)+4)] (.agg signC) (I j) (B false) H' Q:=fun hx H' h'=>by
     have hx:=hx True
     rw [f284_j19_eq,cnd_f,i_add,ob_some,w64_succ (n:=11) hj (by omega)]
     exact ih (j+1) H' (by omega) h' (fun h=>h0 (hx.trans h)) (fun k H2 h=>h1 k H2 (hx.trans h))
    rw [f284_l6_eq,i_lss,ob_some,hlt,cnd_t,hix,ob_some,hsz,ob_some,hsp,ob_some,part_f]
    simp only [List.getElem?_cons_succ,List.getElem?_cons_zero,ob_some,i_geq,i_leq,part_f]
    refine cnd_intro (fun g1=>?_) (fun g1=>?_)
    ·have g1:lo≤(j:Int)+4:=by simpa using g1
     refine cnd_intro (fun g2=>?_) (fun g2=>?_)
     ·have g2:(j:Int)+4≤hi:=by simpa using g2
      simp only [nil_Pt,ob_some,add_Pt,h.ld0]
      refine c228 _ h.rd (by simp) _ (fun hn=>?_) (fun t' r' ob1 e' hn hr'=>?_)
      ·refine next (fun _=>?_) H h
       by_cases h5:t.k=5
       ·have hs:t.s ≠ opS j:=fun hs=>by simp [nextIs,h5,hs] at hn
        rw [if_pos h5,if_pos h5,opI,if_neg (fun hh=>hs hh.2.2)]
       ·rw [if_neg h5,if_neg h5]
      ·cases e'
       have hc:=nextIs_cons hn
       have h2:=h.setr hr'
       rw [f284_j19_eq,cnd_t,part_f]
       simp only [List.getElem?_cons_succ,List.getElem?_cons_zero,ob_some]
       exact h1 _ _ (by rw [if_pos hc.1,opI,if_pos ⟨g1,g2,hc.2⟩]) h2
     ·have g2:¬ (j:Int)+4≤hi:=by simpa using g2
      refine next (fun _=>?_) H h
      split
      ·rw [opI,if_neg (fun hh=>g2 hh.2.1)]
      ·rfl
    ·have g1:¬ lo≤(j:Int)+4:=by simpa using g1
     refine next (fun _=>?_) H h
     split
     ·rw [opI,if_neg (fun hh=>g1 hh.1)]
     ·rfl
  rw [f284_eq]
  refine c261 H _ (fun H1 e1=>?_)
  exact loop 11 0 H1 rfl (h.mono e1) (fun hh=>h0 hh) (fun k H' hh h'=>h1 t r k H' rfl hh h')
end
end Go.Hx
