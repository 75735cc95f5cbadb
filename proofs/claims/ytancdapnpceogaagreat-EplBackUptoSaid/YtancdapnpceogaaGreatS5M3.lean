/- The program's parser reads what the grammar says. Own work. And what builds on it. -/
import Derived.Test.YtancdapnpceogaaGreatS5M2
import Derived.Test.YtancdapnpceogaaGreatS5M1
set_option maxRecDepth 20000
namespace Go.Hx
theorem splX2 (x y:Ex):spliceA 0 (encC x) (encC y)=some (encC x):=by rw [encC_eq,encC_eq y];rfl
def copyQ (Q:Post):Post:=fun r1 H=>ob (sizedA 7 r1) fun b3=>ob (spliceA 0 b3 [I 0,I 0,I 0,S ⟨#[]⟩,S ⟨#[]⟩,S ⟨#[]⟩,AV.sl 0 true .full []]) fun b4=>ob (partA true 0 7 b4) fun r5=>Q r5 H
theorem copyX (Q:Post) (y:Ex) (H:Heap):copyQ Q (encX y) H=Q (encX y) H:=by simp only [copyQ,szX,splX,partX,ob_some]
def OwnT (T:Nat→Nat→Prop):Tip→Prop
 | .tip c=>∀ n,¬ T c n
 | _=>True
def T2 (T:Nat→Nat→Prop) (n:Nat) (t:Tip):Nat→Nat→Prop:=fun c m=>T c m ∨ (t=.tip c∧m=n)
section
variable {H0 H:Heap} {T:Nat→Nat→Prop} {pb rb:Nat} {r:List Tk} {o e a:Int} {Q:Post}
theorem PS.up {sz n:Nat} {t:Tip} (h:PS H0 T pb rb r o e a H) (ho:OwnS H0 H sz n t):PS H0 (T2 T (n * sz) t) pb rb r o e a H :=
 ⟨h.ext,h.fp,h.fr,h.ne,h.op,h.rd,fun c m hc=>by
  rcases hc with hc | ⟨hc,rfl⟩
  ·exact h.tp c m hc
  ·subst hc;exact ho.1⟩
theorem PS.down {n:Nat} {t:Tip} (h:PS H0 (T2 T n t) pb rb r o e a H):PS H0 T pb rb r o e a H:=⟨h.ext,h.fp,h.fr,h.ne,h.op,h.rd,fun c m hc=>h.tp c m (.inl hc)⟩
theorem PS.own {H1:Heap} {sz n:Nat} {t:Tip} (h:PS H0 (T2 T (n * sz) t) pb rb r o e a H) (ho:OwnS H0 H1 sz n t):OwnS H0 H sz n t:=by
 cases t with
 | any=>exact ho
 | full=>exact ho
 | tip d=>exact ⟨h.tp d _ (.inr ⟨rfl,rfl⟩),ho.2⟩
theorem app_ps {ys:List Ex} {y:Ex} {s':Nat} {n':Bool} {t':Tip} {K:Post} (h:PS H0 T pb rb r o e a H) (ho:OwnS H0 H 7 ys.length t') (ht:OwnT T t') (hn:n'=true ∨ s'=7) (hl:ys.length≤1099511627775)
  (hk:∀ s2 n2 t2 H2,(n2=true ∨ s2=7)→PS H0 T pb rb r o e a H2→OwnS H0 H2 7 (ys++[y]).length t2→OwnT T t2→K (.sl s2 n2 t2 ((ys++[y]).map encX)) H2) :
  appA 7 96 (.sl s' n' t' (ys.map encX)) (.sl 7 false .full ([y].map encX)) H K:=by
 have hta:tailA 7 (.sl 7 false .full ([y].map encX))=some [encX y]:=by simp [tailA]
 have ps:∀ b m,H0.fresh b→(∀ n,¬ T b n)→PS H0 T pb rb r o e a (H.setTip b m):=fun b m hb hT =>
  ⟨h.ext.setTip hb m,h.fp,h.fr,h.ne,h.op,h.rd,fun c n hc=>by
   have hne:c ≠ b:=fun e=>hT n (e ▸ hc)
   simp only [Heap.setTip,if_neg hne]
   exact h.tp c n hc⟩
 unfold appA
 simp only [hta,List.length_map,List.length_singleton]
 refine ⟨hn,by omega,by omega,?_⟩
 have hnew:∀ b,H.fresh b→(∀ n,¬ T b n):=fun b hb n hc=>by have:=h.tp b n hc;rw [hb.2] at this;cases this
 have fin:∀ b,H0.fresh b→(∀ n,¬ T b n)→K (.sl 7 false (.tip b) (ys.map encX++[encX y])) (H.setTip b ((ys.length+1) * 7)):=fun b hb hT=>by
  have:=hk 7 false (.tip b) _ (.inr rfl) (ps b ((ys.length+1) * 7) hb hT) ⟨by simp [Heap.setTip],hb⟩ hT
  simpa using this
 cases t' with
 | any=>exact ho.elim
 | full=>intro b hf;exact fin b (h.ext.fresh hf) (hnew b hf)
 | tip b0 =>
  refine ⟨by simpa using ho.1,fun b hf=>?_⟩
  rcases hf with rfl | hf
  ·exact fin b ho.2 ht
  ·exact fin b (h.ext.fresh hf) (hnew b hf)
end
def rowF (b:Bool):Nat:=if b=true then 109 else 187
def leftF (b:Bool):Nat:=if b=true then 301 else 306
def bnd:Gl→List Tk→Nat
 | .more _ l,r=>2 * r.length+sizeXs l
 | .lmore _ x,r=>2 * r.length+sizeX x
 | _,r=>2 * r.length+1
def preG:Gl→List Tk→Prop
 | .more _ l,r=>l ≠ []∧sizeXs l+r.length≤2097152
 | _,_=>True
/-- a goal, run -/
def Run (H0:Heap) (T:Nat→Nat→Prop) (pb:Nat):Gl→Heap→Post→Prop
 | .row b,H,Q=>E (if b=true then 49 else 109) [Pt pb] H Q
 | .more b l,H,Q=>∀ (ys:List Ex) (s':Nat) (n':Bool) (t':Tip),ys.map norm=l→(∀ y ∈ ys,allX shX y)→(n'=true ∨ s'=7)→OwnS H0 H 7 ys.length t'→OwnT T t' →
   f108_l6 (Pt pb) (I (rowK b)) (S (rowW b)) (.fn (.func (rowF b)) [Pt pb] []) [I 0,I 0,I 0,S ⟨#[]⟩,S ⟨#[]⟩,S ⟨#[]⟩,AV.sl 0 true .full []] (.sl s' n' t' (ys.map encX)) H Q
 | .not,H,Q=>E 187 [Pt pb] H Q
 | .cmp,H,Q=>E 253 [Pt pb] H Q
 | .left b,H,Q=>E (if b=true then 283 else 301) [Pt pb] H Q
 | .lmore b x,H,Q=>∀ y:Ex,norm y=x→allX shX y→f300_l6 (Pt pb) (I (leftLo b)) (I (leftHi b)) (.fn (.func (leftF b)) [Pt pb] []) [I 0,I 0,I 0,S ⟨#[]⟩,S ⟨#[]⟩,S ⟨#[]⟩,AV.sl 0 true .full []] (encC y) H Q
 | .neg,H,Q=>E 306 [Pt pb] H Q
 | .last,H,Q=>E 309 [Pt pb] H Q
theorem callR {H0:Heap} {T:Nat→Nat→Prop} {pb:Nat} (b:Bool) {H:Heap} {Q:Post} (h:Run H0 T pb (rowP b) H Q):callA (Ev Pg Hs) (.fn (.func (rowF b)) [Pt pb] []) [] H Q:=by cases b<;>exact h
theorem callL {H0:Heap} {T:Nat→Nat→Prop} {pb:Nat} (b:Bool) {H:Heap} {Q:Post} (h:Run H0 T pb (leftP b) H Q):callA (Ev Pg Hs) (.fn (.func (leftF b)) [Pt pb] []) [] H Q:=by cases b<;>exact h
theorem rowE {H0:Heap} {T:Nat→Nat→Prop} {pb:Nat} (b:Bool) {H:Heap} {Q:Post} (h:Run H0 T pb (rowP b) H fun r1 H2=>ob (mkSlA 7 [r1]) fun r3=>f108_l6 (Pt pb) (I (rowK b)) (S (rowW b)) (.fn (.func (rowF b)) [Pt pb] []) [I 0,I 0,I 0,S ⟨#[]⟩,S ⟨#[]⟩,S ⟨#[]⟩,AV.sl 0 true .full []] r3 H2 (copyQ Q)):Run H0 T pb (.row b) H Q:=by
 cases b
 ·show E 109 [Pt pb] H Q
  rw [f109_eq,f108_eq]
  exact h
 ·show E 49 [Pt pb] H Q
  rw [f49_eq,f108_eq]
  exact h
theorem leftE {H0:Heap} {T:Nat→Nat→Prop} {pb:Nat} (b:Bool) {H:Heap} {Q:Post} (h:Run H0 T pb (leftP b) H fun r1 H2=>ob (sizedA 7 r1) fun b3=>ob (spliceA 0 b3 [I 0,I 0,I 0,S ⟨#[]⟩,S ⟨#[]⟩,S ⟨#[]⟩,AV.sl 0 true .full []]) fun b4=>f300_l6 (Pt pb) (I (leftLo b)) (I (leftHi b)) (.fn (.func (leftF b)) [Pt pb] []) [I 0,I 0,I 0,S ⟨#[]⟩,S ⟨#[]⟩,S ⟨#[]⟩,AV.sl 0 true .full []] b4 H2 (copyQ Q)):Run H0 T pb (.left b) H Q:=by
 cases b
 ·show E 301 [Pt pb] H Q
  rw [f301_eq,f300_eq]
  exact h
 ·show E 283 [Pt pb] H Q
  rw [f283_eq,f300_eq]
  exact h
theorem bnd_row (b:Bool) (r:List Tk):bnd (rowP b) r=2 * r.length+1:=by cases b<;>rfl
theorem bnd_left (b:Bool) (r:List Tk):bnd (leftP b) r=2 * r.length+1:=by cases b<;>rfl
theorem pre_row (b:Bool) (r:List Tk):preG (rowP b) r:=by cases b<;>trivial
theorem pre_left (b:Bool) (r:List Tk):preG (leftP b) r:=by cases b<;>trivial
theorem size_row {b:Bool} {o:Nat} {r r1:List Tk} {x:Ex} (h:P (rowP b) o r (.ok x r1)):sizeX x+r1.length≤r.length:=by have:=P_size h;cases b<;>exact this
theorem size_left {b:Bool} {o:Nat} {r r1:List Tk} {x:Ex} (h:P (leftP b) o r (.ok x r1)):sizeX x+r1.length≤r.length:=by have:=P_size h;cases b<;>exact this
theorem sizeXs_norm (l:List Ex):sizeXs (l.map norm)=sizeXs l:=by
 induction l with
 | nil=>rfl
 | cons x l ih=>simp only [List.map_cons,sizeXs,norm_size,ih]
section
variable {H0:Heap} {pb rb:Nat}
theorem PS.rlen {H:Heap} {T:Nat→Nat→Prop} {r:List Tk} {o e a:Int} (h:PS H0 T pb rb r o e a H):r.length≤1048576:=by
 obtain ⟨L,i,s',n',t',h1,h2,h3⟩:=h.rd
 rw [← h2,List.length_drop];omega
/-- the parts are joined -/
theorem j10_end {H:Heap} {T:Nat→Nat→Prop} {r:List Tk} {o e a:Int} {Q:Post} (h:PS H0 T pb rb r o e a H) (b:Bool) (fv:AV) (ys:List Ex) (s':Nat) (n':Bool) (t':Tip) (hsh:∀ y ∈ ys,allX shX y) (hl:sizeXs ys≤1099511627776)
  (hq:∀ z H',norm z=joinE (rowK b) (ys.map norm)→allX shX z→PS H0 T pb rb r o e a H'→Q (encX z) H') :
  f108_j10 (Pt pb) (I (rowK b)) (S (rowW b)) fv [I 0,I 0,I 0,S ⟨#[]⟩,S ⟨#[]⟩,S ⟨#[]⟩,AV.sl 0 true .full []] (.sl s' n' t' (ys.map encX)) (B false) H Q:=by
 rw [f108_j10_eq,cnd_f]
 refine c186 (rowK b) (by cases b;exact .inl rfl;exact .inr rfl) ys s' n' t' hsh hl H _ (fun z H' he hz hzs=>?_)
 simp only [szX,splX,partX,ob_some]
 exact hq z H' hz hzs (h.mono he)
/-- behind a fault: the parts are joined -/
theorem l6_bad {H:Heap} {T:Nat→Nat→Prop} {r:List Tk} {o e a:Int} {Q:Post} (h:PS H0 T pb rb r o e a H) (he:e ≠ 0) (b:Bool) (fv:AV) (ys:List Ex) (s':Nat) (n':Bool) (t':Tip) (hsh:∀ y ∈ ys,allX shX y) (hl:sizeXs ys≤1099511627776)
  (hq:∀ z H',norm z=joinE (rowK b) (ys.map norm)→allX shX z→PS H0 T pb rb r o e a H'→Q (encX z) H') :
  f108_l6 (Pt pb) (I (rowK b)) (S (rowW b)) fv [I 0,I 0,I 0,S ⟨#[]⟩,S ⟨#[]⟩,S ⟨#[]⟩,AV.sl 0 true .full []] (.sl s' n' t' (ys.map encX)) H Q:=by
 rw [f108_l6_eq,nil_Pt,ob_some,add_Pt,ob_some,h.ld2,ob_some,i_eql,ob_some,decide_eq_false he,cnd_f]
 exact j10_end h b fv ys s' n' t' hsh hl hq
theorem join_size_le {k:Int} {z:Ex} {ys:List Ex} (h:norm z=joinE k (ys.map norm)) (hy:ys ≠ []):sizeX z≤sizeXs ys+if ys.length≤1 then 0 else 1:=by
 have:=size_join k (ys.map norm) (by simpa using hy)
 rw [← h,norm_size,sizeXs_norm,List.length_map] at this;exact this
def negQ (Q:Post):Post:=fun r36 H37=>ob (sizedA 7 r36) fun b38=>ob (spliceA 0 b38 [I 0,I 0,I 0,S ⟨#[]⟩,S ⟨#[]⟩,S ⟨#[]⟩,AV.sl 0 true .full []]) fun b39=>ob (partA true 0 7 b39) fun r40=>ob (mkSlA 7 [r40]) fun r41=>ob (bldA [(0,1,I 3),(6,1,r41)] [I 0,I 0,I 0,S ⟨#[]⟩,S ⟨#[]⟩,S ⟨#[]⟩,AV.sl 0 true .full []]) fun r42=>ob (sizedA 7 r42) fun b43=>ob (spliceA 0 b43 [I 0,I 0,I 0,S ⟨#[]⟩,S ⟨#[]⟩,S ⟨#[]⟩,AV.sl 0 true .full []]) fun b44=>ob (partA true 0 7 b44) fun r45=>Q r45 H37
theorem negX (Q:Post) (y:Ex) (H:Heap):negQ Q (encX y) H=Q (encX (.mk 3 nullV e0 e0 7 false .full [y])) H:=by
 rw [negQ,szX,ob_some,splX,ob_some,partX,ob_some,mk1X,ob_some,rowb,ob_some,szX,ob_some,splX,ob_some,partX,ob_some]
theorem neg_pre {H:Heap} {T:Nat→Nat→Prop} {t:Tk} {r:List Tk} {o:Nat} {Q:Post} (hps:PS H0 T pb rb (t::r) o 0 0 H) (hn:nextIs 5 wMinus (t::r)=true) (hr:r ≠ [])
  (h3:kindN r=3→∀ H',PS H0 T pb rb r o 0 0 H'→E 311 [Pt pb,strT (if true=true then [45] else [])] H' (copyQ Q)) (h4:kindN r ≠ 3→∀ H',PS H0 T pb rb (t::r) o 0 0 H'→E 254 [Pt pb,.fn (.func 306) [Pt pb] []] H' (negQ Q)):E 306 [Pt pb] H Q:=by
 have hk:=(nextIs_cons hn).1
 have hn:nextIs 5 ⟨#[45]⟩ (t::r)=true:=hn
 rw [f306_eq,c252 hps (by simp),hn,not_B,ob_some,Bool.not_true,cnd_f]
 simp only [nil_Pt,ob_some,add_Pt,hps.ld0]
 obtain ⟨L,i,hri,e⟩:=RS_RI.1 hps.rd
 rw [c310 hri (ne_of_drop e),hps.ld0,ob_some]
 refine c268 hri e (by omega) _ (fun o1 h2=>?_)
 have e2:=(hri.get e).2.2
 have ps2:=hps.setr (RS_RI.2 ⟨L,i+1,h2,e2⟩)
 cases r with
 | nil=>exact (hr rfl).elim
 | cons u r2 =>
  rw [ps2.ld0,ob_some,c44 h2 e2,fK0,i_eql,ob_some]
  refine cnd_intro (fun h5=>?_) (fun h5=>?_)
  ·exact h3 (by simpa [kindN] using h5) _ ps2
  ·rw [ps2.ld0,ob_some]
   refine c312 h2 (ne_of_drop e) (by omega) _ (fun o2 h6=>?_)
   exact h4 (by simpa [kindN] using h5) _ (ps2.setr (RS_RI.2 ⟨L,i,h6,e⟩))
theorem last_pre {H:Heap} {T:Nat→Nat→Prop} {r:List Tk} {o:Nat} {Q:Post} (hps:PS H0 T pb rb r o 0 0 H) (hn:nextIs 5 wOpen r=true) (h:E 254 [Pt pb,.fn (.func 318) [Pt pb] []] H (copyQ Q)):E 309 [Pt pb] H Q:=by
 obtain ⟨t,r1,rfl,hk,hs⟩:=nextIs_ne hn
 have hs:t.s=⟨#[40]⟩:=hs
 have d3:decide ((5:Int)=3)=false:=rfl
 have d4:decide ((5:Int)=4)=false:=rfl
 have d2:decide ((5:Int)=2)=false:=rfl
 have d1:decide ((5:Int)=1)=false:=rfl
 have d5:decide ((5:Int)=5)=true:=rfl
 rw [f309_eq,nil_Pt,ob_some,add_Pt,ob_some,hps.ld0,ob_some,c44' hps.rd]
 simp only [encK_sz,encK_sp,ob_some,part_f,List.getElem?_cons_zero,List.getElem?_cons_succ]
 simp only [i_eql,hk,d3,d4,d2,d1,d5,cnd_f,cnd_t,s_eql,hs,ob_some]
 simp only [decide_true,cnd_t]
 exact h
/-- a part in parentheses -/
theorem c318 {H:Heap} {T:Nat→Nat→Prop} {r:List Tk} {o:Nat} {Q:Post} (h:E 49 [Pt pb] H fun r1 H2=>ob (sizedA 7 r1) fun b3=>ob (spliceA 0 b3 [I 0,I 0,I 0,S ⟨#[]⟩,S ⟨#[]⟩,S ⟨#[]⟩,AV.sl 0 true .full []]) fun b4=>ob (ldH H2 false 1 (Poff pb 2)) fun r7=>ob (binA Pg .eql 27 true r7 (I 0)) fun r8=>cndA r8 (ob (ldH H2 false 1 (Poff pb 0)) fun r11=>E 228 [r11,S wShut] H2 fun r12 H13=>ob (unA .not r12) fun r14=>f318_j7 (Pt pb) [I 0,I 0,I 0,S ⟨#[]⟩,S ⟨#[]⟩,S ⟨#[]⟩,AV.sl 0 true .full []] b4 r14 H13 Q) (f318_j7 (Pt pb) [I 0,I 0,I 0,S ⟨#[]⟩,S ⟨#[]⟩,S ⟨#[]⟩,AV.sl 0 true .full []] b4 (B false) H2 Q)):E 318 [Pt pb] H Q:=by
 rw [f318_eq]
 simp only [nil_Pt,ob_some,add_Pt]
 exact h
theorem atom_run {H:Heap} {T:Nat→Nat→Prop} {r:List Tk} {o:Nat} {Q:Post} {Bd:Nat} (hps:PS H0 T pb rb r o 0 0 H) (he:endsT r) (hok:∀ t ∈ r,okTk t) (hn:nextIs 5 wOpen r=false) (hB:1≤Bd) (hq:Res H0 T pb rb o Bd Q (atomR r)):E 309 [Pt pb] H Q:=by
 cases r with
 | nil=>exact he.elim
 | cons t r =>
  have ht:=hok t (by simp)
  have hqc:∀ R,Res H0 T pb rb o Bd Q R→Res H0 T pb rb o Bd (copyQ Q) R:=fun R hR=>by
   cases R with
   | ok z r2=>intro w H2 hw hws h2;rw [copyX];exact hR w H2 hw hws h2
   | bad e p=>intro w H2 r2 o' hws hsz hr2 h2;rw [copyX];exact hR w H2 r2 o' hws hsz hr2 h2
  have fail:Res H0 T pb rb o Bd Q (.bad 4 t.p)→f309_j55 (Pt pb) [I 0,I 0,I 0,S ⟨#[]⟩,S ⟨#[]⟩,S ⟨#[]⟩,AV.sl 0 true .full []] H Q:=fun hf=>by
   rw [f309_j55_eq]
   refine c285 hps (by simp) 4 (fun H' h'=>?_)
   simp only [szX,splX,partX,ob_some]
   exact hf zX H' _ _ zX_sh (by rw [zX_size];exact hB) (by simp) h'
  simp only [atomR] at hq
  rw [f309_eq,nil_Pt,ob_some,add_Pt,ob_some,hps.ld0,ob_some,c44' hps.rd]
  simp only [encK_sz,encK_sp,ob_some,part_f,List.getElem?_cons_zero,List.getElem?_cons_succ,i_eql]
  refine cnd_intro (fun h3=>?_) (fun h3=>?_)
  ·have h3:t.k=3:=by simpa using h3
   rw [if_pos h3] at hq
   exact c311 false hps h3 ht hB (hqc _ hq)
  have h3:t.k ≠ 3:=by simpa using h3
  rw [if_neg h3] at hq
  refine cnd_intro (fun h4=>?_) (fun h4=>?_)
  ·have h4:t.k=4:=by simpa using h4
   rw [if_pos h4] at hq
   simp only [nil_Pt,ob_some,add_Pt,hps.ld0]
   refine c268' hps.rd (by omega) _ (fun o1 h1=>?_)
   rw [c315 _ (ht.2.2 h4),constb,ob_some,szX,ob_some,splX,ob_some,partX,ob_some]
   exact hq _ _ (by rw [norm_mkl];rfl) (constX_sh _) (hps.setr h1)
  have h4:t.k ≠ 4:=by simpa using h4
  rw [if_neg h4] at hq
  refine cnd_intro (fun h2=>?_) (fun h2=>?_)
  ·have h2:t.k=2:=by simpa using h2
   rw [if_pos h2] at hq
   simp only [nil_Pt,ob_some,add_Pt,hps.ld0]
   refine c268' hps.rd (by omega) _ (fun o1 h1=>?_)
   exact c316 t.s (a:=0) (hps.setr h1) (endsT_tail he (by omega)) hB (hqc _ hq)
  have h2:t.k ≠ 2:=by simpa using h2
  rw [if_neg h2] at hq
  refine cnd_intro (fun h1=>?_) (fun h1=>?_)
  ·have h1:t.k=1:=by simpa using h1
   rw [if_pos h1] at hq
   have v1:∀ v:Vl,spliceA 0 [I v.k,I v.n,S v.s] [I 0,I 0,S ⟨#[]⟩]=some [I v.k,I v.n,S v.s]:=fun v=>rfl
   have v2:∀ v:Vl,partA true 0 3 [I v.k,I v.n,S v.s]=some (encV v):=fun v=>rfl
   rw [c317]
   cases hw:wordV t.s with
   | none =>
    simp only [hw] at hq
    simp only [x20,x21,ob_some,sz3,v1,cnd_f]
    exact fail hq
   | some v =>
    simp only [hw] at hq
    simp only [x20,x21,ob_some,sz3,v1,cnd_t,nil_Pt,add_Pt,hps.ld0]
    refine c268' hps.rd (by omega) _ (fun o1 h1=>?_)
    rw [v2,ob_some,constb,ob_some,szX,ob_some,splX,ob_some,partX,ob_some]
    exact hq _ _ (by rw [norm_mkl];rfl) (constX_sh _) (hps.setr h1)
  have h1:t.k ≠ 1:=by simpa using h1
  rw [if_neg h1] at hq
  refine cnd_intro (fun h5=>?_) (fun h5=>?_)
  ·have h5:t.k=5:=by simpa using h5
   have hs:t.s ≠ ⟨#[40]⟩:=fun hs=>by
    have:nextIs 5 wOpen (t::r)=true:=by simp [nextIs,h5,wOpen,hs]
    rw [hn] at this;cases this
   rw [s_eql,ob_some,decide_eq_false hs,cnd_f]
   exact fail hq
  ·exact fail hq
theorem run_all {g:Gl} {o:Nat} {r:List Tk} {R:PR} (h:P g o r R):∀ (T:Nat→Nat→Prop) (H:Heap) (Q:Post),endsT r→(∀ t ∈ r,okTk t)→preG g r→PS H0 T pb rb r o 0 0 H→Res H0 T pb rb o (bnd g r) Q R→Run H0 T pb g H Q:=by
 have tl:∀ {k:Int} {s:ByteArray} {t:Tk} {r:List Tk},k ≠ 6→nextIs k s (t::r)=true→endsT (t::r)→endsT r:=fun hk h he=>endsT_tail he (by rw [(nextIs_cons h).1];exact hk)
 have tl5:∀ {lo hi k:Int} {t:Tk} {r:List Tk},opOf lo hi (t::r)=some k→endsT (t::r)→endsT r:=fun h he=>endsT_tail he (by rw [opOf_cons h];decide)
 have tm:∀ {t:Tk} {r:List Tk},(∀ u ∈ t::r,okTk u)→∀ u ∈ r,okTk u:=fun h u hu=>h u (by simp [hu])
 have one:∀ y:Ex,allX shX y→∀ z ∈ [y],allX shX z:=fun y hy z hz=>by simp at hz;subst hz;exact hy
 have one7:∀ {k:Int} {y:Ex},allX shX y→allX shX (.mk k nullV e0 e0 7 false .full [y]):=fun h=>(allX_mk _ _ _ _ _ _ _ _).2 ⟨⟨.inr rfl,fun h=>(by cases h)⟩,h,trivial⟩
 have two7:∀ {k:Int} {x y:Ex},allX shX x→allX shX y→allX shX (.mk k nullV e0 e0 7 false .full [x,y]):=fun h1 h2=>(allX_mk _ _ _ _ _ _ _ _).2 ⟨⟨.inr rfl,fun h=>(by cases h)⟩,h1,h2,trivial⟩
 have size1:∀ {k:Int} {y:Ex},sizeX (.mk k nullV e0 e0 7 false .full [y])=1+sizeX y:=fun {k y}=>by simp [sizeX,sizeXs]
 have size2:∀ {k:Int} {x y:Ex},sizeX (.mk k nullV e0 e0 7 false .full [x,y])=1+(sizeX x+sizeX y):=fun {k x y}=>by simp [sizeX,sizeXs]
 induction h with
 | row_bad hp ih =>
  rename_i b o r e p
  intro T H Q he ht _ hps hq
  refine rowE b (ih T H _ he ht (pre_row b r) hps (fun y H' r1 o' hy hsz hr1 h'=>?_))
  have hr:=hps.rlen
  rw [bnd_row] at hsz
  rw [mk1X,ob_some]
  refine l6_bad h' (P_ne hp _ _ rfl) b _ [y] 7 false .full (one y hy) (by simp only [sizeXs];omega) (fun z H2 hz hzs h2=>?_)
  rw [copyX]
  refine hq z H2 r1 o' hzs ?_ hr1 h2
  have:=join_size_le hz (by simp)
  simp only [sizeXs,List.length_singleton,Nat.le_refl,if_true] at this
  show _≤2 * r.length+1
  omega
 | row_ok hp hm ih1 ih2 =>
  rename_i b o r x r1 R
  intro T H Q he ht _ hps hq
  have hs:Suf _ _:=P_suf hp he
  have hsx:=size_row hp
  have hr:=hps.rlen
  refine rowE b (ih1 T H _ he ht (pre_row b r) hps (fun y H' hy hys h'=>?_))
  rw [mk1X,ob_some]
  refine ih2 T H' _ hs.1 (hs.mem ht) ⟨by simp,by simp only [sizeXs];omega⟩ h' ?_ [y] 7 false .full (by simp [hy]) (one y hys) (.inr rfl) trivial trivial
  cases R with
  | ok z r2=>intro w H2 hw hws h2;rw [copyX];exact hq w H2 hw hws h2
  | bad e p =>
   intro w H2 r2 o' hws hsz hr2 h2
   rw [copyX]
   refine hq w H2 r2 o' hws ?_ hr2 h2
   simp only [bnd,sizeXs] at hsz ⊢
   omega
 | more_no hn =>
  rename_i b l o r
  intro T H Q he ht hpre hps hq ys s' n' t' hyl hsh hns ho hT
  rw [f108_l6_eq,nil_Pt,ob_some,add_Pt,ob_some,hps.ld2,ob_some,i_eql,ob_some,show decide ((0:Int)=0)=true from rfl,cnd_t,ob_some,add_Pt,ob_some,hps.ld0,ob_some]
  refine c130 _ hps.rd (endsT_ne he) _ (fun _=>?_) (fun t r1 ob1 e hn' h1=>by rw [hn] at hn';cases hn')
  have hsl:sizeXs ys≤2097152:=by rw [← sizeXs_norm,hyl];have:=hpre.2;omega
  refine j10_end hps b _ ys s' n' t' hsh (by omega) (fun z H' hz hzs h'=>?_)
  exact hq z H' (by rw [hz,hyl]) hzs h'
 | more_bad hn hp ih =>
  rename_i b l o t r e p
  intro T H Q he ht hpre hps hq ys s' n' t' hyl hsh hns ho hT
  rw [f108_l6_eq,nil_Pt,ob_some,add_Pt,ob_some,hps.ld2,ob_some,i_eql,ob_some,show decide ((0:Int)=0)=true from rfl,cnd_t,ob_some,add_Pt,ob_some,hps.ld0,ob_some]
  refine c130 _ hps.rd (endsT_ne he) _ (fun hn'=>by rw [hn] at hn';cases hn') (fun t0 r0 ob1 e' _ h1=>?_)
  cases e'
  have h2:=hps.setr h1
  have hr:=hps.rlen
  simp only [List.length_cons] at hr
  have hsl:sizeXs ys+(t::r).length≤2097152:=by rw [← sizeXs_norm,hyl];exact hpre.2
  simp only [List.length_cons] at hsl
  have hll:=len_sizeXs ys
  have ho2:OwnS H0 (H.setObj rb ob1) 7 ys.length t':=by cases t' with
   | any=>exact ho
   | full=>exact ho
   | tip c=>exact ho
  rw [f108_j10_eq,cnd_t]
  refine callR (H0:=H0) (T:=T2 T (ys.length * 7) t') b (ih (T2 T (ys.length * 7) t') _ _ (tl (by decide) hn he) (tm ht) (pre_row b r) (h2.up ho2) (fun y H' r1 o' hy hsz hr1 h'=>?_))
  rw [bnd_row] at hsz
  rw [mk1X,ob_some]
  refine app_ps h'.down (h'.own ho2) hT hns (by omega) (fun s2 n2 t2 H3 hn2 h3 ho3 hT3=>?_)
  refine l6_bad h3 (P_ne hp _ _ rfl) b _ (ys++[y]) s2 n2 t2 (fun z hz=>by simp only [List.mem_append,List.mem_singleton] at hz;rcases hz with hz | hz;exact hsh z hz;subst hz;exact hy) (by rw [sizeXs_append];simp only [sizeXs];omega) (fun z H4 hz hzs h4=>?_)
  refine hq z H4 r1 o' hzs ?_ hr1 h4
  have:=join_size_le hz (by simp)
  rw [sizeXs_append] at this
  simp only [sizeXs] at this
  have hif:(if (ys++[y]).length≤1 then 0 else 1)≤1:=by split<;>omega
  have:sizeXs l=sizeXs ys:=by rw [← hyl,sizeXs_norm]
  simp only [bnd,List.length_cons]
  omega
 | more_ok hn hp hm ih1 ih2 =>
  rename_i b l o t r x r1 R
  intro T H Q he ht hpre hps hq ys s' n' t' hyl hsh hns ho hT
  rw [f108_l6_eq,nil_Pt,ob_some,add_Pt,ob_some,hps.ld2,ob_some,i_eql,ob_some,show decide ((0:Int)=0)=true from rfl,cnd_t,ob_some,add_Pt,ob_some,hps.ld0,ob_some]
  refine c130 _ hps.rd (endsT_ne he) _ (fun hn'=>by rw [hn] at hn';cases hn') (fun t0 r0 ob1 e' _ h1=>?_)
  cases e'
  have h2:=hps.setr h1
  have he':=tl (by decide) hn he
  have hs:Suf _ _:=P_suf hp he'
  have hsx:=size_row hp
  have hr:=hps.rlen
  simp only [List.length_cons] at hr
  have hsl:sizeXs ys+(t::r).length≤2097152:=by rw [← sizeXs_norm,hyl];exact hpre.2
  simp only [List.length_cons] at hsl
  have hll:=len_sizeXs ys
  have ho2:OwnS H0 (H.setObj rb ob1) 7 ys.length t':=by cases t' with
   | any=>exact ho
   | full=>exact ho
   | tip c=>exact ho
  have hsle:sizeXs l=sizeXs ys:=by rw [← hyl,sizeXs_norm]
  rw [f108_j10_eq,cnd_t]
  refine callR (H0:=H0) (T:=T2 T (ys.length * 7) t') b (ih1 (T2 T (ys.length * 7) t') _ _ he' (tm ht) (pre_row b r) (h2.up ho2) (fun y H' hy hys h'=>?_))
  rw [mk1X,ob_some]
  refine app_ps h'.down (h'.own ho2) hT hns (by omega) (fun s2 n2 t2 H3 hn2 h3 ho3 hT3=>?_)
  refine ih2 T H3 _ hs.1 (hs.mem (tm ht)) ⟨by simp,by rw [sizeXs_append,hsle];simp only [sizeXs];omega⟩ h3 ?_ (ys++[y]) s2 n2 t2 (by rw [List.map_append,hyl];simp [hy]) (fun z hz=>by simp only [List.mem_append,List.mem_singleton] at hz;rcases hz with hz | hz;exact hsh z hz;subst hz;exact hys) hn2 ho3 hT3
  cases R with
  | ok z r2=>exact hq
  | bad e p =>
   intro w H2 r2 o' hws hsz hr2 h2
   refine hq w H2 r2 o' hws ?_ hr2 h2
   simp only [bnd] at hsz ⊢
   rw [sizeXs_append] at hsz
   simp only [sizeXs,List.length_cons] at hsz ⊢
   omega
 | not_no hn hp ih =>
  rename_i o r R
  intro T H Q he ht _ hps hq
  show E 187 [Pt pb] H Q
  have hn:nextIs 1 ⟨#[78,79,84]⟩ r=false:=hn
  rw [f187_eq,c252 hps (endsT_ne he),hn,not_B,ob_some,Bool.not_false,cnd_t]
  refine ih T H (copyQ Q) he ht trivial hps ?_
  cases R with
  | ok z r2=>intro w H2 hw hws h2;rw [copyX];exact hq w H2 hw hws h2
  | bad e p=>intro w H2 r2 o' hws hsz hr2 h2;rw [copyX];exact hq w H2 r2 o' hws hsz hr2 h2
 | not_long hn ho =>
  rename_i o r
  intro T H Q he ht _ hps hq
  show E 187 [Pt pb] H Q
  obtain ⟨t,r1,rfl,hk,_⟩:=nextIs_ne hn
  have hn:nextIs 1 ⟨#[78,79,84]⟩ (t::r1)=true:=hn
  rw [f187_eq,c252 hps (by simp),hn,not_B,ob_some,Bool.not_true,cnd_f]
  refine c254 hps (by omega) (fun _ H' h'=>?_) (fun ho'=>by omega)
  rw [mk1X,ob_some,rowb,ob_some,szX,ob_some,splX,ob_some,partX,ob_some]
  exact hq _ H' _ _ (one7 zX_sh) (by rw [size1,zX_size];simp only [bnd,List.length_cons];omega) (by simp) h'
 | not_bad hn ho hp ih =>
  rename_i o t r e p
  intro T H Q he ht _ hps hq
  show E 187 [Pt pb] H Q
  have hk:=(nextIs_cons hn).1
  have he':=tl (by decide) hn he
  have hn:nextIs 1 ⟨#[78,79,84]⟩ (t::r)=true:=hn
  rw [f187_eq,c252 hps (by simp),hn,not_B,ob_some,Bool.not_true,cnd_f]
  refine c254 hps (by omega) (fun h'=>by omega) (fun _ H' h' K hK=>?_)
  refine ih T H' K he' (tm ht) trivial h' (fun y H2 r1 o' hy hsz hr1 h2=>?_)
  refine hK y H2 r1 o' e p h2 (fun H3 h3=>?_)
  rw [mk1X,ob_some,rowb,ob_some,szX,ob_some,splX,ob_some,partX,ob_some]
  exact hq _ H3 _ _ (one7 hy) (by rw [size1];simp only [bnd,List.length_cons] at hsz ⊢;omega) hr1 h3
 | not_ok hn ho hp ih =>
  rename_i o t r x r1
  intro T H Q he ht _ hps hq
  show E 187 [Pt pb] H Q
  have hk:=(nextIs_cons hn).1
  have he':=tl (by decide) hn he
  have hn:nextIs 1 ⟨#[78,79,84]⟩ (t::r)=true:=hn
  rw [f187_eq,c252 hps (by simp),hn,not_B,ob_some,Bool.not_true,cnd_f]
  refine c254 hps (by omega) (fun h'=>by omega) (fun _ H' h' K hK=>?_)
  refine ih T H' K he' (tm ht) trivial h' (fun y H2 hy hys h2=>?_)
  refine hK y H2 r1 _ 0 0 h2 (fun H3 h3=>?_)
  have hw:W64 (((o+1:Nat):Int) - 1)=(o:Int):=by rw [w64_id (by omega) (by omega)];omega
  rw [hw] at h3
  rw [mk1X,ob_some,rowb,ob_some,szX,ob_some,splX,ob_some,partX,ob_some]
  exact hq _ H3 (by rw [norm_mkl];simp [hy]) (one7 hys) h3
 | cmp_bad hp ih =>
  rename_i o r e p
  intro T H Q he ht _ hps hq
  show E 253 [Pt pb] H Q
  rw [f253_eq]
  refine ih T H _ he ht trivial hps (fun y H2 r1 o' hy hsz hr1 h2=>?_)
  rw [szX,ob_some,splX,ob_some,nil_Pt,ob_some,add_Pt,ob_some,h2.ld2,ob_some,enc_err e (P_ne hp _ _ rfl),ob_some,cnd_t,partX,ob_some,szX,ob_some,splX,ob_some,partX,ob_some]
  exact hq y H2 r1 o' hy hsz hr1 h2
 | cmp_no hp hop ih =>
  rename_i o r x r1
  intro T H Q he ht _ hps hq
  show E 253 [Pt pb] H Q
  have hs:Suf _ _:=P_suf hp he
  rw [f253_eq]
  refine ih T H _ he ht trivial hps (fun y H2 hy hys h2=>?_)
  rw [szX,ob_some,splX,ob_some,nil_Pt,ob_some,add_Pt,ob_some,h2.ld2,ob_some,enc_ok,ob_some,cnd_f]
  refine c284 h2 (endsT_ne hs.1) (fun _ H3 h3=>?_) (fun t r2 k H3 e hk=>by rw [hop] at hk;cases hk)
  rw [x20,ob_some,x21,ob_some,cnd_f,partX,ob_some,szX,ob_some,splX,ob_some,partX,ob_some]
  exact hq y H3 hy hys h3
 | cmp_bad2 hp hop hp2 ih1 ih2 =>
  rename_i o r x t r1 k e p
  intro T H Q he ht _ hps hq
  show E 253 [Pt pb] H Q
  have hs:Suf _ _:=P_suf hp he
  have hsx:_≤_:=P_size hp
  rw [f253_eq]
  refine ih1 T H _ he ht trivial hps (fun y H2 hy hys h2=>?_)
  rw [szX,ob_some,splX,ob_some,nil_Pt,ob_some,add_Pt,ob_some,h2.ld2,ob_some,enc_ok,ob_some,cnd_f]
  refine c284 h2 (endsT_ne hs.1) (fun hk=>by rw [hop] at hk;cases hk) (fun t' r2 k' H3 e' hk h3=>?_)
  cases e'
  rw [hop] at hk;cases hk
  rw [x20,ob_some,x21,ob_some,cnd_t,partX,ob_some]
  refine ih2 T H3 _ (tl5 hop hs.1) (tm (hs.mem ht)) trivial h3 (fun z H4 r3 o' hz hsz hr3 h4=>?_)
  rw [mk2X,ob_some,rowb,ob_some,szX,ob_some,splX,ob_some,partX,ob_some]
  refine hq _ H4 r3 o' (two7 hys hz) ?_ hr3 h4
  rw [size2]
  have:sizeX y=sizeX x:=by rw [← hy,norm_size]
  simp only [bnd,List.length_cons] at hsz hsx ⊢
  omega
 | cmp_ok hp hop hp2 ih1 ih2 =>
  rename_i o r x t r1 k z r2
  intro T H Q he ht _ hps hq
  show E 253 [Pt pb] H Q
  have hs:Suf _ _:=P_suf hp he
  rw [f253_eq]
  refine ih1 T H _ he ht trivial hps (fun y H2 hy hys h2=>?_)
  rw [szX,ob_some,splX,ob_some,nil_Pt,ob_some,add_Pt,ob_some,h2.ld2,ob_some,enc_ok,ob_some,cnd_f]
  refine c284 h2 (endsT_ne hs.1) (fun hk=>by rw [hop] at hk;cases hk) (fun t' r2 k' H3 e' hk h3=>?_)
  cases e'
  rw [hop] at hk;cases hk
  rw [x20,ob_some,x21,ob_some,cnd_t,partX,ob_some]
  refine ih2 T H3 _ (tl5 hop hs.1) (tm (hs.mem ht)) trivial h3 (fun w H4 hw hws h4=>?_)
  rw [mk2X,ob_some,rowb,ob_some,szX,ob_some,splX,ob_some,partX,ob_some]
  exact hq _ H4 (by rw [norm_mkl];simp [hy,hw]) (two7 hys hws) h4
 | left_bad hp ih =>
  rename_i b o r e p
  intro T H Q he ht _ hps hq
  refine leftE b (ih T H _ he ht (pre_left b r) hps (fun y H' r1 o' hy hsz hr1 h'=>?_))
  rw [bnd_left] at hsz
  rw [szX,ob_some,splX,ob_some,f300_l6_eq,nil_Pt,ob_some,add_Pt,ob_some,h'.ld2,ob_some,i_eql,ob_some,decide_eq_false (P_ne hp _ _ rfl),cnd_f,partX,ob_some,szX,ob_some,splX,ob_some,partX,ob_some,copyX]
  exact hq y H' r1 o' hy hsz hr1 h'
 | left_ok hp hm ih1 ih2 =>
  rename_i b o r x r1 R
  intro T H Q he ht _ hps hq
  have hs:Suf _ _:=P_suf hp he
  have hsx:=size_left hp
  refine leftE b (ih1 T H _ he ht (pre_left b r) hps (fun y H' hy hys h'=>?_))
  rw [szX,ob_some,splX,ob_some]
  refine ih2 T H' _ hs.1 (hs.mem ht) trivial h' ?_ y hy hys
  cases R with
  | ok z r2=>intro w H2 hw hws h2;rw [copyX];exact hq w H2 hw hws h2
  | bad e p =>
   intro w H2 r2 o' hws hsz hr2 h2
   rw [copyX]
   refine hq w H2 r2 o' hws ?_ hr2 h2
   simp only [bnd] at hsz ⊢
   omega
 | lmore_no hop =>
  rename_i b x o r
  intro T H Q he ht _ hps hq y hy hys
  rw [f300_l6_eq,nil_Pt,ob_some,add_Pt,ob_some,hps.ld2,ob_some,i_eql,ob_some,show decide ((0:Int)=0)=true from rfl,cnd_t]
  refine c284 hps (endsT_ne he) (fun _ H3 h3=>?_) (fun t r2 k H3 e hk=>by rw [hop] at hk;cases hk)
  rw [x20,ob_some,x21,ob_some,not_B,ob_some,Bool.not_false,cnd_t,partX,ob_some,szX,ob_some,splX,ob_some,partX,ob_some]
  exact hq y H3 hy hys h3
 | lmore_bad hop hp ih =>
  rename_i b x o t r k e p
  intro T H Q he ht _ hps hq y hy hys
  rw [f300_l6_eq,nil_Pt,ob_some,add_Pt,ob_some,hps.ld2,ob_some,i_eql,ob_some,show decide ((0:Int)=0)=true from rfl,cnd_t]
  refine c284 hps (by simp) (fun hk=>by rw [hop] at hk;cases hk) (fun t' r2 k' H3 e' hk h3=>?_)
  cases e'
  rw [hop] at hk;cases hk
  rw [x20,ob_some,x21,ob_some,not_B,ob_some,Bool.not_true,cnd_f,partX,ob_some]
  refine callL (H0:=H0) (T:=T) b (ih T H3 _ (tl5 hop he) (tm ht) (pre_left b r) h3 (fun z H4 r3 o' hz hsz hr3 h4=>?_))
  rw [bnd_left] at hsz
  rw [mk2X,ob_some,rowb,ob_some,szX,ob_some,splX2,ob_some,f300_l6_eq,nil_Pt,ob_some,add_Pt,ob_some,h4.ld2,ob_some,i_eql,ob_some,decide_eq_false (P_ne hp _ _ rfl),cnd_f,partX,ob_some,szX,ob_some,splX,ob_some,partX,ob_some]
  refine hq _ H4 r3 o' (two7 hys hz) ?_ hr3 h4
  rw [size2]
  have:sizeX y=sizeX x:=by rw [← hy,norm_size]
  simp only [bnd,List.length_cons]
  omega
 | lmore_ok hop hp hm ih1 ih2 =>
  rename_i b x o t r k z r1 R
  intro T H Q he ht _ hps hq y hy hys
  have he':=tl5 hop he
  have hs:Suf _ _:=P_suf hp he'
  have hsx:=size_left hp
  rw [f300_l6_eq,nil_Pt,ob_some,add_Pt,ob_some,hps.ld2,ob_some,i_eql,ob_some,show decide ((0:Int)=0)=true from rfl,cnd_t]
  refine c284 hps (by simp) (fun hk=>by rw [hop] at hk;cases hk) (fun t' r2 k' H3 e' hk h3=>?_)
  cases e'
  rw [hop] at hk;cases hk
  rw [x20,ob_some,x21,ob_some,not_B,ob_some,Bool.not_true,cnd_f,partX,ob_some]
  refine callL (H0:=H0) (T:=T) b (ih1 T H3 _ he' (tm ht) (pre_left b r) h3 (fun w H4 hw hws h4=>?_))
  rw [mk2X,ob_some,rowb,ob_some,szX,ob_some,splX2,ob_some]
  refine ih2 T H4 _ hs.1 (hs.mem (tm ht)) trivial h4 ?_ _ (by rw [norm_mkl];simp [hy,hw]) (two7 hys hws)
  cases R with
  | ok z r2=>exact hq
  | bad e p =>
   intro v H5 r2 o' hvs hsz hr2 h5
   refine hq v H5 r2 o' hvs ?_ hr2 h5
   simp only [bnd] at hsz ⊢
   rw [sizeX_nd] at hsz
   simp only [sizeXs,List.length_cons] at hsz ⊢
   omega
 | neg_no hn hp ih =>
  rename_i o r R
  intro T H Q he ht _ hps hq
  show E 306 [Pt pb] H Q
  have hn:nextIs 5 ⟨#[45]⟩ r=false:=hn
  rw [f306_eq,c252 hps (endsT_ne he),hn,not_B,ob_some,Bool.not_false,cnd_t]
  refine ih T H (copyQ Q) he ht trivial hps ?_
  cases R with
  | ok z r2=>intro w H2 hw hws h2;rw [copyX];exact hq w H2 hw hws h2
  | bad e p=>intro w H2 r2 o' hws hsz hr2 h2;rw [copyX];exact hq w H2 r2 o' hws hsz hr2 h2
 | neg_num hn hk3 =>
  rename_i o t r
  intro T H Q he ht _ hps hq
  show E 306 [Pt pb] H Q
  have he':=tl (by decide) hn he
  refine neg_pre hps hn (endsT_ne he') (fun _ H' h'=>?_) (fun hk'=>(hk' hk3).elim)
  cases r with
  | nil=>exact he'.elim
  | cons u r2 =>
   refine c311 true (Bd:=bnd .neg (t::u::r2)) h' hk3 (ht u (by simp)) (by simp only [bnd];omega) ?_
   revert hq
   cases numR true (u::r2) with
   | ok z r2=>intro hq w H2 hw hws h2;rw [copyX];exact hq w H2 hw hws h2
   | bad e p=>intro hq w H2 r2 o' hws hsz hr2 h2;rw [copyX];exact hq w H2 r2 o' hws hsz hr2 h2
 | neg_long hn hk3 ho =>
  rename_i o t r
  intro T H Q he ht _ hps hq
  show E 306 [Pt pb] H Q
  have he':=tl (by decide) hn he
  have hk:=(nextIs_cons hn).1
  refine neg_pre hps hn (endsT_ne he') (fun hk'=>(hk3 hk').elim) (fun _ H' h'=>?_)
  refine c254 h' (by omega) (fun _ H2 h2=>?_) (fun ho'=>by omega)
  rw [negX]
  exact hq _ H2 _ _ (one7 zX_sh) (by rw [size1,zX_size];simp only [bnd,List.length_cons];omega) (by simp) h2
 | neg_bad hn hk3 ho hp ih =>
  rename_i o t r e p
  intro T H Q he ht _ hps hq
  show E 306 [Pt pb] H Q
  have he':=tl (by decide) hn he
  have hk:=(nextIs_cons hn).1
  refine neg_pre hps hn (endsT_ne he') (fun hk'=>(hk3 hk').elim) (fun _ H' h'=>?_)
  refine c254 h' (by omega) (fun h'=>by omega) (fun _ H2 h2 K hK=>?_)
  refine ih T H2 K he' (tm ht) trivial h2 (fun y H3 r1 o' hy hsz hr1 h3=>?_)
  refine hK y H3 r1 o' e p h3 (fun H4 h4=>?_)
  rw [negX]
  exact hq _ H4 _ _ (one7 hy) (by rw [size1];simp only [bnd,List.length_cons] at hsz ⊢;omega) hr1 h4
 | neg_ok hn hk3 ho hp ih =>
  rename_i o t r x r1
  intro T H Q he ht _ hps hq
  show E 306 [Pt pb] H Q
  have he':=tl (by decide) hn he
  have hk:=(nextIs_cons hn).1
  refine neg_pre hps hn (endsT_ne he') (fun hk'=>(hk3 hk').elim) (fun _ H' h'=>?_)
  refine c254 h' (by omega) (fun h'=>by omega) (fun _ H2 h2 K hK=>?_)
  refine ih T H2 K he' (tm ht) trivial h2 (fun y H3 hy hys h3=>?_)
  refine hK y H3 r1 _ 0 0 h3 (fun H4 h4=>?_)
  have hw:W64 (((o+1:Nat):Int) - 1)=(o:Int):=by rw [w64_id (by omega) (by omega)];omega
  rw [hw] at h4
  rw [negX]
  exact hq _ H4 (by rw [norm_mkl];simp [hy]) (one7 hys) h4
 | last_atom hn =>
  rename_i o r
  intro T H Q he ht _ hps hq
  exact atom_run hps he ht hn (by simp only [bnd];omega) hq
 | last_long hn ho =>
  rename_i o r
  intro T H Q he ht _ hps hq
  show E 309 [Pt pb] H Q
  refine last_pre hps hn ?_
  obtain ⟨t,r1,rfl,hk,_⟩:=nextIs_ne hn
  refine c254 hps (by omega) (fun _ H2 h2=>?_) (fun ho'=>by omega)
  rw [copyX]
  exact hq zX H2 _ _ zX_sh (by rw [zX_size];simp only [bnd];omega) (by simp) h2
 | last_bad hn ho hp ih =>
  rename_i o t r e p
  intro T H Q he ht _ hps hq
  show E 309 [Pt pb] H Q
  have he':=tl (by decide) hn he
  have hk:=(nextIs_cons hn).1
  refine last_pre hps hn ?_
  refine c254 hps (by omega) (fun h'=>by omega) (fun _ H2 h2 K hK=>?_)
  show E 318 [Pt pb] H2 K
  refine c318 (T:=T) (r:=r) (o:=o) (ih T H2 _ he' (tm ht) trivial h2 (fun y H3 r1 o' hy hsz hr1 h3=>?_))
  rw [szX,ob_some,splX,ob_some,h3.ld2,ob_some,i_eql,ob_some,decide_eq_false (P_ne hp _ _ rfl),cnd_f,f318_j7_eq,cnd_f,partX,ob_some,szX,ob_some,splX,ob_some,partX,ob_some]
  refine hK y H3 r1 o' e p h3 (fun H4 h4=>?_)
  rw [copyX]
  exact hq _ H4 _ _ hy (by simp only [bnd,List.length_cons] at hsz ⊢;omega) hr1 h4
 | last_open hn ho hp hs ih =>
  rename_i o t r x r1
  intro T H Q he ht _ hps hq
  show E 309 [Pt pb] H Q
  have he':=tl (by decide) hn he
  have hk:=(nextIs_cons hn).1
  have hsf:Suf _ _:=P_suf hp he'
  refine last_pre hps hn ?_
  refine c254 hps (by omega) (fun h'=>by omega) (fun _ H2 h2 K hK=>?_)
  show E 318 [Pt pb] H2 K
  refine c318 (T:=T) (r:=r) (o:=o) (ih T H2 _ he' (tm ht) trivial h2 (fun y H3 hy hys h3=>?_))
  rw [szX,ob_some,splX,ob_some,h3.ld2,ob_some,i_eql,ob_some,show decide ((0:Int)=0)=true from rfl,cnd_t,h3.ld0,ob_some]
  refine c228 _ h3.rd (endsT_ne hsf.1) _ (fun _=>?_) (fun u r2 o1 e' hs' _=>by rw [hs] at hs';cases hs')
  rw [not_B,ob_some,Bool.not_false,f318_j7_eq,cnd_t]
  refine c285 h3 (endsT_ne hsf.1) 4 (fun H4 h4=>?_)
  rw [szX,ob_some,splX,ob_some,partX,ob_some]
  refine hK zX H4 r1 _ 4 _ h4 (fun H5 h5=>?_)
  rw [copyX]
  exact hq zX H5 _ _ zX_sh (by rw [zX_size];simp only [bnd];omega) (endsT_ne hsf.1) h5
 | last_ok hn ho hp hs ih =>
  rename_i o t r x u r1
  intro T H Q he ht _ hps hq
  show E 309 [Pt pb] H Q
  have he':=tl (by decide) hn he
  have hk:=(nextIs_cons hn).1
  refine last_pre hps hn ?_
  refine c254 hps (by omega) (fun h'=>by omega) (fun _ H2 h2 K hK=>?_)
  show E 318 [Pt pb] H2 K
  refine c318 (T:=T) (r:=r) (o:=o) (ih T H2 _ he' (tm ht) trivial h2 (fun y H3 hy hys h3=>?_))
  rw [szX,ob_some,splX,ob_some,h3.ld2,ob_some,i_eql,ob_some,show decide ((0:Int)=0)=true from rfl,cnd_t,h3.ld0,ob_some]
  refine c228 _ h3.rd (by simp) _ (fun hs'=>by rw [hs] at hs';cases hs') (fun u' r2 o1 e' _ hr2=>?_)
  cases e'
  rw [not_B,ob_some,Bool.not_true,f318_j7_eq,cnd_f,partX,ob_some,szX,ob_some,splX,ob_some,partX,ob_some]
  have h4:=h3.setr hr2
  refine hK y _ r1 _ 0 0 h4 (fun H5 h5=>?_)
  have hw:W64 (((o+1:Nat):Int) - 1)=(o:Int):=by rw [w64_id (by omega) (by omega)];omega
  rw [hw] at h5
  rw [copyX]
  exact hq y H5 hy hys h5
end
end Go.Hx
namespace Go.Hx
/-- a reader's state -/
structure RD (H0:Heap) (T:Nat→Nat→Prop) (rb:Nat) (r:List Tk) (H:Heap):Prop where
 ext:HExt H0 H
 fr:H0.fresh rb
 rd:RS rb r H
 tp:∀ c n,T c n→H.tips c=some n
theorem PS.toRD {H0:Heap} {T:Nat→Nat→Prop} {pb rb:Nat} {r:List Tk} {o e a:Int} {H:Heap} (h:PS H0 T pb rb r o e a H):RD H0 T rb r H:=⟨h.ext,h.fr,h.rd,h.tp⟩
theorem RD.mono {H0:Heap} {T:Nat→Nat→Prop} {rb:Nat} {r:List Tk} {H H':Heap} (h:RD H0 T rb r H) (he:HExt H H'):RD H0 T rb r H' :=
 ⟨h.ext.trans he,h.fr,h.rd.mono he,fun c n hc=>by have:=h.tp c n hc;rw [(he c (fun hf=>by rw [hf.2] at this;cases this)).2.1];exact this⟩
/-- what Parse answers -/
def Res19 (H0:Heap) (T:Nat→Nat→Prop) (rb:Nat) (r:List Tk) (Q:Post):PR→Prop
 | .ok x r1=>(checkP x=0→∀ y H',norm y=x→allX shX y→allX gX y→RD H0 T rb r1 H'→Q (.tup [encX y,I (posn r1),I 0]) H') ∧
   (checkP x ≠ 0→∀ H',RD H0 T rb r1 H'→Q (.tup [encX zX,I (posn r),I 2]) H')
 | .bad e p=>∀ H' r1,r1 ≠ []→RD H0 T rb r1 H'→Q (.tup [encX zX,I p,I e]) H'
theorem norm_check {y:Ex} (h:sizeX y≤1152921504606846975):checkP (norm y)=checkP y:=by
 rw [checkP_eq _ (by rw [norm_size];exact h),checkP_eq _ h,norm_size,norm_allR]
theorem c19 {H0 H:Heap} {T:Nat→Nat→Prop} {rb:Nat} {r:List Tk} {Q:Post} {R:PR} (h:RD H0 T rb r H) (he:endsT r) (hok:∀ t ∈ r,okTk t) (hP:P (.row true) 0 r R) (hq:Res19 H0 T rb r Q R):E 19 [Pt rb] H Q:=by
 have hb:bldA [(0,1,Pt rb)] [AV.raw (.pointer none),I 0,I 0,I 0]=some (.agg [Pt rb,I 0,I 0,I 0]):=rfl
 have hs:sizedA 4 (.agg [Pt rb,I 0,I 0,I 0])=some [Pt rb,I 0,I 0,I 0]:=rfl
 rw [f19_eq,c21 h.rd (endsT_ne he),hb,ob_some,hs,ob_some]
 intro pb hf
 simp only [Pt_def]
 have hne:pb ≠ rb:=fun e=>by
  subst e
  obtain ⟨L,i,s',n',t',h1,_⟩:=h.rd
  rw [hf.1] at h1;cases h1
 have hfp:=h.ext.fresh hf
 have ps:PS H0 T pb rb r ((0:Nat):Int) 0 0 (H.setObj pb (.cells [Pt rb,I 0,I 0,I 0])) :=
  ⟨h.ext.setObj hfp _,hfp,h.fr,hne,setObj_same _ _ _,by
   obtain ⟨L,i,s',n',t',h1,h2⟩:=h.rd
   exact ⟨L,i,s',n',t',by rw [setObj_ne _ _ (Ne.symm hne)];exact h1,h2⟩,h.tp⟩
 have hlen:=ps.rlen
 show Run H0 T pb (.row true) _ _
 refine run_all hP T _ _ he hok trivial ps ?_
 cases R with
 | bad e p =>
  intro y H' r1 o' _ _ hr1 h'
  have hne0:decide (e=0)=false:=decide_eq_false (P_ne hP _ _ rfl)
  simp only [szX,splX,ob_some,nil_Pt,add_Pt,h'.ld2,h'.ld3,i_neq,hne0,Bool.not_false,cnd_t,zX_b,apL,partX]
  exact hq H' r1 hr1 h'.toRD
 | ok x r1 =>
  intro y H' hy hys h'
  have h0:decide ((0:Int)=0)=true:=rfl
  have hsz:sizeX x+r1.length≤r.length:=P_size hP
  have hsuf:Suf r r1:=P_suf hP he
  have hgx:allX gX x:=P_good hP hok he (fun _ _ h=>by cases h) (fun _ _ h=>by cases h)
  have hgy:allX gX y:=(norm_gX y).1 (hy.symm ▸ hgx)
  have hys':sizeX y=sizeX x:=by rw [← hy,norm_size]
  have hoy:=gX_ok hgy (by omega)
  simp only [szX,splX,ob_some,nil_Pt,add_Pt,h'.ld2,i_neq,h0,Bool.not_true,cnd_f,partX]
  refine c28 y hoy.1 H' _ (fun H2 e2=>?_)
  have h2:=h'.mono e2
  have hcx:checkP x=checkP y:=by rw [← hy];exact norm_check (by omega)
  rw [i_neq,ob_some]
  refine cnd_intro (fun hc=>?_) (fun hc=>?_)
  ·simp only [zX_b,ob_some,szX,splX,partX]
   exact hq.2 (by rw [hcx];simpa using hc) H2 h2.toRD
  ·rw [c21 h2.rd (endsT_ne hsuf.1)]
   exact hq.1 (by rw [hcx];simpa using hc) y H2 hy hys hgy h2.toRD
/-- what a text says -/
inductive TR where
 | ok (x:Ex)
 | bad (p:Nat) (e:Int)
inductive TextR (s:ByteArray):TR→Prop
 | lex {p:Nat} {e:Int}:lexA s=.error (p,e)→TextR s (.bad p e)
 | bad {L e p}:lexA s=.ok L→P (.row true) 0 L (.bad e p)→TextR s (.bad p e)
 | long {L x r1}:lexA s=.ok L→P (.row true) 0 L (.ok x r1)→checkP x ≠ 0→TextR s (.bad (posn L) 2)
 | more {L x r1}:lexA s=.ok L→P (.row true) 0 L (.ok x r1)→checkP x=0→kindN r1 ≠ 6→TextR s (.bad (posn r1) 4)
 | ok {L x r1}:lexA s=.ok L→P (.row true) 0 L (.ok x r1)→checkP x=0→kindN r1=6→TextR s (.ok x)
theorem TextR_ne {s:ByteArray} {p:Nat} {e:Int} (h:TextR s (.bad p e)):e ≠ 0:=by
 cases h with
 | lex h=>exact (lexA_bad h).2
 | bad _ h=>exact P_ne h _ _ rfl
 | long=>decide
 | more=>decide
theorem TextR_total (s:ByteArray):∃ R,TextR s R:=by
 cases hl:lexA s with
 | error x=>exact ⟨_,.lex hl⟩
 | ok L =>
  obtain ⟨R,hR,_⟩:=P_total _ (.row true) 0 L (Nat.le_refl _) (lexA_len hl).2
  cases R with
  | bad e p=>exact ⟨_,.bad hl hR⟩
  | ok x r1 =>
   by_cases hc:checkP x=0
   ·by_cases hk:kindN r1=6
    ·exact ⟨_,.ok hl hR hc hk⟩
    ·exact ⟨_,.more hl hR hc hk⟩
   ·exact ⟨_,.long hl hR hc⟩
end Go.Hx
namespace Go.Hx
theorem takeW_all (p:UInt8→Bool) (l:List UInt8):(l.takeWhile p).all p=true:=by
 induction l with
 | nil=>rfl
 | cons c l ih =>
  rw [List.takeWhile_cons]
  split
  ·rename_i h;rw [List.all_cons,h,ih];rfl
  ·rfl
theorem takeW_head {p:UInt8→Bool} {c:UInt8} (h:p c=true) (l:List UInt8):(c::l).takeWhile p=c::l.takeWhile p:=by rw [List.takeWhile_cons,if_pos h]
theorem lex1_ok {c:UInt8} {r w:List UInt8} {k:Int} {n:Nat} (hl:(c::r).length≤1099511627775) (h:lex1 (c::r)=.tok k w n) (p:Nat):okTk ⟨k,bs w,p⟩:=by
 have hsz:∀ l:List UInt8,(bs l).size=l.length:=fun l=>by rw [← size_list]
 simp only [lex1] at h
 split at h
 ·split at h
  ·rename_i hu
   cases h
   have:=unq_len hu
   exact ⟨by show (bs w).size≤_;rw [hsz];omega,fun hk=>(by cases hk),fun _=>by show (bs w).size≤_;rw [hsz];omega⟩
  ·cases h
 ·have tw:∀ (p:UInt8→Bool),(bs ((c::r).takeWhile p)).size≤1099511627775:=fun p=>by have:=tw_le p (c::r);rw [hsz];omega
  split at h
  ·simp only [wordT] at h
   split at h
   ·cases h
   ·cases h;exact ⟨tw _,fun hk=>(by cases hk),fun hk=>(by cases hk)⟩
  ·split at h
   ·simp only [wordT] at h
    split at h
    ·cases h
    ·cases h;exact ⟨tw _,fun hk=>(by cases hk),fun hk=>(by cases hk)⟩
   ·split at h
    ·rename_i hd
     simp only [intT] at h
     split at h
     ·cases h
     ·rename_i hn
      cases h
      refine ⟨tw _,fun _=>?_,fun hk=>(by cases hk)⟩
      show DigL false (tx (bs _))
      rw [tx_bs]
      refine ⟨by rw [takeW_head hd];simp,takeW_all _ _,?_⟩
      rw [takeW_head hd] at hn ⊢
      have hn:¬ (19 < (c::r.takeWhile digB).length ∨ (1 < (c::r.takeWhile digB).length∧some c.toNat=some 48)):=hn
      by_cases h48:c.toNat=48
      ·right
       refine ⟨rfl,?_⟩
       have h1:¬ 1 < (c::r.takeWhile digB).length:=fun h1=>hn (.inr ⟨h1,by rw [h48]⟩)
       simp only [List.length_cons] at h1 ⊢
       omega
      ·left;simp [h48]
    ·simp only [signF] at h
     split at h
     ·cases h
     ·rename_i w' hw
      cases h
      have hm:=List.mem_of_find?_eq_some hw
      have:∀ w ∈ signW,w.length≤2:=by decide
      have:=this _ hm
      exact ⟨by show (bs w).size≤_;rw [hsz];omega,fun hk=>(by cases hk),fun hk=>(by cases hk)⟩
theorem lexW_ok:∀ (m p:Nat) (r:List UInt8),r.length≤m→m≤1099511627775→∀ l,lexW p r=.ok l→∀ t ∈ l,okTk t:=by
 have hend:∀ p,okTk ⟨6,e0,p⟩:=fun p=>⟨by show 0≤_;omega,fun hk=>(by cases hk),fun hk=>(by cases hk)⟩
 intro m
 induction m with
 | zero =>
  intro p r hr _ l h
  have:r=[]:=List.eq_nil_of_length_eq_zero (by omega)
  subst this
  rw [lexW] at h;cases h
  intro t ht;simp at ht;subst ht;exact hend p
 | succ m ih =>
  intro p r hr hm l h
  cases r with
  | nil =>
   rw [lexW] at h;cases h
   intro t ht;simp at ht;subst ht;exact hend p
  | cons c r =>
   rw [lexW] at h
   simp only [List.length_cons] at hr
   split at h
   ·exact ih _ r (by omega) (by omega) _ h
   ·split at h
    ·cases h
    ·rename_i k w n hL
     have hn:=lex1_len hL
     split at h
     ·cases h
     ·rename_i l' hl'
      cases h
      have:=ih _ (r.drop (n - 1)) (by simp;omega) (by omega) _ hl'
      intro t ht
      rcases List.mem_cons.1 ht with rfl | ht
      ·exact lex1_ok (by simp only [List.length_cons];omega) hL p
      ·exact this t ht
theorem lexA_ok {s:ByteArray} {l:List Tk} (h:lexA s=.ok l):∀ t ∈ l,okTk t:=by
 simp only [lexA] at h
 split at h
 ·cases h
 ·have hs:(tx s).length=s.size:=size_list s
  exact lexW_ok 8192 0 (tx s) (by omega) (by omega) _ h
/-- what Text answers -/
def Res13 (H:Heap) (s:ByteArray) (Q:Post):TR→Prop
 | .ok x=>∀ y H',HExt H H'→norm y=x→allX shX y→allX gX y→checkP x=0→sizeX y≤100→Q (.tup [encX y,I s.size,I 0]) H'
 | .bad p e=>∀ H',HExt H H'→Q (.tup [encX zX,I p,I e]) H'
theorem check_size {x:Ex} (h:checkP x=0) (hs:sizeX x≤1152921504606846975):sizeX x≤100:=by
 rw [checkP_eq x hs] at h
 split at h
 ·cases h
 ·omega
theorem c13 (s:ByteArray) (hsz:s.size≤1099511627776) (H:Heap) (Q:Post) {R:TR} (hR:TextR s R) (hq:Res13 H s Q R):E 13 [S s] H Q:=by
 have nz:∀ {e:Int},e ≠ 0→decide (e=0)=false:=fun h=>decide_eq_false h
 rw [f13_eq]
 refine c16 s hsz H _ (fun v H1 hv h1 hfr=>?_)
 cases hl:lexA s with
 | error x =>
  obtain ⟨p,e⟩:=x
  rw [hl] at hv
  have hv:v=.tup [.raw (.pointer none),I p,I e]:=hv
  subst hv
  have hne:=nz (lexA_bad hl).2
  simp only [x3_0,x3_1,x3_2,ob_some,i_neq,hne,Bool.not_false,cnd_t,zX_b,szX,splX,partX]
  cases hR with
  | lex h=>rw [hl] at h;cases h;exact hq H1 h1
  | bad h=>rw [hl] at h;cases h
  | long h=>rw [hl] at h;cases h
  | more h=>rw [hl] at h;cases h
  | ok h=>rw [hl] at h;cases h
 | ok L =>
  rw [hl] at hv
  obtain ⟨b,rfl,hb⟩:=hv
  have h0:decide ((0:Int)=0)=true:=rfl
  simp only [x3_0,x3_1,x3_2,ob_some,i_neq,h0,Bool.not_true,cnd_f]
  have hbf:=hfr b _ rfl
  have rd:RD H (fun _ _=>False) b L H1:=⟨h1,hbf,hb,fun _ _ h=>h.elim⟩
  have hls:=lexA_len hl
  have ho:=lexA_ok hl
  cases hR with
  | lex h=>rw [hl] at h;cases h
  | bad h hP =>
   rw [hl] at h;cases h
   refine c19 rd hls.2 ho hP (fun H' r1 _ h'=>?_)
   simp only [x3_0,x3_1,x3_2,ob_some,i_neq,nz (P_ne hP _ _ rfl),Bool.not_false,cnd_t,zX_b,szX,splX,partX]
   exact hq H' h'.ext
  | long h hP hc =>
   rw [hl] at h;cases h
   refine c19 rd hls.2 ho hP ⟨fun h0=>(hc h0).elim,fun _ H' h'=>?_⟩
   have h2:decide ((2:Int)=0)=false:=rfl
   simp only [x3_0,x3_1,x3_2,ob_some,i_neq,h2,Bool.not_false,cnd_t,zX_b,szX,splX,partX]
   exact hq H' h'.ext
  | @more L' x r1 h hP hc hk =>
   rw [hl] at h;cases h
   have hsuf:Suf _ _:=P_suf hP hls.2
   refine c19 rd hls.2 ho hP ⟨fun _ y H' hy hys hgy h'=>?_,fun h0=>(h0 hc).elim⟩
   cases r1 with
   | nil=>exact hsuf.1.elim
   | cons t r2 =>
    have hk:decide (t.k=6)=false:=decide_eq_false hk
    simp only [x3_0,x3_1,x3_2,ob_some,h0,Bool.not_true,cnd_f,i_neq,Bool.not_false,cnd_t,zX_b,szX,splX,partX]
    rw [c44' h'.rd]
    simp only [fK0,ob_some,i_neq,hk,Bool.not_false,cnd_t]
    rw [c21 h'.rd (by simp)]
    exact hq H' h'.ext
  | @ok L' x r1 h hP hc hk =>
   rw [hl] at h;cases h
   have hsuf:Suf _ _:=P_suf hP hls.2
   have hsz:_≤_:=P_size hP
   refine c19 rd hls.2 ho hP ⟨fun _ y H' hy hys hgy h'=>?_,fun h0=>(h0 hc).elim⟩
   cases r1 with
   | nil=>exact hsuf.1.elim
   | cons t r2 =>
    have hk:decide (t.k=6)=true:=decide_eq_true hk
    simp only [x3_0,x3_1,x3_2,ob_some,h0,Bool.not_true,cnd_f,i_neq,szX,splX,partX,len_S]
    rw [c44' h'.rd]
    simp only [fK0,ob_some,i_neq,hk,Bool.not_true,cnd_f]
    exact hq y H' h'.ext hy hys hgy hc (by have:=check_size hc (by omega);rw [← hy,norm_size] at this;exact this)
end Go.Hx
namespace Go.Hx
def awS:ByteArray:=⟨#[97,46,120,32,60,32,49]⟩
def awL:List Tk:=[⟨2,bs [97],0⟩,⟨5,bs [46],1⟩,⟨2,bs [120],2⟩,⟨5,bs [60],4⟩,⟨3,bs [49],6⟩,⟨6,e0,7⟩]
theorem lexW_tok {p:Nat} {c:UInt8} {r w r':List UInt8} {k:Int} {n:Nat} {l:List Tk} (hb:blankB c=false) (h:lex1 (c::r)=.tok k w n) (hr:r.drop (n - 1)=r') (hl:lexW (p+n) r'=.ok l):lexW p (c::r)=.ok (⟨k,bs w,p⟩::l):=by
 rw [lexW,if_neg (by rw [hb];decide)]
 simp only [h,hr,hl]
theorem lexW_skip {p:Nat} {c:UInt8} {r:List UInt8} {R:Except (Nat × Int) (List Tk)} (hb:blankB c=true) (hl:lexW (p+1) r=R):lexW p (c::r)=R:=by
 rw [lexW,if_pos hb,hl]
theorem aw_lex:lexA awS=.ok awL:=by
 have h0:lexA awS=lexW 0 [97,46,120,32,60,32,49]:=by rw [lexA,if_neg (by decide)];rfl
 rw [h0]
 refine lexW_tok rfl (k:=2) (w:=[97]) (n:=1) (by kernel_rfl) (r':=[46,120,32,60,32,49]) rfl ?_
 refine lexW_tok rfl (k:=5) (w:=[46]) (n:=1) (by kernel_rfl) (r':=[120,32,60,32,49]) rfl ?_
 refine lexW_tok rfl (k:=2) (w:=[120]) (n:=1) (by kernel_rfl) (r':=[32,60,32,49]) rfl ?_
 refine lexW_skip rfl ?_
 refine lexW_tok rfl (k:=5) (w:=[60]) (n:=1) (by kernel_rfl) (r':=[32,49]) rfl ?_
 refine lexW_skip rfl ?_
 refine lexW_tok rfl (k:=3) (w:=[49]) (n:=1) (by kernel_rfl) (r':=[]) rfl ?_
 rw [lexW]

def awX:Ex:=nd 11 nullV e0 e0 [nd 2 nullV (bs [97]) (bs [120]) [],nd 1 (intV 1) e0 e0 []]
theorem aw_P:P (.row true) 0 awL (.ok awX [⟨6,e0,7⟩]):=by
 have atom:∀ {r:List Tk} {x:Ex} {r1:List Tk},atomR r=.ok x r1→nextIs 5 wOpen r=false→nextIs 5 wMinus r=false→opOf 6 8 r1=none→opOf 4 5 r1=none→P (.left true) 0 r (.ok x r1):=fun {r x r1} h h1 h2 h3 h4=>by
  have l:P .neg 0 r (.ok x r1):=.neg_no h2 (h ▸ .last_atom h1)
  exact .left_ok (b:=true) (.left_ok (b:=false) l (.lmore_no h3)) (.lmore_no h4)
 have h1:P (.left true) 0 awL (.ok (nd 2 nullV (bs [97]) (bs [120]) []) [⟨5,bs [60],4⟩,⟨3,bs [49],6⟩,⟨6,e0,7⟩]):=atom rfl rfl rfl rfl rfl
 have h2:P (.left true) 0 [⟨3,bs [49],6⟩,⟨6,e0,7⟩] (.ok (nd 1 (intV 1) e0 e0 []) [⟨6,e0,7⟩]):=atom rfl rfl rfl rfl rfl
 have hc:P .cmp 0 awL (.ok awX [⟨6,e0,7⟩]):=.cmp_ok h1 (show opOf 9 14 _=some 11 from rfl) h2
 have j1:joinE (rowK false) [awX]=awX:=rfl
 have j2:joinE (rowK true) [awX]=awX:=rfl
 have hm1:P (.more false [awX]) 0 [⟨6,e0,7⟩] (.ok awX [⟨6,e0,7⟩]):=by
  have:=P.more_no (b:=false) (l:=[awX]) (o:=0) (r:=[⟨6,e0,7⟩]) rfl
  rw [j1] at this;exact this
 have hm2:P (.more true [awX]) 0 [⟨6,e0,7⟩] (.ok awX [⟨6,e0,7⟩]):=by
  have:=P.more_no (b:=true) (l:=[awX]) (o:=0) (r:=[⟨6,e0,7⟩]) rfl
  rw [j2] at this;exact this
 exact .row_ok (b:=true) (.row_ok (b:=false) (.not_no rfl hc) hm1) hm2
theorem aw_T:TextR awS (.ok awX):=.ok aw_lex aw_P (by decide +kernel) rfl
theorem c18 (H:Heap) (Q:Post) (hq:∀ H',HExt H H'→Q (B true) H'):E 18 [] H Q:=by
 rw [f18_eq]
 refine c13 awS (by decide) H _ aw_T (fun y H' he hy _ _ _ _=>?_)
 have hk:y.k=11:=by rw [← norm_k,hy];rfl
 have e11:partA false 0 1 (encC y)=some (I 11):=by rw [q0X,hk]
 have h0:decide ((0:Int)=0)=true:=rfl
 have h7:decide (((awS.size:Nat):Int)=7)=true:=rfl
 have h11:decide ((11:Int)=11)=true:=rfl
 simp only [x3_0,x3_1,x3_2,ob_some,szX,splX,i_eql,h0,h7,h11,cnd_t,e11]
 rw [f18_j6_eq]
 exact hq H' he
end Go.Hx
namespace Go.Hx
inductive RR (α:Type) where
 | ok (v:α) (r:List Tk)
 | bad (e:Int) (p:Nat)
/-- a name must come -/
def nameR:List Tk→RR ByteArray
 | []=>.bad 4 0
 | t::r=>if t.k=2 then .ok t.s r else .bad 4 t.p
/-- something must come -/
def mustR (k:Int) (s:ByteArray) (r:List Tk):RR Unit:=if nextIs k s r=true then .ok () r.tail else .bad 4 (posn r)
/-- a number must come -/
def intR (lo hi:Int):List Tk→RR Int
 | []=>.bad 4 0
 | t::r=>if t.k=3 then match numOf false t.s with
   | some n=>if lo≤n∧n≤hi then .ok n r else .bad 4 t.p
   | none=>.bad 4 t.p
  else .bad 4 t.p
def ndT (k:Int) (var typ:ByteArray) (lo hi:Int) (l:List Pa):Pa:=.mk k var typ lo hi 0 true .any l
mutual
def normT:Pa→Pa
 | .mk k var typ lo hi _ _ _ l=>ndT k var typ lo hi (normTs l)
def normTs:List Pa→List Pa
 | []=>[]
 | x::r=>normT x::normTs r
end
theorem normTs_map (l:List Pa):normTs l=l.map normT:=by
 induction l with
 | nil=>simp [normTs]
 | cons x r ih=>simp [normTs,ih]
theorem normT_eq (x:Pa):normT x=ndT x.k x.var x.typ x.lo x.hi (x.l.map normT):=by
 cases x;simp [normT,normTs_map,Pa.k,Pa.var,Pa.typ,Pa.lo,Pa.hi,Pa.l]
theorem normT_k (x:Pa):(normT x).k=x.k:=by rw [normT_eq];rfl
theorem normT_var (x:Pa):(normT x).var=x.var:=by rw [normT_eq];rfl
theorem normT_typ (x:Pa):(normT x).typ=x.typ:=by rw [normT_eq];rfl
theorem normT_lo (x:Pa):(normT x).lo=x.lo:=by rw [normT_eq];rfl
theorem normT_hi (x:Pa):(normT x).hi=x.hi:=by rw [normT_eq];rfl
theorem normT_l (x:Pa):(normT x).l=x.l.map normT:=by rw [normT_eq];rfl
theorem normT_mk (k:Int) (var typ:ByteArray) (lo hi:Int) (sz:Nat) (nil:Bool) (tip:Tip) (l:List Pa):normT (.mk k var typ lo hi sz nil tip l)=ndT k var typ lo hi (l.map normT):=normT_eq _
theorem sizeTs_app (l r:List Pa):sizeTs (l++r)=sizeTs l+sizeTs r:=by
 induction l with
 | nil=>simp [sizeTs]
 | cons x l ih=>simp only [List.cons_append,sizeTs,ih];omega
theorem one_sizeT (x:Pa):1≤sizeT x:=by rw [sizeT_eq];omega
theorem len_sizeT (l:List Pa):l.length≤sizeTs l:=by
 induction l with
 | nil=>simp [sizeTs]
 | cons x l ih=>have:=one_sizeT x;simp only [List.length_cons,sizeTs];omega
theorem normT_size (x:Pa):sizeT (normT x)=sizeT x:=by
 induction x using Pa.ind with
 | h x ih =>
  rw [sizeT_eq,sizeT_eq x,normT_l]
  have:∀ l:List Pa,(∀ y ∈ l,y ∈ x.l)→sizeTs (l.map normT)=sizeTs l:=by
   intro l
   induction l with
   | nil=>intro _;rfl
   | cons y l ihl=>intro h;simp only [List.map_cons,sizeTs,ih y (h y (by simp)),ihl fun z hz=>h z (by simp [hz])]
  rw [this x.l fun _ h=>h]
/-- parts of a kind -/
def partsP (k:Int) (l:List Pa):List Pa:=l.flatMap fun x=>if x.k=k then x.l else [x]
def joinP (k:Int) (l:List Pa):Pa :=
 match partsP k l with
 | [x]=>x
 | out=>ndT k e0 e0 0 0 out
inductive PRT where
 | ok (x:Pa) (r:List Tk)
 | bad (e:Int) (p:Nat)
def sEq:ByteArray:=⟨#[61]⟩
def wArrow:ByteArray:=⟨#[45,62]⟩
def wSqO:ByteArray:=⟨#[91]⟩
def wSqS:ByteArray:=⟨#[93]⟩
/-- a Var, =, a Type -/
def leafR (k lo:Int) (r:List Tk):PRT :=
 match nameR r with
 | .bad e p=>.bad e p
 | .ok v r1=>match mustR 5 sEq r1 with
  | .bad e p=>.bad e p
  | .ok _ r2=>match nameR r2 with
   | .bad e p=>.bad e p
   | .ok t r3=>.ok (ndT k v t lo lo []) r3
/-- a number, ], an atom -/
def manyR (r:List Tk):PRT :=
 match intR 2 1000 r with
 | .bad e p=>.bad e p
 | .ok n r1=>match mustR 5 wSqS r1 with
  | .bad e p=>.bad e p
  | .ok _ r2=>leafR 5 n r2
inductive GE where
 | row (lv:Nat)
 | more (lv:Nat) (l:List Pa)
 | last
def sepR (lv:Nat) (r:List Tk):Bool:=if lv=1 then nextIs 5 wArrow r else if lv=2 then nextIs 1 (rowW true) r else nextIs 1 (rowW false) r
def kindE (lv:Nat):Int:=if lv=1 then 2 else if lv=2 then 4 else 3
inductive PE:GE→Nat→List Tk→PRT→Prop
 | row4 {o r R}:PE .last o r R→PE (.row 4) o r R
 | row_bad {lv o r e p}:1≤lv→lv≤3→PE (.row (lv+1)) o r (.bad e p)→PE (.row lv) o r (.bad e p)
 | row_ok {lv o r x r1 R}:1≤lv→lv≤3→PE (.row (lv+1)) o r (.ok x r1)→PE (.more lv [x]) o r1 R→PE (.row lv) o r R
 | more_no {lv l o r}:sepR lv r=false→PE (.more lv l) o r (.ok (joinP (kindE lv) l) r)
 | more_bad {lv l o t r e p}:1≤lv→lv≤3→sepR lv (t::r)=true→PE (.row (lv+1)) o r (.bad e p)→PE (.more lv l) o (t::r) (.bad e p)
 | more_ok {lv l o t r x r1 R}:1≤lv→lv≤3→sepR lv (t::r)=true→PE (.row (lv+1)) o r (.ok x r1)→PE (.more lv (l++[x])) o r1 R→PE (.more lv l) o (t::r) R
 | last_not {o t r}:nextIs 1 wNOT (t::r)=true→PE .last o (t::r) (leafR 6 0 r)
 | last_many {o t r}:nextIs 5 wSqO (t::r)=true→PE .last o (t::r) (manyR r)
 | last_long {o r}:nextIs 5 wOpen r=true→64≤o→PE .last o r (.bad 2 (posn r))
 | last_bad {o t r e p}:nextIs 5 wOpen (t::r)=true→o < 64→PE (.row 1) (o+1) r (.bad e p)→PE .last o (t::r) (.bad e p)
 | last_open {o t r x r1}:nextIs 5 wOpen (t::r)=true→o < 64→PE (.row 1) (o+1) r (.ok x r1)→nextIs 5 wShut r1=false→PE .last o (t::r) (.bad 4 (posn r1))
 | last_ok {o t r x u r1}:nextIs 5 wOpen (t::r)=true→o < 64→PE (.row 1) (o+1) r (.ok x (u::r1))→nextIs 5 wShut (u::r1)=true→PE .last o (t::r) (.ok x r1)
 | last_leaf {o r}:nextIs 1 wNOT r=false→nextIs 5 wSqO r=false→nextIs 5 wOpen r=false→PE .last o r (leafR 1 0 r)
theorem sepR_ne {lv:Nat} {r:List Tk} (h:sepR lv r=true):∃ t r1,r=t::r1∧t.k ≠ 6:=by
 simp only [sepR] at h
 split at h
 ·obtain ⟨t,r1,e,hk,_⟩:=nextIs_ne h;exact ⟨t,r1,e,by omega⟩
 ·split at h
  ·obtain ⟨t,r1,e,hk,_⟩:=nextIs_ne h;exact ⟨t,r1,e,by omega⟩
  ·obtain ⟨t,r1,e,hk,_⟩:=nextIs_ne h;exact ⟨t,r1,e,by omega⟩
def gT (x:Pa):Prop:=x.var.size≤1099511627776∧x.typ.size≤1099511627776∧rng x.lo∧rng x.hi
structure FactsR {α:Type} (n:Nat) (r:List Tk) (R:RR α):Prop where
 ok:∀ v r1,R=.ok v r1→endsT r→Suf r r1∧r1.length+1≤r.length
 bad:∀ e p,R=.bad e p→e=4∧((∀ t ∈ r,t.p≤n)→p≤n)
theorem factsR_bad {α:Type} {n:Nat} {r:List Tk} {p:Nat} (h:(∀ t ∈ r,t.p≤n)→p≤n):FactsR n r (.bad 4 p:RR α):=by
 constructor
 ·intro v r1 e;cases e
 ·intro e q e';cases e';exact ⟨rfl,h⟩
theorem factsR_ok {α:Type} {n:Nat} {r r0:List Tk} {v:α} (h:endsT r→Suf r r0∧r0.length+1≤r.length):FactsR n r (.ok v r0:RR α):=by
 constructor
 ·intro v r1 e;cases e;exact h
 ·intro e q e';cases e'
theorem nameR_facts (n:Nat) (r:List Tk):FactsR n r (nameR r):=by
 cases r with
 | nil=>exact factsR_bad fun _=>Nat.zero_le _
 | cons t r =>
  simp only [nameR]
  split
  ·rename_i hk
   exact factsR_ok fun he=>⟨(Suf.refl (endsT_tail he (by omega))).cons,by simp⟩
  ·exact factsR_bad fun hr=>hr t (by simp)
theorem mustR_facts (k:Int) (hk:k ≠ 6) (s:ByteArray) (n:Nat) (r:List Tk):FactsR n r (mustR k s r):=by
 simp only [mustR]
 split
 ·rename_i h
  obtain ⟨t,r1,rfl,ht,_⟩:=nextIs_ne h
  exact factsR_ok fun he=>⟨(Suf.refl (endsT_tail he (by omega))).cons,by simp⟩
 ·refine factsR_bad fun hr=>?_
  cases r with
  | nil=>exact Nat.zero_le _
  | cons t r=>exact hr t (by simp)
theorem intR_facts (lo hi:Int) (n:Nat) (r:List Tk):FactsR n r (intR lo hi r):=by
 cases r with
 | nil=>exact factsR_bad fun _=>Nat.zero_le _
 | cons t r =>
  have b:FactsR n (t::r) (.bad 4 t.p:RR Int):=factsR_bad fun hr=>hr t (by simp)
  simp only [intR]
  split
  ·rename_i hk
   split
   ·split
    ·exact factsR_ok fun he=>⟨(Suf.refl (endsT_tail he (by omega))).cons,by simp⟩
    ·exact b
   ·exact b
  ·exact b
theorem intR_rng {lo hi n:Int} {r r1:List Tk} (h:intR lo hi r=.ok n r1):lo≤n∧n≤hi:=by
 cases r with
 | nil=>cases h
 | cons t r =>
  simp only [intR] at h
  split at h
  ·split at h
   ·split at h
    ·rename_i g;cases h;exact g
    ·cases h
   ·cases h
  ·cases h
theorem nameR_size {r r1:List Tk} {v:ByteArray} (h:nameR r=.ok v r1) (ht:∀ t ∈ r,okTk t):v.size≤1099511627775:=by
 cases r with
 | nil=>cases h
 | cons t r =>
  simp only [nameR] at h
  split at h
  ·cases h;exact (ht t (by simp)).1
  ·cases h
def SizeG (g:GE) (r:List Tk) (x:Pa) (r1:List Tk):Prop :=
 match g with
 | .more _ l=>l ≠ []→sizeT x+r1.length≤r.length+sizeTs l+if l.length≤1 then 0 else 1
 | _=>sizeT x+r1.length≤r.length
/-- facts of what is read -/
structure FactsT (n:Nat) (g:GE) (r:List Tk) (R:PRT):Prop where
 ok:∀ x r1,R=.ok x r1→endsT r→Suf r r1∧SizeG g r x r1
 good:∀ x r1,R=.ok x r1→endsT r→(∀ t ∈ r,okTk t)→(∀ lv l,g=.more lv l→∀ y ∈ l,allT gT y)→allT gT x
 bad:∀ e p,R=.bad e p→endsT r→e ≠ 0∧((∀ t ∈ r,t.p≤n)→p≤n)
theorem factsT_bad {n:Nat} {g:GE} {r:List Tk} {e:Int} {p:Nat} (he:e ≠ 0) (h:endsT r→(∀ t ∈ r,t.p≤n)→p≤n):FactsT n g r (.bad e p):=by
 constructor
 ·intro x r1 e';cases e'
 ·intro x r1 e';cases e'
 ·intro e1 p1 e' h6;cases e';exact ⟨he,h h6⟩
theorem leafR_facts (k lo:Int) (hlo:rng lo) (n:Nat) (g:GE) (hg:∀ lv l,g ≠ .more lv l) (r:List Tk):FactsT n g r (leafR k lo r):=by
 have h1:=nameR_facts n r
 have hsz:∀ {x:Pa} {r r1:List Tk},sizeT x+r1.length≤r.length→SizeG g r x r1:=fun {x r r1} h=>by
  cases g with
  | row lv=>exact h
  | more lv l=>exact (hg lv l rfl).elim
  | last=>exact h
 simp only [leafR]
 cases e1:nameR r with
 | bad e p=>have:=h1.bad _ _ e1;exact factsT_bad (by omega) fun _=>this.2
 | ok v r1 =>
  simp only
  have h2:=mustR_facts 5 (by decide) sEq n r1
  cases e2:mustR 5 sEq r1 with
  | bad e p=>have:=h2.bad _ _ e2;exact factsT_bad (by omega) fun he hr=>this.2 ((h1.ok _ _ e1 he).1.mem hr)
  | ok u r2 =>
   simp only
   have h3:=nameR_facts n r2
   cases e3:nameR r2 with
   | bad e p =>
    have:=h3.bad _ _ e3
    refine factsT_bad (by omega) fun he hr=>?_
    have s1:=(h1.ok _ _ e1 he).1
    have s2:=(h2.ok _ _ e2 s1.1).1
    exact this.2 (s2.mem (s1.mem hr))
   | ok t r3 =>
    refine ⟨fun x r4 h he=>?_,fun x r4 h he ht _=>?_,fun e' p' h=>(by cases h)⟩
    ·cases h
     have s1:=h1.ok _ _ e1 he
     have s2:=h2.ok _ _ e2 s1.1.1
     have s3:=h3.ok _ _ e3 s2.1.1
     refine ⟨(s1.1.trans s2.1).trans s3.1,hsz ?_⟩
     simp only [ndT,sizeT,sizeTs];omega
    ·cases h
     have s1:=(h1.ok _ _ e1 he).1
     have s2:=(h2.ok _ _ e2 s1.1).1
     have a1:=nameR_size e1 ht
     have a2:=nameR_size e3 (s2.mem (s1.mem ht))
     rw [allT_eq]
     exact ⟨⟨by show v.size≤_;omega,by show t.size≤_;omega,hlo,hlo⟩,trivial⟩
theorem manyR_facts (n:Nat) (g:GE) (hg:∀ lv l,g ≠ .more lv l) (r:List Tk):FactsT n g r (manyR r):=by
 have h1:=intR_facts 2 1000 n r
 simp only [manyR]
 cases e1:intR 2 1000 r with
 | bad e p=>have:=h1.bad _ _ e1;exact factsT_bad (by omega) fun _=>this.2
 | ok v r1 =>
  have hv:=intR_rng e1
  simp only
  have h2:=mustR_facts 5 (by decide) wSqS n r1
  cases e2:mustR 5 wSqS r1 with
  | bad e p=>have:=h2.bad _ _ e2;exact factsT_bad (by omega) fun he hr=>this.2 ((h1.ok _ _ e1 he).1.mem hr)
  | ok u r2 =>
   simp only
   have h3:=leafR_facts 5 v ⟨by omega,by omega⟩ n .last (fun _ _ h=>(by cases h)) r2
   refine ⟨fun x r4 h he=>?_,fun x r4 h he ht _=>?_,fun e' p' h he=>?_⟩
   ·have s1:=h1.ok _ _ e1 he
    have s2:=h2.ok _ _ e2 s1.1.1
    have s3:=h3.ok _ _ h s2.1.1
    refine ⟨(s1.1.trans s2.1).trans s3.1,?_⟩
    have hz:sizeT x+r4.length≤r2.length:=s3.2
    cases g with
    | row lv=>show _≤_;omega
    | more lv l=>exact (hg lv l rfl).elim
    | last=>show _≤_;omega
   ·have s1:=(h1.ok _ _ e1 he).1
    have s2:=(h2.ok _ _ e2 s1.1).1
    exact h3.good _ _ h s2.1 (s2.mem (s1.mem ht)) (fun _ _ h=>(by cases h))
   ·have s1:=(h1.ok _ _ e1 he).1
    have s2:=(h2.ok _ _ e2 s1.1).1
    have:=h3.bad _ _ h s2.1
    exact ⟨this.1,fun hr=>this.2 (s2.mem (s1.mem hr))⟩
theorem sizeTs_parts (k:Int) (l:List Pa):sizeTs (partsP k l)≤sizeTs l:=by
 induction l with
 | nil=>simp [partsP,sizeTs]
 | cons x l ih =>
  have e:partsP k (x::l)=(if x.k=k then x.l else [x])++partsP k l:=by simp [partsP]
  rw [e,sizeTs_app]
  have:=sizeT_eq x
  simp only [sizeTs]
  split
  ·omega
  ·simp only [sizeTs];omega
theorem size_joinP (k:Int) (l:List Pa) (hl:l ≠ []):sizeT (joinP k l)≤sizeTs l+if l.length≤1 then 0 else 1:=by
 have hp:=sizeTs_parts k l
 have hl':1≤l.length:=List.length_pos_iff.2 hl
 simp only [joinP]
 split
 ·rename_i x hx;rw [hx] at hp;simp only [sizeTs] at hp;omega
 ·rename_i hns
  have e:∀ out,sizeT (ndT k e0 e0 0 0 out)=1+sizeTs out:=fun out=>by simp [ndT,sizeT]
  rw [e]
  split
  ·rename_i h1
   obtain ⟨x,rfl⟩:=List.length_eq_one_iff.1 (by omega:l.length=1)
   have e:partsP k [x]=if x.k=k then x.l else [x]:=by simp [partsP]
   rw [e] at hns ⊢
   by_cases hk:x.k=k
   ·rw [if_pos hk];have:=sizeT_eq x;simp only [sizeTs];omega
   ·rw [if_neg hk] at hns;exact (hns x rfl).elim
  ·omega
theorem good_joinP {k:Int} {l:List Pa} (h:∀ x ∈ l,allT gT x):allT gT (joinP k l):=by
 have hp:∀ x ∈ partsP k l,allT gT x:=fun x hx=>by
  simp only [partsP,List.mem_flatMap] at hx
  obtain ⟨y,hy,hx⟩:=hx
  split at hx
  ·exact allTs_mem ((allT_eq _ _).1 (h y hy)).2 hx
  ·simp at hx;subst hx;exact h _ hy
 have hof:∀ l:List Pa,(∀ x ∈ l,allT gT x)→allTs gT l:=by
  intro l
  induction l with
  | nil=>intro _;trivial
  | cons x l ih=>intro h;exact ⟨h x (by simp),ih fun y hy=>h y (by simp [hy])⟩
 simp only [joinP]
 split
 ·rename_i x hx;exact hp x (by rw [hx];simp)
 ·rw [allT_eq]
  exact ⟨⟨by show 0≤_;omega,by show 0≤_;omega,⟨by show _≤(0:Int);omega,by show (0:Int)≤_;omega⟩,⟨by show _≤(0:Int);omega,by show (0:Int)≤_;omega⟩⟩,hof _ hp⟩
theorem PE_facts {g:GE} {o:Nat} {r:List Tk} {R:PRT} (h:PE g o r R) (n:Nat):FactsT n g r R:=by
 have z:rng 0:=⟨by omega,by omega⟩
 have tl:∀ {k:Int} {s:ByteArray} {t:Tk} {r:List Tk},k ≠ 6→nextIs k s (t::r)=true→endsT (t::r)→endsT r:=fun hk h he=>endsT_tail he (by rw [(nextIs_cons h).1];exact hk)
 have tls:∀ {lv:Nat} {t:Tk} {r:List Tk},sepR lv (t::r)=true→endsT (t::r)→endsT r:=fun h he=>by
  obtain ⟨t',r',e,hk⟩:=sepR_ne h
  cases e;exact endsT_tail he hk
 have tm:∀ {t:Tk} {r:List Tk} {p:Tk→Prop},(∀ u ∈ t::r,p u)→∀ u ∈ r,p u:=fun h u hu=>h u (by simp [hu])
 have shift:∀ {t:Tk} {r:List Tk} {R:PRT},t.k ≠ 6→FactsT n .last r R→FactsT n .last (t::r) R:=fun {t r R} hk h=>by
  refine ⟨fun x r1 e he=>?_,fun x r1 e he ht _=>?_,fun e p h' he=>?_⟩
  ·have:=h.ok x r1 e (endsT_tail he hk)
   exact ⟨this.1.cons,by have h2:_≤_:=this.2;show _≤_;simp only [List.length_cons];omega⟩
  ·exact h.good x r1 e (endsT_tail he hk) (tm ht) (fun _ _ h=>(by cases h))
  ·have:=h.bad e p h' (endsT_tail he hk)
   exact ⟨this.1,fun hr=>this.2 (tm hr)⟩
 have badT:∀ {g:GE} {r r':List Tk} {e:Int} {p:Nat} {g':GE},FactsT n g' r' (.bad e p)→(endsT r→endsT r')→(∀ {q:Tk→Prop},(∀ t ∈ r,q t)→∀ t ∈ r',q t)→FactsT n g r (.bad e p):=fun h he hm =>
  ⟨fun _ _ h=>(by cases h),fun _ _ h=>(by cases h),fun e' p' h' h6=>(by cases h';have:=h.bad _ _ rfl (he h6);exact ⟨this.1,fun hr=>this.2 (hm hr)⟩)⟩
 induction h with
 | row4 _ ih=>exact ⟨ih.ok,fun x r1 e he ht _=>ih.good x r1 e he ht (fun _ _ h=>(by cases h)),ih.bad⟩
 | row_bad _ _ _ ih=>exact badT ih id id
 | row_ok _ _ _ _ ih1 ih2 =>
  refine ⟨fun x r1 e he=>?_,fun x r1 e he ht _=>?_,fun e p h he=>?_⟩
  ·have h1:=ih1.ok _ _ rfl he
   have h2:=ih2.ok _ _ e h1.1.1
   have a:_≤_:=h1.2
   have b:_≤_:=h2.2 (by simp)
   simp only [sizeTs,List.length_singleton,Nat.le_refl,if_true] at b
   exact ⟨h1.1.trans h2.1,by show _≤_;omega⟩
  ·have h1:=ih1.ok _ _ rfl he
   have g1:=ih1.good _ _ rfl he ht (fun _ _ h=>(by cases h))
   exact ih2.good _ _ e h1.1.1 (h1.1.mem ht) (fun _ _ h y hy=>by cases h;simp at hy;subst hy;exact g1)
  ·have h1:=ih1.ok _ _ rfl he
   have:=ih2.bad _ _ h h1.1.1
   exact ⟨this.1,fun hr=>this.2 (h1.1.mem hr)⟩
 | more_no hn =>
  rename_i lv l o r
  refine ⟨fun x r1 e he=>?_,fun x r1 e he ht hl=>?_,fun e p h=>(by cases h)⟩
  ·cases e
   refine ⟨Suf.refl he,fun hl=>?_⟩
   have:=size_joinP (kindE lv) l hl
   omega
  ·cases e
   exact good_joinP (hl _ _ rfl)
 | more_bad _ _ hs _ ih=>exact badT ih (tls hs) tm
 | more_ok _ _ hs _ _ ih1 ih2 =>
  rename_i lv l o t r x0 r0 R _ _ _ _
  refine ⟨fun x r1 e he=>?_,fun x r1 e he ht hl=>?_,fun e p h he=>?_⟩
  ·have he':=tls hs he
   have h1:=ih1.ok _ _ rfl he'
   have h2:=ih2.ok _ _ e h1.1.1
   refine ⟨(h1.1.trans h2.1).cons,fun hl=>?_⟩
   have a:_≤_:=h1.2
   have b:_≤_:=h2.2 (by simp)
   have hl':1≤l.length:=List.length_pos_iff.2 hl
   rw [sizeTs_app] at b
   simp only [sizeTs,List.length_append,List.length_singleton] at b
   rw [if_neg (by omega)] at b
   simp only [List.length_cons]
   omega
  ·have he':=tls hs he
   have h1:=ih1.ok _ _ rfl he'
   have g1:=ih1.good _ _ rfl he' (tm ht) (fun _ _ h=>(by cases h))
   exact ih2.good _ _ e h1.1.1 (h1.1.mem (tm ht)) (fun _ _ h y hy=>by
    cases h
    simp only [List.mem_append,List.mem_singleton] at hy
    rcases hy with hy | hy
    ·exact hl _ _ rfl y hy
    ·subst hy;exact g1)
  ·have he':=tls hs he
   have h1:=ih1.ok _ _ rfl he'
   have:=ih2.bad _ _ h h1.1.1
   exact ⟨this.1,fun hr=>this.2 (h1.1.mem (tm hr))⟩
 | last_not hn=>exact shift (by rw [(nextIs_cons hn).1];decide) (leafR_facts 6 0 z n .last (fun _ _ h=>(by cases h)) _)
 | last_many hn=>exact shift (by rw [(nextIs_cons hn).1];decide) (manyR_facts n .last (fun _ _ h=>(by cases h)) _)
 | last_long hn _ =>
  obtain ⟨t,r1,rfl,_,_⟩:=nextIs_ne hn
  exact factsT_bad (by decide) fun _ hr=>hr t (by simp)
 | last_bad hn _ _ ih=>exact badT ih (tl (by decide) hn) tm
 | last_open hn _ _ _ ih =>
  refine factsT_bad (by decide) fun he hr=>?_
  have h1:=(ih.ok _ _ rfl (tl (by decide) hn he)).1
  have hm:=h1.mem (tm hr)
  rename_i r1 _ _ _
  cases r1 with
  | nil=>exact Nat.zero_le _
  | cons u r1=>exact hm u (by simp)
 | last_ok hn _ _ hs ih =>
  refine ⟨fun x r1 e he=>?_,fun x r1 e he ht _=>?_,fun e p h=>(by cases h)⟩
  ·cases e
   have h1:=ih.ok _ _ rfl (tl (by decide) hn he)
   have a:_≤_:=h1.2
   simp only [List.length_cons] at a
   exact ⟨(h1.1.trans (Suf.refl (tl (by decide) hs h1.1.1)).cons).cons,by show _≤_;simp only [List.length_cons];omega⟩
  ·cases e
   exact ih.good _ _ rfl (tl (by decide) hn he) (tm ht) (fun _ _ h=>(by cases h))
 | last_leaf _ _ _=>exact leafR_facts 1 0 z n .last (fun _ _ h=>(by cases h)) _
end Go.Hx
namespace Go.Hx
def rankE:GE→Nat
 | .row lv=>10 - lv
 | .more _ _=>1
 | .last=>5
def okE:GE→Prop
 | .row lv=>1≤lv∧lv≤4
 | .more lv _=>1≤lv∧lv≤3
 | .last=>True
theorem PE_total:∀ (n:Nat) (g:GE) (o:Nat) (r:List Tk),20 * r.length+rankE g≤n→okE g→endsT r→∃ R,PE g o r R:=by
 intro n
 induction n with
 | zero=>intro g o r hn hg;cases g<;>simp [rankE] at hn<;>simp [okE] at hg<;>omega
 | succ n ih =>
  intro g o r hn hg hr
  have step:∀ (g':GE) (o':Nat) (r':List Tk),okE g'→endsT r'→20 * r'.length+rankE g' < 20 * r.length+rankE g→∃ R,PE g' o' r' R:=fun g' o' r' h0 h1 h2=>ih g' o' r' (by omega) h0 h1
  cases g with
  | row lv =>
   obtain ⟨h1,h4⟩:=hg
   by_cases hl:lv=4
   ·subst hl
    obtain ⟨R,h⟩:=step .last o r trivial hr (by simp [rankE])
    exact ⟨R,.row4 h⟩
   ·obtain ⟨R,h⟩:=step (.row (lv+1)) o r ⟨by omega,by omega⟩ hr (by simp only [rankE];omega)
    cases R with
    | bad e p=>exact ⟨_,.row_bad h1 (by omega) h⟩
    | ok x r1 =>
     have hf:=(PE_facts h 0).ok _ _ rfl hr
     have a:_≤_:=hf.2
     obtain ⟨R,h2⟩:=step (.more lv [x]) o r1 ⟨h1,by omega⟩ hf.1.1 (by simp only [rankE];omega)
     exact ⟨R,.row_ok h1 (by omega) h h2⟩
  | more lv l =>
   obtain ⟨h1,h3⟩:=hg
   cases hs:sepR lv r with
   | false=>exact ⟨_,.more_no hs⟩
   | true =>
    obtain ⟨t,r1,rfl,hk⟩:=sepR_ne hs
    have ht:=endsT_tail hr hk
    obtain ⟨R,h⟩:=step (.row (lv+1)) o r1 ⟨by omega,by omega⟩ ht (by simp only [rankE,List.length_cons];omega)
    cases R with
    | bad e p=>exact ⟨_,.more_bad h1 h3 hs h⟩
    | ok x r2 =>
     have hf:=(PE_facts h 0).ok _ _ rfl ht
     have a:_≤_:=hf.2
     obtain ⟨R,h2⟩:=step (.more lv (l++[x])) o r2 ⟨h1,h3⟩ hf.1.1 (by simp only [rankE,List.length_cons];omega)
     exact ⟨R,.more_ok h1 h3 hs h h2⟩
  | last =>
   cases h1:nextIs 1 wNOT r with
   | true =>
    obtain ⟨t,r1,rfl,_,_⟩:=nextIs_ne h1
    exact ⟨_,.last_not h1⟩
   | false =>
    cases h2:nextIs 5 wSqO r with
    | true =>
     obtain ⟨t,r1,rfl,_,_⟩:=nextIs_ne h2
     exact ⟨_,.last_many h2⟩
    | false =>
     cases h3:nextIs 5 wOpen r with
     | false=>exact ⟨_,.last_leaf h1 h2 h3⟩
     | true =>
      rcases Nat.lt_or_ge o 64 with ho | ho
      ·obtain ⟨t,r1,rfl,hk,_⟩:=nextIs_ne h3
       have ht:=endsT_tail hr (by omega:t.k ≠ 6)
       obtain ⟨R,h⟩:=step (.row 1) (o+1) r1 ⟨by omega,by omega⟩ ht (by simp only [rankE,List.length_cons];omega)
       cases R with
       | bad e p=>exact ⟨_,.last_bad h3 ho h⟩
       | ok x r2 =>
        have hf:=(PE_facts h 0).ok _ _ rfl ht
        cases hy:nextIs 5 wShut r2 with
        | false=>exact ⟨_,.last_open h3 ho h hy⟩
        | true =>
         obtain ⟨u,r3,rfl,_,_⟩:=nextIs_ne hy
         exact ⟨_,.last_ok h3 ho h hy⟩
      ·exact ⟨_,.last_long h3 ho⟩
section
variable {H0 H:Heap} {T:Nat→Nat→Prop} {pb rb:Nat} {r:List Tk} {o e a:Int} {Q:Post}
theorem c128 (h:PS H0 T pb rb r o e a H) (Q:Post):E 128 [Pt pb] H Q=Q (B (decide (e=0))) H:=by
 rw [f128_eq,nil_Pt,ob_some,add_Pt,ob_some,h.ld2,ob_some,i_eql,ob_some]
theorem c135 {a:Int} (h:PS H0 T pb rb r o 0 a H) (e' a':Int) (hq:∀ H',PS H0 T pb rb r o e' a' H'→Q (.tup []) H'):E 135 [Pt pb,I e',I a'] H Q:=by
 have h1:=h.setp o e' a
 have h2:=h1.setp o e' a'
 rw [f135_eq,c128 h,decide_eq_true rfl,cnd_t,nil_Pt,ob_some,add_Pt,ob_some,h.st2,ob_some,ob_some,add_Pt,ob_some,h1.st3,ob_some]
 exact hq _ h2
/-- a fault, if something is not so -/
theorem c129 {a:Int} (h:PS H0 T pb rb r o 0 a H) (hr:r ≠ []) (b:Bool) (h1:b=true→Q (B true) H) (h0:b=false→∀ H',PS H0 T pb rb r o 4 (posn r) H'→Q (B false) H'):E 129 [Pt pb,B b] H Q:=by
 rw [f129_eq,not_B,ob_some]
 cases b with
 | true =>
  rw [Bool.not_true,cnd_f,f129_j8_eq]
  exact h1 rfl
 | false =>
  rw [Bool.not_false,cnd_t,nil_Pt,ob_some,add_Pt,ob_some,h.ld0,ob_some,c21 h.rd hr]
  refine c135 h 4 (posn r) (fun H' h'=>?_)
  rw [f129_j8_eq]
  exact h0 rfl H' h'
/-- that sign must come -/
theorem c208 (s:ByteArray) (h:PS H0 T pb rb r o 0 0 H) (hr:r ≠ []) (h0:nextIs 5 s r=false→∀ H',PS H0 T pb rb r o 4 (posn r) H'→Q (B false) H')
  (h1:nextIs 5 s r=true→∀ H',PS H0 T pb rb r.tail o 0 0 H'→Q (B true) H'):E 208 [Pt pb,S s] H Q:=by
 rw [f208_eq,c128 h,decide_eq_true rfl,cnd_t,nil_Pt,ob_some,add_Pt,ob_some,h.ld0,ob_some]
 refine c228 s h.rd hr _ (fun hn=>?_) (fun t r1 ob1 e hn h2=>?_)
 ·refine c129 h hr false (fun hh=>by cases hh) (fun _ H' h'=>?_)
  rw [f208_j4_eq];exact h0 hn H' h'
 ·subst e
  have h3:=h.setr h2
  rw [f129_eq,not_B,ob_some,Bool.not_true,cnd_f,f129_j8_eq,f208_j4_eq]
  exact h1 hn _ h3
theorem c208' (s:AV) (h:PS H0 T pb rb r o e a H) (he:e ≠ 0) (hq:Q (B false) H):E 208 [Pt pb,s] H Q:=by
 rw [f208_eq,c128 h,decide_eq_false he,cnd_f,f208_j4_eq]
 exact hq
theorem c61 (s:ByteArray) (h:PS H0 T pb rb r o 0 0 H) (hr:r ≠ []) (h0:nextIs 1 s r=false→∀ H',PS H0 T pb rb r o 4 (posn r) H'→Q (B false) H')
  (h1:nextIs 1 s r=true→∀ H',PS H0 T pb rb r.tail o 0 0 H'→Q (B true) H'):E 61 [Pt pb,S s] H Q:=by
 rw [f61_eq,c128 h,decide_eq_true rfl,cnd_t,nil_Pt,ob_some,add_Pt,ob_some,h.ld0,ob_some]
 refine c130 s h.rd hr _ (fun hn=>?_) (fun t r1 ob1 e hn h2=>?_)
 ·refine c129 h hr false (fun hh=>by cases hh) (fun _ H' h'=>?_)
  rw [f61_j4_eq];exact h0 hn H' h'
 ·subst e
  have h3:=h.setr h2
  rw [f129_eq,not_B,ob_some,Bool.not_true,cnd_f,f129_j8_eq,f61_j4_eq]
  exact h1 hn _ h3
/-- that word may come -/
theorem c76 (s:ByteArray) (h:PS H0 T pb rb r o 0 0 H) (hr:r ≠ []) (h0:nextIs 1 s r=false→Q (B false) H)
  (h1:nextIs 1 s r=true→∀ H',PS H0 T pb rb r.tail o 0 0 H'→Q (B true) H'):E 76 [Pt pb,S s] H Q:=by
 rw [f76_eq,c128 h,decide_eq_true rfl,cnd_t,nil_Pt,ob_some,add_Pt,ob_some,h.ld0,ob_some]
 refine c130 s h.rd hr _ (fun hn=>?_) (fun t r1 ob1 e hn h2=>?_)
 ·rw [f76_j4_eq];exact h0 hn
 ·subst e
  rw [f76_j4_eq]
  exact h1 hn _ (h.setr h2)
theorem c76' (s:AV) (h:PS H0 T pb rb r o e a H) (he:e ≠ 0) (hq:Q (B false) H):E 76 [Pt pb,s] H Q:=by
 rw [f76_eq,c128 h,decide_eq_false he,cnd_f,f76_j4_eq]
 exact hq
theorem c149 (s:ByteArray) (h:PS H0 T pb rb r o 0 0 H) (hr:r ≠ []) (h0:nextIs 5 s r=false→Q (B false) H)
  (h1:nextIs 5 s r=true→∀ H',PS H0 T pb rb r.tail o 0 0 H'→Q (B true) H'):E 149 [Pt pb,S s] H Q:=by
 rw [f149_eq,c128 h,decide_eq_true rfl,cnd_t,nil_Pt,ob_some,add_Pt,ob_some,h.ld0,ob_some]
 refine c228 s h.rd hr _ (fun hn=>?_) (fun t r1 ob1 e hn h2=>?_)
 ·rw [f149_j4_eq];exact h0 hn
 ·subst e
  rw [f149_j4_eq]
  exact h1 hn _ (h.setr h2)
theorem c149' (s:AV) (h:PS H0 T pb rb r o e a H) (he:e ≠ 0) (hq:Q (B false) H):E 149 [Pt pb,s] H Q:=by
 rw [f149_eq,c128 h,decide_eq_false he,cnd_f,f149_j4_eq]
 exact hq
/-- a name must come -/
theorem c150 (h:PS H0 T pb rb r o 0 0 H) (hr:r ≠ []) (h0:∀ p H',nameR r=.bad 4 p→PS H0 T pb rb r o 4 p H'→Q (S e0) H')
  (h1:∀ v r1 H',nameR r=.ok v r1→PS H0 T pb rb r1 o 0 0 H'→Q (S v) H'):E 150 [Pt pb] H Q:=by
 rw [f150_eq,c128 h,decide_eq_true rfl,not_B,ob_some,Bool.not_true,cnd_f,nil_Pt,ob_some,add_Pt,ob_some,h.ld0,ob_some]
 cases r with
 | nil=>exact (hr rfl).elim
 | cons t r =>
  refine c229 h.rd hr _ (fun hk=>?_) (fun t' r1 ob1 e hk h2=>?_)
  ·rw [x20,ob_some,x21,ob_some]
   refine c129 h hr false (fun hh=>by cases hh) (fun _ H' h'=>?_)
   have hk:¬ t.k=2:=hk
   exact h0 _ H' (by simp only [nameR,if_neg hk];rfl) h'
  ·cases e
   rw [x20,ob_some,x21,ob_some,f129_eq,not_B,ob_some,Bool.not_true,cnd_f,f129_j8_eq]
   exact h1 _ _ _ (by simp only [nameR,if_pos hk]) (h.setr h2)
theorem c150' (h:PS H0 T pb rb r o e a H) (he:e ≠ 0) (hq:Q (S e0) H):E 150 [Pt pb] H Q:=by
 rw [f150_eq,c128 h,decide_eq_false he,not_B,ob_some,Bool.not_false,cnd_t]
 exact hq
/-- a number, if it is one -/
theorem c214 {t:Tk} {r:List Tk} (h:PS H0 T pb rb (t::r) o 0 0 H) (ht:okTk t) (most:Int) (h0:(t.k=3→∀ n,numOf false t.s=some n→most < n)→Q (.tup [I 0,B false]) H)
  (h1:∀ n H',t.k=3→numOf false t.s=some n→n≤most→PS H0 T pb rb r o 0 0 H'→Q (.tup [I n,B true]) H'):E 214 [Pt rb,I most] H Q:=by
 have p0:partA false 0 1 [I t.k,S t.s,I t.p]=some (I t.k):=rfl
 have p1:partA false 1 1 [I t.k,S t.s,I t.p]=some (S t.s):=rfl
 rw [f214_eq,c44' h.rd,encK_sz,ob_some,encK_sp,ob_some,p0,ob_some,i_neq,ob_some]
 refine cnd_intro (fun hk=>?_) (fun hk=>?_)
 ·have hk:¬ t.k=3:=by simpa using hk
  exact h0 (fun h3=>(hk h3).elim)
 ·have hk:t.k=3:=by simpa using hk
  obtain ⟨hsz,hdig,_⟩:=ht
  have hlen:(tx t.s).length=t.s.size:=size_list t.s
  have hS:S t.s=S (bs (numB false (tx t.s))):=by
   have:numB false (tx t.s)=tx t.s:=by simp [numB]
   rw [this,bs_tx]
  rw [p1,ob_some,hS,c269 false (tx t.s) (by omega) (hdig hk),bs_tx,extN0,ob_some,extN1,ob_some]
  cases hn:numOf false t.s with
  | none =>
   have hN:numV false t.s=(0,10):=by simp only [numV,hn]
   rw [hN,enc_err 10 (by decide),ob_some,cnd_t,f214_j17_eq,cnd_t]
   exact h0 (fun _ n h=>by rw [hn] at h;cases h)
  | some n =>
   have hN:numV false t.s=(n,0):=by simp only [numV,hn]
   rw [hN,enc_ok,ob_some,cnd_f,i_gtr,ob_some,f214_j17_eq]
   refine cnd_intro (fun g=>?_) (fun g=>?_)
   ·exact h0 (fun _ m hm=>by rw [hn] at hm;cases hm;simpa using g)
   ·refine c268' h.rd (by omega) _ (fun ob1 h2=>?_)
    exact h1 n _ hk hn (by simpa using g) (h.setr h2)
/-- a number must come -/
theorem c137 (lo hi:Int) (h:PS H0 T pb rb r o 0 0 H) (hr:r ≠ []) (hok:∀ t ∈ r,okTk t) (he:endsT r) (h0:∀ p H' r1,intR lo hi r=.bad 4 p→r1 ≠ []→PS H0 T pb rb r1 o 4 p H'→Q (I 0) H')
  (h1:∀ n r1 H',intR lo hi r=.ok n r1→PS H0 T pb rb r1 o 0 0 H'→Q (I n) H'):E 137 [Pt pb,I lo,I hi] H Q:=by
 rw [f137_eq,c128 h,decide_eq_true rfl,not_B,ob_some,Bool.not_true,cnd_f,nil_Pt,ob_some,add_Pt,ob_some,h.ld0,ob_some,c21 h.rd hr]
 cases r with
 | nil=>exact (hr rfl).elim
 | cons t r =>
  simp only [nil_Pt,ob_some,add_Pt,h.ld0]
  refine c214 h (hok t (by simp)) hi (fun hn=>?_) (fun n H' hk hn hle h'=>?_)
  ·rw [x20,ob_some,x21,ob_some,not_B,ob_some,Bool.not_false,cnd_t,f137_j17_eq,cnd_t]
   refine c135 h 4 _ (fun H' h'=>?_)
   refine h0 _ H' _ ?_ (by simp) h'
   simp only [intR]
   split
   ·rename_i hk
    split
    ·rename_i n hn'
     rw [if_neg (fun hh=>by have:=hn hk n hn';omega)];rfl
    ·rfl
   ·rfl
  ·rw [x20,ob_some,x21,ob_some,not_B,ob_some,Bool.not_true,cnd_f]
   have hl:binA Pg .lss 2 false (I n) (I lo)=some (B (decide (n < lo))):=i_lss ..
   rw [hl,ob_some,f137_j17_eq]
   refine cnd_intro (fun g=>?_) (fun g=>?_)
   ·refine c135 h' 4 _ (fun H2 h2=>?_)
    refine h0 _ H2 _ ?_ (endsT_ne (endsT_tail he (by omega))) h2
    simp only [intR,if_pos hk,hn]
    rw [if_neg (fun hh=>by simp at g;omega)];rfl
   ·refine h1 n r H' ?_ h'
    simp only [intR,if_pos hk,hn]
    rw [if_pos ⟨by simp at g;omega,hle⟩]
/-- is that next? -/
theorem c209 (k:Int) (s:ByteArray) (h:PS H0 T pb rb r o 0 0 H) (hr:r ≠ []) (Q:Post):E 209 [Pt pb,I k,S s] H Q=Q (B (nextIs k s r)) H:=by
 cases r with
 | nil=>exact (hr rfl).elim
 | cons t r =>
  rw [f209_eq,nil_Pt,ob_some,add_Pt,ob_some,h.ld0,ob_some,c44' h.rd,encK_sz,ob_some,encK_sp,ob_some,c128 h,decide_eq_true rfl,cnd_t]
  simp only [part_f,List.getElem?_cons_zero,List.getElem?_cons_succ,ob_some,i_eql,s_eql,f209_j6_eq,cnd_B,decide_eq_true_eq,nextIs]
  split<;>simp_all
end
end Go.Hx
namespace Go.Hx
def delH (H:Heap) (b:Nat):Heap:=(H.dropObj b).dropTip b
theorem del_fresh (H:Heap) (b:Nat):(delH H b).fresh b:=⟨by simp [delH,Heap.dropObj,Heap.dropTip],by simp [delH,Heap.dropObj,Heap.dropTip]⟩
theorem del_ne (H:Heap) {b c:Nat} (h:c ≠ b):(delH H b).objs c=H.objs c∧(delH H b).tips c=H.tips c∧(delH H b).tys c=H.tys c:=by
 simp [delH,Heap.dropObj,Heap.dropTip,h]
theorem del_ext (H:Heap) (b:Nat):HExt (delH H b) H:=fun c hc=>by
 have hne:c ≠ b:=fun e=>hc (e ▸ del_fresh H b)
 have:=del_ne H hne
 exact ⟨this.1.symm,this.2.1.symm,this.2.2.symm⟩
theorem ext_del {H Hc Hd:Heap} {b:Nat} (h1:HExt H Hc) (hb:H.fresh b) (h2:HExt (delH Hc b) Hd):HExt H Hd:=fun c hc=>by
 have hne:c ≠ b:=fun e=>hc (e ▸ hb)
 have e1:=h1 c hc
 have e2:=del_ne Hc hne
 have hnf:¬ (delH Hc b).fresh c:=fun hf=>hc ⟨by rw [← e1.1,← e2.1];exact hf.1,by rw [← e1.2.1,← e2.2.1];exact hf.2⟩
 have e3:=h2 c hnf
 exact ⟨e3.1.trans (e2.1.trans e1.1),e3.2.1.trans (e2.2.1.trans e1.2.1),e3.2.2.trans (e2.2.2.trans e1.2.2)⟩
end Go.Hx
namespace Go.Hx
abbrev zero6:List AV:=[I 0,S ⟨#[]⟩,S ⟨#[]⟩,I 0,I 0,AV.sl 0 true .full []]
def shT (x:Pa):Prop:=x.nil=true ∨ x.sz=6
theorem allT_mk {p:Pa→Prop} (k:Int) (v t:ByteArray) (lo hi:Int) (s:Nat) (n:Bool) (tip:Tip) (l:List Pa):allT p (.mk k v t lo hi s n tip l) ↔ p (.mk k v t lo hi s n tip l)∧allTs p l:=by simp [allT]
theorem allTs_of' {p:Pa→Prop} {l:List Pa} (h:∀ x ∈ l,allT p x):allTs p l:=by
 induction l with
 | nil=>trivial
 | cons x l ih=>exact ⟨h x (by simp),ih fun y hy=>h y (by simp [hy])⟩
theorem partsP_cons (k:Int) (x:Pa) (l:List Pa):partsP k (x::l)=(if x.k=k then x.l else [x])++partsP k l:=by simp [partsP]
theorem partsP_norm (k:Int) (l:List Pa):partsP k (l.map normT)=(partsP k l).map normT:=by
 induction l with
 | nil=>rfl
 | cons x l ih =>
  rw [List.map_cons,partsP_cons,partsP_cons,ih,List.map_append,normT_k,normT_l]
  split<;>rfl
theorem partsP_sh {k:Int} {l:List Pa} (h:∀ x ∈ l,allT shT x):∀ x ∈ partsP k l,allT shT x:=fun x hx=>by
 simp only [partsP,List.mem_flatMap] at hx
 obtain ⟨y,hy,hx⟩:=hx
 split at hx
 ·exact allTs_mem ((allT_eq _ _).1 (h y hy)).2 hx
 ·simp at hx;subst hx;exact h _ hy
theorem partsP_len (k:Int) (l:List Pa):(partsP k l).length≤sizeTs l:=Nat.le_trans (len_sizeT _) (sizeTs_parts k l)
theorem encT_mk (k:Int) (v t:ByteArray) (lo hi:Int) (s:Nat) (n:Bool) (tip:Tip) (l:List Pa):encT (.mk k v t lo hi s n tip l)=.agg [I k,S v,S t,I lo,I hi,.sl s n tip (l.map encT)]:=by
 rw [encT,encTC_eq];rfl
theorem mk1T (x:Pa):mkSlA 6 [encT x]=some (.sl 6 false .full ([x].map encT)):=by simp [mkSlA,szT]
theorem splT' (x:Pa):spliceA 0 (encTC x) zero6=some (encTC x):=splT x
theorem rowTb (k:Int) (s:Nat) (n:Bool) (t:Tip) (l:List Pa):bldA [(0,1,I k),(5,1,.sl s n t (l.map encT))] zero6=some (encT (.mk k e0 e0 0 0 s n t l)):=by rw [encT_mk];rfl
theorem q5T (x:Pa):partA false 5 1 (encTC x)=some (encTs x.sz x.nil x.tip x.l):=by rw [encTC_eq];rfl
theorem q0T (x:Pa):partA false 0 1 (encTC x)=some (I x.k):=by rw [encTC_eq];rfl
/-- parts are joined -/
theorem c133 (k:Int) (l:List Pa) (s:Nat) (n:Bool) (t:Tip) (hsh:∀ x ∈ l,allT shT x) (hl:sizeTs l≤1099511627776) (H0:Heap) (Q:Post)
  (hq:∀ y H',HExt H0 H'→normT y=joinP k (l.map normT)→allT shT y→Q (encT y) H'):E 133 [I k,.sl s n t (l.map encT)] H0 Q:=by
 have hll:=len_sizeT l
 have loop:∀ (r pre:List Pa) (H:Heap) (s':Nat) (n':Bool) (t':Tip),l=pre++r→HExt H0 H→(n'=true ∨ s'=6)→OwnS H0 H 6 (partsP k pre).length t' →
   f133_l8 (I k) zero6 (.sl s' n' t' ((partsP k pre).map encT)) (.sl s n t (l.map encT)) (I l.length) (I pre.length) H Q:=by
  intro r
  induction r with
  | nil =>
   intro pre H s' n' t' e he hn ho
   rw [List.append_nil] at e
   subst e
   have hj:joinP k (l.map normT)=match (partsP k l).map normT with | [x]=>x | out=>ndT k e0 e0 0 0 out:=by
    rw [joinP,partsP_norm]
    try (generalize (partsP k l).map normT=z;rcases z with _ | ⟨a,_ | ⟨b,r⟩⟩<;>rfl)
   have hps:=partsP_sh (k:=k) hsh
   have hlt:decide ((l.length:Int) < (l.length:Int))=false:=decide_eq_false (by omega)
   rw [f133_l8_eq,i_lss,ob_some,hlt,cnd_f,len_sl,ob_some,List.length_map,i_eql,ob_some]
   have whole:(∀ x,partsP k l ≠ [x])→Q (encT (.mk k e0 e0 0 0 s' n' t' (partsP k l))) H:=fun hne=>by
    refine hq _ H he ?_ ((allT_mk _ _ _ _ _ _ _ _ _).2 ⟨hn,allTs_of' hps⟩)
    rw [hj,normT_mk]
    cases hp:partsP k l with
    | nil=>rfl
    | cons a r =>
     cases r with
     | nil=>exact (hne a hp).elim
     | cons b r=>rfl
   by_cases h1:(partsP k l).length=1
   ·obtain ⟨a,ha⟩:=List.length_eq_one_iff.1 h1
    have d1:decide (((partsP k l).length:Int)=1)=true:=decide_eq_true (by omega)
    have i0:ixaA 6 (.sl s' n' t' ((partsP k l).map encT)) (I 0)=some (encTC a):=by rw [ha];exact ixT [a] s' n' t' [] [] a rfl
    rw [d1,cnd_t,i0,ob_some,partT,ob_some,szT,ob_some,splT',ob_some,partT,ob_some]
    refine hq a H he ?_ (hps a (by rw [ha];simp))
    rw [hj,ha];rfl
   ·have d1:decide (((partsP k l).length:Int)=1)=false:=decide_eq_false (by omega)
    rw [d1,cnd_f,rowTb,ob_some,szT,ob_some,splT',ob_some,partT,ob_some]
    exact whole (fun x hx=>h1 (by rw [hx];rfl))
  | cons x r ih =>
   intro pre H s' n' t' e he hn ho
   have hlt:pre.length < l.length:=by rw [e];simp
   have hlt':decide ((pre.length:Int) < (l.length:Int))=true:=decide_eq_true (by omega)
   have hsz:(partsP k (pre++[x])).length≤1099511627776:=by
    have h1:partsP k l=partsP k (pre++[x])++partsP k r:=by rw [e];simp [partsP]
    have h2:=partsP_len k l
    rw [h1,List.length_append] at h2;omega
   have hpx:partsP k (pre++[x])=partsP k pre++(if x.k=k then x.l else [x]):=by simp [partsP]
   have hx:allT shT x:=hsh x (by rw [e];simp)
   have next:∀ (s2:Nat) (n2:Bool) (t2:Tip) (H2:Heap),(n2=true ∨ s2=6)→HExt H0 H2→OwnS H0 H2 6 (partsP k (pre++[x])).length t2 →
     f133_j24 (I k) zero6 (.sl s2 n2 t2 ((partsP k (pre++[x])).map encT)) (.sl s n t (l.map encT)) (I l.length) (I pre.length) H2 Q:=fun s2 n2 t2 H2 hn2 he2 ho2=>by
    rw [f133_j24_eq,i_add,ob_some,w64_succ hlt (by omega)]
    have:=ih (pre++[x]) H2 s2 n2 t2 (by rw [e];simp) he2 hn2 ho2
    rw [List.length_append,List.length_singleton] at this
    exact this
   have hix:ixaA 6 (.sl s n t (l.map encT)) (I pre.length)=some (encTC x):=ixT l s n t pre r x e
   rw [f133_l8_eq,i_lss,ob_some,hlt',cnd_t,hix,ob_some,partT,ob_some,szT,ob_some,splT',ob_some,q0T,ob_some,i_eql,ob_some]
   rw [hpx,List.length_append] at hsz
   refine cnd_intro (fun h1=>?_) (fun h1=>?_)
   ·have h1:x.k=k:=by simpa using h1
    rw [if_pos h1] at hpx hsz
    rw [q5T,ob_some]
    refine app_many he (by rw [List.length_map];exact ho) hn ((allT_eq _ _).1 hx).1 (by omega) (by simp only [List.length_map];omega) (fun s2 n2 t2 H2 hn2 he2 ho2=>?_)
    rw [← List.map_append,← hpx] at ho2 ⊢
    rw [List.length_map] at ho2
    exact next s2 n2 t2 H2 hn2 he2 ho2
   ·have h1:x.k ≠ k:=by simpa using h1
    rw [if_neg h1] at hpx hsz
    rw [partT,ob_some,mk1T,ob_some]
    refine app_many he (by rw [List.length_map];exact ho) hn (.inr rfl) (by omega) (by simp only [List.length_map];omega) (fun s2 n2 t2 H2 hn2 he2 ho2=>?_)
    rw [← List.map_append,← hpx] at ho2 ⊢
    rw [List.length_map] at ho2
    exact next s2 n2 t2 H2 hn2 he2 ho2
 rw [f133_eq,len_sl,ob_some,List.length_map]
 exact loop l [] H0 0 true .full rfl (HExt.refl H0) (.inl rfl) trivial
theorem c134 (lv:Nat) (hl:1≤lv∧lv≤3) (H:Heap) (Q:Post):E 134 [I lv] H Q=Q (I (kindE lv)) H:=by
 have:lv=1 ∨ lv=2 ∨ lv=3:=by omega
 rcases this with rfl | rfl | rfl<;>simp [f134_eq,i_eql,ob_some,cnd_B,kindE]
def del2 (H:Heap) (pb rb:Nat):Heap:=delH (delH H pb) rb
theorem del2_ne (H:Heap) {pb rb c:Nat} (h1:c ≠ pb) (h2:c ≠ rb):(del2 H pb rb).objs c=H.objs c∧(del2 H pb rb).tips c=H.tips c∧(del2 H pb rb).tys c=H.tys c:=by
 have a:=del_ne (delH H pb) h2
 have b:=del_ne H h1
 exact ⟨a.1.trans b.1,a.2.1.trans b.2.1,a.2.2.trans b.2.2⟩
theorem del2_ext (H:Heap) (pb rb:Nat):HExt (del2 H pb rb) H:=(del_ext _ rb).trans (del_ext _ pb)
theorem del2_fresh (H:Heap) (pb rb:Nat):(del2 H pb rb).fresh pb∧(del2 H pb rb).fresh rb :=
 ⟨(del_ext (delH H pb) rb).fresh (del_fresh H pb),del_fresh _ rb⟩
section
variable {H0 H:Heap} {T:Nat→Nat→Prop} {pb rb:Nat} {r:List Tk} {o e a:Int} {Q:Post}
theorem PS.base (h:PS H0 T pb rb r o e a H):PS (del2 H pb rb) T pb rb r o e a H :=
 ⟨del2_ext H pb rb,(del2_fresh H pb rb).1,(del2_fresh H pb rb).2,h.ne,h.op,h.rd,h.tp⟩
theorem PS.back {r1:List Tk} {o1 e1 a1:Int} {T':Nat→Nat→Prop} {H':Heap} (h:PS H0 T pb rb r o e a H) (h':PS (del2 H pb rb) T' pb rb r1 o1 e1 a1 H'):PS H0 T' pb rb r1 o1 e1 a1 H':=by
 have h1:HExt H0 (delH H pb):=fun c hc=>by
  have hne:c ≠ pb:=fun e=>hc (e ▸ h.fp)
  have e1:=h.ext c hc
  have e2:=del_ne H hne
  exact ⟨e2.1.trans e1.1,e2.2.1.trans e1.2.1,e2.2.2.trans e1.2.2⟩
 exact ⟨ext_del h1 h.fr h'.ext,h.fp,h.fr,h.ne,h'.op,h'.rd,h'.tp⟩
theorem PS.keep {r1:List Tk} {o1 e1 a1:Int} {T':Nat→Nat→Prop} {H':Heap} {c:Nat} {x:AObj} (h':PS (del2 H pb rb) T' pb rb r1 o1 e1 a1 H') (h1:c ≠ pb) (h2:c ≠ rb) (hx:H.objs c=some x):H'.objs c=some x :=
 h'.ext.obj (by rw [(del2_ne H h1 h2).1];exact hx)
theorem app_psT {ys:List Pa} {y:Pa} {s':Nat} {n':Bool} {t':Tip} {K:Post} (h:PS H0 T pb rb r o e a H) (ho:OwnS H0 H 6 ys.length t') (ht:OwnT T t') (hn:n'=true ∨ s'=6) (hl:ys.length≤1099511627775)
  (hk:∀ s2 n2 t2 H2,(n2=true ∨ s2=6)→PS H0 T pb rb r o e a H2→H2.objs=H.objs→OwnS H0 H2 6 (ys++[y]).length t2→OwnT T t2→K (.sl s2 n2 t2 ((ys++[y]).map encT)) H2) :
  appA 6 80 (.sl s' n' t' (ys.map encT)) (.sl 6 false .full ([y].map encT)) H K:=by
 have hta:tailA 6 (.sl 6 false .full ([y].map encT))=some [encT y]:=by simp [tailA]
 have ps:∀ b m,H0.fresh b→(∀ n,¬ T b n)→PS H0 T pb rb r o e a (H.setTip b m):=fun b m hb hT =>
  ⟨h.ext.setTip hb m,h.fp,h.fr,h.ne,h.op,h.rd,fun c n hc=>by
   have hne:c ≠ b:=fun e=>hT n (e ▸ hc)
   simp only [Heap.setTip,if_neg hne]
   exact h.tp c n hc⟩
 unfold appA
 simp only [hta,List.length_map,List.length_singleton]
 refine ⟨hn,by omega,by omega,?_⟩
 have hnew:∀ b,H.fresh b→(∀ n,¬ T b n):=fun b hb n hc=>by have:=h.tp b n hc;rw [hb.2] at this;cases this
 have fin:∀ b,H0.fresh b→(∀ n,¬ T b n)→K (.sl 6 false (.tip b) (ys.map encT++[encT y])) (H.setTip b ((ys.length+1) * 6)):=fun b hb hT=>by
  have:=hk 6 false (.tip b) _ (.inr rfl) (ps b ((ys.length+1) * 6) hb hT) rfl ⟨by simp [Heap.setTip],hb⟩ hT
  simpa using this
 cases t' with
 | any=>exact ho.elim
 | full=>intro b hf;exact fin b (h.ext.fresh hf) (hnew b hf)
 | tip b0 =>
  refine ⟨by simpa using ho.1,fun b hf=>?_⟩
  rcases hf with rfl | hf
  ·exact fin b ho.2 ht
  ·exact fin b (h.ext.fresh hf) (hnew b hf)
end
/-- what is answered -/
def ResE (H0:Heap) (T:Nat→Nat→Prop) (pb rb:Nat) (o:Nat) (Bd:Nat) (Q:Post):PRT→Prop
 | .ok x r1=>∀ y H',normT y=x→allT shT y→PS H0 T pb rb r1 o 0 0 H'→Q (encT y) H'
 | .bad e p=>∀ y H' r1 o',allT shT y→sizeT y≤Bd→r1 ≠ []→PS H0 T pb rb r1 o' e p H'→Q (encT y) H'
abbrev Wp (pb:Nat):AV:=.agg [Pt pb]
theorem szW (pb:Nat):sizedA 1 (Wp pb)=some [Pt pb]:=rfl
theorem ptW (pb:Nat):partA true 0 1 [Pt pb]=some (Wp pb):=by kernel_rfl
theorem p0W (pb:Nat):partA false 0 1 [Pt pb]=some (Pt pb):=rfl
def mkLeaf (k:Int) (v t:ByteArray):Pa:=.mk k v t 0 0 0 true .full []
theorem leafTb (k:Int) (v t:ByteArray):bldA [(0,1,I k),(1,1,S v),(2,1,S t)] zero6=some (encT (mkLeaf k v t)):=by rw [mkLeaf,encT_mk];rfl
theorem leaf_sh (k:Int) (v t:ByteArray) (lo hi:Int) (s:Nat) (tip:Tip):allT shT (.mk k v t lo hi s true tip []):=(allT_mk _ _ _ _ _ _ _ _ _).2 ⟨.inl rfl,trivial⟩
section
variable {H0 H:Heap} {T:Nat→Nat→Prop} {pb rb:Nat} {r:List Tk} {o:Nat} {Q:Post} {Bd:Nat}
/-- an atom, no fault yet -/
theorem c207 (k:Int) (h:PS H0 T pb rb r o 0 0 H) (he:endsT r) (hok:∀ v t r1 H',leafR k 0 r=.ok (ndT k v t 0 0 []) r1→PS H0 T pb rb r1 o 0 0 H'→Q (encT (mkLeaf k v t)) H')
  (hbad:∀ e p v t H' r1 o',leafR k 0 r=.bad e p→r1 ≠ []→PS H0 T pb rb r1 o' e p H'→Q (encT (mkLeaf k v t)) H'):E 207 [Wp pb,I k] H Q:=by
 have fin:∀ (v t:ByteArray) (H':Heap),Q (encT (mkLeaf k v t)) H'→ob (bldA [(0,1,I k),(1,1,S v),(2,1,S t)] zero6) (fun r11=>ob (sizedA 6 r11) fun b12=>ob (spliceA 0 b12 zero6) fun b13=>ob (partA true 0 6 b13) fun r14=>Q r14 H'):=fun v t H' hq=>by
  rw [leafTb,ob_some,szT,ob_some,splT',ob_some,partT,ob_some];exact hq
 have d4:(4:Int) ≠ 0:=by decide
 rw [f207_eq,szW,ob_some,p0W,ob_some]
 refine c150 h (endsT_ne he) (fun p H1 hn h1=>?_) (fun v r1 H1 hn h1=>?_)
 ·rw [ob_some]
  refine c208' _ h1 d4 ?_
  rw [ob_some]
  refine c150' h1 d4 ?_
  exact fin e0 e0 H1 (hbad 4 p e0 e0 H1 _ _ (by simp only [leafR,hn]) (endsT_ne he) h1)
 ·have s1:=(nameR_facts 0 r).ok _ _ hn he
  rw [ob_some]
  refine c208 sEq h1 (endsT_ne s1.1.1) (fun hn2 H2 h2=>?_) (fun hn2 H2 h2=>?_)
  ·rw [ob_some]
   refine c150' h2 d4 ?_
   exact fin v e0 H2 (hbad 4 (posn r1) v e0 H2 _ _ (by simp only [leafR,hn,mustR,hn2];rfl) (endsT_ne s1.1.1) h2)
  ·have hneed:mustR 5 sEq r1=.ok () r1.tail:=by simp only [mustR,hn2,if_true]
   have s2:=(mustR_facts 5 (by decide) sEq 0 r1).ok _ _ hneed s1.1.1
   rw [ob_some]
   refine c150 h2 (endsT_ne s2.1.1) (fun p H3 hn3 h3=>?_) (fun t r3 H3 hn3 h3=>?_)
   ·exact fin v e0 H3 (hbad 4 p v e0 H3 _ _ (by simp only [leafR,hn,hneed,hn3]) (endsT_ne s2.1.1) h3)
   ·exact fin v t H3 (hok v t r3 H3 (by simp only [leafR,hn,hneed,hn3]) h3)
theorem c207' {e a o:Int} (k:Int) (h:PS H0 T pb rb r o e a H) (he:e ≠ 0) (hq:Q (encT (mkLeaf k e0 e0)) H):E 207 [Wp pb,I k] H Q:=by
 rw [f207_eq,szW,ob_some,p0W,ob_some]
 refine c150' h he ?_
 rw [ob_some]
 refine c208' _ h he ?_
 rw [ob_some]
 refine c150' h he ?_
 rw [leafTb,ob_some,szT,ob_some,splT',ob_some,partT,ob_some];exact hq
/-- one is opened -/
theorem c210 {t:Tk} (h:PS H0 T pb rb (t::r) o 0 0 H) (hn:nextIs 5 wOpen (t::r)=true) (h0:64≤o→∀ H',PS H0 T pb rb (t::r) o 2 t.p H'→Q (B false) H')
  (h1:o < 64→∀ H',PS H0 T pb rb r ((o+1:Nat):Int) 0 0 H'→Q (B true) H'):E 210 [Pt pb] H Q:=by
 rw [f210_eq]
 have hn':nextIs 5 ⟨#[40]⟩ (t::r)=true:=hn
 rw [c209 5 ⟨#[40]⟩ h (by simp),hn',cnd_t,nil_Pt,ob_some,add_Pt,ob_some,h.ld1,ob_some,i_geq,ob_some,f210_j5_eq]
 refine cnd_intro (fun hc=>?_) (fun hc=>?_)
 ·have hc:64≤o:=by simp at hc;omega
  rw [nil_Pt,ob_some,add_Pt,ob_some,h.ld0,ob_some,c21 h.rd (by simp)]
  refine c135 h 2 _ (fun H' h'=>?_)
  refine c208' _ h' (by decide) ?_
  rw [not_B,ob_some,Bool.not_false,cnd_t]
  exact h0 hc H' h'
 ·have hc:o < 64:=by simp at hc;omega
  have hw:W64 ((o:Int)+1)=((o+1:Nat):Int):=w64_succ (n:=1000) (by omega) (by omega)
  refine c208 ⟨#[40]⟩ h (by simp) (fun hh=>by rw [hn'] at hh;cases hh) (fun _ H' h'=>?_)
  have h':PS H0 T pb rb r o 0 0 H':=h'
  rw [not_B,ob_some,Bool.not_true,cnd_f,nil_Pt,ob_some,add_Pt,ob_some,h'.ld1,ob_some,i_add,ob_some,hw,ob_some,add_Pt,ob_some,h'.st1,ob_some]
  exact h1 hc _ (h'.setp _ _ _)
/-- one is closed -/
theorem c211 (h:PS H0 T pb rb r ((o+1:Nat):Int) 0 0 H) (hr:r ≠ []) (ho:o < 64) (h0:nextIs 5 wShut r=false→∀ H' o',PS H0 T pb rb r o' 4 (posn r) H'→Q (.tup []) H')
  (h1:nextIs 5 wShut r=true→∀ H',PS H0 T pb rb r.tail o 0 0 H'→Q (.tup []) H'):E 211 [Pt pb] H Q:=by
 have hw:W64 (((o+1:Nat):Int) - 1)=(o:Int):=by rw [w64_id (by omega) (by omega)];omega
 rw [f211_eq]
 refine c208 ⟨#[41]⟩ h hr (fun hn H' h'=>?_) (fun hn H' h'=>?_)
 ·rw [cnd_f];exact h0 hn H' _ h'
 ·rw [cnd_t,nil_Pt,ob_some,add_Pt,ob_some,h'.ld1,ob_some,i_sub,ob_some,hw,ob_some,add_Pt,ob_some,h'.st1,ob_some]
  exact h1 hn _ (h'.setp _ _ _)
theorem c211' {e a o:Int} (h:PS H0 T pb rb r o e a H) (he:e ≠ 0) (hq:Q (.tup []) H):E 211 [Pt pb] H Q:=by
 rw [f211_eq]
 refine c208' _ h he ?_
 rw [cnd_f];exact hq
end
end Go.Hx
namespace Go.Hx
def bndE:GE→List Tk→Nat
 | .more _ l,r=>2 * r.length+sizeTs l
 | _,r=>2 * r.length+1
def preE:GE→List Tk→Prop
 | .more lv l,r=>l ≠ []∧sizeTs l+r.length≤2097152∧(1≤lv∧lv≤3)
 | _,_=>True
def moreC (bl bp:Nat):AV:=.fn (.func 212) [] [Pt bl,Pt bp]
/-- a goal, run -/
def RunE (H0:Heap) (T:Nat→Nat→Prop) (pb rb:Nat):GE→Heap→Post→Prop
 | .row lv,H,Q=>E 62 [Wp pb,I lv] H Q
 | .more lv l,H,Q=>∀ (ys:List Pa) (s':Nat) (n':Bool) (t':Tip) (bl bp:Nat),ys.map normT=l→(∀ y ∈ ys,allT shT y)→(n'=true ∨ s'=6)→OwnS H0 H 6 ys.length t'→OwnT T t' →
   H.objs bl=some (.cells [I lv])→H.objs bp=some (.cells [Pt pb])→bl ≠ pb→bl ≠ rb→bp ≠ pb→bp ≠ rb→f62_l16 (I lv) [Pt pb] zero6 (moreC bl bp) (.sl s' n' t' (ys.map encT)) H Q
 | .last,H,Q=>E 131 [Wp pb] H Q
section
variable {H0 H:Heap} {T:Nat→Nat→Prop} {pb rb:Nat} {r:List Tk} {Q:Post}
theorem add0P (b:Nat):addPA (Pt b) 0=some (Pt b):=rfl
/-- does more come? -/
theorem c212 {o:Nat} {lv bl bp:Nat} (hl:1≤lv∧lv≤3) (hb:H.objs bl=some (.cells [I lv])) (hp:H.objs bp=some (.cells [Pt pb])) (h:PS H0 T pb rb r o 0 0 H) (hr:r ≠ []) (h0:sepR lv r=false→Q (B false) H)
  (h1:sepR lv r=true→∀ H',PS H0 T pb rb r.tail o 0 0 H'→Q (B true) H'):E 212 [Pt bl,Pt bp] H Q:=by
 have e1:ldH H false 1 (Pt bl)=some (I lv):=by rw [ld_Pt hb];rfl
 have e2:ldH H false 1 (Pt bp)=some (Pt pb):=by rw [ld_Pt hp];rfl
 rw [f212_eq,e1,ob_some,i_eql,ob_some]
 have:lv=1 ∨ lv=2 ∨ lv=3:=by omega
 rcases this with rfl | rfl | rfl
 ·rw [show decide (((1:Nat):Int)=1)=true from rfl,cnd_t,add0P,ob_some,e2,ob_some]
  exact c149 _ h hr h0 h1
 ·rw [show decide (((2:Nat):Int)=1)=false from rfl,cnd_f,i_eql,ob_some,show decide (((2:Nat):Int)=2)=true from rfl,cnd_t,add0P,ob_some,e2,ob_some]
  exact c76 _ h hr h0 h1
 ·rw [show decide (((3:Nat):Int)=1)=false from rfl,cnd_f,i_eql,ob_some,show decide (((3:Nat):Int)=2)=false from rfl,cnd_f,add0P,ob_some,e2,ob_some]
  exact c76 _ h hr h0 h1
theorem c212' {e a o:Int} {lv bl bp:Nat} (hl:1≤lv∧lv≤3) (hb:H.objs bl=some (.cells [I lv])) (hp:H.objs bp=some (.cells [Pt pb])) (h:PS H0 T pb rb r o e a H) (he:e ≠ 0) (hq:Q (B false) H):E 212 [Pt bl,Pt bp] H Q:=by
 have e1:ldH H false 1 (Pt bl)=some (I lv):=by rw [ld_Pt hb];rfl
 have e2:ldH H false 1 (Pt bp)=some (Pt pb):=by rw [ld_Pt hp];rfl
 rw [f212_eq,e1,ob_some,i_eql,ob_some]
 have:lv=1 ∨ lv=2 ∨ lv=3:=by omega
 rcases this with rfl | rfl | rfl
 ·rw [show decide (((1:Nat):Int)=1)=true from rfl,cnd_t,add0P,ob_some,e2,ob_some]
  exact c149' _ h he hq
 ·rw [show decide (((2:Nat):Int)=1)=false from rfl,cnd_f,i_eql,ob_some,show decide (((2:Nat):Int)=2)=true from rfl,cnd_t,add0P,ob_some,e2,ob_some]
  exact c76' _ h he hq
 ·rw [show decide (((3:Nat):Int)=1)=false from rfl,cnd_f,i_eql,ob_some,show decide (((3:Nat):Int)=2)=false from rfl,cnd_f,add0P,ob_some,e2,ob_some]
  exact c76' _ h he hq
theorem PS.rlen' {o e a:Int} (h:PS H0 T pb rb r o e a H):r.length≤1048576:=by
 obtain ⟨L,i,s',n',t',h1,h2,h3⟩:=h.rd
 rw [← h2,List.length_drop];omega
/-- all parts are joined -/
theorem l16_end {o e a:Int} (h:PS H0 T pb rb r o e a H) {lv:Nat} (hl:1≤lv∧lv≤3) (ys:List Pa) (s':Nat) (n':Bool) (t':Tip) (hsh:∀ y ∈ ys,allT shT y) (hsz:sizeTs ys≤1099511627776)
  (hq:∀ z H',normT z=joinP (kindE lv) (ys.map normT)→allT shT z→PS H0 T pb rb r o e a H'→Q (encT z) H') :
  E 134 [I lv] H (fun r26 H27=>E 133 [r26,.sl s' n' t' (ys.map encT)] H27 fun r28 H29=>ob (sizedA 6 r28) fun b30=>ob (spliceA 0 b30 zero6) fun b31=>ob (partA true 0 6 b31) fun r32=>Q r32 H29):=by
 rw [c134 lv hl]
 refine c133 (kindE lv) ys s' n' t' hsh hsz H _ (fun z H' he hz hzs=>?_)
 rw [szT,ob_some,splT',ob_some,partT,ob_some]
 exact hq z H' hz hzs (h.mono he)
theorem l16_bad {o e a:Int} (h:PS H0 T pb rb r o e a H) (he:e ≠ 0) {lv:Nat} (hl:1≤lv∧lv≤3) {bl bp:Nat} (hb:H.objs bl=some (.cells [I lv])) (hp:H.objs bp=some (.cells [Pt pb])) (ys:List Pa) (s':Nat) (n':Bool) (t':Tip)
  (hsh:∀ y ∈ ys,allT shT y) (hsz:sizeTs ys≤1099511627776) (hq:∀ z H',normT z=joinP (kindE lv) (ys.map normT)→allT shT z→PS H0 T pb rb r o e a H'→Q (encT z) H') :
  f62_l16 (I lv) [Pt pb] zero6 (moreC bl bp) (.sl s' n' t' (ys.map encT)) H Q:=by
 rw [f62_l16_eq]
 show E 212 [Pt bl,Pt bp] H _
 refine c212' hl hb hp h he ?_
 rw [cnd_f]
 exact l16_end h hl ys s' n' t' hsh hsz hq
theorem joinP_le {k:Int} {z:Pa} {ys:List Pa} (h:normT z=joinP k (ys.map normT)) (hy:ys ≠ []):sizeT z≤sizeTs ys+if ys.length≤1 then 0 else 1:=by
 have hs:∀ l:List Pa,sizeTs (l.map normT)=sizeTs l:=by
  intro l
  induction l with
  | nil=>rfl
  | cons x l ih=>simp only [List.map_cons,sizeTs,normT_size,ih]
 have:=size_joinP k (ys.map normT) (by simpa using hy)
 rw [← h,normT_size,hs,List.length_map] at this;exact this
theorem sizeTs_norm (l:List Pa):sizeTs (l.map normT)=sizeTs l:=by
 induction l with
 | nil=>rfl
 | cons x l ih=>simp only [List.map_cons,sizeTs,normT_size,ih]
end
section
variable {pb rb:Nat}
def copyT (Q:Post):Post:=fun r1 H=>ob (sizedA 6 r1) fun b3=>ob (spliceA 0 b3 zero6) fun b4=>ob (partA true 0 6 b4) fun r5=>Q r5 H
theorem copyTX (Q:Post) (y:Pa) (H:Heap):copyT Q (encT y) H=Q (encT y) H:=by simp only [copyT,szT,splT',partT,ob_some]
theorem resT {H0:Heap} {T:Nat→Nat→Prop} {o Bd:Nat} {Q:Post} {R:PRT} (hR:ResE H0 T pb rb o Bd Q R):ResE H0 T pb rb o Bd (copyT Q) R:=by
 cases R with
 | ok z r2=>intro w H2 hw hws h2;rw [copyTX];exact hR w H2 hw hws h2
 | bad e p=>intro w H2 r2 o' hws hsz hr2 h2;rw [copyTX];exact hR w H2 r2 o' hws hsz hr2 h2
/-- a level's row begins: its boxes -/
theorem row_boxes {H0 H:Heap} {T:Nat→Nat→Prop} {r:List Tk} {o:Nat} {lv:Nat} {Q:Post} (hl:1≤lv∧lv≤3) (h:PS H0 T pb rb r o 0 0 H)
  (hk:∀ bl bp H',PS H0 T pb rb r o 0 0 H'→H'.objs bl=some (.cells [I lv])→H'.objs bp=some (.cells [Pt pb])→bl ≠ pb→bl ≠ rb→bp ≠ pb→bp ≠ rb →
   E 62 [Wp pb,I ((lv+1:Nat):Int)] H' (fun r14 H15=>ob (mkSlA 6 [r14]) fun r16=>f62_l16 (I lv) [Pt pb] zero6 (moreC bl bp) r16 H15 Q)):E 62 [Wp pb,I lv] H Q:=by
 have hs1:sizedA 1 (I lv)=some [I lv]:=rfl
 have hw:W64 ((lv:Int)+1)=((lv+1:Nat):Int):=w64_succ (n:=1000) (by omega) (by omega)
 have d4:decide ((lv:Int)=4)=false:=decide_eq_false (by omega)
 rw [f62_eq,szW,ob_some,i_eql,ob_some,d4,cnd_f,ptW,ob_some,f132_eq,szW,ob_some,hs1,ob_some]
 intro bl hbl
 simp only [Pt_def]
 intro bp hbp
 simp only [Pt_def]
 have e1:HExt H (H.setObj bl (.cells [I lv])):=(HExt.refl H).setObj hbl _
 have e2:HExt (H.setObj bl (.cells [I lv])) ((H.setObj bl (.cells [I lv])).setObj bp (.cells [Pt pb])):=(HExt.refl _).setObj hbp _
 have ps:=(h.mono e1).mono e2
 have o1:((H.setObj bl (.cells [I lv])).setObj bp (.cells [Pt pb])).objs bl=some (.cells [I lv]):=e2.obj (setObj_same _ _ _)
 have o2:((H.setObj bl (.cells [I lv])).setObj bp (.cells [Pt pb])).objs bp=some (.cells [Pt pb]):=setObj_same _ _ _
 have nr:∀ {c:Nat} {H2:Heap},PS H0 T pb rb r o 0 0 H2→H2.fresh c→c ≠ pb∧c ≠ rb:=fun {c H2} h2 hc=>by
  refine ⟨fun e=>?_,fun e=>?_⟩
  ·subst e;have:=h2.op;rw [hc.1] at this;cases this
  ·subst e
   obtain ⟨L,i,s',n',t',g,_⟩:=h2.rd
   rw [hc.1] at g;cases g
 have n1:=nr h hbl
 have n2:=nr (h.mono e1) hbp
 rw [ob_some,i_add,ob_some,hw]
 exact hk bl bp _ ps o1 o2 n1.1 n1.2 n2.1 n2.2
theorem leaf_run {H0 H:Heap} {T:Nat→Nat→Prop} {r:List Tk} {o Bd:Nat} {Q:Post} (k:Int) (h:PS H0 T pb rb r o 0 0 H) (he:endsT r) (hB:1≤Bd) (hq:ResE H0 T pb rb o Bd Q (leafR k 0 r)):E 207 [Wp pb,I k] H (copyT Q):=by
 refine c207 k h he (fun v t r1 H' hl h'=>?_) (fun e p v t H' r1 o' hl hr1 h'=>?_)
 ·rw [hl] at hq
  rw [copyTX]
  exact hq _ H' (by rw [mkLeaf,normT_mk];rfl) (leaf_sh _ _ _ _ _ _ _) h'
 ·rw [hl] at hq
  rw [copyTX]
  exact hq _ H' r1 o' (leaf_sh _ _ _ _ _ _ _) (by simp only [mkLeaf,sizeT,sizeTs];omega) hr1 h'
def zPa:Pa:=.mk 0 e0 e0 0 0 0 true .full []
theorem zPa_b:bldA [] zero6=some (encT zPa):=by rw [zPa,encT_mk];rfl
theorem open_run {H0 H:Heap} {T:Nat→Nat→Prop} {t:Tk} {r:List Tk} {o:Nat} {Q:Post} (h:PS H0 T pb rb (t::r) o 0 0 H) (hn:nextIs 5 wOpen (t::r)=true)
  (hk:E 210 [Pt pb] H fun r37 H38=>ob (unA .not r37) fun r39=>cndA r39 (ob (bldA [] zero6) fun r40=>ob (sizedA 6 r40) fun b41=>ob (spliceA 0 b41 zero6) fun b42=>ob (partA true 0 6 b42) fun r43=>Q r43 H38)
   (E 62 [Wp pb,I 1] H38 fun r45 H46=>ob (sizedA 6 r45) fun b47=>ob (spliceA 0 b47 zero6) fun b48=>E 211 [Pt pb] H46 fun r50 H51=>ob (partA true 0 6 b48) fun r52=>ob (sizedA 6 r52) fun b53=>ob (spliceA 0 b53 zero6) fun b54=>ob (partA true 0 6 b54) fun r55=>Q r55 H51)):E 131 [Wp pb] H Q:=by
 have hk':=(nextIs_cons hn).1
 have hs:=(nextIs_cons hn).2
 rw [f131_eq,szW,ob_some]
 simp only [p0W,ptW,ob_some]
 refine c76 _ h (by simp) (fun _=>?_) (fun hh=>by have:=(nextIs_cons hh).1;omega)
 rw [cnd_f]
 refine c149 _ h (by simp) (fun _=>?_) (fun hh=>by have:=(nextIs_cons hh).2;rw [hs] at this;exact absurd this (by decide))
 rw [cnd_f,c209 5 ⟨#[40]⟩ h (by simp),show nextIs 5 ⟨#[40]⟩ (t::r)=true from hn,cnd_t]
 exact hk
theorem run_allE {g:GE} {o:Nat} {r:List Tk} {R:PRT} (h:PE g o r R):∀ (H0:Heap) (T:Nat→Nat→Prop) (H:Heap) (Q:Post),endsT r→(∀ t ∈ r,okTk t)→preE g r→PS H0 T pb rb r o 0 0 H→ResE H0 T pb rb o (bndE g r) Q R→RunE H0 T pb rb g H Q:=by
 have tl:∀ {k:Int} {s:ByteArray} {t:Tk} {r:List Tk},k ≠ 6→nextIs k s (t::r)=true→endsT (t::r)→endsT r:=fun hk h he=>endsT_tail he (by rw [(nextIs_cons h).1];exact hk)
 have tls:∀ {lv:Nat} {t:Tk} {r:List Tk},sepR lv (t::r)=true→endsT (t::r)→endsT r:=fun h he=>by
  obtain ⟨t',r',e,hk⟩:=sepR_ne h
  cases e;exact endsT_tail he hk
 have tm:∀ {t:Tk} {r:List Tk},(∀ u ∈ t::r,okTk u)→∀ u ∈ r,okTk u:=fun h u hu=>h u (by simp [hu])
 have one:∀ y:Pa,allT shT y→∀ z ∈ [y],allT shT z:=fun y hy z hz=>by simp at hz;subst hz;exact hy
 induction h with
 | row4 hp ih =>
  intro H0 T H Q he ht _ hps hq
  show E 62 [Wp pb,I ((4:Nat):Int)] H Q
  rw [f62_eq,szW,ob_some,i_eql,ob_some,show decide (((4:Nat):Int)=4)=true from rfl,cnd_t,ptW,ob_some]
  exact ih H0 T H (copyT Q) he ht trivial hps (resT hq)
 | row_bad h1 h3 hp ih =>
  rename_i lv o r e p
  intro H0 T H Q he ht _ hps hq
  have hne:=((PE_facts hp 0).bad _ _ rfl he).1
  have hr:=hps.rlen'
  refine row_boxes ⟨h1,h3⟩ hps (fun bl bp H1 p1 o1 o2 n1 n2 n3 n4=>?_)
  refine ih (del2 H1 pb rb) T H1 _ he ht trivial p1.base (fun y H2 r1 o' hy hsz hr1 h2=>?_)
  have p2:=p1.back h2
  rw [mk1T,ob_some]
  simp only [bndE] at hsz
  refine l16_bad p2 hne ⟨h1,h3⟩ (h2.keep n1 n2 o1) (h2.keep n3 n4 o2) [y] 6 false .full (one y hy) (by simp only [sizeTs];omega) (fun z H3 hz hzs h3=>?_)
  refine hq z H3 r1 o' hzs ?_ hr1 h3
  have:=joinP_le hz (by simp)
  simp only [sizeTs,List.length_singleton,Nat.le_refl,if_true] at this
  simp only [bndE];omega
 | row_ok h1 h3 hp hm ih1 ih2 =>
  rename_i lv o r x r1 R
  intro H0 T H Q he ht _ hps hq
  have hf:=(PE_facts hp 0).ok _ _ rfl he
  have hsz:_≤_:=hf.2
  have hr:=hps.rlen'
  refine row_boxes ⟨h1,h3⟩ hps (fun bl bp H1 p1 o1 o2 n1 n2 n3 n4=>?_)
  refine ih1 (del2 H1 pb rb) T H1 _ he ht trivial p1.base (fun y H2 hy hys h2=>?_)
  have p2:=p1.back h2
  rw [mk1T,ob_some]
  refine ih2 H0 T H2 Q hf.1.1 (hf.1.mem ht) ⟨by simp,by simp only [sizeTs];omega,h1,h3⟩ p2 ?_ [y] 6 false .full bl bp (by simp [hy]) (one y hys) (.inr rfl) trivial trivial (h2.keep n1 n2 o1) (h2.keep n3 n4 o2) n1 n2 n3 n4
  cases R with
  | ok z r2=>exact hq
  | bad e p =>
   intro w H4 r2 o' hws hsz2 hr2 h4
   refine hq w H4 r2 o' hws ?_ hr2 h4
   simp only [bndE,sizeTs] at hsz2 ⊢
   omega
 | more_no hn =>
  rename_i lv l o r
  intro H0 T H Q he ht hpre hps hq ys s' n' t' bl bp hyl hsh hns ho hT o1 o2 n1 n2 n3 n4
  have hl:=hpre.2.2
  rw [f62_l16_eq]
  show E 212 [Pt bl,Pt bp] H _
  refine c212 hl o1 o2 hps (endsT_ne he) (fun _=>?_) (fun hh=>by rw [hn] at hh;cases hh)
  rw [cnd_f]
  have hsl:sizeTs ys≤2097152:=by rw [← sizeTs_norm,hyl];have:=hpre.2.1;omega
  refine l16_end hps hl ys s' n' t' hsh (by omega) (fun z H' hz hzs h'=>?_)
  exact hq z H' (by rw [hz,hyl]) hzs h'
 | more_bad h1 h3 hs hp ih =>
  rename_i lv l o t r e p
  intro H0 T H Q he ht hpre hps hq ys s' n' t' bl bp hyl hsh hns ho hT o1 o2 n1 n2 n3 n4
  have he':=tls hs he
  have hne:=((PE_facts hp 0).bad _ _ rfl he').1
  have hr:=hps.rlen'
  simp only [List.length_cons] at hr
  have hsl:sizeTs ys+(t::r).length≤2097152:=by rw [← sizeTs_norm,hyl];exact hpre.2.1
  simp only [List.length_cons] at hsl
  have hll:=len_sizeT ys
  have hsle:sizeTs l=sizeTs ys:=by rw [← hyl,sizeTs_norm]
  have pu:=hps.up ho
  have hw:W64 ((lv:Int)+1)=((lv+1:Nat):Int):=w64_succ (n:=1000) (by omega) (by omega)
  rw [f62_l16_eq]
  show E 212 [Pt bl,Pt bp] H _
  refine c212 ⟨h1,h3⟩ o1 o2 pu.base (by simp) (fun hh=>by rw [hs] at hh;cases hh) (fun _ H1 g1=>?_)
  have g1:PS (del2 H pb rb) _ pb rb r o 0 0 H1:=g1
  have p1:=pu.back g1
  have q1:=g1.keep n1 n2 o1
  have q2:=g1.keep n3 n4 o2
  rw [cnd_t,ptW,ob_some,i_add,ob_some,hw]
  refine ih (del2 H1 pb rb) _ H1 _ he' (tm ht) trivial p1.base (fun y H2 r1 o' hy hsz hr1 h2=>?_)
  have p2:=p1.back h2
  simp only [bndE] at hsz
  rw [mk1T,ob_some]
  refine app_psT p2.down (p2.own ho) hT hns (by omega) (fun s2 n2' t2 H3 hn2 h4 hobj ho3 hT3=>?_)
  have k1:H3.objs bl=some (.cells [I lv]):=by rw [hobj];exact h2.keep n1 n2 q1
  have k2:H3.objs bp=some (.cells [Pt pb]):=by rw [hobj];exact h2.keep n3 n4 q2
  refine l16_bad h4 hne ⟨h1,h3⟩ k1 k2 (ys++[y]) s2 n2' t2 (fun z hz=>by simp only [List.mem_append,List.mem_singleton] at hz;rcases hz with hz | hz;exact hsh z hz;subst hz;exact hy) (by rw [sizeTs_app];simp only [sizeTs];omega) (fun z H4 hz hzs h5=>?_)
  refine hq z H4 r1 o' hzs ?_ hr1 h5
  have:=joinP_le hz (by simp)
  rw [sizeTs_app] at this
  simp only [sizeTs] at this
  have hif:(if (ys++[y]).length≤1 then 0 else 1)≤1:=by split<;>omega
  simp only [bndE,List.length_cons]
  omega
 | more_ok h1 h3 hs hp hm ih1 ih2 =>
  rename_i lv l o t r x r1 R
  intro H0 T H Q he ht hpre hps hq ys s' n' t' bl bp hyl hsh hns ho hT o1 o2 n1 n2 n3 n4
  have he':=tls hs he
  have hf:=(PE_facts hp 0).ok _ _ rfl he'
  have hsx:_≤_:=hf.2
  have hr:=hps.rlen'
  simp only [List.length_cons] at hr
  have hsl:sizeTs ys+(t::r).length≤2097152:=by rw [← sizeTs_norm,hyl];exact hpre.2.1
  simp only [List.length_cons] at hsl
  have hll:=len_sizeT ys
  have hsle:sizeTs l=sizeTs ys:=by rw [← hyl,sizeTs_norm]
  have pu:=hps.up ho
  have hw:W64 ((lv:Int)+1)=((lv+1:Nat):Int):=w64_succ (n:=1000) (by omega) (by omega)
  rw [f62_l16_eq]
  show E 212 [Pt bl,Pt bp] H _
  refine c212 ⟨h1,h3⟩ o1 o2 pu.base (by simp) (fun hh=>by rw [hs] at hh;cases hh) (fun _ H1 g1=>?_)
  have g1:PS (del2 H pb rb) _ pb rb r o 0 0 H1:=g1
  have p1:=pu.back g1
  have q1:=g1.keep n1 n2 o1
  have q2:=g1.keep n3 n4 o2
  rw [cnd_t,ptW,ob_some,i_add,ob_some,hw]
  refine ih1 (del2 H1 pb rb) _ H1 _ he' (tm ht) trivial p1.base (fun y H2 hy hys h2=>?_)
  have p2:=p1.back h2
  rw [mk1T,ob_some]
  refine app_psT p2.down (p2.own ho) hT hns (by omega) (fun s2 n2' t2 H3 hn2 h4 hobj ho3 hT3=>?_)
  have k1:H3.objs bl=some (.cells [I lv]):=by rw [hobj];exact h2.keep n1 n2 q1
  have k2:H3.objs bp=some (.cells [Pt pb]):=by rw [hobj];exact h2.keep n3 n4 q2
  refine ih2 H0 T H3 Q hf.1.1 (hf.1.mem (tm ht)) ⟨by simp,by rw [sizeTs_app,hsle];simp only [sizeTs];omega,h1,h3⟩ h4 ?_ (ys++[y]) s2 n2' t2 bl bp (by rw [List.map_append,hyl];simp [hy]) (fun z hz=>by simp only [List.mem_append,List.mem_singleton] at hz;rcases hz with hz | hz;exact hsh z hz;subst hz;exact hys) hn2 ho3 hT3 k1 k2 n1 n2 n3 n4
  cases R with
  | ok z r2=>exact hq
  | bad e p =>
   intro w H4 r2 o' hws hsz2 hr2 h5
   refine hq w H4 r2 o' hws ?_ hr2 h5
   simp only [bndE] at hsz2 ⊢
   rw [sizeTs_app] at hsz2
   simp only [sizeTs,List.length_cons] at hsz2 ⊢
   omega
 | last_not hn =>
  rename_i o t r
  intro H0 T H Q he ht _ hps hq
  show E 131 [Wp pb] H Q
  rw [f131_eq,szW,ob_some]
  simp only [p0W,ptW,ob_some]
  refine c76 _ hps (by simp) (fun hh=>by rw [show nextIs 1 ⟨#[78,79,84]⟩ (t::r)=true from hn] at hh;cases hh) (fun _ H1 h1=>?_)
  rw [cnd_t]
  exact leaf_run 6 h1 (tl (by decide) hn he) (by simp only [bndE];omega) hq
 | last_many hn =>
  rename_i o t r
  intro H0 T H Q he ht _ hps hq
  have he':=tl (by decide) hn he
  have hk:=(nextIs_cons hn).1
  show E 131 [Wp pb] H Q
  rw [f131_eq,szW,ob_some]
  simp only [p0W,ptW,ob_some]
  refine c76 _ hps (by simp) (fun _=>?_) (fun hh=>by have:=(nextIs_cons hh).1;omega)
  rw [cnd_f]
  refine c149 _ hps (by simp) (fun hh=>by rw [show nextIs 5 ⟨#[91]⟩ (t::r)=true from hn] at hh;cases hh) (fun _ H1 h1=>?_)
  have h1:PS H0 T pb rb r o 0 0 H1:=h1
  rw [cnd_t]
  have fin:∀ (n:Int) (v ty:ByteArray) (H':Heap),Q (encT (.mk 5 v ty n n 0 true .full [])) H'→ob (sizedA 6 (encT (mkLeaf 5 v ty))) (fun b23=>ob (spliceA 0 b23 zero6) fun b24=>ob (sizedA 1 (I n)) fun b25=>ob (spliceA 3 b25 b24) fun b26=>ob (sizedA 1 (I n)) fun b27=>ob (spliceA 4 b27 b26) fun b28=>ob (partA true 0 6 b28) fun r29=>ob (sizedA 6 r29) fun b30=>ob (spliceA 0 b30 zero6) fun b31=>ob (partA true 0 6 b31) fun r32=>Q r32 H'):=fun n v ty H' hQ=>by
   have a1:sizedA 1 (I n)=some [I n]:=rfl
   have a2:spliceA 3 [I n] (encTC (mkLeaf 5 v ty))=some [I 5,S v,S ty,I n,I 0,.sl 0 true .full []]:=by rw [encTC_eq];rfl
   have a3:spliceA 4 [I n] [I 5,S v,S ty,I n,I 0,.sl 0 true .full []]=some (encTC (.mk 5 v ty n n 0 true .full [])):=by rw [encTC_eq];rfl
   rw [szT,ob_some,splT',ob_some,a1,ob_some,a2,ob_some,ob_some,a3,ob_some,partT,ob_some,szT,ob_some,splT',ob_some,partT,ob_some]
   exact hQ
  have hbad:∀ e p,manyR r=.bad e p→∀ n v ty H' r1 o',r1 ≠ []→PS H0 T pb rb r1 o' e p H'→Q (encT (.mk 5 v ty n n 0 true .full [])) H':=fun e p hm n v ty H' r1 o' hr1 h'=>by
   rw [hm] at hq
   exact hq _ H' r1 o' (leaf_sh _ _ _ _ _ _ _) (by simp only [sizeT,sizeTs,bndE];omega) hr1 h'
  refine c137 2 1000 h1 (endsT_ne he') (tm ht) he' (fun p H2 r1 hn2 hr1 h2=>?_) (fun n r1 H2 hn2 h2=>?_)
  ·refine c208' _ h2 (by decide) ?_
   refine c207' 5 h2 (by decide) ?_
   exact fin 0 e0 e0 H2 (hbad 4 p (by simp only [manyR,hn2]) 0 e0 e0 H2 r1 _ hr1 h2)
  ·have s1:=(intR_facts 2 1000 0 r).ok _ _ hn2 he'
   refine c208 _ h2 (endsT_ne s1.1.1) (fun hn3 H3 h3=>?_) (fun hn3 H3 h3=>?_)
   ·refine c207' 5 h3 (by decide) ?_
    exact fin n e0 e0 H3 (hbad 4 (posn r1) (by simp only [manyR,hn2,mustR,show nextIs 5 wSqS r1=false from hn3];rfl) n e0 e0 H3 r1 _ (endsT_ne s1.1.1) h3)
   ·have hneed:mustR 5 wSqS r1=.ok () r1.tail:=by simp only [mustR,show nextIs 5 wSqS r1=true from hn3,if_true]
    have s2:=(mustR_facts 5 (by decide) wSqS 0 r1).ok _ _ hneed s1.1.1
    have hm:manyR r=leafR 5 n r1.tail:=by simp only [manyR,hn2,hneed]
    refine c207 5 h3 s2.1.1 (fun v ty r3 H4 hl h4=>?_) (fun e p v ty H4 r3 o' hl hr3 h4=>?_)
    ·refine fin n v ty H4 ?_
     have hl2:manyR r=.ok (ndT 5 v ty n n []) r3:=by
      rw [hm]
      simp only [leafR] at hl ⊢
      cases e1:nameR r1.tail with
      | bad e p=>rw [e1] at hl;cases hl
      | ok v1 q1 =>
       rw [e1] at hl
       simp only at hl ⊢
       cases e2:mustR 5 sEq q1 with
       | bad e p=>rw [e2] at hl;cases hl
       | ok u1 q2 =>
        rw [e2] at hl
        simp only at hl ⊢
        cases e3:nameR q2 with
        | bad e p=>rw [e3] at hl;cases hl
        | ok v2 q3=>rw [e3] at hl;cases hl;rfl
     rw [hl2] at hq
     exact hq _ H4 (by rw [normT_mk];rfl) (leaf_sh _ _ _ _ _ _ _) h4
    ·refine fin n v ty H4 (hbad e p ?_ n v ty H4 r3 o' hr3 h4)
     rw [hm]
     simp only [leafR] at hl ⊢
     cases e1:nameR r1.tail with
     | bad e p=>rw [e1] at hl;exact hl
     | ok v1 q1 =>
      rw [e1] at hl
      simp only at hl ⊢
      cases e2:mustR 5 sEq q1 with
      | bad e p=>rw [e2] at hl;exact hl
      | ok u1 q2 =>
       rw [e2] at hl
       simp only at hl ⊢
       cases e3:nameR q2 with
       | bad e p=>rw [e3] at hl;exact hl
       | ok v2 q3=>rw [e3] at hl;cases hl
 | last_long hn ho =>
  rename_i o r
  intro H0 T H Q he ht _ hps hq
  obtain ⟨t,r1,rfl,hk,_⟩:=nextIs_ne hn
  refine open_run hps hn ?_
  refine c210 hps hn (fun _ H1 h1=>?_) (fun ho'=>by omega)
  rw [not_B,ob_some,Bool.not_false,cnd_t,zPa_b,ob_some,szT,ob_some,splT',ob_some,partT,ob_some]
  exact hq zPa H1 _ _ (leaf_sh _ _ _ _ _ _ _) (by show 1≤_;simp only [bndE];omega) (by simp) h1
 | last_bad hn ho hp ih =>
  rename_i o t r e p
  intro H0 T H Q he ht _ hps hq
  have he':=tl (by decide) hn he
  have hne:=((PE_facts hp 0).bad _ _ rfl he').1
  refine open_run hps hn ?_
  refine c210 hps hn (fun ho'=>by omega) (fun _ H1 h1=>?_)
  rw [not_B,ob_some,Bool.not_true,cnd_f]
  refine ih H0 T H1 _ he' (tm ht) trivial h1 (fun y H2 r1 o' hy hsz hr1 h2=>?_)
  rw [szT,ob_some,splT',ob_some]
  refine c211' h2 hne ?_
  rw [partT,ob_some,szT,ob_some,splT',ob_some,partT,ob_some]
  exact hq y H2 r1 o' hy (by simp only [bndE,List.length_cons] at hsz ⊢;omega) hr1 h2
 | last_open hn ho hp hs ih =>
  rename_i o t r x r1
  intro H0 T H Q he ht _ hps hq
  have he':=tl (by decide) hn he
  have hf:=(PE_facts hp 0).ok _ _ rfl he'
  have hsx:_≤_:=hf.2
  refine open_run hps hn ?_
  refine c210 hps hn (fun ho'=>by omega) (fun _ H1 h1=>?_)
  rw [not_B,ob_some,Bool.not_true,cnd_f]
  refine ih H0 T H1 _ he' (tm ht) trivial h1 (fun y H2 hy hys h2=>?_)
  rw [szT,ob_some,splT',ob_some]
  refine c211 h2 (endsT_ne hf.1.1) ho (fun _ H3 o' h3=>?_) (fun hh=>by rw [hs] at hh;cases hh)
  rw [partT,ob_some,szT,ob_some,splT',ob_some,partT,ob_some]
  have hsy:sizeT y=sizeT x:=by rw [← hy,normT_size]
  exact hq y H3 r1 o' hys (by simp only [bndE,List.length_cons];omega) (endsT_ne hf.1.1) h3
 | last_ok hn ho hp hs ih =>
  rename_i o t r x u r1
  intro H0 T H Q he ht _ hps hq
  have he':=tl (by decide) hn he
  refine open_run hps hn ?_
  refine c210 hps hn (fun ho'=>by omega) (fun _ H1 h1=>?_)
  rw [not_B,ob_some,Bool.not_true,cnd_f]
  refine ih H0 T H1 _ he' (tm ht) trivial h1 (fun y H2 hy hys h2=>?_)
  rw [szT,ob_some,splT',ob_some]
  refine c211 h2 (by simp) ho (fun hh=>by rw [hs] at hh;cases hh) (fun _ H3 h3=>?_)
  rw [partT,ob_some,szT,ob_some,splT',ob_some,partT,ob_some]
  exact hq y H3 hy hys h3
 | last_leaf h1 h2 h3 =>
  rename_i o r
  intro H0 T H Q he ht _ hps hq
  show E 131 [Wp pb] H Q
  rw [f131_eq,szW,ob_some]
  simp only [p0W,ptW,ob_some]
  refine c76 _ hps (endsT_ne he) (fun _=>?_) (fun hh=>by rw [show nextIs 1 ⟨#[78,79,84]⟩ r=false from h1] at hh;cases hh)
  rw [cnd_f]
  refine c149 _ hps (endsT_ne he) (fun _=>?_) (fun hh=>by rw [show nextIs 5 ⟨#[91]⟩ r=false from h2] at hh;cases hh)
  rw [cnd_f,c209 5 ⟨#[40]⟩ hps (endsT_ne he),show nextIs 5 ⟨#[40]⟩ r=false from h3,cnd_f]
  exact leaf_run 1 hps he (by simp only [bndE];omega) hq
end
end Go.Hx
namespace Go.Hx
theorem less_self (l:List UInt8):Op.bytesLess l l=false:=by
 induction l with
 | nil=>rfl
 | cons c l ih=>simp [Op.bytesLess,ih]
theorem c265 (a:Int) (H:Heap) (Q:Post):E 265 [I a] H Q=Q (B false) H:=by simp [f265_eq,i_neq,ob_some]
theorem c291 (a:Int) (H:Heap) (Q:Post):E 291 [I a] H Q=Q (B false) H:=by simp [f291_eq,i_neq,ob_some]
theorem c267 (a:ByteArray) (H:Heap) (Q:Post):E 267 [S a] H Q=Q (B false) H:=by simp [f267_eq,s_neq,ob_some]
theorem c203 (a:Int) (H:Heap) (Q:Post):E 203 [I a,I a] H Q=Q (I 0) H:=by
 have h:decide (a < a)=false:=decide_eq_false (by omega)
 simp only [f203_eq,c265,i_lss,i_gtr,ob_some,h,cnd_f]
theorem c266 (a:Int) (H:Heap) (Q:Post):E 266 [I a,I a] H Q=Q (I 0) H:=by
 have h:decide (a < a)=false:=decide_eq_false (by omega)
 simp only [f266_eq,c291,i_lss,i_gtr,ob_some,h,cnd_f]
theorem c205 (a:ByteArray) (H:Heap) (Q:Post):E 205 [S a,S a] H Q=Q (I 0) H:=by
 have h1:(!(Op.bytesLess a.toList a.toList || a.toList == a.toList))=false:=by simp
 simp only [f205_eq,c267,s_lss,s_gtr,ob_some,less_self,h1,cnd_f]
 have h2:(!(false || a.toList == a.toList))=false:=by simp
 simp only [h2,cnd_f]
theorem c204 (v:Vl) (H:Heap) (Q:Post):E 204 [encV v,encV v] H Q=Q (I 0) H:=by
 have h0:sizedA 3 (encV v)=some [I v.k,I v.n,S v.s]:=rfl
 have z:(!decide ((0:Int)=0))=false:=rfl
 simp only [f204_eq,h0,part_f,ob_some,c203,c266,c205,i_neq,decide_true,Bool.not_true,cnd_f,List.getElem?_cons_zero,List.getElem?_cons_succ]
theorem c202 (H:Heap) (Q:Post):E 202 [.sl 1 false .full [I 0,I 0,I 0,I 0,I 0]] H Q=Q (I 0) H:=by
 have hl:lenA (.sl 1 false .full [I 0,I 0,I 0,I 0,I 0])=some (I 5):=rfl
 have hx:∀ i:Nat,i < 5→ixaA 1 (.sl 1 false .full [I 0,I 0,I 0,I 0,I 0]) (I i)=some [I 0]:=fun i hi=>by
  match i,hi with
  | 0,_ | 1,_ | 2,_ | 3,_ | 4,_=>rfl
  | n+5,h=>exact absurd h (by omega)
 have z:(!decide ((0:Int)=0))=false:=rfl
 have step:∀ (m i:Nat),i+m=5→f202_l8 (I 0) (.sl 1 false .full [I 0,I 0,I 0,I 0,I 0]) (I 5) (I i) H Q=Q (I 0) H:=by
  intro m
  induction m with
  | zero =>
   intro i e
   have:decide ((i:Int) < 5)=false:=decide_eq_false (by omega)
   rw [f202_l8_eq,i_lss,ob_some,this,cnd_f]
  | succ m ih =>
   intro i e
   have:decide ((i:Int) < 5)=true:=decide_eq_true (by omega)
   rw [f202_l8_eq,i_lss,ob_some,this,cnd_t,hx i (by omega),ob_some,part_f,List.getElem?_cons_zero,ob_some,i_neq,ob_some,z,cnd_f,i_add,ob_some,w64_succ (n:=5) (by omega) (by omega)]
   exact ih (i+1) (by omega)
 rw [f202_eq,hl,ob_some]
 exact step 5 0 rfl
theorem mk5:mkSlA 1 [I 0,I 0,I 0,I 0,I 0]=some (.sl 1 false .full [I 0,I 0,I 0,I 0,I 0]):=rfl
theorem q4X (x:Ex):partA false 4 1 (encC x)=some (S x.var):=by rw [encC_eq];rfl
theorem q5X (x:Ex):partA false 5 1 (encC x)=some (S x.fld):=by rw [encC_eq];rfl
theorem q6X' (x:Ex):partA false 6 1 (encC x)=some (encXs x.sz x.nil x.tip x.l):=by rw [encC_eq];rfl
theorem q0X' (x:Ex):partA false 0 1 (encC x)=some (I x.k):=by rw [encC_eq];rfl
theorem same_fields {x y:Ex} (h:norm x=norm y):x.k=y.k∧x.v=y.v∧x.var=y.var∧x.fld=y.fld∧x.l.map norm=y.l.map norm:=by
 rw [norm_eq,norm_eq y] at h
 simp only [nd,Ex.mk.injEq] at h
 exact ⟨h.1,h.2.1,h.2.2.1,h.2.2.2.1,h.2.2.2.2.2.2.2⟩
theorem same_len {x y:Ex} (h:norm x=norm y):x.l.length=y.l.length:=by
 have:=congrArg List.length (same_fields h).2.2.2.2
 simpa using this
theorem c127 {x y:Ex} (h:norm x=norm y) (H:Heap) (Q:Post):E 127 [encX x,encX y] H Q=Q (I 0) H:=by
 obtain ⟨h1,h2,h3,h4,_⟩:=same_fields h
 have h5:=same_len h
 simp only [f127_eq,szX,ob_some,q0X',partXV,q4X,q5X,q6X',lenX,h1,h2,h3,h4,h5,c203,c204,c205,mk5,c202]
theorem c59 (x:Ex):∀ (y:Ex),norm x=norm y→sizeX x≤1099511627776→∀ (H:Heap) (Q:Post),E 59 [encX x,encX y] H Q=Q (I 0) H:=by
 induction x using Ex.ind with
 | h x ih =>
  intro y h hs H Q
  have z:(!decide ((0:Int)=0))=false:=rfl
  have hln:=same_len h
  have hmap:=(same_fields h).2.2.2.2
  have hsx:=sizeX_eq x
  have hll:=len_sizeXs x.l
  have loop:∀ (r pre:List Ex) (r' pre':List Ex),x.l=pre++r→y.l=pre'++r'→pre.length=pre'.length→r.map norm=r'.map norm→f59_l16 (encC y) (encXs x.sz x.nil x.tip x.l) (I x.l.length) (I pre.length) H Q=Q (I 0) H:=by
   intro r
   induction r with
   | nil =>
    intro pre r' pre' e e' hp _
    have hlt:(pre.length:Int)=x.l.length:=by rw [e];simp
    rw [f59_l16_eq,i_lss,ob_some,cnd_B,hlt]
    simp
   | cons a r ihr =>
    intro pre r' pre' e e' hp hm
    cases r' with
    | nil=>simp at hm
    | cons b r' =>
     simp only [List.map_cons,List.cons.injEq] at hm
     have hlt:pre.length < x.l.length:=by rw [e];simp
     have hlt':(pre.length:Int) < x.l.length:=by omega
     have ham:a ∈ x.l:=by rw [e];simp
     have hsa:sizeX a≤sizeXs x.l:=by rw [e,sizeXs_append];simp only [sizeXs];omega
     have hxb:ixaA 7 (encXs y.sz y.nil y.tip y.l) (I pre.length)=some (encC b):=by rw [hp];exact ixX y.l y.sz y.nil y.tip pre' r' b e'
     rw [f59_l16_eq,i_lss,ob_some,cnd_B,if_pos (by simpa using hlt'),ixX x.l x.sz x.nil x.tip pre r a e,ob_some,partX,ob_some,szX,ob_some,splX,ob_some,partX,ob_some,q6X',ob_some,hxb,ob_some,partX,ob_some,ih a ham b hm.1 (by omega),i_neq,ob_some,z,cnd_f,i_add,ob_some,w64_succ hlt (by omega)]
     have:=ihr (pre++[a]) r' (pre'++[b]) (by simp [e]) (by simp [e']) (by simp [hp]) hm.2
     rw [List.length_append,List.length_singleton] at this
     exact this
  rw [f59_eq,szX,ob_some,szX,ob_some,partX,ob_some,partX,ob_some,c127 h,i_neq,ob_some,z,cnd_f,q6X',ob_some,lenX,ob_some]
  exact loop x.l [] y.l [] rfl rfl rfl hmap
theorem c29 {x y:Ex} (h:norm x=norm y) (hs:sizeX x≤1099511627776) (H:Heap) (Q:Post):E 29 [encX x,encX y] H Q=Q (B true) H:=by
 have z:decide ((0:Int)=0)=true:=rfl
 rw [f29_eq,szX,ob_some,szX,ob_some,partX,ob_some,partX,ob_some,c59 x y h hs,i_eql,ob_some,z]
theorem c101 (a:Int) (H:Heap) (Q:Post):E 101 [I a,I a] H Q=Q (I 0) H:=by
 have h:decide (a=a)=true:=decide_eq_true rfl
 simp only [f101_eq,i_eql,ob_some,decide_true,cnd_t]
theorem c103 (a:ByteArray) (H:Heap) (Q:Post):E 103 [S a,S a] H Q=Q (I 0) H:=by
 have h:decide (a=a)=true:=decide_eq_true rfl
 simp only [f103_eq,s_eql,ob_some,decide_true,cnd_t]
theorem c102 (v:Vl) (H:Heap) (Q:Post):E 102 [encV v,encV v] H Q=Q (I 0) H:=by
 have h0:sizedA 3 (encV v)=some [I v.k,I v.n,S v.s]:=rfl
 have h1:partA true 0 3 [I v.k,I v.n,S v.s]=some (encV v):=rfl
 have h:decide (v=v)=true:=decide_eq_true rfl
 rw [f102_eq,h0,ob_some,ob_some,h1,ob_some,ob_some,v_eql,ob_some,h,cnd_t]
theorem c46_l (b1 b2:List AV) (H:Heap) (Q:Post):f46_l8 b1 b2 (.sl 1 false .full [I 0,I 0,I 0,I 0,I 0]) (I 0) H Q=f46_l29 b1 b2 (I 0) H Q:=by
 have hl:lenA (.sl 1 false .full [I 0,I 0,I 0,I 0,I 0])=some (I 5):=rfl
 have hx:∀ i:Nat,i < 5→ixaA 1 (.sl 1 false .full [I 0,I 0,I 0,I 0,I 0]) (I i)=some [I 0]:=fun i hi=>by
  match i,hi with
  | 0,_ | 1,_ | 2,_ | 3,_ | 4,_=>rfl
  | n+5,h=>exact absurd h (by omega)
 have z:(!decide ((0:Int)=0))=false:=rfl
 have step:∀ (m i:Nat),i+m=5→f46_l8 b1 b2 (.sl 1 false .full [I 0,I 0,I 0,I 0,I 0]) (I i) H Q=f46_l29 b1 b2 (I 0) H Q:=by
  intro m
  induction m with
  | zero =>
   intro i e
   have:decide ((i:Int) < 5)=false:=decide_eq_false (by omega)
   rw [f46_l8_eq,hl,ob_some,i_lss,ob_some,this,cnd_f]
  | succ m ih =>
   intro i e
   have:decide ((i:Int) < 5)=true:=decide_eq_true (by omega)
   rw [f46_l8_eq,hl,ob_some,i_lss,ob_some,this,cnd_t,hx i (by omega),ob_some,part_f,List.getElem?_cons_zero,ob_some,i_neq,ob_some,z,cnd_f,i_add,ob_some,w64_succ (n:=5) (by omega) (by omega)]
   exact ih (i+1) (by omega)
 exact step 5 0 rfl
theorem c46 (x:Ex):∀ (y:Ex),norm x=norm y→sizeX x≤1099511627776→∀ (H:Heap) (Q:Post),E 46 [encX x,encX y] H Q=Q (I 0) H:=by
 induction x using Ex.ind with
 | h x ih =>
  intro y h hs H Q
  have z:(!decide ((0:Int)=0))=false:=rfl
  obtain ⟨h1,h2,h3,h4,hmap⟩:=same_fields h
  have hln:=same_len h
  have hsx:=sizeX_eq x
  have hll:=len_sizeXs x.l
  have loop:∀ (r pre:List Ex) (r' pre':List Ex),x.l=pre++r→y.l=pre'++r'→pre.length=pre'.length→r.map norm=r'.map norm→f46_l29 (encC x) (encC y) (I pre.length) H Q=Q (I 0) H:=by
   intro r
   induction r with
   | nil =>
    intro pre r' pre' e e' hp _
    have hlt:(pre.length:Int)=x.l.length:=by rw [e];simp
    rw [f46_l29_eq,q6X',ob_some,lenX,ob_some,i_lss,ob_some,cnd_B,hlt]
    simp only [Int.lt_irrefl,decide_false,Bool.false_eq_true,if_false]
    rw [f46_j33_eq,cnd_f]
   | cons a r ihr =>
    intro pre r' pre' e e' hp hm
    cases r' with
    | nil=>simp at hm
    | cons b r' =>
     simp only [List.map_cons,List.cons.injEq] at hm
     have hlt:pre.length < x.l.length:=by rw [e];simp
     have hlt':(pre.length:Int) < x.l.length:=by omega
     have hlty:decide ((pre.length:Int) < y.l.length)=true:=decide_eq_true (by rw [← hln];omega)
     have ham:a ∈ x.l:=by rw [e];simp
     have hsa:sizeX a≤sizeXs x.l:=by rw [e,sizeXs_append];simp only [sizeXs];omega
     have hxb:ixaA 7 (encXs y.sz y.nil y.tip y.l) (I pre.length)=some (encC b):=by rw [hp];exact ixX y.l y.sz y.nil y.tip pre' r' b e'
     rw [f46_l29_eq,q6X',ob_some,lenX,ob_some,i_lss,ob_some,cnd_B,if_pos (by simpa using hlt'),q6X',ob_some,lenX,ob_some,i_lss,ob_some,hlty,f46_j33_eq,cnd_t,q6X',ob_some,ixX x.l x.sz x.nil x.tip pre r a e,ob_some,partX,ob_some,q6X',ob_some,hxb,ob_some,partX,ob_some,ih a ham b hm.1 (by omega),i_neq,ob_some,z,cnd_f,i_add,ob_some,w64_succ hlt (by omega)]
     have:=ihr (pre++[a]) r' (pre'++[b]) (by simp [e]) (by simp [e']) (by simp [hp]) hm.2
     rw [List.length_append,List.length_singleton] at this
     exact this
  simp only [f46_eq,szX,ob_some,q0X',partXV,q4X,q5X,q6X',lenX,h1,h2,h3,h4,hln,c101,c102,c103,mk5,c46_l]
  exact loop x.l [] y.l [] rfl rfl rfl hmap
theorem c15 {x y:Ex} (h:norm x=norm y) (hs:sizeX x≤1099511627776) (H:Heap) (Q:Post):E 15 [encX x,encX y] H Q=Q (B true) H:=by
 have z:decide ((0:Int)=0)=true:=rfl
 rw [f15_eq,szX,ob_some,szX,ob_some,partX,ob_some,partX,ob_some,c46 x y h hs,i_eql,ob_some,z]
end Go.Hx
namespace Go.Hx
theorem qT1 (x:Pa):partA false 1 1 (encTC x)=some (S x.var):=by rw [encTC_eq];rfl
theorem qT2 (x:Pa):partA false 2 1 (encTC x)=some (S x.typ):=by rw [encTC_eq];rfl
theorem qT3 (x:Pa):partA false 3 1 (encTC x)=some (I x.lo):=by rw [encTC_eq];rfl
theorem qT4 (x:Pa):partA false 4 1 (encTC x)=some (I x.hi):=by rw [encTC_eq];rfl
theorem qT5 (x:Pa):partA false 5 1 (encTC x)=some (encTs x.sz x.nil x.tip x.l):=by rw [encTC_eq];rfl
theorem qT0 (x:Pa):partA false 0 1 (encTC x)=some (I x.k):=by rw [encTC_eq];rfl
theorem sameT_fields {x y:Pa} (h:normT x=normT y):x.k=y.k∧x.var=y.var∧x.typ=y.typ∧x.lo=y.lo∧x.hi=y.hi∧x.l.map normT=y.l.map normT:=by
 rw [normT_eq,normT_eq y] at h
 simp only [ndT,Pa.mk.injEq] at h
 exact ⟨h.1,h.2.1,h.2.2.1,h.2.2.2.1,h.2.2.2.2.1,h.2.2.2.2.2.2.2.2⟩
theorem c89 (x:Pa):∀ (y:Pa),normT x=normT y→sizeT x≤1099511627776→∀ (H:Heap) (Q:Post),E 89 [encT x,encT y] H Q=Q (B true) H:=by
 induction x using Pa.ind with
 | h x ih =>
  intro y h hs H Q
  obtain ⟨h1,h2,h3,h4,h5,hmap⟩:=sameT_fields h
  have hln:x.l.length=y.l.length:=by have:=congrArg List.length hmap;simpa using this
  have hsx:=sizeT_eq x
  have hll:=len_sizeT x.l
  have spl:∀ z:Pa,spliceA 0 (encTC z) [I 0,S ⟨#[]⟩,S ⟨#[]⟩,I 0,I 0,AV.sl 0 true .full []]=some (encTC z):=splT
  have loop:∀ (r pre:List Pa) (r' pre':List Pa),x.l=pre++r→y.l=pre'++r'→pre.length=pre'.length→r.map normT=r'.map normT →
    f159_l14 (encTs y.sz y.nil y.tip y.l) (.fn (.func 89) [] []) (encTs x.sz x.nil x.tip x.l) (I x.l.length) (I pre.length) H Q=Q (B true) H:=by
   intro r
   induction r with
   | nil =>
    intro pre r' pre' e e' hp _
    have hlt:decide ((pre.length:Int) < (x.l.length:Int))=false:=decide_eq_false (by rw [e];simp)
    rw [f159_l14_eq,i_lss,ob_some,hlt,cnd_f]
   | cons a r ihr =>
    intro pre r' pre' e e' hp hm
    cases r' with
    | nil=>simp at hm
    | cons b r' =>
     simp only [List.map_cons,List.cons.injEq] at hm
     have hlt:pre.length < x.l.length:=by rw [e];simp
     have hlt':decide ((pre.length:Int) < (x.l.length:Int))=true:=decide_eq_true (by omega)
     have ham:a ∈ x.l:=by rw [e];simp
     have hsa:sizeT a≤sizeTs x.l:=by rw [e,sizeTs_app];simp only [sizeTs];omega
     have hxb:ixaA 6 (encTs y.sz y.nil y.tip y.l) (I pre.length)=some (encTC b):=by rw [hp];exact ixT y.l y.sz y.nil y.tip pre' r' b e'
     have hc:callA (Ev Pg Hs) (.fn (.func 89) [] []) [encT a,encT b] H (fun r16 H17=>ob (unA .not r16) fun r18=>cndA r18 (Q (B false) H17) (ob (binA Pg .add 3 true (I pre.length) (I 1)) fun r19=>f159_l14 (encTs y.sz y.nil y.tip y.l) (.fn (.func 89) [] []) (encTs x.sz x.nil x.tip x.l) (I x.l.length) r19 H17 Q)) =
       f159_l14 (encTs y.sz y.nil y.tip y.l) (.fn (.func 89) [] []) (encTs x.sz x.nil x.tip x.l) (I x.l.length) (I ((pre.length+1:Nat):Int)) H Q:=by
      show E 89 [encT a,encT b] H _=_
      rw [ih a ham b hm.1 (by omega),not_B,ob_some,Bool.not_true,cnd_f,i_add,ob_some,w64_succ hlt (by omega)]
     rw [f159_l14_eq,i_lss,ob_some,hlt',cnd_t,ixT x.l x.sz x.nil x.tip pre r a e,ob_some,partT,ob_some,szT,ob_some,spl,ob_some,hxb,ob_some,partT,ob_some,szT,ob_some,spl,ob_some,partT,ob_some,partT,ob_some,hc]
     have:=ihr (pre++[a]) r' (pre'++[b]) (by simp [e]) (by simp [e']) (by simp [hp]) hm.2
     rw [List.length_append,List.length_singleton] at this
     exact this
  have dd:∀ a:Int,(!decide (a=a))=false:=fun a=>by simp
  have ds:∀ a:ByteArray,(!decide (a=a))=false:=fun a=>by simp
  have dl:(!decide ((x.l.length:Int)=(y.l.length:Int)))=false:=by rw [hln];simp
  rw [f89_eq,szT,ob_some,szT,ob_some,qT0,ob_some,qT0,ob_some,h1,i_neq,ob_some,dd,cnd_f,qT1,ob_some,qT1,ob_some,h2,s_neq,ob_some,ds,f89_c1_12b_eq,cnd_f,qT2,ob_some,qT2,ob_some,h3,s_neq,ob_some,ds,f89_c1_19b_eq,cnd_f,
   qT3,ob_some,qT3,ob_some,h4,i_neq,ob_some,dd,f89_c1_26b_eq,cnd_f,qT4,ob_some,qT4,ob_some,h5,i_neq,ob_some,dd,f89_j5_eq,cnd_f,qT5,ob_some,qT5,ob_some,f159_eq,lenT,ob_some,lenT,ob_some,i_neq,ob_some,dl,cnd_f,ob_some]
  exact loop x.l [] y.l [] rfl rfl rfl hmap
theorem c90 (l l':List Ex) (s s':Nat) (n n':Bool) (t t':Tip) (h:l.map norm=l'.map norm) (hs:sizeXs l≤1099511627776) (H:Heap) (Q:Post):E 90 [encXs s n t l,encXs s' n' t' l',.fn (.func 29) [] []] H Q=Q (B true) H:=by
 have hln:l.length=l'.length:=by have:=congrArg List.length h;simpa using this
 have hll:=len_sizeXs l
 have loop:∀ (r pre:List Ex) (r' pre':List Ex),l=pre++r→l'=pre'++r'→pre.length=pre'.length→r.map norm=r'.map norm →
   f90_l14 (encXs s' n' t' l') (.fn (.func 29) [] []) (encXs s n t l) (I l.length) (I pre.length) H Q=Q (B true) H:=by
  intro r
  induction r with
  | nil =>
   intro pre r' pre' e e' hp _
   have hlt:decide ((pre.length:Int) < (l.length:Int))=false:=decide_eq_false (by rw [e];simp)
   rw [f90_l14_eq,i_lss,ob_some,hlt,cnd_f]
  | cons a r ihr =>
   intro pre r' pre' e e' hp hm
   cases r' with
   | nil=>simp at hm
   | cons b r' =>
    simp only [List.map_cons,List.cons.injEq] at hm
    have hlt:pre.length < l.length:=by rw [e];simp
    have hlt':decide ((pre.length:Int) < (l.length:Int))=true:=decide_eq_true (by omega)
    have hsa:sizeX a≤sizeXs l:=by rw [e,sizeXs_append];simp only [sizeXs];omega
    have hxb:ixaA 7 (encXs s' n' t' l') (I pre.length)=some (encC b):=by rw [hp];exact ixX l' s' n' t' pre' r' b e'
    have hc:callA (Ev Pg Hs) (.fn (.func 29) [] []) [encX a,encX b] H (fun r16 H17=>ob (unA .not r16) fun r18=>cndA r18 (Q (B false) H17) (ob (binA Pg .add 3 true (I pre.length) (I 1)) fun r19=>f90_l14 (encXs s' n' t' l') (.fn (.func 29) [] []) (encXs s n t l) (I l.length) r19 H17 Q)) =
      f90_l14 (encXs s' n' t' l') (.fn (.func 29) [] []) (encXs s n t l) (I l.length) (I ((pre.length+1:Nat):Int)) H Q:=by
     show E 29 [encX a,encX b] H _=_
     rw [c29 hm.1 (by omega),not_B,ob_some,Bool.not_true,cnd_f,i_add,ob_some,w64_succ hlt (by omega)]
    rw [f90_l14_eq,i_lss,ob_some,hlt',cnd_t,ixX l s n t pre r a e,ob_some,partX,ob_some,szX,ob_some,splX,ob_some,hxb,ob_some,partX,ob_some,szX,ob_some,splX,ob_some,partX,ob_some,partX,ob_some,hc]
    have:=ihr (pre++[a]) r' (pre'++[b]) (by simp [e]) (by simp [e']) (by simp [hp]) hm.2
    rw [List.length_append,List.length_singleton] at this
    exact this
 have dl:(!decide ((l.length:Int)=(l'.length:Int)))=false:=by rw [hln];simp
 rw [f90_eq,lenX,ob_some,lenX,ob_some,i_neq,ob_some,dl,cnd_f,ob_some]
 exact loop l [] l' [] rfl rfl rfl h
theorem c88_nil (s s':Nat) (n n':Bool) (t t':Tip) (H:Heap) (Q:Post):E 88 [encIts s n t [],encIts s' n' t' []] H Q=Q (B true) H:=by
 have d0:(!decide (((([]:List It).length:Nat):Int)=((([]:List It).length:Nat):Int)))=false:=rfl
 have dlt:decide ((0:Int) < ((([]:List It).length:Nat):Int))=false:=rfl
 rw [f88_eq,lenIt,ob_some,lenIt,ob_some,i_neq,ob_some,d0,cnd_f,ob_some,f88_l14_eq,i_lss,ob_some,dlt,cnd_f]
/-- the same query -/
structure SameQ (q q':Qu):Prop where
 p:normT q.p=normT q'.p
 ws:q.ws.map norm=q'.ws.map norm
 key:q.key=q'.key
 mode:q.mode=q'.mode
 within:q.within=q'.within
 its:q.its=q'.its
theorem partQc (q:Qu):partA false 7 1 (qC q)=some (S q.key)∧partA false 8 1 (qC q)=some (I q.mode)∧partA false 9 1 (qC q)=some (I q.within)∧partA false 10 1 (qC q)=some (encIts q.isz q.inil q.itip q.its)∧partA true 0 6 (qC q)=some (encT q.p) ∧
  partA false 6 1 (qC q)=some (encXs q.wsz q.wnil q.wtip q.ws):=by
 rw [qC,encT,encTC_eq]
 exact ⟨rfl,rfl,rfl,rfl,rfl,rfl⟩
theorem c39 {q q':Qu} (h:SameQ q q') (hi:q.its=[]) (hs:sizeT q.p≤1099511627776) (hw:sizeXs q.ws≤1099511627776) (H:Heap) (Q:Post):E 39 [encQ q,encQ q'] H Q=Q (B true) H:=by
 have dd:∀ a:Int,(!decide (a=a))=false:=fun a=>by simp
 have ds:∀ a:ByteArray,(!decide (a=a))=false:=fun a=>by simp
 obtain ⟨a1,a2,a3,a4,a5,a6⟩:=partQc q
 obtain ⟨b1,b2,b3,b4,b5,b6⟩:=partQc q'
 have hi':q'.its=[]:=by rw [← h.its];exact hi
 rw [hi] at a4
 rw [hi'] at b4
 rw [f39_eq,szQ,ob_some,szQ,ob_some,a1,ob_some,b1,ob_some,h.key,s_neq,ob_some,ds,cnd_f,a2,ob_some,b2,ob_some,h.mode,i_neq,ob_some,dd,f39_c1_12b_eq,cnd_f,a3,ob_some,b3,ob_some,h.within,i_neq,ob_some,dd,f39_c1_19b_eq,cnd_f,
  a4,ob_some,b4,ob_some,c88_nil,not_B,ob_some,Bool.not_true,f39_j5_eq,cnd_f,a5,ob_some,b5,ob_some,c89 q.p q'.p h.p hs,cnd_t,a6,ob_some,b6,ob_some,c90 q.ws q'.ws _ _ _ _ _ _ h.ws hw,f39_j12_eq]
end Go.Hx
namespace Go.Hx
theorem deepTs_map {f:Pa→Pa}:∀ {l:List Pa},(∀ y ∈ l,deepT (f y)=deepT y)→deepTs (l.map f)=deepTs l
 | [],_=>rfl
 | x::l,h=>by simp only [List.map_cons,deepTs,h x (by simp),deepTs_map (l:=l) (fun y hy=>h y (by simp [hy]))]
theorem normT_deep (x:Pa):deepT (normT x)=deepT x:=by
 induction x using Pa.ind with
 | h x ih=>rw [deepT_eq,deepT_eq x,normT_l,deepTs_map ih]
theorem normT_right (x:Pa):rightT (normT x)=rightT x:=by
 have ha:((normT x).l.any fun y=>decide (y.k=x.k))=x.l.any fun y=>decide (y.k=x.k):=by
  rw [normT_l,List.any_map]
  congr 1
  funext y
  simp only [Function.comp,normT_k]
 have hlen:(normT x).l.length=x.l.length:=by rw [normT_l,List.length_map]
 have hl:leafT (normT x)=leafT x:=by simp only [leafT,hlen,normT_var,normT_typ]
 simp only [rightT,hl,normT_k,normT_var,normT_typ,normT_lo,normT_hi,hlen,ha]
theorem allRTs_map {f:Pa→Pa}:∀ {l:List Pa},(∀ y ∈ l,allRT (f y)=allRT y)→allRTs (l.map f)=allRTs l
 | [],_=>rfl
 | x::l,h=>by simp only [List.map_cons,allRTs,h x (by simp),allRTs_map (l:=l) (fun y hy=>h y (by simp [hy]))]
theorem normT_allR (x:Pa):allRT (normT x)=allRT x:=by
 induction x using Pa.ind with
 | h x ih=>rw [allRT_eq,allRT_eq x,normT_right,normT_l,allRTs_map ih]
theorem notsTs_map {f:Pa→Pa} (hk:∀ y:Pa,(f y).k=y.k):∀ {l:List Pa} (k:Int) (w:Bool) (p:Option Int),(∀ y ∈ l,notsT false (f y)=notsT false y)→notsTs k w p (l.map f)=notsTs k w p l
 | [],_,_,_,_=>rfl
 | x::l,k,w,p,h=>by
  have he:(l.map f).isEmpty=l.isEmpty:=by cases l<;>rfl
  simp only [List.map_cons,notsTs,h x (by simp),hk,he,notsTs_map hk (l:=l) k w (some x.k) (fun y hy=>h y (by simp [hy]))]
theorem normT_nots (x:Pa):∀ w,notsT w (normT x)=notsT w x:=by
 induction x using Pa.ind with
 | h x ih=>intro w;rw [notsT_eq,notsT_eq w x,normT_l,normT_k,notsTs_map normT_k _ _ _ (fun y hy=>ih y hy false)]
theorem usesTs_map {f:Pa→Pa}:∀ {l:List Pa},(∀ y ∈ l,usesT (f y)=usesT y)→usesTs (l.map f)=usesTs l
 | [],_=>rfl
 | x::l,h=>by simp only [List.map_cons,usesTs,h x (by simp),usesTs_map (l:=l) (fun y hy=>h y (by simp [hy]))]
theorem normT_uses (x:Pa):usesT (normT x)=usesT x:=by
 induction x using Pa.ind with
 | h x ih=>rw [usesT_eq,usesT_eq x,normT_l,normT_k,normT_var,normT_typ,usesTs_map ih]
theorem onceTs_map:∀ {l:List Pa} (k:Int) (p:List Us),(∀ y ∈ l,onceT (normT y)=onceT y)→onceTs k p (l.map normT)=onceTs k p l
 | [],_,_,_=>rfl
 | x::l,k,p,h=>by simp only [List.map_cons,onceTs,h x (by simp),normT_uses,onceTs_map (l:=l) k (p++usesT x) (fun y hy=>h y (by simp [hy]))]
theorem normT_once (x:Pa):onceT (normT x)=onceT x:=by
 induction x using Pa.ind with
 | h x ih=>rw [onceT_eq,onceT_eq x,normT_l,normT_k,onceTs_map _ _ ih]
theorem normT_check (x:Pa):checkT (normT x)=checkT x:=by
 unfold checkT
 rw [normT_size,normT_deep,normT_allR]
theorem normT_made (x:Pa):madeP (normT x)=madeP x:=by
 unfold madeP madeT
 rw [normT_check,normT_k,normT_nots,normT_once]
theorem exactTs_map:∀ {l:List Pa},(∀ y ∈ l,exactT (normT y)=exactT y)→exactTs (l.map normT)=exactTs l
 | [],_=>rfl
 | x::l,h=>by simp only [List.map_cons,exactTs,h x (by simp),exactTs_map (l:=l) (fun y hy=>h y (by simp [hy]))]
theorem normT_exact (x:Pa):exactT (normT x)=exactT x:=by
 induction x using Pa.ind with
 | h x ih=>rw [exactT_eq,exactT_eq x,normT_l,normT_k,normT_lo,normT_hi,exactTs_map ih]
theorem whereP_map:∀ {l:List Ex} (n:Nat),sizeXs l≤1152921504606846975→whereP n (l.map norm)=whereP n l
 | [],_,_=>rfl
 | x::l,n,h=>by
  simp only [sizeXs] at h
  simp only [List.map_cons,whereP,norm_check (show sizeX x≤1152921504606846975 by omega),norm_size,whereP_map (n+sizeX x) (show sizeXs l≤1152921504606846975 by omega)]
theorem whereP_same {l l':List Ex} (h:l.map norm=l'.map norm) (hs:sizeXs l≤1152921504606846975) (hs':sizeXs l'≤1152921504606846975) (n:Nat):whereP n l=whereP n l':=by
 rw [← whereP_map n hs,h,whereP_map n hs']
theorem any16 {l l':List Ex} (h:l.map norm=l'.map norm):(l.any fun y=>decide (y.k=16))=l'.any fun y=>decide (y.k=16):=by
 have:∀ l:List Ex,(l.any fun y=>decide (y.k=16))=(l.map norm).any fun y=>decide (y.k=16):=fun l=>by
  rw [List.any_map]
  congr 1
  funext y
  simp only [Function.comp,norm_k]
 rw [this l,h,← this l']
theorem fine_same {q q':Qu} (h:SameQ q q') (hs:sizeXs q.ws≤1152921504606846975) (hs':sizeXs q'.ws≤1152921504606846975):fineP q=fineP q':=by
 have e1:checkT q.p=checkT q'.p:=by rw [← normT_check,h.p,normT_check]
 have e2:madeP q.p=madeP q'.p:=by rw [← normT_made,h.p,normT_made]
 have e3:q.ws.length=q'.ws.length:=by have:=congrArg List.length h.ws;simpa using this
 have e4:=whereP_same h.ws hs hs' 0
 have e5:=any16 h.ws
 unfold fineP queryP countsP restP rangeP
 rw [e1,e2,e3,e4,e5,h.key,h.mode,h.within,h.its]
theorem plain_same {q q':Qu} (h:SameQ q q'):plainE q=plainE q':=by
 have e1:exactT q.p=exactT q'.p:=by rw [← normT_exact,h.p,normT_exact]
 unfold plainE
 rw [e1,h.key,h.mode,h.its]
theorem putEs_map:∀ {l:List Pa} (n:Int),(∀ y ∈ l,∀ n,putE (normT y) n=putE y n)→putEs n (l.map normT)=putEs n l
 | [],_,_=>rfl
 | x::l,n,h=>by simp only [List.map_cons,putEs,h x (by simp),putEs_map (l:=l) n (fun y hy=>h y (by simp [hy]))]
theorem normT_put (x:Pa):∀ n,putE (normT x) n=putE x n:=by
 induction x using Pa.ind with
 | h x ih=>intro n;rw [putE_eq,putE_eq x,normT_l,normT_k,normT_var,normT_typ,normT_lo,putEs_map _ ih]
end Go.Hx
namespace Go.Hx
theorem sl_nil (s:Nat) (n:Bool) (t:Tip) (xs:List AV):binA Pg .eql 24 true (.sl s n t xs) (.sl 0 true .full [])=some (B n):=by
 cases n<;>kernel_rfl
def whereL (x:Ex):List Ex:=if x.k=16 then x.l else [x]
theorem c213 (s:Nat) (n:Bool) (t:Tip) (l:List Ex) (hs:n=true ∨ s=7) (hn:n=true→l=[]) (hl:l.length≤1099511627776) (H:Heap) (Q:Post) (hq:∀ s' n' t' H',HExt H H'→(n'=true ∨ s'=7)→(n'=true→l=[])→Q (encXs s' n' t' l) H'):E 213 [encXs s n t l] H Q:=by
 have he:binA Pg .eql 24 true (encXs s n t l) (.sl 0 true .full [])=some (B n):=sl_nil s n t _
 rw [f213_eq,he,ob_some]
 cases n with
 | true =>
  have:=hn rfl
  subst this
  rw [cnd_t]
  exact hq 0 true .full H (HExt.refl H) (.inl rfl) (fun _=>rfl)
 | false =>
  have hm:mkSlA 7 []=some (.sl 7 false .full []):=rfl
  rw [cnd_f,hm,ob_some]
  show appA 7 96 (.sl 7 false .full []) (.sl s false t (l.map encX)) H _
  refine app_man2 (H0:=H) (tip:=.full) (xs:=[]) (ys:=l.map encX) (HExt.refl H) trivial ⟨.inr rfl,fun _=>rfl⟩ hs (by omega) (by simp only [List.length_nil,List.length_map];omega) (fun s2 n2 t2 H2 hn2 he2 _=>?_)
  exact hq s2 n2 t2 H2 he2 hn2.1 (fun h=>List.map_eq_nil_iff.1 (hn2.2 h))
theorem c136 (y:Ex) (hs:shX y) (hl:y.l.length≤1099511627776) (H:Heap) (Q:Post) (hq:∀ s' n' t' H',HExt H H'→(n'=true ∨ s'=7)→Q (encXs s' n' t' (whereL y)) H'):E 136 [encX y] H Q:=by
 rw [f136_eq,szX,ob_some,q0X',ob_some,i_eql,ob_some]
 refine cnd_intro (fun h=>?_) (fun h=>?_)
 ·have h:y.k=16:=by simpa using h
  have hw:whereL y=y.l:=by rw [whereL,if_pos h]
  rw [q6X',ob_some]
  refine c213 y.sz y.nil y.tip y.l hs.1 hs.2 hl H _ (fun s' n' t' H' he hn _=>?_)
  have:=hq s' n' t' H' he hn
  rw [hw] at this;exact this
 ·have h:¬ y.k=16:=by simpa using h
  have hw:whereL y=[y]:=by rw [whereL,if_neg h]
  rw [partX,ob_some,mk1X,ob_some]
  have:=hq 7 false .full H (HExt.refl H) (.inr rfl)
  rw [hw] at this;exact this
def wWHERE:ByteArray:=⟨#[87,72,69,82,69]⟩
def wWITHIN:ByteArray:=⟨#[87,73,84,72,73,78]⟩
def wEVERY:ByteArray:=⟨#[69,86,69,82,89]⟩
/-- conditions, if WHERE comes -/
inductive WhereR:List Tk→RR (List Ex)→Prop
 | no {r}:nextIs 1 wWHERE r=false→WhereR r (.ok [] r)
 | bad {t r e p}:nextIs 1 wWHERE (t::r)=true→P (.row true) 0 r (.bad e p)→WhereR (t::r) (.bad e p)
 | long {t r x r1}:nextIs 1 wWHERE (t::r)=true→P (.row true) 0 r (.ok x r1)→checkP x ≠ 0→WhereR (t::r) (.bad 2 (posn r))
 | ok {t r x r1}:nextIs 1 wWHERE (t::r)=true→P (.row true) 0 r (.ok x r1)→checkP x=0→WhereR (t::r) (.ok (whereL x) r1)
theorem WhereR_total {r:List Tk} (he:endsT r):∃ R,WhereR r R:=by
 cases hw:nextIs 1 wWHERE r with
 | false=>exact ⟨_,.no hw⟩
 | true =>
  obtain ⟨t,r1,rfl,hk,_⟩:=nextIs_ne hw
  obtain ⟨R,hR,_⟩:=P_total _ (.row true) 0 r1 (Nat.le_refl _) (endsT_tail he (by omega))
  cases R with
  | bad e p=>exact ⟨_,.bad hw hR⟩
  | ok x r2 =>
   by_cases hc:checkP x=0
   ·exact ⟨_,.ok hw hR hc⟩
   ·exact ⟨_,.long hw hR hc⟩
structure WhereF (r:List Tk) (R:RR (List Ex)):Prop where
 ok:∀ l r1,R=.ok l r1→Suf r r1
 bad:∀ e p,R=.bad e p→e ≠ 0
theorem WhereR_facts {r:List Tk} {R:RR (List Ex)} (h:WhereR r R) (he:endsT r):WhereF r R:=by
 cases h with
 | no h=>exact ⟨fun l r1 e=>(by cases e;exact Suf.refl he),fun e p h=>(by cases h)⟩
 | bad h hP=>exact ⟨fun l r1 e=>(by cases e),fun e p h=>(by cases h;exact P_ne hP _ _ rfl)⟩
 | long h hP hc=>exact ⟨fun l r1 e=>(by cases e),fun e p h=>(by cases h;decide)⟩
 | ok h hP hc =>
  have hs:Suf _ _:=P_suf hP (endsT_tail he (by rw [(nextIs_cons h).1];decide))
  exact ⟨fun l r1 e=>(by cases e;exact hs.cons),fun e p h=>(by cases h)⟩
section
variable {H0 H:Heap} {T:Nat→Nat→Prop} {pb rb:Nat} {r:List Tk} {o:Nat} {Q:Post}
theorem PS.ofRD {r1:List Tk} {o e a:Int} {H':Heap} (h:PS H0 T pb rb r o e a H) (h':RD (delH H rb) T rb r1 H'):PS H0 T pb rb r1 o e a H' :=
 ⟨ext_del h.ext h.fr h'.ext,h.fp,h.fr,h.ne,h'.ext.obj (by rw [(del_ne H h.ne).1];exact h.op),h'.rd,h'.tp⟩
theorem PS.toRD2 {o e a:Int} (h:PS H0 T pb rb r o e a H):RD (delH H rb) T rb r H:=⟨del_ext H rb,del_fresh H rb,h.rd,h.tp⟩
/-- a row of conditions that was read -/
structure GoodL (ys:List Ex):Prop where
 len:ys.length≤1048576
 ok:∀ y ∈ ys,allX okX y∧allX vX y
 sum:sizeXs ys≤1048576
theorem c63 {R:RR (List Ex)} (h:PS H0 T pb rb r o 0 0 H) (he:endsT r) (hok:∀ t ∈ r,okTk t) (hR:WhereR r R)
  (h0:∀ e p H' r1,R=.bad e p→r1 ≠ []→PS H0 T pb rb r1 o e p H'→Q (.sl 0 true .full []) H')
  (h1:∀ l r1 ys s n t H',R=.ok l r1→ys.map norm=l→GoodL ys→(n=true ∨ s=7 ∨ s=0)→PS H0 T pb rb r1 o 0 0 H'→Q (encXs s n t ys) H'):E 63 [Pt pb] H Q:=by
 have d0:decide ((0:Int)=0)=true:=rfl
 rw [f63_eq]
 refine c76 _ h (endsT_ne he) (fun hn=>?_) (fun hn H1 h2=>?_)
 ·rw [not_B,ob_some,Bool.not_false,cnd_t]
  cases hR with
  | no _=>exact h1 [] r [] 0 true .full H rfl rfl ⟨by simp,fun _ h=>(by cases h),by simp [sizeXs]⟩ (.inl rfl) h
  | bad h'=>rw [show nextIs 1 wWHERE _=false from hn] at h';cases h'
  | long h'=>rw [show nextIs 1 wWHERE _=false from hn] at h';cases h'
  | ok h'=>rw [show nextIs 1 wWHERE _=false from hn] at h';cases h'
 ·rw [not_B,ob_some,Bool.not_true,cnd_f]
  cases hR with
  | no h'=>rw [show nextIs 1 wWHERE _=true from hn] at h';cases h'
  | @bad t r e p h' hP =>
   have h2:PS H0 T pb rb r o 0 0 H1:=h2
   have he':=endsT_tail he (by rw [(nextIs_cons h').1];decide)
   rw [nil_Pt,ob_some,add_Pt,ob_some,h2.ld0,ob_some]
   refine c19 h2.toRD2 he' (fun u hu=>hok u (by simp [hu])) hP (fun H3 r1 hr1 h3=>?_)
   have p3:=h2.ofRD h3
   simp only [x3_0,ob_some,x3_1,x3_2,szX,splX,i_neq]
   rw [decide_eq_false (P_ne hP _ _ rfl),Bool.not_false,cnd_t]
   exact c135 p3 e p (fun H4 h4=>h0 e p H4 r1 rfl hr1 h4)
  | @long t r x r1 h' hP hc =>
   have h2:PS H0 T pb rb r o 0 0 H1:=h2
   have he':=endsT_tail he (by rw [(nextIs_cons h').1];decide)
   have hs:Suf _ _:=P_suf hP he'
   rw [nil_Pt,ob_some,add_Pt,ob_some,h2.ld0,ob_some]
   refine c19 h2.toRD2 he' (fun u hu=>hok u (by simp [hu])) hP ⟨fun hh=>(hc hh).elim,fun _ H3 h3=>?_⟩
   have p3:=h2.ofRD h3
   simp only [x3_0,ob_some,x3_1,x3_2,szX,splX,i_neq]
   rw [show decide ((2:Int)=0)=false from rfl,Bool.not_false,cnd_t]
   exact c135 p3 2 _ (fun H4 h4=>h0 2 (posn r) H4 r1 rfl (endsT_ne hs.1) h4)
  | @ok t r x r1 h' hP hc =>
   have h2:PS H0 T pb rb r o 0 0 H1:=h2
   have he':=endsT_tail he (by rw [(nextIs_cons h').1];decide)
   have hsz:sizeX x+r1.length≤r.length:=P_size hP
   have hrl:=h2.rlen
   rw [nil_Pt,ob_some,add_Pt,ob_some,h2.ld0,ob_some]
   refine c19 h2.toRD2 he' (fun u hu=>hok u (by simp [hu])) hP ⟨fun _ y H3 hy hys hgy h3=>?_,fun hh=>(hh hc).elim⟩
   have p3:=h2.ofRD h3
   have hsy:sizeX y=sizeX x:=by rw [← hy,norm_size]
   have hsy':=sizeX_eq y
   have hll:=len_sizeXs y.l
   have hgo:=gX_ok hgy (by omega)
   simp only [x3_0,ob_some,x3_1,x3_2,szX,splX,i_neq]
   rw [show (!decide True)=false from rfl,cnd_f,partX,ob_some]
   refine c136 y ((allX_eq _ _).1 hys).1 (by omega) H3 _ (fun s' n' t' H4 h4 hn'=>?_)
   refine h1 (whereL x) r1 (whereL y) s' n' t' H4 rfl ?_ ?_ (by rcases hn' with h | h;exact .inl h;exact .inr (.inl h)) (p3.mono h4)
   ·have hk:x.k=y.k:=by rw [← hy,norm_k]
    simp only [whereL,hk]
    split
    ·rw [← hy,norm_l]
    ·simp [hy]
   ·simp only [whereL]
    split
    ·exact ⟨by omega,fun z hz=>⟨allXs_mem ((allX_eq _ _).1 hgo.1).2 hz,allXs_mem ((allX_eq _ _).1 hgo.2).2 hz⟩,by omega⟩
    ·exact ⟨by simp,fun z hz=>(by simp at hz;subst hz;exact hgo),by simp only [sizeXs];omega⟩
theorem c63' {e a o:Int} (h:PS H0 T pb rb r o e a H) (he:e ≠ 0) (hq:Q (.sl 0 true .full []) H):E 63 [Pt pb] H Q:=by
 rw [f63_eq]
 refine c76' _ h he ?_
 rw [not_B,ob_some,Bool.not_false,cnd_t]
 exact hq
/-- a number, if WITHIN comes -/
def withinR (r:List Tk):RR Int:=if nextIs 1 wWITHIN r=true then intR 1 1099511627776 r.tail else .ok 0 r
theorem c64 (h:PS H0 T pb rb r o 0 0 H) (he:endsT r) (hok:∀ t ∈ r,okTk t) (h0:∀ p H' r1,withinR r=.bad 4 p→r1 ≠ []→PS H0 T pb rb r1 o 4 p H'→Q (I 0) H')
  (h1:∀ n r1 H',withinR r=.ok n r1→PS H0 T pb rb r1 o 0 0 H'→Q (I n) H'):E 64 [Pt pb] H Q:=by
 rw [f64_eq]
 refine c76 _ h (endsT_ne he) (fun hn=>?_) (fun hn H1 h2=>?_)
 ·rw [not_B,ob_some,Bool.not_false,cnd_t]
  exact h1 0 r H (by simp only [withinR,show nextIs 1 wWITHIN r=false from hn];rfl) h
 ·rw [not_B,ob_some,Bool.not_true,cnd_f]
  obtain ⟨t,r1,rfl,hk,_⟩:=nextIs_ne hn
  have he':=endsT_tail he (by omega:t.k ≠ 6)
  have h2:PS H0 T pb rb r1 o 0 0 H1:=h2
  have hw:withinR (t::r1)=intR 1 1099511627776 r1:=by simp only [withinR,show nextIs 1 wWITHIN (t::r1)=true from hn,if_true,List.tail_cons]
  rw [hw] at h0 h1
  exact c137 1 1099511627776 h2 (endsT_ne he') (fun u hu=>hok u (by simp [hu])) he' h0 h1
theorem c64' {e a o:Int} (h:PS H0 T pb rb r o e a H) (he:e ≠ 0) (hq:Q (I 0) H):E 64 [Pt pb] H Q:=by
 rw [f64_eq]
 refine c76' _ h he ?_
 rw [not_B,ob_some,Bool.not_false,cnd_t]
 exact hq
end
end Go.Hx
namespace Go.Hx
abbrev zeroQ:List AV:=[I 0,S ⟨#[]⟩,S ⟨#[]⟩,I 0,I 0,AV.sl 0 true .full [],AV.sl 0 true .full [],S ⟨#[]⟩,I 0,I 0,AV.sl 0 true .full []]
def zQu:AV:=.agg zeroQ
theorem zQ_b:bldA [] zeroQ=some zQu:=rfl
theorem zQ_s:sizedA 11 zQu=some zeroQ:=rfl
theorem zQ_l:spliceA 0 zeroQ zeroQ=some zeroQ:=rfl
theorem zQ_p:partA true 0 11 zeroQ=some zQu:=rfl
theorem splQ' (q:Qu):spliceA 0 (qC q) zeroQ=some (qC q):=splQ q
theorem normT_idem (x:Pa):normT (normT x)=normT x:=by
 induction x using Pa.ind with
 | h x ih =>
  rw [normT_eq (normT x),normT_k,normT_var,normT_typ,normT_lo,normT_hi,normT_l,List.map_map]
  rw [normT_eq x]
  congr 1
  exact List.map_congr_left fun y hy=>ih y hy
theorem norm_idem (x:Ex):norm (norm x)=norm x:=by
 induction x using Ex.ind with
 | h x ih =>
  rw [norm_eq (norm x),norm_l,List.map_map,norm_eq x]
  have:x.l.map (norm ∘ norm)=x.l.map norm:=List.map_congr_left fun y hy=>ih y hy
  rw [this]
  rfl
theorem allTs_map {p:Pa→Prop} {f:Pa→Pa}:∀ {l:List Pa},(∀ y ∈ l,allT p (f y) ↔ allT p y)→(allTs p (l.map f) ↔ allTs p l)
 | [],_=>Iff.rfl
 | x::l,h=>by simp only [List.map_cons,allTs,h x (by simp),allTs_map (l:=l) (fun y hy=>h y (by simp [hy]))]
theorem normT_gT (x:Pa):allT gT (normT x) ↔ allT gT x:=by
 induction x using Pa.ind with
 | h x ih =>
  rw [allT_eq,allT_eq gT x,normT_l,allTs_map ih]
  refine and_congr ?_ Iff.rfl
  simp only [gT,normT_var,normT_typ,normT_lo,normT_hi]
theorem gT_okT {x:Pa} (h:allT gT x) (hs:sizeT x≤1099511627776):allT okT x:=by
 induction x using Pa.ind with
 | h x ih =>
  have h':=(allT_eq _ _).1 h
  have hs':=sizeT_eq x
  have hl:=len_sizeT x.l
  rw [allT_eq]
  refine ⟨⟨by omega,h'.1.1,h'.1.2.1⟩,allTs_of' fun y hy=>ih y hy (allTs_mem h'.2 hy) ?_⟩
  obtain ⟨a,b,e⟩:=List.append_of_mem hy
  rw [e,sizeTs_app] at hs'
  simp only [sizeTs] at hs'
  omega
section
variable {H0 H:Heap} {T:Nat→Nat→Prop} {pb rb:Nat} {r:List Tk} {o:Nat} {Q:Post}
/-- the begin -/
theorem c60 (s:ByteArray) (hsz:s.size≤1099511627776) (H0:Heap) (Q:Post) (h0:∀ p e H',lexA s=.error (p,e)→HExt H0 H'→Q (.tup [.raw (.pointer none),I p,I e]) H')
  (h1:∀ L pb rb H',lexA s=.ok L→PS H0 (fun _ _=>False) pb rb L ((0:Nat):Int) 0 0 H'→Q (.tup [Pt pb,I s.size,I 0]) H'):E 60 [S s] H0 Q:=by
 rw [f60_eq]
 refine c16 s hsz H0 _ (fun v H1 hv e1 hfr=>?_)
 cases hl:lexA s with
 | error x =>
  obtain ⟨p,e⟩:=x
  rw [hl] at hv
  have hv:v=.tup [.raw (.pointer none),I p,I e]:=hv
  subst hv
  have hne:decide (e=0)=false:=decide_eq_false (lexA_bad hl).2
  simp only [x3_0,x3_1,x3_2,ob_some,i_neq,hne,Bool.not_false,cnd_t]
  exact h0 p e H1 hl e1
 | ok L =>
  rw [hl] at hv
  obtain ⟨rb,rfl,hb⟩:=hv
  have d0:decide ((0:Int)=0)=true:=rfl
  have hrf:=hfr rb _ rfl
  have hbl:bldA [(0,1,Pt rb)] [AV.raw (.pointer none),I 0,I 0,I 0]=some (.agg [Pt rb,I 0,I 0,I 0]):=rfl
  have hs:sizedA 4 (.agg [Pt rb,I 0,I 0,I 0])=some [Pt rb,I 0,I 0,I 0]:=rfl
  simp only [x3_0,x3_1,x3_2,ob_some,i_neq,d0,Bool.not_true,cnd_f,hbl,hs]
  intro pb hf
  have hne:pb ≠ rb:=fun e=>by
   subst e
   obtain ⟨L',i,s',n',t',g1,_⟩:=hb
   rw [hf.1] at g1;cases g1
  have hfp:=e1.fresh hf
  refine h1 L pb rb _ hl ⟨e1.setObj hfp _,hfp,hrf,hne,setObj_same _ _ _,?_,fun _ _ h=>h.elim⟩
  obtain ⟨L',i,s',n',t',g1,g2⟩:=hb
  exact ⟨L',i,s',n',t',by rw [setObj_ne _ _ (Ne.symm hne)];exact g1,g2⟩
/-- the end -/
structure Res65 (H0:Heap) (q:Qu) (r:List Tk) (n:Int) (Q:Post):Prop where
 more:kindN r ≠ 6→∀ H',HExt H0 H'→Q (.tup [zQu,I (posn r),I 4]) H'
 ok:kindN r=6→fineP q=0→∀ H',HExt H0 H'→Q (.tup [encQ q,I n,I 0]) H'
 long:kindN r=6→fineP q=2→∀ H',HExt H0 H'→Q (.tup [zQu,I 0,I 2]) H'
 bad:kindN r=6→fineP q ≠ 0→fineP q ≠ 2→∀ H',HExt H0 H'→Q (.tup [zQu,I 0,I 4]) H'
theorem c65' {e a o:Int} (h:PS H0 T pb rb r o e a H) (he:e ≠ 0) (q:Qu) (n:AV) (hq:Q (.tup [zQu,I a,I e]) H):E 65 [Pt pb,encQ q,n] H Q:=by
 rw [f65_eq,szQ,ob_some,c128 h,decide_eq_false he,cnd_f,f65_j8_eq,c128 h,decide_eq_false he,not_B,ob_some,Bool.not_false,cnd_t]
 simp only [zQ_b,ob_some,nil_Pt,add_Pt,apL,h.ld3,h.ld2,zQ_s,zQ_l,zQ_p]
 exact hq
theorem c65 (q:Qu) (hok:OkQ q) (n:Int) (h:PS H0 T pb rb r o 0 0 H) (hr:r ≠ []) (hq:Res65 H0 q r n Q):E 65 [Pt pb,encQ q,I n] H Q:=by
 cases r with
 | nil=>exact (hr rfl).elim
 | cons t r =>
  have d0:decide ((0:Int)=0)=true:=rfl
  rw [f65_eq,szQ,ob_some,c128 h,d0,cnd_t,nil_Pt,ob_some,add_Pt,ob_some,h.ld0,ob_some,c44' h.rd,fK0,i_eql,ob_some]
  refine c129 h hr _ (fun hb=>?_) (fun hb H1 h1=>?_)
  ·have hk:kindN (t::r)=6:=by show t.k=6;simpa using hb
   rw [f65_j8_eq,c128 h,d0,not_B,ob_some,Bool.not_true,cnd_f,partQ,ob_some]
   refine c82 q hok H _ (fun H1 e1=>?_)
   have hx:=h.ext.trans e1
   rw [i_eql,ob_some]
   refine cnd_intro (fun g=>?_) (fun g=>?_)
   ·rw [ob_some,szQ,ob_some,splQ',ob_some,partQ,ob_some]
    exact hq.ok hk (by simpa using g) H1 hx
   ·have g:fineP q ≠ 0:=by simpa using g
    rw [i_eql,ob_some]
    refine cnd_intro (fun g2=>?_) (fun g2=>?_)
    ·rw [zQ_b,ob_some,zQ_s,ob_some,zQ_l,ob_some,zQ_p,ob_some]
     exact hq.long hk (by simpa using g2) H1 hx
    ·rw [zQ_b,ob_some,zQ_s,ob_some,zQ_l,ob_some,zQ_p,ob_some]
     exact hq.bad hk g (by simpa using g2) H1 hx
  ·have hk:kindN (t::r) ≠ 6:=by show ¬ t.k=6;simpa using hb
   have d4:decide ((4:Int)=0)=false:=rfl
   rw [f65_j8_eq,c128 h1,d4,not_B,ob_some,Bool.not_false,cnd_t]
   simp only [zQ_b,ob_some,nil_Pt,add_Pt,apL,h1.ld3,h1.ld2,zQ_s,zQ_l,zQ_p]
   exact hq.more hk H1 h1.ext
end
inductive QR where
 | ok (q:Qu)
 | bad (p:Nat) (e:Int)
def qOf (x:Pa) (l:List Ex) (n:Int):Qu:=⟨x,7,false,.full,l,e0,0,n,0,true,.full,[]⟩
inductive EndR (q:Qu) (r:List Tk):QR→Prop
 | more:kindN r ≠ 6→EndR q r (.bad (posn r) 4)
 | long:kindN r=6→fineP q=2→EndR q r (.bad 0 2)
 | bad:kindN r=6→fineP q ≠ 0→fineP q ≠ 2→EndR q r (.bad 0 4)
 | ok:kindN r=6→fineP q=0→EndR q r (.ok q)
theorem EndR_total (q:Qu) (r:List Tk):∃ R,EndR q r R:=by
 by_cases h:kindN r=6
 ·by_cases h0:fineP q=0
  ·exact ⟨_,.ok h h0⟩
  ·by_cases h2:fineP q=2
   ·exact ⟨_,.long h h2⟩
   ·exact ⟨_,.bad h h0 h2⟩
 ·exact ⟨_,.more h⟩
inductive EplR (s:ByteArray):QR→Prop
 | lex {p e}:lexA s=.error (p,e)→EplR s (.bad p e)
 | every {L}:lexA s=.ok L→nextIs 1 wEVERY L=false→EplR s (.bad (posn L) 4)
 | pat {L e p}:lexA s=.ok L→nextIs 1 wEVERY L=true→PE (.row 1) 0 L.tail (.bad e p)→EplR s (.bad p e)
 | wh {L x r1 e p}:lexA s=.ok L→nextIs 1 wEVERY L=true→PE (.row 1) 0 L.tail (.ok x r1)→WhereR r1 (.bad e p)→EplR s (.bad p e)
 | within {L x r1 l r2 e p}:lexA s=.ok L→nextIs 1 wEVERY L=true→PE (.row 1) 0 L.tail (.ok x r1)→WhereR r1 (.ok l r2)→withinR r2=.bad e p→EplR s (.bad p e)
 | fin {L x r1 l r2 n r3 R}:lexA s=.ok L→nextIs 1 wEVERY L=true→PE (.row 1) 0 L.tail (.ok x r1)→WhereR r1 (.ok l r2)→withinR r2=.ok n r3→EndR (qOf x l n) r3 R→EplR s R
theorem withinR_facts (n:Nat) (r:List Tk):(∀ v r1,withinR r=.ok v r1→endsT r→Suf r r1)∧(∀ e p,withinR r=.bad e p→e=4∧((∀ t ∈ r,t.p≤n)→p≤n)):=by
 simp only [withinR]
 split
 ·rename_i h
  obtain ⟨t,r1,rfl,hk,_⟩:=nextIs_ne h
  have f:=intR_facts 1 1099511627776 n r1
  exact ⟨fun v r2 e he=>((f.ok _ _ e (endsT_tail he (by omega))).1).cons,fun e p h=>⟨(f.bad _ _ h).1,fun hp=>(f.bad _ _ h).2 fun u hu=>hp u (by simp [hu])⟩⟩
 ·exact ⟨fun v r1 e he=>(by cases e;exact Suf.refl he),fun e p h=>(by cases h)⟩
theorem EplR_total (s:ByteArray):∃ R,EplR s R:=by
 cases hl:lexA s with
 | error x=>exact ⟨_,.lex hl⟩
 | ok L =>
  have he:=(lexA_len hl).2
  cases hn:nextIs 1 wEVERY L with
  | false=>exact ⟨_,.every hl hn⟩
  | true =>
   obtain ⟨t,L1,rfl,hk,_⟩:=nextIs_ne hn
   have he1:=endsT_tail he (by omega:t.k ≠ 6)
   obtain ⟨R,hP⟩:=PE_total _ (.row 1) 0 L1 (Nat.le_refl _) ⟨by omega,by omega⟩ he1
   cases R with
   | bad e p=>exact ⟨_,.pat hl hn hP⟩
   | ok x r1 =>
    have he2:=((PE_facts hP 0).ok _ _ rfl he1).1.1
    obtain ⟨R,hW⟩:=WhereR_total he2
    cases R with
    | bad e p=>exact ⟨_,.wh hl hn hP hW⟩
    | ok l r2 =>
     cases hi:withinR r2 with
     | bad e p=>exact ⟨_,.within hl hn hP hW hi⟩
     | ok n r3 =>
      obtain ⟨R,hE⟩:=EndR_total (qOf x l n) r3
      exact ⟨_,.fin hl hn hP hW hi hE⟩
/-- what epl.Parse answers -/
def Res30 (H:Heap) (s:ByteArray) (Q:Post):QR→Prop
 | .ok q=>∀ q' H',HExt H H'→SameQ q' q→OkQ q'→q'.its=[]→sizeXs q'.ws≤1048576→Q (.tup [encQ q',I s.size,I 0]) H'
 | .bad p e=>∀ H',HExt H H'→Q (.tup [zQu,I p,I e]) H'
def qA (y:Pa):Qu:=⟨y,0,true,.full,[],e0,0,0,0,true,.full,[]⟩
theorem spl0 (y:Pa):spliceA 0 (encTC y) zeroQ=some (qC (qA y)):=by rw [qC,show (qA y).p=y from rfl,encTC_eq];rfl
theorem spl6 (q:Qu) (s:Nat) (n:Bool) (t:Tip) (l:List Ex):spliceA 6 [encXs s n t l] (qC q)=some (qC { q with wsz:=s,wnil:=n,wtip:=t,ws:=l }):=by rw [qC,qC,encTC_eq];rfl
theorem spl9 (q:Qu) (n:Int):spliceA 9 [I n] (qC q)=some (qC { q with within:=n }):=by rw [qC,qC,encTC_eq];rfl
theorem szI (n:Int):sizedA 1 (I n)=some [I n]:=rfl
theorem szE (s:Nat) (n:Bool) (t:Tip) (l:List Ex):sizedA 1 (encXs s n t l)=some [encXs s n t l]:=rfl
theorem szNil:sizedA 1 (.sl 0 true .full [])=some [encXs 0 true .full []]:=rfl
theorem okQ_of {y:Pa} {ys:List Ex} {s:Nat} {n:Bool} {t:Tip} {w:Int} (hg:allT gT y) (hs:sizeT y≤1048576) (hl:GoodL ys):OkQ ⟨y,s,n,t,ys,e0,0,w,0,true,.full,[]⟩:=by
 have h1:sizeT y≤1099511627776:=by omega
 have h2:=hl.len
 have h3:=hl.sum
 have h0:e0.size=0:=rfl
 exact ⟨gT_okT hg h1,h1,by show ys.length≤_;omega,hl.ok,by show sizeXs ys≤_;omega,by show e0.size≤_;omega,by show 0≤_;omega,fun _ h=>by cases h⟩
theorem EplR_inv {s:ByteArray} {L:List Tk} {R:QR} (h:EplR s R) (hl:lexA s=.ok L):(nextIs 1 wEVERY L=false∧R=.bad (posn L) 4) ∨ (nextIs 1 wEVERY L=true∧∃ RP,PE (.row 1) 0 L.tail RP∧match RP with
  | .bad e p=>R=.bad p e
  | .ok x r1=>∃ RW,WhereR r1 RW∧match RW with
   | .bad e p=>R=.bad p e
   | .ok l r2=>match withinR r2 with
    | .bad e p=>R=.bad p e
    | .ok n r3=>EndR (qOf x l n) r3 R):=by
 cases h with
 | lex h=>rw [hl] at h;cases h
 | every h hn=>rw [hl] at h;cases h;exact .inl ⟨hn,rfl⟩
 | pat h hn hP=>rw [hl] at h;cases h;exact .inr ⟨hn,_,hP,rfl⟩
 | wh h hn hP hW=>rw [hl] at h;cases h;exact .inr ⟨hn,_,hP,_,hW,rfl⟩
 | within h hn hP hW hi=>rw [hl] at h;cases h;exact .inr ⟨hn,_,hP,_,hW,by simp only [hi]⟩
 | fin h hn hP hW hi hE=>rw [hl] at h;cases h;exact .inr ⟨hn,_,hP,_,hW,by simp only [hi];exact hE⟩
theorem c30 (s:ByteArray) (hsz:s.size≤1099511627776) (H:Heap) (Q:Post) {R:QR} (hR:EplR s R) (hq:Res30 H s Q R):E 30 [S s] H Q:=by
 have nz:∀ {e:Int},e ≠ 0→decide (e=0)=false:=fun h=>decide_eq_false h
 have d0:decide ((0:Int)=0)=true:=rfl
 have d4:(4:Int) ≠ 0:=by decide
 rw [f30_eq]
 refine c60 s hsz H _ (fun p e H1 hl e1=>?_) (fun L pb rb H1 hl h1=>?_)
 ·simp only [x3_0,x3_1,x3_2,ob_some,i_neq,nz (lexA_bad hl).2,Bool.not_false,cnd_t,zQ_b,zQ_s,zQ_l,zQ_p]
  cases hR with
  | lex h=>rw [hl] at h;cases h;exact hq H1 e1
  | every h=>rw [hl] at h;cases h
  | pat h=>rw [hl] at h;cases h
  | wh h=>rw [hl] at h;cases h
  | within h=>rw [hl] at h;cases h
  | fin h=>rw [hl] at h;cases h
 ·have hbl:bldA [(0,1,Pt pb)] [AV.raw (.pointer none)]=some (Wp pb):=rfl
  have hsw:spliceA 0 [Pt pb] [AV.raw (.pointer none)]=some [Pt pb]:=rfl
  have hLl:=(lexA_len hl).1
  have hLe:=(lexA_len hl).2
  have hLo:=lexA_ok hl
  simp only [x3_0,x3_1,x3_2,ob_some,i_neq,d0,Bool.not_true,cnd_f,hbl,szW,hsw,p0W]
  -- where nothing more is read
  have rest:∀ (q:Qu) {r:List Tk} {o e p:Int} {H2:Heap},e ≠ 0→PS H (fun _ _=>False) pb rb r o e p H2→(∀ H',HExt H H'→Q (.tup [zQu,I p,I e]) H')→f30_j22 (S s) zeroQ [Pt pb] (qC q) H2 Q:=fun q r o e p H2 hne h2 hq=>by
   rw [f30_j22_eq,p0W,ob_some]
   refine c63' h2 hne ?_
   rw [szNil,ob_some,spl6,ob_some,ob_some]
   refine c64' h2 hne ?_
   rw [szI,ob_some,spl9,ob_some,ob_some,partQ,ob_some,len_S,ob_some]
   refine c65' h2 hne _ _ ?_
   simp only [x3_0,x3_1,x3_2,ob_some,zQ_s,zQ_l,zQ_p]
   exact hq H2 h2.ext
  rcases EplR_inv hR hl with ⟨hn,rfl⟩ | ⟨hn,RP,hP,hR⟩
  ·refine c61 wEVERY h1 (endsT_ne hLe) (fun _ H2 h2=>?_) (fun hh=>by rw [hn] at hh;cases hh)
   rw [cnd_f]
   have e:zeroQ=qC (qA zPa):=by kernel_rfl
   rw [show f30_j22 (S s) zeroQ [Pt pb] zeroQ H2 Q=f30_j22 (S s) zeroQ [Pt pb] (qC (qA zPa)) H2 Q by rw [← e]]
   exact rest (qA zPa) d4 h2 hq
  refine c61 wEVERY h1 (endsT_ne hLe) (fun hh=>by rw [hn] at hh;cases hh) (fun _ H2 h2=>?_)
  obtain ⟨t,L1,rfl,hk,_⟩:=nextIs_ne hn
  have h2:PS H (fun _ _=>False) pb rb L1 ((0:Nat):Int) 0 0 H2:=h2
  have hP:PE (.row 1) 0 L1 RP:=hP
  have he1:=endsT_tail hLe (by omega:t.k ≠ 6)
  have ho1:∀ u ∈ L1,okTk u:=fun u hu=>hLo u (by simp [hu])
  simp only [List.length_cons] at hLl
  rw [cnd_t,ptW,ob_some]
  refine run_allE hP H (fun _ _=>False) H2 _ he1 ho1 trivial h2 ?_
  cases RP with
  | bad e p =>
   subst hR
   intro y H3 r1 o' hy _ hr1 h3
   have hne:=((PE_facts hP 0).bad _ _ rfl he1).1
   rw [szT,ob_some,spl0,ob_some]
   exact rest _ hne h3 hq
  | ok x r1 =>
   obtain ⟨RW,hW,hR⟩:=hR
   intro y H3 hy hys h3
   have hf:=(PE_facts hP 0).ok _ _ rfl he1
   have hsx:sizeT x+r1.length≤L1.length:=hf.2
   have hgx:=(PE_facts hP 0).good _ _ rfl he1 ho1 (fun _ _ h=>by cases h)
   have hgy:allT gT y:=(normT_gT y).1 (hy.symm ▸ hgx)
   have hsy:sizeT y=sizeT x:=by rw [← hy,normT_size]
   have he2:=hf.1.1
   have ho2:=hf.1.mem ho1
   rw [szT,ob_some,spl0,ob_some,f30_j22_eq,p0W,ob_some]
   refine c63 h3 he2 ho2 hW (fun e p H4 r2 e1 hr2 h4=>?_) (fun l r2 ys s4 n4 t4 H4 e1 hl4 hg4 hn4 h4=>?_)
   ·subst e1
    have hne:=(WhereR_facts hW he2).bad _ _ rfl
    subst hR
    rw [szNil,ob_some,spl6,ob_some,ob_some]
    refine c64' h4 hne ?_
    rw [szI,ob_some,spl9,ob_some,ob_some,partQ,ob_some,len_S,ob_some]
    refine c65' h4 hne _ _ ?_
    simp only [x3_0,x3_1,x3_2,ob_some,zQ_s,zQ_l,zQ_p]
    exact hq H4 h4.ext
   ·subst e1
    have hs3:=(WhereR_facts hW he2).ok _ _ rfl
    have he3:=hs3.1
    rw [szE,ob_some,spl6,ob_some,ob_some]
    refine c64 h4 he3 (hs3.mem ho2) (fun p H5 r3 e2 hr3 h5=>?_) (fun n r3 H5 e2 h5=>?_)
    ·simp only [e2] at hR
     subst hR
     rw [szI,ob_some,spl9,ob_some,ob_some,partQ,ob_some,len_S,ob_some]
     refine c65' h5 d4 _ _ ?_
     simp only [x3_0,x3_1,x3_2,ob_some,zQ_s,zQ_l,zQ_p]
     exact hq H5 h5.ext
    ·simp only [e2] at hR
     have he4:=((withinR_facts 0 r2).1 _ _ e2 he3).1
     rw [szI,ob_some,spl9,ob_some,ob_some,partQ,ob_some,len_S,ob_some]
     have hok:OkQ (⟨y,s4,n4,t4,ys,e0,0,n,0,true,.full,[]⟩:Qu):=okQ_of hgy (by omega) hg4
     have hsame:SameQ (⟨y,s4,n4,t4,ys,e0,0,n,0,true,.full,[]⟩:Qu) (qOf x l n):=⟨by show normT y=normT x;rw [← hy];exact (normT_idem y).symm,by show ys.map norm=l.map norm;rw [← hl4,List.map_map];exact List.map_congr_left fun z _=>(norm_idem z).symm,rfl,rfl,rfl,rfl⟩
     ·have hfq:=fine_same hsame (by have:=hg4.sum;show sizeXs ys≤_;omega) (by have:=hg4.sum;show sizeXs l≤_;rw [← hl4,sizeXs_norm];omega)
      refine c65 (⟨y,s4,n4,t4,ys,e0,0,n,0,true,.full,[]⟩:Qu) hok s.size h5 (endsT_ne he4) ⟨fun hk H6 h6=>?_,fun hk hf H6 h6=>?_,fun hk hf H6 h6=>?_,fun hk hf hf2 H6 h6=>?_⟩
      ·cases hR with
       | more _=>simp only [x3_0,x3_1,x3_2,ob_some,zQ_s,zQ_l,zQ_p];exact hq H6 h6
       | long h=>exact (hk h).elim
       | bad h=>exact (hk h).elim
       | ok h=>exact (hk h).elim
      ·rw [hfq] at hf
       cases hR with
       | more h=>exact (h hk).elim
       | long _ h=>rw [hf] at h;cases h
       | bad _ h=>exact (h hf).elim
       | ok _ _ =>
        rw [x3_0,ob_some,x3_1,ob_some,x3_2,ob_some,szQ,ob_some,splQ',ob_some,partQ,ob_some]
        exact hq _ H6 h6 hsame hok rfl (by have:=hg4.sum;show sizeXs ys≤_;omega)
      ·rw [hfq] at hf
       cases hR with
       | more h=>exact (h hk).elim
       | long _ h=>simp only [x3_0,x3_1,x3_2,ob_some,zQ_s,zQ_l,zQ_p];exact hq H6 h6
       | bad _ _ h=>exact (h hf).elim
       | ok _ h=>rw [hf] at h;cases h
      ·rw [hfq] at hf hf2
       cases hR with
       | more h=>exact (h hk).elim
       | long _ h=>exact (hf2 h).elim
       | bad _ _ h=>simp only [x3_0,x3_1,x3_2,ob_some,zQ_s,zQ_l,zQ_p];exact hq H6 h6
       | ok _ h=>exact (hf h).elim
end Go.Hx
namespace Go.Hx
abbrev KT:=Int × ByteArray
def kt (t:Tk):KT:=(t.k,t.s)
/-- no letter, digit or _ comes; no = or > comes -/
def calm (r:List UInt8):Prop:=∀ c r',r=c::r'→signB c=false∧uppB c=false∧c.toNat ≠ 61∧c.toNat ≠ 62
def mild (r:List UInt8):Prop:=∀ c r',r=c::r'→c.toNat ≠ 61∧c.toNat ≠ 62
def anyR (_:List UInt8):Prop:=True
theorem calm_mild {r:List UInt8} (h:calm r):mild r:=fun c r' e=>(h c r' e).2.2
theorem calm_nil:calm []:=fun _ _ h=>by cases h
theorem calm_cons {c:UInt8} (r:List UInt8) (h1:signB c=false) (h2:uppB c=false) (h3:c.toNat ≠ 61) (h4:c.toNat ≠ 62):calm (c::r):=fun _ _ h=>by cases h;exact ⟨h1,h2,h3,h4⟩
theorem calm32 (r:List UInt8):calm (32::r):=calm_cons r (by decide) (by decide) (by decide) (by decide)
theorem calm41 (r:List UInt8):calm (41::r):=calm_cons r (by decide) (by decide) (by decide) (by decide)
def LX (C:List UInt8→Prop) (t:List UInt8) (ks:List KT):Prop:=∀ p r l,C r→lexW (p+t.length) r=.ok l→∃ l1,lexW p (t++r)=.ok (l1++l)∧l1.map kt=ks
theorem LX.nil {C:List UInt8→Prop}:LX C [] []:=fun p r l _ h=>⟨[],by simpa using h,rfl⟩
theorem LX.weak {C C':List UInt8→Prop} {t:List UInt8} {ks:List KT} (h:LX C t ks) (hc:∀ r,C' r→C r):LX C' t ks:=fun p r l hr=>h p r l (hc r hr)
theorem LX.append {C1 C2:List UInt8→Prop} {t1 t2:List UInt8} {k1 k2:List KT} (h1:LX C1 t1 k1) (h2:LX C2 t2 k2) (hc:∀ r,C2 r→C1 (t2++r)):LX C2 (t1++t2) (k1++k2):=fun p r l hr hl=>by
 obtain ⟨l2,e2,m2⟩:=h2 (p+t1.length) r l hr (by rw [List.length_append,← Nat.add_assoc] at hl;exact hl)
 obtain ⟨l1,e1,m1⟩:=h1 p (t2++r) _ (hc r hr) e2
 exact ⟨l1++l2,by rw [List.append_assoc,e1,List.append_assoc],by rw [List.map_append,m1,m2]⟩
theorem LX.blank {C:List UInt8→Prop}:LX C [32] []:=fun p r l _ h=>⟨[],by rw [List.singleton_append,lexW,if_pos (by rfl)];exact h,rfl⟩
theorem LX.tok {C:List UInt8→Prop} {c:UInt8} {t w:List UInt8} {k:Int} (hb:blankB c=false) (h:∀ r,C r→lex1 (c::(t++r))=.tok k w (t.length+1)):LX C (c::t) [(k,bs w)]:=fun p r l hr hl=>by
 refine ⟨[⟨k,bs w,p⟩],?_,rfl⟩
 rw [List.cons_append,lexW,if_neg (by rw [hb];decide)]
 have:(t++r).drop (t.length+1 - 1)=r:=by simp
 have hl':lexW (p+(t.length+1)) r=.ok l:=by simpa using hl
 simp only [h r hr,this,hl']
 rfl
theorem takeW_stop {p:UInt8→Bool} {w r:List UInt8} (h:w.all p=true) (hr:∀ c r',r=c::r'→p c=false):(w++r).takeWhile p=w:=by
 induction w with
 | nil =>
  cases r with
  | nil=>rfl
  | cons c r=>rw [List.nil_append,List.takeWhile_cons,hr c r rfl];rfl
 | cons c w ih =>
  simp only [List.all_cons,Bool.and_eq_true] at h
  rw [List.cons_append,List.takeWhile_cons,if_pos h.1,ih h.2]
theorem upp_iff {c:UInt8}:uppB c=true ↔ 65≤c.toNat∧c.toNat≤90:=by
 show uppI (c.toNat:Nat)=true ↔ _
 simp only [uppI,Bool.and_eq_true,decide_eq_true_eq];omega
theorem low_iff {c:UInt8}:lowB c=true ↔ 97≤c.toNat∧c.toNat≤122:=by
 show lowI (c.toNat:Nat)=true ↔ _
 simp only [lowI,Bool.and_eq_true,decide_eq_true_eq];omega
theorem sign_iff {c:UInt8}:signB c=true ↔ lowB c=true ∨ digB c=true ∨ c.toNat=95:=by
 show signI (c.toNat:Nat)=true ↔ lowI (c.toNat:Nat)=true ∨ digI (c.toNat:Nat)=true ∨ _
 simp only [signI,Bool.or_eq_true,decide_eq_true_eq]
 exact or_congr Iff.rfl (or_congr Iff.rfl (by omega))
theorem blank_iff {c:UInt8}:blankB c=true ↔ c.toNat=32 ∨ c.toNat=9 ∨ c.toNat=10:=by
 show blankI (c.toNat:Nat)=true ↔ _
 simp only [blankI,Bool.or_eq_true,decide_eq_true_eq];omega
theorem nf {b:Bool} {p:Prop} (h:b=true ↔ p) (hp:¬ p):b=false:=by cases b;rfl;exact (hp (h.1 rfl)).elim
/-- a word in capitals -/
theorem lx_word {c:UInt8} {w:List UInt8} (h:(c::w).all uppB=true) (hl:(c::w).length≤32):LX calm (c::w) [(1,bs (c::w))]:=by
 have hc:uppB c=true:=by simp only [List.all_cons,Bool.and_eq_true] at h;exact h.1
 have hu:=upp_iff.1 hc
 refine LX.tok (nf blank_iff (by omega)) (fun r hr=>?_)
 have ht:(c::(w++r)).takeWhile uppB=c::w:=takeW_stop (w:=c::w) h (fun c r' e=>(hr c r' e).2.1)
 simp only [lex1,if_neg (by omega:¬ c.toNat=39),hc,if_true,wordT,ht]
 rw [if_neg (by omega)];rfl
/-- a name -/
theorem lx_name {s:ByteArray} (h:nameL (tx s)=true):LX calm (tx s) [(2,s)]:=by
 have hs:bs (tx s)=s:=bs_tx s
 rw [← hs]
 generalize tx s=w at h
 cases w with
 | nil=>cases h
 | cons c w =>
  simp only [nameL,Bool.and_eq_true,decide_eq_true_eq] at h
  obtain ⟨hc,ha,hl⟩:=h
  have hu:=low_iff.1 hc
  refine LX.tok (nf blank_iff (by omega)) (fun r hr=>?_)
  have ht:(c::(w++r)).takeWhile signB=c::w:=takeW_stop (w:=c::w) ha (fun c r' e=>(hr c r' e).1)
  simp only [lex1,if_neg (by omega:¬ c.toNat=39),nf (upp_iff (c:=c)) (by omega),Bool.false_eq_true,if_false,hc,if_true,wordT,ht]
  rw [if_neg (by omega)];rfl
/-- a number -/
theorem lx_int {d:List UInt8} (h:DigL false d) (hl:d.length≤19):LX calm d [(3,bs d)]:=by
 obtain ⟨hne,ha,h0⟩:=h
 cases d with
 | nil=>exact (hne rfl).elim
 | cons c w =>
  have hc:digB c=true:=by simp only [List.all_cons,Bool.and_eq_true] at ha;exact ha.1
  have hu:=digB_iff.1 hc
  refine LX.tok (nf blank_iff (by omega)) (fun r hr=>?_)
  have ht:(c::(w++r)).takeWhile digB=c::w:=takeW_stop (w:=c::w) ha (fun c r' e=>by
   have:=(hr c r' e).1
   cases hd:digB c with
   | false=>rfl
   | true=>rw [sign_iff.2 (.inr (.inl hd))] at this;cases this)
  simp only [lex1,if_neg (by omega:¬ c.toNat=39),nf (upp_iff (c:=c)) (by omega),nf (low_iff (c:=c)) (by omega),Bool.false_eq_true,if_false,hc,if_true,intT,ht]
  rw [if_neg (fun hh=>?_)];rfl
  rcases hh with hh | ⟨hh,h48⟩
  ·omega
  ·rcases h0 with h0 | ⟨_,h0⟩
   ·exact h0 (by simpa using h48)
   ·omega
theorem find_congr {α:Type} {p q:α→Bool}:∀ {l:List α},(∀ x ∈ l,p x=q x)→l.find? p=l.find? q
 | [],_=>rfl
 | x::l,h=>by rw [List.find?_cons,List.find?_cons,h x (by simp),find_congr fun y hy=>h y (by simp [hy])]
theorem sign_two (c d:UInt8) (r:List UInt8):signF (c::d::r)=signF [c,d]:=by
 have:∀ w ∈ signW,pre? (c::d::r) w=pre? [c,d] w:=fun w hw=>by
  have hl:w.length=1 ∨ w.length=2:=by
   have:∀ w ∈ signW,w.length=1 ∨ w.length=2:=by decide
   exact this w hw
  rcases hl with hl | hl
  ·simp [pre?,hl]
  ·simp [pre?,hl]
 have h:signW.find? (pre? (c::d::r))=signW.find? (pre? [c,d]):=find_congr this
 simp only [signF,h]
theorem sign_one (c d:UInt8) (h1:d.toNat ≠ 61) (h2:d.toNat ≠ 62):signF [c,d]=signF [c]:=by
 have e1:d ≠ 61:=fun e=>h1 (by rw [e];rfl)
 have e2:d ≠ 62:=fun e=>h2 (by rw [e];rfl)
 have:∀ w ∈ signW,pre? [c,d] w=pre? [c] w:=fun w hw=>by
  simp only [signW,List.mem_cons,List.not_mem_nil,or_false] at hw
  rcases hw with rfl | rfl | rfl | rfl | rfl | rfl | rfl | rfl | rfl | rfl | rfl | rfl | rfl | rfl | rfl | rfl | rfl | rfl | rfl | rfl | rfl | rfl<;>simp [pre?,e1,e2]
 have h:signW.find? (pre? [c,d])=signW.find? (pre? [c]):=find_congr this
 simp only [signF,h]
def sgn (c:UInt8):Bool:=decide (c.toNat ≠ 39) && (!uppB c && (!lowB c && (!digB c && !blankB c)))
theorem lex1_sign {c:UInt8} (h:sgn c=true) (r:List UInt8):lex1 (c::r)=signF (c::r):=by
 simp only [sgn,Bool.and_eq_true,decide_eq_true_eq,Bool.not_eq_true'] at h
 obtain ⟨h1,h2,h3,h4,_⟩:=h
 simp only [lex1,if_neg h1,h2,h3,h4,Bool.false_eq_true,if_false]
theorem lx_sign {c:UInt8} (h:sgn c=true) (hf:signF [c]=.tok 5 [c] 1):LX mild [c] [(5,bs [c])]:=by
 have hb:blankB c=false:=by
  simp only [sgn,Bool.and_eq_true,Bool.not_eq_true'] at h
  exact h.2.2.2.2
 refine LX.tok hb (fun r hr=>?_)
 rw [List.nil_append,lex1_sign h]
 cases r with
 | nil=>exact hf
 | cons d r =>
  have:=hr d r rfl
  rw [sign_two,sign_one c d this.1 this.2];exact hf
theorem lx_sign2 {c d:UInt8} (h:sgn c=true) (hf:signF [c,d]=.tok 5 [c,d] 2):LX anyR [c,d] [(5,bs [c,d])]:=by
 have hb:blankB c=false:=by
  simp only [sgn,Bool.and_eq_true,Bool.not_eq_true'] at h
  exact h.2.2.2.2
 refine LX.tok hb (fun r hr=>?_)
 rw [List.singleton_append,lex1_sign h,sign_two];exact hf
theorem lx_open:LX mild [40] [(5,wOpen)]:=lx_sign (by decide) (by kernel_rfl)
theorem lx_shut:LX mild [41] [(5,wShut)]:=lx_sign (by decide) (by kernel_rfl)
theorem lx_minus:LX mild [45] [(5,wMinus)]:=lx_sign (by decide) (by kernel_rfl)
theorem lx_dot:LX mild [46] [(5,⟨#[46]⟩)]:=lx_sign (by decide) (by kernel_rfl)
theorem mild32 (r:List UInt8):mild (32::r):=calm_mild (calm32 r)
/-- a sign between blanks -/
theorem lx_op (j:Nat) (hj:j < 11):LX anyR (32::(tx (opS j)++[32])) [(5,opS j)]:=by
 have one:∀ {c:UInt8},sgn c=true→signF [c]=.tok 5 [c] 1→LX anyR (32::([c]++[32])) [(5,bs [c])]:=fun h hf =>
  LX.append (t1:=[32]) LX.blank (LX.append (lx_sign h hf) LX.blank (C2:=anyR) (fun r _=>mild32 r)) (C1:=anyR) (fun _ _=>trivial)
 have two:∀ {c d:UInt8},sgn c=true→signF [c,d]=.tok 5 [c,d] 2→LX anyR (32::([c,d]++[32])) [(5,bs [c,d])]:=fun h hf =>
  LX.append (t1:=[32]) LX.blank (LX.append (lx_sign2 h hf) LX.blank (C2:=anyR) (fun r _=>trivial)) (C1:=anyR) (fun _ _=>trivial)
 match j,hj with
 | 0,_ | 1,_ | 2,_ | 3,_ | 4,_ | 5,_ | 7,_ | 9,_=>exact one (by decide) (by kernel_rfl)
 | 6,_ | 8,_ | 10,_=>exact two (by decide) (by kernel_rfl)
 | n+11,h=>exact absurd h (by omega)
theorem digits_all (n:Nat):(digitsN n).all digB=true:=by
 induction n using digitsN.induct with
 | case1 n h =>
  rw [digitsN,if_pos h]
  simp only [List.all_cons,List.all_nil,Bool.and_true,digB_iff,dig_nat h];omega
 | case2 n h ih =>
  rw [digitsN,if_neg h]
  have:n % 10 < 10:=by omega
  simp only [List.all_append,ih,List.all_cons,List.all_nil,Bool.and_true,Bool.true_and,digB_iff,dig_nat this];omega
theorem digits_ne (n:Nat):digitsN n ≠ []:=by
 rw [digitsN];split<;>simp
theorem digits_head (n:Nat):(digitsN n).head?.map (·.toNat) ≠ some 48 ∨ n=0:=by
 induction n using digitsN.induct with
 | case1 n h =>
  rw [digitsN,if_pos h]
  rcases Nat.eq_zero_or_pos n with rfl | hp
  ·exact .inr rfl
  ·left
   simp only [List.head?_cons,Option.map_some,dig_nat h]
   intro hh;simp at hh;omega
 | case2 n h ih =>
  rw [digitsN,if_neg h]
  rcases ih with ih | ih
  ·left
   cases hd:digitsN (n / 10) with
   | nil=>exact (digits_ne _ hd).elim
   | cons c r=>rw [hd] at ih;simpa using ih
  ·omega
theorem digits_DigL (n:Nat):DigL false (digitsN n):=by
 refine ⟨digits_ne n,digits_all n,?_⟩
 rcases digits_head n with h | rfl
 ·exact .inl h
 ·exact .inr ⟨rfl,by rw [digitsN];rfl⟩
theorem valD_append (l:List UInt8) (c:UInt8):valD (l++[c])=10 * valD l+(c.toNat - 48):=by simp [valD]
theorem digits_val (n:Nat):valD (digitsN n)=n:=by
 induction n using digitsN.induct with
 | case1 n h =>
  rw [digitsN,if_pos h]
  simp only [valD,List.foldl_cons,List.foldl_nil,dig_nat h];omega
 | case2 n h ih =>
  have:n % 10 < 10:=by omega
  rw [digitsN,if_neg h,valD_append,ih,dig_nat this];omega
theorem hexV_D {d:Nat} (h:d < 16):hexV (hexD d)=some d:=by
 have:∀ d:Fin 16,hexV (hexD d.val)=some d.val:=by decide
 exact this ⟨d,h⟩
theorem esc_read (p:Nat) (c:UInt8) (out r:List UInt8):unqF p out (escB c++r)=unqF (p+(escB c).length) (out++[c]) r:=by
 have hc:=byte_lt c
 by_cases h1:c.toNat=39 ∨ c.toNat=92
 ·simp only [escB,if_pos h1,List.cons_append,List.nil_append,List.length_cons,List.length_nil]
  rw [unqF]
  have h92:(92:UInt8).toNat=92:=rfl
  simp only [h92,if_neg (by decide:¬ (92:Nat)=39),if_true,escR,if_pos h1]
  rfl
 ·by_cases h2:32≤c.toNat∧c.toNat≤126
  ·simp only [escB,if_neg h1,if_pos h2,List.cons_append,List.nil_append,List.length_cons,List.length_nil]
   have hp:plainB c=true:=by simp only [plainB,Bool.and_eq_true,decide_eq_true_eq];exact h2
   rw [unqF,if_neg (fun h=>h1 (.inl h)),if_neg (fun h=>h1 (.inr h)),if_pos hp]
  ·simp only [escB,if_neg h1,if_neg h2,List.cons_append,List.nil_append,List.length_cons,List.length_nil]
   have hp:plainB c=false:=by
    cases hp:plainB c with
    | false=>rfl
    | true=>simp only [plainB,Bool.and_eq_true,decide_eq_true_eq] at hp;exact (h2 hp).elim
   have e1:hexV (hexD (c.toNat / 16))=some (c.toNat / 16):=hexV_D (by omega)
   have e2:hexV (hexD (c.toNat % 16))=some (c.toNat % 16):=hexV_D (by omega)
   have e3:UInt8.ofNat (16 * (c.toNat / 16)+c.toNat % 16)=c:=by
    rw [Nat.div_add_mod];simp
   rw [unqF]
   have h92:(92:UInt8).toNat=92:=rfl
   have h120:(120:UInt8).toNat=120:=rfl
   simp only [h92,h120,if_neg (by decide:¬ (92:Nat)=39),if_true,escR,hexR,e1,e2,e3,hp,Bool.false_eq_true,if_false,if_neg (by decide:¬ ((120:Nat)=39 ∨ (120:Nat)=92)),if_neg (by decide:¬ (120:Nat) ≠ 120)]
   rfl
theorem quote_read:∀ (l:List UInt8) (p:Nat) (out r:List UInt8),out.length+l.length≤256→unqF p out (escT l++39::r)=.ok (out++l) (p+(escT l).length+1):=by
 intro l
 induction l with
 | nil =>
  intro p out r h
  have h39:(39:UInt8).toNat=39:=rfl
  simp only [escT,List.map_nil,List.flatten_nil,List.nil_append,List.length_nil,List.append_nil] at h ⊢
  rw [unqF,if_pos h39,if_neg (by omega)]
 | cons c l ih =>
  intro p out r h
  simp only [List.length_cons] at h
  have e:escT (c::l)=escB c++escT l:=by simp [escT]
  rw [e,List.append_assoc,esc_read,ih _ _ _ (by simp;omega),List.length_append]
  simp [Nat.add_assoc]
theorem lx_text {s:ByteArray} (h:s.size≤256):LX anyR (quoteT (tx s)) [(4,s)]:=by
 have hs:bs (tx s)=s:=bs_tx s
 have hl:(tx s).length=s.size:=size_list s
 rw [← hs,tx_bs]
 generalize tx s=w at hl
 refine LX.tok (by decide) (fun r _=>?_)
 have h39:(39:UInt8).toNat=39:=rfl
 have hq:unqF 1 [] (escT w++[39]++r)=.ok ([]++w) (1+(escT w).length+1):=by
  rw [List.append_assoc];exact quote_read w 1 [] r (by simp;omega)
 simp only [lex1,unq,h39,if_true,hq]
 simp [Nat.add_comm]
end Go.Hx
namespace Go.Hx
def kPar (x:Ex) (k:List KT) (need:Int):List KT:=if need≤levelX x then k else (5,wOpen)::(k++[(5,wShut)])
def kJoinR (w:ByteArray) (need:Int):List (Ex × List KT)→List KT
 | []=>[]
 | p::r=>(1,w)::(kPar p.1 p.2 need++kJoinR w need r)
def kJoinT (w:ByteArray) (need:Int):List (Ex × List KT)→List KT
 | []=>[]
 | p::r=>kPar p.1 p.2 need++kJoinR w need r
def valK (v:Vl):List KT :=
 if v.k=0 then [(1,sNULL)] else if v.k=1 then [(1,if v.n=1 then sTRUE else sFALSE)]
 else if v.k=2 then (if v.n < 0 then [(5,wMinus)] else [])++[(3,bs (digitsN v.n.natAbs))] else [(4,v.s)]
def bodyK (k:Int) (v:Vl) (var fld:ByteArray) (ps:List (Ex × List KT)):List KT :=
 if k=1 then valK v else if k=2 then [(2,var),(5,⟨#[46]⟩),(2,fld)]
 else if k=3 then (match ps with
  | p::_=>(5,wMinus)::(if numP p.1=true then (5,wOpen)::(kPar p.1 p.2 1++[(5,wShut)]) else kPar p.1 p.2 7)
  | []=>[])
 else if k=17 then kJoinT (rowW true) 2 ps
 else if k=16 then kJoinT (rowW false) 3 ps
 else if k=15 then (match ps with
  | p::_=>(1,wNOT)::kPar p.1 p.2 3
  | []=>[])
 else (match ps with
  | p::q::_=>kPar p.1 p.2 (need1 k)++((5,opS (k - 4).toNat)::kPar q.1 q.2 (need2 k))
  | _=>[])
mutual
def bareK:Ex→List KT
 | .mk k v var fld _ _ _ l=>bodyK k v var fld (bareKs l)
def bareKs:List Ex→List (Ex × List KT)
 | []=>[]
 | x::r=>(x,bareK x)::bareKs r
end
theorem bareK_eq (x:Ex):bareK x=bodyK x.k x.v x.var x.fld (bareKs x.l):=by cases x;simp [bareK,Ex.k,Ex.v,Ex.var,Ex.fld,Ex.l]
def exprK (x:Ex) (need:Int):List KT:=kPar x (bareK x) need
/-- it begins with what is no = and no > -/
def begM (t:List UInt8):Prop:=∃ c r,t=c::r∧c.toNat ≠ 61∧c.toNat ≠ 62
theorem begM.mild {t:List UInt8} (h:begM t) (r:List UInt8):mild (t++r):=by
 obtain ⟨c,t',rfl,h1,h2⟩:=h
 intro d r' e
 cases e;exact ⟨h1,h2⟩
theorem begM.append {t:List UInt8} (h:begM t) (r:List UInt8):begM (t++r):=by
 obtain ⟨c,t',rfl,h1,h2⟩:=h
 exact ⟨c,t'++r,rfl,h1,h2⟩
structure LB (t:List UInt8) (ks:List KT):Prop where
 lx:LX calm t ks
 beg:begM t
theorem lb_paren {t:List UInt8} {ks:List KT} (h:LB t ks):LB (40::(t++[41])) ((5,wOpen)::(ks++[(5,wShut)])) :=
 ⟨LX.append (t1:=[40]) lx_open (LX.append h.lx (lx_shut.weak (C':=calm) fun _ hr=>calm_mild hr) (fun r _=>calm41 r)) (fun r _=>by show mild ((t++[41])++r);rw [List.append_assoc];exact h.beg.mild _),⟨40,_,rfl,by decide,by decide⟩⟩
theorem lb_par {x:Ex} {t:List UInt8} {ks:List KT} (need:Int) (h:LB t ks):LB (parT x t need) (kPar x ks need):=by
 simp only [parT,kPar]
 split
 ·exact h
 ·exact lb_paren h
theorem lx_sep {w:List UInt8} (hw:w ≠ []) (h:w.all uppB=true) (hl:w.length≤32):LX anyR (32::(w++[32])) [(1,bs w)]:=by
 cases w with
 | nil=>exact (hw rfl).elim
 | cons c w =>
  exact LX.append (t1:=[32]) LX.blank (LX.append (lx_word h hl) LX.blank (C2:=anyR) (fun r _=>calm32 r)) (C1:=anyR) (fun _ _=>trivial)
theorem lx_OR:LX anyR sOR [(1,rowW true)]:=lx_sep (w:=[79,82]) (by decide) (by decide) (by decide)
theorem lx_AND:LX anyR sAND [(1,rowW false)]:=lx_sep (w:=[65,78,68]) (by decide) (by decide) (by decide)
theorem lx_NOT:LX anyR sNOT [(1,wNOT)]:=LX.append (t2:=[32]) (lx_word (c:=78) (w:=[79,84]) (by decide) (by decide)) LX.blank (C2:=anyR) (fun r _=>calm32 r)
theorem lb_join {sep:List UInt8} {w:ByteArray} (hs:LX anyR sep [(1,w)]) (h32:∃ s,sep=32::s) (need:Int) (l:List Ex) (h:∀ x ∈ l,LB (bareT x) (bareK x)) (hne:l ≠ []):LB (joinT sep need (bareTs l)) (kJoinT w need (bareKs l)):=by
 obtain ⟨s0,rfl⟩:=h32
 have hR:∀ r:List Ex,(∀ x ∈ r,LB (bareT x) (bareK x))→LX calm (joinR (32::s0) need (bareTs r)) (kJoinR w need (bareKs r))∧(∀ r',calm r'→calm (joinR (32::s0) need (bareTs r)++r')):=by
  intro r
  induction r with
  | nil=>intro _;exact ⟨by simp only [bareTs,bareKs,joinR,kJoinR];exact LX.nil,fun r' hr=>by simpa [bareTs,joinR] using hr⟩
  | cons y r ih =>
   intro hy
   obtain ⟨i1,i2⟩:=ih (fun z hz=>hy z (by simp [hz]))
   have hp:=lb_par (x:=y) need (hy y (by simp))
   simp only [bareTs,bareKs,joinR,kJoinR]
   refine ⟨?_,fun r' hr=>by rw [List.cons_append];exact calm32 _⟩
   exact LX.append (k1:=[(1,w)]) hs (LX.append hp.lx i1 i2) (fun _ _=>trivial)
 cases l with
 | nil=>exact (hne rfl).elim
 | cons y r =>
  obtain ⟨i1,i2⟩:=hR r (fun z hz=>h z (by simp [hz]))
  have hp:=lb_par (x:=y) need (h y (by simp))
  simp only [bareTs,bareKs,joinT,kJoinT]
  exact ⟨LX.append hp.lx i1 i2,hp.beg.append _⟩
theorem lb_val {v:Vl} (hv:vr v) (hr:rightV v=true):LB (valT v) (valK v):=by
 rw [rightV_eq hv] at hr
 simp only [valT,valK]
 by_cases h0:v.k=0
 ·rw [if_pos h0,if_pos h0]
  exact ⟨lx_word (c:=78) (w:=[85,76,76]) (by decide) (by decide),⟨78,_,rfl,by decide,by decide⟩⟩
 rw [if_neg h0,if_neg h0]
 by_cases h1:v.k=1
 ·rw [if_pos h1,if_pos h1]
  split
  ·exact ⟨lx_word (c:=84) (w:=[82,85,69]) (by decide) (by decide),⟨84,_,rfl,by decide,by decide⟩⟩
  ·exact ⟨lx_word (c:=70) (w:=[65,76,83,69]) (by decide) (by decide),⟨70,_,rfl,by decide,by decide⟩⟩
 rw [if_neg h1,if_neg h1]
 by_cases h2:v.k=2
 ·rw [if_pos h2,if_pos h2]
  have hn:(digitsN v.n.natAbs).length≤19:=digits_len20 _ (by have:=hv.1;have:=hv.2;omega)
  have hi:=lx_int (digits_DigL v.n.natAbs) hn
  have hb:begM (digitsN v.n.natAbs):=by
   have ha:=digits_all v.n.natAbs
   cases hd:digitsN v.n.natAbs with
   | nil=>exact (digits_ne _ hd).elim
   | cons c r =>
    rw [hd] at ha
    simp only [List.all_cons,Bool.and_eq_true] at ha
    have:=digB_iff.1 ha.1
    exact ⟨c,r,rfl,by omega,by omega⟩
  simp only [numT]
  split
  ·exact ⟨LX.append lx_minus hi (fun r _=>hb.mild r),⟨45,_,rfl,by decide,by decide⟩⟩
  ·exact ⟨hi,hb⟩
 rw [if_neg h2,if_neg h2]
 rw [if_neg h0,if_neg h1,if_neg h2] at hr
 split at hr
 ·simp only [Bool.and_eq_true,decide_eq_true_eq] at hr
  exact ⟨(lx_text (by omega)).weak fun _ _=>trivial,⟨39,_,rfl,by decide,by decide⟩⟩
 ·cases hr
theorem name_beg {s:ByteArray} (h:nameL (tx s)=true):begM (tx s):=by
 cases hs:tx s with
 | nil=>rw [hs] at h;cases h
 | cons c r =>
  rw [hs] at h
  simp only [nameL,Bool.and_eq_true] at h
  have:=low_iff.1 h.1
  exact ⟨c,r,rfl,by omega,by omega⟩
theorem len_two {α:Type} {l:List α} (h:l.length=2):∃ y z,l=[y,z]:=by
 match l,h with
 | [y,z],_=>exact ⟨y,z,rfl⟩
/-- what a node that may be is like -/
theorem right_cases {x:Ex} (h:rightP x=true) :
  (x.k=1∧x.l=[]∧rightV x.v=true∧x.var=e0∧x.fld=e0) ∨
  (x.k=2∧x.l=[]∧x.v=nullV∧nameL (tx x.var)=true∧nameL (tx x.fld)=true) ∨
  (bareP x=true∧(((x.k=3 ∨ x.k=15)∧∃ y,x.l=[y]) ∨ (4≤x.k∧x.k≤14∧∃ y z,x.l=[y,z]) ∨ ((x.k=16 ∨ x.k=17)∧2≤x.l.length∧∀ y ∈ x.l,y.k ≠ x.k))):=by
 simp only [rightP] at h
 split at h
 ·rename_i hk
  simp only [Bool.and_eq_true,decide_eq_true_eq] at h
  exact .inl ⟨hk,List.eq_nil_of_length_eq_zero h.1,h.2.1,h.2.2.1,h.2.2.2⟩
 ·split at h
  ·rename_i hk
   simp only [Bool.and_eq_true,decide_eq_true_eq] at h
   exact .inr (.inl ⟨hk,List.eq_nil_of_length_eq_zero h.1,h.2.1,h.2.2.1,h.2.2.2⟩)
  ·split at h
   ·cases h
   ·rename_i hb
    have hb:bareP x=true:=by simpa using hb
    refine .inr (.inr ⟨hb,?_⟩)
    split at h
    ·rename_i hk
     simp only [decide_eq_true_eq] at h
     exact .inl ⟨hk,List.length_eq_one_iff.1 h⟩
    ·split at h
     ·rename_i hk
      simp only [decide_eq_true_eq] at h
      exact .inr (.inl ⟨hk.1,hk.2,len_two h⟩)
     ·simp only [isRowP,Bool.and_eq_true,Bool.or_eq_true,decide_eq_true_eq,Bool.not_eq_true',List.any_eq_false] at h
      exact .inr (.inr ⟨h.1,h.2.1,h.2.2⟩)
theorem lb_bare (x:Ex) (hv:allX vX x) (hr:allR x=true):LB (bareT x) (bareK x):=by
 induction x using Ex.ind with
 | h x ih =>
  have hv':=(allX_eq _ _).1 hv
  have hr':=hr
  rw [allR_eq,Bool.and_eq_true] at hr'
  have ih:∀ y ∈ x.l,LB (bareT y) (bareK y):=fun y hy=>ih y hy (allXs_mem hv'.2 hy) (allRs_mem hr'.2 hy)
  rw [bareT_eq,bareK_eq]
  rcases right_cases hr'.1 with ⟨hk,_,hval,_⟩ | ⟨hk,_,_,hn1,hn2⟩ | ⟨_,⟨hk,y,hl⟩ | ⟨h4,h14,y,z,hl⟩ | ⟨hk,hlen,_⟩⟩
  ·simp only [bodyT,bodyK,hk,if_true]
   exact lb_val hv'.1 hval
  ·simp only [bodyT,bodyK,hk,if_true,if_neg (by decide:¬ (2:Int)=1)]
   have h46:LX anyR [46] [(5,⟨#[46]⟩)]→True:=fun _=>trivial
   refine ⟨LX.append (k1:=[(2,x.var)]) (lx_name hn1) (LX.append (t1:=[46]) (k1:=[(5,⟨#[46]⟩)]) lx_dot (lx_name hn2) (fun r _=>(name_beg hn2).mild r)) (fun r _=>?_),(name_beg hn1).append _⟩
   exact calm_cons _ (by decide) (by decide) (by decide) (by decide)
  ·have hy:=ih y (by rw [hl];simp)
   rcases hk with hk | hk
   ·simp only [bodyT,bodyK,hk,hl,if_true,if_neg (by decide:¬ (3:Int)=1),if_neg (by decide:¬ (3:Int)=2),bareTs,bareKs]
    refine ⟨?_,⟨45,_,rfl,by decide,by decide⟩⟩
    have hin:LB (if numP y=true then 40::(parT y (bareT y) 1++[41]) else parT y (bareT y) 7) (if numP y=true then (5,wOpen)::(kPar y (bareK y) 1++[(5,wShut)]) else kPar y (bareK y) 7):=by
     split
     ·exact lb_paren (lb_par 1 hy)
     ·exact lb_par 7 hy
    exact LX.append (t1:=[45]) lx_minus hin.lx (fun r _=>hin.beg.mild r)
   ·simp only [bodyT,bodyK,hk,hl,if_true,if_neg (by decide:¬ (15:Int)=1),if_neg (by decide:¬ (15:Int)=2),if_neg (by decide:¬ (15:Int)=3),if_neg (by decide:¬ (15:Int)=17),if_neg (by decide:¬ (15:Int)=16),bareTs,bareKs]
    have hp:=lb_par (x:=y) 3 hy
    exact ⟨LX.append (k1:=[(1,wNOT)]) lx_NOT hp.lx (fun _ _=>trivial),⟨78,_,rfl,by decide,by decide⟩⟩
  ·have hy:=lb_par (x:=y) (need1 x.k) (ih y (by rw [hl];simp))
   have hz:=lb_par (x:=z) (need2 x.k) (ih z (by rw [hl];simp))
   have hop:=lx_op (x.k - 4).toNat (by omega)
   simp only [bodyT,bodyK,hl,bareTs,bareKs,if_neg (by omega:¬ x.k=1),if_neg (by omega:¬ x.k=2),if_neg (by omega:¬ x.k=3),if_neg (by omega:¬ x.k=17),if_neg (by omega:¬ x.k=16),if_neg (by omega:¬ x.k=15)]
   exact ⟨LX.append hy.lx (LX.append (k1:=[(5,opS (x.k - 4).toNat)]) hop hz.lx (fun _ _=>trivial)) (fun r _=>by simp only [List.cons_append];exact calm32 _),hy.beg.append _⟩
  ·have hne:x.l ≠ []:=fun e=>by rw [e] at hlen;simp at hlen
   rcases hk with hk | hk
   ·simp only [bodyT,bodyK,hk,if_true,if_neg (by decide:¬ (16:Int)=1),if_neg (by decide:¬ (16:Int)=2),if_neg (by decide:¬ (16:Int)=3),if_neg (by decide:¬ (16:Int)=17)]
    exact lb_join lx_AND ⟨_,rfl⟩ 3 x.l ih hne
   ·simp only [bodyT,bodyK,hk,if_true,if_neg (by decide:¬ (17:Int)=1),if_neg (by decide:¬ (17:Int)=2),if_neg (by decide:¬ (17:Int)=3)]
    exact lb_join lx_OR ⟨_,rfl⟩ 2 x.l ih hne
theorem lb_expr (x:Ex) (hv:allX vX x) (hr:allR x=true) (need:Int):LB (exprT x need) (exprK x need):=lb_par need (lb_bare x hv hr)
end Go.Hx
namespace Go.Hx
/-- what is read where so much is asked -/
def goal (n:Int):Gl:=if n≤1 then .row true else if n=2 then .row false else if n=3 then .not else if n=4 then .cmp else if n=5 then .left true else if n=6 then .left false else if n=7 then .neg else .last
/-- nothing comes that would go on with it -/
def stopAt (n:Int) (r:List Tk):Prop :=
 (n≤6→opOf 6 8 r=none)∧(n≤5→opOf 4 5 r=none)∧(n≤4→opOf 9 14 r=none)∧(n≤2→nextIs 1 (rowW false) r=false)∧(n≤1→nextIs 1 (rowW true) r=false)
theorem stopAt.mono {n m:Int} {r:List Tk} (h:stopAt n r) (hm:n≤m):stopAt m r :=
 ⟨fun g=>h.1 (by omega),fun g=>h.2.1 (by omega),fun g=>h.2.2.1 (by omega),fun g=>h.2.2.2.1 (by omega),fun g=>h.2.2.2.2 (by omega)⟩
theorem join_one {k:Int} {x:Ex} (h:x.k ≠ k):joinE k [x]=x:=by simp [joinE,partsJ,h]
theorem down1 {o:Nat} {t r:List Tk} {x:Ex} {m:Int} (h1:1≤m) (h7:m≤7) (h:P (goal (m+1)) o t (.ok x r)) (hs:stopAt m r) (hm:m=7→nextIs 5 wMinus t=false) (hn:m=3→nextIs 1 wNOT t=false)
  (h16:m=2→x.k ≠ 16) (h17:m=1→x.k ≠ 17):P (goal m) o t (.ok x r):=by
 have:m=1 ∨ m=2 ∨ m=3 ∨ m=4 ∨ m=5 ∨ m=6 ∨ m=7:=by omega
 rcases this with rfl | rfl | rfl | rfl | rfl | rfl | rfl
 ·have hj:=P.more_no (b:=true) (l:=[x]) (o:=o) (hs.2.2.2.2 (by omega))
  rw [show rowK true=17 from rfl,join_one (h17 rfl)] at hj
  exact P.row_ok (b:=true) h hj
 ·have hj:=P.more_no (b:=false) (l:=[x]) (o:=o) (hs.2.2.2.1 (by omega))
  rw [show rowK false=16 from rfl,join_one (h16 rfl)] at hj
  exact P.row_ok (b:=false) h hj
 ·exact .not_no (hn rfl) h
 ·exact .cmp_no h (hs.2.2.1 (by omega))
 ·exact P.left_ok (b:=true) h (.lmore_no (hs.2.1 (by omega)))
 ·exact P.left_ok (b:=false) h (.lmore_no (hs.1 (by omega)))
 ·exact .neg_no (hm rfl) h
theorem down {o:Nat} {t r:List Tk} {x:Ex}:∀ (d:Nat) (n lv:Int),lv=n+d→1≤n→lv≤8→P (goal lv) o t (.ok x r)→stopAt n r→(lv=8→n≤7→nextIs 5 wMinus t=false)→(4≤lv→n≤3→nextIs 1 wNOT t=false) →
  (3≤lv→n≤2→x.k ≠ 16)→(2≤lv→n≤1→x.k ≠ 17)→P (goal n) o t (.ok x r):=by
 intro d
 induction d with
 | zero => intro n lv e _ _ h _ _ _ _ _; have : lv = n := by omega
           subst this;exact h
 | succ d ih =>
  intro n lv e h1 h8 h hs hm hn h16 h17
  have hp:P (goal (lv - 1)) o t (.ok x r):=by
   have e':lv - 1+1=lv:=by omega
   refine down1 (m:=lv - 1) (by omega) (by omega) (by rw [e'];exact h) (hs.mono (by omega)) (fun g=>hm (by omega) (by omega)) (fun g=>hn (by omega) (by omega)) (fun g=>h16 (by omega) (by omega)) (fun g=>h17 (by omega) (by omega))
  exact ih n (lv - 1) (by omega) h1 (by omega) hp hs (fun g=>by omega) (fun g1 g2=>hn (by omega) g2) (fun g1 g2=>h16 (by omega) g2) (fun g1 g2=>h17 (by omega) g2)
theorem op_tab (k:Int) (h4:4≤k) (h14:k≤14):opI 6 8 (opS (k - 4).toNat) 11 0=(if 6≤k∧k≤8 then some k else none)∧opI 4 5 (opS (k - 4).toNat) 11 0=(if 4≤k∧k≤5 then some k else none) ∧
  opI 9 14 (opS (k - 4).toNat) 11 0=(if 9≤k∧k≤14 then some k else none):=by
 have:k=4 ∨ k=5 ∨ k=6 ∨ k=7 ∨ k=8 ∨ k=9 ∨ k=10 ∨ k=11 ∨ k=12 ∨ k=13 ∨ k=14:=by omega
 rcases this with rfl | rfl | rfl | rfl | rfl | rfl | rfl | rfl | rfl | rfl | rfl<;>exact ⟨by kernel_rfl,by kernel_rfl,by kernel_rfl⟩
theorem op_of {t:Tk} {k lo hi:Int} (h4:4≤k) (h14:k≤14) (ht:kt t=(5,opS (k - 4).toNat)) (hl:(lo=6∧hi=8) ∨ (lo=4∧hi=5) ∨ (lo=9∧hi=14)) (r:List Tk) :
  opOf lo hi (t::r)=if lo≤k∧k≤hi then some k else none:=by
 have h1:t.k=5:=congrArg Prod.fst ht
 have h2:t.s=opS (k - 4).toNat:=congrArg Prod.snd ht
 have tab:=op_tab k h4 h14
 simp only [opOf,h1,if_true,h2]
 rcases hl with ⟨rfl,rfl⟩ | ⟨rfl,rfl⟩ | ⟨rfl,rfl⟩
 ·exact tab.1
 ·exact tab.2.1
 ·exact tab.2.2
theorem next_k {t:Tk} {k:Int} {s:ByteArray} (h:t.k ≠ k) (r:List Tk):nextIs k s (t::r)=false:=by simp [nextIs,h]
theorem next_s {t:Tk} {k:Int} {s:ByteArray} (h:t.s ≠ s) (r:List Tk):nextIs k s (t::r)=false:=by simp [nextIs,h]
theorem next_t {t:Tk} {k:Int} {s:ByteArray} (h:kt t=(k,s)) (r:List Tk):nextIs k s (t::r)=true:=by
 have h1:t.k=k:=congrArg Prod.fst h
 have h2:t.s=s:=congrArg Prod.snd h
 simp [nextIs,h1,h2]
theorem op_none {t:Tk} {lo hi:Int} (h:t.k ≠ 5) (r:List Tk):opOf lo hi (t::r)=none:=by simp [opOf,h]
theorem stop_nosign {t:Tk} (h:t.k ≠ 5) (h1:t.k ≠ 1) (r:List Tk) (n:Int):stopAt n (t::r) :=
 ⟨fun _=>op_none h r,fun _=>op_none h r,fun _=>op_none h r,fun _=>next_k h1 r,fun _=>next_k h1 r⟩
theorem stop_shut {t:Tk} (h:kt t=(5,wShut)) (r:List Tk) (n:Int):stopAt n (t::r):=by
 have h1:t.k=5:=congrArg Prod.fst h
 have h2:t.s=wShut:=congrArg Prod.snd h
 have a1:opI 6 8 wShut 11 0=none:=by kernel_rfl
 have a2:opI 4 5 wShut 11 0=none:=by kernel_rfl
 have a3:opI 9 14 wShut 11 0=none:=by kernel_rfl
 refine ⟨fun _=>?_,fun _=>?_,fun _=>?_,fun _=>next_k (by omega) r,fun _=>next_k (by omega) r⟩
 ·simp only [opOf,h1,if_true,h2,a1]
 ·simp only [opOf,h1,if_true,h2,a2]
 ·simp only [opOf,h1,if_true,h2,a3]
theorem stop_op {t:Tk} {k:Int} (h4:4≤k) (h14:k≤14) (ht:kt t=(5,opS (k - 4).toNat)) (r:List Tk) {n:Int} (hn:(9≤k∧5≤n) ∨ (k≤5∧6≤n) ∨ (6≤k∧7≤n)):stopAt n (t::r):=by
 have h1:t.k=5:=congrArg Prod.fst ht
 refine ⟨fun g=>?_,fun g=>?_,fun g=>?_,fun _=>next_k (by omega) r,fun _=>next_k (by omega) r⟩
 ·rw [op_of h4 h14 ht (.inl ⟨rfl,rfl⟩),if_neg (by omega)]
 ·rw [op_of h4 h14 ht (.inr (.inl ⟨rfl,rfl⟩)),if_neg (by omega)]
 ·rw [op_of h4 h14 ht (.inr (.inr ⟨rfl,rfl⟩)),if_neg (by omega)]
theorem stop_word {t:Tk} {b:Bool} (h:kt t=(1,rowW b)) (r:List Tk):stopAt (if b=true then 2 else 3) (t::r):=by
 have h1:t.k=1:=congrArg Prod.fst h
 have h2:t.s=rowW b:=congrArg Prod.snd h
 refine ⟨fun _=>op_none (by omega) r,fun _=>op_none (by omega) r,fun _=>op_none (by omega) r,fun g=>?_,fun g=>?_⟩
 ·cases b
  ·simp at g
  ·exact next_s (by rw [h2];decide) r
 ·cases b<;>simp at g
theorem level_rng (x:Ex):1≤levelX x∧levelX x≤8:=by
 simp only [levelX]
 repeat' split
 all_goals omega
theorem level_17 {x:Ex} (h:2≤levelX x):x.k ≠ 17:=fun hk=>by simp only [levelX,hk,if_true] at h;omega
theorem level_16 {x:Ex} (h:3≤levelX x):x.k ≠ 16:=fun hk=>by
 simp only [levelX,hk,if_true,if_neg (by decide:¬ (16:Int)=17)] at h;omega
theorem level_big {x:Ex} (h4:4≤x.k) (h14:x.k≤14):levelX x=if 9≤x.k then 4 else if 6≤x.k then 6 else 5:=by
 simp only [levelX,if_neg (by omega:¬ x.k=17),if_neg (by omega:¬ x.k=16),if_neg (by omega:¬ x.k=15),h4,if_true]
theorem level_3 {x:Ex} (h:x.k=3):levelX x=7:=by
 simp only [levelX,h,if_neg (by decide:¬ (3:Int)=17),if_neg (by decide:¬ (3:Int)=16),if_neg (by decide:¬ (3:Int)=15),if_neg (by decide:¬ (9:Int)≤3),if_neg (by decide:¬ (6:Int)≤3),if_neg (by decide:¬ (4:Int)≤3),if_true]
theorem level_15 {x:Ex} (h:x.k=15):levelX x=3:=by
 simp only [levelX,h,if_neg (by decide:¬ (15:Int)=17),if_neg (by decide:¬ (15:Int)=16),if_true]
theorem level_low {x:Ex} (h:x.k < 3):levelX x=if numK x && decide (x.v.n < 0) then 7 else 8:=by
 simp only [levelX,if_neg (by omega:¬ x.k=17),if_neg (by omega:¬ x.k=16),if_neg (by omega:¬ x.k=15),if_neg (by omega:¬ 9≤x.k),if_neg (by omega:¬ 6≤x.k),if_neg (by omega:¬ 4≤x.k),if_neg (by omega:¬ x.k=3)]
theorem level_r16 {x:Ex} (h:x.k=16):levelX x=2:=by
 simp only [levelX,h,if_neg (by decide:¬ (16:Int)=17),if_true]
theorem level_r17 {x:Ex} (h:x.k=17):levelX x=1:=by
 simp only [levelX,h,if_true]
structure HB (x:Ex) (k:List KT) (lv:Int):Prop where
 hd:∃ k0 ks,k=k0::ks∧(4≤lv→k0 ≠ (1,wNOT))∧(lv=8→k0 ≠ (5,wMinus))∧(7≤lv→numP x=false→k0.1 ≠ 3)
theorem hb_par {x:Ex} {k:List KT} (h:HB x k (levelX x)) (need:Int):∃ k0 ks,kPar x k need=k0::ks∧(4≤need→k0 ≠ (1,wNOT))∧(7≤need→numP x=false→k0.1 ≠ 3):=by
 simp only [kPar]
 split
 ·rename_i hn
  obtain ⟨k0,ks,e,h1,h2,h3⟩:=h.hd
  exact ⟨k0,ks,e,fun g=>h1 (by omega),fun g=>h3 (by omega)⟩
 ·exact ⟨_,_,rfl,fun _ h=>absurd (congrArg Prod.fst h) (by decide:¬ (5:Int)=1),fun _ _=>(by decide:(5:Int) ≠ 3)⟩
theorem hb_bare (x:Ex) (hr:allR x=true):HB x (bareK x) (levelX x):=by
 induction x using Ex.ind with
 | h x ih =>
  have hr':=hr
  rw [allR_eq,Bool.and_eq_true] at hr'
  have ih:∀ y ∈ x.l,HB y (bareK y) (levelX y):=fun y hy=>ih y hy (allRs_mem hr'.2 hy)
  rw [bareK_eq]
  rcases right_cases hr'.1 with ⟨hk,_,hval,_⟩ | ⟨hk,_,_,hn1,hn2⟩ | ⟨_,⟨hk,y,hl⟩ | ⟨h4,h14,y,z,hl⟩ | ⟨hk,hlen,_⟩⟩
  ·simp only [bodyK,hk,if_true,valK]
   split
   ·exact ⟨_,_,rfl,fun _=>by decide,fun _=>by decide,fun _ _=>by decide⟩
   ·split
    ·split
     ·exact ⟨_,_,rfl,fun _=>by decide,fun _=>by decide,fun _ _=>by decide⟩
     ·exact ⟨_,_,rfl,fun _=>by decide,fun _=>by decide,fun _ _=>by decide⟩
    ·split
     ·rename_i hv
      have hnk:numK x=true:=by simp [numK,hk,hv]
      rw [level_low (by omega),hnk]
      split
      ·rename_i hneg
       refine ⟨_,_,rfl,fun _=>?_,fun g=>?_,fun _ _=>?_⟩
       ·intro h;cases h
       ·simp [hneg] at g
       ·show (5:Int) ≠ 3;omega
      ·rename_i hneg
       refine ⟨_,_,rfl,fun _ h=>?_,fun _ h=>?_,fun _ g=>?_⟩
       ·exact absurd (congrArg Prod.fst h) (by decide:¬ (3:Int)=1)
       ·exact absurd (congrArg Prod.fst h) (by decide:¬ (3:Int)=5)
       ·simp only [numP,hnk,Bool.true_and,decide_eq_false_iff_not] at g;omega
     ·exact ⟨_,_,rfl,fun _ h=>absurd (congrArg Prod.fst h) (by decide:¬ (4:Int)=1),fun _ h=>absurd (congrArg Prod.fst h) (by decide:¬ (4:Int)=5),fun _ _=>(by decide:(4:Int) ≠ 3)⟩
  ·simp only [bodyK,hk,if_true,if_neg (by decide:¬ (2:Int)=1)]
   exact ⟨_,_,rfl,fun _ h=>absurd (congrArg Prod.fst h) (by decide:¬ (2:Int)=1),fun _ h=>absurd (congrArg Prod.fst h) (by decide:¬ (2:Int)=5),fun _ _=>(by decide:(2:Int) ≠ 3)⟩
  ·rcases hk with hk | hk
   ·simp only [bodyK,hk,hl,if_true,if_neg (by decide:¬ (3:Int)=1),if_neg (by decide:¬ (3:Int)=2),bareKs]
    rw [level_3 hk]
    exact ⟨_,_,rfl,fun _ h=>absurd (congrArg Prod.fst h) (by decide:¬ (5:Int)=1),fun g=>by omega,fun _ _=>(by decide:(5:Int) ≠ 3)⟩
   ·simp only [bodyK,hk,hl,if_true,if_neg (by decide:¬ (15:Int)=1),if_neg (by decide:¬ (15:Int)=2),if_neg (by decide:¬ (15:Int)=3),if_neg (by decide:¬ (15:Int)=17),if_neg (by decide:¬ (15:Int)=16),bareKs]
    rw [level_15 hk]
    exact ⟨_,_,rfl,fun g=>by omega,fun g=>by omega,fun g=>by omega⟩
  ·obtain ⟨k0,ks,e,h1,_⟩:=hb_par (ih y (by rw [hl];simp)) (need1 x.k)
   simp only [bodyK,hl,bareKs,if_neg (by omega:¬ x.k=1),if_neg (by omega:¬ x.k=2),if_neg (by omega:¬ x.k=3),if_neg (by omega:¬ x.k=17),if_neg (by omega:¬ x.k=16),if_neg (by omega:¬ x.k=15)]
   rw [level_big h4 h14,e]
   refine ⟨k0,_,rfl,fun _=>h1 ?_,fun g=>?_,fun g=>?_⟩
   ·simp only [need1]
    split
    ·omega
    ·split<;>omega
   ·split at g
    ·omega
    ·split at g<;>omega
   ·split at g
    ·omega
    ·split at g<;>omega
  ·have h2:levelX x≤2:=by
    rcases hk with hk | hk
    ·rw [level_r16 hk];omega
    ·rw [level_r17 hk];omega
   cases hl:x.l with
   | nil=>rw [hl] at hlen;simp at hlen
   | cons y r =>
    rcases hk with hk | hk
    ·obtain ⟨k0,ks,e,_⟩:=hb_par (ih y (by rw [hl];simp)) 3
     simp only [bodyK,hk,if_true,if_neg (by decide:¬ (16:Int)=1),if_neg (by decide:¬ (16:Int)=2),if_neg (by decide:¬ (16:Int)=3),if_neg (by decide:¬ (16:Int)=17),bareKs,kJoinT,e]
     exact ⟨_,_,rfl,fun g=>by omega,fun g=>by omega,fun g=>by omega⟩
    ·obtain ⟨k0,ks,e,_⟩:=hb_par (ih y (by rw [hl];simp)) 2
     simp only [bodyK,hk,if_true,if_neg (by decide:¬ (17:Int)=1),if_neg (by decide:¬ (17:Int)=2),if_neg (by decide:¬ (17:Int)=3),bareKs,kJoinT,e]
     exact ⟨_,_,rfl,fun g=>by omega,fun g=>by omega,fun g=>by omega⟩
end Go.Hx
namespace Go.Hx
def leftLv (b:Bool):Int:=if b=true then 5 else 6
/-- a node's tokens are read as it -/
structure PBs (x:Ex):Prop where
 bare:∀ (l1 r:List Tk) (o:Nat),l1.map kt=bareK x→o+2 * sizeX x≤201→stopAt (levelX x) r→P (goal (levelX x)) o (l1++r) (.ok (norm x) r)
 gen:∀ b,levelX x=leftLv b→∀ (l1 r:List Tk) (o:Nat) (R:PR),l1.map kt=bareK x→o+2 * sizeX x≤201→stopAt (leftLv b+1) r→P (.lmore b (norm x)) o r R→P (.left b) o (l1++r) R
theorem next_of {t:Tk} {k0:KT} {k:Int} {s:ByteArray} (h:kt t=k0) (hn:k0 ≠ (k,s)) (r:List Tk):nextIs k s (t::r)=false:=by
 cases hx:nextIs k s (t::r) with
 | false=>rfl
 | true =>
  have:=nextIs_cons hx
  exact (hn (by rw [← h];simp [kt,this.1,this.2])).elim
theorem lift_bare {x:Ex} (hr:allR x=true) (h:PBs x) {need:Int} (h1:1≤need) (hn:need≤levelX x) (l1 r:List Tk) (o:Nat) (hl:l1.map kt=bareK x) (ho:o+2 * sizeX x≤201) (hs:stopAt need r) :
  P (goal need) o (l1++r) (.ok (norm x) r):=by
 obtain ⟨k0,ks,e,g1,g2,_⟩:=(hb_bare x hr).hd
 have hb:=h.bare l1 r o hl ho (hs.mono hn)
 rw [e] at hl
 obtain ⟨t,l',rfl,ht,_⟩:=List.map_eq_cons_iff.1 hl
 refine down (levelX x - need).toNat need (levelX x) (by omega) h1 (level_rng x).2 hb hs (fun g _=>?_) (fun g _=>?_) (fun g _=>?_) (fun g _=>?_)
 ·exact next_of ht (g2 g) _
 ·exact next_of ht (g1 g) _
 ·rw [norm_k];exact level_16 g
 ·rw [norm_k];exact level_17 g
theorem pl_of {x:Ex} (hr:allR x=true) (h:PBs x) {need:Int} (h1:1≤need) (h7:need≤7) (l1 r:List Tk) (o:Nat) (hl:l1.map kt=exprK x need) (ho:o+2 * sizeX x≤200) (hs:stopAt need r) :
  P (goal need) o (l1++r) (.ok (norm x) r):=by
 simp only [exprK,kPar] at hl
 split at hl
 ·rename_i hn
  exact lift_bare hr h h1 hn l1 r o hl (by omega) hs
 ·rename_i hn
  obtain ⟨a,l2,rfl,ha,hl2⟩:=List.map_eq_cons_iff.1 hl
  obtain ⟨l3,l4,rfl,h3,h4⟩:=List.map_eq_append_iff.1 hl2
  obtain ⟨b,l5,rfl,hb,h5⟩:=List.map_eq_cons_iff.1 h4
  have h5:l5=[]:=List.map_eq_nil_iff.1 h5
  subst h5
  have inner:P (goal 1) (o+1) (l3++(b::r)) (.ok (norm x) (b::r)):=lift_bare hr h (by omega) (level_rng x).1 l3 (b::r) (o+1) h3 (by omega) (stop_shut hb r 1)
  have hx1:=one_le_sizeX x
  have hl:P (goal 8) o (a::(l3++(b::r))) (.ok (norm x) r):=.last_ok (next_t ha _) (by omega) inner (next_t hb _)
  have e:a::(l3++[b])++r=a::(l3++(b::r)):=by simp
  rw [e]
  refine down (8 - need).toNat need 8 (by omega) h1 (by omega) hl hs (fun _ _=>?_) (fun _ _=>?_) (fun _ g=>?_) (fun _ g=>?_)
  ·exact next_of ha (fun h=>absurd (congrArg Prod.snd h) (by decide)) _
  ·exact next_of ha (fun h=>absurd (congrArg Prod.fst h) (by decide:¬ (5:Int)=1)) _
  ·rw [norm_k];intro hk;have:=level_r16 hk;omega
  ·have:=(level_rng x).1;omega
def needR (b:Bool):Int:=if b=true then 2 else 3
theorem tail_stop {b:Bool} {l:List (Ex × List KT)} {l3 r:List Tk} (hl:l3.map kt=kJoinR (rowW b) (needR b) l) (hs:stopAt (needR b) r):stopAt (needR b) (l3++r):=by
 cases l with
 | nil =>
  have:l3=[]:=List.map_eq_nil_iff.1 hl
  subst this;exact hs
 | cons p l =>
  obtain ⟨t,l',rfl,ht,_⟩:=List.map_eq_cons_iff.1 hl
  exact stop_word ht _
theorem rowP_goal (b:Bool):rowP b=goal (needR b):=by cases b<;>rfl
theorem leftP_goal (b:Bool):leftP b=goal (leftLv b+1):=by cases b<;>rfl
theorem left_goal (b:Bool):Gl.left b=goal (leftLv b):=by cases b<;>rfl
theorem more_all (b:Bool):∀ (rest acc:List Ex) (l1 r:List Tk) (o:Nat),(∀ y ∈ rest,allR y=true∧PBs y)→l1.map kt=kJoinR (rowW b) (needR b) (bareKs rest)→o+2 * sizeXs rest≤200→stopAt (needR b) r→nextIs 1 (rowW b) r=false →
  P (.more b acc) o (l1++r) (.ok (joinE (rowK b) (acc++rest.map norm)) r):=by
 intro rest
 induction rest with
 | nil =>
  intro acc l1 r o _ hl _ _ hn
  have:l1=[]:=List.map_eq_nil_iff.1 hl
  subst this
  rw [List.map_nil,List.append_nil]
  exact .more_no hn
 | cons y rest ih =>
  intro acc l1 r o hy hl ho hs hn
  simp only [bareKs,kJoinR] at hl
  simp only [sizeXs] at ho
  obtain ⟨t,l2,rfl,ht,hl2⟩:=List.map_eq_cons_iff.1 hl
  obtain ⟨l3,l4,rfl,h3,h4⟩:=List.map_eq_append_iff.1 hl2
  have hp:=pl_of (need:=needR b) (hy y (by simp)).1 (hy y (by simp)).2 (by cases b<;>decide) (by cases b<;>decide) l3 (l4++r) o h3 (by omega) (tail_stop h4 hs)
  rw [← rowP_goal] at hp
  have hm:=ih (acc++[norm y]) l4 r o (fun z hz=>hy z (by simp [hz])) h4 (by omega) hs hn
  have e:t::(l3++l4)++r=t::(l3++(l4++r)):=by simp
  have e2:acc++(y::rest).map norm=acc++[norm y]++rest.map norm:=by simp
  rw [e,e2]
  exact .more_ok (next_t ht _) hp hm
theorem parts_id {k:Int}:∀ {l:List Ex},(∀ y ∈ l,y.k ≠ k)→partsJ k l=l
 | [],_=>rfl
 | y::l,h=>by rw [parts_cons,if_neg (h y (by simp)),parts_id fun z hz=>h z (by simp [hz])];rfl
theorem join_id {k:Int} {l:List Ex} (h:∀ y ∈ l,y.k ≠ k) (h2:2≤l.length):joinE k l=nd k nullV e0 e0 l:=by
 simp only [joinE,parts_id h]
 match l,h2 with
 | _::_::_,_=>rfl
theorem bare_e0 {x:Ex} (h:bareP x=true):x.v=nullV∧x.var=e0∧x.fld=e0:=by
 simpa [bareP,Bool.and_eq_true,decide_eq_true_eq] using h
/-- a row -/
theorem row_all (b:Bool) {x:Ex} (hk:x.k=rowK b) (hb:bareP x=true) (hlen:2≤x.l.length) (hno:∀ y ∈ x.l,y.k ≠ x.k) (hy:∀ y ∈ x.l,allR y=true∧PBs y) (l1 r:List Tk) (o:Nat) (hl:l1.map kt=kJoinT (rowW b) (needR b) (bareKs x.l)) (ho:o+2 * sizeX x≤201)
  (hs:stopAt (needR b) r) (hn:nextIs 1 (rowW b) r=false):P (.row b) o (l1++r) (.ok (norm x) r):=by
 obtain ⟨e1,e2,e3⟩:=bare_e0 hb
 have hx:norm x=joinE (rowK b) (x.l.map norm):=by
  rw [join_id (fun y hy=>by
   obtain ⟨z,hz,rfl⟩:=List.mem_map.1 hy
   rw [norm_k,← hk];exact hno z hz) (by rw [List.length_map];exact hlen),norm_eq,hk,e1,e2,e3]
 rw [hx]
 rw [sizeX_eq] at ho
 cases hl':x.l with
 | nil=>rw [hl'] at hlen;simp at hlen
 | cons y rest =>
  rw [hl'] at hl hy ho
  simp only [bareKs,kJoinT] at hl
  simp only [sizeXs] at ho
  obtain ⟨l3,l4,rfl,h3,h4⟩:=List.map_eq_append_iff.1 hl
  have hp:=pl_of (need:=needR b) (hy y (by simp)).1 (hy y (by simp)).2 (by cases b<;>decide) (by cases b<;>decide) l3 (l4++r) o h3 (by omega) (tail_stop h4 hs)
  rw [← rowP_goal] at hp
  have hm:=more_all b rest [norm y] l4 r o (fun z hz=>hy z (by simp [hz])) h4 (by omega) hs hn
  rw [List.append_assoc]
  exact .row_ok hp hm
theorem val_all {v:Vl} (hv:vr v) (hr:rightV v=true) (l1 r:List Tk) (o:Nat) (hl:l1.map kt=valK v):P (if (decide (v.k=2) && decide (v.n < 0))=true then .neg else .last) o (l1++r) (.ok (nd 1 v e0 e0 []) r):=by
 have hr0:=hr
 rw [rightV_eq hv] at hr
 have atom:∀ {t:Tk} {y:Ex},t.k ≠ 5→atomR (t::r)=.ok y r→P .last o (t::r) (.ok y r):=fun {t y} h5 h=>h ▸ .last_atom (next_k h5 r)
 simp only [valK] at hl
 by_cases h0:v.k=0
 ·rw [if_pos h0] at hl
  rw [if_pos h0] at hr
  simp only [Bool.and_eq_true,decide_eq_true_eq] at hr
  obtain ⟨t,l',rfl,ht,hl'⟩:=List.map_eq_cons_iff.1 hl
  have:l'=[]:=List.map_eq_nil_iff.1 hl'
  subst this
  have h1:t.k=1:=congrArg Prod.fst ht
  have h2:t.s=sNULL:=congrArg Prod.snd ht
  have hv0:v=nullV:=by cases v;simp only at h0 hr;simp [nullV,h0,hr.1,hr.2]
  rw [if_neg (by simp [h0])]
  refine atom (by omega) ?_
  simp only [atomR,h1,h2,hv0]
  rfl
 rw [if_neg h0] at hl hr
 by_cases hk1:v.k=1
 ·rw [if_pos hk1] at hl hr
  simp only [Bool.and_eq_true,Bool.or_eq_true,decide_eq_true_eq] at hr
  obtain ⟨t,l',rfl,ht,hl'⟩:=List.map_eq_cons_iff.1 hl
  have:l'=[]:=List.map_eq_nil_iff.1 hl'
  subst this
  have h1:t.k=1:=congrArg Prod.fst ht
  have h2:t.s=if v.n=1 then sTRUE else sFALSE:=congrArg Prod.snd ht
  rw [if_neg (by simp [hk1])]
  refine atom (by omega) ?_
  rcases hr.1 with hn | hn
  ·have hv0:v=boolV false:=by cases v;simp only at hk1 hr hn;simp [boolV,hk1,hn,hr.2]
   have h2:t.s=sFALSE:=by rw [h2,if_neg (by omega)]
   simp only [atomR,h1,h2,hv0]
   rfl
  ·have hv0:v=boolV true:=by cases v;simp only at hk1 hr hn;simp [boolV,hk1,hn,hr.2]
   have h2:t.s=sTRUE:=by rw [h2,if_pos hn]
   simp only [atomR,h1,h2,hv0]
   rfl
 rw [if_neg hk1] at hl hr
 by_cases hk2:v.k=2
 ·rw [if_pos hk2] at hl hr
  simp only [decide_eq_true_eq] at hr
  have hb:=hv
  simp only [vr,rng] at hb
  have hv0:v=intV v.n:=by cases v;simp only at hk2 hr;simp [intV,hk2,hr]
  have hval:valD (tx (bs (digitsN v.n.natAbs)))=v.n.natAbs:=by rw [tx_bs,digits_val]
  by_cases hneg:v.n < 0
  ·rw [if_pos hneg] at hl
   rw [if_pos (by simp [hk2,hneg])]
   obtain ⟨m,l',rfl,hm,hl'⟩:=List.map_eq_cons_iff.1 hl
   obtain ⟨t,l',rfl,ht,hl''⟩:=List.map_eq_cons_iff.1 hl'
   have:l'=[]:=List.map_eq_nil_iff.1 hl''
   subst this
   have h1:t.k=3:=congrArg Prod.fst ht
   have h2:t.s=bs (digitsN v.n.natAbs):=congrArg Prod.snd ht
   have hnum:numOf true t.s=some v.n:=by
    simp only [numOf,h2,hval,if_true]
    rw [if_pos (by omega)]
    congr 1;omega
   have:numR true (t::r)=.ok (nd 1 v e0 e0 []) r:=by
    simp only [numR,hnum]
    rw [← hv0]
   rw [← this]
   exact .neg_num (r:=t::r) (next_t hm _) h1
  ·rw [if_neg hneg] at hl
   rw [if_neg (by simp [hneg])]
   obtain ⟨t,l',rfl,ht,hl''⟩:=List.map_eq_cons_iff.1 hl
   have:l'=[]:=List.map_eq_nil_iff.1 hl''
   subst this
   have h1:t.k=3:=congrArg Prod.fst ht
   have h2:t.s=bs (digitsN v.n.natAbs):=congrArg Prod.snd ht
   have hnum:numOf false t.s=some v.n:=by
    simp only [numOf,h2,hval,Bool.false_eq_true,if_false]
    rw [if_pos (by omega)]
    congr 1;omega
   refine atom (by omega) ?_
   simp only [atomR,h1,if_true,numR,hnum]
   rw [← hv0]
 rw [if_neg hk2] at hl hr
 split at hr
 ·rename_i hk3
  simp only [Bool.and_eq_true,decide_eq_true_eq] at hr
  obtain ⟨t,l',rfl,ht,hl''⟩:=List.map_eq_cons_iff.1 hl
  have:l'=[]:=List.map_eq_nil_iff.1 hl''
  subst this
  have h1:t.k=4:=congrArg Prod.fst ht
  have h2:t.s=v.s:=congrArg Prod.snd ht
  have hv0:textV v.s=v:=by cases v;simp only at hk3 hr;simp [textV,hk3,hr.1]
  rw [if_neg (by simp [hk2])]
  refine atom (by omega) ?_
  simp only [atomR,h1,h2,hv0]
  rfl
 ·cases hr
theorem pb_all (x:Ex) (hv:allX vX x) (hr:allR x=true):PBs x:=by
 induction x using Ex.ind with
 | h x ih =>
  have hv':=(allX_eq _ _).1 hv
  have hr':=hr
  rw [allR_eq,Bool.and_eq_true] at hr'
  have ih:∀ y ∈ x.l,allR y=true∧PBs y:=fun y hy=>⟨allRs_mem hr'.2 hy,ih y hy (allXs_mem hv'.2 hy) (allRs_mem hr'.2 hy)⟩
  have hsz:=sizeX_eq x
  have hnx:=norm_eq x
  have nogen:(levelX x ≠ 5∧levelX x ≠ 6)→(∀ (l1 r:List Tk) (o:Nat),l1.map kt=bareK x→o+2 * sizeX x≤201→stopAt (levelX x) r→P (goal (levelX x)) o (l1++r) (.ok (norm x) r))→PBs x:=fun hne hb =>
   ⟨hb,fun b hlv=>by cases b<;>simp only [leftLv,Bool.false_eq_true,if_false,if_true] at hlv<;>omega⟩
  rcases right_cases hr'.1 with ⟨hk,hl,hval,hva,hfl⟩ | ⟨hk,hl,hvn,hn1,hn2⟩ | ⟨hbare,⟨hk,y,hl⟩ | ⟨h4,h14,y,z,hl⟩ | ⟨hk,hlen,hno⟩⟩
  ·have hlv:=level_low (x:=x) (by omega)
   refine nogen (by rw [hlv];split<;>omega) (fun l1 r o h1 ho hs=>?_)
   rw [bareK_eq] at h1
   simp only [bodyK,hk,if_true] at h1
   have:=val_all hv'.1 hval l1 r o h1
   rw [hnx,hk,hva,hfl,hl]
   have hnk:numK x=decide (x.v.k=2):=by simp [numK,hk]
   rw [hlv,hnk]
   split at this
   ·rename_i h;rw [if_pos h];exact this
   ·rename_i h;rw [if_neg h];exact this
  ·have hlv:=level_low (x:=x) (by omega)
   have hnk:numK x=false:=by simp [numK,hk]
   rw [hnk] at hlv
   have hlv:levelX x=8:=hlv
   refine nogen (by omega) (fun l1 r o h1 ho hs=>?_)
   rw [bareK_eq] at h1
   simp only [bodyK,hk,if_true,if_neg (by decide:¬ (2:Int)=1)] at h1
   obtain ⟨t,l1,rfl,ht,h1⟩:=List.map_eq_cons_iff.1 h1
   obtain ⟨u,l1,rfl,hu,h1⟩:=List.map_eq_cons_iff.1 h1
   obtain ⟨w,l1,rfl,hw,h1⟩:=List.map_eq_cons_iff.1 h1
   have:l1=[]:=List.map_eq_nil_iff.1 h1
   subst this
   have t1:t.k=2:=congrArg Prod.fst ht
   have t2:t.s=x.var:=congrArg Prod.snd ht
   have w1:w.k=2:=congrArg Prod.fst hw
   have w2:w.s=x.fld:=congrArg Prod.snd hw
   have hdot:nextIs 5 ⟨#[46]⟩ (u::([w]++r))=true:=next_t hu _
   have ha:atomR (t::u::w::r)=.ok (norm x) r:=by
    rw [hnx,hk,hvn,hl]
    simp only [atomR,t1,if_neg (by decide:¬ (2:Int)=3),if_neg (by decide:¬ (2:Int)=4),if_true,fieldR]
    rw [show nextIs 5 ⟨#[46]⟩ (u::w::r)=true from hdot]
    simp only [if_true,List.tail_cons,w1,t2,w2]
    rfl
   rw [hlv,← ha]
   exact .last_atom (next_k (by omega) _)
  ·obtain ⟨e1,e2,e3⟩:=bare_e0 hbare
   obtain ⟨hyr,hyp⟩:=ih y (by rw [hl];simp)
   have hsx:sizeX x=1+sizeX y:=by rw [hsz,hl];simp [sizeXs]
   have hy1:=one_le_sizeX y
   rcases hk with hk | hk
   ·have hlv:=level_3 hk
    refine nogen (by omega) (fun l1 r o h1 ho hs=>?_)
    rw [bareK_eq] at h1
    simp only [bodyK,hk,hl,if_true,if_neg (by decide:¬ (3:Int)=1),if_neg (by decide:¬ (3:Int)=2),bareKs] at h1
    obtain ⟨m,l2,rfl,hm,h1⟩:=List.map_eq_cons_iff.1 h1
    rw [hlv,hnx,hk,e1,e2,e3,hl]
    by_cases hnp:numP y=true
    ·rw [if_pos hnp] at h1
     obtain ⟨a,l3,rfl,ha,h1⟩:=List.map_eq_cons_iff.1 h1
     obtain ⟨l4,l5,rfl,h4,h1⟩:=List.map_eq_append_iff.1 h1
     obtain ⟨b,l6,rfl,hb,h1⟩:=List.map_eq_cons_iff.1 h1
     have:l6=[]:=List.map_eq_nil_iff.1 h1
     subst this
     have ha5:a.k=5:=congrArg Prod.fst ha
     have h4':l4.map kt=bareK y:=by rw [h4,kPar,if_pos (level_rng y).1]
     have hin:P (goal 1) (o+2) (l4++(b::r)) (.ok (norm y) (b::r)):=lift_bare hyr hyp (by omega) (level_rng y).1 l4 (b::r) (o+2) h4' (by omega) (stop_shut hb r 1)
     have hlast:P .last (o+1) (a::(l4++(b::r))) (.ok (norm y) r):=.last_ok (next_t ha _) (by omega) hin (next_t hb _)
     have hneg:P .neg (o+1) (a::(l4++(b::r))) (.ok (norm y) r):=.neg_no (next_of ha (fun h=>absurd (congrArg Prod.snd h) (by decide)) _) hlast
     have e:m::a::(l4++[b])++r=m::a::(l4++(b::r)):=by simp
     rw [e]
     exact .neg_ok (next_t hm _) (by show a.k ≠ 3;omega) (by omega) hneg
    ·rw [if_neg hnp] at h1
     obtain ⟨k0,ks,e,_,hk3⟩:=hb_par (hb_bare y hyr) 7
     have hp:=pl_of (need:=7) hyr hyp (by omega) (by omega) l2 r (o+1) h1 (by omega) (hlv ▸ hs)
     rw [e] at h1
     obtain ⟨c,l3,rfl,hc,_⟩:=List.map_eq_cons_iff.1 h1
     have:c.k ≠ 3:=by
      have h0:c.k=k0.1:=congrArg Prod.fst hc
      rw [h0];exact hk3 (by omega) (by simpa using hnp)
     exact .neg_ok (r:=c::l3++r) (next_t hm _) this (by omega) hp
   ·have hlv:=level_15 hk
    refine nogen (by omega) (fun l1 r o h1 ho hs=>?_)
    rw [bareK_eq] at h1
    simp only [bodyK,hk,hl,if_true,if_neg (by decide:¬ (15:Int)=1),if_neg (by decide:¬ (15:Int)=2),if_neg (by decide:¬ (15:Int)=3),if_neg (by decide:¬ (15:Int)=17),if_neg (by decide:¬ (15:Int)=16),bareKs] at h1
    obtain ⟨m,l2,rfl,hm,h1⟩:=List.map_eq_cons_iff.1 h1
    rw [hlv,hnx,hk,e1,e2,e3,hl]
    have hp:=pl_of (need:=3) hyr hyp (by omega) (by omega) l2 r (o+1) h1 (by omega) (hlv ▸ hs)
    exact .not_ok (r:=l2++r) (next_t hm _) (by omega) hp
  ·obtain ⟨e1,e2,e3⟩:=bare_e0 hbare
   obtain ⟨hyr,hyp⟩:=ih y (by rw [hl];simp)
   obtain ⟨hzr,hzp⟩:=ih z (by rw [hl];simp)
   have hsx:sizeX x=1+(sizeX y+sizeX z):=by rw [hsz,hl];simp [sizeXs]
   have hlv:=level_big h4 h14
   have hnx:norm x=nd x.k nullV e0 e0 [norm y,norm z]:=by rw [hnx,e1,e2,e3,hl];rfl
   have hbk:bareK x=kPar y (bareK y) (need1 x.k)++((5,opS (x.k - 4).toNat)::kPar z (bareK z) (need2 x.k)):=by
    rw [bareK_eq]
    simp only [bodyK,hl,bareKs,if_neg (by omega:¬ x.k=1),if_neg (by omega:¬ x.k=2),if_neg (by omega:¬ x.k=3),if_neg (by omega:¬ x.k=17),if_neg (by omega:¬ x.k=16),if_neg (by omega:¬ x.k=15)]
   by_cases h9:9≤x.k
   ·rw [if_pos h9] at hlv
    refine nogen (by omega) (fun l1 r o h1 ho hs=>?_)
    rw [hbk] at h1
    simp only [need1,need2,if_pos h9] at h1
    obtain ⟨l2,l3,rfl,h2,h1⟩:=List.map_eq_append_iff.1 h1
    obtain ⟨t,l4,rfl,ht,h1⟩:=List.map_eq_cons_iff.1 h1
    rw [hlv] at hs ⊢
    rw [hnx,List.append_assoc]
    have hp1:=pl_of (need:=5) hyr hyp (by omega) (by omega) l2 (t::(l4++r)) o h2 (by omega) (stop_op h4 h14 ht _ (.inl ⟨h9,by omega⟩))
    have hp2:=pl_of (need:=5) hzr hzp (by omega) (by omega) l4 r o h1 (by omega) (hs.mono (by omega))
    exact .cmp_ok hp1 (by rw [op_of h4 h14 ht (.inr (.inr ⟨rfl,rfl⟩)),if_pos ⟨h9,h14⟩]) hp2
   ·rw [if_neg h9] at hlv
    have key:∀ b,levelX x=leftLv b→∀ (l1 r:List Tk) (o:Nat) (R:PR),l1.map kt=bareK x→o+2 * sizeX x≤201→stopAt (leftLv b+1) r→P (.lmore b (norm x)) o r R→P (.left b) o (l1++r) R:=by
     intro b hb l1 r o R h1 ho hs hR
     have hkb:leftLo b≤x.k∧x.k≤leftHi b∧need1 x.k=leftLv b∧need2 x.k=leftLv b+1∧((x.k≤5∧b=true) ∨ (6≤x.k∧b=false)):=by
      rw [hlv] at hb
      simp only [need1,need2,if_neg h9]
      cases b
      ·simp only [leftLv,leftLo,leftHi,Bool.false_eq_true,if_false] at hb ⊢
       split at hb
       ·rename_i h6;rw [if_pos h6,if_pos h6];exact ⟨h6,by omega,rfl,rfl,.inr ⟨h6,trivial⟩⟩
       ·omega
      ·simp only [leftLv,leftLo,leftHi,if_true] at hb ⊢
       split at hb
       ·omega
       ·rename_i h6;rw [if_neg h6,if_neg h6];exact ⟨h4,by omega,rfl,rfl,.inl ⟨by omega,trivial⟩⟩
     obtain ⟨k1,k2,k3,k4,k5⟩:=hkb
     rw [hbk,k3,k4] at h1
     obtain ⟨l2,l3,rfl,h2,h1⟩:=List.map_eq_append_iff.1 h1
     obtain ⟨t,l4,rfl,ht,h1⟩:=List.map_eq_cons_iff.1 h1
     have hlb:5≤leftLv b∧leftLv b≤6:=by cases b<;>simp [leftLv]
     have hp2:=pl_of (need:=leftLv b+1) hzr hzp (by omega) (by omega) l4 r o h1 (by omega) hs
     rw [← leftP_goal] at hp2
     have hop:opOf (leftLo b) (leftHi b) (t::(l4++r))=some x.k:=by
      rw [op_of h4 h14 ht (by cases b;exact .inl ⟨rfl,rfl⟩;exact .inr (.inl ⟨rfl,rfl⟩)),if_pos ⟨k1,k2⟩]
     have htail:P (.lmore b (norm y)) o (t::(l4++r)) R:=.lmore_ok hop hp2 (by rw [← hnx];exact hR)
     have hst:stopAt (leftLv b+1) (t::(l4++r)):=stop_op h4 h14 ht _ (by
      rcases k5 with ⟨h5,rfl⟩ | ⟨h6,rfl⟩
      ·exact .inr (.inl ⟨h5,by simp [leftLv]⟩)
      ·exact .inr (.inr ⟨h6,by simp [leftLv]⟩))
     rw [List.append_assoc]
     by_cases hly:levelX y=leftLv b
     ·have h2':l2.map kt=bareK y:=by rw [h2,kPar,if_pos (by omega)]
      exact hyp.gen b hly l2 (t::(l4++r)) o R h2' (by omega) hst htail
     ·have h2':l2.map kt=exprK y (leftLv b+1):=by
       rw [h2,exprK,kPar,kPar]
       by_cases hg:leftLv b≤levelX y
       ·rw [if_pos hg,if_pos (by omega)]
       ·rw [if_neg hg,if_neg (by omega)]
      have hp1:=pl_of (need:=leftLv b+1) hyr hyp (by omega) (by omega) l2 (t::(l4++r)) o h2' (by omega) hst
      rw [← leftP_goal] at hp1
      exact .left_ok hp1 htail
    refine ⟨fun l1 r o h1 ho hs=>?_,key⟩
    have hb:∃ b,levelX x=leftLv b:=by
     rw [hlv]
     split
     ·exact ⟨false,rfl⟩
     ·exact ⟨true,rfl⟩
    obtain ⟨b,hb⟩:=hb
    rw [hb] at hs ⊢
    rw [← left_goal]
    refine key b hb l1 r o _ h1 ho (hs.mono (by omega)) (.lmore_no ?_)
    cases b
    ·exact hs.1 (by simp [leftLv])
    ·exact hs.2.1 (by simp [leftLv])
  ·rcases hk with hk | hk
   ·have hlv:=level_r16 hk
    refine nogen (by omega) (fun l1 r o h1 ho hs=>?_)
    rw [bareK_eq] at h1
    simp only [bodyK,hk,if_true,if_neg (by decide:¬ (16:Int)=1),if_neg (by decide:¬ (16:Int)=2),if_neg (by decide:¬ (16:Int)=3),if_neg (by decide:¬ (16:Int)=17)] at h1
    rw [hlv] at hs ⊢
    exact row_all false hk hbare hlen hno ih l1 r o h1 ho (hs.mono (by decide)) (hs.2.2.2.1 (by omega))
   ·have hlv:=level_r17 hk
    refine nogen (by omega) (fun l1 r o h1 ho hs=>?_)
    rw [bareK_eq] at h1
    simp only [bodyK,hk,if_true,if_neg (by decide:¬ (17:Int)=1),if_neg (by decide:¬ (17:Int)=2),if_neg (by decide:¬ (17:Int)=3)] at h1
    rw [hlv] at hs ⊢
    exact row_all true hk hbare hlen hno ih l1 r o h1 ho (hs.mono (by decide)) (hs.2.2.2.2 (by omega))
end Go.Hx
