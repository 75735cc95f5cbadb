/- A printed condition is read as it: as a text. Own work. And what builds on it. -/
import Derived.Test.YtancdapnpceogaaGreatS5M3
import Derived.Test.YtancdapnpceogaaGreatS5M1
import Derived.Test.YtancdapnpceogaaGreatS5M2
import Derived.Test.YtancdapnpceogaaGreatRows
import Derived.WalkKit
import Derived.ProofKit
import Derived.OpenShut
import Derived.JoinedCond
set_option maxRecDepth 20000
namespace Go.Hx
theorem text_back {x:Ex} (hv:allX vX x) (hc:checkP x=0) (hs:sizeX x≤1152921504606846975) (hl:(exprT x 1).length≤8192):TextR (bs (exprT x 1)) (.ok (norm x)):=by
 have hr:=checkP_all hc
 have h100:=check_size hc hs
 have hsz:(bs (exprT x 1)).size=(exprT x 1).length:=by rw [← size_list]
 obtain ⟨l1,e1,m1⟩:=(lb_expr x hv hr 1).lx 0 [] [⟨6,e0,0+(exprT x 1).length⟩] calm_nil (by rw [lexW])
 rw [List.append_nil] at e1
 have hlex:lexA (bs (exprT x 1))=.ok (l1++[⟨6,e0,0+(exprT x 1).length⟩]):=by
  rw [lexA,if_neg (by omega)]
  have:tx (bs (exprT x 1))=exprT x 1:=tx_bs _
  rw [this];exact e1
 have hp:=pl_of hr (pb_all x hv hr) (need:=1) (by omega) (by omega) l1 [⟨6,e0,0+(exprT x 1).length⟩] 0 m1 (by omega) (stop_nosign (by show (6:Int) ≠ 5;omega) (by show (6:Int) ≠ 1;omega) _ _)
 exact .ok hlex hp (by rw [norm_check hs];exact hc) rfl
/-- printing sees no slices -/
theorem norm_level (x:Ex):levelX (norm x)=levelX x:=by
 simp only [levelX,numK,norm_k,norm_v]
 rfl
theorem norm_bare (x:Ex):bareT (norm x)=bareT x:=by
 induction x using Ex.ind with
 | h x ih =>
  have hl:∀ l:List Ex,(∀ y ∈ l,bareT (norm y)=bareT y)→∀ need sep,joinR sep need (bareTs (l.map norm))=joinR sep need (bareTs l):=by
   intro l
   induction l with
   | nil=>intro _ _ _;rfl
   | cons y l ihl =>
    intro h need sep
    simp only [List.map_cons,bareTs,joinR,ihl (fun z hz=>h z (by simp [hz])),h y (by simp),parT,norm_level]
  have hj:∀ need sep,joinT sep need (bareTs (x.l.map norm))=joinT sep need (bareTs x.l):=by
   intro need sep
   cases hx:x.l with
   | nil=>rfl
   | cons y l =>
    have h1:=hl l (fun z hz=>ih z (by rw [hx];simp [hz])) need sep
    simp only [List.map_cons,bareTs,joinT,h1,ih y (by rw [hx];simp),parT,norm_level]
  rw [bareT_eq,bareT_eq x,norm_k,norm_v,norm_var,norm_fld,norm_l]
  simp only [bodyT,hj]
  cases hx:x.l with
  | nil=>rfl
  | cons y l =>
   have hy:=ih y (by rw [hx];simp)
   cases l with
   | nil=>simp only [List.map_cons,List.map_nil,bareTs,hy,parT,norm_level,numP,numK,norm_k,norm_v]
   | cons z l =>
    have hz:=ih z (by rw [hx];simp)
    simp only [List.map_cons,bareTs,hy,hz,parT,norm_level,numP,numK,norm_k,norm_v]
theorem norm_expr (x:Ex) (need:Int):exprT (norm x) need=exprT x need:=by
 simp only [exprT,parT,norm_bare,norm_level]
theorem norm_expr2 {x y:Ex} (h:norm x=norm y) (need:Int):exprT x need=exprT y need:=by rw [← norm_expr x,h,norm_expr]
theorem lexW_pos:∀ (m p:Nat) (r:List UInt8),r.length≤m→∀ l,lexW p r=.ok l→∀ t ∈ l,t.p≤p+r.length:=by
 intro m
 induction m with
 | zero =>
  intro p r hr l h
  have:r=[]:=List.eq_nil_of_length_eq_zero (by omega)
  subst this
  rw [lexW] at h;cases h
  intro t ht;simp at ht;subst ht;show p≤_;omega
 | succ m ih =>
  intro p r hr l h
  cases r with
  | nil =>
   rw [lexW] at h;cases h
   intro t ht;simp at ht;subst ht;show p≤_;omega
  | cons c r =>
   rw [lexW] at h
   simp only [List.length_cons] at hr ⊢
   split at h
   ·intro t ht
    have:=ih _ r (by omega) _ h t ht;omega
   ·split at h
    ·cases h
    ·rename_i k w n hL
     have hn:=lex1_len hL
     simp only [List.length_cons] at hn
     split at h
     ·cases h
     ·rename_i l' hl'
      cases h
      have:=ih _ (r.drop (n - 1)) (by simp;omega) _ hl'
      intro t ht
      rcases List.mem_cons.1 ht with rfl | ht
      ·show p≤_;omega
      ·have:=this t ht
       simp only [List.length_drop] at this;omega
theorem lexA_pos {s:ByteArray} {l:List Tk} (h:lexA s=.ok l):∀ t ∈ l,t.p≤s.size:=by
 simp only [lexA] at h
 split at h
 ·cases h
 ·have hs:(tx s).length=s.size:=size_list s
  intro t ht
  have:=lexW_pos _ 0 (tx s) (Nat.le_refl _) _ h t ht;omega
theorem posn_le {n:Nat} {r:List Tk} (h:∀ t ∈ r,t.p≤n):posn r≤n:=by
 cases r with
 | nil=>exact Nat.zero_le _
 | cons t r=>exact h t (by simp)
theorem numR_pos {m:Bool} {r:List Tk} {e:Int} {p n:Nat} (h:numR m r=.bad e p) (hr:∀ t ∈ r,t.p≤n):p≤n:=by
 cases r with
 | nil=>cases h;exact Nat.zero_le _
 | cons t r =>
  simp only [numR] at h
  split at h<;>cases h
  exact hr t (by simp)
theorem atomR_pos {r:List Tk} {e:Int} {p n:Nat} (h:atomR r=.bad e p) (hr:∀ t ∈ r,t.p≤n):p≤n:=by
 cases r with
 | nil=>cases h;exact Nat.zero_le _
 | cons t r =>
  have ht:=hr t (by simp)
  have hr':∀ u ∈ r,u.p≤n:=fun u hu=>hr u (by simp [hu])
  simp only [atomR] at h
  split at h
  ·exact numR_pos h hr
  ·split at h
   ·cases h
   ·split at h
    ·simp only [fieldR] at h
     split at h
     ·rename_i hn
      obtain ⟨u,r2,rfl,_,_⟩:=nextIs_ne hn
      simp only [List.tail_cons] at h
      split at h
      ·cases h;exact Nat.zero_le _
      ·split at h
       ·cases h
       ·cases h;exact hr' _ (by simp)
     ·cases h;exact posn_le hr'
    ·split at h
     ·split at h
      ·cases h
      ·cases h;exact ht
     ·cases h;exact ht
theorem P_pos {g:Gl} {o:Nat} {r:List Tk} {R:PR} (h:P g o r R):∀ n,endsT r→(∀ t ∈ r,t.p≤n)→∀ e p,R=.bad e p→p≤n:=by
 have tl:∀ {k:Int} {s:ByteArray} {t:Tk} {r:List Tk},k ≠ 6→nextIs k s (t::r)=true→endsT (t::r)→endsT r:=fun hk h he=>endsT_tail he (by rw [(nextIs_cons h).1];exact hk)
 have tl5:∀ {lo hi k:Int} {t:Tk} {r:List Tk},opOf lo hi (t::r)=some k→endsT (t::r)→endsT r:=fun h he=>endsT_tail he (by rw [opOf_cons h];decide)
 have tm:∀ {t:Tk} {r:List Tk} {n:Nat},(∀ u ∈ t::r,u.p≤n)→∀ u ∈ r,u.p≤n:=fun h u hu=>h u (by simp [hu])
 induction h with
 | row_bad _ ih=>exact ih
 | row_ok h1 _ _ ih=>intro n he hn;have hs:Suf _ _:=P_suf h1 he;exact ih n hs.1 (hs.mem hn)
 | more_no=>intro n _ _ e p h;cases h
 | more_bad hx _ ih=>intro n he hn;exact ih n (tl (by decide) hx he) (tm hn)
 | more_ok hx h1 _ _ ih=>intro n he hn;have he':=tl (by decide) hx he;have hs:Suf _ _:=P_suf h1 he';exact ih n hs.1 (hs.mem (tm hn))
 | not_no _ _ ih=>exact ih
 | not_long=>intro n _ hn e p h;cases h;exact posn_le hn
 | not_bad hx _ _ ih=>intro n he hn;exact ih n (tl (by decide) hx he) (tm hn)
 | not_ok=>intro n _ _ e p h;cases h
 | cmp_bad _ ih=>exact ih
 | cmp_no=>intro n _ _ e p h;cases h
 | cmp_bad2 h1 hk _ _ ih=>intro n he hn;have hs:Suf _ _:=P_suf h1 he;exact ih n (tl5 hk hs.1) (tm (hs.mem hn))
 | cmp_ok=>intro n _ _ e p h;cases h
 | left_bad _ ih=>exact ih
 | left_ok h1 _ _ ih=>intro n he hn;have hs:Suf _ _:=P_suf h1 he;exact ih n hs.1 (hs.mem hn)
 | lmore_no=>intro n _ _ e p h;cases h
 | lmore_bad hk _ ih=>intro n he hn;exact ih n (tl5 hk he) (tm hn)
 | lmore_ok hk h1 _ _ ih=>intro n he hn;have he':=tl5 hk he;have hs:Suf _ _:=P_suf h1 he';exact ih n hs.1 (hs.mem (tm hn))
 | neg_no _ _ ih=>exact ih
 | neg_num _ _=>intro n _ hn e p h;exact numR_pos h (tm hn)
 | neg_long=>intro n _ hn e p h;cases h;exact hn _ (by simp)
 | neg_bad hx _ _ _ ih=>intro n he hn;exact ih n (tl (by decide) hx he) (tm hn)
 | neg_ok=>intro n _ _ e p h;cases h
 | last_atom _=>intro n _ hn e p h;exact atomR_pos h hn
 | last_long=>intro n _ hn e p h;cases h;exact posn_le hn
 | last_bad hx _ _ ih=>intro n he hn;exact ih n (tl (by decide) hx he) (tm hn)
 | last_open hx _ h1 _ _=>intro n he hn e p h;cases h;have hs:Suf _ _:=P_suf h1 (tl (by decide) hx he);exact posn_le (hs.mem (tm hn))
 | last_ok=>intro n _ _ e p h;cases h
theorem TextR_le {s:ByteArray} {p:Nat} {e:Int} (h:TextR s (.bad p e)):p≤s.size:=by
 cases h with
 | lex h=>exact (lexA_bad h).1
 | bad h hP=>exact P_pos hP _ (lexA_len h).2 (lexA_pos h) _ _ rfl
 | long h hP _=>exact posn_le (lexA_pos h)
 | more h hP _ _=>have hs:Suf _ _:=P_suf hP (lexA_len h).2;exact posn_le (hs.mem (lexA_pos h))
end Go.Hx
namespace Go.Hx
theorem wf_rng {n:Int} (h:(Lit.int .i64 n).wf=true):rng n:=by
 have:-9223372036854775808≤n∧n≤9223372036854775807:=by simpa [Lit.wf,IntKind.min,IntKind.max,IntKind.signed,IntKind.bits] using h
 exact this
theorem map_of2 {α:Type} {f:α→AV} {p:α→Prop}:∀ (xs:List AV),(∀ x ∈ xs,∃ y,x=f y∧p y)→∃ l:List α,xs=l.map f∧∀ y ∈ l,p y
 | [],_=>⟨[],rfl,fun _ h=>by cases h⟩
 | x::xs,h=>by
  obtain ⟨y,rfl,hy⟩:=h x (by simp)
  obtain ⟨l,rfl,hl⟩:=map_of2 xs (fun z hz=>h z (by simp [hz]))
  exact ⟨y::l,rfl,fun z hz=>by
   rcases List.mem_cons.1 hz with rfl | hz
   ·exact hy
   ·exact hl z hz⟩
def conjF:List Field→(Field→Prop)→Prop
 | [],_=>True
 | f::r,p=>p f∧conjF r p
theorem conjF_of:∀ (l:List Field) (p:Field→Prop),(∀ f ∈ l,p f)→conjF l p
 | [],_,_=>trivial
 | f::r,p,h=>⟨h f (by simp),conjF_of r p (fun g hg=>h g (by simp [hg]))⟩
def StrT (P:Program) (n:Nat) (t:TypeId) (cs:List AV):Prop :=
 match P.underlying t with
 | some (.struct fs)=>cs.length=P.cellsOf t∧conjF fs.toList fun f=>HasT P n f.type ((cs.drop f.offset).take (P.cellsOf f.type))
 | _=>True
theorem HasT.str {P:Program} {n:Nat} {t:TypeId} {cs:List AV} (h:HasT P (n+1) t cs):StrT P n t cs:=by
 unfold StrT
 split
 ·rename_i fs hu
  simp only [HasT,hu] at h
  exact ⟨h.1,conjF_of _ _ h.2⟩
 ·trivial
theorem has_int {n:Nat} {cs:List AV} (t:TypeId) (ht:t=3 ∨ t=2) (h:HasT Pg n t cs):∃ i,cs=[I i]∧rng i:=by
 cases n with
 | zero=>exact h.elim
 | succ n =>
  have e:HasT Pg (n+1) t cs=∃ i,cs=[.raw (.int .i64 i)]∧(Lit.int .i64 i).wf=true:=by rcases ht with rfl | rfl<;>kernel_rfl
  rw [e] at h
  obtain ⟨i,h1,h2⟩:=h
  exact ⟨i,h1,wf_rng h2⟩
theorem has_S {n:Nat} {cs:List AV} (h:HasT Pg n 9 cs):∃ s,cs=[S s]:=by
 cases n with
 | zero=>exact h.elim
 | succ n =>
  have e:HasT Pg (n+1) 9 cs=∃ s:ByteArray,cs=[S s]∧s.size≤maxLen:=by kernel_rfl
  rw [e] at h;obtain ⟨s,h,_⟩:=h;exact ⟨s,h⟩
theorem has_V {n:Nat} {cs:List AV} (h:HasT Pg n 23 cs):∃ v:Vl,cs=[I v.k,I v.n,S v.s]∧vr v:=by
 cases n with
 | zero=>exact h.elim
 | succ n =>
  have h:=h.str
  have e:StrT Pg n 23 cs=(cs.length=3∧(HasT Pg n 3 ((cs.drop 0).take 1)∧(HasT Pg n 2 ((cs.drop 1).take 1)∧(HasT Pg n 9 ((cs.drop 2).take 1)∧True)))):=by kernel_rfl
  rw [e] at h
  obtain ⟨hl,h1,h2,h3,_⟩:=h
  match cs,hl with
  | [a,b,c],_ =>
   obtain ⟨i,hi,wi⟩:=has_int 3 (.inl rfl) h1
   obtain ⟨j,hj,wj⟩:=has_int 2 (.inr rfl) h2
   obtain ⟨s,hs⟩:=has_S h3
   simp at hi hj hs
   exact ⟨⟨i,j,s⟩,by simp [hi,hj,hs],wj⟩
theorem has_X:∀ (n:Nat) {cs:List AV},HasT Pg n 26 cs→∃ x:Ex,cs=encC x∧allX vX x:=by
 intro n
 induction n using Nat.strongRecOn with
 | _ n ih =>
  intro cs h
  cases n with
  | zero=>exact h.elim
  | succ n =>
   have h:=h.str
   have e:StrT Pg n 26 cs=(cs.length=7∧(HasT Pg n 3 ((cs.drop 0).take 1)∧(HasT Pg n 23 ((cs.drop 1).take 3)∧(HasT Pg n 9 ((cs.drop 4).take 1)∧(HasT Pg n 9 ((cs.drop 5).take 1)∧(HasT Pg n 24 ((cs.drop 6).take 1)∧True)))))):=by kernel_rfl
   rw [e] at h
   obtain ⟨hl,h1,h2,h3,h4,h5,_⟩:=h
   match cs,hl with
   | [a,b,c,d,e,f,g],_ =>
    obtain ⟨i,hi,wi⟩:=has_int 3 (.inl rfl) h1
    obtain ⟨v,hv,wv⟩:=has_V h2
    obtain ⟨s,hs⟩:=has_S h3
    obtain ⟨s',hs'⟩:=has_S h4
    simp at hi hv hs hs' h5
    obtain ⟨rfl,rfl,rfl⟩:=hv
    subst hi hs hs'
    cases n with
    | zero=>exact h5.elim
    | succ m =>
     have e:HasT Pg (m+1) 24 [g]=([g]=[AV.sl 7 true .full []] ∨ ∃ xs:List AV,[g]=[AV.sl 7 false .any xs]∧∀ x ∈ xs,∃ c,x=packA Pg 26 c∧HasT Pg m 26 c):=by kernel_rfl
     rw [e] at h5
     rcases h5 with hg | ⟨xs,hg,hall⟩
     ·simp at hg;subst hg
      exact ⟨.mk i v s s' 7 true .full [],by simp [encC,encCs],by rw [allX_eq];exact ⟨wv,trivial⟩⟩
     ·simp at hg;subst hg
      obtain ⟨l,rfl,hlv⟩:=map_of2 (f:=encX) (p:=allX vX) xs (fun x hx=>by
       obtain ⟨c,rfl,hc⟩:=hall x hx
       obtain ⟨y,rfl,hy⟩:=ih m (by omega) hc
       exact ⟨y,by kernel_rfl,hy⟩)
      exact ⟨.mk i v s s' 7 false .any l,by simp [encC,encCs_map],by rw [allX_eq];exact ⟨wv,allXs_of hlv⟩⟩
theorem has_Xs {n:Nat} {cs:List AV} (h:HasT Pg n 24 cs):∃ nil tip l,cs=[encXs 7 nil tip l]∧∀ x ∈ l,allX vX x:=by
 cases n with
 | zero=>exact h.elim
 | succ n =>
  have e:HasT Pg (n+1) 24 cs=(cs=[.sl 7 true .full []] ∨ ∃ xs:List AV,cs=[.sl 7 false .any xs]∧∀ x ∈ xs,∃ c,x=packA Pg 26 c∧HasT Pg n 26 c):=by kernel_rfl
  rw [e] at h
  rcases h with rfl | ⟨xs,rfl,h⟩
  ·exact ⟨true,.full,[],rfl,fun x hx=>by cases hx⟩
  ·obtain ⟨l,rfl,hl⟩:=map_of2 (f:=encX) (p:=allX vX) xs (fun x hx=>by
    obtain ⟨c,rfl,hc⟩:=h x hx
    obtain ⟨y,rfl,hy⟩:=has_X n hc
    exact ⟨y,by kernel_rfl,hy⟩)
   exact ⟨false,.any,l,rfl,hl⟩
theorem sz_X (x:Ex):sizeX x≤szL (encC x)∧(szL (encC x)≤1048576→allX okX x):=by
 induction x using Ex.ind with
 | h x ih =>
  have hs:∀ (l:List Ex),(∀ y ∈ l,y ∈ x.l)→sizeXs l≤szL (l.map encX)∧(szL (l.map encX)≤1048576→allXs okX l):=by
   intro l
   induction l with
   | nil=>intro _;simp [sizeXs,szL,allXs]
   | cons y r ihr =>
    intro hy
    obtain ⟨a1,a2⟩:=ihr (fun z hz=>hy z (by simp [hz]))
    obtain ⟨b1,b2⟩:=ih y (hy y (by simp))
    simp only [sizeXs,List.map_cons,szL,encX,szA,allXs]
    exact ⟨by omega,fun h=>⟨b2 (by omega),a2 (by omega)⟩⟩
  obtain ⟨h1,h2⟩:=hs x.l (fun _ h=>h)
  rw [sizeX_eq,allX_eq,encC_eq]
  have hl:=length_le_szL (x.l.map encX)
  rw [List.length_map] at hl
  simp only [szL,szA,I,S,encXs]
  refine ⟨by omega,fun h=>⟨⟨by omega,by omega,by omega⟩,h2 (by omega)⟩⟩
theorem sz_Xs (l:List Ex):sizeXs l≤szL (l.map encX)∧(szL (l.map encX)≤1048576→∀ x ∈ l,allX okX x):=by
 induction l with
 | nil=>simp [sizeXs,szL]
 | cons y r ih =>
  obtain ⟨b1,b2⟩:=sz_X y
  simp only [sizeXs,List.map_cons,szL,encX,szA]
  refine ⟨by omega,fun h x hx=>?_⟩
  rcases List.mem_cons.1 hx with rfl | hx
  ·exact b2 (by omega)
  ·exact ih.2 (by omega) x hx
end Go.Hx
namespace Go.Hx
theorem strT_bs (l:List UInt8):strT l=S (bs l):=rfl
theorem size_bs (l:List UInt8):(bs l).size=l.length:=by rw [← size_list]
theorem c5 (x:Ex) (hx:allX okX x) (hv:allX vX x) (hs:sizeX x≤1048576) (H:Heap) (Q:Post) (hq:∀ H',HExt H H'→Q (B true) H'):E 5 [encX x] H Q:=by
 have d0:decide ((0:Int)=0)=true:=rfl
 rw [f5_eq,szX,ob_some,partX,ob_some]
 refine c24 x hx hv (by omega) H _ (fun H1 h1=>?_)
 simp only [printA]
 split
 ·rename_i hc
  rw [x20,ob_some,x21,ob_some,i_neq,ob_some,d0,Bool.not_true,cnd_f,strT_bs,len_S,ob_some,i_gtr,ob_some]
  refine cnd_intro (fun _=>c18 H1 _ (fun H2 h2=>hq H2 (h1.trans h2))) (fun hg=>?_)
  have hlen:(exprT x 1).length≤8192:=by rw [size_bs] at hg;simp at hg;omega
  have hT:=text_back hv hc (by omega) hlen
  refine c13 _ (by rw [size_bs];omega) H1 _ hT (fun y H2 h2 hy hys hgy _ hsy=>?_)
  have dl:decide (((bs (exprT x 1)).size:Int)=((bs (exprT x 1)).size:Int))=true:=decide_eq_true rfl
  simp only [x3_0,x3_1,x3_2,ob_some,szX,splX,i_eql,d0,cnd_t,len_S,dl,f5_c7_8a_eq,partX]
  rw [c29 hy.symm (by omega),f5_c7_13a_eq,cnd_t]
  refine c18 H2 _ (fun H3 h3=>?_)
  rw [f5_c7_16a_eq,f5_j24_eq]
  exact hq H3 ((h1.trans h2).trans h3)
 ·rename_i hc
  have dc:decide (checkP x=0)=false:=decide_eq_false hc
  have de:decide ((e0:ByteArray)=⟨#[]⟩)=true:=decide_eq_true rfl
  rw [x20,ob_some,x21,ob_some,i_neq,ob_some,dc,Bool.not_false,cnd_t,s_eql,ob_some,de,cnd_t,ob_some]
  refine c28 x hx H1 _ (fun H2 h2=>?_)
  rw [i_eql,ob_some,decide_eq_true rfl,cnd_t]
  refine c18 H2 _ (fun H3 h3=>?_)
  rw [f5_j10_eq]
  exact hq H3 ((h1.trans h2).trans h3)
theorem c6 (s:ByteArray) (hsz:s.size≤1048576) (H:Heap) (Q:Post) (hq:∀ H',HExt H H'→Q (B true) H'):E 6 [S s] H Q:=by
 have d0:decide ((0:Int)=0)=true:=rfl
 obtain ⟨R,hR⟩:=TextR_total s
 rw [f6_eq]
 refine c13 s (by omega) H _ hR ?_
 cases R with
 | bad p e =>
  intro H1 h1
  have de:decide (e=0)=false:=decide_eq_false (TextR_ne hR)
  have hp:p≤s.size:=TextR_le hR
  have g0:decide ((0:Int)≤(p:Int))=true:=decide_eq_true (by omega)
  have g1:decide ((p:Int)≤(s.size:Int))=true:=decide_eq_true (by omega)
  simp only [x3_0,x3_1,x3_2,ob_some,szX,splX,i_neq,de,Bool.not_false,cnd_t,i_geq,g0,len_S,i_leq,g1,f6_c3_8a_eq,partX,zX_b]
  rw [c29 rfl (by rw [zX_size];omega),f6_c3_13a_eq,cnd_t]
  refine c18 H1 _ (fun H2 h2=>?_)
  rw [f6_c3_16a_eq,f6_j10_eq]
  exact hq H2 (h1.trans h2)
 | ok x =>
  intro y H1 h1 hy hys hgy hc hsy
  have hoy:=gX_ok hgy (by omega)
  have hcy:checkP y=0:=by rw [← norm_check (by omega),hy];exact hc
  simp only [x3_0,x3_1,x3_2,ob_some,szX,splX,i_neq,d0,Bool.not_true,cnd_f,partX]
  refine c24 y hoy.1 hoy.2 (by omega) H1 _ (fun H2 h2=>?_)
  simp only [printA,if_pos hcy]
  rw [x20,ob_some,x21,ob_some,i_neq,ob_some,d0,Bool.not_true,cnd_f]
  refine c28 y hoy.1 H2 _ (fun H3 h3=>?_)
  rw [hcy,i_neq,ob_some,d0,Bool.not_true,cnd_f,len_S,ob_some,i_neq,ob_some,decide_eq_true rfl,Bool.not_true,f6_j17_eq,cnd_f,strT_bs,len_S,ob_some,i_gtr,ob_some]
  refine cnd_intro (fun _=>c18 H3 _ (fun H4 h4=>hq H4 (((h1.trans h2).trans h3).trans h4))) (fun hg=>?_)
  have hlen:(exprT y 1).length≤8192:=by rw [size_bs] at hg;simp at hg;omega
  have hT:=text_back hoy.2 hcy (by omega) hlen
  refine c13 _ (by rw [size_bs];omega) H3 _ hT (fun z H4 h4 hz hzs hgz _ hsz=>?_)
  have hoz:=gX_ok hgz (by omega)
  have hcz:checkP z=0:=by rw [← norm_check (by omega),hz,norm_check (by omega)];exact hcy
  have ht:exprT z 1=exprT y 1:=norm_expr2 hz 1
  simp only [x3_0,x3_1,x3_2,ob_some,szX,splX,partX]
  refine c24 z hoz.1 hoz.2 (by omega) H4 _ (fun H5 h5=>?_)
  simp only [printA,if_pos hcz]
  have ds:decide (bs (exprT z 1)=bs (exprT y 1))=true:=decide_eq_true (by rw [ht])
  simp only [x20,x21,ob_some,i_eql,d0,cnd_t,f6_c11_6a_eq,partX]
  rw [c29 hz.symm (by omega),f6_c11_11a_eq,cnd_t,strT_bs,s_eql,ob_some,ds,f6_c11_16a_eq,cnd_t]
  refine c18 H5 _ (fun H6 h6=>?_)
  rw [f6_c11_19a_eq,f6_j36_eq]
  exact hq H6 (((((h1.trans h2).trans h3).trans h4).trans h5).trans h6)
end Go.Hx
namespace Go.Hx
def quiet (r:List UInt8):Prop:=∀ c r',r=c::r'→signB c=false
theorem lx_name' {s:ByteArray} (h:nameL (tx s)=true):LX quiet (tx s) [(2,s)]:=by
 have hs:bs (tx s)=s:=bs_tx s
 rw [← hs]
 generalize tx s=w at h
 cases w with
 | nil=>cases h
 | cons c w =>
  simp only [nameL,Bool.and_eq_true,decide_eq_true_eq] at h
  obtain ⟨hc,ha,hl⟩:=h
  have hu:=low_iff.1 hc
  refine LX.tok (nf blank_iff (by omega)) (fun r hr=>?_)
  have ht:(c::(w++r)).takeWhile signB=c::w:=takeW_stop (w:=c::w) ha (fun c r' e=>hr c r' e)
  simp only [lex1,if_neg (by omega:¬ c.toNat=39),nf (upp_iff (c:=c)) (by omega),Bool.false_eq_true,if_false,hc,if_true,wordT,ht]
  rw [if_neg (by omega)];rfl
theorem lx_eq:LX mild [61] [(5,sEq)]:=lx_sign (by decide) (by kernel_rfl)
theorem lx_sqO:LX mild [91] [(5,wSqO)]:=lx_sign (by decide) (by kernel_rfl)
theorem lx_sqS:LX mild [93] [(5,wSqS)]:=lx_sign (by decide) (by kernel_rfl)
theorem lx_arrow:LX anyR [32,45,62,32] [(5,wArrow)] :=
 LX.append (t1:=[32]) LX.blank (LX.append (t1:=[45,62]) (lx_sign2 (c:=45) (d:=62) (by decide) (by kernel_rfl)) LX.blank (C2:=anyR) (fun r _=>trivial)) (C1:=anyR) (fun _ _=>trivial)
theorem lx_EVERY:LX anyR sEVERY [(1,wEVERY)]:=LX.append (t2:=[32]) (lx_word (c:=69) (w:=[86,69,82,89]) (by decide) (by decide)) LX.blank (C2:=anyR) (fun r _=>calm32 r)
theorem lx_WHERE:LX anyR sWHERE [(1,wWHERE)]:=lx_sep (w:=[87,72,69,82,69]) (by decide) (by decide) (by decide)
theorem lx_WITHIN:LX anyR sWITHIN [(1,wWITHIN)]:=lx_sep (w:=[87,73,84,72,73,78]) (by decide) (by decide) (by decide)
/-- digits, alone -/
theorem num_T {n:Int} (h:¬ n < 0):numT n=digitsN n.natAbs:=by simp only [numT,if_neg h];try rfl
theorem dig_beg (n:Nat):begM (digitsN n):=by
 have ha:=digits_all n
 cases hd:digitsN n with
 | nil=>exact (digits_ne _ hd).elim
 | cons c r =>
  rw [hd] at ha
  simp only [List.all_cons,Bool.and_eq_true] at ha
  have:=digB_iff.1 ha.1
  exact ⟨c,r,rfl,by omega,by omega⟩
def varK (v t:ByteArray):List KT:=[(2,v),(5,sEq),(2,t)]
def leafK (k:Int) (v t:ByteArray) (lo:Int):List KT :=
 if k=6 then (1,wNOT)::varK v t else if k=5 then (5,wSqO)::(3,bs (digitsN lo.natAbs))::(5,wSqS)::varK v t else varK v t
def sepK (k:Int):KT:=if k=2 then (5,wArrow) else if k=4 then (1,rowW true) else (1,rowW false)
def catKR (sep:KT):List (List KT)→List KT
 | []=>[]
 | p::r=>sep::(p++catKR sep r)
def catK (sep:KT):List (List KT)→List KT
 | []=>[]
 | p::r=>p++catKR sep r
mutual
def putK:Pa→Int→List KT
 | .mk k var typ lo _ _ _ _ l,need=>if lvE k=4 then leafK k var typ lo else if lvE k < need then (5,wOpen)::(catK (sepK k) (putKs (lvE k+1) l)++[(5,wShut)]) else catK (sepK k) (putKs (lvE k+1) l)
def putKs:Int→List Pa→List (List KT)
 | _,[]=>[]
 | need,x::r=>putK x need::putKs need r
end
theorem putK_eq (x:Pa) (need:Int):putK x need=if lvE x.k=4 then leafK x.k x.var x.typ x.lo else if lvE x.k < need then (5,wOpen)::(catK (sepK x.k) (putKs (lvE x.k+1) x.l)++[(5,wShut)]) else catK (sepK x.k) (putKs (lvE x.k+1) x.l):=by
 cases x;rw [putK];rfl
theorem lb_var {v t:ByteArray} (hv:nameL (tx v)=true) (ht:nameL (tx t)=true):LB (varT v t) (varK v t):=by
 refine ⟨?_,?_⟩
 ·have h2:LX calm (61::tx t) [(5,sEq),(2,t)]:=LX.append (t1:=[61]) (k1:=[(5,sEq)]) lx_eq (lx_name ht) (fun r _=>(name_beg ht).mild r)
  exact LX.append (k1:=[(2,v)]) (lx_name' hv) h2 (fun r _ c r' e=>by cases e;decide)
 ·exact (name_beg hv).append _
theorem lb_leaf {x:Pa} (hr:allRT x=true) (hl:lvE x.k=4):LB (leafE x.k x.var x.typ x.lo) (leafK x.k x.var x.typ x.lo):=by
 have hn:=fine_name hr (lvE_leaf.1 hl)
 have hv:=lb_var hn.1 hn.2
 simp only [leafE,leafK]
 split
 ·exact ⟨LX.append (k1:=[(1,wNOT)]) lx_NOT hv.lx (fun _ _=>trivial),⟨78,_,rfl,by decide,by decide⟩⟩
 ·split
  ·rename_i h5
   rw [allRT_eq,Bool.and_eq_true] at hr
   have hb:=many_lo hr.1 h5
   rw [num_T (by omega)]
   have hd:=lx_int (digits_DigL x.lo.natAbs) (digits_len20 _ (by omega))
   have h1:LX calm ([93,32]++varT x.var x.typ) ((5,wSqS)::varK x.var x.typ) :=
    LX.append (t1:=[93,32]) (k1:=[(5,wSqS)]) (LX.append (t1:=[93]) (t2:=[32]) lx_sqS LX.blank (C2:=anyR) (fun r _=>mild32 r)) hv.lx (fun _ _=>trivial)
   have h2:LX calm (digitsN x.lo.natAbs++([93,32]++varT x.var x.typ)) ((3,bs (digitsN x.lo.natAbs))::(5,wSqS)::varK x.var x.typ) :=
    LX.append (k1:=[(3,bs (digitsN x.lo.natAbs))]) hd h1 (fun r _=>calm_cons _ (by decide) (by decide) (by decide) (by decide))
   have h3:LX calm ([91]++(digitsN x.lo.natAbs++([93,32]++varT x.var x.typ))) ((5,wSqO)::(3,bs (digitsN x.lo.natAbs))::(5,wSqS)::varK x.var x.typ) :=
    LX.append (k1:=[(5,wSqO)]) lx_sqO h2 (fun r _=>by rw [List.append_assoc];exact (dig_beg _).mild _)
   refine ⟨?_,⟨91,_,rfl,by decide,by decide⟩⟩
   have e:(91::(digitsN x.lo.natAbs++[93,32]))++varT x.var x.typ=[91]++(digitsN x.lo.natAbs++([93,32]++varT x.var x.typ)):=by simp
   rw [e];exact h3
  ·exact hv
theorem lb_cat {sep:List UInt8} {w:KT} (hs:LX anyR sep [w]) (h32:∃ s,sep=32::s) (need:Int) (l:List Pa) (h:∀ x ∈ l,LB (putE x need) (putK x need)) (hne:l ≠ []):LB (catL sep (putEs need l)) (catK w (putKs need l)):=by
 obtain ⟨s0,rfl⟩:=h32
 have hR:∀ r:List Pa,(∀ x ∈ r,LB (putE x need) (putK x need))→LX calm (catR (32::s0) (putEs need r)) (catKR w (putKs need r))∧(∀ r',calm r'→calm (catR (32::s0) (putEs need r)++r')):=by
  intro r
  induction r with
  | nil=>intro _;exact ⟨by simp only [putEs,putKs,catR,catKR];exact LX.nil,fun r' hr=>by simpa [putEs,catR] using hr⟩
  | cons y r ih =>
   intro hy
   obtain ⟨i1,i2⟩:=ih (fun z hz=>hy z (by simp [hz]))
   have hp:=hy y (by simp)
   simp only [putEs,putKs,catR,catKR]
   refine ⟨?_,fun r' hr=>by rw [List.cons_append];exact calm32 _⟩
   exact LX.append (k1:=[w]) hs (LX.append hp.lx i1 i2) (fun _ _=>trivial)
 cases l with
 | nil=>exact (hne rfl).elim
 | cons y r =>
  obtain ⟨i1,i2⟩:=hR r (fun z hz=>h z (by simp [hz]))
  have hp:=h y (by simp)
  simp only [putEs,putKs,catL,catK]
  exact ⟨LX.append hp.lx i1 i2,hp.beg.append _⟩
/-- a row's node -/
theorem rightT_row {x:Pa} (h:rightT x=true) (hl:lvE x.k ≠ 4):(x.k=2 ∨ x.k=3 ∨ x.k=4)∧2≤x.l.length∧x.var=e0∧x.typ=e0∧x.lo=0∧x.hi=0∧∀ y ∈ x.l,y.k ≠ x.k:=by
 have hk:x.k=2 ∨ x.k=3 ∨ x.k=4:=by
  by_cases h:x.k=2 ∨ x.k=3 ∨ x.k=4
  ·exact h
  ·exact (hl (lvE_leaf.2 ⟨fun g=>h (.inl g),fun g=>h (.inr (.inl g)),fun g=>h (.inr (.inr g))⟩)).elim
 refine ⟨hk,?_⟩
 simp only [rightT,if_neg (by omega:¬ (x.k=1 ∨ x.k=6)),if_neg (by omega:¬ x.k=5),if_pos hk,Bool.and_eq_true,decide_eq_true_eq,Bool.not_eq_true'] at h
 refine ⟨h.1,h.2.1,h.2.2.1,h.2.2.2.1,h.2.2.2.2.1,fun y hy hk=>?_⟩
 have:=h.2.2.2.2.2
 rw [List.any_eq_false] at this
 exact this y hy (by simpa using hk)
theorem lb_put (x:Pa) (hr:allRT x=true):∀ need,LB (putE x need) (putK x need):=by
 induction x using Pa.ind with
 | h x ih =>
  intro need
  have hr':=hr
  rw [allRT_eq,Bool.and_eq_true] at hr'
  rw [putE_eq,putK_eq]
  by_cases hl:lvE x.k=4
  ·rw [if_pos hl,if_pos hl];exact lb_leaf hr hl
  ·rw [if_neg hl,if_neg hl]
   obtain ⟨hk,h2,_⟩:=rightT_row hr'.1 hl
   have hs:LX anyR (sepE x.k) [sepK x.k]∧∃ s,sepE x.k=32::s:=by
    rcases hk with hk | hk | hk<;>rw [hk]
    ·exact ⟨lx_arrow,_,rfl⟩
    ·exact ⟨lx_AND,_,rfl⟩
    ·exact ⟨lx_OR,_,rfl⟩
   have hb:=lb_cat hs.1 hs.2 (lvE x.k+1) x.l (fun y hy=>ih y hy (allRTs_mem hr'.2 hy) _) (fun e=>by rw [e] at h2;simp at h2)
   split
   ·exact lb_paren hb
   ·exact hb
def whereK (l:List Ex):List KT:=if l.length=0 then [] else (1,wWHERE)::kJoinT (rowW false) 3 (bareKs l)
def withinK (n:Int):List KT:=if n=0 then [] else [(1,wWITHIN),(3,bs (digitsN n.natAbs))]
theorem lx_where {l:List Ex} (hl:∀ y ∈ l,allX vX y∧allR y=true):LX calm (whereT l) (whereK l)∧∀ r,calm r→calm (whereT l++r):=by
 simp only [whereT,whereK]
 split
 ·exact ⟨LX.nil,fun r h=>h⟩
 ·rename_i h0
  have hb:=lb_join lx_AND ⟨_,rfl⟩ 3 l (fun y hy=>lb_bare y (hl y hy).1 (hl y hy).2) (fun e=>h0 (by rw [e];rfl))
  exact ⟨LX.append (k1:=[(1,wWHERE)]) lx_WHERE hb.lx (fun _ _=>trivial),fun r _=>by rw [sWHERE];exact calm32 _⟩
theorem lx_within {n:Int} (h0:0≤n) (hn:n≤1099511627776):LX calm (withinT n) (withinK n)∧∀ r,calm r→calm (withinT n++r):=by
 simp only [withinT,withinK]
 split
 ·exact ⟨LX.nil,fun r h=>h⟩
 ·rw [num_T (by omega)]
  have hd:=lx_int (digits_DigL n.natAbs) (digits_len20 _ (by omega))
  exact ⟨LX.append (k1:=[(1,wWITHIN)]) lx_WITHIN hd (fun _ _=>trivial),fun r _=>by rw [sWITHIN];exact calm32 _⟩
def textK (q:Qu):List KT:=(1,wEVERY)::(putK q.p 1++(whereK q.ws++withinK q.within))
theorem lx_textE {q:Qu} (hp:allRT q.p=true) (hl:∀ y ∈ q.ws,allX vX y∧allR y=true) (h0:0≤q.within) (hn:q.within≤1099511627776):LX calm (textE q) (textK q):=by
 have h1:=lb_put q.p hp 1
 obtain ⟨h2,c2⟩:=lx_where hl
 obtain ⟨h3,c3⟩:=lx_within h0 hn
 have e:textE q=sEVERY++(putE q.p 1++(whereT q.ws++withinT q.within)):=by simp [textE]
 rw [e]
 exact LX.append (k1:=[(1,wEVERY)]) lx_EVERY (LX.append h1.lx (LX.append h2 h3 c3) (fun r hr=>by rw [List.append_assoc];exact c2 _ (c3 r hr))) (fun _ _=>trivial)
end Go.Hx
namespace Go.Hx
def stopE (n:Nat) (r:List Tk):Prop:=∀ lv,n≤lv→1≤lv→lv≤3→sepR lv r=false
theorem stopE.mono {n m:Nat} {r:List Tk} (h:stopE n r) (hm:n≤m):stopE m r:=fun lv h1=>h lv (by omega)
theorem sepR_false {lv:Nat} {t:Tk} {k0:KT} (h:kt t=k0) (r:List Tk) (h1:k0 ≠ (5,wArrow)) (h2:k0 ≠ (1,rowW true)) (h3:k0 ≠ (1,rowW false)):sepR lv (t::r)=false:=by
 simp only [sepR]
 split
 ·exact next_of h h1 r
 ·split
  ·exact next_of h h2 r
  ·exact next_of h h3 r
theorem sep_stop {k:Int} (hk:k=2 ∨ k=3 ∨ k=4) {t:Tk} (h:kt t=sepK k) (r:List Tk):stopE ((lvE k).toNat+1) (t::r):=fun lv h1 h2 h3=>by
 rcases hk with rfl | rfl | rfl
 ·have h1:2≤lv:=h1
  simp only [sepR,if_neg (by omega:¬ lv=1)]
  split
  ·exact next_of h (fun h=>absurd (congrArg Prod.fst h) (by decide:¬ (5:Int)=1)) r
  ·exact next_of h (fun h=>absurd (congrArg Prod.fst h) (by decide:¬ (5:Int)=1)) r
 ·have h1:4≤lv:=h1
  omega
 ·have h1:3≤lv:=h1
  simp only [sepR,if_neg (by omega:¬ lv=1),if_neg (by omega:¬ lv=2)]
  exact next_of h (fun h=>absurd (congrArg Prod.snd h) (by decide)) r
theorem sep_is {k:Int} (hk:k=2 ∨ k=3 ∨ k=4) {t:Tk} (h:kt t=sepK k) (r:List Tk):sepR (lvE k).toNat (t::r)=true:=by
 rcases hk with rfl | rfl | rfl
 ·exact next_t (k:=5) (s:=wArrow) h r
 ·exact next_t (k:=1) (s:=rowW false) h r
 ·exact next_t (k:=1) (s:=rowW true) h r
theorem kind_lv {k:Int} (hk:k=2 ∨ k=3 ∨ k=4):kindE (lvE k).toNat=k∧1≤(lvE k).toNat∧(lvE k).toNat≤3∧lvE k=((lvE k).toNat:Int):=by
 rcases hk with rfl | rfl | rfl<;>exact ⟨rfl,by decide,by decide,rfl⟩
theorem lv_kind {m:Nat} (h:1≤m∧m≤3):lvE (kindE m)=m:=by
 have:m=1 ∨ m=2 ∨ m=3:=by omega
 rcases this with rfl | rfl | rfl<;>rfl
theorem joinP_one {k:Int} {x:Pa} (h:x.k ≠ k):joinP k [x]=x:=by simp [joinP,partsP,h]
theorem downE {o:Nat} {t r:List Tk} {x:Pa}:∀ (d n lv:Nat),lv=n+d→1≤n→lv≤4→PE (.row lv) o t (.ok x r)→stopE n r→(∀ m:Nat,n≤m→m < lv→lvE x.k ≠ m)→PE (.row n) o t (.ok x r):=by
 intro d
 induction d with
 | zero => intro n lv e _ _ h _ _; have : lv = n := by omega
           subst this;exact h
 | succ d ih =>
  intro n lv e h1 h4 h hs hm
  obtain ⟨lv',rfl⟩:∃ k,lv=k+1:=⟨lv - 1,by omega⟩
  have hj:=PE.more_no (lv:=lv') (l:=[x]) (o:=o) (hs lv' (by omega) (by omega) (by omega))
  rw [joinP_one (fun hk=>hm lv' (by omega) (by omega) (by rw [hk];exact lv_kind ⟨by omega,by omega⟩))] at hj
  have hp:PE (.row lv') o t (.ok x r):=PE.row_ok (by omega) (by omega) h hj
  exact ih n lv' (by omega) h1 (by omega) hp hs (fun m g1 g2=>hm m g1 (by omega))
theorem leaf_read (k lo:Int) {v t:ByteArray} {l1:List Tk} (h:l1.map kt=varK v t) (r:List Tk):leafR k lo (l1++r)=.ok (ndT k v t lo lo []) r:=by
 obtain ⟨a,l1,rfl,ha,h⟩:=List.map_eq_cons_iff.1 h
 obtain ⟨b,l1,rfl,hb,h⟩:=List.map_eq_cons_iff.1 h
 obtain ⟨c,l1,rfl,hc,h⟩:=List.map_eq_cons_iff.1 h
 have:l1=[]:=List.map_eq_nil_iff.1 h
 subst this
 have a1:a.k=2:=congrArg Prod.fst ha
 have a2:a.s=v:=congrArg Prod.snd ha
 have c1:c.k=2:=congrArg Prod.fst hc
 have c2:c.s=t:=congrArg Prod.snd hc
 have hb':nextIs 5 sEq (b::([c]++r))=true:=next_t hb _
 have hm:mustR 5 sEq (b::([c]++r))=.ok () ([c]++r):=by simp only [mustR,hb',if_true,List.tail_cons]
 have hn:nameR (a::b::([c]++r))=.ok v (b::([c]++r)):=by simp only [nameR,a1,if_true,a2]
 have hn2:nameR ([c]++r)=.ok t r:=by simp only [nameR,List.singleton_append,c1,if_true,c2]
 show leafR k lo (a::b::([c]++r))=_
 simp only [leafR,hn,hm,hn2]
theorem int_read {lo hi n:Int} (h0:0≤n) (h1:lo≤n) (h2:n≤hi) (h3:n≤1099511627776) {t:Tk} (h:kt t=(3,bs (digitsN n.natAbs))) (r:List Tk):intR lo hi (t::r)=.ok n r:=by
 have t1:t.k=3:=congrArg Prod.fst h
 have t2:t.s=bs (digitsN n.natAbs):=congrArg Prod.snd h
 have hval:valD (tx (bs (digitsN n.natAbs)))=n.natAbs:=by rw [tx_bs,digits_val]
 have hnum:numOf false t.s=some n:=by
  simp only [numOf,t2,hval,Bool.false_eq_true,if_false]
  rw [if_pos (by omega)]
  congr 1;omega
 simp only [intR,t1,if_true,hnum]
 rw [if_pos ⟨h1,h2⟩]
theorem exactTs_mem {l:List Pa} (h:exactTs l=true) {x:Pa} (hx:x ∈ l):exactT x=true:=by
 induction l with
 | nil=>cases hx
 | cons y r ih =>
  simp only [exactTs,Bool.and_eq_true] at h
  rcases List.mem_cons.1 hx with rfl | hx
  ·exact h.1
  ·exact ih h.2 hx
theorem leaf_all {x:Pa} (hr:allRT x=true) (he:exactT x=true) (hl:lvE x.k=4) (l1 r:List Tk) (o:Nat) (h:l1.map kt=leafK x.k x.var x.typ x.lo):PE (.row 4) o (l1++r) (.ok (normT x) r):=by
 rw [allRT_eq,Bool.and_eq_true] at hr
 have hr:=hr.1
 rw [exactT_eq,Bool.and_eq_true] at he
 have he:=he.1
 have hx:=normT_eq x
 refine .row4 ?_
 simp only [leafK] at h
 by_cases h6:x.k=6
 ·rw [if_pos h6] at h
  simp only [rightT,if_pos (Or.inr h6:x.k=1 ∨ x.k=6),leafT,Bool.and_eq_true,decide_eq_true_eq] at hr
  obtain ⟨a,l1,rfl,ha,h⟩:=List.map_eq_cons_iff.1 h
  have hlr:=leaf_read 6 0 h r
  rw [hx,h6,hr.2.1,hr.2.2,List.eq_nil_of_length_eq_zero hr.1.1]
  show PE .last o (a::(l1++r)) _
  rw [show (PRT.ok (ndT 6 x.var x.typ 0 0 (List.map normT [])) r)=leafR 6 0 (l1++r) from hlr.symm]
  exact .last_not (next_t ha _)
 ·rw [if_neg h6] at h
  by_cases h5:x.k=5
  ·rw [if_pos h5] at h
   simp only [rightT,if_neg (by omega:¬ (x.k=1 ∨ x.k=6)),if_pos h5,leafT,Bool.and_eq_true,decide_eq_true_eq] at hr
   have hlh:x.lo=x.hi:=by simpa [h5] using he
   have hb:2≤x.lo∧x.lo≤1000:=by
    have:=hr.2
    simp only [countT] at this
    split at this
    ·cases this
    ·split at this
     ·omega
     ·simp only [Bool.and_eq_true,decide_eq_true_eq] at this;omega
   obtain ⟨a,l1,rfl,ha,h⟩:=List.map_eq_cons_iff.1 h
   obtain ⟨b,l1,rfl,hb',h⟩:=List.map_eq_cons_iff.1 h
   obtain ⟨c,l1,rfl,hc,h⟩:=List.map_eq_cons_iff.1 h
   have hi:=int_read (lo:=2) (hi:=1000) (by omega) hb.1 hb.2 (by omega) hb' (c::(l1++r))
   have hc':nextIs 5 wSqS (c::(l1++r))=true:=next_t hc _
   have hm:mustR 5 wSqS (c::(l1++r))=.ok () (l1++r):=by simp only [mustR,hc',if_true,List.tail_cons]
   have hlr:=leaf_read 5 x.lo h r
   have hmany:manyR (b::c::(l1++r))=.ok (ndT 5 x.var x.typ x.lo x.lo []) r:=by simp only [manyR,hi,hm,hlr]
   rw [hx,h5,← hlh,List.eq_nil_of_length_eq_zero hr.1.1]
   show PE .last o (a::(b::c::(l1++r))) _
   rw [show (PRT.ok (ndT 5 x.var x.typ x.lo x.lo (List.map normT [])) r)=manyR (b::c::(l1++r)) from hmany.symm]
   exact .last_many (next_t ha _)
  ·rw [if_neg h5] at h
   have h1:x.k=1:=by
    by_cases h1:x.k=1
    ·exact h1
    ·have:=lvE_leaf.1 hl
     simp only [rightT,if_neg (by omega:¬ (x.k=1 ∨ x.k=6)),if_neg h5,if_neg (by omega:¬ (x.k=2 ∨ x.k=3 ∨ x.k=4))] at hr
     cases hr
   simp only [rightT,if_pos (Or.inl h1:x.k=1 ∨ x.k=6),leafT,Bool.and_eq_true,decide_eq_true_eq] at hr
   have hlr:=leaf_read 1 0 h r
   rw [hx,h1,hr.2.1,hr.2.2,List.eq_nil_of_length_eq_zero hr.1.1]
   rw [show (PRT.ok (ndT 1 x.var x.typ 0 0 (List.map normT [])) r)=leafR 1 0 (l1++r) from hlr.symm]
   obtain ⟨a,l2,rfl,ha,h⟩:=List.map_eq_cons_iff.1 h
   have ak:a.k=2:=congrArg Prod.fst ha
   exact .last_leaf (next_k (by omega) _) (next_k (by omega) _) (next_k (by omega) _)
def PutBack (x:Pa):Prop:=∀ (n:Nat),1≤n→n≤4→∀ (l1 r:List Tk) (o:Nat),l1.map kt=putK x n→o+sizeT x≤64→stopE n r→PE (.row n) o (l1++r) (.ok (normT x) r)
theorem tail_stopE {k:Int} (hk:k=2 ∨ k=3 ∨ k=4) {l:List (List KT)} {l3 r:List Tk} (hl:l3.map kt=catKR (sepK k) l) (hs:stopE ((lvE k).toNat+1) r):stopE ((lvE k).toNat+1) (l3++r):=by
 cases l with
 | nil =>
  have:l3=[]:=List.map_eq_nil_iff.1 hl
  subst this;exact hs
 | cons p l =>
  obtain ⟨t,l',rfl,ht,_⟩:=List.map_eq_cons_iff.1 hl
  exact sep_stop hk ht _
theorem moreE_all {k:Int} (hk:k=2 ∨ k=3 ∨ k=4):∀ (rest acc:List Pa) (l1 r:List Tk) (o:Nat),(∀ y ∈ rest,PutBack y)→l1.map kt=catKR (sepK k) (putKs (lvE k+1) rest)→o+sizeTs rest≤64→stopE (lvE k).toNat r →
  PE (.more (lvE k).toNat acc) o (l1++r) (.ok (joinP k (acc++rest.map normT)) r):=by
 obtain ⟨e1,e2,e3,e4⟩:=kind_lv hk
 intro rest
 induction rest with
 | nil =>
  intro acc l1 r o _ hl _ hs
  have:l1=[]:=List.map_eq_nil_iff.1 hl
  subst this
  rw [List.map_nil,List.append_nil]
  have:=PE.more_no (l:=acc) (o:=o) (hs (lvE k).toNat (Nat.le_refl _) e2 e3)
  rw [e1] at this;exact this
 | cons y rest ih =>
  intro acc l1 r o hy hl ho hs
  simp only [putKs,catKR] at hl
  simp only [sizeTs] at ho
  obtain ⟨t,l2,rfl,ht,hl2⟩:=List.map_eq_cons_iff.1 hl
  obtain ⟨l3,l4,rfl,h3,h4⟩:=List.map_eq_append_iff.1 hl2
  have h3':l3.map kt=putK y (((lvE k).toNat+1:Nat):Int):=by rw [h3,e4];rfl
  have hp:=hy y (by simp) ((lvE k).toNat+1) (by omega) (by omega) l3 (l4++r) o h3' (by omega) (tail_stopE hk h4 (hs.mono (by omega)))
  have hm:=ih (acc++[normT y]) l4 r o (fun z hz=>hy z (by simp [hz])) h4 (by omega) hs
  have e:t::(l3++l4)++r=t::(l3++(l4++r)):=by simp
  have e5:acc++(y::rest).map normT=acc++[normT y]++rest.map normT:=by simp
  rw [e,e5]
  exact .more_ok e2 e3 (sep_is hk ht _) hp hm
theorem partsP_id {k:Int}:∀ {l:List Pa},(∀ y ∈ l,y.k ≠ k)→partsP k l=l
 | [],_=>rfl
 | y::l,h=>by rw [partsP_cons,if_neg (h y (by simp)),partsP_id fun z hz=>h z (by simp [hz])];rfl
theorem joinP_id {k:Int} {l:List Pa} (h:∀ y ∈ l,y.k ≠ k) (h2:2≤l.length):joinP k l=ndT k e0 e0 0 0 l:=by
 simp only [joinP,partsP_id h]
 match l,h2 with
 | _::_::_,_=>rfl
theorem rowE_all {x:Pa} (hr:rightT x=true) (hl:lvE x.k ≠ 4) (hy:∀ y ∈ x.l,PutBack y) (l1 r:List Tk) (o:Nat) (h:l1.map kt=catK (sepK x.k) (putKs (lvE x.k+1) x.l)) (ho:o+sizeT x≤65) (hs:stopE (lvE x.k).toNat r) :
  PE (.row (lvE x.k).toNat) o (l1++r) (.ok (normT x) r):=by
 obtain ⟨hk,hlen,hv,ht,hlo,hhi,hno⟩:=rightT_row hr hl
 obtain ⟨e1,e2,e3,e4⟩:=kind_lv hk
 have hx:normT x=joinP x.k (x.l.map normT):=by
  rw [joinP_id (fun y hy=>by
   obtain ⟨z,hz,rfl⟩:=List.mem_map.1 hy
   rw [normT_k];exact hno z hz) (by rw [List.length_map];exact hlen),normT_eq,hv,ht,hlo,hhi]
 rw [hx]
 rw [sizeT_eq] at ho
 cases hl':x.l with
 | nil=>rw [hl'] at hlen;simp at hlen
 | cons y rest =>
  rw [hl'] at h hy ho
  simp only [putKs,catK] at h
  simp only [sizeTs] at ho
  obtain ⟨l3,l4,rfl,h3,h4⟩:=List.map_eq_append_iff.1 h
  have h3':l3.map kt=putK y (((lvE x.k).toNat+1:Nat):Int):=by rw [h3,e4];rfl
  have hp:=hy y (by simp) ((lvE x.k).toNat+1) (by omega) (by omega) l3 (l4++r) o h3' (by omega) (tail_stopE hk h4 (hs.mono (by omega)))
  have hm:=moreE_all hk rest [normT y] l4 r o (fun z hz=>hy z (by simp [hz])) h4 (by omega) hs
  rw [List.append_assoc]
  exact .row_ok e2 e3 hp hm
theorem shut_stopE {t:Tk} (h:kt t=(5,wShut)) (n:Nat) (r:List Tk):stopE n (t::r):=fun lv _ _ _ =>
 sepR_false h r (fun h=>absurd (congrArg Prod.snd h) (by decide)) (fun h=>absurd (congrArg Prod.fst h) (by decide:¬ (5:Int)=1)) (fun h=>absurd (congrArg Prod.fst h) (by decide:¬ (5:Int)=1))
theorem put_back (x:Pa) (hr:allRT x=true) (he:exactT x=true):PutBack x:=by
 induction x using Pa.ind with
 | h x ih =>
  have hr':=hr
  rw [allRT_eq,Bool.and_eq_true] at hr'
  have he':=he
  rw [exactT_eq,Bool.and_eq_true] at he'
  have ih:∀ y ∈ x.l,PutBack y:=fun y hy=>ih y hy (allRTs_mem hr'.2 hy) (exactTs_mem he'.2 hy)
  intro n h1 h4 l1 r o hl ho hs
  rw [putK_eq] at hl
  by_cases h4':lvE x.k=4
  ·rw [if_pos h4'] at hl
   refine downE (4 - n) n 4 (by omega) h1 (by omega) (leaf_all hr he h4' l1 r o hl) hs (fun m _ hm=>?_)
   rw [normT_k,h4'];omega
  ·rw [if_neg h4'] at hl
   obtain ⟨hk,_⟩:=rightT_row hr'.1 h4'
   obtain ⟨e1,e2,e3,e4⟩:=kind_lv hk
   have hs1:=one_sizeT x
   split at hl
   ·rename_i hlt
    obtain ⟨a,l2,rfl,ha,hl2⟩:=List.map_eq_cons_iff.1 hl
    obtain ⟨l3,l4,rfl,h3,h4⟩:=List.map_eq_append_iff.1 hl2
    obtain ⟨b,l5,rfl,hb,h5⟩:=List.map_eq_cons_iff.1 h4
    have h5:l5=[]:=List.map_eq_nil_iff.1 h5
    subst h5
    have inner:=rowE_all hr'.1 h4' ih l3 (b::r) (o+1) h3 (by omega) (shut_stopE hb _ r)
    have inner:PE (.row 1) (o+1) (l3++(b::r)) (.ok (normT x) (b::r)) :=
     downE ((lvE x.k).toNat - 1) 1 (lvE x.k).toNat (by omega) (by omega) (by omega) inner (shut_stopE hb _ r) (fun m _ hm=>by rw [normT_k];omega)
    have hl:PE (.row 4) o (a::(l3++(b::r))) (.ok (normT x) r):=.row4 (.last_ok (next_t ha _) (by omega) inner (next_t hb _))
    have e:a::(l3++[b])++r=a::(l3++(b::r)):=by simp
    rw [e]
    refine downE (4 - n) n 4 (by omega) h1 (by omega) hl hs (fun m hm _=>?_)
    rw [normT_k];omega
   ·rename_i hlt
    have hp:=rowE_all hr'.1 h4' ih l1 r o hl (by omega) (hs.mono (by omega))
    refine downE ((lvE x.k).toNat - n) n (lvE x.k).toNat (by omega) h1 (by omega) hp hs (fun m _ hm=>?_)
    rw [normT_k];omega
end Go.Hx
namespace Go.Hx
/-- what comes after conditions -/
structure AfterW (r:List Tk):Prop where
 w:nextIs 1 wWHERE r=false
 s:stopAt 1 r
 e:stopE 1 r
theorem after_end (p:Nat):AfterW [⟨6,e0,p⟩] :=
 ⟨rfl,stop_nosign (by show (6:Int) ≠ 5;omega) (by show (6:Int) ≠ 1;omega) _ _,fun lv _ _ _=>by simp only [sepR];split;rfl;split<;>rfl⟩
theorem after_word {t:Tk} (h:kt t=(1,wWITHIN)) (r:List Tk):AfterW (t::r):=by
 have h1:t.k=1:=congrArg Prod.fst h
 have n1:nextIs 1 (rowW true) (t::r)=false:=next_of h (fun h=>absurd (congrArg Prod.snd h) (by decide)) r
 have n2:nextIs 1 (rowW false) (t::r)=false:=next_of h (fun h=>absurd (congrArg Prod.snd h) (by decide)) r
 have n3:nextIs 5 wArrow (t::r)=false:=next_k (by omega) r
 refine ⟨next_of h (fun h=>absurd (congrArg Prod.snd h) (by decide)) r,⟨fun _=>op_none (by omega) r,fun _=>op_none (by omega) r,fun _=>op_none (by omega) r,fun _=>n2,fun _=>n1⟩,fun lv _ _ _=>?_⟩
 simp only [sepR]
 split
 ·exact n3
 ·split
  ·exact n1
  ·exact n2
theorem where_stopE {t:Tk} (h:kt t=(1,wWHERE)) (r:List Tk):stopE 1 (t::r):=fun lv _ _ _ =>
 sepR_false h r (fun h=>absurd (congrArg Prod.fst h) (by decide:¬ (1:Int)=5)) (fun h=>absurd (congrArg Prod.snd h) (by decide)) (fun h=>absurd (congrArg Prod.snd h) (by decide))
theorem join_norm {x:Ex} (hr:allR x=true) {k:Int} (hk:k=16 ∨ k=17):joinE k [norm x]=norm x:=by
 by_cases h:x.k=k
 ·rw [allR_eq,Bool.and_eq_true] at hr
  rcases right_cases hr.1 with ⟨g,_⟩ | ⟨g,_⟩ | ⟨hb,⟨g,_⟩ | ⟨g1,g2,_⟩ | ⟨_,hlen,_⟩⟩
  ·omega
  ·omega
  ·omega
  ·omega
  ·obtain ⟨e1,e2,e3⟩:=bare_e0 hb
   have hp:partsJ k [norm x]=x.l.map norm:=by
    rw [parts_cons,norm_k,if_pos h,norm_l];simp [partsJ]
   have hl:2≤(x.l.map norm).length:=by rw [List.length_map];exact hlen
   have hn:norm x=nd k nullV e0 e0 (x.l.map norm):=by rw [norm_eq,h,e1,e2,e3]
   rw [hn] at hp ⊢
   simp only [joinE,hp]
   match x.l.map norm,hl with
   | _::_::_,_=>rfl
 ·exact join_one (by rw [norm_k];exact h)
theorem allRs_norm:∀ {l:List Ex},(∀ y ∈ l,allR y=true)→allRs (l.map norm)=true
 | [],_=>rfl
 | y::l,h=>by simp only [List.map_cons,allRs,norm_allR,h y (by simp),allRs_norm (l:=l) (fun z hz=>h z (by simp [hz])),Bool.and_self]
theorem and_check {l:List Ex} (hR:∀ y ∈ l,allR y=true) (h2:2≤l.length) (h16:∀ y ∈ l,y.k ≠ 16) (hs:sizeXs l < 100):checkP (nd 16 nullV e0 e0 (l.map norm))=0:=by
 have hsz:sizeX (nd 16 nullV e0 e0 (l.map norm))=1+sizeXs l:=by rw [← sizeXs_norm l];simp [nd,sizeX]
 have hany:((l.map norm).any fun y=>decide (y.k=16))=false:=by
  rw [List.any_eq_false]
  intro y hy
  obtain ⟨z,hz,rfl⟩:=List.mem_map.1 hy
  rw [norm_k]
  simpa using h16 z hz
 have hr:allR (nd 16 nullV e0 e0 (l.map norm))=true:=by
  rw [allR_eq,Bool.and_eq_true]
  refine ⟨?_,allRs_norm hR⟩
  have hb:bareP (nd 16 nullV e0 e0 (l.map norm))=true:=rfl
  have e:rightP (nd 16 nullV e0 e0 (l.map norm))=(isRowP 16 && (decide (2≤(l.map norm).length) && !((l.map norm).any fun y=>decide (y.k=16)))):=rfl
  have h2':decide (2≤(l.map norm).length)=true:=decide_eq_true (by rw [List.length_map];exact h2)
  rw [e,hany,h2']
  rfl
 rw [checkP_eq _ (by omega),hsz,if_neg (by omega),hr]
 rfl
theorem where_back {l:List Ex} (hR:∀ y ∈ l,allX vX y∧allR y=true) (h16:∀ y ∈ l,y.k ≠ 16) (hs:sizeXs l < 100) (hc:∀ y ∈ l,checkP y=0) {r:List Tk} (ha:AfterW r) (l1:List Tk) (hl:l1.map kt=whereK l):WhereR (l1++r) (.ok (l.map norm) r):=by
 simp only [whereK] at hl
 split at hl
 ·rename_i h0
  have h1:l1=[]:=List.map_eq_nil_iff.1 hl
  have h2:l=[]:=List.eq_nil_of_length_eq_zero h0
  subst h1 h2
  exact .no ha.w
 ·rename_i h0
  obtain ⟨t,l2,rfl,ht,hl2⟩:=List.map_eq_cons_iff.1 hl
  have hn:nextIs 1 wWHERE (t::(l2++r))=true:=next_t ht _
  cases l with
  | nil=>exact (h0 rfl).elim
  | cons y rest =>
   simp only [bareKs,kJoinT] at hl2
   simp only [sizeXs] at hs
   obtain ⟨l3,l4,rfl,h3,h4⟩:=List.map_eq_append_iff.1 hl2
   have ha3:stopAt (needR false) r:=ha.s.mono (by decide)
   have hy:=hR y (by simp)
   have hp:=pl_of (need:=needR false) hy.2 (pb_all y hy.1 hy.2) (by decide) (by decide) l3 (l4++r) 0 h3 (by omega) (tail_stop h4 ha3)
   rw [← rowP_goal] at hp
   have hm:=more_all false rest [norm y] l4 r 0 (fun z hz=>⟨(hR z (by simp [hz])).2,pb_all z (hR z (by simp [hz])).1 (hR z (by simp [hz])).2⟩) h4 (by omega) ha3 (ha.s.2.2.2.1 (by omega))
   have hrow:P (.row false) 0 (l3++(l4++r)) (.ok (joinE 16 ([norm y]++rest.map norm)) r):=.row_ok hp hm
   have up:∀ x:Ex,joinE 17 [x]=x→joinE 16 ([norm y]++rest.map norm)=x→P (.row true) 0 (l3++(l4++r)) (.ok x r):=fun x h17 e=>by
    rw [e] at hrow
    have hj:=P.more_no (b:=true) (l:=[x]) (o:=0) (ha.s.2.2.2.2 (by omega))
    rw [show rowK true=17 from rfl,h17] at hj
    exact P.row_ok (b:=true) hrow hj
   have e:t::(l3++l4)++r=t::(l3++(l4++r)):=by simp
   rw [List.append_assoc] at hn
   rw [e]
   cases rest with
   | nil =>
    have hx:=up (norm y) (join_norm hy.2 (.inr rfl)) (join_norm hy.2 (.inl rfl))
    have:=WhereR.ok hn hx (by rw [norm_check (by have:=hs;omega)];exact hc y (by simp))
    simp only [whereL,norm_k,if_neg (h16 y (by simp))] at this
    exact this
   | cons z rest =>
    have hid:joinE 16 ((y::z::rest).map norm)=nd 16 nullV e0 e0 ((y::z::rest).map norm):=join_id (fun w hw=>by
     obtain ⟨u,hu,rfl⟩:=List.mem_map.1 hw
     rw [norm_k];exact h16 u hu) (by simp)
    have hx:=up (nd 16 nullV e0 e0 ((y::z::rest).map norm)) (join_one (show (16:Int) ≠ 17 by decide)) hid
    exact WhereR.ok hn hx (and_check (fun u hu=>(hR u hu).2) (by simp) h16 (by simp only [sizeXs] at hs ⊢;omega))
theorem within_back {n:Int} (h0:0≤n) (hn:n≤1099511627776) (l1:List Tk) (hl:l1.map kt=withinK n) (p:Nat):withinR (l1++[⟨6,e0,p⟩])=.ok n [⟨6,e0,p⟩]∧AfterW (l1++[⟨6,e0,p⟩]):=by
 simp only [withinK] at hl
 split at hl
 ·rename_i hz
  have h1:l1=[]:=List.map_eq_nil_iff.1 hl
  subst h1 hz
  exact ⟨rfl,after_end p⟩
 ·rename_i hz
  obtain ⟨t,l2,rfl,ht,hl2⟩:=List.map_eq_cons_iff.1 hl
  obtain ⟨u,l3,rfl,hu,hl3⟩:=List.map_eq_cons_iff.1 hl2
  have h3:l3=[]:=List.map_eq_nil_iff.1 hl3
  subst h3
  refine ⟨?_,after_word ht _⟩
  show withinR (t::u::[⟨6,e0,p⟩])=_
  simp only [withinR,next_t ht,if_true,List.tail_cons]
  exact int_read h0 (by omega) hn hn hu _
/-- a query whose text is whole -/
structure BackQ (q:Qu):Prop where
 ok:OkQ q
 fine:fineP q=0
 plain:plainE q=true
theorem back_within {q:Qu} (hf:FineQ q):0≤q.within∧q.within≤1099511627776∧(∀ y ∈ q.ws,y.k ≠ 16):=by
 have h:=hf.rest
 simp only [restP] at h
 split at h
 ·rename_i h1
  have h2:=h1.2.1
  simp only [rangeP,Bool.and_eq_true,decide_eq_true_eq] at h2
  have h3:=h1.2.2.1
  rw [List.any_eq_false] at h3
  exact ⟨h2.2.2.1,h2.2.2.2,fun y hy hk=>h3 y hy (by simpa using hk)⟩
 ·cases h
theorem plain_of {q:Qu} (h:plainE q=true):exactT q.p=true∧q.key=e0∧q.its=[]∧q.mode=0:=by
 simp only [plainE,Bool.and_eq_true,decide_eq_true_eq] at h
 exact ⟨h.1,h.2.1,List.eq_nil_of_length_eq_zero h.2.2.1,h.2.2.2⟩
theorem epl_back {q:Qu} (hb:BackQ q) (hl:(textE q).length≤8192):EplR (bs (textE q)) (.ok (qOf (normT q.p) (q.ws.map norm) q.within))∧SameQ q (qOf (normT q.p) (q.ws.map norm) q.within):=by
 have hf:=fine_of hb.fine
 obtain ⟨hex,hkey,hits,hmode⟩:=plain_of hb.plain
 obtain ⟨w0,w1,w16⟩:=back_within hf
 have hsum:=hf.sum
 have hR:∀ y ∈ q.ws,allX vX y∧allR y=true:=fun y hy=>⟨(hb.ok.wx y hy).2,checkP_all (rowErr_all hf.row y hy)⟩
 have hsame:SameQ q (qOf (normT q.p) (q.ws.map norm) q.within):=⟨(normT_idem q.p).symm,by show _=(q.ws.map norm).map norm;rw [List.map_map];exact List.map_congr_left fun z _=>(norm_idem z).symm,hkey,hmode,rfl,hits⟩
 have hsz:(bs (textE q)).size=(textE q).length:=by rw [← size_list]
 obtain ⟨l1,e1,m1⟩:=(lx_textE hf.all hR w0 w1) 0 [] [(⟨6,e0,0+(textE q).length⟩:Tk)] calm_nil (by rw [lexW])
 rw [List.append_nil] at e1
 have hlex:lexA (bs (textE q))=.ok (l1++[(⟨6,e0,0+(textE q).length⟩:Tk)]):=by
  rw [lexA,if_neg (by omega)]
  have:tx (bs (textE q))=textE q:=tx_bs _
  rw [this];exact e1
 generalize 0+(textE q).length=pe at hlex
 obtain ⟨t,l2,rfl,ht,m2⟩:=List.map_eq_cons_iff.1 m1
 obtain ⟨l3,l4,rfl,m3,m4⟩:=List.map_eq_append_iff.1 m2
 obtain ⟨l5,l6,rfl,m5,m6⟩:=List.map_eq_append_iff.1 m4
 obtain ⟨hwi,haf⟩:=within_back w0 w1 l6 m6 pe
 have hwh:=where_back hR w16 hsum (rowErr_all hf.row) haf l5 m5
 have hst:stopE 1 (l5++(l6++[(⟨6,e0,pe⟩:Tk)])):=by
  simp only [whereK] at m5
  split at m5
  ·have:l5=[]:=List.map_eq_nil_iff.1 m5
   subst this
   exact haf.e
  ·obtain ⟨u,l7,rfl,hu,_⟩:=List.map_eq_cons_iff.1 m5
   exact where_stopE hu _
 have hp:=put_back q.p hf.all hex 1 (by omega) (by omega) l3 (l5++(l6++[(⟨6,e0,pe⟩:Tk)])) 0 m3 (by have:=hf.size;omega) hst
 refine ⟨?_,hsame⟩
 have hev:nextIs 1 wEVERY (t::(l3++(l5++l6))++[(⟨6,e0,pe⟩:Tk)])=true:=next_t ht _
 have htl:(t::(l3++(l5++l6))++[(⟨6,e0,pe⟩:Tk)]).tail=l3++(l5++(l6++[(⟨6,e0,pe⟩:Tk)])):=by simp
 refine .fin hlex hev (htl ▸ hp) hwh hwi (.ok rfl ?_)
 rw [← fine_same hsame (by omega) (by show sizeXs (q.ws.map norm)≤_;rw [sizeXs_norm];omega)]
 exact hb.fine
theorem WhereR_pos {r:List Tk} {e:Int} {p:Nat} (h:WhereR r (.bad e p)) (he:endsT r) {n:Nat} (hn:∀ t ∈ r,t.p≤n):p≤n:=by
 cases h with
 | bad h hP=>exact P_pos hP n (endsT_tail he (by rw [(nextIs_cons h).1];decide)) (fun u hu=>hn u (by simp [hu])) _ _ rfl
 | long h hP hc=>exact posn_le fun u hu=>hn u (by simp [hu])
theorem EplR_bad {s:ByteArray} {p:Nat} {e:Int} (h:EplR s (.bad p e)):p≤s.size∧e ≠ 0:=by
 have tl:∀ {L:List Tk},nextIs 1 wEVERY L=true→endsT L→endsT L.tail∧∀ u ∈ L.tail,u ∈ L:=fun h he=>by
  obtain ⟨t,r,rfl,hk,_⟩:=nextIs_ne h
  exact ⟨endsT_tail he (by omega),fun u hu=>by simp at hu ⊢;exact .inr hu⟩
 cases h with
 | lex h=>exact lexA_bad h
 | every h _=>exact ⟨posn_le (lexA_pos h),by decide⟩
 | pat h hn hP =>
  obtain ⟨h1,h2⟩:=tl hn (lexA_len h).2
  have:=(PE_facts hP s.size).bad _ _ rfl h1
  exact ⟨this.2 fun u hu=>lexA_pos h u (h2 u hu),this.1⟩
 | wh h hn hP hW =>
  obtain ⟨h1,h2⟩:=tl hn (lexA_len h).2
  have hs:=((PE_facts hP s.size).ok _ _ rfl h1).1
  exact ⟨WhereR_pos hW hs.1 (hs.mem fun u hu=>lexA_pos h u (h2 u hu)),(WhereR_facts hW hs.1).bad _ _ rfl⟩
 | within h hn hP hW hi =>
  obtain ⟨h1,h2⟩:=tl hn (lexA_len h).2
  have hs:=((PE_facts hP s.size).ok _ _ rfl h1).1
  have hs2:=(WhereR_facts hW hs.1).ok _ _ rfl
  have:=(withinR_facts s.size _).2 _ _ hi
  exact ⟨this.2 (hs2.mem (hs.mem fun u hu=>lexA_pos h u (h2 u hu))),by omega⟩
 | fin h hn hP hW hi hE =>
  obtain ⟨h1,h2⟩:=tl hn (lexA_len h).2
  have hs:=((PE_facts hP s.size).ok _ _ rfl h1).1
  have hs2:=(WhereR_facts hW hs.1).ok _ _ rfl
  have hs3:=(withinR_facts s.size _).1 _ _ hi hs2.1
  have hm:=hs3.mem (hs2.mem (hs.mem fun u hu=>lexA_pos h u (h2 u hu)))
  cases hE with
  | more=>exact ⟨posn_le hm,by decide⟩
  | long=>exact ⟨Nat.zero_le _,by decide⟩
  | bad=>exact ⟨Nat.zero_le _,by decide⟩
/-- what is read is plain -/
theorem exactTs_of {l:List Pa} (h:∀ x ∈ l,exactT x=true):exactTs l=true:=by
 induction l with
 | nil=>rfl
 | cons x l ih=>simp only [exactTs,h x (by simp),ih fun y hy=>h y (by simp [hy]),Bool.and_self]
theorem exact_nd {k lo:Int} {v t:ByteArray} {l:List Pa} (h:∀ x ∈ l,exactT x=true):exactT (ndT k v t lo lo l)=true:=by
 rw [exactT_eq]
 show (!(decide (k=5) && !decide (lo=lo)) && exactTs l)=true
 rw [exactTs_of h];simp
theorem exact_join {k:Int} {l:List Pa} (h:∀ x ∈ l,exactT x=true):exactT (joinP k l)=true:=by
 have hp:∀ x ∈ partsP k l,exactT x=true:=fun x hx=>by
  simp only [partsP,List.mem_flatMap] at hx
  obtain ⟨y,hy,hx⟩:=hx
  split at hx
  ·have:=h y hy
   rw [exactT_eq,Bool.and_eq_true] at this
   exact exactTs_mem this.2 hx
  ·simp at hx;subst hx;exact h _ hy
 simp only [joinP]
 split
 ·rename_i x hx;exact hp x (by rw [hx];simp)
 ·exact exact_nd hp
theorem exact_leaf {k lo:Int} {r r1:List Tk} {x:Pa} (h:leafR k lo r=.ok x r1):exactT x=true:=by
 simp only [leafR] at h
 split at h
 ·cases h
 ·split at h
  ·cases h
  ·split at h
   ·cases h
   ·cases h;exact exact_nd (fun _ h=>by cases h)
theorem exact_many {r r1:List Tk} {x:Pa} (h:manyR r=.ok x r1):exactT x=true:=by
 simp only [manyR] at h
 split at h
 ·cases h
 ·split at h
  ·cases h
  ·exact exact_leaf h
theorem PE_exact {g:GE} {o:Nat} {r:List Tk} {R:PRT} (h:PE g o r R):∀ x r1,R=.ok x r1→(∀ lv l,g=.more lv l→∀ y ∈ l,exactT y=true)→exactT x=true:=by
 induction h with
 | row4 _ ih=>exact fun x r1 e _=>ih x r1 e (fun _ _ h=>by cases h)
 | row_bad=>intro x r1 e;cases e
 | row_ok _ _ _ _ ih1 ih2=>exact fun x r1 e _=>ih2 x r1 e (fun _ _ h y hy=>by cases h;simp at hy;subst hy;exact ih1 _ _ rfl (fun _ _ h=>by cases h))
 | more_no=>intro x r1 e hl;cases e;exact exact_join (hl _ _ rfl)
 | more_bad=>intro x r1 e;cases e
 | more_ok _ _ _ _ _ ih1 ih2=>exact fun x r1 e hl=>ih2 x r1 e (fun _ _ h y hy=>by
   cases h
   simp only [List.mem_append,List.mem_singleton] at hy
   rcases hy with hy | hy
   ·exact hl _ _ rfl y hy
   ·subst hy;exact ih1 _ _ rfl (fun _ _ h=>by cases h))
 | last_not=>intro x r1 e _;exact exact_leaf e
 | last_many=>intro x r1 e _;exact exact_many e
 | last_long=>intro x r1 e;cases e
 | last_bad=>intro x r1 e;cases e
 | last_open=>intro x r1 e;cases e
 | last_ok _ _ _ _ ih=>intro x r1 e _;cases e;exact ih _ _ rfl (fun _ _ h=>by cases h)
 | last_leaf=>intro x r1 e _;exact exact_leaf e
theorem EplR_ok {s:ByteArray} {q:Qu} (h:EplR s (.ok q)):fineP q=0∧plainE q=true:=by
 cases h with
 | fin h hn hP hW hi hE =>
  cases hE with
  | ok _ hf =>
   refine ⟨hf,?_⟩
   have:=PE_exact hP _ _ rfl (fun _ _ h=>by cases h)
   simp only [plainE,qOf,this]
   rfl
end Go.Hx
namespace Go.Hx
theorem bare_map {l:List Ex} (sep:List UInt8) (need:Int):joinT sep need (bareTs (l.map norm))=joinT sep need (bareTs l):=by
 have hl:∀ l:List Ex,joinR sep need (bareTs (l.map norm))=joinR sep need (bareTs l):=by
  intro l
  induction l with
  | nil=>rfl
  | cons y l ih=>simp only [List.map_cons,bareTs,joinR,ih,parT,norm_bare,norm_level]
 cases l with
 | nil=>rfl
 | cons y l=>simp only [List.map_cons,bareTs,joinT,hl,parT,norm_bare,norm_level]
theorem whereT_same {l l':List Ex} (h:l.map norm=l'.map norm):whereT l=whereT l':=by
 have hlen:l.length=l'.length:=by have:=congrArg List.length h;simpa using this
 have hj:joinT sAND 3 (bareTs l)=joinT sAND 3 (bareTs l'):=by rw [← bare_map,h,bare_map]
 simp only [whereT,hlen,hj]
theorem textE_same {q q':Qu} (h:SameQ q q'):textE q=textE q':=by
 have h1:putE q.p 1=putE q'.p 1:=by rw [← normT_put,h.p,normT_put]
 simp only [textE,h1,whereT_same h.ws,h.within]
theorem SameQ.symm {q q':Qu} (h:SameQ q q'):SameQ q' q:=⟨h.p.symm,h.ws.symm,h.key.symm,h.mode.symm,h.within.symm,h.its.symm⟩
theorem SameQ.trans {q q' q2:Qu} (h:SameQ q q') (g:SameQ q' q2):SameQ q q2:=⟨h.p.trans g.p,h.ws.trans g.ws,h.key.trans g.key,h.mode.trans g.mode,h.within.trans g.within,h.its.trans g.its⟩
theorem zQu_enc:zQu=encQ (qA zPa):=by kernel_rfl
theorem eE0:binA Pg .eql 9 true (S e0) (S ⟨#[]⟩)=some (B true):=by rw [s_eql];rfl
theorem print_fine {q:Qu} (hf:fineP q=0) (hp:plainE q=true):printE q=.tup [S (bs (textE q)),I 0]:=by
 simp only [printE,hf,hp,ne_eq,not_true,if_false,Bool.true_eq_false];rfl
theorem c9 (q:Qu) (hok:OkQ q) (H:Heap) (Q:Post) (hq:∀ H',HExt H H'→Q (B true) H'):E 9 [encQ q] H Q:=by
 have d0:decide ((0:Int)=0)=true:=rfl
 have dl:∀ n:Int,decide (n=n)=true:=fun n=>decide_eq_true rfl
 have no:∀ (e:Int) (H1:Heap),HExt H H1→e ≠ 0→f9_j15 (qC q) (S e0) (I e) (B true) H1 Q:=fun e H1 h1 he=>by
  rw [f9_j15_eq,cnd_t,i_eql,ob_some,decide_eq_false he,cnd_f,eE0,ob_some,cnd_t]
  refine c33 H1 _ (fun H2 h2=>?_)
  rw [f9_j18_eq]
  exact hq H2 (h1.trans h2)
 rw [f9_eq,szQ,ob_some,partQ,ob_some]
 refine c37 q hok H _ (fun H1 h1=>?_)
 by_cases hf:fineP q=0
 ·cases hp:plainE q with
  | false =>
   have e:printE q=.tup [S e0,I 12]:=by simp only [printE,hf,hp,ne_eq,not_true,if_false,if_true]
   have d12:decide ((12:Int)=0)=false:=rfl
   rw [e,x20,ob_some,x21,ob_some,i_eql,ob_some,d12,ob_some]
   refine c38 q hok H1 _ (fun H2 h2=>?_)
   rw [hf,hp,b_neq 4 false u4,ob_some,Bool.and_false,beq_self_eq_true,Bool.not_true,cnd_f,i_neq,ob_some,d12,Bool.not_false,cnd_t]
   exact no 12 H2 (h1.trans h2) (by decide)
  | true =>
   rw [print_fine hf hp,x20,ob_some,x21,ob_some,i_eql,ob_some,d0,ob_some]
   refine c38 q hok H1 _ (fun H2 h2=>?_)
   rw [hf,hp,d0,b_neq 4 false u4,ob_some,Bool.true_and,beq_self_eq_true,Bool.not_true,cnd_f,i_neq,ob_some,d0,Bool.not_true,cnd_f,len_S,ob_some,i_gtr,ob_some,f9_j15_eq]
   refine cnd_intro (fun _=>?_) (fun hg=>?_)
   ·rw [i_eql,ob_some,d0,cnd_t]
    refine c33 H2 _ (fun H3 h3=>?_)
    rw [f9_j18_eq]
    exact hq H3 ((h1.trans h2).trans h3)
   ·have hlen:(textE q).length≤8192:=by rw [size_bs] at hg;simp at hg;omega
    obtain ⟨hE,hs⟩:=epl_back ⟨hok,hf,hp⟩ hlen
    refine c30 _ (by rw [size_bs];omega) H2 _ hE (fun q' H3 h3 hs' hok' hits hws=>?_)
    have hsame:SameQ q' q:=hs'.trans hs.symm
    have hps':sizeT q'.p≤1099511627776:=by rw [← normT_size,hsame.p,normT_size];exact hok.ps
    rw [x3_0,ob_some,x3_1,ob_some,x3_2,ob_some,szQ,ob_some,splQ',ob_some,i_eql,ob_some,d0,cnd_t,len_S,ob_some,i_eql,ob_some,dl,f9_c7_8a_eq,cnd_t,partQ,ob_some,partQ,ob_some,
     c39 hsame hits hps' (by omega),f9_c7_13a_eq,cnd_t]
    refine c33 H3 _ (fun H4 h4=>?_)
    rw [f9_c7_16a_eq,f9_j24_eq]
    exact hq H4 (((h1.trans h2).trans h3).trans h4)
 ·have e:printE q=.tup [S e0,I (fineP q)]:=by simp only [printE,ne_eq,hf,not_false_eq_true,if_true]
  have dn:decide (fineP q=0)=false:=decide_eq_false hf
  rw [e,x20,ob_some,x21,ob_some,i_eql,ob_some,dn,ob_some]
  refine c38 q hok H1 _ (fun H2 h2=>?_)
  rw [dn,b_neq 4 false u4,ob_some,Bool.false_and,beq_self_eq_true,Bool.not_true,cnd_f,i_neq,ob_some,dn,Bool.not_false,cnd_t]
  exact no _ H2 (h1.trans h2) hf
theorem query_fine {q:Qu} (h:fineP q=0):queryP q=0∧madeP q.p=0:=by
 simp only [fineP] at h
 split at h
 ·rename_i h1;exact absurd h h1
 ·rename_i h1;exact ⟨by simpa using h1,h⟩
theorem c10 (s:ByteArray) (hsz:s.size≤1048576) (H:Heap) (Q:Post) (hq:∀ H',HExt H H'→Q (B true) H'):E 10 [S s] H Q:=by
 have d0:decide ((0:Int)=0)=true:=rfl
 have dl:∀ n:Int,decide (n=n)=true:=fun n=>decide_eq_true rfl
 obtain ⟨R,hR⟩:=EplR_total s
 rw [f10_eq]
 refine c30 s (by omega) H _ hR ?_
 cases R with
 | bad p e =>
  intro H1 h1
  obtain ⟨hp,he⟩:=EplR_bad hR
  have de:decide (e=0)=false:=decide_eq_false he
  have g0:decide ((0:Int)≤(p:Int))=true:=decide_eq_true (by omega)
  have g1:decide ((p:Int)≤(s.size:Int))=true:=decide_eq_true (by omega)
  simp only [x3_0,x3_1,x3_2,ob_some,zQ_s,zQ_l,i_neq,de,Bool.not_false,cnd_t,i_geq,g0,len_S,i_leq,g1,f10_c3_8a_eq,zQ_p,zQ_b]
  rw [zQu_enc,c39 ⟨rfl,rfl,rfl,rfl,rfl,rfl⟩ rfl (by decide) (by decide),f10_c3_13a_eq,cnd_t]
  refine c33 H1 _ (fun H2 h2=>?_)
  rw [f10_c3_16a_eq,f10_j10_eq]
  exact hq H2 (h1.trans h2)
 | ok q0 =>
  intro q H1 h1 hs hok hits hws
  obtain ⟨hf0,hp0⟩:=EplR_ok hR
  have hw0:sizeXs q0.ws≤1048576:=by rw [← sizeXs_norm,← hs.ws,sizeXs_norm];exact hws
  have hf:fineP q=0:=by rw [fine_same hs (by omega) (by omega)];exact hf0
  have hp:plainE q=true:=by rw [plain_same hs];exact hp0
  obtain ⟨hqp,hmp⟩:=query_fine hf
  rw [x3_0,ob_some,x3_1,ob_some,x3_2,ob_some,szQ,ob_some,splQ',ob_some,i_neq,ob_some,d0,Bool.not_true,cnd_f,partQ,ob_some]
  refine c37 q hok H1 _ (fun H2 h2=>?_)
  rw [print_fine hf hp,x20,ob_some,x21,ob_some,i_neq,ob_some,d0,Bool.not_true,cnd_f,len_S,ob_some,i_neq,ob_some,dl,Bool.not_true,f10_c5_8b_eq,cnd_f,partQ,ob_some]
  refine c40 q hok H2 _ (fun H3 h3=>?_)
  rw [hqp,i_neq,ob_some,d0,Bool.not_true,f10_c5_13b_eq,cnd_f,partQT,ob_some]
  refine c41 q.p hok.p hok.ps H3 _ (fun H4 h4=>?_)
  rw [hmp,i_neq,ob_some,d0,Bool.not_true,f10_c5_19b_eq,cnd_f,partQ,ob_some]
  refine c38 q hok H4 _ (fun H5 h5=>?_)
  rw [hf,hp,d0,not_B,ob_some,f10_j17_eq,Bool.true_and,Bool.not_true,cnd_f,len_S,ob_some,i_gtr,ob_some]
  have h15:=(((h1.trans h2).trans h3).trans h4).trans h5
  refine cnd_intro (fun _=>c33 H5 _ (fun H6 h6=>hq H6 (h15.trans h6))) (fun hg=>?_)
  have hlen:(textE q).length≤8192:=by rw [size_bs] at hg;simp at hg;omega
  obtain ⟨hE,hs2⟩:=epl_back ⟨hok,hf,hp⟩ hlen
  refine c30 _ (by rw [size_bs];omega) H5 _ hE (fun q' H6 h6 hs' hok' hits' hws'=>?_)
  have hsame:SameQ q' q:=hs'.trans hs2.symm
  have hf':fineP q'=0:=by rw [fine_same hsame (by omega) (by omega)];exact hf
  have hp':plainE q'=true:=by rw [plain_same hsame];exact hp
  rw [x3_0,ob_some,x3_1,ob_some,x3_2,ob_some,szQ,ob_some,splQ',ob_some,partQ,ob_some]
  refine c37 q' hok' H6 _ (fun H7 h7=>?_)
  have ds:decide (bs (textE q')=bs (textE q))=true:=decide_eq_true (by rw [textE_same hsame])
  rw [print_fine hf' hp',x20,ob_some,x21,ob_some,i_eql,ob_some,d0,cnd_t,ob_some,f10_c11_6a_eq,cnd_t,partQ,ob_some,partQ,ob_some,c39 hsame hits' hok'.ps (by omega),f10_c11_11a_eq,cnd_t,s_eql,ob_some,ds,f10_c11_16a_eq,cnd_t]
  refine c33 H7 _ (fun H8 h8=>?_)
  rw [f10_c11_19a_eq,f10_j36_eq]
  exact hq H8 (((h15.trans h6).trans h7).trans h8)
end Go.Hx
namespace Go.Hx
/-- numbers of a node are numbers -/
def rT (x:Pa):Prop:=rng x.lo∧rng x.hi
theorem allTs_of {p:Pa→Prop}:∀ {l:List Pa},(∀ y ∈ l,allT p y)→allTs p l
 | [],_=>trivial
 | y::r,h=>⟨h y (by simp),allTs_of (fun z hz=>h z (by simp [hz]))⟩
theorem has_T:∀ (n:Nat) {cs:List AV},HasT Pg n 56 cs→∃ x:Pa,cs=encTC x∧allT rT x:=by
 intro n
 induction n using Nat.strongRecOn with
 | _ n ih =>
  intro cs h
  cases n with
  | zero=>exact h.elim
  | succ n =>
   have h:=h.str
   have e:StrT Pg n 56 cs=(cs.length=6∧(HasT Pg n 3 ((cs.drop 0).take 1)∧(HasT Pg n 9 ((cs.drop 1).take 1)∧(HasT Pg n 9 ((cs.drop 2).take 1)∧(HasT Pg n 3 ((cs.drop 3).take 1)∧(HasT Pg n 3 ((cs.drop 4).take 1)∧(HasT Pg n 54 ((cs.drop 5).take 1)∧True))))))):=by kernel_rfl
   rw [e] at h
   obtain ⟨hl,h1,h2,h3,h4,h5,h6,_⟩:=h
   match cs,hl with
   | [a,b,c,d,e,g],_ =>
    obtain ⟨i,hi,wi⟩:=has_int 3 (.inl rfl) h1
    obtain ⟨s,hs⟩:=has_S h2
    obtain ⟨s',hs'⟩:=has_S h3
    obtain ⟨lo,hlo,wlo⟩:=has_int 3 (.inl rfl) h4
    obtain ⟨hi',hhi,whi⟩:=has_int 3 (.inl rfl) h5
    simp at hi hs hs' hlo hhi h6
    subst hi hs hs' hlo hhi
    cases n with
    | zero=>exact h6.elim
    | succ m =>
     have e:HasT Pg (m+1) 54 [g]=([g]=[AV.sl 6 true .full []] ∨ ∃ xs:List AV,[g]=[AV.sl 6 false .any xs]∧∀ x ∈ xs,∃ c,x=packA Pg 56 c∧HasT Pg m 56 c):=by kernel_rfl
     rw [e] at h6
     rcases h6 with hg | ⟨xs,hg,hall⟩
     ·simp at hg;subst hg
      exact ⟨.mk i s s' lo hi' 6 true .full [],by simp [encTC,encTCs],by rw [allT_eq];exact ⟨⟨wlo,whi⟩,trivial⟩⟩
     ·simp at hg;subst hg
      obtain ⟨l,rfl,hlv⟩:=map_of2 (f:=encT) (p:=allT rT) xs (fun x hx=>by
       obtain ⟨c,rfl,hc⟩:=hall x hx
       obtain ⟨y,rfl,hy⟩:=ih m (by omega) hc
       exact ⟨y,by kernel_rfl,hy⟩)
      exact ⟨.mk i s s' lo hi' 6 false .any l,by simp [encTC,encTCs_map],by rw [allT_eq];exact ⟨⟨wlo,whi⟩,allTs_of hlv⟩⟩
theorem has_It {n:Nat} {cs:List AV} (h:HasT Pg n 120 cs):∃ x:It,cs=itC x:=by
 cases n with
 | zero=>exact h.elim
 | succ n =>
  have h:=h.str
  have e:StrT Pg n 120 cs=(cs.length=4∧(HasT Pg n 9 ((cs.drop 0).take 1)∧(HasT Pg n 3 ((cs.drop 1).take 1)∧(HasT Pg n 9 ((cs.drop 2).take 1)∧(HasT Pg n 9 ((cs.drop 3).take 1)∧True))))):=by kernel_rfl
  rw [e] at h
  obtain ⟨hl,h1,h2,h3,h4,_⟩:=h
  match cs,hl with
  | [a,b,c,d],_ =>
   obtain ⟨s1,hs1⟩:=has_S h1
   obtain ⟨i,hi,_⟩:=has_int 3 (.inl rfl) h2
   obtain ⟨s2,hs2⟩:=has_S h3
   obtain ⟨s3,hs3⟩:=has_S h4
   simp at hs1 hi hs2 hs3
   exact ⟨⟨s1,i,s2,s3⟩,by simp [itC,hs1,hi,hs2,hs3]⟩
theorem has_Its {n:Nat} {cs:List AV} (h:HasT Pg n 57 cs):∃ nil tip l,cs=[encIts 4 nil tip l]:=by
 cases n with
 | zero=>exact h.elim
 | succ n =>
  have e:HasT Pg (n+1) 57 cs=(cs=[.sl 4 true .full []] ∨ ∃ xs:List AV,cs=[.sl 4 false .any xs]∧∀ x ∈ xs,∃ c,x=packA Pg 120 c∧HasT Pg n 120 c):=by kernel_rfl
  rw [e] at h
  rcases h with rfl | ⟨xs,rfl,h⟩
  ·exact ⟨true,.full,[],rfl⟩
  ·obtain ⟨l,rfl,_⟩:=map_of2 (f:=encIt) (p:=fun _=>True) xs (fun x hx=>by
    obtain ⟨c,rfl,hc⟩:=h x hx
    obtain ⟨y,rfl⟩:=has_It hc
    exact ⟨y,by kernel_rfl,trivial⟩)
   exact ⟨false,.any,l,rfl⟩
theorem has_Q {n:Nat} {cs:List AV} (h:HasT Pg n 59 cs):∃ q:Qu,cs=qC q∧allT rT q.p∧(∀ x ∈ q.ws,allX vX x)∧rng q.within:=by
 cases n with
 | zero=>exact h.elim
 | succ n =>
  have h:=h.str
  have e:StrT Pg n 59 cs=(cs.length=11∧(HasT Pg n 56 ((cs.drop 0).take 6)∧(HasT Pg n 24 ((cs.drop 6).take 1)∧(HasT Pg n 9 ((cs.drop 7).take 1)∧(HasT Pg n 3 ((cs.drop 8).take 1)∧(HasT Pg n 2 ((cs.drop 9).take 1)∧(HasT Pg n 57 ((cs.drop 10).take 1)∧True))))))):=by kernel_rfl
  rw [e] at h
  obtain ⟨hl,h1,h2,h3,h4,h5,h6,_⟩:=h
  match cs,hl with
  | [a0,a1,a2,a3,a4,a5,a6,a7,a8,a9,a10],_ =>
   obtain ⟨p,hp,wp⟩:=has_T n h1
   obtain ⟨wn,wt,ws,hw,ww⟩:=has_Xs h2
   obtain ⟨key,hk⟩:=has_S h3
   obtain ⟨mode,hm,_⟩:=has_int 3 (.inl rfl) h4
   obtain ⟨within,hwi,wwi⟩:=has_int 2 (.inr rfl) h5
   obtain ⟨inn,it,its,hi⟩:=has_Its h6
   simp only [List.drop_zero,List.drop_succ_cons,List.take_succ_cons,List.take_zero,List.cons.injEq,and_true] at hp hw hk hm hwi hi
   refine ⟨⟨p,7,wn,wt,ws,key,mode,within,4,inn,it,its⟩,?_,wp,ww,wwi⟩
   rw [qC,← hp,← hw,← hk,← hm,← hwi,← hi]
   rfl
theorem sz_T (x:Pa):sizeT x≤szL (encTC x)∧(szL (encTC x)≤1048576→allT okT x):=by
 induction x using Pa.ind with
 | h x ih =>
  have hs:∀ (l:List Pa),(∀ y ∈ l,y ∈ x.l)→sizeTs l≤szL (l.map encT)∧(szL (l.map encT)≤1048576→allTs okT l):=by
   intro l
   induction l with
   | nil=>intro _;simp [sizeTs,szL,allTs]
   | cons y r ihr =>
    intro hy
    obtain ⟨a1,a2⟩:=ihr (fun z hz=>hy z (by simp [hz]))
    obtain ⟨b1,b2⟩:=ih y (hy y (by simp))
    simp only [sizeTs,List.map_cons,szL,encT,szA,allTs]
    exact ⟨by omega,fun h=>⟨b2 (by omega),a2 (by omega)⟩⟩
  obtain ⟨h1,h2⟩:=hs x.l (fun _ h=>h)
  rw [sizeT_eq,allT_eq,encTC_eq]
  have hl:=length_le_szL (x.l.map encT)
  rw [List.length_map] at hl
  simp only [szL,szA,I,S,encTs]
  refine ⟨by omega,fun h=>⟨⟨by omega,by omega,by omega⟩,h2 (by omega)⟩⟩
theorem sz_Its (l:List It):l.length≤szL (l.map encIt)∧(szL (l.map encIt)≤1048576→∀ x ∈ l,okI x):=by
 induction l with
 | nil=>simp [szL]
 | cons y r ih =>
  simp only [List.map_cons,List.length_cons,szL,encIt,itC,szA,I,S]
  refine ⟨by omega,fun h x hx=>?_⟩
  rcases List.mem_cons.1 hx with rfl | hx
  ·exact ⟨by omega,by omega,by omega⟩
  ·exact ih.2 (by omega) x hx
theorem sz_Q (q:Qu) (hv:∀ x ∈ q.ws,allX vX x) (h:szL (qC q)≤1048576):OkQ q:=by
 rw [qC,szL_append] at h
 simp only [szL,szA,encXs,encIts,I,S] at h
 obtain ⟨a1,a2⟩:=sz_T q.p
 obtain ⟨b1,b2⟩:=sz_Xs q.ws
 obtain ⟨c1,c2⟩:=sz_Its q.its
 have d1:=length_le_szL (q.ws.map encX)
 rw [List.length_map] at d1
 exact ⟨a2 (by omega),by omega,by omega,fun x hx=>⟨b2 (by omega) x hx,hv x hx⟩,by omega,by omega,by omega,c2 (by omega)⟩
end Go.Hx
namespace Go.Hx
open Go.Proofs.YtancdapnpceogaaGreat
theorem bulkOf {H:Type}:Bulk (Rows.uptoBulk (H:=H)) (Rows.uptoBulkAll (H:=H)) :=
 ⟨fun l=>by simp [Rows.uptoBulk],fun l=>by simp [Rows.uptoBulk],fun k l=>by simp [Rows.uptoBulk],by simp [Rows.uptoBulk],fun l r=>by simp [Rows.uptoBulk],fun l=>by simp [Rows.uptoBulk],by simp [Rows.uptoBulkAll],fun x l=>by simp [Rows.uptoBulkAll]⟩
theorem pkOf:PK Pg:=by
 refine ⟨fun f fn h=>?_,by kernel_rfl⟩
 have hall : (Pg.funcs.toList.all fun fn => !(fn.name == "runtime.NumGoroutine")) = true := by kernel_rfl
 have:=List.all_eq_true.1 hall fn (List.mem_of_getElem? (i:=f) (by simpa using h))
 simpa using this
theorem kidsOf:Kids Pg (· < Pg.types.size):=kids_rows (by kernel_rfl) (by kernel_rfl)
theorem oneOf:∀ e,e < Pg.types.size→aggT Pg e=false→Pg.cellsOf e=1:=by
 have h:((List.range Pg.types.size).all fun e=>aggT Pg e || Nat.beq (Pg.cellsOf e) 1)=true:=by kernel_rfl
 intro e he ha
 have:=List.all_eq_true.1 h e (List.mem_range.2 he)
 rw [ha,Bool.false_or] at this
 exact Nat.eq_of_beq_eq_true this
theorem fullOf:∀ t e,t < Pg.types.size→Pg.underlying t=some (.slice e)→0 < Pg.cellsOf e:=slices_full_of Pg (by kernel_rfl)
theorem own:ownKnob Pg.godebug=none:=by kernel_rfl
end Go.Hx
namespace Go.Hx
theorem shutOfQ:shutT Pg [2,3,5,9,23,24,26,54,56,57,59,120]=true:=by kernel_rfl
end Go.Hx
namespace Go.Proofs.YtancdapnpceogaaGreat.eplBack
open Go.Hx Go.ChangeShapes Go.WideShapes Go.ChangeAt Go.RowKit
theorem law (av:List AV) (ha:ArgsT Tryz.prog Tryz.f9.params.toList av) (hs:szL av≤1048576):Ev Tryz.prog Hs (.fn 9) av H0 (fun r _=>r=B true):=by
 have e:ArgsT Tryz.prog Tryz.f9.params.toList av=ArgsT Pg [59] av:=by kernel_rfl
 rw [e] at ha
 obtain ⟨n1,c1,r1,rfl,g1,rfl⟩:=ha
 obtain ⟨q,rfl,_,hv,_⟩:=has_Q g1
 have p1:packA Pg 59 (qC q)=encQ q:=by kernel_rfl
 rw [p1] at hs ⊢
 simp only [szL,szA,encQ] at hs
 exact c9 q (sz_Q q hv (by omega)) H0 _ (fun _ _=>rfl)
theorem contract (H:Type) (enc:TypeId × Value→H) (W:World) (base:Nat) (args:Array Value) (ds gs:List (DataW H)) (before:List MemPlace)
  (hval:∀ (j:Nat) t v,Tryz.f9.params[j]?=some t→args[j]?=some v→Value.okWide Tryz.prog W .any base t v)
  (hW:DataW.Whole enc Tryz.prog Tryz.f9.params.toList Rows.eplBackSpec.vars false W args.toList ds gs before) (hk:Rows.uptoSmall H (ds++gs)=true) :
  Calls Tryz.prog 9 args W fun e W'=>∃ v,e=.returned v∧Rows.eplBackSpec.post enc Tryz.prog Tryz.f9 false true false false W args v W':=by
 obtain ⟨p,q,hA,hV,_,_,_⟩:=id hW
 obtain ⟨rfl,rfl⟩:=trodVars_none (show DataW.TrodVars enc Tryz.prog W (fun _=>true) [] gs q from hV)
 have hb:Rows.uptoBulkAll ds≤1048576:=by
  have:decide (Rows.uptoBulkAll (ds++[])≤1048576)=true:=hk
  simpa using this
 have hp:Tryz.f9.params.toList=[59]:=by kernel_rfl
 have hfn:Rows.eplBackSpec.fn H ds={ results:=[.lit (.bool true)],args:=ds }:=by
  have hA':=hA
  rw [hp] at hA'
  obtain ⟨_,_,d0,_,_,_,_,rfl,_,_,hA'⟩:=trodAll_cons hA'
  obtain ⟨_,rfl,_⟩:=trodAll_nil hA'
  rfl
 exact row_calls pkOf (hs:=Hs) (f:=9) (fn:=Tryz.f9) (s:=Rows.eplBackSpec) bulkOf (l:=[2,3,5,9,23,24,26,54,56,57,59,120]) kidsOf oneOf shutOfQ fullOf (by rw [hp];decide) hval hW rfl hfn (tb:=4) (by kernel_rfl) u4
  (fun av ha hs=>law av ha (Nat.le_trans hs hb))
theorem lifted (os:Os) (started:os.Started) (H:Type) (enc:TypeId × Value→H) (F:Stop.Interp) :
  ReturnsInHanded {} Tryz.checked os 9 .any ((Rows.OpenSpec.upto Rows.eplBackSpec).pre6 enc Tryz.prog Tryz.f9 Rows.eplBackUptoRow.domain false) (((Rows.OpenSpec.upto Rows.eplBackSpec).at F).post enc Tryz.prog Tryz.f9 false true false false):=by
 refine returnsInHanded_of_cond (C:=Tryz.checked) (s:=Rows.OpenSpec.upto Rows.eplBackSpec) (k:=Rows.uptoSmall) rfl own started (by kernel_rfl) Tryz.func9
  (OpenSpec.witness (enc:=enc) (C:=Tryz.checked) (s:=Rows.OpenSpec.upto Rows.eplBackSpec) (k:=Rows.uptoSmall) rfl false
   ⟨#[],#[.agg #[.int .i64 0,.string .empty,.string .empty,.int .i64 0,.int .i64 0,.slice none 0 0,.slice none 0 0,.string .empty,.int .i64 0,.int .i64 0,.slice none 0 0]],[]⟩ 8 (by kernel_rfl) (by kernel_rfl) (by kernel_rfl)
   (x:=([.agg [.agg [.lit (.int .i64 0),.lit (.string []),.lit (.string []),.lit (.int .i64 0),.lit (.int .i64 0),.nil],.nil,.lit (.string []),.lit (.int .i64 0),.lit (.int .i64 0),.nil]],[],[])) (by kernel_rfl) rfl (by kernel_rfl)) ?_
 intro W base args ds gs before hval hW _ hk _
 exact contract H enc W base args ds gs before hval hW hk
end Go.Proofs.YtancdapnpceogaaGreat.eplBack
