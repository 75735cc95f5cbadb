/- What is asked of later states may be weakened. Own work (session 1). -/
import Derived.Test.YtancdapnpceogaaGreatHxSound
namespace Go.Hx
section mono
variable {P:Program} {N:Nat} {h:Hint}
theorem ob_mono {α:Type} {x:Option α} {p q:α→Prop} (hpq:∀ v,p v→q v) (hx:ob x p):ob x q:=by
  cases x with
  | none=>exact hx
  | some v=>exact hpq v hx
theorem evV_mono {st:St} {x:Operand} {p q:AV→Prop} (hpq:∀ v,p v→q v) (hx:evV st x p):evV st x q:=by
  unfold evV at *;split<;>rename_i he<;>simp only [he] at hx
  exact hpq _ hx
theorem evVs_mono {st:St}:∀ {xs:List Operand} {p q:List AV→Prop},(∀ v,p v→q v)→evVs st xs p→evVs st xs q
  | [],_,_,hpq,hx=>hpq _ hx
  | _::_,_,_,hpq,hx=>evV_mono (fun _ h=>evVs_mono (fun _ h=>hpq _ h) h) hx
theorem evO_mono {st:St} {x:Option Operand} {p q:Option AV→Prop} (hpq:∀ v,p v→q v) (hx:evO st x p):evO st x q:=by
  cases x with
  | none=>exact hpq _ hx
  | some y=>exact evV_mono (fun _ h=>hpq _ h) hx
theorem putS_mono {dst:Option Tmp} {s:Slot} {st:St} {p q:St→Prop} (hpq:∀ v,p v→q v) (hx:putS N dst s st p):putS N dst s st q:=by
  cases dst with
  | none=>exact hpq _ hx
  | some d=>simp only [putS] at *;split<;>rename_i he<;>simp only [he] at hx;exact hpq _ hx
theorem evParts_mono {st:St} {t:TypeId}:∀ {ps:List (Nat × Operand)} {p q:List (Nat × Nat × AV)→Prop},(∀ v,p v→q v)→evParts P st t ps p→evParts P st t ps q
  | [],_,_,hpq,hx=>hpq _ hx
  | (f,x)::r,_,_,hpq,hx=>by
    simp only [evParts] at *
    split at hx
    · exact evV_mono (fun _ h=>evParts_mono (fun _ h=>hpq _ h) h) hx
    · exact hx.elim
theorem newH_mono {H:Heap} {cs:List AV} {p q:AV→Heap→Prop} (hpq:∀ v H,p v H→q v H) (hx:newH H cs p):newH H cs q:=fun b hb=>hpq _ _ (hx b hb)
theorem appA_mono {sz by_:Nat} {s x:AV} {H:Heap} {p q:Post} (hpq:∀ v H,p v H→q v H) (hx:appA sz by_ s x H p):appA sz by_ s x H q:=by
  unfold appA at *
  split
  · rename_i sz' nil tip xs ys ht
    simp only [ht] at hx
    cases ys with
    | nil=>exact hpq _ _ hx
    | cons y ys =>
      simp only at hx ⊢
      refine ⟨hx.1,hx.2.1,hx.2.2.1,?_⟩
      have h4:=hx.2.2.2
      cases tip with
      | any=>exact h4
      | full=>exact fun b hb=>hpq _ _ (h4 b hb)
      | tip b0=>exact ⟨h4.1,fun b hb=>hpq _ _ (h4.2 b hb)⟩
  · rename_i hn
    split at hx
    · rename_i e2;exact (hn _ _ _ _ _ rfl e2).elim
    · exact hx
theorem rngA_mono {a:AV} {H:Heap} {p q:Post} (hpq:∀ v H,p v H→q v H) (hx:rngA a H p):rngA a H q:=by
  unfold rngA at *
  split<;>simp only at hx
  exact fun b hb=>hpq _ _ (hx b hb)
theorem mkMapA_mono {H:Heap} {p q:Post} (hpq:∀ v H,p v H→q v H) (hx:mkMapA H p):mkMapA H q:=fun b hb=>hpq _ _ (hx b hb)
theorem updA_mono {H:Heap} {m i v:AV} {p q:Heap→Prop} (hpq:∀ H,p H→q H) (hx:updA H m i v p):updA H m i v q:=by
  unfold updA at *
  revert hx
  split
  · split
    · exact hpq _
    · exact id
  · exact id
theorem nextA_mono {a:AV} {H:Heap} {p q:Post} (hpq:∀ v H,p v H→q v H) (hx:nextA a H p):nextA a H q:=by
  unfold nextA at *
  revert hx
  split
  · split
    · split
      · exact hpq _ _
      · exact hpq _ _
    · exact id
  · exact id
theorem pubs_mono {k k':St→Heap→Prop} (hk:∀ st H,k st H→k' st H):∀ {l:List Operand} {st:St} {H:Heap},pubs l k st H→pubs l k' st H
  | [],_,_,hx=>hk _ _ hx
  | .tmp t::r,st,H,hx=>by
    simp only [pubs] at *
    revert hx
    split
    · exact newH_mono fun _ _=>pubs_mono hk
    · exact pubs_mono hk
  | .const _::r,_,_,hx=>pubs_mono (l:=r) hk hx
  | .global _::r,_,_,hx=>pubs_mono (l:=r) hk hx
  | .func _::r,_,_,hx=>pubs_mono (l:=r) hk hx
def CMono (C C':CallRel):Prop:=∀ c args H p q,(∀ v H,p v H→q v H)→C c args H p→C' c args H q
theorem callA_mono {C C':CallRel} (hC:CMono C C') {f:AV} {args:List AV} {H:Heap} {p q:Post} (hpq:∀ v H,p v H→q v H) (hx:callA C f args H p):callA C' f args H q:=by
  unfold callA at *
  split<;>simp only at hx
  · exact hC _ _ _ _ _ hpq hx
  · exact hC _ _ _ _ _ hpq hx
theorem primA_mono {g:FuncId} {args:List AV} {p q:AV→Prop} (hpq:∀ v,p v→q v) (hx:primA P g args p):primA P g args q:=by
  unfold primA at *
  split<;>simp only at hx
  · obtain ⟨rt,x,h1,h2⟩:=hx;exact ⟨rt,x,h1,hpq _ h2⟩
  · exact ⟨hx.1,hpq _ hx.2⟩
  · obtain ⟨b,h1,h2⟩:=hx;exact ⟨b,h1,hpq _ h2⟩
theorem invA_mono {C C':CallRel} (hC:CMono C C') {name:String} {f:AV} {args:List AV} {H:Heap} {p q:Post} (hpq:∀ v H,p v H→q v H) (hx:invA P C name f args H p):invA P C' name f args H q:=by
  unfold invA at *
  split<;>simp only at hx
  obtain ⟨g,h1,h2⟩:=hx
  exact ⟨g,h1,h2.elim (fun h=>.inl (primA_mono (fun _ h=>hpq _ _ h) h)) (fun h=>.inr (hC _ _ _ _ _ hpq h))⟩
theorem cndA_mono {x:AV} {p q p' q':Prop} (h1:p→p') (h2:q→q') (hx:cndA x p q):cndA x p' q':=by
  unfold cndA at *;split<;>simp only at hx
  · exact h1 hx
  · exact h2 hx
theorem evD_mono {st:St} {x:Operand} {p q:AV→Prop} (hpq:∀ v,p v→q v) (hx:evD st x p):evD st x q:=by
  unfold evD at *
  split<;>rename_i h1<;>simp only [h1] at hx
  exact hpq _ hx
theorem evPartsN_mono {st:St} {n sz:Nat}:∀ {ps:List (Nat × Operand)} {p q:List (Nat × Nat × AV)→Prop},(∀ v,p v→q v)→evPartsN st n sz ps p→evPartsN st n sz ps q
  | [],_,_,hpq,hx=>hpq _ hx
  | (i,x)::r,p,q,hpq,hx=>by
    simp only [evPartsN] at *
    split<;>rename_i h1<;>simp only [h1] at hx
    exact evV_mono (fun _ h=>evPartsN_mono (fun _ h=>hpq _ h) h) hx
theorem slArr_mono {n:Nat} {a lo:AV} {H:Heap} {p q:Post} (hpq:∀ v H,p v H→q v H) (hx:slArr n a lo H p):slArr n a lo H q:=by
  unfold slArr at *
  split<;>simp only at hx
  split<;>rename_i h1<;>simp only [h1] at hx
  exact ⟨hx.1,hx.2.1,hx.2.2.1,hpq _ _ hx.2.2.2⟩
theorem bsA_mono {a:AV} {p q:AV→Prop} (hpq:∀ v,p v→q v) (hx:bsA a p):bsA a q:=by
  unfold bsA at *
  split<;>simp only at hx
  exact ⟨hx.1,hx.2.imp fun _ h=>⟨h.1,hpq _ h.2⟩⟩
theorem sbA_mono {a:AV} {p q:AV→Prop} (hpq:∀ v,p v→q v) (hx:sbA a p):sbA a q:=by
  unfold sbA at *
  split<;>simp only at hx
  exact hpq _ hx
theorem rngM_mono {a:AV} {H:Heap} {p q:Post} (hpq:∀ v H,p v H→q v H) (hx:rngM a H p):rngM a H q:=by
  unfold rngM at *
  split<;>simp only at hx
  split<;>rename_i h1<;>simp only [h1] at hx
  exact fun b hb=>hpq _ _ (hx b hb)
theorem nextM_mono {a:AV} {H:Heap} {p q:Post} (hpq:∀ v H,p v H→q v H) (hx:nextM a H p):nextM a H q:=by
  unfold nextM at *
  split<;>simp only at hx
  split<;>rename_i h1<;>simp only [h1] at hx
  split<;>rename_i h2<;>simp only [h2] at hx
  exact ⟨hx.1,fun i s v h3 h4=>hpq _ _ (hx.2.1 i s v h3 h4),fun h=>hpq _ _ (hx.2.2 h)⟩
theorem newT_mono {H:Heap} {e:TypeId} {cs:List AV} {p q:AV→Heap→Prop} (hpq:∀ v H,p v H→q v H) (hx:newT H e cs p):newT H e cs q:=fun b hb=>hpq _ _ (hx b hb)
theorem convP_mono {s d:TypeId} {a:AV} {H:Heap} {p q:AV→Prop} (hpq:∀ v,p v→q v) (hx:convP P s d a H p):convP P s d a H q:=by
  unfold convP at *
  split<;>simp only at hx
  split<;>rename_i h1<;>simp only [h1] at hx
  · rename_i h2;simp only [h2] at hx;exact ⟨hx.1,hpq _ hx.2⟩
theorem appB_mono {e:TypeId} {s x:AV} {H:Heap} {p q:Post} (hpq:∀ v H,p v H→q v H) (hx:appB e s x H p):appB e s x H q:=by
  unfold appB at *
  split
  · rename_i sz' nil tip xs ys ht
    simp only [ht] at hx
    cases ys with
    | nil=>exact hpq _ _ hx
    | cons y ys =>
      simp only at hx ⊢
      refine ⟨hx.1,hx.2.1,fun b hb=>hpq _ _ (hx.2.2.1 b hb),?_⟩
      have h4:=hx.2.2.2
      cases tip with
      | any=>exact h4
      | full=>trivial
      | tip b0=>exact ⟨h4.1,hpq _ _ h4.2⟩
  · rename_i hn
    revert hx
    split
    · rename_i h1
      exact absurd h1 (hn _ _ _ _ _ rfl)
    · exact id
theorem strA_mono {pt:TypeId} {a n:AV} {H:Heap} {p q:Post} (hpq:∀ v H,p v H→q v H) (hx:strA P pt a n H p):strA P pt a n H q:=by
  unfold strA at *
  split<;>simp only at hx
  · exact hpq _ _ hx
  · obtain ⟨e,l,h1,h2,h3,h4,h5,h6,h7,h8⟩:=hx
    exact ⟨e,l,h1,h2,h3,h4,h5,h6,h7,hpq _ _ h8⟩
set_option maxHeartbeats 1000000 in
theorem opX_mono {C C':CallRel} (hC:CMono C C') {o:Oper} {k k':St→Heap→Prop} (hk:∀ st H,k st H→k' st H) {st:St} {H:Heap} (hx:opX P C N h o k st H):opX P C' N h o k' st H:=by
  have hput:∀ {dst:Option Tmp} {s:Slot} {st:St} {H:Heap},putS N dst s st (fun st=>k st H)→putS N dst s st (fun st=>k' st H):=fun hx=>putS_mono (fun _ h=>hk _ _ h) hx
  have hputs:∀ {dst:Option Tmp} {st:St} {r:AV} {H:Heap},putS N dst (.val r) st (fun st=>k st H)→putS N dst (.val r) st (fun st=>k' st H):=fun hx=>putS_mono (fun _ h=>hk _ _ h) hx
  revert hx
  unfold opX
  split
  all_goals repeat' first
    | exact fun hx=>hx
    | exact fun hx=>hx.elim
    | exact fun hx=>hput hx
    | (refine fun hx=>evV_mono (fun _=>?_) hx;done)
    | (intro hx;refine evV_mono (fun _=>?_) hx)
    | (intro hx;refine evD_mono (fun _=>?_) hx)
    | (intro hx;refine cndA_mono ?_ ?_ hx)
    | (intro hx;refine evVs_mono (fun _=>?_) hx)
    | (intro hx;refine evO_mono (fun _=>?_) hx)
    | (intro hx;refine evParts_mono (fun _=>?_) hx)
    | (intro hx;refine evPartsN_mono (fun _=>?_) hx)
    | (intro hx;refine slArr_mono (fun _ _=>?_) hx)
    | (intro hx;refine bsA_mono (fun _=>?_) hx)
    | (intro hx;refine sbA_mono (fun _=>?_) hx)
    | (intro hx;refine rngM_mono (fun _ _=>?_) hx)
    | (intro hx;refine nextM_mono (fun _ _=>?_) hx)
    | (intro hx;refine ob_mono (fun _=>?_) hx)
    | (intro hx;refine newH_mono (fun _ _=>?_) hx)
    | (intro hx;refine pubs_mono (fun _ _=>?_) hx)
    | (intro hx;refine rngA_mono (fun _ _=>?_) hx)
    | (intro hx;refine nextA_mono (fun _ _=>?_) hx)
    | (intro hx;refine mkMapA_mono (fun _ _=>?_) hx)
    | (intro hx;refine updA_mono (fun _=>?_) hx)
    | (intro hx;refine appA_mono (fun _ _=>?_) hx)
    | (intro hx;refine appB_mono (fun _ _=>?_) hx)
    | (intro hx;refine strA_mono (fun _ _=>?_) hx)
    | (intro hx;refine convP_mono (fun _=>?_) hx)
    | (intro hx;refine newT_mono (fun _ _=>?_) hx)
    | (intro hx;refine callA_mono hC (fun _ _=>?_) hx)
    | (intro hx;refine primA_mono (fun _=>?_) hx)
    | (intro hx;refine invA_mono hC (fun _ _=>?_) hx)
    | split
theorem opG_mono {C C':CallRel} (hC:CMono C C') {ops:Array Oper} {o:Oper} {k k':St→Heap→Prop} (hk:∀ st H,k st H→k' st H) {st:St} {H:Heap} (hx:opG P C N h ops o k st H):opG P C' N h ops o k' st H:=by
  unfold opG at *
  cases hg:o.guard with
  | none=>rw [hg] at hx;exact opX_mono hC hk hx
  | some jw =>
    obtain ⟨j,want⟩:=jw
    rw [hg] at hx
    simp only at hx ⊢
    cases hj:(ops[j]?).bind (·.dst) with
    | none=>rw [hj] at hx;exact hx
    | some g =>
      rw [hj] at hx
      revert hx
      simp only
      split
      · exact putS_mono (fun _ h=>hk _ _ h)
      rotate_left
      · exact id
      intro hx
      revert hx
      cases want<;>refine fun hx=>?_<;>exact cndA_mono (fun hx=>by first | exact opX_mono hC hk hx | exact putS_mono (fun _ h=>hk _ _ h) hx) (fun hx=>by first | exact opX_mono hC hk hx | exact putS_mono (fun _ h=>hk _ _ h) hx) hx
theorem cutK_mono {rid pos:Nat} {k k':St→Heap→Prop} (hk:∀ st H,k st H→k' st H) {st:St} {H:Heap} (hx:cutK h rid pos k st H):cutK h rid pos k' st H:=by
  rw [cutK_eq] at *;exact hk _ _ hx
theorem joinK_mono {i:Nat} {k k':St→Heap→Prop} (hk:∀ st H,k st H→k' st H) {st:St} {H:Heap} (hx:joinK h i k st H):joinK h i k' st H:=by
  rw [joinK_eq] at *;exact hk _ _ hx
theorem Wops_mono {C C':CallRel} (hC:CMono C C') {rid:Nat} {ops:Array Oper} {k k':St→Heap→Prop} (hk:∀ st H,k st H→k' st H):∀ {j:Nat} {l:List Oper} {st:St} {H:Heap},Wops P C N h rid ops k j l st H→Wops P C' N h rid ops k' j l st H
  | _,[],_,_,hx=>hk _ _ hx
  | _,_::_,_,_,hx=>opG_mono hC (fun _ _ hx=>cutK_mono (fun _ _ hx=>Wops_mono hC hk hx) hx) hx
theorem apL_mono {v:AV} {p q:Prop} (hpq:p→q):∀ {ws:List AV},apL v ws p→apL v ws q
  | [],hx=>hpq hx
  | _::_,hx=>⟨hx.1,apL_mono hpq hx.2⟩
theorem far_mono {ops:Array Oper} {L:List Nat} {i:Nat} {o:Oper} {st:St} {p q:Prop} (hpq:p→q) (hx:far ops h L i o st p):far ops h L i o st q:=by
  unfold far at *
  split<;>rename_i h1<;>simp only [h1] at hx
  · split<;>rename_i h2<;>simp only [h2] at hx
    · split<;>rename_i h3<;>simp only [h3] at hx
      exact apL_mono hpq hx
theorem Wdraw_mono {C C':CallRel} (hC:CMono C C') {rid:Nat} {ops:Array Oper} {k k':St→Heap→Prop} (hk:∀ st H,k st H→k' st H):∀ {l:List (Nat × Nat)} {L:List Nat} {st:St} {H:Heap},Wdraw P C N h rid ops k l L st H→Wdraw P C' N h rid ops k' l L st H
  | [],L,st,H,hx=>by
    simp only [Wdraw] at *
    split<;>rename_i hu<;>simp only [hu] at hx
    exact hk _ _ hx
  | (i,c)::r,L,st,H,hx=>by
    simp only [Wdraw] at *
    split<;>rename_i hu<;>simp only [hu] at hx
    split<;>rename_i hu<;>simp only [hu] at hx
    split<;>rename_i hu3<;>simp only [hu3] at hx
    · exact far_mono (opG_mono hC (fun _ _ hx=>cutK_mono (fun _ _ hx=>Wdraw_mono hC hk hx) hx)) hx
    · exact opG_mono hC (fun _ _ hx=>cutK_mono (fun _ _ hx=>Wdraw_mono hC hk hx) hx) hx
theorem LoopW_mono {F F':(St→Heap→Prop)→St→Heap→Prop} (hF:∀ R st H,F R st H→F' R st H) {st:St} {H:Heap} (hx:LoopW F st H):LoopW F' st H :=
  fun R hR=>hx R (fun st H h=>hR st H (hF R st H h))
theorem callF_mono {C C':CallRel} (hC:CMono C C') {f:AV} {args:List AV} {H:Heap} {p q:Post} (hpq:∀ v H,p v H→q v H) (hx:callF C f args H p):callF C' f args H q:=by
  unfold callF at *
  split<;>simp only at hx
  exact hC _ _ _ _ _ hpq hx
theorem overA_mono {l:Nat} {H:Heap} {n n':Heap→Prop} {x x':Nat→Heap→Prop} {r r':Heap→Prop} (hn:∀ H,n H→n' H) (hx:∀ j H,x j H→x' j H) (hr:∀ H,r H→r' H) (h:overA l H n x r):overA l H n' x' r':=by
  unfold overA at *
  revert h
  split
  · exact hn _
  · exact hx _ _
  · exact hr _
  · exact id
theorem beginA_mono {l:Nat} {H:Heap} {k k':Heap→Prop} (hk:∀ H,k H→k' H) (h:beginA l H k):beginA l H k':=by
  unfold beginA at *
  revert h
  split
  · exact hk _
  · exact id
theorem endA_mono {l:Nat} {H:Heap} {b:Bool} {s:LSt} {Q Q':Post} (hQ:∀ v H,Q v H→Q' v H) (h:endA l H b s Q):endA l H b s Q':=by
  unfold endA at *
  revert h
  split
  · exact hQ _ _
  · exact id
theorem W_mono {C C':CallRel} (hC:CMono C C') {ro:Option Nat}:∀ (c:Code) (i:Nat) {n n':St→Heap→Prop} {x x':Nat→St→Heap→Prop} {r r':St→Heap→Prop},(∀ st H,n st H→n' st H)→(∀ j st H,x j st H→x' j st H) →
    (∀ st H,r st H→r' st H)→∀ {st:St} {H:Heap},W P C N h ro i c n x r st H→W P C' N h ro i c n' x' r' st H
  | .skip,i,_,_,_,_,_,_,hn,hx,hr,st,H,h=>hn _ _ h
  | .region rid ops d,i,_,_,_,_,_,_,hn,hx,hr,st,H,h=>by
    cases d with
    | false=>exact Wops_mono hC hn h
    | true =>
      simp only [W] at *
      split<;>rename_i hu<;>simp only [hu] at h
      split<;>rename_i hu<;>simp only [hu] at h
      exact Wdraw_mono hC hn h
  | .seq a b,i,_,_,_,_,_,_,hn,hx,hr,st,H,h=>W_mono hC a _ (fun _ _ h=>joinK_mono (fun _ _ h=>W_mono hC b _ hn hx hr h) h) hx hr h
  | .cond c a b,i,_,_,_,_,_,_,hn,hx,hr,st,H,h=>evV_mono (fun _ h=>cndA_mono (fun h=>W_mono hC a _ hn hx hr h) (fun h=>W_mono hC b _ hn hx hr h) h) h
  | .block id c,i,n,n',x,x',r,r',hn,hx,hr,st,H,h=>W_mono hC c _ hn (fun j st H h=>by
      split<;>rename_i he<;>simp only [he] at h
      · exact hn _ _ h
      · exact hx _ _ _ h) hr h
  | .loop c,i,_,_,_,_,_,_,hn,hx,hr,st,H,h=>LoopW_mono (fun R st H h=>W_mono hC c _ (fun _ _ h=>h) hx hr h) h
  | .exit id,i,_,_,_,_,_,_,hn,hx,hr,st,H,h=>hx _ _ _ h
  | .ret,i,_,_,_,_,_,_,hn,hx,hr,st,H,h=>hr _ _ h
  | .rangeFunc _ _ _ _,i,_,_,_,_,_,_,hn,hx,hr,st,H,h=>by
    simp only [W] at *
    refine evV_mono (fun g h=>?_) h
    revert h
    split
    · exact fun h=>⟨h.1,fun b hb=>callF_mono hC (fun _ _ h=>overA_mono (fun _ h=>hn _ _ h) (fun _ _ h=>hx _ _ _ h) (fun _ h=>hr _ _ h) h) (h.2 b hb)⟩
    · exact id
  | .scope c,i,_,_,_,_,_,_,hn,hx,hr,st,H,h=>W_mono hC c _ hn hx hr h
  | .label _,i,_,_,_,_,_,_,hn,hx,hr,st,H,h=>hn _ _ h
  | .goto _,i,_,_,_,_,_,_,hn,hx,hr,st,H,h=>h
  | .refuse _,i,_,_,_,_,_,_,hn,hx,hr,st,H,h=>h
theorem resVals_mono {H:Heap} {st:St}:∀ {l:List ResultVar} {p q:List AV→Prop},(∀ v,p v→q v)→resVals P H st l p→resVals P H st l q
  | [],_,_,hpq,hx=>hpq _ hx
  | .tmp t::r,_,_,hpq,hx=>evV_mono (fun _ h=>resVals_mono (fun _ h=>hpq _ h) h) hx
  | .cell a t::r,_,_,hpq,hx=>by
    simp only [resVals] at *
    split at hx
    · split at hx
      · split at hx
        · exact ob_mono (fun _ h=>resVals_mono (fun _ h=>hpq _ h) h) hx
        · exact hx.elim
      · exact ob_mono (fun _ h=>resVals_mono (fun _ h=>hpq _ h) h) hx
      · exact hx.elim
    · exact hx.elim
theorem YieldA_mono {C C':CallRel} (hC:CMono C C') {L:LoopInfo} {l:Nat} {args:List AV} {H:Heap} {p q:Post} (hpq:∀ v H,p v H→q v H) (h:YieldA P C L l args H p):YieldA P C' L l args H q:=by
  unfold YieldA at *
  revert h
  split
  · exact fun h=>W_mono hC _ _ (fun st H h=>beginA_mono (fun H h=>W_mono hC _ _ (fun _ _ h=>endA_mono hpq h) (fun _ _ _ h=>endA_mono hpq h) (fun _ _ h=>endA_mono hpq h) h) h) (fun _ _ _ h=>h) (fun _ _ h=>h) h
  · exact id
theorem WF_mono {hs:Hints} {C C':CallRel} (hC:CMono C C'):CMono (WF P hs C) (WF P hs C'):=by
  intro c args H p q hpq hx
  cases c with
  | yield l =>
    simp only [WF] at *
    revert hx
    split
    · exact YieldA_mono hC hpq
    · exact id
  | fn f =>
    simp only [WF] at *
    split<;>rename_i hf<;>simp only [hf] at hx
    split<;>rename_i hb<;>simp only [hb] at hx
    split<;>rename_i hl<;>simp only [hl] at hx
    exact W_mono hC _ _ (fun _ _ h=>resVals_mono (fun _ h=>hpq _ _ h) h) (fun _ _ _ h=>h) (fun _ _ h=>resVals_mono (fun _ h=>hpq _ _ h) h) hx
theorem Ev_mono {hs:Hints}:CMono (Ev P hs) (Ev P hs):=by
  intro c args H p q hpq hx R hR
  exact hx (fun c args H p=>∀ q,(∀ v H,p v H→q v H)→R c args H q) (fun c args H p hw q hq=>hR _ _ _ _ (WF_mono (fun c a H p q hpq h=>h q hpq) _ _ _ _ _ hq hw)) q hpq
/-- a call, and what it asks for, are one -/
theorem Ev_of {hs:Hints} {c:Callee} {args:List AV} {H:Heap} {Q:Post} (hx:WF P hs (Ev P hs) c args H Q):Ev P hs c args H Q:=fun R hR =>
  hR _ _ _ _ (WF_mono (fun c a H p q hpq h=>Ev_mono c a H p q hpq h R hR) _ _ _ _ _ (fun _ _ h=>h) hx)
theorem Ev_eq {hs:Hints} {c:Callee} {args:List AV} {H:Heap} {Q:Post}:Ev P hs c args H Q=WF P hs (Ev P hs) c args H Q:=by
  refine propext ⟨fun hx=>?_,Ev_of⟩
  exact hx (WF P hs (Ev P hs)) (fun c args H Q hw=>WF_mono (fun c a H p q hpq h=>Ev_mono c a H p q hpq (Ev_of h)) _ _ _ _ _ (fun _ _ h=>h) hw)
theorem LoopW_eq {F:(St→Heap→Prop)→St→Heap→Prop} (hF:∀ R R':St→Heap→Prop,(∀ st H,R st H→R' st H)→∀ st H,F R st H→F R' st H) {st:St} {H:Heap}:LoopW F st H=F (LoopW F) st H:=by
  have hof:∀ st H,F (LoopW F) st H→LoopW F st H:=fun st H hx R hR=>hR _ _ (hF _ _ (fun st H h=>h R hR) _ _ hx)
  refine propext ⟨fun hx=>?_,hof _ _⟩
  exact hx (F (LoopW F)) (fun st H h=>hF _ _ hof _ _ h)
end mono
end Go.Hx

