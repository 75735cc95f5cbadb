/- Places in code: what follows from there on. Own work (session 1). -/
import Derived.Test.YtancdapnpceogaaGreatHxMain
import Derived.KernelRfl
namespace Go.Hx
section
variable (P:Program) (C:CallRel) (N:Nat) (h:Hint) (ro:Option Nat)
/-- what is asked at the node at the end of a way -/
def at_:List Nat→Nat→Code→(St→Heap→Prop)→(Nat→St→Heap→Prop)→(St→Heap→Prop)→St→Heap→Prop
  | [],i,c,n,x,r=>W P C N h ro i c n x r
  | j::_,_,.region id ops d,n,_,_=>fun st H=>match d with
    | false=>Wops P C N h id ops n j (ops.toList.drop j) st H
    | true=>match look h.ord id with
      | some l=>Wdraw P C N h id ops n (l.drop j) ((l.take j).map (·.1)).reverse st H
      | none=>False
  | 0::p,i,.seq a b,n,x,r=>at_ p (i+1) a (joinK h (i+1+nodes a) (W P C N h ro (i+1+nodes a) b n x r)) x r
  | 1::p,i,.seq a b,n,x,r=>at_ p (i+1+nodes a) b n x r
  | 0::p,i,.cond _ a _,n,x,r=>at_ p (i+1) a n x r
  | 1::p,i,.cond _ a b,n,x,r=>at_ p (i+1+nodes a) b n x r
  | 0::p,i,.block id c,n,x,r=>at_ p (i+1) c n (fun j st H=>match Nat.beq j id with | true=>n st H | false=>x j st H) r
  | 0::p,i,.scope c,n,x,r=>at_ p (i+1) c n x r
  | 0::p,i,.loop c,n,x,r=>at_ p (i+1) c (fun st H=>W P C N h ro i (.loop c) n x r st H) x r
  | _,_,_,_,_,_=>fun _ _=>False
/-- the same, a loop laid open -/
def at1:List Nat→Nat→Code→(St→Heap→Prop)→(Nat→St→Heap→Prop)→(St→Heap→Prop)→St→Heap→Prop
  | [],i,.loop c,n,x,r=>fun st H=>W P C N h ro (i+1) c (fun st H=>W P C N h ro i (.loop c) n x r st H) x r (clr h i st) H
  | [],i,c,n,x,r=>W P C N h ro i c n x r
  | j::_,_,.region id ops d,n,_,_=>fun st H=>match d with
    | false=>Wops P C N h id ops n j (ops.toList.drop j) st H
    | true=>match look h.ord id with
      | some l=>Wdraw P C N h id ops n (l.drop j) ((l.take j).map (·.1)).reverse st H
      | none=>False
  | 0::p,i,.seq a b,n,x,r=>at1 p (i+1) a (joinK h (i+1+nodes a) (W P C N h ro (i+1+nodes a) b n x r)) x r
  | 1::p,i,.seq a b,n,x,r=>at1 p (i+1+nodes a) b n x r
  | 0::p,i,.cond _ a _,n,x,r=>at1 p (i+1) a n x r
  | 1::p,i,.cond _ a b,n,x,r=>at1 p (i+1+nodes a) b n x r
  | 0::p,i,.block id c,n,x,r=>at1 p (i+1) c n (fun j st H=>match Nat.beq j id with | true=>n st H | false=>x j st H) r
  | 0::p,i,.scope c,n,x,r=>at1 p (i+1) c n x r
  | 0::p,i,.loop c,n,x,r=>at1 p (i+1) c (fun st H=>W P C N h ro i (.loop c) n x r st H) x r
  | _,_,_,_,_,_=>fun _ _=>False
variable {P C N h ro}
theorem loop_eq (hC:CMono C C) {i:Nat} {c:Code} {n:St→Heap→Prop} {x:Nat→St→Heap→Prop} {r:St→Heap→Prop} {st:St} {H:Heap} :
    W P C N h ro i (.loop c) n x r st H=W P C N h ro (i+1) c (fun st H=>W P C N h ro i (.loop c) n x r st H) x r (clr h i st) H :=
  LoopW_eq (F:=fun R=>W P C N h ro (i+1) c (fun st H=>R (clr h i st) H) x r) (fun R R' hR st H hx=>W_mono hC c _ (fun _ _ h=>hR _ _ h) (fun _ _ _ h=>h) (fun _ _ h=>h) hx)
theorem at_eq (hC:CMono C C):∀ (p:List Nat) (i:Nat) (c:Code) (n:St→Heap→Prop) (x:Nat→St→Heap→Prop) (r:St→Heap→Prop) (st:St) (H:Heap),at_ P C N h ro p i c n x r st H=at1 P C N h ro p i c n x r st H
  | [],i,c,n,x,r,st,H=>by cases c<;>first | rfl | exact loop_eq hC
  | 0::p,i,.seq a b,n,x,r,st,H=>at_eq hC p _ _ _ _ _ _ _
  | 1::p,i,.seq a b,n,x,r,st,H=>at_eq hC p _ _ _ _ _ _ _
  | 0::p,i,.cond _ a _,n,x,r,st,H=>at_eq hC p _ _ _ _ _ _ _
  | 1::p,i,.cond _ a b,n,x,r,st,H=>at_eq hC p _ _ _ _ _ _ _
  | 0::p,i,.block id c,n,x,r,st,H=>at_eq hC p _ _ _ _ _ _ _
  | 0::p,i,.loop c,n,x,r,st,H=>at_eq hC p _ _ _ _ _ _ _
  | 0::p,i,.scope c,n,x,r,st,H=>at_eq hC p _ _ _ _ _ _ _
  | (k+2)::p,i,c,n,x,r,st,H=>by cases c<;>rfl
  | 1::p,i,.block _ _,n,x,r,st,H=>rfl
  | 1::p,i,.loop _,n,x,r,st,H=>rfl
  | 1::p,i,.skip,n,x,r,st,H=>rfl
  | 1::p,i,.region _ _ _,n,x,r,st,H=>rfl
  | 1::p,i,.rangeFunc _ _ _ _,n,x,r,st,H=>rfl
  | 1::p,i,.exit _,n,x,r,st,H=>rfl
  | 1::p,i,.scope _,n,x,r,st,H=>rfl
  | 1::p,i,.label _,n,x,r,st,H=>rfl
  | 1::p,i,.goto _,n,x,r,st,H=>rfl
  | 1::p,i,.ret,n,x,r,st,H=>rfl
  | 1::p,i,.refuse _,n,x,r,st,H=>rfl
  | 0::p,i,.skip,n,x,r,st,H=>rfl
  | 0::p,i,.region _ _ _,n,x,r,st,H=>rfl
  | 0::p,i,.rangeFunc _ _ _ _,n,x,r,st,H=>rfl
  | 0::p,i,.exit _,n,x,r,st,H=>rfl
  | 0::p,i,.label _,n,x,r,st,H=>rfl
  | 0::p,i,.goto _,n,x,r,st,H=>rfl
  | 0::p,i,.ret,n,x,r,st,H=>rfl
  | 0::p,i,.refuse _,n,x,r,st,H=>rfl
end
/-- a round -/
def EY (P:Program) (hs:Hints) (L:LoopInfo) (l:Nat) (args:List AV) (H:Heap) (Q:Post):Prop:=YieldA P (Ev P hs) L l args H Q
theorem Ev_yield {P:Program} {hs:Hints} {L:LoopInfo} {s:LSt} {l:Nat} {args:List AV} {H:Heap} {Q:Post} (hl:H.objs l=some (.loop L s)):Ev P hs (.yield l) args H Q=EY P hs L l args H Q:=by
  rw [Ev_eq];simp only [WF,hl];rfl
/-- a loop over a function: its record is laid -/
def rngF (C:CallRel) (g:AV) (L:LoopInfo) (H:Heap) (k:Nat→Heap→Prop):Prop :=
  ∀ b,H.fresh b→callF C g [.fn (.yield b) [] []] (H.setObj b (.loop L .ready)) fun _ H=>k b H
def exA (j id:Nat) (x y:Prop):Prop :=
  match Nat.beq j id with
  | true=>x
  | false=>y
/-- code at a way -/
def codeAt:List Nat→Code→Code
  | [],c=>c
  | 0::p,.seq a _=>codeAt p a
  | 1::p,.seq _ b=>codeAt p b
  | 0::p,.cond _ a _=>codeAt p a
  | 1::p,.cond _ _ b=>codeAt p b
  | 0::p,.block _ c=>codeAt p c
  | 0::p,.loop c=>codeAt p c
  | 0::p,.scope c=>codeAt p c
  | 0::p,.rangeFunc _ _ a _=>codeAt p a
  | 1::p,.rangeFunc _ _ _ b=>codeAt p b
  | _,_=>.skip
/-- the loop over a function at a way in function f -/
def loopF (P:Program) (hs:Hints) (f:Nat) (p:List Nat) (i:Nat) (st:St):LoopInfo :=
  match P.funcs[f]? with
  | some fn=>match codeAt p (fn.body.getD .skip) with
    | .rangeFunc _ ps a b=>⟨hintOf hs f,fn.ntmps,i,ps.toList,a,b,st⟩
    | _=>⟨{},0,0,[],.skip,.skip,[]⟩
  | none=>⟨{},0,0,[],.skip,.skip,[]⟩
/-- the same within function f -/
def AtF (P:Program) (hs:Hints) (f:Nat) (p:List Nat) (Q:Post) (st:St) (H:Heap):Prop :=
  match P.funcs[f]? with
  | some fn=>match fn.body with
    | some c=>at_ P (Ev P hs) fn.ntmps (hintOf hs f) none p 0 c (fin P fn Q) (fun _ _ _=>False) (fin P fn Q) st H
    | none=>False
  | none=>False
def AtF1 (P:Program) (hs:Hints) (f:Nat) (p:List Nat) (Q:Post) (st:St) (H:Heap):Prop :=
  match P.funcs[f]? with
  | some fn=>match fn.body with
    | some c=>at1 P (Ev P hs) fn.ntmps (hintOf hs f) none p 0 c (fin P fn Q) (fun _ _ _=>False) (fin P fn Q) st H
    | none=>False
  | none=>False
def AtJ (P:Program) (hs:Hints) (f:Nat) (p:List Nat) (Q:Post) (st:St) (H:Heap):Prop :=
  match P.funcs[f]? with
  | some fn=>match fn.body with
    | some c=>shut (at_ P (Ev P hs) fn.ntmps (hintOf hs f) none p 0 c (fin P fn Q) (fun _ _ _=>False) (fin P fn Q)) st H
    | none=>False
  | none=>False
theorem AtJ_eq (P:Program) (hs:Hints) (f:Nat) (p:List Nat) (Q:Post) (st:St) (H:Heap):AtJ P hs f p Q st H=AtF1 P hs f p Q st H:=by
  unfold AtJ AtF1
  split
  · split
    · rw [shut_eq];exact at_eq Ev_mono _ _ _ _ _ _ _ _
    · rfl
  · rfl
theorem AtF_eq (P:Program) (hs:Hints) (f:Nat) (p:List Nat) (Q:Post) (st:St) (H:Heap):AtF P hs f p Q st H=AtF1 P hs f p Q st H:=by
  unfold AtF AtF1
  split
  · split
    · exact at_eq Ev_mono _ _ _ _ _ _ _ _
    · rfl
  · rfl
end Go.Hx

