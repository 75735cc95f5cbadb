/- Operations, second part. Own work (session 1). -/
import Derived.Test.YtancdapnpceogaaGreatHxOps
import Derived.Laws.StructEq
namespace Go.Hx
section ops
variable {P:Program} {C:CallRel} {S:Start} {h:Hint} {o:Oper} {k:St→Heap→Prop} {st:St} {H:Heap} {a:Act} {w:World} {Pi:Prot} {β:Nat→Nat}

theorem rep_int {kd:IntKind} {x:Int} {u:Value}:Rep Pi w (.raw (.int kd x)) u ↔ u=.int kd x:=by simp [Rep,simpleV]
theorem rep_bool {x:Bool} {u:Value}:Rep Pi w (.raw (.bool x)) u ↔ u=.bool x:=by simp [Rep,simpleV]
theorem rep_str {x:ByteArray} {u:Value}:Rep Pi w (.raw (.string x)) u ↔ u=.string x:=by simp [Rep,simpleV]
theorem rep_ptr {x:Option Addr} {u:Value}:Rep Pi w (.raw (.pointer x)) u ↔ u=.pointer x:=by simp [Rep,simpleV]

theorem raw_run {m:Sem Value} {x:Value} (h:m.run P w=.ok x w) (hs:simpleV x=true):∃ v,m.run P w=.ok v w∧Rep Pi w (.raw x) v:=⟨x,h,by simp [Rep,hs]⟩
/-- the operators on integers -/
theorem intBin_run {op:BinOp} {kd:IntKind} {x y:Int} {r:AV} (h:intBin op kd x y=some r) (t:TypeId) :
    ∃ v,(binOp op t (.int kd x) (.int kd y)).run P w=.ok v w∧Rep Pi w r v:=by
  cases op<;>simp only [intBin,Option.some.injEq] at h<;>first
    | cases h;done
    | (subst h;exact raw_run (by simp [binOp,Op.intArith,Op.intCmp,Op.intBits,bitsI]) rfl)
    | skip
  all_goals
    split at h
    · cases h
    · rename_i hy
      simp only [Option.some.injEq] at h;subst h
      exact raw_run (by simp [binOp,Op.intDiv,hy]) rfl
theorem shift_run {op:BinOp} {kd:IntKind} (kd':IntKind) {x y:Int} {r:AV} (ho:op=.shl ∨ op=.shr) (h:shiftA op kd x y=some r) (t:TypeId) :
    ∃ v,(binOp op t (.int kd x) (.int kd' y)).run P w=.ok v w∧Rep Pi w r v:=by
  unfold shiftA at h
  split at h
  · cases h
  · rename_i hy
    rcases ho with rfl | rfl<;>simp only [Option.some.injEq] at h<;>subst h<;>exact raw_run (by simp [binOp,Op.shift,hy]) rfl
theorem strBin_run {op:BinOp} {x y:ByteArray} {r:AV} (h:strBin op x y=some r) (t:TypeId) :
    ∃ v,(binOp op t (.string x) (.string y)).run P w=.ok v w∧Rep Pi w r v:=by
  cases op<;>simp only [strBin,Option.some.injEq] at h<;>first
    | (cases h;done)
    | (subst h;exact raw_run (by simp [binOp,Op.stringOp]) rfl)
    | skip
  split at h
  · rename_i hl
    simp only [Option.some.injEq] at h;subst h
    have:¬ ((x.size+y.size:Nat):Int) > IntKind.i64.max:=by
      have:IntKind.i64.max=9223372036854775807:=rfl
      rw [this];omega
    exact raw_run (by simp only [binOp,Op.stringOp,this,if_false,Sem.run_pure]) rfl
  · cases h
theorem eqIn_run {d:TypeDesc} {t:TypeId} {x y:AV} {u v:Value} {r:Bool} (hd:P.underlying t=some d) (h:eqOne d x y=some r) (hx:Rep Pi w x u) (hy:Rep Pi w y v) (n:Nat) :
    (Op.equalIn (n+1) t u v).run P w=.ok r w∧(∀ l,u ≠ .agg l)∧u ≠ .nilIface∧(∀ k b,u ≠ .float k b)∧(∀ k b c,u ≠ .complex k b c):=by
  unfold eqOne at h
  split at h
  · simp only [rep_bool] at hx hy;subst hx hy
    simp only [Option.some.injEq] at h;subst h
    exact ⟨by simp [Op.equalIn,run_underlying hd],by simp,by simp,by simp,by simp⟩
  · simp only [rep_int] at hx hy;subst hx hy
    split at h
    · rename_i hk;subst hk
      simp only [Option.some.injEq] at h;subst h
      exact ⟨by simp [Op.equalIn,run_underlying hd],by simp,by simp,by simp,by simp⟩
    · cases h
  · simp only [rep_str] at hx hy;subst hx hy
    simp only [Option.some.injEq] at h;subst h
    exact ⟨by simp [Op.equalIn,run_underlying hd],by simp,by simp,by simp,by simp⟩
  · simp only [rep_ptr] at hx hy;subst hx hy
    simp only [Option.some.injEq] at h;subst h
    exact ⟨by simp [Op.equalIn,run_underlying hd],by simp,by simp,by simp,by simp⟩
  · simp only [rep_ptr] at hx hy;subst hx hy
    simp only [Option.some.injEq] at h;subst h
    exact ⟨by simp [Op.equalIn,run_underlying hd],by simp,by simp,by simp,by simp⟩
  · simp only [Rep] at hx hy
    obtain ⟨A,c,rfl,h2,h3,_⟩:=hx
    obtain ⟨A',c',rfl,h2',h3',_⟩:=hy
    simp only [Option.some.injEq] at h;subst h
    cases A with
    | some _=>cases h3
    | none=>exact ⟨by simp [Op.equalIn,run_underlying hd,h3'],by simp,by simp,by simp,by simp⟩
  · simp only [Rep] at hx hy
    obtain ⟨A,c,rfl,h2,h3,_⟩:=hx
    obtain ⟨A',c',rfl,h2',h3',_⟩:=hy
    simp only [Option.some.injEq] at h;subst h
    cases A with
    | none=>cases h3
    | some _ =>
      cases A' with
      | some _=>cases h3'
      | none=>exact ⟨by simp [Op.equalIn,run_underlying hd],by simp,by simp,by simp,by simp⟩
  · simp only [Rep] at hx hy
    obtain ⟨rfl,_⟩:=hx;obtain ⟨rfl,_⟩:=hy
    simp only [Option.some.injEq] at h;subst h
    exact ⟨by simp [Op.equalIn,run_underlying hd],by simp,by simp,by simp,by simp⟩
  · simp only [Rep] at hx hy
    obtain ⟨rfl,_⟩:=hx;obtain ⟨_,_,rfl,_⟩:=hy
    simp only [Option.some.injEq] at h;subst h
    exact ⟨by simp [Op.equalIn,run_underlying hd],by simp,by simp,by simp,by simp⟩
  · simp only [Rep] at hx hy
    obtain ⟨_,_,rfl,_⟩:=hx;obtain ⟨rfl,_⟩:=hy
    simp only [Option.some.injEq] at h;subst h
    exact ⟨by simp [Op.equalIn,run_underlying hd],by simp,by simp,by simp,by simp⟩
  · cases h
theorem guard_scalar {op:BinOp} {t:TypeId} {xo yo:Operand} {u v:Value} (h1:∀ l,u ≠ .agg l) (h2:u ≠ .nilIface):(eqGuard op t xo yo u v).run P w=.ok () w:=by
  unfold eqGuard
  cases op<;>simp<;>(cases u<;>first | rfl | (exact absurd rfl (h1 _)) | (exact absurd rfl h2))
theorem run_part {t:TypeId} {agg:Bool} {sz off:Nat} {cs:List AV} {arr:Array Value} {r:AV} (hty:tyAgg P t=some (agg,sz)) (hl:RepL Pi w cs arr.toList) (h1:∀ v ∈ arr.toList,oneV v=true) (hp:partA agg off sz cs=some r) :
    ∃ u,(part t arr off).run P w=.ok u w∧Rep Pi w r u:=by
  cases agg with
  | true =>
    simp only [partA] at hp
    split at hp
    · rename_i hlen
      simp only [Option.some.injEq] at hp;subst hp
      refine ⟨.agg (arr.extract off (off+sz)),?_,?_⟩
      · simp [part,run_isAgg hty,run_sizeAgg hty]
      · simp only [Rep]
        refine ⟨_,rfl,?_,fun v hv=>?_⟩
        · rw [Array.toList_extract]
          simpa [List.extract_eq_take_drop] using RepL.take sz _ _ (RepL.drop off cs _ hl)
        · rw [Array.toList_extract] at hv
          simp only [List.extract_eq_take_drop,Nat.add_sub_cancel_left] at hv
          exact h1 v (List.mem_of_mem_drop (List.mem_of_mem_take hv))
    · cases hp
  | false =>
    simp only [partA] at hp
    obtain ⟨v,h2,h3⟩:=RepL.get cs _ hl off r hp
    have h2':arr[off]?=some v:=by simpa using h2
    exact ⟨v,by simp [part,run_isAgg hty,h2'],h3⟩
theorem eqFs_run {eq:TypeId→AV→AV→Option Bool} {n:Nat} (heq:∀ t x y u v r,eq t x y=some r→Rep Pi w x u→Rep Pi w y v→(Op.equalIn n t u v).run P w=.ok r w) {xs ys:List AV} {us vs:Array Value}
    (hx:RepL Pi w xs us.toList) (hx1:∀ v ∈ us.toList,oneV v=true) (hy:RepL Pi w ys vs.toList) (hy1:∀ v ∈ vs.toList,oneV v=true):∀ (fs:List Field) (r:Bool),eqFs P eq fs xs ys=some r→(Op.eqFields n us vs fs).run P w=.ok r w
  | [],r,h=>by simp only [eqFs,Option.some.injEq] at h;subst h;simp [Op.eqFields]
  | f::fs,r,h=>by
    simp only [eqFs] at h
    split at h
    · cases h
    · rename_i hn
      split at h
      · rename_i agg sz hty
        split at h
        · rename_i p q hp hq
          obtain ⟨u,p1,p2⟩:=run_part hty hx hx1 hp
          obtain ⟨v,q1,q2⟩:=run_part hty hy hy1 hq
          have hn' : f.name ≠ "_" := by simpa using hn
          cases he:eq f.type p q with
          | none=>simp [he] at h
          | some r1 =>
            have g:=heq _ _ _ _ _ _ he p2 q2
            cases r1 with
            | true =>
              simp only [he] at h
              have ih:=eqFs_run heq hx hx1 hy hy1 fs r h
              simp [Op.eqFields,hn',Sem.run_bind,p1,q1,g,Result.andThen_ok,ih]
            | false =>
              simp only [he,Option.some.injEq] at h;subst h
              simp [Op.eqFields,hn',Sem.run_bind,p1,q1,g,Result.andThen_ok]
        · cases h
      · cases h
/-- what is compared is no number nor text of its own -/
def NoScalar (u:Value):Prop:=(∀ k b,u ≠ .float k b)∧(∀ k b c,u ≠ .complex k b c)
theorem eqT_run:∀ (d n:Nat) (t:TypeId) (x y:AV) (u v:Value) (r:Bool),eqT P d t x y=some r→Rep Pi w x u→Rep Pi w y v→(Op.equalIn (n+d) t u v).run P w=.ok r w∧NoScalar u
  | 0,n,t,x,y,u,v,r,h,_,_=>by simp [eqT] at h
  | d+1,n,t,x,y,u,v,r,h,hx,hy=>by
    simp only [eqT] at h
    split at h
    · rename_i fs hu
      split at h
      · rename_i xs ys
        split at h
        · cases h
        · rename_i hst
          simp only [Rep] at hx hy
          obtain ⟨us,rfl,hx,hx1⟩:=hx
          obtain ⟨vs,rfl,hy,hy1⟩:=hy
          have hfs:P.fieldsOf t=fs:=by simp [Program.fieldsOf,hu]
          refine ⟨?_,by constructor<;>intros<;>simp⟩
          rw [show n+(d+1)=(n+d)+1 from rfl,run_equalIn_struct w (n+d) t us vs (by rw [hfs];exact hu) hst,hfs]
          exact eqFs_run (fun t x y u v r he h1 h2=>(eqT_run d n t x y u v r he h1 h2).1) hx hx1 hy hy1 _ r h
      · cases h
    · rename_i ms hu
      rw [show n+(d+1)=(n+d)+1 from rfl]
      split at h
      · simp only [Rep] at hx hy;obtain ⟨rfl,_⟩:=hx;obtain ⟨rfl,_⟩:=hy
        simp only [Option.some.injEq] at h;subst h
        exact ⟨by simp [Op.equalIn,run_underlying hu],by constructor<;>intros<;>simp⟩
      · simp only [Rep] at hx hy;obtain ⟨rfl,_⟩:=hx;obtain ⟨_,rfl,_⟩:=hy
        simp only [Option.some.injEq] at h;subst h
        exact ⟨by simp [Op.equalIn,run_underlying hu],by constructor<;>intros<;>simp⟩
      · simp only [Rep] at hx hy;obtain ⟨_,rfl,_⟩:=hx;obtain ⟨rfl,_⟩:=hy
        simp only [Option.some.injEq] at h;subst h
        exact ⟨by simp [Op.equalIn,run_underlying hu],by constructor<;>intros<;>simp⟩
      · simp only [Rep] at hx hy;obtain ⟨x',rfl,hx⟩:=hx;obtain ⟨y',rfl,hy⟩:=hy
        split at h
        · rename_i ht;subst ht
          split at h
          · rename_i i hi
            split at h
            · rename_i hc
              have ih:=(eqT_run d n _ _ _ _ _ r h hx hy).1
              exact ⟨by simp [Op.equalIn,run_underlying hu,typeInfo,hi,hc,ih],by constructor<;>intros<;>simp⟩
            · cases h
          · cases h
        · rename_i ht
          simp only [Option.some.injEq] at h;subst h
          exact ⟨by simp [Op.equalIn,run_underlying hu,ht],by constructor<;>intros<;>simp⟩
      · cases h
    · rename_i D _ _ hu
      split at h
      · rename_i el hps
        split at h
        · rename_i i hi
          simp only [Option.some.injEq] at h;subst h
          unfold ptrSame at hps
          split at hps
          · rename_i e' p q
            split at hps
            · rename_i hpq
              simp only [Option.some.injEq] at hps;subst hps
              subst hpq
              simp only [rep_ptr] at hx hy;subst hx hy
              rw [show n+(d+1)=(n+d)+1 from rfl]
              refine ⟨?_,by constructor<;>intros<;>simp⟩
              by_cases hz:i.size=0
              · simp [Op.equalIn,run_underlying hu,sizeOf,typeInfo,hi,hz]
              · simp [Op.equalIn,run_underlying hu,sizeOf,typeInfo,hi,hz,sameAddr]
            · cases hps
          · cases hps
        · cases h
      · have:=eqIn_run hu h hx hy (n+d)
        exact ⟨this.1,this.2.2.2⟩
    · cases h
theorem binA_run {op:BinOp} {t:TypeId} {lit:Bool} {x y r:AV} {u v:Value} {xo yo:Operand} (hlit:lit=(isC xo || isC yo)) (hb:binA P op t lit x y=some r) (hx:Rep Pi w x u) (hy:Rep Pi w y v) :
    ∃ z,(do eqGuard op t xo yo u v;binOp op t u v:Sem Value).run P w=.ok z w∧Rep Pi w r z:=by
  unfold binA at hb
  split at hb
  · simp only [rep_int] at hx hy;subst hx hy
    split at hb
    · rename_i kx' _ _;obtain ⟨z,h1,h2⟩:=shift_run (P:=P) (w:=w) (Pi:=Pi) kx' (.inl rfl) hb t
      exact ⟨z,by simp only [Sem.run_bind,guard_scalar (P:=P) (w:=w) (u:=Value.int _ _) (by simp) (by simp),Result.andThen_ok,h1],h2⟩
    · rename_i kx' _ _;obtain ⟨z,h1,h2⟩:=shift_run (P:=P) (w:=w) (Pi:=Pi) kx' (.inr rfl) hb t
      exact ⟨z,by simp only [Sem.run_bind,guard_scalar (P:=P) (w:=w) (u:=Value.int _ _) (by simp) (by simp),Result.andThen_ok,h1],h2⟩
    split at hb
    · rename_i hk;subst hk
      obtain ⟨z,h1,h2⟩:=intBin_run (P:=P) (w:=w) (Pi:=Pi) hb t
      exact ⟨z,by simp only [Sem.run_bind,guard_scalar (P:=P) (w:=w) (u:=Value.int _ _) (by simp) (by simp),Result.andThen_ok,h1],h2⟩
    · cases hb
  · simp only [rep_str] at hx hy;subst hx hy
    obtain ⟨z,h1,h2⟩:=strBin_run (P:=P) (w:=w) (Pi:=Pi) hb t
    exact ⟨z,by simp only [Sem.run_bind,guard_scalar (P:=P) (w:=w) (u:=Value.string _) (by simp) (by simp),Result.andThen_ok,h1],h2⟩
  · rename_i h1 h2
    split at hb
    · rename_i hok
      have hnint:∀ k x' k' y',¬ (u=.int k x'∧v=.int k' y'):=by
        rintro k x' k' y' ⟨rfl,rfl⟩
        have e1:x=.raw (.int k x'):=by cases x<;>simp only [Rep] at hx<;>first | (obtain ⟨he,_⟩:=hx;rw [he]) | (obtain ⟨_,_,he,_⟩:=hx;cases he) | (obtain ⟨_,he,_⟩:=hx;cases he)
        have e2:y=.raw (.int k' y'):=by cases y<;>simp only [Rep] at hy<;>first | (obtain ⟨he,_⟩:=hy;rw [he]) | (obtain ⟨_,_,he,_⟩:=hy;cases he) | (obtain ⟨_,he,_⟩:=hy;cases he)
        exact h1 _ _ _ _ e1 e2
      have hnstr:∀ x' y',¬ (u=.string x'∧v=.string y'):=by
        rintro x' y' ⟨rfl,rfl⟩
        have e1:x=.raw (.string x'):=by cases x<;>simp only [Rep] at hx<;>first | (obtain ⟨he,_⟩:=hx;rw [he]) | (obtain ⟨_,_,he,_⟩:=hx;cases he) | (obtain ⟨_,he,_⟩:=hx;cases he)
        have e2:y=.raw (.string y'):=by cases y<;>simp only [Rep] at hy<;>first | (obtain ⟨he,_⟩:=hy;rw [he]) | (obtain ⟨_,_,he,_⟩:=hy;cases he) | (obtain ⟨_,he,_⟩:=hy;cases he)
        exact h2 _ _ e1 e2
      have hgd:(eqGuard op t xo yo u v).run P w=.ok () w:=by
        by_cases hag:(∃ l,u=.agg l)∧∃ l,v=.agg l
        · obtain ⟨⟨l,rfl⟩,⟨l',rfl⟩⟩:=hag
          have e1:∃ xs,x=.agg xs:=by cases x<;>simp only [Rep] at hx<;>first | exact ⟨_,rfl⟩ | (obtain ⟨he,hs⟩:=hx;subst he;simp [simpleV] at hs) | (obtain ⟨_,_,he,_⟩:=hx;cases he) | (obtain ⟨_,he,_⟩:=hx;cases he)
          have e2:∃ xs,y=.agg xs:=by cases y<;>simp only [Rep] at hy<;>first | exact ⟨_,rfl⟩ | (obtain ⟨he,hs⟩:=hy;subst he;simp [simpleV] at hs) | (obtain ⟨_,_,he,_⟩:=hy;cases he) | (obtain ⟨_,he,_⟩:=hy;cases he)
          obtain ⟨xs,rfl⟩:=e1;obtain ⟨ys,rfl⟩:=e2
          simp only [eqOK,Bool.not_eq_true'] at hok
          unfold eqGuard
          cases op<;>simp [hok]
        · by_cases hni:u=.nilIface∧v=.nilIface
          · obtain ⟨rfl,rfl⟩:=hni
            have e1:x=.raw .nilIface:=by cases x<;>simp only [Rep] at hx<;>first | (obtain ⟨he,_⟩:=hx;rw [he]) | (obtain ⟨_,_,he,_⟩:=hx;cases he) | (obtain ⟨_,he,_⟩:=hx;cases he)
            have e2:y=.raw .nilIface:=by cases y<;>simp only [Rep] at hy<;>first | (obtain ⟨he,_⟩:=hy;rw [he]) | (obtain ⟨_,_,he,_⟩:=hy;cases he) | (obtain ⟨_,he,_⟩:=hy;cases he)
            subst e1;subst e2
            simp only [eqOK] at hok
            rw [hok] at hlit
            unfold eqGuard
            clear hb
            cases op<;>first | (simp;done) | (cases xo<;>cases yo<;>first | (simp;done) | simp [isC] at hlit)
          · unfold eqGuard
            cases op<;>simp<;>(cases u<;>first | rfl | (cases v<;>first | rfl | (exact absurd ⟨⟨_,rfl⟩,⟨_,rfl⟩⟩ hag) | (exact absurd ⟨rfl,rfl⟩ hni)))
      have fin:∀ (rb:Bool),eqT P 4 t x y=some rb→(op=.eql ∨ op=.neq)→∃ z,(do eqGuard op t xo yo u v;binOp op t u v:Sem Value).run P w=.ok z w∧z=.bool (if op=.eql then rb else !rb):=by
        intro rb hrb hop
        obtain ⟨g1,g3⟩:=eqT_run 4 9996 t x y u v rb hrb hx hy
        have g1:(Op.equal t u v).run P w=.ok rb w:=g1
        refine ⟨_,?_,rfl⟩
        have hbo:(binOp op t u v).run P w=.ok (.bool (if op=.eql then rb else !rb)) w:=by
          rcases hop with rfl | rfl
          · cases u<;>cases v<;>first
              | (exact absurd ⟨rfl,rfl⟩ (hnint _ _ _ _)) | (exact absurd ⟨rfl,rfl⟩ (hnstr _ _))
              | (exact absurd rfl (g3.1 _ _)) | (exact absurd rfl (g3.2 _ _ _))
              | (simp [binOp,g1];done)
          · cases u<;>cases v<;>first
              | (exact absurd ⟨rfl,rfl⟩ (hnint _ _ _ _)) | (exact absurd ⟨rfl,rfl⟩ (hnstr _ _))
              | (exact absurd rfl (g3.1 _ _)) | (exact absurd rfl (g3.2 _ _ _))
              | (simp [binOp,g1];done)
        simp only [Sem.run_bind,hgd,Result.andThen_ok,hbo]
      cases op<;>simp only [] at hb<;>first | cases hb | skip
      · cases hrb:eqT P 4 t x y with
        | none=>simp [hrb] at hb
        | some rb =>
          simp only [hrb,Option.map_some,Option.some.injEq] at hb;subst hb
          obtain ⟨z,g1,g2⟩:=fin rb hrb (.inl rfl)
          exact ⟨z,g1,by rw [g2];simp [Rep,simpleV]⟩
      · cases hrb:eqT P 4 t x y with
        | none=>simp [hrb] at hb
        | some rb =>
          simp only [hrb,Option.map_some,Option.some.injEq] at hb;subst hb
          obtain ⟨z,g1,g2⟩:=fin rb hrb (.inr rfl)
          exact ⟨z,g1,by rw [g2];simp [Rep,simpleV]⟩
    · cases hb
theorem arrElem_spec {t:TypeId} {n:Nat} {e:TypeId} {sz:Nat} (h:arrElem P t=some (n,e,sz)):P.underlying t=some (.array n e)∧∃ i,P.info? e=some i∧i.size=sz:=by
  unfold arrElem at h
  split at h
  · rename_i m e' hu
    split at h
    · rename_i i hi
      simp only [Option.some.injEq,Prod.mk.injEq] at h
      obtain ⟨rfl,rfl,rfl⟩:=h
      exact ⟨hu,i,hi,rfl⟩
    · cases h
  · cases h
theorem ixPA_spec {n sz:Nat} {x i r:AV} (h:ixPA n sz x i=some r):∃ b o kk k,x=.raw (.pointer (some ⟨b,o,none⟩))∧i=.raw (.int kk k)∧(0≤k∧k < n)∧r=.raw (.pointer (some ⟨b,o+k.toNat * sz,none⟩)):=by
  unfold ixPA at h
  split at h
  · split at h
    · rename_i hq
      exact ⟨_,_,_,_,rfl,rfl,hq,(Option.some.inj h).symm⟩
    · cases h
  · cases h
theorem ixAgg_spec {n sz:Nat} {agg:Bool} {x i r:AV} (h:ixAgg n agg sz x i=some r):∃ cs kk k,x=.agg cs∧i=.raw (.int kk k)∧(0≤k∧k < n)∧partA agg (k.toNat * sz) sz cs=some r:=by
  unfold ixAgg at h
  split at h
  · split at h
    · rename_i hq
      exact ⟨_,_,_,rfl,rfl,hq,h⟩
    · cases h
  · cases h
theorem ixaA_spec {sz:Nat} {x i:AV} {cs:List AV} (h:ixaA sz x i=some cs):∃ sz' nil tip xs n v,x=.sl sz' nil tip xs∧i=.raw (.int .i64 n)∧0≤n∧xs[n.toNat]?=some v∧sizedA sz v=some cs:=by
  unfold ixaA at h
  split at h
  · split at h
    · rename_i hn
      split at h
      · exact ⟨_,_,_,_,_,_,rfl,rfl,hn,by assumption,h⟩
      · cases h
    · cases h
  · cases h
theorem ixA_spec {x i r:AV} (h:ixA x i=some r):∃ s kk n b,x=.raw (.string s)∧i=.raw (.int kk n)∧0≤n∧s[n.toNat]?=some b∧r=.raw (.int .u8 b.toNat):=by
  unfold ixA at h
  split at h
  · split at h
    · rename_i hn
      split at h
      · simp only [Option.some.injEq] at h;exact ⟨_,_,_,_,rfl,rfl,hn,by assumption,h.symm⟩
      · cases h
    · cases h
  · cases h
theorem extractA_spec {x r:AV} {i:Nat} (h:extractA x i=some r):∃ vs,x=.tup vs∧vs[i]?=some r:=by
  unfold extractA at h
  split at h
  · exact ⟨_,rfl,h⟩
  · cases h
theorem unA_spec {op:UnOp} {x r:AV} (h:unA op x=some r):(∃ k n,op=.neg∧x=.raw (.int k n)∧r=.raw (.int k (k.wrap (0 - n)))) ∨ ∃ b,op=.not∧x=.raw (.bool b)∧r=.raw (.bool (!b)):=by
  unfold unA at h
  split at h
  · simp only [Option.some.injEq] at h;exact .inl ⟨_,_,rfl,rfl,h.symm⟩
  · simp only [Option.some.injEq] at h;exact .inr ⟨_,rfl,rfl,h.symm⟩
  · cases h

section
variable (he:Ext S.H0 S.Pi0 S.w0 H Pi w) (hi:Inv Pi H w) (hr:RelSt Pi H w S.w0.heap.size S.N st a.tmps β) (hd:Marks S.w0.heap.size H w a.defers)
theorem get_drop (d:Nat) (st:St) (t:Nat):get (dropLoc d st) t=(get st t).drop d:=by
  induction st with
  | nil=>rfl
  | cons a r ih =>
    obtain ⟨u,s⟩:=a
    have:dropLoc d ((u,s)::r)=(u,s.drop d)::dropLoc d r:=rfl
    rw [this]
    by_cases e:u=t
    · subst e;rw [get_cons_self,get_cons_self]
    · rw [get_cons_ne e,get_cons_ne e,ih]
theorem drop_cases (d:Nat) (s:Slot):s.drop d=s ∨ (s.drop d=.undef∧s.isBox=false∧∃ off,s=.loc d off):=by
  cases s with
  | loc b off =>
    simp only [Slot.drop]
    by_cases e:b=d
    · subst e;rw [Nat.beq_refl];exact .inr ⟨rfl,rfl,off,rfl⟩
    · have:Nat.beq b d=false:=by
        cases hb:Nat.beq b d with
        | false=>rfl
        | true=>exact absurd (Nat.eq_of_beq_eq_true hb) e
      rw [this];exact .inl rfl
  | _=>exact .inl rfl
theorem drop_box (d:Nat) (s:Slot):(s.drop d).isBox=s.isBox:=by
  rcases drop_cases d s with h | ⟨h,h',_⟩
  · rw [h]
  · rw [h,h'];rfl
/-- the boxes that a function value takes become objects -/
theorem pubs_good:∀ (l:List Operand) (k:St→Heap→Prop) (st:St) (H:Heap),Good S st H a w→pubs l k st H→∃ st' H',Good S st' H' a w∧k st' H'
  | [],k,st,H,hg,hx=>⟨st,H,hg,hx⟩
  | .const _::r,k,st,H,hg,hx=>pubs_good r k st H hg hx
  | .global _::r,k,st,H,hg,hx=>pubs_good r k st H hg hx
  | .func _::r,k,st,H,hg,hx=>pubs_good r k st H hg hx
  | .tmp t::r,k,st,H,hg,hx=>by
    simp only [pubs] at hx
    split at hx
    · rename_i cs hb
      · skip
        obtain ⟨Pi,β,he,hi,hr,hd⟩:=hg
        have hbox:(get st t).isBox=true:=by rw [hb];rfl
        obtain ⟨hB,hf⟩:=hr.box t hbox
        have hs:=hr.slot t
        rw [hb] at hs
        obtain ⟨hp,hat⟩:=hs
        have hcell:∃ vs e,w.heap[β t]?=some (.cells vs e (0,0)):=by obtain ⟨vs,e,h1,_⟩:=hat;exact ⟨vs,e,h1⟩
        refine pubs_good r k _ _ ⟨Pi,β,?_,?_,?_,?_⟩ (hx (β t) hf)
        · refine ⟨he.size,he.os,he.tape,he.output,he.keep,he.later,fun x hx=>⟨fun h1=>?_,(he.dom x hx).2⟩,he.newPi⟩
          simp only [Heap.setObj];rw [if_neg (by omega)];exact (he.dom x hx).1 h1
        · refine ⟨fun x y hy=>?_,fun x n hn=>?_,hi.pi,hi.tys⟩
          · simp only [Heap.setObj] at hy
            split at hy
            · rename_i e;subst e;simp only [Option.some.injEq] at hy;subst hy;exact hat
            · exact hi.objs x y hy
          · obtain ⟨h1,h2,h3⟩:=hi.tips x n hn
            refine ⟨?_,h2,h3⟩
            have hn':H.tips x=some n:=hn
            have:x ≠ β t:=fun e=>by subst e;rw [hf.2] at hn';cases hn'
            simp only [Heap.setObj];rw [if_neg this];exact h1
        · have hget:∀ u,t ≠ u→get ((t,Slot.val (.raw (.pointer (some ⟨β t,0,none⟩))))::dropLoc t st) u=(get st u).drop t:=fun u hu=>by rw [get_cons_ne hu,get_drop]
          have hbx:∀ u,(get ((t,Slot.val (.raw (.pointer (some ⟨β t,0,none⟩))))::dropLoc t st) u).isBox=true→t ≠ u∧(get st u).isBox=true:=fun u hu=>by
            have hne:t ≠ u:=fun e=>by subst e;rw [get_cons_self] at hu;cases hu
            rw [hget u hne,drop_box] at hu;exact ⟨hne,hu⟩
          refine ⟨hr.size,fun u=>?_,fun u hu=>?_,fun u u' hu hu' e=>?_,fun u d off hu=>?_⟩
          · by_cases e:t=u
            · subst e;rw [get_cons_self];simp only [RepS];exact rep_ptr.2 hp
            · rw [hget u e]
              rcases drop_cases t (get st u) with h | ⟨h,_⟩
              · rw [h];exact hr.slot u
              · rw [h];trivial
          · obtain ⟨hne,hu⟩:=hbx u hu
            obtain ⟨h1,h2⟩:=hr.box u hu
            refine ⟨h1,?_,h2.2⟩
            simp only [Heap.setObj];rw [if_neg (fun e=>hne (hr.inj t u hbox hu e.symm))];exact h2.1
          · exact hr.inj u u' (hbx u hu).2 (hbx u' hu').2 e
          · have hne:t ≠ u:=fun e=>by subst e;rw [get_cons_self] at hu;cases hu
            rw [hget u hne] at hu
            rcases drop_cases t (get st u) with h | ⟨h,_⟩
            · rw [h] at hu
              have hd':t ≠ d:=fun e=>by subst e;rw [hu] at h;simp [Slot.drop] at h
              rw [hget d hd',drop_box];exact hr.loc u d off hu
            · rw [h] at hu;cases hu
        · obtain ⟨rs,m1,m2,m3⟩:=hd
          refine ⟨rs,m1,m2,fun q hq=>?_⟩
          obtain ⟨k1,k2,k3⟩:=m3 q hq
          refine ⟨k1,⟨?_,k2.2⟩,k3⟩
          obtain ⟨vs,e,hc⟩:=hcell
          simp only [Heap.setObj];rw [if_neg (fun e'=>by subst e';rw [k3] at hc;cases hc)];exact k2.1
    · exact pubs_good r k st H hg hx
include he hi hr hd
/-- an operation that only reckons -/
theorem pure_op {r:AV} {v:Value} (hrun:(execOp a.eval o).run P w=.ok (.value v) w) (hv:Rep Pi w r v) (hx:putS S.N o.dst (.val r) st fun st=>k st H):Fine P S o k a w:=by
  obtain ⟨st',g1,g2⟩:=val_fine he hi hr hd hv hx
  exact ⟨v,w,st',H,.inl hrun,g1,g2⟩
theorem op_binOp {op:BinOp} {t yt:TypeId} {x y:Operand} (ho:o.op=.binOp op t x y yt) (hx:opX P C S.N h o k st H):Fine P S o k a w:=by
  simp only [opX,ho] at hx
  obtain ⟨va,hx,ra⟩:=evV_rep hr hx
  obtain ⟨vb,hx,rb⟩:=evV_rep hr hx
  obtain ⟨r,h1,hx⟩:=ob_spec hx
  obtain ⟨z,h2,h3⟩:=binA_run (xo:=x) (yo:=y) rfl h1 ra rb
  exact pure_op he hi hr hd (by simp only [execOp,ho,Sem.run_bind,Sem.run_pure];rw [Sem.run_bind] at h2;simp only [h2,Result.andThen_ok]) h3 hx
theorem op_unOp {op:UnOp} {t:TypeId} {x:Operand} (ho:o.op=.unOp op t x) (hx:opX P C S.N h o k st H):Fine P S o k a w:=by
  simp only [opX,ho] at hx
  obtain ⟨va,hx,ra⟩:=evV_rep hr hx
  obtain ⟨r,h1,hx⟩:=ob_spec hx
  rcases unA_spec h1 with ⟨kd,n,rfl,rfl,rfl⟩ | ⟨b,rfl,rfl,rfl⟩
  · simp only [rep_int] at ra
    exact pure_op he hi hr hd (v:=.int kd (kd.wrap (0 - n))) (by simp [execOp,ho,ra,Op.unary,Op.intArith]) (rep_int.2 rfl) hx
  · simp only [rep_bool] at ra
    exact pure_op he hi hr hd (v:=.bool (!b)) (by simp [execOp,ho,ra,Op.unary]) (rep_bool.2 rfl) hx
theorem op_makeFunc {f:Fn} {x y:Array Operand} (ho:o.op=.makeFunc f x y) (hx:opX P C S.N h o k st H):Fine P S o k a w:=by
  simp only [opX,ho] at hx
  obtain ⟨st,H,⟨Pi,β,he,hi,hr,hd⟩,hx⟩:=pubs_good _ _ _ _ ⟨Pi,β,he,hi,hr,hd⟩ hx
  obtain ⟨va,hx,ra⟩:=evVs_rep hr hx
  obtain ⟨vb,hx,rb⟩:=evVs_rep hr hx
  refine pure_op he hi hr hd (v:=.func f (x.map a.eval) (y.map a.eval)) (by simp [execOp,ho,Instr.makeFunc]) ?_ hx
  simp only [Rep]
  exact ⟨_,_,rfl,by simpa using ra,by simpa using rb⟩
theorem op_extract {x:Operand} {i:Nat} (ho:o.op=.extract x i) (hx:opX P C S.N h o k st H):Fine P S o k a w:=by
  simp only [opX,ho] at hx
  obtain ⟨va,hx,ra⟩:=evV_rep hr hx
  obtain ⟨r,h1,hk⟩:=ob_spec hx
  obtain ⟨ws,rfl,h1⟩:=extractA_spec h1
  simp only [Rep] at ra
  obtain ⟨vs,e,hl⟩:=ra
  obtain ⟨v,h2,h3⟩:=RepL.get _ _ hl i r h1
  have h2':vs[i]?=some v:=by simpa using h2
  exact pure_op he hi hr hd (v:=v) (by simp [execOp,ho,e,Instr.extract,h2']) h3 hk
theorem op_fieldAddr {t:TypeId} {x:Operand} {f:Nat} (ho:o.op=.fieldAddr t x f) (hx:opX P C S.N h o k st H):Fine P S o k a w:=by
  simp only [opX,ho] at hx
  split at hx
  · rename_i off sz ft hf
    split at hx
    · rename_i hsz
      obtain ⟨fs,fd,i,h1,h2,h3,h4,h5,h6⟩:=fieldOff_spec hf
      have hne:¬ i.size=0:=by have:=Nat.le_of_ble_eq_true hsz;omega
      obtain ⟨g1,g2,g3⟩:=ev_rep hr x
      have hrun:∀ b o',a.eval x=.pointer (some ⟨b,o',none⟩)→(execOp a.eval o).run P w=.ok (.value (.pointer (some ⟨b,o'+off,none⟩))) w:=fun b o' e=>by
        simp [execOp,ho,Instr.fieldAt,run_underlying h1,h2,e,Instr.sureAddr,fieldPlace,sizeOf,typeInfo,h3,hne,add_lit',h4]
      split at hx
      · rename_i b o' hev
        rw [hev] at g1
        simp only [RepS] at g1
        obtain ⟨st',k1,k2⟩:=put_fine he hi hr hd (s:=.loc b (o'+off)) (v:=.pointer (some ⟨β b,o'+off,none⟩)) rfl rfl (fun d' off' h=>g3 d' o' (by rw [hev];simp only [Slot.loc.injEq] at h;rw [h.1])) hx
        exact ⟨_,w,st',H,.inl (hrun _ _ g1),k1,k2⟩
      · rename_i cs hev
        rw [hev] at g1
        obtain ⟨b,o',vs,l1,l2,l3,l4⟩:=g1
        obtain ⟨st',k1,k2⟩:=put_fine he hi hr hd (s:=.cp (cs.drop off)) (v:=.pointer (some ⟨b,o'+off,none⟩))
          ⟨b,o'+off,vs.drop off,rfl,RepL.drop off _ _ l2,fun v hv=>l3 v (List.mem_of_mem_drop hv),fun i v hv=>by
            rw [List.getElem?_drop] at hv
            rw [Nat.add_assoc];exact l4 _ v hv⟩ rfl (fun d' off' h=>by cases h) hx
        exact ⟨_,w,st',H,.inl (hrun _ _ l1),k1,k2⟩
      · rename_i p hev
        rw [hev] at g1
        obtain ⟨r,l1,hx⟩:=ob_spec hx
        unfold addPA at l1
        split at l1
        · simp only [RepS,rep_ptr] at g1
          simp only [Option.some.injEq] at l1;subst l1
          exact pure_op he hi hr hd (hrun _ _ g1) (rep_ptr.2 rfl) hx
        · cases l1
      · exact hx.elim
    · exact hx.elim
  · exact hx.elim
theorem op_field {t:TypeId} {x:Operand} {f:Nat} (ho:o.op=.field t x f) (hx:opX P C S.N h o k st H):Fine P S o k a w:=by
  simp only [opX,ho] at hx
  split at hx
  · rename_i off sz ft hf
    split at hx
    · rename_i agg sz' hty
      obtain ⟨fs,fd,i,h1,h2,h3,h4,h5,h6⟩:=fieldOff_spec hf
      obtain ⟨va,hx,ra⟩:=evV_rep hr hx
      split at hx
      · rename_i cs
        obtain ⟨r,l1,hx⟩:=ob_spec hx
        simp only [Rep] at ra
        obtain ⟨vs,e,hl,h1'⟩:=ra
        obtain ⟨u,hu,hru⟩:=run_part (P:=P) (by rw [← h6] at hty;exact hty) hl h1' l1
        exact pure_op he hi hr hd (by simp [execOp,ho,Instr.field,run_underlying h1,h2,e,asAgg,h4,hu]) hru hx
      · exact hx.elim
    · exact hx.elim
  · exact hx.elim
theorem op_indexAddr {t:TypeId} {x y:Operand} (ho:o.op=.indexAddr t x y) (hx:opX P C S.N h o k st H):Fine P S o k a w:=by
  simp only [opX,ho] at hx
  split at hx
  · rename_i e sz by_ hs
    obtain ⟨h1,i,h2,h3,h4⟩:=sliceElem_spec hs
    obtain ⟨va,hx,ra⟩:=evV_rep hr hx
    obtain ⟨vb,hx,rb⟩:=evV_rep hr hx
    obtain ⟨cs,l1,hk⟩:=ob_spec hx
    obtain ⟨sz',nil,tip,xs,n,v,rfl,rfl,hn,hxi,l1⟩:=ixaA_spec l1
    simp only [Rep] at ra
    obtain ⟨A,c,e1,e2,e3,e4,e5,e6,e7⟩:=ra
    have hlt:n.toNat < xs.length:=by
      rcases Nat.lt_or_ge n.toNat xs.length with h | h
      · exact h
      · rw [List.getElem?_eq_none h] at hxi;cases hxi
    cases A with
    | none=>have:=e4 rfl;omega
    | some ad =>
      obtain ⟨f1,f2⟩:=e6 ad rfl
      have f1:=f1 (fun e=>by rw [e] at hlt;cases hlt)
      obtain ⟨u,m1,m2,m3,m4⟩:=RepRow.get _ _ _ _ f2 _ _ hxi
      obtain ⟨rfl,n1,n2,n3,n4,n5⟩:=sized_spec l1 m1
      have hsz:sz'=sz:=by rw [← m3,← n3]
      subst hsz
      rw [rep_int] at rb
      have had:ad=⟨ad.block,ad.off,none⟩:=by cases ad;simp at f1;simp [f1]
      obtain ⟨st',k1,k2⟩:=put_fine he hi hr hd (s:=.cp (cellsA v)) (v:=.pointer (some ⟨ad.block,ad.off+n.toNat * sz',none⟩)) (dst:=o.dst)
        ⟨ad.block,ad.off+n.toNat * sz',u.cells.toList,rfl,n1,n2,fun i v hv=>m4 i v (by simpa using hv)⟩ rfl (fun d' off' h=>by cases h) hk
      refine ⟨_,w,st',H,.inl ?_,k1,k2⟩
      have hlt':n < (xs.length:Int):=by omega
      rw [had] at e1
      simp [execOp,ho,Instr.indexAt,rb,asIntOf,run_underlying h1,e1,hn,hlt',sizeOf,typeInfo,h2,h3,add_lit']
  · split at hx
    · rename_i n e sz hs
      obtain ⟨h1,i,h2,h3⟩:=arrElem_spec hs
      obtain ⟨va,hx,ra⟩:=evV_rep hr hx
      obtain ⟨vb,hx,rb⟩:=evV_rep hr hx
      obtain ⟨r,l1,hx⟩:=ob_spec hx
      obtain ⟨b,o',kk,q,rfl,rfl,hq,rfl⟩:=ixPA_spec l1
      rw [rep_ptr] at ra;rw [rep_int] at rb
      refine pure_op he hi hr hd (v:=.pointer (some ⟨b,o'+q.toNat * sz,none⟩)) ?_ (rep_ptr.2 rfl) hx
      simp [execOp,ho,Instr.indexAt,rb,asIntOf,run_underlying h1,ra,Instr.sureAddr,hq,sizeOf,typeInfo,h2,h3,add_lit']
    · exact hx.elim
theorem op_index {t:TypeId} {x y:Operand} (ho:o.op=.index t x y) (hx:opX P C S.N h o k st H):Fine P S o k a w:=by
  simp only [opX,ho] at hx
  split at hx
  · rename_i hu
    obtain ⟨va,hx,ra⟩:=evV_rep hr hx
    obtain ⟨vb,hx,rb⟩:=evV_rep hr hx
    obtain ⟨r,l1,hx⟩:=ob_spec hx
    obtain ⟨s,kk,n,b,rfl,rfl,hn,hb,rfl⟩:=ixA_spec l1
    rw [rep_str] at ra;rw [rep_int] at rb
    exact pure_op he hi hr hd (v:=.int .u8 b.toNat) (by simp [execOp,ho,Instr.index,ra,rb,asIntOf,run_underlying hu,hn,hb]) (rep_int.2 rfl) hx
  · split at hx
    · rename_i n e sz0 hs
      obtain ⟨h1,i,h2,h3⟩:=arrElem_spec hs
      split at hx
      · rename_i agg sz hty
        obtain ⟨va,hx,ra⟩:=evV_rep hr hx
        obtain ⟨vb,hx,rb⟩:=evV_rep hr hx
        obtain ⟨r,l1,hx2⟩:=ob_spec hx
        clear hx
        obtain ⟨cs,kk,q,rfl,rfl,hq,l1⟩:=ixAgg_spec l1
        rw [rep_int] at rb
        simp only [Rep] at ra
        obtain ⟨us,ea,ra,ra1⟩:=ra
        obtain ⟨u,g1,g2⟩:=run_part (P:=P) (w:=w) hty ra ra1 l1
        have hsz:i.size=sz:=by
          unfold tyAgg at hty
          rw [h2] at hty
          cases hu:P.underlying e with
          | none=>rw [hu] at hty;cases hty
          | some D=>rw [hu] at hty;simp at hty;exact hty.2
        refine pure_op he hi hr hd (v:=u) ?_ g2 hx2
        simp [execOp,ho,Instr.index,rb,asIntOf,run_underlying h1,ea,hq,sizeOf,typeInfo,h2,hsz,g1]
      · exact hx.elim
    · exact hx.elim
end
end ops
end Go.Hx

