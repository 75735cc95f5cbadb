/- Regions that draw their order: an order in which light operations come first stands for every order. Own work (session 1). -/
import Derived.Test.YtancdapnpceogaaGreatHxMono
namespace Go.Hx
section draw
variable {P:Program} {C:CallRel} {N:Nat} {h:Hint} {ops:Array Oper}

theorem memN_iff {i:Nat} {l:List Nat}:memN i l=true ↔ i ∈ l:=by
  induction l with
  | nil=>simp [memN]
  | cons x r ih =>
    simp only [memN,List.mem_cons]
    split
    · rename_i hb;simp [Nat.eq_of_beq_eq_true hb]
    · rename_i hb
      have:i ≠ x:=fun e=>by subst e;rw [Nat.beq_refl] at hb;cases hb
      simp [this,ih]
theorem memN_false {i:Nat} {l:List Nat}:memN i l=false ↔ i ∉ l:=by
  rw [← memN_iff];cases memN i l<;>simp
theorem tm_mem {t:Nat} {l:List Operand} (hx:Operand.tmp t ∈ l):t ∈ tm l:=by
  induction l with
  | nil=>cases hx
  | cons y r ih =>
    cases hx with
    | head=>simp [tm]
    | tail _ hx=>cases y<;>simp [tm,ih hx]
theorem mem_guardSlot {o:Oper} {j g:Nat} {want:Bool} (hg:o.guard=some (j,want)) (hj:(ops[j]?).bind (·.dst)=some g):g ∈ guardSlot ops o:=by
  simp [guardSlot,hg,hj]

/-- two states that tell the same but at D -/
structure Agree (b:Bool) (D:Option Nat) (st1 st2:St):Prop where
  same:∀ t,D ≠ some t→get st1 t=get st2 t ∨ (b=true∧get st1 t=.undef∧(get st2 t).isBox=false)
  noloc:∀ d,D=some d→∀ t,t ≠ d→∀ off,get st2 t ≠ .loc d off
abbrev Eqv (st1 st2:St):Prop:=∀ t,get st1 t=get st2 t
def Closed (k:St→Heap→Prop):Prop:=∀ st1 st2 H,Eqv st1 st2→k st1 H→k st2 H
theorem Agree.ev {b:Bool} {D:Option Nat} {st1 st2:St} (ha:Agree b D st1 st2) {x:Operand} (hx:∀ d,D=some d→x ≠ .tmp d):ev st1 x=ev st2 x ∨ (b=true∧ev st1 x=.undef):=by
  cases x with
  | tmp t =>
    rcases ha.same t (fun e=>hx t e rfl) with h | ⟨h,h',_⟩
    · exact .inl (by simp only [Hx.ev,h])
    · exact .inr ⟨h,by simp only [Hx.ev,h']⟩
  | _=>exact .inl rfl
theorem ev_loc_ne {b':Bool} {D:Option Nat} {st1 st2:St} (ha:Agree b' D st1 st2) {x:Operand} (hx:∀ d,D=some d→x ≠ .tmp d) {b off:Nat} (he:ev st2 x=.loc b off):D ≠ some b:=by
  intro e
  cases x with
  | tmp t =>
    have ht:t ≠ b:=fun e'=>hx b e (by rw [e'])
    simp only [Hx.ev] at he
    cases hg:get st2 t with
    | loc b' o'=>rw [hg] at he;simp only [Slot.loc.injEq] at he;exact ha.noloc b e t ht o' (by rw [hg,he.1])
    | lbox cs=>rw [hg] at he;simp only [Slot.loc.injEq] at he;exact ht he.1
    | _=>rw [hg] at he;cases he
  | const v=>simp only [Hx.ev] at he;split at he<;>cases he
  | global g=>cases he
  | func f=>cases he
/-- what a step of o leaves as it was -/
structure Steps (D:Option Nat) (o:Oper) (st st':St):Prop where
  ev:∀ t,o.dst ≠ some t→Hx.ev st' (.tmp t)=Hx.ev st (.tmp t)
  get:isStore o=false→∀ t,o.dst ≠ some t→Hx.get st' t=Hx.get st t
  at_:∀ d,D=some d→Hx.get st' d=Hx.get st d
  box:∀ t,o.dst ≠ some t→(Hx.get st' t).isBox=(Hx.get st t).isBox
  fresh:∀ d,o.dst=some d→(Hx.get st d).isBox=false
theorem Eqv.symm {st1 st2:St} (he:Eqv st1 st2):Eqv st2 st1:=fun t=>(he t).symm
theorem Eqv.agree {st1 st2:St} (he:Eqv st1 st2):Agree false none st1 st2:=⟨fun t _=>.inl (he t),fun _ h=>by cases h⟩
theorem Agree.eq {D:Option Nat} {st1 st2:St} (ha:Agree false D st1 st2) {t:Nat} (ht:D ≠ some t):Hx.get st1 t=Hx.get st2 t:=by
  rcases ha.same t ht with h | ⟨h,_⟩
  · exact h
  · cases h
theorem Agree.eqv {st1 st2:St} (ha:Agree false none st1 st2):Eqv st1 st2:=fun t=>ha.eq (by simp)
theorem Agree.box {b:Bool} {D:Option Nat} {st1 st2:St} (ha:Agree b D st1 st2) {t:Nat} (ht:D ≠ some t):(Hx.get st1 t).isBox=(Hx.get st2 t).isBox:=by
  rcases ha.same t ht with h | ⟨_,h,h'⟩
  · rw [h]
  · rw [h,h'];rfl
theorem Agree.of_box {b:Bool} {D:Option Nat} {st1 st2:St} (ha:Agree b D st1 st2) {t:Nat} (ht:D ≠ some t) {cs:List AV} (hb:Hx.get st1 t=.lbox cs):Hx.get st2 t=.lbox cs:=by
  rcases ha.same t ht with h | ⟨_,h,h'⟩
  · rw [← h,hb]
  · rw [h] at hb;cases hb
theorem get_cons (t u:Nat) (s:Slot) (st:St):get ((t,s)::st) u=if t=u then s else get st u:=by
  by_cases h:t=u
  · subst h;rw [get_cons_self,if_pos rfl]
  · rw [get_cons_ne h,if_neg h]
theorem Agree.cons {b:Bool} {D:Option Nat} {st1 st2:St} (ha:Agree b D st1 st2) (t:Nat) (s:Slot) (hs:∀ d,D=some d→∀ off,s ≠ .loc d off):Agree b D ((t,s)::st1) ((t,s)::st2):=by
  refine ⟨fun u hu=>?_,fun d hd u hu off=>?_⟩
  · rw [get_cons,get_cons];split
    · exact .inl rfl
    · exact ha.same u hu
  · rw [get_cons];split
    · exact hs d hd off
    · exact ha.noloc d hd u hu off

theorem Agree.drop {b:Bool} {D:Option Nat} {st1 st2:St} (ha:Agree b D st1 st2) (t:Nat):Agree b D (dropLoc t st1) (dropLoc t st2):=by
  refine ⟨fun u hu=>?_,fun d hd u hu off=>?_⟩
  · rw [get_drop,get_drop,drop_box]
    rcases ha.same u hu with h | ⟨h,h',h''⟩
    · rw [h];exact .inl rfl
    · exact .inr ⟨h,by rw [h'];rfl,h''⟩
  · rw [get_drop]
    rcases drop_cases t (Hx.get st2 u) with h | ⟨h,_⟩
    · rw [h];exact ha.noloc d hd u hu off
    · rw [h];simp
/-- what a frame must give of a pair of ends -/
def Ends (h:Hint) (b:Bool) (D:Option Nat) (o:Oper) (st1 st2:St) (H:Heap) (k1 k2:St→Heap→Prop):Prop :=
  ∀ st1' st2' H',Agree b D st1' st2'→(isCap o=false→Steps D o st1 st1')→(isCap o=false→Steps D o st2 st2')→(lightOp h o=true→H'=H)→k1 st1' H'→k2 st2' H'

theorem putS_frame {b:Bool} {D:Option Nat} {o:Oper} {st1 st2:St} {H H':Heap} {k1 k2:St→Heap→Prop} (ha:Agree b D st1 st2) (hd:∀ d,D=some d→o.dst ≠ some d) {s:Slot} (hs:∀ d,D=some d→∀ off,s ≠ .loc d off)
    (he:Ends h b D o st1 st2 H k1 k2) (hH:lightOp h o=true→H'=H) (hx:putS N o.dst s st1 fun st=>k1 st H'):putS N o.dst s st2 fun st=>k2 st H':=by
  cases hod:o.dst with
  | none =>
    rw [hod] at hx
    exact he _ _ _ ha (fun _=>⟨fun _ _=>rfl,fun _ _ _=>rfl,fun _ _=>rfl,fun _ _=>rfl,fun _ h=>by rw [hod] at h;cases h⟩) (fun _=>⟨fun _ _=>rfl,fun _ _ _=>rfl,fun _ _=>rfl,fun _ _=>rfl,fun _ h=>by rw [hod] at h;cases h⟩) hH hx
  | some d =>
    rw [hod] at hx
    have hDd:D ≠ some d:=fun e=>hd d e hod
    simp only [putS,ha.box hDd] at hx ⊢
    split<;>rename_i hb<;>simp only [hb] at hx
    have hb2:(get st2 d).isBox=false:=by
      cases hb3:(get st2 d).isBox with
      | false=>rfl
      | true=>rw [hb3] at hb;simp at hb
    have key:∀ st:St,(get st d).isBox=false→Steps D o st ((d,s)::st):=fun st hbx=>by
      refine ⟨fun t ht=>?_,fun _ t ht=>?_,fun e hE=>?_,fun t ht=>?_,fun e he=>by rw [hod] at he;cases he;exact hbx⟩
      · have:d ≠ t:=fun e=>ht (by rw [hod,e])
        simp only [ev,get_cons_ne this]
      · have:d ≠ t:=fun e=>ht (by rw [hod,e])
        exact get_cons_ne this _ _
      · have:d ≠ e:=fun e'=>hDd (by rw [e',hE])
        exact get_cons_ne this _ _
      · have:d ≠ t:=fun e=>ht (by rw [hod,e])
        rw [get_cons_ne this]
    exact he _ _ _ (ha.cons d s hs) (fun _=>key _ (by rw [ha.box hDd];exact hb2)) (fun _=>key _ hb2) hH hx
theorem evV_frame {st1 st2:St} {x:Operand} {p q:AV→Prop} (he:ev st1 x=ev st2 x ∨ ev st1 x=.undef) (hpq:∀ v,p v→q v) (hx:evV st1 x p):evV st2 x q:=by
  rcases he with he | he
  · unfold evV at *;rw [← he];exact evV_mono hpq hx
  · unfold evV at hx;rw [he] at hx;exact hx.elim
theorem evVs_frame {st1 st2:St}:∀ {xs:List Operand} {p q:List AV→Prop},(∀ x ∈ xs,ev st1 x=ev st2 x ∨ ev st1 x=.undef)→(∀ v,p v→q v)→evVs st1 xs p→evVs st2 xs q
  | [],_,_,_,hpq,hx=>hpq _ hx
  | _::_,_,_,he,hpq,hx=>evV_frame (he _ (by simp)) (fun _ h=>evVs_frame (fun x hx=>he x (by simp [hx])) (fun _ h=>hpq _ h) h) hx
theorem evO_frame {st1 st2:St} {x:Option Operand} {p q:Option AV→Prop} (he:∀ y ∈ optL x,ev st1 y=ev st2 y ∨ ev st1 y=.undef) (hpq:∀ v,p v→q v) (hx:evO st1 x p):evO st2 x q:=by
  cases x with
  | none=>exact hpq _ hx
  | some y=>exact evV_frame (he y (by simp [optL])) (fun _ h=>hpq _ h) hx
theorem evD_frame {st1 st2:St} {x:Operand} {p q:AV→Prop} (he:ev st1 x=ev st2 x ∨ ev st1 x=.undef) (hpq:∀ v,p v→q v) (hx:evD st1 x p):evD st2 x q:=by
  unfold evD at *
  rcases he with e | e
  · rw [← e]
    split<;>rename_i h1<;>simp only [h1] at hx
    exact hpq _ hx
  · rw [e] at hx;exact hx.elim
theorem evParts_frame {st1 st2:St} {t:TypeId}:∀ {ps:List (Nat × Operand)} {p q:List (Nat × Nat × AV)→Prop},(∀ x ∈ ps.map (·.2),ev st1 x=ev st2 x ∨ ev st1 x=.undef)→(∀ v,p v→q v)→evParts P st1 t ps p→evParts P st2 t ps q
  | [],_,_,_,hpq,hx=>hpq _ hx
  | (f,x)::r,_,_,he,hpq,hx=>by
    simp only [evParts] at *
    split at hx
    · exact evV_frame (he x (by simp)) (fun _ h=>evParts_frame (fun x hx=>he x (by simp only [List.map_cons,List.mem_cons];exact .inr hx)) (fun _ h=>hpq _ h) h) hx
    · exact hx.elim
theorem evPartsN_frame {st1 st2:St} {n sz:Nat}:∀ {ps:List (Nat × Operand)} {p q:List (Nat × Nat × AV)→Prop},(∀ x ∈ ps.map (·.2),ev st1 x=ev st2 x ∨ ev st1 x=.undef)→(∀ v,p v→q v)→evPartsN st1 n sz ps p→evPartsN st2 n sz ps q
  | [],_,_,_,hpq,hx=>hpq _ hx
  | (f,x)::r,_,_,he,hpq,hx=>by
    simp only [evPartsN] at *
    split at hx
    · exact evV_frame (he x (by simp)) (fun _ h=>evPartsN_frame (fun x hx=>he x (by simp only [List.map_cons,List.mem_cons];exact .inr hx)) (fun _ h=>hpq _ h) h) hx
    · exact hx.elim
theorem opX_frame (hCm:CMono C C) {b:Bool} {D:Option Nat} {o:Oper} {st1 st2:St} {H:Heap} {k1 k2:St→Heap→Prop} (ha:Agree b D st1 st2) (hd:∀ d,D=some d→o.dst ≠ some d)
    (hl:∀ d,D=some d→d ∉ tm (lookL o.op)) (he:Ends h b D o st1 st2 H k1 k2) (hx:opX P C N h o k1 st1 H):opX P C N h o k2 st2 H:=by
  have hne:∀ x ∈ lookL o.op,∀ d,D=some d→x ≠ .tmp d:=fun x hx d hd e=>hl d hd (tm_mem (e ▸ hx))
  have hev:∀ x ∈ lookL o.op,ev st1 x=ev st2 x ∨ ev st1 x=.undef:=fun x hx=>(ha.ev (hne x hx)).imp id (·.2)
  have hloc:∀ x ∈ lookL o.op,∀ b off,ev st2 x=.loc b off→D ≠ some b:=fun x hx b off h=>ev_loc_ne ha (hne x hx) h
  have hput:∀ {s:Slot} {H':Heap},(∀ d,D=some d→∀ off,s ≠ .loc d off)→(lightOp h o=true→H'=H)→putS N o.dst s st1 (fun st=>k1 st H')→putS N o.dst s st2 (fun st=>k2 st H') :=
    fun hs hH hx=>putS_frame ha hd hs he hH hx
  have hval:∀ {r:AV},putS N o.dst (.val r) st1 (fun st=>k1 st H)→putS N o.dst (.val r) st2 (fun st=>k2 st H) :=
    fun hx=>hput (fun _ _ _ h=>by cases h) (fun _=>rfl) hx
  have hvalH:∀ {r:AV} {H':Heap},lightOp h o=false→putS N o.dst (.val r) st1 (fun st=>k1 st H')→putS N o.dst (.val r) st2 (fun st=>k2 st H') :=
    fun hn hx=>hput (fun _ _ _ h=>by cases h) (fun h=>by rw [hn] at h;cases h) hx
  have hbox:∀ {cs:List AV},putS N o.dst (.lbox cs) st1 (fun st=>k1 st H)→putS N o.dst (.lbox cs) st2 (fun st=>k2 st H) :=
    fun hx=>hput (fun _ _ _ h=>by cases h) (fun _=>rfl) hx
  have hcp:∀ {cs:List AV},putS N o.dst (.cp cs) st1 (fun st=>k1 st H)→putS N o.dst (.cp cs) st2 (fun st=>k2 st H) :=
    fun hx=>hput (fun _ _ _ h=>by cases h) (fun _=>rfl) hx
  cases ho:o.op with
  | move x | assign x =>
    rcases hev x (by simp [ho,lookL]) with e | e
    rotate_left
    · revert hx;simp only [opX,ho,e];repeat' first | exact False.elim | split
    have l:=hloc x (by simp [ho,lookL])
    simp only [opX,ho] at hx ⊢
    rw [e] at hx
    split<;>rename_i hu<;>simp only [hu] at hx
    exact hput (fun d hD off h=>l d off h hD) (fun _=>rfl) hx
  | pick c a b =>
    simp only [opX,ho] at hx ⊢
    exact evV_frame (hev c (by simp [ho,lookL])) (fun v=>cndA_mono (evV_frame (hev a (by simp [ho,lookL])) fun _=>hval) (evV_frame (hev b (by simp [ho,lookL])) fun _=>hval)) hx
  | alloc e =>
    simp only [opX,ho] at hx ⊢
    revert hx
    split
    · split
      · rename_i hu
        split
        · exact newT_mono (fun _ _=>hvalH (by simp [lightOp,ho,hu]))
        · exact newH_mono (fun _ _=>hvalH (by simp [lightOp,ho,hu]))
      · exact hbox
    · exact id
  | box e x =>
    simp only [opX,ho] at hx ⊢
    split<;>rename_i hu<;>simp only [hu] at hx
    refine evV_frame (hev x (by simp [ho,lookL])) (fun v=>ob_mono fun cs=>?_) hx
    split
    · rename_i hu
      split
      · exact newT_mono (fun _ _=>hvalH (by simp [lightOp,ho,hu]))
      · exact newH_mono (fun _ _=>hvalH (by simp [lightOp,ho,hu]))
    · exact hbox
  | build t parts =>
    simp only [opX,ho] at hx ⊢
    revert hx
    split
    · split
      · exact evParts_frame (fun x hx=>hev x (by simpa [ho,lookL] using hx)) (fun _=>ob_mono fun _=>hval)
      · exact id
    · split
      · exact evPartsN_frame (fun x hx=>hev x (by simpa [ho,lookL] using hx)) (fun _=>ob_mono fun _=>hval)
      · exact id
    · exact id
  | buildSlice t len parts =>
    simp only [opX,ho] at hx ⊢
    split<;>rename_i hu<;>simp only [hu] at hx
    split<;>rename_i hu<;>simp only [hu] at hx
    exact evVs_frame (fun x hx=>hev x (by simpa [ho,lookL] using hx)) (fun _=>ob_mono fun _=>hval) hx
  | load t x =>
    rcases hev x (by simp [ho,lookL]) with e | e
    rotate_left
    · revert hx;simp only [opX,ho,e];repeat' first | exact False.elim | split
    have l:=hloc x (by simp [ho,lookL])
    simp only [opX,ho] at hx ⊢
    split<;>rename_i hu<;>simp only [hu] at hx
    rw [e] at hx
    split<;>rename_i hu<;>simp only [hu] at hx
    · split at hx
      · rename_i hg
        simp only [ha.of_box (l _ _ hu) hg]
        exact ob_mono (fun _=>hval) hx
      · exact hx.elim
    · exact ob_mono (fun _=>hval) hx
    · exact ob_mono (fun _=>hval) hx
  | store t x y =>
    rcases hev x (by simp [ho,lookL]) with e | e
    rotate_left
    · revert hx;simp only [opX,ho,e];repeat' first | exact False.elim | split
    have l:=hloc x (by simp [ho,lookL])
    have hnl:lightOp h o=false:=by simp [lightOp,ho]
    have hst:isStore o=true:=by simp [isStore,ho]
    simp only [opX,ho] at hx ⊢
    split<;>rename_i hu<;>simp only [hu] at hx
    rw [e] at hx
    split<;>rename_i hu<;>simp only [hu] at hx
    · rename_i b off
      have hb:=l _ _ hu
      split at hx
      rotate_left
      · exact hx.elim
      rename_i cs hg1
      have hg:=ha.of_box hb hg1
      simp only [hg]
      refine evV_frame (hev y (by simp [ho,lookL])) (fun v=>ob_mono fun vs=>ob_mono fun cs' hx=>?_) hx
      have ha':Agree _ D ((b,.lbox cs')::st1) ((b,.lbox cs')::st2):=ha.cons b _ (fun _ _ _ h=>by cases h)
      refine putS_frame (k1:=k1) ha' hd (fun _ _ _ h=>by cases h) (fun st1' st2' H' a s1 s2 hH=>he st1' st2' H' a (fun _=>?_) (fun _=>?_) hH) (fun _=>rfl) hx
      · have s1:=s1 (by simp [isCap,ho])
        have key:∀ t,ev ((b,.lbox cs')::st1) (.tmp t)=ev st1 (.tmp t):=fun t=>by
          by_cases ht:b=t
          · subst ht;simp only [ev,get_cons_self,hg1]
          · simp only [ev,get_cons_ne ht]
        refine ⟨fun t ht=>(s1.ev t ht).trans (key t),(fun h=>by rw [hst] at h;cases h),fun d hD=>(s1.at_ d hD).trans (get_cons_ne (fun e=>hb (by rw [hD,e])) _ _),fun t ht=>(s1.box t ht).trans ?_,fun t ht=>?_⟩
        · rw [get_cons];split
          · rename_i e;subst e;rw [hg1];rfl
          · rfl
        · have:=s1.fresh t ht
          rw [get_cons] at this;split at this
          · cases this
          · exact this
      · have s2:=s2 (by simp [isCap,ho])
        have key:∀ t,ev ((b,.lbox cs')::st2) (.tmp t)=ev st2 (.tmp t):=fun t=>by
          by_cases ht:b=t
          · subst ht;simp only [ev,get_cons_self,hg]
          · simp only [ev,get_cons_ne ht]
        refine ⟨fun t ht=>(s2.ev t ht).trans (key t),(fun h=>by rw [hst] at h;cases h),fun d hD=>(s2.at_ d hD).trans (get_cons_ne (fun e=>hb (by rw [hD,e])) _ _),fun t ht=>(s2.box t ht).trans ?_,fun t ht=>?_⟩
        · rw [get_cons];split
          · rename_i e;subst e;rw [hg];rfl
          · rfl
        · have:=s2.fresh t ht
          rw [get_cons] at this;split at this
          · cases this
          · exact this
    · exact evV_frame (hev y (by simp [ho,lookL])) (fun v=>ob_mono fun _=>hput (fun _ _ _ h=>by cases h) (fun h=>by rw [hnl] at h;cases h)) hx
  | nilCheck x =>
    rcases hev x (by simp [ho,lookL]) with e | e
    rotate_left
    · revert hx;simp only [opX,ho,e];repeat' first | exact False.elim | split
    have l:=hloc x (by simp [ho,lookL])
    simp only [opX,ho] at hx ⊢
    rw [e] at hx
    split<;>rename_i hu<;>simp only [hu] at hx
    · exact ob_mono (fun _=>hval) hx
    · exact hput (fun d hD off h=>by cases h;exact l _ _ hu hD) (fun _=>rfl) hx
    · exact hcp hx
  | binOp op t x y yt =>
    simp only [opX,ho] at hx ⊢
    exact evV_frame (hev x (by simp [ho,lookL])) (fun _=>evV_frame (hev y (by simp [ho,lookL])) fun _=>ob_mono fun _=>hval) hx
  | unOp op t x =>
    simp only [opX,ho] at hx ⊢
    exact evV_frame (hev x (by simp [ho,lookL])) (fun _=>ob_mono fun _=>hval) hx
  | makeFunc f first cap =>
    simp only [opX,ho] at hx ⊢
    have hcap:∀ x ∈ cap.toList,∀ d,D=some d→x ≠ .tmp d:=fun x hx=>hne x (by simp only [ho,lookL];exact List.mem_append_right _ hx)
    have hfst:∀ x ∈ first.toList,∀ d,D=some d→x ≠ .tmp d:=fun x hx=>hne x (by simp only [ho,lookL];exact List.mem_append_left _ hx)
    have hpub:∀ (l:List Operand) (st1 st2:St) (H':Heap),(∀ x ∈ l,∀ d,D=some d→x ≠ .tmp d)→Agree b D st1 st2→(cap.toList=[]→H'=H∧l=[])→Ends h b D o st1 st2 H k1 k2 →
        pubs l (fun st H=>evVs st first.toList fun a=>evVs st cap.toList fun b=>putS N o.dst (.val (.fn f a b)) st fun st=>k1 st H) st1 H' →
        pubs l (fun st H=>evVs st first.toList fun a=>evVs st cap.toList fun b=>putS N o.dst (.val (.fn f a b)) st fun st=>k2 st H) st2 H':=by
      intro l
      induction l with
      | nil =>
        intro st1 st2 H' _ ha hH he hx
        exact evVs_frame (fun x hx=>(ha.ev (hfst x hx)).imp id (·.2)) (fun _=>evVs_frame (fun x hx=>(ha.ev (hcap x hx)).imp id (·.2)) fun _=>putS_frame ha hd (fun _ _ _ h=>by cases h) he (fun hl=>(hH (by simpa [lightOp,ho] using hl)).1)) hx
      | cons x r ih =>
        intro st1 st2 H' hl ha hH he hx
        have hcne:isCap o=true:=by
          simp only [isCap,ho,Bool.not_eq_true']
          cases hc:cap.toList with
          | nil=>have:=(hH hc).2;cases this
          | cons _ _=>rfl
        have he':∀ {s1 s2:St},Ends h b D o s1 s2 H k1 k2:=fun st1' st2' H'' a _ _ hH'' hk=>he st1' st2' H'' a (fun h=>by rw [hcne] at h;cases h) (fun h=>by rw [hcne] at h;cases h) hH'' hk
        have hH':cap.toList=[]→False:=fun hc=>by have:=(hH hc).2;cases this
        have hr:∀ y ∈ r,∀ d,D=some d→y ≠ .tmp d:=fun y hy=>hl y (by simp [hy])
        cases x with
        | tmp t =>
          have htD:D ≠ some t:=fun e=>hl (.tmp t) (by simp) t e rfl
          simp only [pubs] at hx ⊢
          split at hx
          · rename_i cs hb
            rw [ha.of_box htD hb]
            simp only
            exact newH_mono (fun p H'' hx=>ih _ _ H'' hr (ha.drop t |>.cons t _ (fun _ _ _ h=>by cases h)) (fun hc=>(hH' hc).elim) he' hx) hx
          · rename_i hnb
            have hx':=ih _ _ H' hr ha (fun hc=>(hH' hc).elim) he' hx
            split
            · rename_i cs hb
              exfalso
              have hbx:=ha.box htD
              rw [hb] at hbx
              cases hg:get st1 t with
              | lbox cs'=>exact hnb _ hg
              | _=>rw [hg] at hbx;cases hbx
            · exact hx'
        | const v=>exact ih _ _ H' hr ha (fun hc=>(hH' hc).elim) he' hx
        | global v=>exact ih _ _ H' hr ha (fun hc=>(hH' hc).elim) he' hx
        | func v=>exact ih _ _ H' hr ha (fun hc=>(hH' hc).elim) he' hx
    exact hpub cap.toList st1 st2 H hcap ha (fun hc=>⟨rfl,hc⟩) he hx
  | slice t x lo hi mx =>
    simp only [opX,ho] at hx ⊢
    have hlo:∀ y ∈ optL lo,ev st1 y=ev st2 y ∨ ev st1 y=.undef:=fun y hy=>hev y (by simp [ho,lookL,hy])
    have hhi:∀ y ∈ optL hi,ev st1 y=ev st2 y ∨ ev st1 y=.undef:=fun y hy=>hev y (by simp [ho,lookL,hy])
    have hmx:∀ y ∈ optL mx,ev st1 y=ev st2 y ∨ ev st1 y=.undef:=fun y hy=>hev y (by simp [ho,lookL,hy])
    have hxx:=hev x (by simp [ho,lookL])
    split<;>rename_i hu<;>simp only [hu] at hx
    · refine evV_frame hxx (fun _=>evO_frame hlo fun _=>evO_frame hhi fun _=>ob_mono fun _ hx=>?_) hx
      split<;>simp only at hx
      exact hval hx
    · split<;>rename_i hu2<;>simp only [hu2] at hx
      · exact evV_frame hxx (fun _=>evO_frame hlo fun _=>evO_frame hhi fun _=>evO_frame hmx fun _=>ob_mono fun _=>hval) hx
      · revert hx
        split
        · rename_i hin
          exact evV_frame hxx (fun _=>evV_frame (hlo _ (by simp [optL])) fun _=>slArr_mono fun _ _=>hvalH (by simp [lightOp,ho,hin]))
        · exact id
  | fieldAddr t x f =>
    rcases hev x (by simp [ho,lookL]) with e | e
    rotate_left
    · revert hx;simp only [opX,ho,e];repeat' first | exact False.elim | split
    have l:=hloc x (by simp [ho,lookL])
    simp only [opX,ho] at hx ⊢
    split<;>rename_i hu<;>simp only [hu] at hx
    split<;>rename_i hu<;>simp only [hu] at hx
    rw [e] at hx
    split<;>rename_i hu<;>simp only [hu] at hx
    · exact hput (fun d hD off h=>by cases h;exact l _ _ hu hD) (fun _=>rfl) hx
    · exact hcp hx
    · exact ob_mono (fun _=>hval) hx
  | field t x f =>
    simp only [opX,ho] at hx ⊢
    split<;>rename_i hu<;>simp only [hu] at hx
    split<;>rename_i hu<;>simp only [hu] at hx
    refine evV_frame (hev x (by simp [ho,lookL])) (fun v hx=>?_) hx
    split<;>simp only at hx
    exact ob_mono (fun _=>hval) hx
  | indexAddr t x i =>
    simp only [opX,ho] at hx ⊢
    split<;>rename_i hu<;>simp only [hu] at hx
    · exact evV_frame (hev x (by simp [ho,lookL])) (fun _=>evV_frame (hev i (by simp [ho,lookL])) fun _=>ob_mono fun _=>hcp) hx
    · revert hx
      split
      · exact evV_frame (hev x (by simp [ho,lookL])) (fun _=>evV_frame (hev i (by simp [ho,lookL])) fun _=>ob_mono fun _=>hval)
      · exact id
  | index t x i =>
    simp only [opX,ho] at hx ⊢
    revert hx
    split
    · exact evV_frame (hev x (by simp [ho,lookL])) (fun _=>evV_frame (hev i (by simp [ho,lookL])) fun _=>ob_mono fun _=>hval)
    · split
      · split
        · exact evV_frame (hev x (by simp [ho,lookL])) (fun _=>evV_frame (hev i (by simp [ho,lookL])) fun _=>ob_mono fun _=>hval)
        · exact id
      · exact id
  | extract x i =>
    simp only [opX,ho] at hx ⊢
    exact evV_frame (hev x (by simp [ho,lookL])) (fun _=>ob_mono fun _=>hval) hx
  | range t x =>
    simp only [opX,ho] at hx ⊢
    revert hx
    split
    · exact evV_frame (hev x (by simp [ho,lookL])) (fun _=>rngA_mono fun _ _=>hvalH (by simp [lightOp,ho]))
    · exact evV_frame (hev x (by simp [ho,lookL])) (fun _=>rngM_mono fun _ _=>hvalH (by simp [lightOp,ho]))
    · exact id
  | next x isS =>
    simp only [opX,ho] at hx ⊢
    revert hx
    split
    · exact evV_frame (hev x (by simp [ho,lookL])) (fun _=>nextA_mono fun _ _=>hvalH (by simp [lightOp,ho]))
    · exact evV_frame (hev x (by simp [ho,lookL])) (fun _=>nextM_mono fun _ _=>hvalH (by simp [lightOp,ho]))
  | entry x =>
    simp only [opX,ho] at hx ⊢
    exact evV_frame (hev x (by simp [ho,lookL])) (fun _=>ob_mono fun _=>hval) hx
  | makeMap t r =>
    simp only [opX,ho] at hx ⊢
    revert hx
    split
    · split
      · exact mkMapA_mono fun _ _=>hvalH (by simp [lightOp,ho])
      · exact id
    · exact id
  | lookup t x i ok =>
    simp only [opX,ho] at hx ⊢
    revert hx
    split
    · exact evV_frame (hev x (by simp [ho,lookL])) (fun _=>evV_frame (hev i (by simp [ho,lookL])) fun _=>ob_mono fun _=>hval)
    · exact id
  | mapUpdate t m i x =>
    simp only [opX,ho] at hx ⊢
    revert hx
    split
    · exact evV_frame (hev m (by simp [ho,lookL])) (fun _=>evV_frame (hev i (by simp [ho,lookL])) fun _=>evV_frame (hev x (by simp [ho,lookL])) fun _=>updA_mono fun _=>hput (fun _ _ _ h=>by cases h) (fun h=>by simp [lightOp,ho] at h))
    · exact id
  | insert t m i x =>
    simp only [opX,ho] at hx ⊢
    revert hx
    split
    · exact evV_frame (hev m (by simp [ho,lookL])) (fun _=>evV_frame (hev i (by simp [ho,lookL])) fun _=>evV_frame (hev x (by simp [ho,lookL])) fun _=>updA_mono fun _=>hput (fun _ _ _ h=>by cases h) (fun h=>by simp [lightOp,ho] at h))
    · exact id
  | convert s d x =>
    simp only [opX,ho] at hx ⊢
    revert hx
    split
    · exact evV_frame (hev x (by simp [ho,lookL])) (fun _=>ob_mono fun _=>hval)
    · split
      · exact evV_frame (hev x (by simp [ho,lookL])) (fun _=>convP_mono fun _=>hval)
      · exact id
    · split
      · exact evV_frame (hev x (by simp [ho,lookL])) (fun _=>convP_mono fun _=>hval)
      · exact id
    · split
      · exact evV_frame (hev x (by simp [ho,lookL])) (fun _=>bsA_mono fun _=>hval)
      · exact id
    · split
      · exact evV_frame (hev x (by simp [ho,lookL])) (fun _=>sbA_mono fun _=>hval)
      · exact id
    · exact id
  | makeInterface s x =>
    simp only [opX,ho] at hx ⊢
    revert hx
    split
    · exact evV_frame (hev x (by simp [ho,lookL])) (fun _=>hval)
    · exact id
  | typeAssert x t1 t2 ok =>
    simp only [opX,ho] at hx ⊢
    revert hx
    split
    · exact evV_frame (hev x (by simp [ho,lookL])) (fun _=>ob_mono fun _=>hval)
    · exact id
  | call c =>
    simp only [opX,ho] at hx ⊢
    have hargs:∀ x ∈ c.args.toList,ev st1 x=ev st2 x ∨ ev st1 x=.undef:=fun x hx=>hev x (by simp only [ho,lookL];exact List.mem_append_right _ hx)
    revert hx
    split<;>rename_i hc
    · rename_i f
      split
      · exact evVs_frame hargs fun _=>primA_mono fun _=>hval
      · exact evV_frame (hev f (by simp [ho,lookL,hc])) (fun _=>evVs_frame hargs fun _=>callA_mono hCm fun _ _=>hvalH (by simp [lightOp,ho,hc]))
    · rename_i f name
      exact evV_frame (hev f (by simp [ho,lookL,hc])) (fun _=>evVs_frame hargs fun _=>invA_mono hCm fun _ _=>hvalH (by simp [lightOp,ho,hc]))
    all_goals repeat' first
      | exact id
      | exact hval
      | (refine evV_frame (hargs _ (by simp [*])) (fun _=>?_))
      | (refine evD_frame (hargs _ (by simp [*])) (fun _=>?_))
      | (refine ob_mono (fun _=>?_))
      | (refine appA_mono (fun _ _=>hvalH (by simp [lightOp,ho,hc])))
      | (refine appB_mono (fun _ _=>hvalH (by simp [lightOp,ho,hc])))
      | (refine strA_mono (fun _ _=>hvalH (by simp [lightOp,ho,hc])))
      | exact hput (fun _ _ _ h=>by cases h) (fun _=>rfl)
      | split
  | _=>simp only [opX,ho] at hx
/-- knowing a guard's value changes nothing -/
theorem know_eqv {st:St} {g:Nat} {v:AV} (he:ev st (.tmp g)=.val v):Eqv st ((g,.val v)::st):=fun t=>by
  rw [get_cons];split
  · rename_i e;subst e
    simp only [ev] at he
    cases hg:get st g with
    | lbox cs=>rw [hg] at he;cases he
    | _=>rw [hg] at he;first | exact he | cases he
  · rfl
theorem evV_spec {st:St} {x:Operand} {k:AV→Prop} (hx:evV st x k):∃ v,ev st x=.val v∧k v:=by
  unfold evV at hx;split at hx
  · rename_i v hv;exact ⟨v,hv,hx⟩
  · exact hx.elim
theorem Eqv.ev {st1 st2:St} (he:Eqv st1 st2) (x:Operand):ev st1 x=ev st2 x:=by
  rcases he.agree.ev (x:=x) (fun _ h=>by cases h) with h | ⟨h,_⟩
  · exact h
  · cases h
theorem Steps.of_eqv {D:Option Nat} {o:Oper} {st st2 st':St} (he:Eqv st st2) (hs:Steps D o st2 st'):Steps D o st st' :=
  ⟨fun t ht=>(hs.ev t ht).trans (he.symm.ev _),fun h t ht=>(hs.get h t ht).trans (he t).symm,fun d hd=>(hs.at_ d hd).trans (he d).symm,fun t ht=>(hs.box t ht).trans (by rw [he t]),fun t ht=>by rw [he t];exact hs.fresh t ht⟩
theorem opG_frame (hCm:CMono C C) {b:Bool} {D:Option Nat} {o:Oper} {st1 st2:St} {H:Heap} {k1 k2:St→Heap→Prop} (ha:Agree b D st1 st2) (hd:∀ d,D=some d→o.dst ≠ some d)
    (hl:∀ d,D=some d→d ∉ looks ops o) (he:Ends h b D o st1 st2 H k1 k2) (hx:opG P C N h ops o k1 st1 H):opG P C N h ops o k2 st2 H:=by
  have hl1:∀ d,D=some d→d ∉ tm (lookL o.op):=fun d hD hm=>hl d hD (List.mem_append_left _ hm)
  unfold opG at *
  cases hg:o.guard with
  | none=>rw [hg] at hx;exact opX_frame hCm ha hd hl1 he hx
  | some jw =>
    obtain ⟨j,want⟩:=jw
    rw [hg] at hx
    simp only at hx ⊢
    cases hj:(ops[j]?).bind (·.dst) with
    | none=>rw [hj] at hx;exact hx
    | some g =>
      rw [hj] at hx
      have hgD:∀ d,D=some d→Operand.tmp g ≠ .tmp d:=fun d hD e=>hl d hD (List.mem_append_right _ (by cases e;exact mem_guardSlot hg hj))
      have e:=ha.ev hgD
      simp only at hx
      split at hx
      · rename_i hv
        have hv2:ev st2 (.tmp g)=.nov:=by
          rcases e with e | ⟨_,e⟩
          · rw [← e];exact hv
          · rw [e] at hv;cases hv
        simp only [hv2]
        exact putS_frame ha hd (fun _ _ _ h=>by cases h) he (fun _=>rfl) hx
      rotate_left
      · exact hx.elim
      rename_i v hv
      have hv2:ev st2 (.tmp g)=.val v:=by
        rcases e with e | ⟨_,e⟩
        · rw [← e];exact hv
        · rw [e] at hv;cases hv
      simp only [hv2]
      have k1':=know_eqv hv
      have k2':=know_eqv hv2
      have fin:∀ w:AV,v=w→Ends h b D o ((g,.val w)::st1) ((g,.val w)::st2) H k1 k2:=fun w hw st1' st2' H' a s1 s2 hH hk=>by
        subst hw;exact he st1' st2' H' a (fun h=>(s1 h).of_eqv k1') (fun h=>(s2 h).of_eqv k2') hH hk
      have ha':∀ w:AV,Agree b D ((g,.val w)::st1) ((g,.val w)::st2):=fun w=>ha.cons g _ (fun _ _ _ h=>by cases h)
      rcases cndA_spec hx with ⟨rfl,h2⟩ | ⟨rfl,h2⟩
      · cases want with
        | true=>exact opX_frame hCm (ha' _) hd hl1 (fin _ rfl) h2
        | false=>exact putS_frame (ha' _) hd (fun _ _ _ h=>by cases h) (fin _ rfl) (fun _=>rfl) h2
      · cases want with
        | true=>exact putS_frame (ha' _) hd (fun _ _ _ h=>by cases h) (fin _ rfl) (fun _=>rfl) h2
        | false=>exact opX_frame hCm (ha' _) hd hl1 (fin _ rfl) h2

def putT (dst:Option Tmp) (s:Slot) (st:St):St :=
  match dst with
  | none=>st
  | some d=>(d,s)::st
/-- what a pointer points into is the same -/
def objKeep (v:AV) (H H':Heap):Prop:=∀ b off s,v=.raw (.pointer (some ⟨b,off,s⟩))→H'.objs b=H.objs b
theorem ld_keep {v:AV} {H H':Heap} (hk:objKeep v H H') (agg:Bool) (sz:Nat):ldH H' agg sz v=ldH H agg sz v:=by
  unfold ldH
  split
  · rename_i b o
    rw [hk b o none rfl]
  · rfl
/-- what a light operation reads is the same in both -/
structure Same (o:Oper) (c:Nat) (st st2:St) (H H2:Heap):Prop where
  ev:∀ x ∈ lookL o.op,Hx.ev st2 x=Hx.ev st x
  get:isLoad o=true→∀ x ∈ lookL o.op,∀ b off,Hx.ev st x=.loc b off→(Hx.get st b).isBox=true→Hx.get st2 b=Hx.get st b
  heap:c=2→H2=H
  far:c=3→∀ t a v,o.op=.load t a→Hx.ev st a=.val v→objKeep v H H2
  box:∀ d,o.dst=some d→(Hx.get st2 d).isBox=(Hx.get st d).isBox
def Det (P:Program) (C:CallRel) (N:Nat) (h:Hint) (o:Oper) (c:Nat) (k:St→Heap→Prop) (st:St) (H:Heap):Prop :=
  ∃ s,k (putT o.dst s st) H∧(∀ d off,s=.loc d off→∃ x ∈ lookL o.op,∃ off',ev st x=.loc d off')∧∀ st2 H2 (k2:St→Heap→Prop),Same o c st st2 H H2→k2 (putT o.dst s st2) H2→opX P C N h o k2 st2 H2
theorem putS_det {dst:Option Tmp} {s:Slot} {st:St} {p:St→Prop} (hx:putS N dst s st p):p (putT dst s st)∧∀ (st2:St) (q:St→Prop),(∀ d,dst=some d→(get st2 d).isBox=(get st d).isBox)→q (putT dst s st2)→putS N dst s st2 q:=by
  cases dst with
  | none=>exact ⟨hx,fun _ _ _ h=>h⟩
  | some d =>
    simp only [putS] at hx
    split at hx
    · rename_i hb
      refine ⟨hx,fun st2 q he hq=>?_⟩
      simp only [putS,he d rfl,hb]
      exact hq
    · exact hx.elim
theorem evVs_det {st:St}:∀ {xs:List Operand} {p:List AV→Prop},evVs st xs p→∃ vs,p vs∧∀ (st2:St) (q:List AV→Prop),(∀ x ∈ xs,ev st2 x=ev st x)→q vs→evVs st2 xs q
  | [],_,hx=>⟨[],hx,fun _ _ _ h=>h⟩
  | x::r,_,hx=>by
    obtain ⟨v,hv,hx⟩:=evV_spec hx
    obtain ⟨vs,h1,h2⟩:=evVs_det hx
    refine ⟨v::vs,h1,fun st2 q he hq=>?_⟩
    simp only [evVs,evV,he x (by simp),hv]
    exact h2 st2 _ (fun y hy=>he y (by simp [hy])) hq
theorem evO_det {st:St} {x:Option Operand} {p:Option AV→Prop} (hx:evO st x p):∃ v,p v∧∀ (st2:St) (q:Option AV→Prop),(∀ y ∈ optL x,ev st2 y=ev st y)→q v→evO st2 x q:=by
  cases x with
  | none=>exact ⟨none,hx,fun _ _ _ h=>h⟩
  | some y =>
    obtain ⟨v,hv,hx⟩:=evV_spec hx
    refine ⟨some v,hx,fun st2 q he hq=>?_⟩
    simp only [evO,evV,he y (by simp [optL]),hv]
    exact hq
theorem evParts_det {st:St} {t:TypeId}:∀ {ps:List (Nat × Operand)} {p:List (Nat × Nat × AV)→Prop},evParts P st t ps p→∃ l,p l∧∀ (st2:St) (q:List (Nat × Nat × AV)→Prop),(∀ x ∈ ps.map (·.2),ev st2 x=ev st x)→q l→evParts P st2 t ps q
  | [],_,hx=>⟨[],hx,fun _ _ _ h=>h⟩
  | (i,x)::r,_,hx=>by
    simp only [evParts] at hx
    split at hx
    · rename_i hf
      obtain ⟨v,hv,hx⟩:=evV_spec hx
      obtain ⟨l,h1,h2⟩:=evParts_det hx
      refine ⟨_,h1,fun st2 q he hq=>?_⟩
      simp only [evParts,hf,evV,he x (by simp),hv]
      exact h2 st2 _ (fun y hy=>he y (by simp only [List.map_cons,List.mem_cons];exact .inr hy)) hq
    · exact hx.elim
theorem evPartsN_det {st:St} {n sz:Nat}:∀ {ps:List (Nat × Operand)} {p:List (Nat × Nat × AV)→Prop},evPartsN st n sz ps p→∃ l,p l∧∀ (st2:St) (q:List (Nat × Nat × AV)→Prop),(∀ x ∈ ps.map (·.2),ev st2 x=ev st x)→q l→evPartsN st2 n sz ps q
  | [],_,hx=>⟨[],hx,fun _ _ _ h=>h⟩
  | (i,x)::r,_,hx=>by
    simp only [evPartsN] at hx
    split at hx
    · rename_i hf
      obtain ⟨v,hv,hx⟩:=evV_spec hx
      obtain ⟨l,h1,h2⟩:=evPartsN_det hx
      refine ⟨_,h1,fun st2 q he hq=>?_⟩
      simp only [evPartsN,hf,evV,he x (by simp),hv]
      exact h2 st2 _ (fun y hy=>he y (by simp only [List.map_cons,List.mem_cons];exact .inr hy)) hq
    · exact hx.elim
theorem light_det {o:Oper} {c:Nat} {k:St→Heap→Prop} {st:St} {H:Heap} (hlo:lightOp h o=true) (hld:∀ t a,o.op=.load t a→c ≠ 2→c ≠ 3→∀ v,ev st a ≠ .val v) (hx:opX P C N h o k st H):Det P C N h o c k st H:=by
  have fin:∀ {s:Slot},putS N o.dst s st (fun st=>k st H)→(∀ d off,s=.loc d off→∃ x ∈ lookL o.op,∃ off',ev st x=.loc d off') →
      (∀ st2 H2 (k2:St→Heap→Prop),Same o c st st2 H H2→putS N o.dst s st2 (fun st=>k2 st H2)→opX P C N h o k2 st2 H2)→Det P C N h o c k st H:=fun hp hs hk=>by
    obtain ⟨h1,h2⟩:=putS_det hp
    exact ⟨_,h1,hs,fun st2 H2 k2 he hk2=>hk st2 H2 k2 he (h2 st2 _ (fun d hd=>he.box d hd) hk2)⟩
  have finv:∀ {r:AV},putS N o.dst (.val r) st (fun st=>k st H) →
      (∀ st2 H2 (k2:St→Heap→Prop),Same o c st st2 H H2→putS N o.dst (.val r) st2 (fun st=>k2 st H2)→opX P C N h o k2 st2 H2)→Det P C N h o c k st H:=fun hp hk=>fin hp (fun _ _ h=>by cases h) hk
  cases ho:o.op with
  | move x | assign x =>
    simp only [opX,ho] at hx
    split at hx
    · exact hx.elim
    · rename_i hu
      refine fin hx (fun d off he=>⟨x,by simp [ho,lookL],off,he⟩) (fun st2 H2 k2 he hp=>?_)
      simp only [opX,ho,he.ev x (by simp [ho,lookL])]
      exact hp
  | pick x a b =>
    simp only [opX,ho] at hx
    obtain ⟨v,hv,hx⟩:=evV_spec hx
    rcases cndA_spec hx with ⟨rfl,hx⟩ | ⟨rfl,hx⟩
    all_goals
      obtain ⟨r,hr,hx⟩:=evV_spec hx
      refine finv hx (fun st2 H2 k2 he hp=>?_)
      simp only [opX,ho,evV,he.ev x (by simp [ho,lookL]),he.ev a (by simp [ho,lookL]),he.ev b (by simp [ho,lookL]),hv,hr,cndA]
      exact hp
  | alloc e =>
    have hh:inHp h o.dst=false:=by simpa [lightOp,ho] using hlo
    simp only [opX,ho,hh] at hx
    split at hx
    · rename_i hz
      refine fin hx (fun _ _ h=>by cases h) (fun st2 H2 k2 he hp=>?_)
      simp only [opX,ho,hh,hz];exact hp
    · exact hx.elim
  | box e x =>
    have hh:inHp h o.dst=false:=by simpa [lightOp,ho] using hlo
    simp only [opX,ho,hh] at hx
    split at hx
    · rename_i hz
      obtain ⟨v,hv,hx⟩:=evV_spec hx
      obtain ⟨cs,hcs,hx⟩:=ob_spec hx
      refine fin hx (fun _ _ h=>by cases h) (fun st2 H2 k2 he hp=>?_)
      simp only [opX,ho,hh,hz,evV,he.ev x (by simp [ho,lookL]),hv,hcs,ob];exact hp
    · exact hx.elim
  | build t parts =>
    simp only [opX,ho] at hx
    split at hx
    · rename_i h1 h2
      split at hx
      · rename_i h3
        obtain ⟨l,hl,hd⟩:=evParts_det hx
        obtain ⟨r,hr,hx⟩:=ob_spec hl
        refine finv hx (fun st2 H2 k2 he hp=>?_)
        simp only [opX,ho,h1,h2,h3]
        exact hd st2 _ (fun x hx=>he.ev x (by simpa [ho,lookL] using hx)) (by rw [hr];exact hp)
      · exact hx.elim
    · rename_i h1 h2
      split at hx
      · rename_i h3
        obtain ⟨l,hl,hd⟩:=evPartsN_det hx
        obtain ⟨r,hr,hx⟩:=ob_spec hl
        refine finv hx (fun st2 H2 k2 he hp=>?_)
        simp only [opX,ho,h1,h2,h3]
        exact hd st2 _ (fun x hx=>he.ev x (by simpa [ho,lookL] using hx)) (by rw [hr];exact hp)
      · exact hx.elim
    · exact hx.elim
  | buildSlice t len parts =>
    simp only [opX,ho] at hx
    split at hx
    · rename_i h1
      split at hx
      · rename_i h3
        obtain ⟨l,hl,hd⟩:=evVs_det hx
        obtain ⟨r,hr,hx⟩:=ob_spec hl
        refine finv hx (fun st2 H2 k2 he hp=>?_)
        simp only [opX,ho,h1,h3]
        exact hd st2 _ (fun x hx=>he.ev x (by simpa [ho,lookL] using hx)) (by rw [hr];exact hp)
      · exact hx.elim
    · exact hx.elim
  | load t x =>
    simp only [opX,ho] at hx
    split at hx
    · rename_i hz
      split at hx
      · rename_i b off hu
        split at hx
        · rename_i hg
          obtain ⟨r,hr,hx⟩:=ob_spec hx
          refine finv hx (fun st2 H2 k2 he hp=>?_)
          simp only [opX,ho,hz,he.ev x (by simp [ho,lookL]),hu,he.get (by simp [isLoad,ho]) x (by simp [ho,lookL]) b off hu (by rw [hg];rfl),hg,hr,ob];exact hp
        · exact hx.elim
      · rename_i hu
        obtain ⟨r,hr,hx⟩:=ob_spec hx
        refine finv hx (fun st2 H2 k2 he hp=>?_)
        simp only [opX,ho,hz,he.ev x (by simp [ho,lookL]),hu,hr,ob];exact hp
      · rename_i v hu
        obtain ⟨r,hr,hx⟩:=ob_spec hx
        have hc:c=2 ∨ c=3:=Classical.byContradiction fun hc=>hld t x ho (fun e=>hc (.inl e)) (fun e=>hc (.inr e)) v hu
        refine finv hx (fun st2 H2 k2 he hp=>?_)
        rcases hc with hc | hc
        · simp only [opX,ho,hz,he.ev x (by simp [ho,lookL]),hu,he.heap hc,hr,ob]
          rw [he.heap hc] at hp;exact hp
        · simp only [opX,ho,hz,he.ev x (by simp [ho,lookL]),hu,ld_keep (he.far hc t x v ho hu),hr,ob]
          exact hp
      · exact hx.elim
    · exact hx.elim
  | nilCheck x =>
    simp only [opX,ho] at hx
    split at hx
    · rename_i hu
      obtain ⟨r,hr,hx⟩:=ob_spec hx
      refine finv hx (fun st2 H2 k2 he hp=>?_)
      simp only [opX,ho,he.ev x (by simp [ho,lookL]),hu,hr,ob];exact hp
    · rename_i b off hu
      refine fin hx (fun d off' e=>⟨x,by simp [ho,lookL],off,by cases e;exact hu⟩) (fun st2 H2 k2 he hp=>?_)
      simp only [opX,ho,he.ev x (by simp [ho,lookL]),hu];exact hp
    · rename_i hu
      refine fin hx (fun _ _ h=>by cases h) (fun st2 H2 k2 he hp=>?_)
      simp only [opX,ho,he.ev x (by simp [ho,lookL]),hu];exact hp
    · exact hx.elim
  | binOp op t x y yt =>
    simp only [opX,ho] at hx
    obtain ⟨v,hv,hx⟩:=evV_spec hx
    obtain ⟨u,hu,hx⟩:=evV_spec hx
    obtain ⟨r,hr,hx⟩:=ob_spec hx
    refine finv hx (fun st2 H2 k2 he hp=>?_)
    simp only [opX,ho,evV,he.ev x (by simp [ho,lookL]),he.ev y (by simp [ho,lookL]),hv,hu,hr,ob];exact hp
  | unOp op t x =>
    simp only [opX,ho] at hx
    obtain ⟨v,hv,hx⟩:=evV_spec hx
    obtain ⟨r,hr,hx⟩:=ob_spec hx
    refine finv hx (fun st2 H2 k2 he hp=>?_)
    simp only [opX,ho,evV,he.ev x (by simp [ho,lookL]),hv,hr,ob];exact hp
  | makeFunc f first cap =>
    have hc:cap.toList=[]:=by simpa [lightOp,ho] using hlo
    simp only [opX,ho,hc,pubs] at hx
    obtain ⟨a,hx,d1⟩:=evVs_det hx
    obtain ⟨b,hx,d2⟩:=evVs_det hx
    refine finv hx (fun st2 H2 k2 he hp=>?_)
    simp only [opX,ho,hc,pubs]
    exact d1 st2 _ (fun x hx=>he.ev x (by simp only [ho,lookL];exact List.mem_append_left _ hx)) (d2 st2 _ (fun x hx=>by cases hx) hp)
  | slice t x lo hi mx =>
    simp only [opX,ho] at hx
    split at hx
    · rename_i hu
      obtain ⟨v,hv,hx⟩:=evV_spec hx
      obtain ⟨l,hx,d1⟩:=evO_det hx
      obtain ⟨u,hx,d2⟩:=evO_det hx
      obtain ⟨r,hr,hx⟩:=ob_spec hx
      split at hx
      · refine finv hx (fun st2 H2 k2 he hp=>?_)
        simp only [opX,ho,hu,evV,he.ev x (by simp [ho,lookL]),hv]
        refine d1 st2 _ (fun y hy=>he.ev y (by simp [ho,lookL,hy])) (d2 st2 _ (fun y hy=>he.ev y (by simp [ho,lookL,hy])) ?_)
        simp only [hr,ob];exact hp
      · exact hx.elim
    · rename_i hn
      split at hx
      · rename_i hu
        obtain ⟨v,hv,hx⟩:=evV_spec hx
        obtain ⟨l,hx,d1⟩:=evO_det hx
        obtain ⟨u,hx,d2⟩:=evO_det hx
        obtain ⟨m,hx,d3⟩:=evO_det hx
        obtain ⟨r,hr,hx⟩:=ob_spec hx
        refine finv hx (fun st2 H2 k2 he hp=>?_)
        simp only [opX,ho,hu,evV,he.ev x (by simp [ho,lookL]),hv]
        · refine d1 st2 _ (fun y hy=>he.ev y (by simp [ho,lookL,hy])) (d2 st2 _ (fun y hy=>he.ev y (by simp [ho,lookL,hy])) (d3 st2 _ (fun y hy=>he.ev y (by simp [ho,lookL,hy])) ?_))
          simp only [hr,ob];exact hp
      · split at hx
        · rename_i hin;simp [lightOp,ho,hin] at hlo
        · exact hx.elim
  | fieldAddr t x f =>
    simp only [opX,ho] at hx
    split at hx
    · rename_i h1
      split at hx
      · rename_i h2
        split at hx
        · rename_i b off hu
          refine fin hx (fun d off' e=>⟨x,by simp [ho,lookL],off,by cases e;exact hu⟩) (fun st2 H2 k2 he hp=>?_)
          simp only [opX,ho,h1,h2,he.ev x (by simp [ho,lookL]),hu];exact hp
        · rename_i hu
          refine fin hx (fun _ _ h=>by cases h) (fun st2 H2 k2 he hp=>?_)
          simp only [opX,ho,h1,h2,he.ev x (by simp [ho,lookL]),hu];exact hp
        · rename_i hu
          obtain ⟨r,hr,hx⟩:=ob_spec hx
          refine finv hx (fun st2 H2 k2 he hp=>?_)
          simp only [opX,ho,h1,h2,he.ev x (by simp [ho,lookL]),hu,hr,ob];exact hp
        · exact hx.elim
      · exact hx.elim
    · exact hx.elim
  | field t x f =>
    simp only [opX,ho] at hx
    split at hx
    · rename_i h1
      split at hx
      · rename_i h2
        obtain ⟨v,hv,hx⟩:=evV_spec hx
        split at hx
        · obtain ⟨r,hr,hx⟩:=ob_spec hx
          refine finv hx (fun st2 H2 k2 he hp=>?_)
          simp only [opX,ho,h1,h2,evV,he.ev x (by simp [ho,lookL]),hv,hr,ob];exact hp
        · exact hx.elim
      · exact hx.elim
    · exact hx.elim
  | indexAddr t x i =>
    simp only [opX,ho] at hx
    split at hx
    · rename_i h1
      obtain ⟨v,hv,hx⟩:=evV_spec hx
      obtain ⟨u,hu,hx⟩:=evV_spec hx
      obtain ⟨r,hr,hx⟩:=ob_spec hx
      refine fin hx (fun _ _ h=>by cases h) (fun st2 H2 k2 he hp=>?_)
      simp only [opX,ho,h1,evV,he.ev x (by simp [ho,lookL]),he.ev i (by simp [ho,lookL]),hv,hu,hr,ob];exact hp
    · rename_i h1
      split at hx
      · rename_i h2
        obtain ⟨v,hv,hx⟩:=evV_spec hx
        obtain ⟨u,hu,hx⟩:=evV_spec hx
        obtain ⟨r,hr,hx⟩:=ob_spec hx
        refine finv hx (fun st2 H2 k2 he hp=>?_)
        simp only [opX,ho,h1,h2,evV,he.ev x (by simp [ho,lookL]),he.ev i (by simp [ho,lookL]),hv,hu,hr,ob];exact hp
      · exact hx.elim
  | index t x i =>
    simp only [opX,ho] at hx
    split at hx
    · rename_i h1
      obtain ⟨v,hv,hx⟩:=evV_spec hx
      obtain ⟨u,hu,hx⟩:=evV_spec hx
      obtain ⟨r,hr,hx⟩:=ob_spec hx
      refine finv hx (fun st2 H2 k2 he hp=>?_)
      simp only [opX,ho,h1,evV,he.ev x (by simp [ho,lookL]),he.ev i (by simp [ho,lookL]),hv,hu,hr,ob];exact hp
    · rename_i hns
      split at hx
      · rename_i h2
        split at hx
        · rename_i h3
          obtain ⟨v,hv,hx⟩:=evV_spec hx
          obtain ⟨u,hu,hx⟩:=evV_spec hx
          obtain ⟨r,hr,hx⟩:=ob_spec hx
          refine finv hx (fun st2 H2 k2 he hp=>?_)
          simp only [opX,ho,h2,h3,evV,he.ev x (by simp [ho,lookL]),he.ev i (by simp [ho,lookL]),hv,hu,hr,ob];exact hp
        · exact hx.elim
      · exact hx.elim
  | extract x i =>
    simp only [opX,ho] at hx
    obtain ⟨v,hv,hx⟩:=evV_spec hx
    obtain ⟨r,hr,hx⟩:=ob_spec hx
    refine finv hx (fun st2 H2 k2 he hp=>?_)
    simp only [opX,ho,evV,he.ev x (by simp [ho,lookL]),hv,hr,ob];exact hp
  | convert s d x =>
    simp only [opX,ho] at hx
    split at hx
    · rename_i h1 h2
      obtain ⟨v,hv,hx⟩:=evV_spec hx
      obtain ⟨r,hr,hx⟩:=ob_spec hx
      refine finv hx (fun st2 H2 k2 he hp=>?_)
      simp only [opX,ho,h1,h2,evV,he.ev x (by simp [ho,lookL]),hv,hr,ob];exact hp
    · split at hx
      · rename_i hu;simp [lightOp,ho,hu] at hlo
      · exact hx.elim
    · split at hx
      · rename_i hu;simp [lightOp,ho,hu] at hlo
      · exact hx.elim
    · split at hx
      · rename_i hu;simp [lightOp,ho,hu] at hlo
      · exact hx.elim
    · split at hx
      · rename_i hu;simp [lightOp,ho,hu] at hlo
      · exact hx.elim
    · exact hx.elim
  | call c =>
    have hargs:∀ x ∈ c.args.toList,x ∈ lookL o.op:=fun x hx=>by simp only [ho,lookL];exact List.mem_append_right _ hx
    cases hc:c.callee with
    | value f=>simp [lightOp,ho,hc] at hlo
    | invoke r m=>simp [lightOp,ho,hc] at hlo
    | builtin b =>
      cases b with
      | len =>
        simp only [opX,ho,hc] at hx
        split at hx
        · rename_i x t h1 h2
          split at hx
          · rename_i h3
            obtain ⟨v,hv,hx⟩:=evV_spec hx
            obtain ⟨r,hr,hx⟩:=ob_spec hx
            refine finv hx (fun st2 H2 k2 he hp=>?_)
            simp only [opX,ho,hc,h1,h2,h3,evV,he.ev x (hargs x (by simp [h1])),hv,hr,ob];exact hp
          · rename_i h3
            obtain ⟨v,hv,hx⟩:=evV_spec hx
            obtain ⟨r,hr,hx⟩:=ob_spec hx
            refine finv hx (fun st2 H2 k2 he hp=>?_)
            simp only [opX,ho,hc,h1,h2,h3,evV,he.ev x (hargs x (by simp [h1])),hv,hr,ob];exact hp
          · exact hx.elim
        · exact hx.elim
      | unsafeSliceData =>
        simp only [opX,ho,hc] at hx
        split at hx
        · rename_i x h1
          obtain ⟨v,hv,hx⟩:=evV_spec hx
          obtain ⟨r,hr,hx⟩:=ob_spec hx
          refine fin hx (fun _ _ h=>by cases h) (fun st2 H2 k2 he hp=>?_)
          simp only [opX,ho,hc,h1,evV,he.ev x (hargs x (by simp [h1])),hv,hr,ob];exact hp
        · exact hx.elim
      | min | max =>
        simp only [opX,ho,hc] at hx
        split at hx
        · rename_i x y h1
          obtain ⟨v,hv,hx⟩:=evV_spec hx
          obtain ⟨u,hu,hx⟩:=evV_spec hx
          obtain ⟨r,hr,hx⟩:=ob_spec hx
          refine finv hx (fun st2 H2 k2 he hp=>?_)
          simp only [opX,ho,hc,h1,evV,he.ev x (hargs x (by simp [h1])),he.ev y (hargs y (by simp [h1])),hv,hu,hr,ob];exact hp
        · exact hx.elim
      | _=>simp [lightOp,ho,hc] at hlo
  | _=>simp [lightOp,ho] at hlo
theorem opG_closed (hCm:CMono C C) {o:Oper} {K:St→Heap→Prop} (hK:Closed K) {st1 st2:St} {H:Heap} (he:Eqv st1 st2) (hx:opG P C N h ops o K st1 H):opG P C N h ops o K st2 H :=
  opG_frame hCm he.agree (fun _ h=>by cases h) (fun _ h=>by cases h) (fun _ _ _ a _ _ _ hk=>hK _ _ _ a.eqv hk) hx
theorem putT_eqv {dst:Option Tmp} {s:Slot} {st1 st2:St} (he:Eqv st1 st2):Eqv (putT dst s st1) (putT dst s st2):=fun t=>by
  cases dst with
  | none=>exact he t
  | some d=>simp only [putT,get_cons,he t]
theorem opG_light (hCm:CMono C C) {o:Oper} {c:Nat} {K:St→Heap→Prop} (hK:Closed K) {st:St} {H:Heap} (hlo:lightOp h o=true) (hld:∀ t a,o.op=.load t a→c ≠ 2→c ≠ 3→∀ v,ev st a ≠ .val v) (hx:opG P C N h ops o K st H) :
    ∃ s,K (putT o.dst s st) H∧∀ st2 H2 (K2:St→Heap→Prop),Closed K2→Same o c st st2 H H2→(∀ g ∈ guardSlot ops o,ev st2 (.tmp g)=ev st (.tmp g))→K2 (putT o.dst s st2) H2→opG P C N h ops o K2 st2 H2:=by
  unfold opG at hx
  cases hg:o.guard with
  | none =>
    rw [hg] at hx
    obtain ⟨s,h1,_,h2⟩:=light_det (c:=c) hlo hld hx
    refine ⟨s,h1,fun st2 H2 K2 _ he _ hk=>?_⟩
    unfold opG;rw [hg];exact h2 st2 H2 K2 he hk
  | some jw =>
    obtain ⟨j,want⟩:=jw
    rw [hg] at hx
    simp only at hx
    cases hj:(ops[j]?).bind (·.dst) with
    | none=>rw [hj] at hx;exact hx.elim
    | some g =>
      rw [hj] at hx
      simp only at hx
      split at hx
      · rename_i hv
        obtain ⟨h1,h3⟩:=putS_det hx
        refine ⟨.nov,h1,fun st2 H2 K2 hc2 he hgs hk=>?_⟩
        have hv2:=(hgs g (mem_guardSlot hg hj)).trans hv
        unfold opG;rw [hg];simp only [hj,hv2]
        exact h3 _ _ (fun d hd=>he.box d hd) hk
      rotate_left
      · exact hx.elim
      rename_i v hv
      have kq:=know_eqv hv
      have case1:∀ w:AV,v=w→opX P C N h o K ((g,.val w)::st) H→∃ s,K (putT o.dst s st) H∧∀ st2 H2 (K2:St→Heap→Prop),Closed K2→Same o c st st2 H H2→ev st2 (.tmp g)=.val w→K2 (putT o.dst s st2) H2→opX P C N h o K2 ((g,.val w)::st2) H2:=by
        intro w hw h2
        subst hw
        obtain ⟨s,h1,_,h3⟩:=light_det (c:=c) hlo (fun t a ho hc hc' u hu=>hld t a ho hc hc' u ((kq.ev a).trans hu)) h2
        refine ⟨s,hK _ _ _ (putT_eqv kq.symm) h1,fun st2 H2 K2 hc2 he hv2 hk=>h3 _ _ _ ?_ (hc2 _ _ _ (putT_eqv (know_eqv hv2)) hk)⟩
        have kq2:=know_eqv hv2
        refine ⟨fun x hx=>?_,fun hl x hx b off hb hbx=>?_,he.heap,fun hc t a v ho hv=>he.far hc t a v ho ((kq.ev a).trans hv),fun d hd=>?_⟩
        · rw [← kq2.ev x,← kq.ev x];exact he.ev x hx
        · rw [← kq2 b,← kq b];exact he.get hl x hx b off ((kq.ev x).trans hb) (by rw [kq b];exact hbx)
        · rw [← kq2 d,← kq d];exact he.box d hd
      have case2:∀ w:AV,v=w→putS N o.dst .nov ((g,.val w)::st) (fun st=>K st H)→∃ s,K (putT o.dst s st) H∧∀ st2 H2 (K2:St→Heap→Prop),Closed K2→Same o c st st2 H H2→ev st2 (.tmp g)=.val w→K2 (putT o.dst s st2) H2→putS N o.dst .nov ((g,.val w)::st2) (fun st=>K2 st H2):=by
        intro w hw h2
        subst hw
        obtain ⟨h1,h3⟩:=putS_det h2
        refine ⟨.nov,hK _ _ _ (putT_eqv kq.symm) h1,fun st2 H2 K2 hc2 he hv2 hk=>h3 _ _ (fun d hd=>?_) (hc2 _ _ _ (putT_eqv (know_eqv hv2)) hk)⟩
        have kq2:=know_eqv hv2
        rw [← kq2 d,← kq d];exact he.box d hd
      rcases cndA_spec hx with ⟨rfl,h2⟩ | ⟨rfl,h2⟩
      · cases want with
        | true =>
          obtain ⟨s,h1,h3⟩:=case1 _ rfl h2
          refine ⟨s,h1,fun st2 H2 K2 hc2 he hgs hk=>?_⟩
          have hv2:=(hgs g (mem_guardSlot hg hj)).trans hv
          unfold opG;rw [hg];simp only [hj,hv2]
          exact h3 st2 H2 K2 hc2 he hv2 hk
        | false =>
          obtain ⟨s,h1,h3⟩:=case2 _ rfl h2
          refine ⟨s,h1,fun st2 H2 K2 hc2 he hgs hk=>?_⟩
          have hv2:=(hgs g (mem_guardSlot hg hj)).trans hv
          unfold opG;rw [hg];simp only [hj,hv2]
          exact h3 st2 H2 K2 hc2 he hv2 hk
      · cases want with
        | true =>
          obtain ⟨s,h1,h3⟩:=case2 _ rfl h2
          refine ⟨s,h1,fun st2 H2 K2 hc2 he hgs hk=>?_⟩
          have hv2:=(hgs g (mem_guardSlot hg hj)).trans hv
          unfold opG;rw [hg];simp only [hj,hv2]
          exact h3 st2 H2 K2 hc2 he hv2 hk
        | false =>
          obtain ⟨s,h1,h3⟩:=case1 _ rfl h2
          refine ⟨s,h1,fun st2 H2 K2 hc2 he hgs hk=>?_⟩
          have hv2:=(hgs g (mem_guardSlot hg hj)).trans hv
          unfold opG;rw [hg];simp only [hj,hv2]
          exact h3 st2 H2 K2 hc2 he hv2 hk

def Wany (P:Program) (C:CallRel) (N:Nat) (h:Hint) (ops:Array Oper) (k:St→Heap→Prop):Nat→Array Bool→St→Heap→Prop
  | 0,listed,st,H=>Region.ready .any ops listed=[]∧k st H
  | f+1,listed,st,H=>(Region.ready .any ops listed=[]→k st H) ∧
    ∀ i ∈ Region.ready .any ops listed,∀ o,ops[i]?=some o→opG P C N h ops o (Wany P C N h ops k f (listed.setIfInBounds i true)) st H
theorem Wany_closed (hCm:CMono C C) {k:St→Heap→Prop} (hk:Closed k):∀ (f:Nat) (listed:Array Bool),Closed (Wany P C N h ops k f listed)
  | 0,_,_,_,_,he,hx=>⟨hx.1,hk _ _ _ he hx.2⟩
  | f+1,_,_,_,_,he,hx=>⟨fun hr=>hk _ _ _ he (hx.1 hr),fun i hi o ho=>opG_closed hCm (Wany_closed hCm hk f _) he (hx.2 i hi o ho)⟩
theorem ready_iff {listed:Array Bool} {i:Nat}:i ∈ Region.ready .any ops listed ↔ ∃ o,ops[i]?=some o∧listed.getD i true=false∧∀ e ∈ o.after.toList,Region.binds .any e=true→listed.getD e.on false=true:=by
  simp only [Region.ready,List.mem_filter,List.mem_range,Bool.and_eq_true,Bool.not_eq_true']
  constructor
  · rintro ⟨h1,h2,h3⟩
    refine ⟨ops[i],by simp [h1],h2,fun e he hb=>?_⟩
    simp only [Array.getElem?_eq_getElem h1,Option.map_some,Option.getD_some,Array.all_eq_true_iff_forall_mem] at h3
    have:=h3 e (by simpa using he)
    simpa [hb] using this
  · rintro ⟨o,h1,h2,h3⟩
    have hlt:i < ops.size:=by
      cases Nat.lt_or_ge i ops.size with
      | inl h=>exact h
      | inr h=>simp [h] at h1
    refine ⟨hlt,h2,?_⟩
    simp only [h1,Option.map_some,Option.getD_some,Array.all_eq_true_iff_forall_mem]
    intro e he
    cases hb:Region.binds .any e with
    | false=>rfl
    | true=>simpa using h3 e (by simpa using he) hb
theorem getD_setT {listed:Array Bool} {i j:Nat} {d:Bool}:(listed.setIfInBounds i true).getD j d=if i=j∧j < listed.size then true else listed.getD j d:=by
  simp only [Array.getD_eq_getD_getElem?,Array.getElem?_setIfInBounds]
  by_cases hij:i=j
  · subst hij
    by_cases hl:i < listed.size
    · simp [hl]
    · simp [hl]
  · simp [hij]
theorem ready_set {listed:Array Bool} {i j:Nat} (hj:j ∈ Region.ready .any ops listed) (hne:j ≠ i):j ∈ Region.ready .any ops (listed.setIfInBounds i true):=by
  obtain ⟨o,h1,h2,h3⟩:=ready_iff.1 hj
  refine ready_iff.2 ⟨o,h1,?_,fun e he hb=>?_⟩
  · rw [getD_setT,if_neg (fun h=>hne h.1.symm)];exact h2
  · rw [getD_setT];split
    · rfl
    · exact h3 e he hb
/-- it goes elsewhere -/
def Goes (st:St) (v:AV) (a:Operand):Prop:=(∃ w,ev st a=.val w∧apartP v w) ∨ ∃ b off,ev st a=.loc b off
theorem Goes.of_eq {st st2:St} {v:AV} {a:Operand} (h:Goes st v a) (he:ev st2 a=ev st a):Goes st2 v a:=by
  rcases h with ⟨w,h1,h2⟩ | ⟨b,off,h1⟩
  · exact .inl ⟨w,he.trans h1,h2⟩
  · exact .inr ⟨b,off,he.trans h1⟩
/-- it leaves alone what a pointer points into -/
def KeepY (h:Hint) (ops:Array Oper) (listed:Array Bool) (st:St) (v:AV) (y:Oper):Prop :=
  lightOp h y=true ∨ isApp y=true ∨ ∃ t a x,y.op=.store t a x∧Goes st v a∧∀ z oz d,listed.getD z true=false→ops[z]?=some oz→oz.dst=some d→a ≠ .tmp d
theorem appA_keep {sz by_:Nat} {s x:AV} {H:Heap} {p:Post} (hx:appA sz by_ s x H p):appA sz by_ s x H (fun r H'=>p r H'∧H'.objs=H.objs):=by
  unfold appA at *
  split
  · rename_i sz' nil tip xs ys ht
    simp only [ht] at hx
    cases ys with
    | nil=>exact ⟨hx,rfl⟩
    | cons y ys =>
      simp only at hx ⊢
      refine ⟨hx.1,hx.2.1,hx.2.2.1,?_⟩
      have h4:=hx.2.2.2
      cases tip with
      | any=>exact h4
      | full=>exact fun b hb=>⟨h4 b hb,rfl⟩
      | tip b0=>exact ⟨h4.1,fun b hb=>⟨h4.2 b hb,rfl⟩⟩
  · rename_i hn
    split at hx
    · rename_i e2;exact (hn _ _ _ _ _ rfl e2).elim
    · exact hx
theorem appB_keep {e:TypeId} {s x:AV} {H:Heap} {p:Post} (hx:appB e s x H p):appB e s x H (fun r H'=>p r H'∧H'.objs=H.objs):=by
  unfold appB at *
  split
  · rename_i sz' nil tip xs ys ht
    simp only [ht] at hx
    cases ys with
    | nil=>exact ⟨hx,rfl⟩
    | cons y ys =>
      simp only at hx ⊢
      refine ⟨hx.1,hx.2.1,fun b hb=>⟨hx.2.2.1 b hb,rfl⟩,?_⟩
      have h4:=hx.2.2.2
      cases tip with
      | any=>exact h4
      | full=>trivial
      | tip b0=>exact ⟨h4.1,h4.2,rfl⟩
  · rename_i hn
    revert hx
    split
    · rename_i h1
      exact absurd h1 (hn _ _ _ _ _ rfl)
    · exact id
theorem objKeep_of {v:AV} {H H':Heap} (he:H'.objs=H.objs):objKeep v H H':=fun b _ _ _=>by rw [he]
/-- what the abstract machine does, leaving what a pointer points into -/
theorem opX_keep (hCm:CMono C C) {y:Oper} {k:St→Heap→Prop} (hk:Closed k) {v:AV} {st:St} {H:Heap} (hx:opX P C N h y k st H)
    (hy:lightOp h y=true ∨ isApp y=true ∨ ∃ t a x,y.op=.store t a x∧Goes st v a):opX P C N h y (fun st' H'=>k st' H'∧objKeep v H H') st H:=by
  rcases hy with hl | ha | ⟨t,a,x,ho,⟨w,hw,hap⟩ | ⟨b1,off1,hw⟩⟩
  · exact opX_frame hCm (Eqv.agree fun _=>rfl) (fun _ h=>by cases h) (fun _ h=>by cases h) (fun st1' st2' H' ag _ _ hH hk1=>⟨hk _ _ _ ag.eqv hk1,by rw [hH hl];exact objKeep_of rfl⟩) hx
  · cases ho:y.op with
    | call c =>
      cases hc:c.callee with
      | builtin bi =>
        cases bi with
        | append =>
          simp only [opX,ho,hc] at hx ⊢
          have pk:∀ {r:AV} {H':Heap},putS N y.dst (.val r) st (fun st=>k st H')∧H'.objs=H.objs→putS N y.dst (.val r) st (fun st=>k st H'∧objKeep v H H'):=fun hh=>putS_mono (fun _ h1=>⟨h1,objKeep_of hh.2⟩) hh.1
          split at hx
          · rename_i h1 h2
            split at hx
            · rename_i h3
              split at hx
              · rename_i h4
                try simp only [h3,h4]
                exact evV_mono (fun _ h=>evV_mono (fun _ h=>appB_mono (fun _ _ h=>pk h) (appB_keep h)) h) hx
              · rename_i h4
                try simp only [h3,h4]
                exact evV_mono (fun _ h=>evV_mono (fun _ h=>appB_mono (fun _ _ h=>pk h) (appB_keep h)) h) hx
              · exact hx.elim
            · rename_i h3
              split at hx
              · rename_i h4 h5
                try simp only [h3,h4,h5]
                exact evV_mono (fun _ h=>evV_mono (fun _ h=>appA_mono (fun _ _ h=>pk h) (appA_keep h)) h) hx
              · rename_i h4 h5
                try simp only [h3,h4,h5]
                exact evV_mono (fun _ h=>evV_mono (fun _ h=>appA_mono (fun _ _ h=>pk h) (appA_keep h)) h) hx
              · exact hx.elim
          · exact hx.elim
        | _=>simp [isApp,ho,hc] at ha
      | _=>simp [isApp,ho,hc] at ha
    | convert s d x =>
      simp only [opX,ho] at hx ⊢
      have pk:∀ {r:AV},putS N y.dst (.val r) st (fun st=>k st H)→putS N y.dst (.val r) st (fun st=>k st H∧objKeep v H H):=fun hh=>putS_mono (fun _ h1=>⟨h1,objKeep_of rfl⟩) hh
      revert hx
      split
      · exact evV_mono fun _=>ob_mono fun _=>pk
      · split
        · exact evV_mono fun _=>convP_mono fun _=>pk
        · exact id
      · split
        · exact evV_mono fun _=>convP_mono fun _=>pk
        · exact id
      · split
        · exact evV_mono fun _=>bsA_mono fun _=>pk
        · exact id
      · split
        · exact evV_mono fun _=>sbA_mono fun _=>pk
        · exact id
      · exact id
    | _=>simp [isApp,ho] at ha
  · simp only [opX,ho] at hx ⊢
    split at hx
    · rename_i agg sz hz
      simp only [hw] at hx ⊢
      refine evV_mono (fun u hu=>?_) hx
      obtain ⟨H',hH',hu⟩:=ob_spec hu
      rw [hH']
      show putS N y.dst .undef st fun st=>k st H'∧objKeep v H H'
      refine putS_mono (fun _ h1=>⟨h1,?_⟩) hu
      intro b off s hv
      subst hv
      unfold apartP at hap
      split at hap
      · rename_i b1 o1 b2 o2 he
        cases he
        unfold stH at hH'
        simp only at hH'
        split at hH'
        · split at hH'
          · split at hH'
            · cases hH'
              simp only [Heap.setObj]
              rw [if_neg (fun e=>hap e.symm)]
            · cases hH'
          · cases hH'
        · cases hH'
      · exact hap.elim
    · exact hx.elim
  · simp only [opX,ho] at hx ⊢
    split at hx
    · rename_i agg sz hz
      simp only [hw] at hx ⊢
      split at hx
      · rename_i cs hcs
        try simp only [hcs]
        refine evV_mono (fun u hu=>?_) hx
        obtain ⟨vs,hvs,hu⟩:=ob_spec hu
        obtain ⟨cs',hcs',hu⟩:=ob_spec hu
        rw [hvs]
        show ob (spliceA off1 vs cs) _
        rw [hcs']
        show putS N y.dst .undef ((b1,.lbox cs')::st) fun st=>k st H∧objKeep v H H
        exact putS_mono (fun _ h1=>⟨h1,objKeep_of rfl⟩) hu
      · exact hx.elim
    · exact hx.elim
theorem opG_keep (hCm:CMono C C) {y:Oper} {k:St→Heap→Prop} (hk:Closed k) {v:AV} {st:St} {H:Heap} (hx:opG P C N h ops y k st H)
    (hy:lightOp h y=true ∨ isApp y=true ∨ ∃ t a x,y.op=.store t a x∧Goes st v a):opG P C N h ops y (fun st' H'=>k st' H'∧objKeep v H H') st H:=by
  unfold opG at *
  cases hg:y.guard with
  | none=>rw [hg] at hx;exact opX_keep hCm hk hx hy
  | some jw =>
    obtain ⟨j,want⟩:=jw
    rw [hg] at hx
    simp only at hx ⊢
    cases hj:(ops[j]?).bind (·.dst) with
    | none=>rw [hj] at hx;exact hx
    | some g =>
      rw [hj] at hx
      simp only at hx ⊢
      have nov:∀ {st:St},putS N y.dst .nov st (fun st=>k st H)→putS N y.dst .nov st (fun st=>k st H∧objKeep v H H):=fun hp=>putS_mono (fun _ h1=>⟨h1,objKeep_of rfl⟩) hp
      split at hx
      · rename_i hv;try simp only [hv]
        exact nov hx
      · rename_i u hv
        try simp only [hv]
        have hy':lightOp h y=true ∨ isApp y=true ∨ ∃ t a x,y.op=.store t a x∧Goes ((g,.val u)::st) v a:=by
          rcases hy with h1 | h1 | ⟨t,a,x,h1,h2⟩
          · exact .inl h1
          · exact .inr (.inl h1)
          · exact .inr (.inr ⟨t,a,x,h1,h2.of_eq ((know_eqv hv).ev a).symm⟩)
        rcases cndA_spec hx with ⟨rfl,h2⟩ | ⟨rfl,h2⟩
        · cases want with
          | true=>exact opX_keep hCm hk h2 hy'
          | false=>exact nov h2
        · cases want with
          | true=>exact nov h2
          | false=>exact opX_keep hCm hk h2 hy'
      · exact hx.elim
/-- of an operation that may be taken first -/
structure First (h:Hint) (ops:Array Oper) (listed:Array Bool) (i c:Nat) (o:Oper) (st:St):Prop where
  size:listed.size=ops.size
  at_:ops[i]?=some o
  ready:i ∈ Region.ready .any ops listed
  pairs:∀ j y,j ≠ i→listed.getD j true=false→ops[j]?=some y→depOn y i=false→(∃ n,depT ops n y i=true) ∨ pairOK ops h c o y=true
  nodep:∀ z y,listed.getD z false=true→ops[z]?=some y→∀ n,depT ops n y i=false
  load:∀ t a,o.op=.load t a→c ≠ 2→c ≠ 3→∀ v,ev st a ≠ .val v
  far:c=3→∃ t a v,o.op=.load t a∧ev st a=.val v∧∀ j y,j ≠ i→listed.getD j true=false→ops[j]?=some y→(∃ n,depT ops n y i=true) ∨ KeepY h ops listed st v y
  noloc:∀ d,o.dst=some d→∀ t,t ≠ d→∀ off,get st t ≠ .loc d off
theorem lt_of_some {i:Nat} {o:Oper} (hi:ops[i]?=some o):i < ops.size:=by
  cases Nat.lt_or_ge i ops.size with
  | inl h=>exact h
  | inr h=>simp [h] at hi
theorem not_dstIn {dst:Option Tmp} {l:List Nat} (hx:dstIn dst l=false) {d:Nat} (hd:dst=some d):d ∉ l:=by
  subst hd;exact memN_false.1 hx
theorem apartA_spec {x y:Oper} (hx:apartA ops x y=true):(∀ d,x.dst=some d→d ∉ looks ops y)∧(∀ d,x.dst=some d→y.dst ≠ some d)∧(∀ d,y.dst=some d→d ∉ looks ops x):=by
  simp only [apartA,Bool.and_eq_true,Bool.not_eq_true'] at hx
  refine ⟨fun d hd=>not_dstIn hx.1.1 hd,fun d hd e=>not_dstIn hx.1.2 hd (by simp [e]),fun d hd=>not_dstIn hx.2 hd⟩
theorem Wany_first (hCm:CMono C C) {k:St→Heap→Prop} (hk:Closed k) {i c:Nat} {o:Oper} (hlo:lightOp h o=true):∀ (f:Nat) (listed:Array Bool) (st:St) (H:Heap),First h ops listed i c o st →
    opG P C N h ops o (Wany P C N h ops k f (listed.setIfInBounds i true)) st H→Wany P C N h ops k (f+1) listed st H:=by
  intro f
  induction f with
  | zero =>
    intro listed st H hF hx
    refine ⟨fun hr=>absurd hF.ready (by rw [hr];simp),fun j hj oj hoj=>?_⟩
    by_cases hji:j=i
    · subst hji;rw [hF.at_] at hoj;cases hoj;exact hx
    · obtain ⟨s,h1,_⟩:=opG_light hCm (Wany_closed hCm hk _ _) hlo hF.load hx
      have:=ready_set hj hji
      rw [h1.1] at this;cases this
  | succ f ih =>
    intro listed st H hF hx
    refine ⟨fun hr=>absurd hF.ready (by rw [hr];simp),fun j hj oj hoj=>?_⟩
    by_cases hji:j=i
    · subst hji;rw [hF.at_] at hoj;cases hoj;exact hx
    · obtain ⟨s,h1,hback⟩:=opG_light hCm (Wany_closed hCm hk _ _) hlo hF.load hx
      have hj':=ready_set hj hji
      have h2:=h1.2 j hj' oj hoj
      obtain ⟨_,e1,jl,jd⟩:=ready_iff.1 hj
      rw [hoj] at e1;cases e1
      obtain ⟨_,e2,il,id_⟩:=ready_iff.1 hF.ready
      rw [hF.at_] at e2;cases e2
      have ilt:=lt_of_some hF.at_
      have hdep:depOn oj i=false:=by
        simp only [depOn,Bool.eq_false_iff]
        intro hany
        obtain ⟨e,he,hb⟩:=List.any_eq_true.1 hany
        simp only [Bool.and_eq_true,bindsA_eq] at hb
        have:=jd e he hb.1
        rw [Nat.eq_of_beq_eq_true hb.2] at this
        have hsz:i < listed.size:=by rw [hF.size];exact ilt
        simp [Array.getD_eq_getD_getElem?,hsz] at this il
        rw [this] at il;cases il
      have hall:∀ n,depT ops n oj i=false:=fun n=>by
        cases n with
        | zero=>exact hdep
        | succ n =>
          simp only [depT,Bool.eq_false_iff]
          intro hany
          obtain ⟨e,he,hb⟩:=List.any_eq_true.1 hany
          simp only [Bool.and_eq_true,bindsA_eq] at hb
          have hl:=jd e he hb.1
          cases hz:ops[e.on]? with
          | none=>simp [hz] at hb
          | some z =>
            have:=hF.nodep e.on z hl hz n
            simp [hz,this] at hb
      have hp:pairOK ops h c o oj=true:=by
        rcases hF.pairs j oj hji jl hoj hdep with ⟨n,h2⟩ | h2
        · rw [hall n] at h2;cases h2
        · exact h2
      simp only [pairOK,Bool.and_eq_true] at hp
      obtain ⟨⟨⟨hap,hcp⟩,hls⟩,hc2⟩:=hp
      have hisz:i < listed.size:=by rw [hF.size];exact ilt
      have hil:listed.getD i true=false:=il
      have hevp:∀ x:Operand,(∀ d,o.dst=some d→x ≠ .tmp d)→ev (putT o.dst s st) x=ev st x:=fun x hx=>by
        cases hod:o.dst with
        | none=>rfl
        | some d =>
          cases x with
          | tmp t=>simp only [putT,ev];rw [get_cons_ne];exact fun e=>hx d hod (by rw [e])
          | _=>rfl
      have h2:opG P C N h ops oj (fun st' H'=>Wany P C N h ops k f ((listed.setIfInBounds i true).setIfInBounds j true) st' H'∧(c=3→∀ t a v,o.op=.load t a→ev st a=.val v→objKeep v H H')) (putT o.dst s st) H:=by
        by_cases hc3:c=3
        · obtain ⟨t,a,v,hol,hav,hfar⟩:=hF.far hc3
          have hky:KeepY h ops listed st v oj:=by
            rcases hfar j oj hji jl hoj with ⟨n,h2⟩ | h2
            · rw [hall n] at h2;cases h2
            · exact h2
          have hg:=opG_keep (v:=v) hCm (Wany_closed hCm hk _ _) h2 (by
            rcases hky with h1 | h1 | ⟨t1,a1,x1,h1,h2,h4⟩
            · exact .inl h1
            · exact .inr (.inl h1)
            · exact .inr (.inr ⟨t1,a1,x1,h1,h2.of_eq (hevp a1 (fun d hd=>h4 i o d hil hF.at_ hd))⟩))
          exact opG_mono hCm (fun st' H' hh=>⟨hh.1,fun _ t' a' v' ho' hv'=>by
            rw [hol] at ho';cases ho'
            rw [hav] at hv';cases hv'
            exact hh.2⟩) hg
        · exact opG_mono hCm (fun st' H' hh=>⟨hh,fun e=>absurd e hc3⟩) h2
      have hcp:isCap oj=false:=by simpa using hcp
      obtain ⟨a1,a2,a3⟩:=apartA_spec hap
      have ag:Agree false o.dst (putT o.dst s st) st:=⟨fun t ht=>.inl (by
        cases hod:o.dst with
        | none=>rfl
        | some d=>simp only [putT];rw [get_cons_ne];exact fun e=>ht (by rw [hod,e])),hF.noloc⟩
      refine opG_frame hCm ag (fun d hd=>a2 d hd) (fun d hd=>a1 d hd) (fun st1' st2' H' ag' s1 s2 hH hk1=>?_) h2
      obtain ⟨hk1,hkeep⟩:=hk1
      have s1:=s1 hcp
      have s2:=s2 hcp
      have hloc2:∀ x ∈ lookL o.op,ev st2' x=ev st x:=fun x hx=>by
        cases x with
        | tmp t=>exact s2.ev t (fun e=>a3 t e (List.mem_append_left _ (tm_mem hx)))
        | _=>rfl
      refine ih (listed.setIfInBounds j true) st2' H' ⟨by rw [Array.size_setIfInBounds];exact hF.size,hF.at_,ready_set hF.ready (fun e=>hji e.symm),fun j' y hne hl hy hd=>?_,fun z y hl hy=>?_,fun t a ho hc hc' v hv=>hF.load t a ho hc hc' v ((hloc2 a (by simp [ho,lookL])).symm.trans hv),fun hc3=>?_,ag'.noloc⟩ ?_
      · rw [getD_setT] at hl
        split at hl
        · cases hl
        · exact hF.pairs j' y hne hl hy hd
      · rw [getD_setT] at hl
        split at hl
        · rename_i e
          have:j=z:=e.1
          subst this;rw [hoj] at hy;cases hy;exact hall
        · exact hF.nodep z y hl hy
      · obtain ⟨t,a,v,hol,hav,hfar⟩:=hF.far hc3
        refine ⟨t,a,v,hol,(hloc2 a (by simp [hol,lookL])).trans hav,fun j' y hne hl hy=>?_⟩
        have hset:∀ z,(listed.setIfInBounds j true).getD z true=false→listed.getD z true=false:=fun z hz=>by
          rw [getD_setT] at hz
          split at hz
          · cases hz
          · exact hz
        rcases hfar j' y hne (hset j' hl) hy with h1 | h1
        · exact .inl h1
        · right
          rcases h1 with h1 | h1 | ⟨t1,x1,y1,h1,h2,h4⟩
          · exact .inl h1
          · exact .inr (.inl h1)
          · refine .inr (.inr ⟨t1,x1,y1,h1,h2.of_eq ?_,fun z oz d hz=>h4 z oz d (hset z hz)⟩)
            cases x1 with
            | tmp u=>exact s2.ev u (fun e=>h4 j oj u jl hoj e rfl)
            | _=>rfl
      · rw [Array.setIfInBounds_comm _ _ hji]
        refine hback st2' H' _ (Wany_closed hCm hk _ _) ⟨hloc2,fun hl x hx b off hb hbx=>?_,fun hc=>?_,fun hc3 t a v ho hv=>hkeep hc3 t a v ho hv,fun d hd=>s2.box d (a2 d hd)⟩ (fun g hg=>s2.ev g (fun e=>a3 g e (List.mem_append_right _ hg))) (Wany_closed hCm hk _ _ _ _ _ (fun t=>?_) hk1)
        · refine s2.get ?_ b (fun e=>?_)
          · rw [hl] at hls
            simp only [Bool.not_true,Bool.false_or,Bool.or_eq_true,Bool.not_eq_true'] at hls
            rcases hls with h1 | h1
            · exact h1
            · obtain ⟨t,a,v,hol,hav,_⟩:=hF.far (Nat.eq_of_beq_eq_true h1)
              rw [hol] at hx
              simp only [lookL,List.mem_singleton] at hx
              rw [hx,hav] at hb;cases hb
          · have:=s2.fresh b e;rw [hbx] at this;cases this
        · subst hc
          exact hH (by simpa using hc2)
        · cases hod:o.dst with
          | none=>simp only [putT];exact ag'.eq (by rw [hod];simp)
          | some d =>
            simp only [putT,get_cons]
            split
            · rename_i e;subst e
              have:=s1.at_ d hod
              rw [this,hod];simp only [putT,get_cons_self]
            · rename_i e;exact ag'.eq (by rw [hod];intro e';cases e';exact e rfl)
/-- the list and the array tell the same -/
structure Lk (ops:Array Oper) (L:List Nat) (listed:Array Bool):Prop where
  size:listed.size=ops.size
  mem:∀ i,i < ops.size→listed.getD i true=memN i L
  lt:∀ i ∈ L,i < ops.size
theorem Lk.getD {L:List Nat} {listed:Array Bool} (hl:Lk ops L listed) (i:Nat):listed.getD i false=memN i L:=by
  by_cases hi:i < ops.size
  · rw [← hl.mem i hi]
    have:i < listed.size:=by rw [hl.size];exact hi
    simp [Array.getD_eq_getD_getElem?,this]
  · have h1:memN i L=false:=memN_false.2 fun hm=>hi (hl.lt i hm)
    rw [h1]
    have:¬ i < listed.size:=by rw [hl.size];exact hi
    simp [Array.getD_eq_getD_getElem?,this]
theorem Lk.rdy {L:List Nat} {listed:Array Bool} (hl:Lk ops L listed) {i:Nat}:rdy ops L i=true ↔ i ∈ Region.ready .any ops listed:=by
  rw [ready_iff]
  unfold Hx.rdy
  constructor
  · intro hr
    split at hr
    · cases hr
    · rename_i hm
      split at hr
      · rename_i o ho
        refine ⟨o,ho,(hl.mem i (lt_of_some ho)).trans hm,fun e he hb=>?_⟩
        have:=List.all_eq_true.1 hr e he
        rw [bindsA_eq,hb] at this
        rw [hl.getD];simpa using this
      · cases hr
  · rintro ⟨o,h1,h2,h3⟩
    rw [hl.mem i (lt_of_some h1)] at h2
    rw [h2];simp only [h1]
    refine List.all_eq_true.2 fun e he=>?_
    rw [bindsA_eq]
    cases hb:Region.binds .any e with
    | false=>rfl
    | true=>have:=h3 e he hb;rw [hl.getD] at this;simpa using this
theorem Lk.cons {L:List Nat} {listed:Array Bool} (hl:Lk ops L listed) {i:Nat} (hi:i < ops.size):Lk ops (i::L) (listed.setIfInBounds i true):=by
  refine ⟨by rw [Array.size_setIfInBounds];exact hl.size,fun j hj=>?_,fun j hj=>?_⟩
  · rw [getD_setT]
    by_cases hij:i=j
    · subst hij
      rw [if_pos ⟨rfl,by rw [hl.size];exact hj⟩];simp [memN]
    · rw [if_neg (fun h=>hij h.1),hl.mem j hj]
      have:Nat.beq i j=false:=by
        cases hb:Nat.beq i j with
        | false=>rfl
        | true=>exact absurd (Nat.eq_of_beq_eq_true hb) hij
      simp [memN,this]
  · cases hj with
    | head=>exact hi
    | tail _ hj=>exact hl.lt j hj
theorem Lk.nil:Lk ops [] (Array.replicate ops.size false) :=
  ⟨by simp,fun i hi=>by simp [memN,Array.getD_eq_getD_getElem?,hi],fun _ h=>by cases h⟩
theorem onlyRdy_spec {L:List Nat} {listed:Array Bool} (hl:Lk ops L listed) {i:Nat} (hx:onlyRdy ops L i=true):i ∈ Region.ready .any ops listed∧∀ j ∈ Region.ready .any ops listed,j=i:=by
  simp only [onlyRdy,Bool.and_eq_true] at hx
  refine ⟨hl.rdy.1 hx.1,fun j hj=>?_⟩
  obtain ⟨o,ho,_⟩:=ready_iff.1 hj
  have:=List.all_eq_true.1 hx.2 j (List.mem_range.2 (lt_of_some ho))
  simp only [Bool.or_eq_true,Bool.not_eq_true'] at this
  rcases this with h1 | h1
  · exact Nat.eq_of_beq_eq_true h1
  · rw [hl.rdy.2 hj] at h1;cases h1
theorem dynOK_spec {o:Oper} {c:Nat} {st:St} (hx:dynOK o c st=true):(∀ t a,o.op=.load t a→c ≠ 2→c ≠ 3→∀ v,ev st a ≠ .val v)∧∀ d,o.dst=some d→∀ t,t ≠ d→∀ off,get st t ≠ .loc d off:=by
  simp only [dynOK,Bool.and_eq_true] at hx
  refine ⟨fun t a ho hc hc' v hv=>?_,fun d hd t _ off hg=>?_⟩
  · have h1:=hx.1
    simp only [ho,hv,Bool.or_eq_true] at h1
    rcases h1 with h1 | h1
    · exact hc (Nat.eq_of_beq_eq_true h1)
    · exact hc' (Nat.eq_of_beq_eq_true h1)
  · have h2:=hx.2
    simp only [hd] at h2
    rcases get_mem (st:=st) (t:=t) with h | h
    · rw [hg] at h;cases h
    · have:=List.all_eq_true.1 h2 _ h
      simp only [hg] at this
      simp at this
theorem depS_spec {i:Nat}:∀ (r s:List Nat),(∀ j,memN j s=true→∃ y n,ops[j]?=some y∧depT ops n y i=true)→∀ j,memN j (depS ops i r s)=true→∃ y n,ops[j]?=some y∧depT ops n y i=true
  | [],_,hs,j,hj=>hs j hj
  | z::r,s,hs,j,hj=>by
    refine depS_spec r _ (fun j' hj'=>?_) j hj
    split at hj'
    · rename_i y hy
      split at hj'
      · rename_i hany
        rcases List.mem_cons.1 (memN_iff.1 hj') with e | hm
        · subst e
          obtain ⟨e,he,hb⟩:=List.any_eq_true.1 hany
          simp only [Bool.and_eq_true,Bool.or_eq_true] at hb
          rcases hb.2 with h1 | h1
          · exact ⟨y,0,hy,by
              simp only [depT,depOn]
              exact List.any_eq_true.2 ⟨e,he,by simp only [hb.1,h1,Bool.and_self]⟩⟩
          · obtain ⟨u,n,hu,hn⟩:=hs e.on h1
            exact ⟨y,n+1,hy,by
              simp only [depT]
              exact List.any_eq_true.2 ⟨e,he,by simp only [hb.1,hu,hn,Bool.and_self]⟩⟩
        · exact hs j' (memN_iff.2 hm)
      · exact hs j' hj'
    · exact hs j' hj'
theorem storeVs_spec {L S:List Nat} {i:Nat} {st:St}:∀ (r:List Nat) (ws:List AV),storeVs ops h L S i st r=some ws→∀ j ∈ r,∀ y,memN j L=false→j ≠ i→memN j S=false→ops[j]?=some y →
    lightOp h y=true ∨ isApp y=true ∨ ∃ t a x,y.op=.store t a x∧((∃ w,ev st a=.val w∧w ∈ ws) ∨ ∃ b off,ev st a=.loc b off)∧stays ops L a=true
  | [],_,_,j,hj,_,_,_,_,_=>by cases hj
  | z::r,ws,hx,j,hj,y,h1,h2,h3,h4=>by
    simp only [storeVs] at hx
    have tl:∀ ws',storeVs ops h L S i st r=some ws'→(∀ w ∈ ws',w ∈ ws)→j ∈ r→lightOp h y=true ∨ isApp y=true ∨ ∃ t a x,y.op=.store t a x∧((∃ w,ev st a=.val w∧w ∈ ws) ∨ ∃ b off,ev st a=.loc b off)∧stays ops L a=true:=fun ws' hw hsub hjr=>by
      rcases storeVs_spec r ws' hw j hjr y h1 h2 h3 h4 with g | g | ⟨t,a,x,g1,⟨w,g2,g3⟩ | ⟨b,off,g2⟩,g4⟩
      · exact .inl g
      · exact .inr (.inl g)
      · exact .inr (.inr ⟨t,a,x,g1,.inl ⟨w,g2,hsub w g3⟩,g4⟩)
      · exact .inr (.inr ⟨t,a,x,g1,.inr ⟨b,off,g2⟩,g4⟩)
    split at hx
    · rename_i hb
      rcases List.mem_cons.1 hj with e | hjr
      · subst e
        have hbe:Nat.beq j i=false:=by
          cases hb':Nat.beq j i with
          | false=>rfl
          | true=>exact absurd (Nat.eq_of_beq_eq_true hb') h2
        rw [h1,hbe,h3] at hb;cases hb
      · exact tl ws hx (fun _ h=>h) hjr
    · split at hx
      · rename_i hn
        rcases List.mem_cons.1 hj with e | hjr
        · subst e;rw [hn] at h4;cases h4
        · exact tl ws hx (fun _ h=>h) hjr
      · rename_i u hu
        split at hx
        · rename_i hlt
          rcases List.mem_cons.1 hj with e | hjr
          · subst e;rw [hu] at h4;cases h4
            simp only [Bool.or_eq_true] at hlt
            rcases hlt with g | g
            · exact .inl g
            · exact .inr (.inl g)
          · exact tl ws hx (fun _ h=>h) hjr
        · split at hx
          · rename_i t a x hop
            split at hx
            · rename_i w hw
              split at hx
              · rename_i hst
                split at hx
                · rename_i ws' hws
                  cases hx
                  rcases List.mem_cons.1 hj with e | hjr
                  · subst e;rw [hu] at h4;cases h4
                    exact .inr (.inr ⟨t,a,x,hop,.inl ⟨w,hw,by simp⟩,hst⟩)
                  · exact tl ws' hws (fun _ h=>by simp [h]) hjr
                · cases hx
              · cases hx
            · rename_i b off hw
              split at hx
              · rename_i hst
                rcases List.mem_cons.1 hj with e | hjr
                · subst e;rw [hu] at h4;cases h4
                  exact .inr (.inr ⟨t,a,x,hop,.inr ⟨b,off,hw⟩,hst⟩)
                · exact tl ws hx (fun _ h=>h) hjr
              · cases hx
            · cases hx
          · cases hx
theorem apL_spec {v:AV} {k:Prop}:∀ {ws:List AV},apL v ws k→k∧∀ w ∈ ws,apartP v w
  | [],hx=>⟨hx,fun _ h=>by cases h⟩
  | w::r,hx=>⟨(apL_spec hx.2).1,fun u hu=>by
    rcases List.mem_cons.1 hu with e | hu
    · rw [e];exact hx.1
    · exact (apL_spec hx.2).2 u hu⟩
theorem stays_spec {L:List Nat} {listed:Array Bool} (hl:Lk ops L listed) {a:Operand} (hx:stays ops L a=true):∀ z oz d,listed.getD z true=false→ops[z]?=some oz→oz.dst=some d→a ≠ .tmp d:=fun z oz d hz hoz hd e=>by
  subst e
  have hlt:=lt_of_some hoz
  have:=List.all_eq_true.1 hx z (List.mem_range.2 hlt)
  rw [hl.mem z hlt] at hz
  simp only [hz,hoz,hd,dstIn] at this
  have hm:memN d [d]=true:=memN_iff.2 (by simp)
  rw [hm] at this;cases this
theorem far_spec {L:List Nat} {listed:Array Bool} (hl:Lk ops L listed) {i:Nat} {o:Oper} {st:St} {k:Prop} (hx:far ops h L i o st k):k∧∃ t a v,o.op=.load t a∧ev st a=.val v∧∀ j y,j ≠ i→listed.getD j true=false→ops[j]?=some y→(∃ n,depT ops n y i=true) ∨ KeepY h ops listed st v y:=by
  unfold far at hx
  split at hx
  · rename_i t a hop
    split at hx
    · rename_i v hv
      split at hx
      · rename_i ws hws
        obtain ⟨hk,hap⟩:=apL_spec hx
        refine ⟨hk,t,a,v,hop,hv,fun j y hne hlj hy=>?_⟩
        have hlt:=lt_of_some hy
        rw [hl.mem j hlt] at hlj
        cases hS:memN j (depS ops i (List.range ops.size) []) with
        | true =>
          obtain ⟨y',n,h1,h2⟩:=depS_spec (List.range ops.size) [] (fun _ h=>by cases h) j hS
          rw [hy] at h1;cases h1
          exact .inl ⟨n,h2⟩
        | false =>
          right
          rcases storeVs_spec (List.range ops.size) ws hws j (List.mem_range.2 hlt) y hlj hne hS hy with g | g | ⟨t1,a1,x1,g1,⟨w1,g2,g3⟩ | ⟨b1,o1,g2⟩,g4⟩
          · exact .inl g
          · exact .inr (.inl g)
          · exact .inr (.inr ⟨t1,a1,x1,g1,.inl ⟨w1,g2,hap w1 g3⟩,stays_spec hl g4⟩)
          · exact .inr (.inr ⟨t1,a1,x1,g1,.inr ⟨b1,o1,g2⟩,stays_spec hl g4⟩)
      · exact hx.elim
    · exact hx.elim
  · exact hx.elim
theorem lightOK_spec {L:List Nat} {listed:Array Bool} (hl:Lk ops L listed) {i c:Nat} {o:Oper} {st:St} (ho:ops[i]?=some o) (hx:lightOK ops h L i c o=true) (hd:dynOK o c st=true)
    (hfar:c=3→∃ t a v,o.op=.load t a∧ev st a=.val v∧∀ j y,j ≠ i→listed.getD j true=false→ops[j]?=some y→(∃ n,depT ops n y i=true) ∨ KeepY h ops listed st v y):lightOp h o=true∧First h ops listed i c o st:=by
  simp only [lightOK,Bool.and_eq_true] at hx
  obtain ⟨h1,h2⟩:=dynOK_spec hd
  refine ⟨hx.1.2,hl.size,ho,hl.rdy.1 hx.1.1,fun j y hne hlj hy hdep=>?_,fun z y hlz hy=>?_,h1,hfar,h2⟩
  · have:=List.all_eq_true.1 hx.2 j (List.mem_range.2 (lt_of_some hy))
    rw [hl.mem j (lt_of_some hy)] at hlj
    have hb:Nat.beq j i=false:=by
      cases hb:Nat.beq j i with
      | false=>rfl
      | true=>exact absurd (Nat.eq_of_beq_eq_true hb) hne
    simp only [hlj,hb,hy,hdep,Bool.false_or,Bool.or_eq_true] at this
    rcases this with h | h
    · exact .inr h
    · obtain ⟨y',n,h3,h4⟩:=depS_spec (List.range ops.size) [] (fun _ h=>by cases h) j h
      rw [hy] at h3;cases h3
      exact .inl ⟨n,h4⟩
  · have hi:memN i L=false:=by
      have:=hx.1.1
      unfold rdy at this
      cases hm:memN i L with
      | false=>rfl
      | true=>simp [hm] at this
    have key:∀ (n z:Nat) (y:Oper),memN z L=true→ops[z]?=some y→depT ops n y i=false:=by
      intro n
      induction n with
      | zero =>
        intro z y hz hy
        have:=List.all_eq_true.1 hx.2 z (List.mem_range.2 (lt_of_some hy))
        simp only [hz,hy,shutIn] at this
        simp only [depT,depOn,Bool.eq_false_iff]
        intro hany
        obtain ⟨e,he,hb⟩:=List.any_eq_true.1 hany
        simp only [Bool.and_eq_true] at hb
        have h3:=List.all_eq_true.1 this e he
        rw [hb.1,Nat.eq_of_beq_eq_true hb.2,hi] at h3
        cases h3
      | succ n ih =>
        intro z y hz hy
        have:=List.all_eq_true.1 hx.2 z (List.mem_range.2 (lt_of_some hy))
        simp only [hz,hy,shutIn] at this
        simp only [depT,Bool.eq_false_iff]
        intro hany
        obtain ⟨e,he,hb⟩:=List.any_eq_true.1 hany
        simp only [Bool.and_eq_true] at hb
        have h3:=List.all_eq_true.1 this e he
        rw [hb.1] at h3
        cases hz':ops[e.on]? with
        | none=>simp [hz'] at hb
        | some u =>
          have:=ih e.on u (by simpa using h3) hz'
          simp [hz',this] at hb
    rw [hl.getD z] at hlz
    exact fun n=>key n z y hlz hy
/-- less is known in the first -/
abbrev Less (st1 st2:St):Prop:=∀ t,get st1 t=get st2 t ∨ (get st1 t=.undef∧(get st2 t).isBox=false)
def Up (k:St→Heap→Prop):Prop:=∀ st1 st2 H,Less st1 st2→k st1 H→k st2 H
theorem Up.closed {k:St→Heap→Prop} (hk:Up k):Closed k:=fun st1 st2 H he hx=>hk st1 st2 H (fun t=>.inl (he t)) hx
theorem Less.agree {st1 st2:St} (hl:Less st1 st2):Agree true none st1 st2:=⟨fun t _=>(hl t).imp id (fun h=>⟨rfl,h⟩),fun _ h=>by cases h⟩
theorem Agree.less {st1 st2:St} (ha:Agree true none st1 st2):Less st1 st2:=fun t=>(ha.same t (by simp)).imp id (·.2)
theorem opG_up (hCm:CMono C C) {o:Oper} {K:St→Heap→Prop} (hK:Up K) {st1 st2:St} {H:Heap} (he:Less st1 st2) (hx:opG P C N h ops o K st1 H):opG P C N h ops o K st2 H :=
  opG_frame hCm he.agree (fun _ h=>by cases h) (fun _ h=>by cases h) (fun _ _ _ a _ _ _ hk=>hK _ _ _ a.less hk) hx
theorem Wany_up (hCm:CMono C C) {k:St→Heap→Prop} (hk:Up k):∀ (f:Nat) (listed:Array Bool),Up (Wany P C N h ops k f listed)
  | 0,_,_,_,_,he,hx=>⟨hx.1,hk _ _ _ he hx.2⟩
  | f+1,_,_,_,_,he,hx=>⟨fun hr=>hk _ _ _ he (hx.1 hr),fun i hi o ho=>opG_up hCm (Wany_up hCm hk f _) he (hx.2 i hi o ho)⟩
theorem Wdraw_any (hCm:CMono C C) {rid:Nat} {k:St→Heap→Prop} (hk:Up k):∀ (l:List (Nat × Nat)) (L:List Nat) (listed:Array Bool) (f:Nat) (st:St) (H:Heap),Lk ops L listed→l.length≤f→Wdraw P C N h rid ops k l L st H→Wany P C N h ops k f listed st H
  | [],L,listed,f,st,H,hl,_,hx=>by
    simp only [Wdraw] at hx
    split at hx
    · rename_i hall
      have hr:Region.ready .any ops listed=[]:=by
        cases hr:Region.ready .any ops listed with
        | nil=>rfl
        | cons j r =>
          have hj:j ∈ Region.ready .any ops listed:=by rw [hr];simp
          obtain ⟨o,ho,_⟩:=ready_iff.1 hj
          have:=List.all_eq_true.1 hall j (List.mem_range.2 (lt_of_some ho))
          rw [hl.rdy.2 hj] at this;cases this
      cases f with
      | zero=>exact ⟨hr,hx⟩
      | succ f=>exact ⟨fun _=>hx,fun i hi=>by rw [hr] at hi;cases hi⟩
    · exact hx.elim
  | (i,c)::r,L,listed,0,st,H,hl,hf,hx=>by simp at hf
  | (i,c)::r,L,listed,f+1,st,H,hl,hf,hx=>by
    simp only [Wdraw] at hx
    split at hx
    · exact hx.elim
    · rename_i o ho
      have hf':r.length≤f:=by simpa using hf
      split at hx
      · rename_i hcheck
        have hmono:opG P C N h ops o (cutK h rid (L.length+1) (Wdraw P C N h rid ops k r (i::L))) st H→opG P C N h ops o (Wany P C N h ops k f (listed.setIfInBounds i true)) st H:=fun hx =>
          opG_mono hCm (fun st H hx=>by
            rw [cutK_eq] at hx
            exact Wany_up hCm hk f _ _ _ _ (get_cutAt h rid (L.length+1) st) (Wdraw_any hCm hk r (i::L) _ f _ H (hl.cons (lt_of_some ho)) hf' hx)) hx
        cases c with
        | zero =>
          obtain ⟨h1,h2⟩:=onlyRdy_spec hl hcheck
          refine ⟨fun hr=>absurd h1 (by rw [hr];simp),fun j hj oj hoj=>?_⟩
          have:=h2 j hj
          subst this
          rw [ho] at hoj;cases hoj
          exact hmono hx
        | succ c =>
          simp only [Bool.and_eq_true] at hcheck
          split at hx
          · rename_i hb3
            obtain ⟨hx,hf⟩:=far_spec hl hx
            obtain ⟨h1,h2⟩:=lightOK_spec hl ho hcheck.1 hcheck.2 (fun _=>hf)
            exact Wany_first hCm hk.closed h1 f listed st H h2 (hmono hx)
          · rename_i hb3
            obtain ⟨h1,h2⟩:=lightOK_spec hl ho hcheck.1 hcheck.2 (fun e=>by rw [e] at hb3;cases hb3)
            exact Wany_first hCm hk.closed h1 f listed st H h2 (hmono hx)
      · exact hx.elim
theorem Wany_sound {S:Start} {ro:Option Nat} {k:St→Heap→Prop} {Q:Exit→Act→World→Prop} (pk:PK P) (hC:∀ c args H K,C c args H K→SoundC P c args H K)
    (hQ:∀ st H a w,Good S st H a w→k st H→Q .normal a w):∀ (f:Nat) (listed:Array Bool) (st:St) (H:Heap) (a:Act) (w:World),Wany P C S.N h ops k f listed st H→Good S st H a w→wpAnyIn (Fro ro) 0 P .any ops Q f listed a w
  | 0,_,st,H,a,w,hx,hg=>⟨hx.1,hQ _ _ _ _ hg hx.2⟩
  | f+1,_,st,H,a,w,hx,hg=>⟨fun hr=>hQ _ _ _ _ hg (hx.1 hr),fun i hi=>by
      obtain ⟨o,ho,_⟩:=ready_iff.1 hi
      have:=opG_sound (Q:=Q) (ro:=ro) pk hC (K:=wpAnyIn (Fro ro) 0 P .any ops Q f _) (fun st H a w hg hx=>Wany_sound pk hC hQ f _ st H a w hx hg) (hx.2 i hi o ho) hg
      simp only [wpOpIn,ho]
      exact this⟩
theorem Wdraw_sound {S:Start} {ro:Option Nat} {k:St→Heap→Prop} {Q:Exit→Act→World→Prop} (pk:PK P) (hCm:CMono C C) (hC:∀ c args H K,C c args H K→SoundC P c args H K)
    (hQ:∀ st H a w,Good S st H a w→k st H→Q .normal a w) {id:Nat} {l:List (Nat × Nat)} {st:St} {H:Heap} {a:Act} {w:World} (hl:l.length≤ops.size)
    (hx:Wdraw P C S.N h id ops k l [] st H) (hg:Good S st H a w):(Code.region id ops true).wpIn (Fro ro) 0 P Q a w:=by
  refine wpIn_region_any pk.mixed ?_
  have hcl:Up (fun st H=>∃ st',Less st' st∧k st' H):=fun st1 st2 H he ⟨st',h1,h2⟩=>⟨st',fun t=>by
    rcases h1 t with h | ⟨h,hb⟩
    · rcases he t with h' | ⟨h',hb'⟩
      · exact .inl (h.trans h')
      · exact .inr ⟨h.trans h',hb'⟩
    · rcases he t with h' | ⟨h',hb'⟩
      · exact .inr ⟨h,by rw [← h'];exact hb⟩
      · exact .inr ⟨h,hb'⟩,h2⟩
  refine Wany_sound (h:=h) pk hC (k:=fun st H=>∃ st',Less st' st∧k st' H) (fun st H a w hg hk=>?_) ops.size _ st H a _ (Wdraw_any hCm hcl l [] _ ops.size st H Lk.nil hl (Wdraw_mono hCm (fun st H hk=>⟨st,fun _=>.inl rfl,hk⟩) hx)) ?_
  · obtain ⟨st',h1,h2⟩:=hk
    obtain ⟨Pi,β,g1,g2,g3,g4⟩:=hg
    exact hQ _ _ _ _ ⟨Pi,β,g1,g2,g3.less h1,g4⟩ h2
  · obtain ⟨Pi,β,h1,h2,h3,h4⟩:=hg
    exact ⟨Pi,β,h1.trans (Ext.draws _),h2.draws _,h3.step (Ext.draws _),h4⟩
end draw
end Go.Hx

