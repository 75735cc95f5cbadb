/- Operations: walks over texts, conversions. Own work (session 1). -/
import Derived.Test.YthhghcekcgonnaaHxOps5
import Derived.RangeFuncRecord
namespace Go.Hx
section ops
variable {P : Program} {C : CallRel} {S : Start} {h : Hint} {o : Oper} {k : St → Heap → Prop} {st : St} {H : Heap} {a : Act} {w : World} {Pi : Prot} {β : Nat → Nat}
variable (he : Ext S.H0 S.Pi0 S.w0 H Pi w) (hi : Inv Pi H w) (hr : RelSt Pi H w S.w0.heap.size S.N st a.tmps β) (hd : Marks S.w0.heap.size H w a.defers)
theorem no_pi (hi : Inv Pi H w) {b : Nat} (hb : ∀ vs e fr, w.heap[b]? ≠ some (.cells vs e fr)) : ∀ o, ¬ Pi b o := fun o ho => by
  obtain ⟨v, hv⟩ := hi.pi b o ho
  cases hw : w.heap[b]? with
  | none => simp [World.cell?, hw] at hv
  | some x =>
    cases x with
    | cells vs e fr => exact hb _ _ _ hw
    | _ => simp [World.cell?, hw] at hv
theorem cell_putObj {b x k : Nat} {o : Obj} (h : x ≠ b) : (w.putObj b o).cell? ⟨x, k, none⟩ = w.cell? ⟨x, k, none⟩ := by
  simp only [World.cell?, World.putObj_heap_other h]
theorem Later.putObj (hi : Inv Pi H w) {b : Nat} {o : Obj} (hb : ∀ vs e fr, w.heap[b]? ≠ some (.cells vs e fr)) : Later Pi w Pi (w.putObj b o) := by
  have hp := no_pi hi hb
  refine ⟨fun x k hx => ⟨hx, cell_putObj (fun e => hp k (e ▸ hx))⟩, fun x us e fr hx => ?_⟩
  have h : x ≠ b := fun e' => by subst e'; exact hb _ _ _ hx
  exact ⟨us, fr, (World.putObj_heap_other h).trans hx, rfl⟩
theorem pi_putObj (hi : Inv Pi H w) {b : Nat} {o : Obj} (hb : ∀ vs e fr, w.heap[b]? ≠ some (.cells vs e fr)) : ∀ x k, Pi x k → ∃ v, (w.putObj b o).cell? ⟨x, k, none⟩ = some v := fun x k hx => by
  have hne : x ≠ b := fun e => by subst e; exact no_pi hi hb k hx
  rw [cell_putObj hne]; exact hi.pi x k hx
/-- an object of the abstract heap that is no row turns -/
theorem putObj_obj (hi : Inv Pi H w) {b : Nat} {x x' : AObj} {o : Obj} (hH : H.objs b = some x) (hb : ∀ vs e fr, w.heap[b]? ≠ some (.cells vs e fr)) (hx : ObjAt Pi (w.putObj b o) b x') :
    Ext H Pi w (H.setObj b x') Pi (w.putObj b o) ∧ Inv Pi (H.setObj b x') (w.putObj b o) := by
  have hl := Later.putObj (o := o) hi hb
  have hne : ∀ y, H.objs y = none → y ≠ b := fun y hy e => by subst e; rw [hH] at hy; cases hy
  refine ⟨⟨by simp, rfl, rfl, rfl, fun y _ hy _ => World.putObj_heap_other (hne y hy), hl, fun y hy => ⟨fun h => ?_, id⟩, fun _ _ _ _ h => h⟩, ?_, ?_, pi_putObj hi hb⟩
  · simp only [Heap.setObj]; rw [if_neg (hne y h)]; exact h
  · intro y z hy
    simp only [Heap.setObj] at hy
    split at hy
    · rename_i e; subst e; simp only [Option.some.injEq] at hy; subst hy; exact hx
    · rename_i e; exact (hi.objs y z hy).later hl (World.putObj_heap_other e) (fun _ h => h)
  · intro y n hn
    obtain ⟨h1, ⟨vs, e, h2, h3⟩, h4⟩ := hi.tips y n hn
    have hyb : y ≠ b := hne y h1
    refine ⟨?_, ⟨vs, e, (World.putObj_heap_other hyb).trans h2, h3⟩, h4⟩
    simp only [Heap.setObj]; rw [if_neg hyb]; exact h1
theorem rngA_spec {x : AV} {K : Post} (hx : rngA x H K) : ∃ s, x = .raw (.string s) ∧ ∀ b, H.fresh b → K (.raw (.pointer (some ⟨b, 0, none⟩))) (H.setObj b (.siter s 0)) := by
  unfold rngA at hx
  split at hx
  · exact ⟨_, rfl, hx⟩
  · exact hx.elim
theorem nextA_spec {x : AV} {K : Post} (hx : nextA x H K) : ∃ b s pos, x = .raw (.pointer (some ⟨b, 0, none⟩)) ∧ H.objs b = some (.siter s pos) ∧
    if pos < s.size then K (.tup [B true, I pos, .raw (.int .i32 (Utf8.decode s pos).1)]) (H.setObj b (.siter s (pos + (Utf8.decode s pos).2))) else K (.tup [B false]) H := by
  unfold nextA at hx
  split at hx
  · split at hx
    · exact ⟨_, _, _, rfl, by assumption, hx⟩
    · exact hx.elim
  · exact hx.elim
include he hi hr hd
theorem op_range {t : TypeId} {x : Operand} (ho : o.op = .range t x) (hx : opX P C S.N h o k st H) : Fine P S o k a w := by
  simp only [opX, ho] at hx
  split at hx
  · rename_i hu
    obtain ⟨v, hx, rv⟩ := evV_rep hr hx
    obtain ⟨s, rfl, hx⟩ := rngA_spec hx
    have ev : a.eval x = .string s := rep_str.1 rv
    have e1 := Ext.newObj hi (.stringIter s 0) (.siter s 0)
    have i1 := hi.newObj (.stringIter s 0) (.siter s 0) (alloc_new w _)
    obtain ⟨st', g1, g2⟩ := val_fine (k := k) (dst := o.dst) (v := .pointer (some ⟨w.heap.size, 0, none⟩)) (he.trans e1) i1 (hr.step e1) (hd.step e1) (rep_ptr.2 rfl) (hx w.heap.size hi.fresh_new)
    exact ⟨_, _, st', _, .inl (by simp [execOp, ho, Instr.range, run_underlying hu, ev, run_newObj_alloc]), g1, g2⟩
  · exact hx.elim
theorem op_next {x : Operand} {isS : Bool} (ho : o.op = .next x isS) (hx : opX P C S.N h o k st H) : Fine P S o k a w := by
  simp only [opX, ho] at hx
  split at hx
  · obtain ⟨v, hx, rv⟩ := evV_rep hr hx
    obtain ⟨b, s, pos, rfl, hH, hx⟩ := nextA_spec hx
    have ev : a.eval x = .pointer (some ⟨b, 0, none⟩) := rep_ptr.1 rv
    have hw : w.heap[b]? = some (.stringIter s pos) := hi.objs b _ hH
    have hget : (getObj b).run P w = .ok (.stringIter s pos) w := by simp [getObj, Sem.run, hw]
    split at hx
    · rename_i hlt
      have hset : (setObj b (.stringIter s (pos + (Utf8.decode s pos).2))).run P w = .ok () (w.putObj b (.stringIter s (pos + (Utf8.decode s pos).2))) := by simp [setObj, Sem.run, hw, World.putObj]
      obtain ⟨e1, i1⟩ := putObj_obj (x' := .siter s (pos + (Utf8.decode s pos).2)) (o := .stringIter s (pos + (Utf8.decode s pos).2)) hi hH (by rw [hw]; intro _ _ _ h; cases h) (World.putObj_heap_same (Array.getElem?_eq_some_iff.1 hw).1)
      obtain ⟨st', g1, g2⟩ := val_fine (k := k) (dst := o.dst) (v := .tuple #[.bool true, goInt pos, .int .i32 (Utf8.decode s pos).1]) (he.trans e1) i1 (hr.step e1) (hd.step e1) (by simp [Rep, RepL, B, I, simpleV, goInt]) hx
      refine ⟨_, _, st', _, .inl ?_, g1, g2⟩
      simp [execOp, ho, ev, Instr.next, hget, hlt, hset]
    · rename_i hlt
      obtain ⟨st', g1, g2⟩ := val_fine (k := k) (dst := o.dst) (v := .tuple #[.bool false]) he hi hr hd (by simp [Rep, RepL, B, simpleV]) hx
      refine ⟨_, _, st', _, .inl ?_, g1, g2⟩
      simp [execOp, ho, ev, Instr.next, hget, hlt]
  · exact hx.elim
theorem op_convert {s d : TypeId} {x : Operand} (ho : o.op = .convert s d x) (hx : opX P C S.N h o k st H) : Fine P S o k a w := by
  simp only [opX, ho] at hx
  split at hx
  · rename_i k1 k2 h1 h2
    obtain ⟨v, hx, rv⟩ := evV_rep hr hx
    obtain ⟨r, h3, hx⟩ := ob_spec hx
    unfold cvtIA at h3
    split at h3
    · rename_i kk n
      simp only [Option.some.injEq] at h3; subst h3
      have ev : a.eval x = .int kk n := rep_int.1 rv
      exact pure_op he hi hr hd (v := .int k2 (k2.wrap n)) (by simp [execOp, ho, convert, run_underlying h1, run_underlying h2, ev, Conv.intToInt]) (rep_int.2 rfl) hx
    · cases h3
  · exact hx.elim
theorem op_makeInterface {t : TypeId} {x : Operand} (ho : o.op = .makeInterface t x) (hx : opX P C S.N h o k st H) : Fine P S o k a w := by
  simp only [opX, ho] at hx
  split at hx
  · rename_i hc
    obtain ⟨v, hx, rv⟩ := evV_rep hr hx
    exact pure_op he hi hr hd (v := .iface t (a.eval x)) (by simp [execOp, ho, run_makeInterface w t (a.eval x) hc]) (by simp only [Rep]; exact ⟨_, rfl, rv⟩) hx
  · exact hx.elim
theorem op_typeAssert {x : Operand} {t1 t2 : TypeId} {ok : Bool} (ho : o.op = .typeAssert x t1 t2 ok) (hx : opX P C S.N h o k st H) : Fine P S o k a w := by
  simp only [opX, ho] at hx
  split at hx
  · obtain ⟨v, hx, rv⟩ := evV_rep hr hx
    obtain ⟨r, h3, hx⟩ := ob_spec hx
    unfold asrtA at h3
    split at h3
    · rename_i t v
      simp only [Rep] at rv
      obtain ⟨u, ev, ru⟩ := rv
      split at h3
      · rename_i want j h4 h5
        split at h3
        · rename_i i h6 h7
          split at h3
          · rename_i h8
            simp only [Option.some.injEq] at h3; subst h3
            exact pure_op he hi hr hd (v := .tuple #[.iface t u, .bool true]) (by simp [execOp, ho, ev, run_typeAssert_has h4 h7 (List.isEmpty_iff.1 h8)]) (by simp [Rep, RepL, simpleV]; exact ru) hx
          · rename_i h8
            simp only [Option.some.injEq] at h3; subst h3
            exact pure_op he hi hr hd (v := .tuple #[.nilIface, .bool false]) (by simp [execOp, ho, ev, run_typeAssert_lacks h4 h7 h5 h6 (fun e => by rw [e] at h8; cases h8)]) (by simp [Rep, RepL, simpleV]) hx
        · cases h3
      · cases h3
    · cases h3
  · exact hx.elim
end ops
end Go.Hx
