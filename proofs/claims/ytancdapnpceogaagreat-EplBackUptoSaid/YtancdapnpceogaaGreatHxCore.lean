/- The abstract machine: Go code over values without addresses, as a predicate transformer. Own work (session 1). -/
import Derived.RangeFuncLeaves
import Derived.OrdersIn
import Derived.Stop.Asserts
import Derived.Laws.Build
namespace Go.Hx

inductive Tip where
  | any
  | full
  | tip (b:Nat)
  deriving DecidableEq

inductive AV where
  | raw (v:Value)
  | sl (sz:Nat) (isNil:Bool) (tip:Tip) (xs:List AV)
  | agg (cs:List AV)
  | tup (vs:List AV)
  | fn (f:Fn) (first cap:List AV)
  | iface (t:TypeId) (v:AV)

inductive Slot where
  | undef
  /-- an operation that did not come: no value -/
  | nov
  | val (v:AV)
  | lbox (cs:List AV)
  | loc (t off:Nat)
  | cp (cs:List AV)
  /-- where a row's elements lie -/
  | dat (a:AV)

abbrev St:=List (Nat × Slot)
def get:St→Nat→Slot
  | [],_=>.undef
  | (t,s)::r,u=>match Nat.beq t u with
    | true=>s
    | false=>get r u
def Slot.strip:Slot→Slot
  | .loc _ _=>.undef
  | .nov=>.undef
  | s=>s
def Slot.snap:Slot→Slot
  | .val v=>.val v
  | .cp cs=>.cp cs
  | _=>.undef
/-- the slots that a round finds -/
def snap (keep:List Nat) (st:St):St:=keep.map fun t=>(t,(get st t).snap)
def clear (keep:List Nat) (st:St):St:=keep.map fun t=>(t,(get st t).strip)
def Slot.isBox:Slot→Bool
  | .lbox _=>true
  | _=>false

structure Hint where
  hp:List Nat:=[]
  keep:List (Nat × List Nat):=[]
  /-- of a region that draws: an order,and of each operation: 0 it alone may come,1 it is light,2 it is light and may read the heap -/
  ord:List (Nat × List (Nat × Nat)):=[]
  /-- of a region: places where what is not kept is forgotten -/
  cut:List (Nat × List (Nat × List Nat)):=[]
def look {α:Type}:List (Nat × α)→Nat→Option α
  | [],_=>none
  | (t,s)::r,u=>match Nat.beq t u with
    | true=>some s
    | false=>look r u
/-- how a loop over a function stands -/
inductive Jump where
  | exit (id:Nat)
  | ret
inductive LSt where
  | ready
  | busy
  | left (j:Jump)
  | over
structure LoopInfo where
  h:Hint
  N:Nat
  i:Nat
  params:List Nat
  assign:Code
  body:Code
  st:St
inductive AObj where
  | cells (cs:List AV)
  | siter (s:ByteArray) (pos:Nat)
  /-- a map whose keys are texts -/
  | smap (l:List (ByteArray × AV))
  /-- a walk over a map that had n entries: which were seen -/
  | miter (m n:Nat) (seen:List Nat)
  | loop (L:LoopInfo) (s:LSt)

structure Heap where
  objs:Nat→Option AObj
  tips:Nat→Option Nat
  /-- blocks of which the type is known -/
  tys:Nat→Option TypeId

def Heap.fresh (H:Heap) (b:Nat):Prop:=H.objs b=none∧H.tips b=none
def Heap.setObj (H:Heap) (b:Nat) (o:AObj):Heap:={ H with objs:=fun x=>if x=b then some o else H.objs x }
def Heap.dropObj (H:Heap) (b:Nat):Heap:={ H with objs:=fun x=>if x=b then none else H.objs x }
def Heap.setTip (H:Heap) (b n:Nat):Heap:={ H with tips:=fun x=>if x=b then some n else H.tips x }
def Heap.dropTip (H:Heap) (b:Nat):Heap:={ H with tips:=fun x=>if x=b then none else H.tips x }
def Heap.setTy (H:Heap) (b:Nat) (e:TypeId):Heap:={ H with tys:=fun x=>if x=b then some e else H.tys x }

def memN (i:Nat):List Nat→Bool
  | []=>false
  | x::r=>match Nat.beq x i with
    | true=>true
    | false=>memN i r
def Slot.stripR (keep:List Nat):Slot→Slot
  | .loc t off=>match memN t keep with
    | true=>.loc t off
    | false=>.undef
  | s=>s
/-- forgetting within a region: boxes must be kept -/
def clearR (keep:List Nat) (st:St):St :=
  match st.all fun ts=>!ts.2.isBox || memN ts.1 keep with
  | true=>keep.map fun t=>(t,(get st t).stripR keep)
  | false=>st
def cutAt (h:Hint) (rid pos:Nat) (st:St):St :=
  match look h.cut rid with
  | none=>st
  | some l=>match look l pos with
    | none=>st
    | some keep=>clearR keep st
/-- a place where ways meet: the kernel does not look behind it -/
theorem shutEx:∃ f:(St→Heap→Prop)→St→Heap→Prop,∀ k,f k=k:=⟨fun k=>k,fun _=>rfl⟩
noncomputable def shut (k:St→Heap→Prop):St→Heap→Prop:=Classical.choose shutEx k
theorem shut_eq (k:St→Heap→Prop):shut k=k:=Classical.choose_spec shutEx k
def cutK (h:Hint) (rid pos:Nat) (k:St→Heap→Prop) (st:St) (H:Heap):Prop :=
  match look h.cut rid with
  | none=>k st H
  | some l=>match look l pos with
    | none=>k st H
    | some keep=>shut k (clearR keep st) H
def joinK (h:Hint) (i:Nat) (k:St→Heap→Prop) (st:St) (H:Heap):Prop :=
  match look h.keep i with
  | some l=>shut k (clear l st) H
  | none=>k st H
theorem cutK_eq (h:Hint) (rid pos:Nat) (k:St→Heap→Prop) (st:St) (H:Heap):cutK h rid pos k st H=k (cutAt h rid pos st) H:=by
  unfold cutK cutAt
  split
  · rfl
  · split
    · rfl
    · rw [shut_eq]
def clr (h:Hint) (i:Nat) (st:St):St :=
  match look h.keep i with
  | some l=>clear l st
  | none=>st

def ob {α:Type} (o:Option α) (k:α→Prop):Prop :=
  match o with
  | some v=>k v
  | none=>False
def cndA (r:AV) (x y:Prop):Prop :=
  match r with
  | .raw (.bool true)=>x
  | .raw (.bool false)=>y
  | _=>False
def I (n:Int):AV:=.raw (.int .i64 n)
def B (b:Bool):AV:=.raw (.bool b)
def S (s:ByteArray):AV:=.raw (.string s)

def cellsA:AV→List AV
  | .agg cs=>cs
  | v=>[v]
/-- A value of one cell. -/
def oneA:AV→Bool
  | .agg _=>false
  | .tup _=>false
  | _=>true

mutual
def constAV:Value→Option AV
  | .bool b=>some (.raw (.bool b))
  | .int k n=>some (.raw (.int k n))
  | .string s=>some (.raw (.string s))
  | .pointer a=>some (.raw (.pointer a))
  | .map r=>some (.raw (.map r))
  | .nilFunc=>some (.raw .nilFunc)
  | .nilIface=>some (.raw .nilIface)
  | .slice none 0 0=>some (.sl 0 true .full [])
  | .agg ⟨l⟩=>match constAVs l with
    | some cs=>match cs.all oneA with
      | true=>some (.agg cs)
      | false=>none
    | none=>none
  | _=>none
def constAVs:List Value→Option (List AV)
  | []=>some []
  | v::r=>match constAV v,constAVs r with
    | some a,some l=>some (a::l)
    | _,_=>none
end

theorem joinK_eq (h:Hint) (i:Nat) (k:St→Heap→Prop) (st:St) (H:Heap):joinK h i k st H=k (clr h i st) H:=by
  unfold joinK clr
  cases look h.keep i with
  | none=>rfl
  | some l=>simp only [shut_eq]
section ops
variable (P:Program)

/-- is the type a struct or an array, and its number of cells -/
def tyAgg (t:TypeId):Option (Bool × Nat) :=
  match P.underlying t,P.info? t with
  | some d,some i=>some (match d with | .struct _=>true | .array _ _=>true | _=>false,i.size)
  | _,_=>none
def zeroCells (t:TypeId):Option (List AV) :=
  match P.info? t with
  | some i=>match i.zero with
    | some v=>(constAV v).map cellsA
    | none=>none
  | none=>none
def sliceElem (t:TypeId):Option (TypeId × Nat × Nat) :=
  match P.underlying t with
  | some (.slice e)=>match P.info? e with
    | some i=>some (e,i.size,i.bytes)
    | none=>none
  | _=>none
def sliceElemZ (t:TypeId):Option (Nat × Nat) :=
  match P.underlying t with
  | some (.slice e)=>match P.info? e with
    | some i=>match i.zero with
      | some z=>match Nat.beq z.cells.size i.size && Nat.ble 1 i.bytes with
        | true=>some (i.size,i.bytes)
        | false=>none
      | none=>none
    | none=>none
  | _=>none
/-- arrays: how many, of what, how wide -/
def arrElem (t:TypeId):Option (Nat × TypeId × Nat) :=
  match P.underlying t with
  | some (.array n e)=>match P.info? e with
    | some i=>some (n,e,i.size)
    | none=>none
  | _=>none
def isU8 (t:TypeId):Bool :=
  match P.underlying t with
  | some (.int .u8)=>true
  | _=>false
/-- rows of bytes -/
def byteElem (t:TypeId):Option TypeId :=
  match P.underlying t,sliceElemZ P t with
  | some (.slice e),some (1,1)=>match P.underlying e with
    | some (.int .u8)=>some e
    | _=>none
  | _,_=>none
/-- a struct of a pointer and a row: its block's type is kept in mind -/
def typedT (t:TypeId):Bool :=
  match P.underlying t,zeroCells P t with
  | some (.struct _),some [.raw (.pointer none),.sl _ _ _ []]=>true
  | _,_=>false
/-- of a map whose keys are texts: what it holds, and its zero -/
def strMap (t:TypeId):Option AV :=
  match P.underlying t with
  | some (.map k e)=>match P.underlying k,P.info? e with
    | some .string,some i=>match i.zero with
      | some v=>constAV v
      | none=>none
    | _,_=>none
  | _=>none
/-- offset and size of a field -/
def fieldOff (t:TypeId) (f:Nat):Option (Nat × Nat × TypeId) :=
  match P.underlying t with
  | some (.struct fs)=>match fs[f]? with
    | some fd=>match P.info? fd.type with
      | some i=>some (fd.offset,i.size,fd.type)
      | none=>none
    | none=>none
  | _=>none

/-- the part of a list of cells -/
def partA (agg:Bool) (off sz:Nat) (cs:List AV):Option AV :=
  match agg with
  | true=>if off+sz≤cs.length then some (.agg ((cs.drop off).take sz)) else none
  | false=>cs[off]?
/-- a field of a struct value -/
def fldK (agg:Bool) (off sz:Nat) (a:AV) (k:AV→Prop):Prop :=
  match a with
  | .agg cs=>match partA agg off sz cs with
    | some v=>k v
    | none=>False
  | _=>False
def spliceA (off:Nat) (vs cs:List AV):Option (List AV) :=
  if off+vs.length≤cs.length then some (cs.take off++vs++cs.drop (off+vs.length)) else none
/-- the cells of a value that has sz of them -/
def sizedA (sz:Nat) (v:AV):Option (List AV) :=
  if (cellsA v).length=sz then (match v with | .tup _=>none | _=>some (cellsA v)) else none

def bitsI (op:BinOp) (k:IntKind) (x y:Int):Int :=
  match op with
  | .and=>k.wrap (BitVec.ofInt k.bits x &&& BitVec.ofInt k.bits y).toNat
  | .or=>k.wrap (BitVec.ofInt k.bits x ||| BitVec.ofInt k.bits y).toNat
  | .xor=>k.wrap (BitVec.ofInt k.bits x ^^^ BitVec.ofInt k.bits y).toNat
  | _=>k.wrap (BitVec.ofInt k.bits x &&& ~~~BitVec.ofInt k.bits y).toNat
def shiftA (op:BinOp) (k:IntKind) (x y:Int):Option AV :=
  if y < 0 then none else match op with
  | .shl=>some (.raw (.int k (k.wrap (x * 2 ^ (min y.toNat k.bits)))))
  | .shr=>some (.raw (.int k (x.fdiv (2 ^ (min y.toNat k.bits)))))
  | _=>none
def intBin (op:BinOp) (k:IntKind) (x y:Int):Option AV :=
  match op with
  | .quo=>if y=0 then none else some (.raw (.int k (k.wrap (x.tdiv y))))
  | .rem=>if y=0 then none else some (.raw (.int k (x.tmod y)))
  | .and=>some (.raw (.int k (bitsI .and k x y)))
  | .or=>some (.raw (.int k (bitsI .or k x y)))
  | .xor=>some (.raw (.int k (bitsI .xor k x y)))
  | .andNot=>some (.raw (.int k (bitsI .andNot k x y)))
  | .add=>some (.raw (.int k (k.wrap (x+y))))
  | .sub=>some (.raw (.int k (k.wrap (x - y))))
  | .mul=>some (.raw (.int k (k.wrap (x * y))))
  | .eql=>some (.raw (.bool (x == y)))
  | .neq=>some (.raw (.bool (x != y)))
  | .lss=>some (.raw (.bool (decide (x < y))))
  | .leq=>some (.raw (.bool (decide (x≤y))))
  | .gtr=>some (.raw (.bool (decide (x > y))))
  | .geq=>some (.raw (.bool (decide (x ≥ y))))
  | _=>none
def strBin (op:BinOp) (x y:ByteArray):Option AV :=
  match op with
  | .add=>if ((x.size+y.size:Nat):Int)≤9223372036854775807 then some (.raw (.string (x++y))) else none
  | .eql=>some (.raw (.bool (x.toList == y.toList)))
  | .neq=>some (.raw (.bool (!(x.toList == y.toList))))
  | .lss=>some (.raw (.bool (Op.bytesLess x.toList y.toList)))
  | .leq=>some (.raw (.bool (Op.bytesLess x.toList y.toList || x.toList == y.toList)))
  | .gtr=>some (.raw (.bool (!(Op.bytesLess x.toList y.toList || x.toList == y.toList))))
  | .geq=>some (.raw (.bool (!Op.bytesLess x.toList y.toList)))
  | _=>none
/-- '==' of values of one cell -/
def eqOne:TypeDesc→AV→AV→Option Bool
  | .bool,.raw (.bool a),.raw (.bool b)=>some (a == b)
  | .int _,.raw (.int k a),.raw (.int k' b)=>if k=k' then some (a == b) else none
  | .string,.raw (.string a),.raw (.string b)=>some (a == b)
  | .pointer _,.raw (.pointer none),.raw (.pointer b)=>some b.isNone
  | .pointer _,.raw (.pointer (some _)),.raw (.pointer none)=>some false
  | .slice _,.sl _ true _ _,.sl _ n _ _=>some n
  | .slice _,.sl _ false _ _,.sl _ true _ _=>some false
  | .func _ _ _,.raw .nilFunc,.raw .nilFunc=>some true
  | .func _ _ _,.raw .nilFunc,.fn _ _ _=>some false
  | .func _ _ _,.fn _ _ _,.raw .nilFunc=>some false
  | _,_,_=>none
/-- two pointers that are one -/
def ptrSame (D:TypeDesc) (a b:AV):Option TypeId :=
  match D,a,b with
  | .pointer e,.raw (.pointer (some x)),.raw (.pointer (some y))=>if x=y then some e else none
  | _,_,_=>none
def eqFs (eq:TypeId→AV→AV→Option Bool):List Field→List AV→List AV→Option Bool
  | [],_,_=>some true
  | f :: r, xs, ys => match f.name == "_" with
    | true=>none
    | false=>match tyAgg P f.type with
      | some (agg,sz)=>match partA agg f.offset sz xs,partA agg f.offset sz ys with
        | some p,some q=>match eq f.type p q with
          | some true=>eqFs eq r xs ys
          | some false=>some false
          | none=>none
        | _,_=>none
      | none=>none
def eqT:Nat→TypeId→AV→AV→Option Bool
  | 0,_,_,_=>none
  | d+1,t,a,b=>match P.underlying t with
    | some (.struct fs)=>match a,b with
      | .agg xs,.agg ys=>match P.stoodInHeld t with
        | true=>none
        | false=>eqFs P (eqT d) fs.toList xs ys
      | _,_=>none
    | some (.interface _)=>match a,b with
      | .raw .nilIface,.raw .nilIface=>some true
      | .raw .nilIface,.iface _ _=>some false
      | .iface _ _,.raw .nilIface=>some false
      | .iface tx x,.iface ty y=>if tx=ty then (match P.info? tx with
        | some i=>match i.comparable with
          | true=>eqT d tx x y
          | false=>none
        | none=>none) else some false
      | _,_=>none
    | some D=>match ptrSame D a b with
      | some e=>match P.info? e with
        | some _=>some true
        | none=>none
      | none=>eqOne D a b
    | none=>none
def eqOK (lit:Bool) (t:TypeId) (a b:AV):Bool :=
  match a,b with
  | .raw .nilIface,.raw .nilIface=>lit
  | .agg _,.agg _=>!P.eqGuardType P.depth t
  | _,_=>true
def isC:Operand→Bool
  | .const _=>true
  | _=>false
def binA (op:BinOp) (t:TypeId) (lit:Bool) (a b:AV):Option AV :=
  match a,b with
  | .raw (.int k x),.raw (.int k' y)=>match op with
    | .shl=>shiftA .shl k x y
    | .shr=>shiftA .shr k x y
    | op=>if k=k' then intBin op k x y else none
  | .raw (.string x),.raw (.string y)=>strBin op x y
  | a,b=>match eqOK P lit t a b with
    | true=>match op with
      | .eql=>(eqT P 4 t a b).map fun r=>.raw (.bool r)
      | .neq=>(eqT P 4 t a b).map fun r=>.raw (.bool (!r))
      | _=>none
    | false=>none
def unA (op:UnOp) (a:AV):Option AV :=
  match op,a with
  | .neg,.raw (.int k n)=>some (.raw (.int k (k.wrap (0 - n))))
  | .not,.raw (.bool b)=>some (.raw (.bool (!b)))
  | _,_=>none
def lenSA (a:AV):Option AV :=
  match a with
  | .raw (.string s)=>some (I s.size)
  | _=>none
def lenA (a:AV):Option AV :=
  match a with
  | .sl _ _ _ xs=>some (I xs.length)
  | _=>none
def min2A (a b:AV):Option AV :=
  match a,b with
  | .raw (.int k x),.raw (.int k' y)=>if k=k' then some (.raw (.int k (if y < x then y else x))) else none
  | _,_=>none
def max2A (a b:AV):Option AV :=
  match a,b with
  | .raw (.int k x),.raw (.int k' y)=>if k=k' then some (.raw (.int k (if y > x then y else x))) else none
  | _,_=>none
/-- the cells of an element -/
def ixaA (sz:Nat) (a i:AV):Option (List AV) :=
  match a,i with
  | .sl _ _ _ xs,.raw (.int .i64 k)=>if 0≤k then (match xs[k.toNat]? with | some x=>sizedA sz x | none=>none) else none
  | _,_=>none
/-- a byte of a string -/
def ixA (a i:AV):Option AV :=
  match a,i with
  | .raw (.string s),.raw (.int _ k)=>if 0≤k then (match s[k.toNat]? with | some b=>some (.raw (.int .u8 b.toNat)) | none=>none) else none
  | _,_=>none
def extractA (a:AV) (i:Nat):Option AV :=
  match a with
  | .tup vs=>vs[i]?
  | _=>none
def intOfA (d:Int):Option AV→Option Int
  | none=>some d
  | some (.raw (.int .i64 k))=>some k
  | _=>none
def sliceSA (a:AV) (lo hi:Option AV):Option AV :=
  match a with
  | .raw (.string s)=>match intOfA 0 lo,intOfA s.size hi with
    | some l,some h=>if 0≤l∧l≤h∧h≤s.size then some (.raw (.string (s.extract l.toNat h.toNat))) else none
    | _,_=>none
  | _=>none
def sliceA (sz:Nat) (a:AV) (lo hi mx:Option AV):Option AV :=
  match a with
  | .sl sz' nil _ xs=>if nil=true ∨ sz'=sz then match intOfA 0 lo,intOfA xs.length hi with
      | some l,some h=>if 0≤l∧l≤h∧h≤xs.length then
          (match mx,hi with
           | none,_=>some (.sl sz' nil .any ((xs.take h.toNat).drop l.toNat))
           | some (.raw (.int .i64 m)),some _=>if m=h then some (.sl sz' nil .full ((xs.take h.toNat).drop l.toNat)) else none
           | _,_=>none)
        else none
      | _,_=>none
    else none
  | _=>none
def nilA (a:AV):Option AV :=
  match a with
  | .raw (.pointer (some x))=>some (.raw (.pointer (some x)))
  | .fn (.func f) x y=>some (.fn (.func f) x y)
  | .fn (.yield f) x y=>some (.fn (.yield f) x y)
  | _=>none
def addPA (a:AV) (off:Nat):Option AV :=
  match a with
  | .raw (.pointer (some ⟨b,o,none⟩))=>some (.raw (.pointer (some ⟨b,o+off,none⟩)))
  | _=>none
def ldH (H:Heap) (agg:Bool) (sz:Nat) (a:AV):Option AV :=
  match a with
  | .raw (.pointer (some ⟨b,o,none⟩))=>match H.objs b with
    | some (.cells cs)=>partA agg o sz cs
    | _=>none
  | _=>none
def stH (H:Heap) (sz:Nat) (a v:AV):Option Heap :=
  match a with
  | .raw (.pointer (some ⟨b,o,none⟩))=>match H.objs b with
    | some (.cells cs)=>match sizedA sz v with
      | some vs=>match spliceA o vs cs with
        | some cs'=>some (H.setObj b (.cells cs'))
        | none=>none
      | none=>none
    | _=>none
  | _=>none
/-- struct literals: parts at offsets -/
def bldA:List (Nat × Nat × AV)→List AV→Option AV
  | [],cs=>some (.agg cs)
  | (off,sz,v)::r,cs=>match sizedA sz v with
    | some vs=>match spliceA off vs cs with
      | some cs'=>bldA r cs'
      | none=>none
    | none=>none
def mkSlA (sz:Nat) (xs:List AV):Option AV :=
  match xs.all fun x=>(sizedA sz x).isSome with
  | true=>some (.sl sz false .full xs)
  | false=>none

abbrev Post:=AV→Heap→Prop
inductive Callee where
  | fn (f:FuncId)
  | yield (l:Nat)
abbrev CallRel:=Callee→List AV→Heap→Post→Prop
def callA (C:CallRel) (f:AV) (args:List AV) (H:Heap) (K:Post):Prop :=
  match f with
  | .fn (.func n) first cap=>C (.fn n) (first++(args++cap)) H K
  | .fn (.yield l) [] []=>C (.yield l) args H K
  | _=>False
/-- an interface value is asked for the methods of an interface type -/
def asrtA (P:Program) (t2:TypeId) (a:AV):Option AV :=
  match a with
  | .iface t v=>match P.underlying t2,P.info? t2 with
    | some (.interface want),some j=>match j.zero,P.info? t with
      | some .nilIface,some i=>match (lacking want i.methods).isEmpty with
        | true=>some (.tup [.iface t v,.raw (.bool true)])
        | false=>some (.tup [.raw .nilIface,.raw (.bool false)])
      | _,_=>none
    | _,_=>none
  | _=>none
/-- a function that has no text of its own -/
def extOp (P:Program):Operand→Option FuncId
  | .func g=>match P.funcs[g]? with
    | some fn=>match fn.body with
      | none=>some g
      | some _=>none
    | none=>none
  | _=>none
/-- what such a function answers: a type's handle, or what is asked of it -/
def primA (P:Program) (g:FuncId) (args:List AV) (K:AV→Prop):Prop :=
  match args with
  | [.iface t _]=>∃ rt p,(∀ (w:World) (u:Value),(callFunc g #[.iface t u]).run P w=.ok (.value (.iface rt (.agg #[.pointer p]))) w)∧K (.iface rt (.agg [.raw (.pointer p)]))
  | [.raw (.pointer p)]=>(∀ w:World,(callFunc g #[.pointer p]).run P w=.ok (.value (.pointer p)) w)∧K (.raw (.pointer p))
  | [.agg [.raw (.pointer p)]]=>∃ b,(∀ w:World,(callFunc g #[.agg #[.pointer p]]).run P w=.ok (.value (.bool b)) w)∧K (.raw (.bool b))
  | _=>False
/-- a method of an interface value -/
def invA (P:Program) (C:CallRel) (name:String) (a:AV) (args:List AV) (H:Heap) (K:Post):Prop :=
  match a with
  | .iface t v=>∃ g,(∀ (w:World) (u:Value),(method (P.types.size+Made.depth) t u name).run P w=.ok (g,u) w)∧(primA P g (v::args) (fun r=>K r H) ∨ C (.fn g) (v::args) H K)
  | _=>False
/-- a function that is ranged over -/
def callF (C:CallRel) (f:AV) (args:List AV) (H:Heap) (K:Post):Prop :=
  match f with
  | .fn (.func n) first cap=>C (.fn n) (first++(args++cap)) H K
  | _=>False
/-- a walk over a text -/
def rngA (a:AV) (H:Heap) (K:Post):Prop :=
  match a with
  | .raw (.string s)=>∀ b,H.fresh b→K (.raw (.pointer (some ⟨b,0,none⟩))) (H.setObj b (.siter s 0))
  | _=>False
def nextA (a:AV) (H:Heap) (K:Post):Prop :=
  match a with
  | .raw (.pointer (some ⟨b,0,none⟩))=>match H.objs b with
    | some (.siter s pos)=>if pos < s.size then K (.tup [B true,I pos,.raw (.int .i32 (Utf8.decode s pos).1)]) (H.setObj b (.siter s (pos+(Utf8.decode s pos).2))) else K (.tup [B false]) H
    | _=>False
  | _=>False
/-- maps whose keys are texts -/
def findM (s:ByteArray):List (ByteArray × AV)→Option AV
  | []=>none
  | (k,v)::r=>match s == k with
    | true=>some v
    | false=>findM s r
def updM (s:ByteArray) (v:AV):List (ByteArray × AV)→List (ByteArray × AV)
  | []=>[(s,v)]
  | (k,u)::r=>match s == k with
    | true=>(s,v)::r
    | false=>(k,u)::updM s v r
def entsA (H:Heap) (m:AV):Option (List (ByteArray × AV)) :=
  match m with
  | .raw (.map none)=>some []
  | .raw (.map (some b))=>match H.objs b with
    | some (.smap l)=>some l
    | _=>none
  | _=>none
def okA (z:AV) (ok:Bool) (r:Option AV):AV :=
  match ok,r with
  | true,some v=>.tup [v,.raw (.bool true)]
  | true,none=>.tup [z,.raw (.bool false)]
  | false,some v=>v
  | false,none=>z
def lookA (H:Heap) (z:AV) (m i:AV) (ok:Bool):Option AV :=
  match i with
  | .raw (.string s)=>(entsA H m).map fun l=>okA z ok (findM s l)
  | _=>none
def mkMapA (H:Heap) (K:Post):Prop:=∀ b,H.fresh b→K (.raw (.map (some b))) (H.setObj b (.smap []))
def updA (H:Heap) (m i v:AV) (K:Heap→Prop):Prop :=
  match m,i with
  | .raw (.map (some b)),.raw (.string s)=>match H.objs b with
    | some (.smap l)=>K (H.setObj b (.smap (updM s v l)))
    | _=>False
  | _,_=>False
def cvtIA (k:IntKind) (a:AV):Option AV :=
  match a with
  | .raw (.int _ n)=>some (.raw (.int k (k.wrap n)))
  | _=>none
def newH (H:Heap) (cs:List AV) (K:AV→Heap→Prop):Prop :=
  ∀ b,H.fresh b→K (.raw (.pointer (some ⟨b,0,none⟩))) (H.setObj b (.cells cs))
/-- a new block whose type is kept in mind -/
def newT (H:Heap) (e:TypeId) (cs:List AV) (K:AV→Heap→Prop):Prop :=
  ∀ b,H.fresh b→K (.raw (.pointer (some ⟨b,0,none⟩))) ((H.setObj b (.cells cs)).setTy b e)
/-- a pointer is seen as another type's, or as none's -/
def convP (P:Program) (s d:TypeId) (a:AV) (H:Heap) (K:AV→Prop):Prop :=
  match a with
  | .raw (.pointer (some ⟨b,0,none⟩))=>match H.tys b,H.objs b with
    | some e,some (.cells cs)=>(∀ (w:World) (vs:Array Value) fr,w.heap[b]?=some (.cells vs e fr)→vs.size=cs.length→(convert s d (.pointer (some ⟨b,0,none⟩))).run P w=.ok (.pointer (some ⟨b,0,none⟩)) w)∧K a
    | _,_=>False
  | _=>False
/-- an element's place in an array -/
def ixPA (n sz:Nat) (a i:AV):Option AV :=
  match a,i with
  | .raw (.pointer (some ⟨b,o,none⟩)),.raw (.int _ k)=>if 0≤k∧k < n then some (.raw (.pointer (some ⟨b,o+k.toNat * sz,none⟩))) else none
  | _,_=>none
/-- an element of an array -/
def ixAgg (n:Nat) (agg:Bool) (sz:Nat) (a i:AV):Option AV :=
  match a,i with
  | .agg cs,.raw (.int _ k)=>if 0≤k∧k < n then partA agg (k.toNat * sz) sz cs else none
  | _,_=>none
/-- the end of an array that nobody else has: a row -/
def slArr (n:Nat) (a lo:AV) (H:Heap) (K:Post):Prop :=
  match a,lo with
  | .raw (.pointer (some ⟨b,0,none⟩)),.raw (.int .i64 k)=>match H.objs b with
    | some (.cells cs)=>cs.length=n∧0≤k∧k≤n∧K (.sl 1 false .any (cs.drop k.toNat)) (H.dropObj b)
    | _=>False
  | _,_=>False
/-- a byte, as a value -/
def byteA (c:UInt8):AV:=.raw (.int .u8 c.toNat)
/-- bytes as a text, copied -/
def bsA (a:AV) (K:AV→Prop):Prop :=
  match a with
  | .sl sz' nil _ xs=>(nil=true ∨ sz'=1)∧∃ l:List UInt8,xs=l.map byteA∧K (S ⟨l.toArray⟩)
  | _=>False
/-- a text as bytes, copied -/
def sbA (a:AV) (K:AV→Prop):Prop :=
  match a with
  | .raw (.string s)=>K (.sl 1 false .any (s.data.toList.map byteA))
  | _=>False
/-- a walk over a map -/
def rngM (a:AV) (H:Heap) (K:Post):Prop :=
  match a with
  | .raw (.map (some m))=>match H.objs m with
    | some (.smap l)=>∀ b,H.fresh b→K (.raw (.pointer (some ⟨b,0,none⟩))) (H.setObj b (.miter m l.length []))
    | _=>False
  | _=>False
def nextM (a:AV) (H:Heap) (K:Post):Prop :=
  match a with
  | .raw (.pointer (some ⟨b,0,none⟩))=>match H.objs b with
    | some (.miter m n seen)=>match H.objs m with
      | some (.smap l)=>l.length=n∧(∀ i s v,l[i]?=some (s,v)→i ∉ seen→K (.tup [.raw (.bool true),S s,v]) (H.setObj b (.miter m n (seen++[i])))) ∧
          ((∀ i,i < n→i ∈ seen)→K (.tup [.raw (.bool false)]) H)
      | _=>False
    | _=>False
  | _=>False
def entM (H:Heap) (a:AV):Option AV :=
  match a with
  | .raw (.pointer (some ⟨b,0,none⟩))=>match H.objs b with
    | some (.miter m n seen)=>match H.objs m with
      | some (.smap l)=>match Nat.beq l.length n,seen.getLast? with
        | true,some i=>match l[i]? with
          | some (s,v)=>some (.tup [S s,v])
          | none=>none
        | _,_=>none
      | _=>none
    | _=>none
  | _=>none
/-- the elements of a row are looked for -/
def datA (a:AV):Option AV :=
  match a with
  | .sl sz true tip xs=>some (.sl sz true tip xs)
  | .sl sz false tip (x::xs)=>some (.sl sz false tip (x::xs))
  | _=>none
/-- what is appended -/
def tailA (sz:Nat) (x:AV):Option (List AV) :=
  match x with
  | .sl sz' nil _ ys=>if nil=true ∨ sz'=sz then some ys else none
  | .raw (.string s)=>if sz=1 then some (s.data.toList.map fun b=>.raw (.int .u8 b.toNat)) else none
  | _=>none
def appA (sz bytes:Nat) (s x:AV) (H:Heap) (K:Post):Prop :=
  match s,tailA sz x with
  | .sl sz' nil tip xs,some ys =>
    match ys with
    | []=>K (.sl sz' nil tip xs) H
    | y::ys =>
      (nil=true ∨ sz'=sz)∧1≤sz∧(xs.length+(y::ys).length) * bytes≤140737488355328 ∧
      match tip with
      | .any=>False
      | .full=>∀ b,H.fresh b→K (.sl sz false (.tip b) (xs++y::ys)) (H.setTip b ((xs.length+(y::ys).length) * sz))
      | .tip b0=>H.tips b0=some (xs.length * sz)∧∀ b,(b=b0 ∨ H.fresh b)→K (.sl sz false (.tip b) (xs++y::ys)) (H.setTip b ((xs.length+(y::ys).length) * sz))
  | _,_=>False
/-- bytes are appended to bytes -/
def appB (e:TypeId) (s x:AV) (H:Heap) (K:Post):Prop :=
  match s,tailA 1 x with
  | .sl sz' nil tip xs,some ys =>
    match ys with
    | []=>K (.sl sz' nil tip xs) H
    | y::ys =>
      (nil=true ∨ sz'=1)∧xs.length+(y::ys).length≤140737488355328 ∧
      (∀ b,H.fresh b→K (.sl 1 false (.tip b) (xs++y::ys)) ((H.setTip b (xs.length+(y::ys).length)).setTy b e)) ∧
      match tip with
      | .any=>False
      | .full=>True
      | .tip b0=>H.tips b0=some xs.length∧K (.sl 1 false (.tip b0) (xs++y::ys)) (H.setTip b0 (xs.length+(y::ys).length))
  | _,_=>False
/-- bytes as a text, in place -/
def strA (P:Program) (pt:TypeId) (a n:AV) (H:Heap) (K:Post):Prop :=
  match a,n with
  | .sl _ true _ _,.raw (.int .i64 0)=>K (S ⟨#[]⟩) H
  | .sl 1 false (.tip c) (x::xs),.raw (.int .i64 m)=>∃ (e:TypeId) (l:List UInt8),P.underlying pt=some (.pointer e)∧P.cellsOf e=1∧H.tys c=some e∧x::xs=l.map byteA∧m=l.length∧l.length≤9223372036854775807∧H.tips c=some l.length∧K (S ⟨l.toArray⟩) (H.dropTip c)
  | _,_=>False
end ops

section code
variable (P:Program) (C:CallRel) (N:Nat) (h:Hint)

def ev (st:St):Operand→Slot
  | .tmp t=>match get st t with
    | .lbox _=>.loc t 0
    | s=>s
  | .const v=>match constAV v with
    | some a=>.val a
    | none=>.undef
  | .global g=>.val (.raw (.pointer (some ⟨g,0,none⟩)))
  | .func f=>.val (.fn (.func f) [] [])
def evV (st:St) (x:Operand) (k:AV→Prop):Prop :=
  match ev st x with
  | .val v=>k v
  | _=>False
def evD (st:St) (x:Operand) (k:AV→Prop):Prop :=
  match ev st x with
  | .dat v=>k v
  | _=>False
def evVs (st:St):List Operand→(List AV→Prop)→Prop
  | [],k=>k []
  | x::r,k=>evV st x fun v=>evVs st r fun vs=>k (v::vs)
def evO (st:St):Option Operand→(Option AV→Prop)→Prop
  | none,k=>k none
  | some x,k=>evV st x fun v=>k (some v)
def putS (dst:Option Tmp) (s:Slot) (st:St) (k:St→Prop):Prop :=
  match dst with
  | none=>k st
  | some d=>match Nat.blt d N && !(get st d).isBox with
    | true=>k ((d,s)::st)
    | false=>False
def inHp (h:Hint) (dst:Option Tmp):Bool :=
  match dst with
  | some d=>h.hp.any (Nat.beq d)
  | none=>false

def evParts (st:St) (t:TypeId):List (Nat × Operand)→(List (Nat × Nat × AV)→Prop)→Prop
  | [],k=>k []
  | (i,x)::r,k=>match fieldOff P t i with
    | some (off,sz,_)=>evV st x fun v=>evParts st t r fun l=>k ((off,sz,v)::l)
    | none=>False
def evPartsN (st:St) (n sz:Nat):List (Nat × Operand)→(List (Nat × Nat × AV)→Prop)→Prop
  | [],k=>k []
  | (i,x)::r,k=>match Nat.blt i n with
    | true=>evV st x fun v=>evPartsN st n sz r fun l=>k ((i * sz,sz,v)::l)
    | false=>False
def ordered:Nat→List (Nat × Operand)→Bool
  | _,[]=>true
  | i,(j,_)::r=>Nat.beq i j && ordered (i+1) r

def noLoc (d:Nat) (st:St):Bool :=
  st.all fun ts=>match ts.2 with
    | .loc b _=>!Nat.beq b d
    | _=>true
def Slot.drop (d:Nat):Slot→Slot
  | .loc b off=>match Nat.beq b d with
    | true=>.undef
    | false=>.loc b off
  | s=>s
/-- places in a box are forgotten -/
def dropLoc (d:Nat) (st:St):St:=st.map fun ts=>(ts.1,ts.2.drop d)
/-- the boxes that a function value takes become objects -/
def pubs:List Operand→(St→Heap→Prop)→St→Heap→Prop
  | [],k,st,H=>k st H
  | .tmp t::r,k,st,H=>match get st t with
    | .lbox cs=>newH H cs fun p H=>pubs r k ((t,.val p)::dropLoc t st) H
    | _=>pubs r k st H
  | _::r,k,st,H=>pubs r k st H

/-- one operation -/
def opX (o:Oper) (k:St→Heap→Prop) (st:St) (H:Heap):Prop :=
  match o.op with
  | .move x | .assign x=>match ev st x with
    | .undef=>False
    | s=>putS N o.dst s st fun st=>k st H
  | .pick c a b=>evV st c fun c=>cndA c (evV st a fun r=>putS N o.dst (.val r) st fun st=>k st H) (evV st b fun r=>putS N o.dst (.val r) st fun st=>k st H)
  | .alloc e=>match zeroCells P e with
    | some cs=>match inHp h o.dst with
      | true=>match typedT P e with
        | true=>newT H e cs fun r H=>putS N o.dst (.val r) st fun st=>k st H
        | false=>newH H cs fun r H=>putS N o.dst (.val r) st fun st=>k st H
      | false=>putS N o.dst (.lbox cs) st fun st=>k st H
    | none=>False
  | .box e x=>match tyAgg P e with
    | some (_,sz)=>evV st x fun v=>ob (sizedA sz v) fun cs=>match inHp h o.dst with
      | true=>match typedT P e with
        | true=>newT H e cs fun r H=>putS N o.dst (.val r) st fun st=>k st H
        | false=>newH H cs fun r H=>putS N o.dst (.val r) st fun st=>k st H
      | false=>putS N o.dst (.lbox cs) st fun st=>k st H
    | none=>False
  | .build t parts=>match P.underlying t,zeroCells P t with
    | some (.struct fs),some cs=>match fs.toList.all fun f=>(P.info? f.type).isSome with
      | true=>evParts P st t parts.toList fun l=>ob (bldA l cs) fun r=>putS N o.dst (.val r) st fun st=>k st H
      | false=>False
    | some (.array n e),some cs=>match P.info? e with
      | some i=>evPartsN st n i.size parts.toList fun l=>ob (bldA l cs) fun r=>putS N o.dst (.val r) st fun st=>k st H
      | none=>False
    | _,_=>False
  | .buildSlice t len parts=>match sliceElem P t with
    | some (e,sz,_)=>match ordered 0 parts.toList && Nat.beq parts.size len && Nat.ble (len * sz) 16777216 && Nat.ble 1 sz && (zeroCells P e).isSome with
      | true=>evVs st (parts.toList.map (·.2)) fun vs=>ob (mkSlA sz vs) fun r=>putS N o.dst (.val r) st fun st=>k st H
      | false=>False
    | none=>False
  | .load t a=>match tyAgg P t with
    | some (agg,sz)=>match ev st a with
      | .loc b off=>match get st b with
        | .lbox cs=>ob (partA agg off sz cs) fun r=>putS N o.dst (.val r) st fun st=>k st H
        | _=>False
      | .cp cs=>ob (partA agg 0 sz cs) fun r=>putS N o.dst (.val r) st fun st=>k st H
      | .val p=>ob (ldH H agg sz p) fun r=>putS N o.dst (.val r) st fun st=>k st H
      | _=>False
    | none=>False
  | .store t a x=>match tyAgg P t with
    | some (_,sz)=>match ev st a with
      | .loc b off=>match get st b with
        | .lbox cs=>evV st x fun v=>ob (sizedA sz v) fun vs=>ob (spliceA off vs cs) fun cs'=>putS N o.dst .undef ((b,.lbox cs')::st) fun st=>k st H
        | _=>False
      | .val p=>evV st x fun v=>ob (stH H sz p v) fun H'=>putS N o.dst .undef st fun st=>k st H'
      | _=>False
    | none=>False
  | .nilCheck x=>match ev st x with
    | .val v=>ob (nilA v) fun r=>putS N o.dst (.val r) st fun st=>k st H
    | .loc b off=>putS N o.dst (.loc b off) st fun st=>k st H
    | .cp cs=>putS N o.dst (.cp cs) st fun st=>k st H
    | _=>False
  | .binOp op t x y _=>evV st x fun a=>evV st y fun b=>ob (binA P op t (isC x || isC y) a b) fun r=>putS N o.dst (.val r) st fun st=>k st H
  | .unOp op _ x=>evV st x fun a=>ob (unA op a) fun r=>putS N o.dst (.val r) st fun st=>k st H
  | .makeFunc f first cap=>pubs cap.toList (fun st H=>evVs st first.toList fun a=>evVs st cap.toList fun b=>putS N o.dst (.val (.fn f a b)) st fun st=>k st H) st H
  | .slice t x lo hi mx=>match P.underlying t with
    | some .string=>evV st x fun a=>evO st lo fun l=>evO st hi fun u=>ob (sliceSA a l u) fun r=>match mx with
      | none=>putS N o.dst (.val r) st fun st=>k st H
      | some _=>False
    | _=>match sliceElem P t with
      | some (_,sz,_)=>evV st x fun a=>evO st lo fun l=>evO st hi fun u=>evO st mx fun m=>ob (sliceA sz a l u m) fun r=>putS N o.dst (.val r) st fun st=>k st H
      | none=>match arrElem P t,lo,hi,mx,inHp h o.dst with
        | some (n,_,1),some lo,none,none,true=>evV st x fun a=>evV st lo fun l=>slArr n a l H fun r H=>putS N o.dst (.val r) st fun st=>k st H
        | _,_,_,_,_=>False
  | .fieldAddr t x f=>match fieldOff P t f with
    | some (off,sz,_)=>match Nat.ble 1 sz with
      | true=>match ev st x with
        | .loc b o'=>putS N o.dst (.loc b (o'+off)) st fun st=>k st H
        | .cp cs=>putS N o.dst (.cp (cs.drop off)) st fun st=>k st H
        | .val p=>ob (addPA p off) fun r=>putS N o.dst (.val r) st fun st=>k st H
        | _=>False
      | false=>False
    | none=>False
  | .field t x f=>match fieldOff P t f with
    | some (off,_,ft)=>match tyAgg P ft with
      | some (agg,sz)=>evV st x fun a=>match a with
        | .agg cs=>ob (partA agg off sz cs) fun r=>putS N o.dst (.val r) st fun st=>k st H
        | _=>False
      | none=>False
    | none=>False
  | .indexAddr t x i=>match sliceElem P t with
    | some (_,sz,_)=>evV st x fun a=>evV st i fun i=>ob (ixaA sz a i) fun cs=>putS N o.dst (.cp cs) st fun st=>k st H
    | none=>match arrElem P t with
      | some (n,_,sz)=>evV st x fun a=>evV st i fun i=>ob (ixPA n sz a i) fun r=>putS N o.dst (.val r) st fun st=>k st H
      | none=>False
  | .index t x i=>match P.underlying t with
    | some .string=>evV st x fun a=>evV st i fun i=>ob (ixA a i) fun r=>putS N o.dst (.val r) st fun st=>k st H
    | _=>match arrElem P t with
      | some (n,e,_)=>match tyAgg P e with
        | some (agg,sz)=>evV st x fun a=>evV st i fun i=>ob (ixAgg n agg sz a i) fun r=>putS N o.dst (.val r) st fun st=>k st H
        | none=>False
      | none=>False
  | .makeMap t r=>match r with
    | none=>match strMap P t with
      | some _=>mkMapA H fun r H=>putS N o.dst (.val r) st fun st=>k st H
      | none=>False
    | some _=>False
  | .lookup t x i ok=>match strMap P t with
    | some z=>evV st x fun a=>evV st i fun i=>ob (lookA H z a i ok) fun r=>putS N o.dst (.val r) st fun st=>k st H
    | none=>False
  | .mapUpdate t m i v=>match strMap P t with
    | some _=>evV st m fun a=>evV st i fun i=>evV st v fun v=>updA H a i v fun H=>putS N o.dst .undef st fun st=>k st H
    | none=>False
  | .insert t m i v=>match strMap P t with
    | some _=>evV st m fun a=>evV st i fun i=>evV st v fun v=>updA H a i v fun H=>putS N o.dst .undef st fun st=>k st H
    | none=>False
  | .makeInterface t x=>match P.concrete t with
    | true=>evV st x fun a=>putS N o.dst (.val (.iface t a)) st fun st=>k st H
    | false=>False
  | .typeAssert x _ t2 ok=>match ok with
    | true=>evV st x fun a=>ob (asrtA P t2 a) fun r=>putS N o.dst (.val r) st fun st=>k st H
    | false=>False
  | .extract t i=>evV st t fun a=>ob (extractA a i) fun r=>putS N o.dst (.val r) st fun st=>k st H
  | .range t x=>match P.underlying t with
    | some .string=>evV st x fun a=>rngA a H fun r H=>putS N o.dst (.val r) st fun st=>k st H
    | some (.map _ _)=>evV st x fun a=>rngM a H fun r H=>putS N o.dst (.val r) st fun st=>k st H
    | _=>False
  | .next x isS=>match isS with
    | true=>evV st x fun a=>nextA a H fun r H=>putS N o.dst (.val r) st fun st=>k st H
    | false=>evV st x fun a=>nextM a H fun r H=>putS N o.dst (.val r) st fun st=>k st H
  | .entry x=>evV st x fun a=>ob (entM H a) fun r=>putS N o.dst (.val r) st fun st=>k st H
  | .convert s d x=>match P.underlying s,P.underlying d with
    | some (.int _),some (.int kd)=>evV st x fun a=>ob (cvtIA kd a) fun r=>putS N o.dst (.val r) st fun st=>k st H
    | some (.pointer _),some .unsafePointer=>match inHp h o.dst with
      | true=>evV st x fun a=>convP P s d a H fun r=>putS N o.dst (.val r) st fun st=>k st H
      | false=>False
    | some .unsafePointer,some (.pointer _)=>match inHp h o.dst with
      | true=>evV st x fun a=>convP P s d a H fun r=>putS N o.dst (.val r) st fun st=>k st H
      | false=>False
    | some (.slice e),some .string=>match isU8 P e,inHp h o.dst with
      | true,true=>evV st x fun a=>bsA a fun r=>putS N o.dst (.val r) st fun st=>k st H
      | _,_=>False
    | some .string,some (.slice e)=>match isU8 P e,inHp h o.dst with
      | true,true=>evV st x fun a=>sbA a fun r=>putS N o.dst (.val r) st fun st=>k st H
      | _,_=>False
    | _,_=>False
  | .call c=>match c.callee with
    | .value f=>match extOp P f with
      | some g=>evVs st c.args.toList fun args=>primA P g args fun r=>putS N o.dst (.val r) st fun st=>k st H
      | none=>evV st f fun f=>evVs st c.args.toList fun args=>callA C f args H fun r H=>putS N o.dst (.val r) st fun st=>k st H
    | .invoke x name=>evV st x fun a=>evVs st c.args.toList fun args=>invA P C name a args H fun r H=>putS N o.dst (.val r) st fun st=>k st H
    | .builtin .len=>match c.args.toList,c.argTypes.toList with
      | [x],[t]=>match P.underlying t with
        | some .string=>evV st x fun a=>ob (lenSA a) fun r=>putS N o.dst (.val r) st fun st=>k st H
        | some (.slice _)=>evV st x fun a=>ob (lenA a) fun r=>putS N o.dst (.val r) st fun st=>k st H
        | _=>False
      | _,_=>False
    | .builtin .min=>match c.args.toList with
      | [x,y]=>evV st x fun a=>evV st y fun b=>ob (min2A a b) fun r=>putS N o.dst (.val r) st fun st=>k st H
      | _=>False
    | .builtin .max=>match c.args.toList with
      | [x,y]=>evV st x fun a=>evV st y fun b=>ob (max2A a b) fun r=>putS N o.dst (.val r) st fun st=>k st H
      | _=>False
    | .builtin .append=>match c.args.toList,c.argTypes.toList with
      | [x,y],[t,t2]=>match byteElem P t with
       | some e=>match P.underlying t2 with
        | some (.slice _)=>evV st x fun a=>evV st y fun b=>appB e a b H fun r H=>putS N o.dst (.val r) st fun st=>k st H
        | some .string=>evV st x fun a=>evV st y fun b=>appB e a b H fun r H=>putS N o.dst (.val r) st fun st=>k st H
        | _=>False
       | none=>match sliceElemZ P t,P.underlying t2 with
        | some (sz,bytes),some (.slice _)=>evV st x fun a=>evV st y fun b=>appA sz bytes a b H fun r H=>putS N o.dst (.val r) st fun st=>k st H
        | some (sz,bytes),some .string=>evV st x fun a=>evV st y fun b=>appA sz bytes a b H fun r H=>putS N o.dst (.val r) st fun st=>k st H
        | _,_=>False
      | _,_=>False
    | .builtin .unsafeSliceData=>match c.args.toList with
      | [x]=>evV st x fun a=>ob (datA a) fun r=>putS N o.dst (.dat r) st fun st=>k st H
      | _=>False
    | .builtin .unsafeString=>match c.args.toList,c.argTypes.toList with
      | [x,n],[pt,_]=>evD st x fun a=>evV st n fun n=>strA P pt a n H fun r H=>putS N o.dst (.val r) st fun st=>k st H
      | _,_=>False
    | _=>False
  | _=>False

def opG (ops:Array Oper) (o:Oper) (k:St→Heap→Prop) (st:St) (H:Heap):Prop :=
  match o.guard with
  | none=>opX P C N h o k st H
  | some (j,want)=>match (ops[j]?).bind (·.dst) with
    | none=>False
    | some g=>match ev st (.tmp g) with
      | .nov=>putS N o.dst .nov st fun st=>k st H
      | .val x=>cndA x
        (match want with
         | true=>opX P C N h o k ((g,.val (.raw (.bool true)))::st) H
         | false=>putS N o.dst .nov ((g,.val (.raw (.bool true)))::st) fun st=>k st H)
        (match want with
         | true=>putS N o.dst .nov ((g,.val (.raw (.bool false)))::st) fun st=>k st H
         | false=>opX P C N h o k ((g,.val (.raw (.bool false)))::st) H)
      | _=>False
def Wops (rid:Nat) (ops:Array Oper) (k:St→Heap→Prop):Nat→List Oper→St→Heap→Prop
  | _,[],st,H=>k st H
  | j,o::r,st,H=>opG P C N h ops o (cutK h rid (j+1) (Wops rid ops k (j+1) r)) st H

def bindsA (e:Edge):Bool :=
  match e.ground with
  | .textOnly _=>false
  | .gcOnly _=>false
  | _=>true
theorem bindsA_eq (e:Edge):bindsA e=Region.binds .any e:=by
  unfold bindsA Region.binds
  cases e.ground<;>first | rfl | decide
def rdy (ops:Array Oper) (L:List Nat) (i:Nat):Bool :=
  match memN i L with
  | true=>false
  | false=>match ops[i]? with
    | some o=>o.after.toList.all fun e=>!bindsA e || memN e.on L
    | none=>false
def onlyRdy (ops:Array Oper) (L:List Nat) (i:Nat):Bool :=
  rdy ops L i && (List.range ops.size).all fun j=>Nat.beq j i || !rdy ops L j
def optL:Option Operand→List Operand
  | none=>[]
  | some x=>[x]
def tm:List Operand→List Nat
  | []=>[]
  | .tmp t::r=>t::tm r
  | _::r=>tm r
def lookL:Op→List Operand
  | .move x | .assign x | .box _ x | .load _ x | .nilCheck x | .unOp _ _ x | .convert _ _ x | .makeInterface _ x
  | .fieldAddr _ x _ | .field _ x _ | .range _ x | .next x _ | .entry x | .typeAssert x _ _ _ | .extract x _ | .panic x=>[x]
  | .pick c a b=>[c,a,b]
  | .build _ ps | .buildSlice _ _ ps=>ps.toList.map (·.2)
  | .store _ a v | .binOp _ _ a v _ | .makeSlice _ a v | .indexAddr _ a v | .index _ a v | .lookup _ a v _=>[a,v]
  | .makeFunc _ f c=>f.toList++c.toList
  | .makeMap _ r=>optL r
  | .slice _ x l u m=>x::(optL l++(optL u++optL m))
  | .mapUpdate _ m k v | .insert _ m k v=>[m,k,v]
  | .call c=>(match c.callee with | .value f=>[f] | .invoke r _=>[r] | .builtin _=>[])++c.args.toList
  | _=>[]
def guardSlot (ops:Array Oper) (o:Oper):List Nat :=
  match o.guard with
  | none=>[]
  | some (j,_)=>match (ops[j]?).bind (·.dst) with
    | some g=>[g]
    | none=>[]
def looks (ops:Array Oper) (o:Oper):List Nat:=tm (lookL o.op)++guardSlot ops o
def lightOp (h:Hint) (o:Oper):Bool :=
  match o.op with
  | .move _ | .assign _ | .pick _ _ _ | .build _ _ | .buildSlice _ _ _ | .load _ _ | .nilCheck _ | .binOp _ _ _ _ _ | .unOp _ _ _
  | .fieldAddr _ _ _ | .field _ _ _ | .indexAddr _ _ _ | .index _ _ _ | .extract _ _=>true
  | .alloc _ | .box _ _ | .convert _ _ _ | .slice _ _ _ _ _=>!inHp h o.dst
  | .makeFunc _ _ cap=>cap.toList.isEmpty
  | .call c=>match c.callee with
    | .builtin .len=>true
    | .builtin .min=>true
    | .builtin .max=>true
    | .builtin .unsafeSliceData=>true
    | _=>false
  | _=>false
def isLoad (o:Oper):Bool :=
  match o.op with
  | .load _ _=>true
  | _=>false
def isStore (o:Oper):Bool :=
  match o.op with
  | .store _ _ _=>true
  | _=>false
/-- does it take boxes -/
def isCap (o:Oper):Bool :=
  match o.op with
  | .makeFunc _ _ cap=>!cap.toList.isEmpty
  | _=>false
def dstIn (dst:Option Tmp) (l:List Nat):Bool :=
  match dst with
  | none=>false
  | some d=>memN d l
def apartA (ops:Array Oper) (x y:Oper):Bool :=
  !dstIn x.dst (looks ops y) && !dstIn x.dst (y.dst.toList) && !dstIn y.dst (looks ops x)
def depOn (o:Oper) (i:Nat):Bool:=o.after.toList.any fun e=>bindsA e && Nat.beq e.on i
def depT (ops:Array Oper):Nat→Oper→Nat→Bool
  | 0,o,i=>depOn o i
  | n+1,o,i=>o.after.toList.any fun e=>bindsA e && match ops[e.on]? with
    | some z=>depT ops n z i
    | none=>false
/-- all that come behind one -/
def depS (ops:Array Oper) (i:Nat):List Nat→List Nat→List Nat
  | [],s=>s
  | j::r,s=>depS ops i r (match ops[j]? with
    | some y=>match y.after.toList.any fun e=>bindsA e && (Nat.beq e.on i || memN e.on s) with
      | true=>j::s
      | false=>s
    | none=>s)
/-- what comes ahead of it is in the list -/
def shutIn (o:Oper) (L:List Nat):Bool:=o.after.toList.all fun e=>!bindsA e || memN e.on L
def pairOK (ops:Array Oper) (h:Hint) (c:Nat) (x y:Oper):Bool :=
  apartA ops x y && !isCap y && (!isLoad x || (!isStore y || Nat.beq c 3)) && (!Nat.beq c 2 || lightOp h y)
def lightOK (ops:Array Oper) (h:Hint) (L:List Nat) (i c:Nat) (o:Oper):Bool :=
  rdy ops L i && lightOp h o && (List.range ops.size).all fun j =>
    match memN j L with
    | true=>match ops[j]? with
      | some y=>shutIn y L
      | none=>true
    | false=>match Nat.beq j i with
      | true=>true
      | false=>match ops[j]? with
        | some y=>depOn y i || (pairOK ops h c o y || memN j (depS ops i (List.range ops.size) []))
        | none=>true
def dynOK (o:Oper) (c:Nat) (st:St):Bool :=
  (match o.op with
   | .load _ a=>match ev st a with
     | .val _=>Nat.beq c 2 || Nat.beq c 3
     | _=>true
   | _=>true) &&
  match o.dst with
  | none=>true
  | some d=>noLoc d st
/-- is it an append, or a conversion -/
def isApp (y:Oper):Bool :=
  match y.op with
  | .call c=>match c.callee with
    | .builtin .append=>true
    | _=>false
  | .convert _ _ _=>true
  | _=>false
/-- nothing that is left writes the operand -/
def stays (ops:Array Oper) (L:List Nat) (a:Operand):Bool :=
  match a with
  | .tmp t=>(List.range ops.size).all fun z=>match memN z L with
    | true=>true
    | false=>match ops[z]? with
      | some w=>!dstIn w.dst [t]
      | none=>true
  | _=>true
/-- where the stores that are left go -/
def storeVs (ops:Array Oper) (h:Hint) (L S:List Nat) (i:Nat) (st:St):List Nat→Option (List AV)
  | []=>some []
  | j::r=>match memN j L || (Nat.beq j i || memN j S) with
    | true=>storeVs ops h L S i st r
    | false=>match ops[j]? with
      | none=>storeVs ops h L S i st r
      | some y=>match lightOp h y || isApp y with
        | true=>storeVs ops h L S i st r
        | false=>match y.op with
          | .store _ a _=>match ev st a with
            | .val w=>match stays ops L a with
              | true=>match storeVs ops h L S i st r with
                | some ws=>some (w::ws)
                | none=>none
              | false=>none
            | .loc _ _=>match stays ops L a with
              | true=>storeVs ops h L S i st r
              | false=>none
            | _=>none
          | _=>none
def apartP (v w:AV):Prop :=
  match v,w with
  | .raw (.pointer (some ⟨b,_,none⟩)),.raw (.pointer (some ⟨b',_,none⟩))=>b' ≠ b
  | _,_=>False
def apL (v:AV):List AV→Prop→Prop
  | [],k=>k
  | w::r,k=>apartP v w∧apL v r k
/-- a load ahead of stores that go elsewhere -/
def far (ops:Array Oper) (h:Hint) (L:List Nat) (i:Nat) (o:Oper) (st:St) (k:Prop):Prop :=
  match o.op with
  | .load _ a=>match ev st a with
    | .val v=>match storeVs ops h L (depS ops i (List.range ops.size) []) i st (List.range ops.size) with
      | some ws=>apL v ws k
      | none=>False
    | _=>False
  | _=>False
def Wdraw (rid:Nat) (ops:Array Oper) (k:St→Heap→Prop):List (Nat × Nat)→List Nat→St→Heap→Prop
  | [],L,st,H=>match (List.range ops.size).all fun j=>!rdy ops L j with
    | true=>k st H
    | false=>False
  | (i,c)::r,L,st,H=>match ops[i]? with
    | none=>False
    | some o=>match (match c with | 0=>onlyRdy ops L i | _=>lightOK ops h L i c o && dynOK o c st) with
      | true=>match Nat.beq c 3 with
        | true=>far ops h L i o st (opG P C N h ops o (cutK h rid (L.length+1) (Wdraw rid ops k r (i::L))) st H)
        | false=>opG P C N h ops o (cutK h rid (L.length+1) (Wdraw rid ops k r (i::L))) st H
      | false=>False

def nodes:Code→Nat
  | .seq a b=>1+nodes a+nodes b
  | .cond _ a b=>1+nodes a+nodes b
  | .block _ c=>1+nodes c
  | .loop c=>1+nodes c
  | .scope c=>1+nodes c
  | .rangeFunc _ _ a b=>1+nodes a+nodes b
  | _=>1

def LoopW (F:(St→Heap→Prop)→St→Heap→Prop) (st:St) (H:Heap):Prop :=
  ∀ R:St→Heap→Prop,(∀ st H,F R st H→R st H)→R st H

/-- a round begins -/
def beginA (l:Nat) (H:Heap) (k:Heap→Prop):Prop :=
  match H.objs l with
  | some (.loop L .ready)=>k (H.setObj l (.loop L .busy))
  | _=>False
/-- a round ends -/
def endA (l:Nat) (H:Heap) (b:Bool) (s:LSt) (Q:Post):Prop :=
  match H.objs l with
  | some (.loop L _)=>Q (B b) (H.setObj l (.loop L s))
  | _=>False
/-- the function that was ranged over has ended -/
def overA (l:Nat) (H:Heap) (n:Heap→Prop) (x:Nat→Heap→Prop) (r:Heap→Prop):Prop :=
  match H.objs l with
  | some (.loop L .ready)=>n (H.setObj l (.loop L .over))
  | some (.loop L (.left (.exit id)))=>x id (H.setObj l (.loop L .over))
  | some (.loop L (.left .ret))=>r (H.setObj l (.loop L .over))
  | _=>False
/-- is the loop around one -/
def aroundA (ro:Option Nat) (H:Heap):Prop :=
  match ro with
  | none=>True
  | some l=>match H.objs l with
    | some (.loop _ _)=>True
    | _=>False
def putPs:List Nat→List AV→St→St
  | t::ts,a::as,st=>putPs ts as ((t,.val a)::st)
  | _,_,st=>st

def W (ro:Option Nat):Nat→Code→(St→Heap→Prop)→(Nat→St→Heap→Prop)→(St→Heap→Prop)→St→Heap→Prop
  | _,.skip,n,_,_,st,H=>n st H
  | _,.region id ops d,n,_,_,st,H=>match d with
    | false=>Wops P C N h id ops n 0 ops.toList st H
    | true=>match look h.ord id with
      | some l=>match Nat.ble l.length ops.size with
        | true=>Wdraw P C N h id ops n l [] st H
        | false=>False
      | none=>False
  | i,.seq a b,n,x,r,st,H=>W ro (i+1) a (joinK h (i+1+nodes a) (W ro (i+1+nodes a) b n x r)) x r st H
  | i,.cond c a b,n,x,r,st,H=>evV st c fun v=>cndA v (W ro (i+1) a n x r st H) (W ro (i+1+nodes a) b n x r st H)
  | i,.block id c,n,x,r,st,H=>W ro (i+1) c n (fun j st H=>match Nat.beq j id with | true=>n st H | false=>x j st H) r st H
  | i,.loop c,_,x,r,st,H=>LoopW (fun R=>W ro (i+1) c (fun st H=>R (clr h i st) H) x r) (clr h i st) H
  | i,.scope c,n,x,r,st,H=>W ro (i+1) c n x r st H
  | _,.label _,n,_,_,st,H=>n st H
  | i,.rangeFunc f ps asg body,n,x,r,st,H=>evV st f fun g=>match look h.keep i with
    | some l=>aroundA ro H∧∀ b,H.fresh b→callF C g [.fn (.yield b) [] []] (H.setObj b (.loop ⟨h,N,i,ps.toList,asg,body,snap l st⟩ .ready)) fun _ H=>overA b H (n st) (fun j=>x j st) (r st)
    | none=>False
  | _,.exit id,_,x,_,st,H=>x id st H
  | _,.ret,_,_,r,st,H=>r st H
  | _,_,_,_,_,_,_=>False
end code

section funcs
variable (P:Program)
def resVals (H:Heap) (st:St):List ResultVar→(List AV→Prop)→Prop
  | [],k=>k []
  | .tmp t::r,k=>evV st (.tmp t) fun v=>resVals H st r fun vs=>k (v::vs)
  | .cell a t::r,k=>match tyAgg P t with
    | some (agg,sz)=>match ev st (.tmp a) with
      | .loc b off=>match get st b with
        | .lbox cs=>ob (partA agg off sz cs) fun v=>resVals H st r fun vs=>k (v::vs)
        | _=>False
      | .val p=>ob (ldH H agg sz p) fun v=>resVals H st r fun vs=>k (v::vs)
      | _=>False
    | none=>False
def one1:List AV→AV
  | [v]=>v
  | vs=>.tup vs
def initSt:Nat→List AV→St
  | _,[]=>[]
  | i,a::r=>(i,.val a)::initSt (i+1) r
def fin (fn:Func) (Q:Post) (st:St) (H:Heap):Prop:=resVals P H st fn.results.toList fun vs=>Q (one1 vs) H
/-- a round of a loop over a function -/
def YieldA (C:CallRel) (L:LoopInfo) (l:Nat) (args:List AV) (H:Heap) (Q:Post):Prop :=
  match Nat.beq args.length L.params.length && L.params.all fun t=>Nat.blt t L.N with
  | true=>W P C L.N L.h (some l) (L.i+1) L.assign (fun st H=>beginA l H fun H=>W P C L.N L.h (some l) (L.i+1+nodes L.assign) L.body (fun _ H=>endA l H true .ready Q) (fun j _ H=>endA l H false (.left (.exit j)) Q)
      (fun _ H=>endA l H false (.left .ret) Q) st H) (fun _ _ _=>False) (fun _ _=>False) (putPs L.params args L.st) H
  | false=>False
abbrev Hints:=List (Nat × Hint)
def hintOf (hs:Hints) (f:Nat):Hint:=(look hs f).getD {}
def WF (hs:Hints) (C:CallRel):CallRel:=fun c args H Q =>
  match c with
  | .fn f=>match P.funcs[f]? with
    | some fn=>match fn.body with
      | some c=>match Nat.ble args.length fn.ntmps with
        | true=>W P C fn.ntmps (hintOf hs f) none 0 c (fin P fn Q) (fun _ _ _=>False) (fin P fn Q) (initSt 0 args) H
        | false=>False
      | none=>False
    | none=>False
  | .yield l=>match H.objs l with
    | some (.loop L _)=>YieldA P C L l args H Q
    | _=>False
def Ev (hs:Hints):CallRel:=fun c args H Q=>∀ R:CallRel,(∀ c args H Q,WF P hs R c args H Q→R c args H Q)→R c args H Q
end funcs
end Go.Hx

