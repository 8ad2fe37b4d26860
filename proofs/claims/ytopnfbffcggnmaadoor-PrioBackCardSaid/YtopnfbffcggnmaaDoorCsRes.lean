/- From a loaded program's code to resolved code. -/
import Derived.Test.YtopnfbffcggnmaaDoorCsBase
import GoSem.Core.Made
import GoSem.Core.View
import GoSem.Op.Equal
import GoSem.Core.Region
namespace Go.Cs

def cvOne : Value → Option CV
  | .int k n => some (.int k n)
  | .bool b => some (.bool b)
  | .string s => some (.str s.data.toList)
  | .pointer none => some .nilp
  | .slice none 0 0 => some .nils
  | .map none => some .nilm
  | .nilFunc => some .nilf
  | .nilIface => some .nili
  | _ => none

def cvAll : List Value → Option (List CV)
  | [] => some []
  | v :: vs => (cvOne v).bind fun c => (cvAll vs).bind fun cs => some (c :: cs)

def cvOf : Value → Option CV
  | .agg cs => (cvAll cs.toList).bind fun l => some (.agg l)
  | v => cvOne v

def isAggD : TypeDesc → Bool
  | .struct _ | .array _ _ => true
  | _ => false

/-- Is a type one of several cells, and of how many? -/
def tyOf (P : Program) (t : TypeId) : Option (Bool × Nat) :=
  match P.underlying t, P.info? t with
  | some d, some i => if isAggD d || i.size == 1 then some (isAggD d, i.size) else none
  | _, _ => none

def szOf (P : Program) (t : TypeId) : Option Nat := (P.info? t).map (·.size)

def zeroOf (P : Program) (t : TypeId) : Option (List CV) :=
  match P.info? t with
  | some i => match i.zero with
    | some z => if z.cells.size = i.size then cvAll z.cells.toList else none
    | none => none
  | none => none

variable (P : Program) (fid : FuncId → Option Nat)

def rx : Operand → Option RX
  | .tmp t => some (.t t)
  | .const v => (cvOf v).bind fun c => some (.c c)
  | .func f => (fid f).bind fun g => some (.c (.fn g [] []))
  | .global _ => none

def rxs : List Operand → Option (List RX)
  | [] => some []
  | x :: xs => (rx fid x).bind fun y => (rxs xs).bind fun ys => some (y :: ys)

def rxo : Option Operand → Option (Option RX)
  | none => some none
  | some x => (rx fid x).bind fun y => some (some y)

def goK (k : TypeId → Option (List Nat)) : List Field → Nat → Option (List Nat)
  | [], _ => some []
  | f :: fs, off => if f.name = "_" ∨ f.offset ≠ off then none else (k f.type).bind fun l =>
    if szOf P f.type = some l.length then (goK k fs (off + l.length)).bind fun m => some (l ++ m) else none

/-- The kinds of a type's cells, if '==' over it asks all of them, and they are integers, texts and bools. -/
def kindsOf : Nat → TypeId → Option (List Nat)
  | 0, _ => none
  | d + 1, t => match P.underlying t with
    | some (.int _) => some [0]
    | some .string => some [1]
    | some .bool => some [2]
    | some (.struct fs) => if P.stoodInHeld t then none else goK P (kindsOf d) fs.toList 0
    | some (.array n e) => (kindsOf d e).bind fun l => if szOf P e = some l.length then some (List.replicate n l).flatten else none
    | _ => none

def eqK (t : TypeId) : Option EqK :=
  match P.underlying t with
  | some .bool => some .bool
  | some (.pointer _) => some .ptr
  | some (.slice _) => some .slice
  | some (.map _ _) => some .map
  | some (.func _ _ _) => some .func
  | some (.interface _) => some .iface
  | some (.struct _) | some (.array _ _) =>
    if P.eqGuardType P.depth t then none else (kindsOf P 50 t).bind fun l => some (.agg l)
  | _ => none

def parts (place : Nat → Option (Nat × Nat)) : List (Nat × Operand) → Option (List (Nat × Nat × RX))
  | [] => some []
  | (i, x) :: r => (place i).bind fun p => (rx fid x).bind fun y => (parts place r).bind fun l => some ((p.1, p.2, y) :: l)

def fieldsAt (fs : Array Field) (i : Nat) : Option (Nat × Nat) := (fs[i]?).bind fun f => (szOf P f.type).bind fun n => some (f.offset, n)

def isU8 (t : TypeId) : Bool := match P.underlying t with
  | some (.int .u8) => true
  | _ => false

def isKeyT (t : TypeId) : Option Bool := match P.underlying t with
  | some (.int _) => some false
  | some .string => some true
  | _ => none

def resBuiltin (b : Builtin) (ts : Array TypeId) (xs : List Operand) : Option ROp :=
  match b, xs with
  | .len, [x] => (ts[0]?).bind fun t => (rx fid x).bind fun y => match P.underlying t with
    | some .string => some (.lenS y)
    | some (.slice _) => some (.len y)
    | some (.array n _) => some (.lenA n)
    | some (.pointer a) => match P.underlying a with
      | some (.array n _) => some (.lenA n)
      | _ => none
    | some (.map _ _) => some (.lenM y)
    | _ => none
  | .append, [x, y] => (ts[0]?).bind fun t => (ts[1]?).bind fun u => (rx fid x).bind fun x => (rx fid y).bind fun y =>
    match P.underlying t, P.underlying u with
    | some (.slice e), some d => (P.info? e).bind fun i => if i.size = 0 ∨ i.bytes > 1024 then none else
      (zeroOf P e).bind fun z => match d with
      | .slice _ => some (.app i.size x y)
      | .string => if i.size = 1 then some (.app 1 x y) else none
      | .int _ => some (.appZ i.size z x y)
      | _ => none
    | _, _ => none
  | .copy, [x, y] => (ts[0]?).bind fun t => (rx fid x).bind fun x => (rx fid y).bind fun y => match P.underlying t with
    | some (.slice e) => (szOf P e).bind fun n => if n = 0 then none else some (.copy n x y)
    | _ => none
  | .clear, [x] => (ts[0]?).bind fun t => (rx fid x).bind fun x => match P.underlying t with
    | some (.slice e) => (szOf P e).bind fun n => (zeroOf P e).bind fun z => if n = 0 then none else some (.clr n z x)
    | some (.map _ _) => some (.mclr x)
    | _ => none
  | .delete, [x, k] => (ts[0]?).bind fun t => (rx fid x).bind fun x => (rx fid k).bind fun k => match P.underlying t with
    | some (.map kt _) => (isKeyT P kt).bind fun ks => some (.mdel ks x k)
    | _ => none
  | .max, [x, y] => (rx fid x).bind fun x => (rx fid y).bind fun y => some (.max x y)
  | .min, [x, y] => (rx fid x).bind fun x => (rx fid y).bind fun y => some (.min x y)
  | _, _ => none

/-- An operation, resolved. 'own': is the row that it makes one that is written later? -/
def resOp (own : Bool) (o : Op) : Option ROp :=
  match o with
  | .move x | .assign x => (rx fid x).bind fun x => some (.mov x)
  | .pick c a b => (rx fid c).bind fun c => (rx fid a).bind fun a => (rx fid b).bind fun b => some (.pick c a b)
  | .alloc t => (zeroOf P t).bind fun z => some (.alloc z)
  | .box t x => (szOf P t).bind fun n => (rx fid x).bind fun x => some (.box n x)
  | .build t ps => (zeroOf P t).bind fun z => match P.underlying t with
    | some (.struct fs) => (parts fid (fieldsAt P fs) ps.toList).bind fun l => if fs.toList.all (fun f => (szOf P f.type).isSome) then some (.build z l) else none
    | some (.array _ e) => (szOf P e).bind fun n => (parts fid (fun i => some (i * n, n)) ps.toList).bind fun l => some (.build z l)
    | _ => none
  | .buildSlice t n ps => match P.underlying t with
    | some (.slice e) => (zeroOf P e).bind fun z => (szOf P e).bind fun s => (parts fid (fun i => some (i * s, s)) ps.toList).bind fun l =>
      if s = 0 ∨ n * s > 2 ^ 24 then none else some (.lit own s n z l)
    | _ => none
  | .load t x => (tyOf P t).bind fun a => (rx fid x).bind fun x => some (.load a.1 a.2 x)
  | .store t x v => (szOf P t).bind fun n => (rx fid x).bind fun x => (rx fid v).bind fun v => some (.store n x v)
  | .nilCheck x => (rx fid x).bind fun x => some (.nilc x)
  | .binOp op t x y _ => (rx fid x).bind fun a => (rx fid y).bind fun b =>
    match op, P.underlying t with
    | .eql, some (.int _) | .eql, some .string | .neq, some (.int _) | .neq, some .string => some (.bin op a b)
    | .eql, _ => (eqK P t).bind fun k => some (.eq false k a b)
    | .neq, _ => (eqK P t).bind fun k => some (.eq true k a b)
    | op, _ => some (.bin op a b)
  | .unOp op _ x => (rx fid x).bind fun x => match op with
    | .not => some (.not x)
    | .neg => some (.neg x)
    | .xor => some (.cpl x)
    | _ => none
  | .convert s d x => (rx fid x).bind fun x => match P.underlying s, P.underlying d with
    | some (.int _), some (.int k) => some (.conv k x)
    | some .string, some .string => some (.s2s x)
    | some .string, some (.slice e) => if isU8 P e then some (.s2b own x) else none
    | some (.slice e), some .string => if isU8 P e then some (.b2s x) else none
    | _, _ => none
  | .makeInterface t x => (rx fid x).bind fun x => match P.underlying t with
    | some (.interface _) => none
    | some _ => some (.ifc t x)
    | none => none
  | .makeFunc (.func f) a b => (fid f).bind fun g => (rxs fid a.toList).bind fun a => (rxs fid b.toList).bind fun b => some (.mkfn g a b)
  | .makeMap _ none => some .mkmap
  | .makeSlice t l c => match P.underlying t with
    | some (.slice e) => (P.info? e).bind fun i => (zeroOf P e).bind fun z => (rx fid l).bind fun l => (rx fid c).bind fun c =>
      if i.size = 0 ∨ i.bytes > 1024 then none else some (.mk i.size z l c)
    | _ => none
  | .slice t x lo hi mx => (rx fid x).bind fun x => (rxo fid lo).bind fun lo => (rxo fid hi).bind fun hi => (rxo fid mx).bind fun mx =>
    match P.underlying t with
    | some .string => if mx.isSome then none else some (.subS x lo hi)
    | some (.slice e) => (szOf P e).bind fun n => if n = 0 then none else some (.sub n x lo hi mx)
    | some (.array n e) => (szOf P e).bind fun s => if lo.isSome || hi.isSome || mx.isSome || s == 0 then none else some (.subA n s x)
    | _ => none
  | .fieldAddr t x i => match P.underlying t with
    | some (.struct fs) => (fs[i]?).bind fun f => (rx fid x).bind fun x => match szOf P f.type with
      | some (_ + 1) => some (.faddr f.offset x)
      | _ => none
    | _ => none
  | .field t x i => match P.underlying t with
    | some (.struct fs) => (fs[i]?).bind fun f => (rx fid x).bind fun x => (tyOf P f.type).bind fun a => some (.fld a.1 f.offset a.2 x)
    | _ => none
  | .indexAddr t x i => (rx fid x).bind fun x => (rx fid i).bind fun i => match P.underlying t with
    | some (.slice e) => (szOf P e).bind fun n => some (.iaddr n x i)
    | some (.array m e) => (szOf P e).bind fun n => some (.iaddrA m n x i)
    | _ => none
  | .index t x i => (rx fid x).bind fun x => (rx fid i).bind fun i => match P.underlying t with
    | some .string => some (.idxS x i)
    | some (.array m e) => (tyOf P e).bind fun a => some (.idx m a.1 a.2 x i)
    | _ => none
  | .lookup t x k ok => (rx fid x).bind fun x => (rx fid k).bind fun k => match P.underlying t with
    | some (.map kt e) => (isKeyT P kt).bind fun ks => ((P.info? e).bind (·.zero)).bind fun z => (cvOf z).bind fun z => some (.look ks z ok x k)
    | _ => none
  | .mapUpdate t m k v => (rx fid m).bind fun m => (rx fid k).bind fun k => (rx fid v).bind fun v => match P.underlying t with
    | some (.map kt _) => (isKeyT P kt).bind fun ks => some (.mupd ks m k v)
    | _ => none
  | .insert t m k v => (rx fid m).bind fun m => (rx fid k).bind fun k => (rx fid v).bind fun v => match P.underlying t with
    | some (.map kt _) => (isKeyT P kt).bind fun ks => some (.mupd ks m k v)
    | _ => none
  | .mapEntry t m k => (rx fid m).bind fun m => (rx fid k).bind fun k => match P.underlying t with
    | some (.map kt e) => (isKeyT P kt).bind fun ks => ((P.info? e).bind (·.zero)).bind fun z => (cvOf z).bind fun z => some (.ment ks z m k)
    | _ => none
  | .entryStore _ m s v => (rx fid m).bind fun m => (rx fid s).bind fun s => (rx fid v).bind fun v => some (.mset m s v)
  | .extract x i => (rx fid x).bind fun x => some (.ext i x)
  | .call { callee := .value (.func f), args, .. } => (fid f).bind fun g => (rxs fid args.toList).bind fun xs => some (.call g xs)
  | .call { callee := .value f, args, .. } => (rx fid f).bind fun f => (rxs fid args.toList).bind fun xs => some (.callv f xs)
  | .call { callee := .builtin b, args, argTypes } => resBuiltin P fid b argTypes args.toList
  | _ => none

def resGuard (ops : Array Oper) : Option (Nat × Bool) → Option (Option (Nat × Bool))
  | none => some none
  | some (j, want) => ((ops[j]?).bind (·.dst)).bind fun t => some (some (t, want))

def resAfter (draw : Bool) (o : Oper) : List Nat :=
  if draw then (o.after.toList.filter (Region.binds .any)).map (·.on) else []

def ownAt (own : List Nat) : Option Nat → Bool
  | some d => own.contains d
  | none => false

def dstOk (nt : Nat) : Option Nat → Bool
  | some d => decide (d < nt)
  | none => true

def resOps (own : List Nat) (nt : Nat) (ops : Array Oper) (draw : Bool) : List Oper → Option (List RO)
  | [] => some []
  | o :: r => (resOp P fid (ownAt own o.dst) o.op).bind fun op => (resGuard ops o.guard).bind fun g =>
    if dstOk nt o.dst then (resOps own nt ops draw r).bind fun l => some (⟨o.dst, op, g, resAfter draw o⟩ :: l) else none

def resCode (own : List Nat) (nt : Nat) : Code → Option RC
  | .skip => some .skip
  | .region _ ops draw => (resOps P fid own nt ops draw ops.toList).bind fun l => some (.region l draw none)
  | .seq a b => (resCode own nt a).bind fun a => (resCode own nt b).bind fun b => some (.seq a b)
  | .cond x a b => (rx fid x).bind fun x => (resCode own nt a).bind fun a => (resCode own nt b).bind fun b => some (.cond x a b)
  | .block id c => (resCode own nt c).bind fun c => some (.block id c)
  | .loop c => (resCode own nt c).bind fun c => some (.loop c)
  | .exit id => some (.exit id)
  | .ret => some .ret
  | .scope c => (resCode own nt c).bind fun c => some (.scope c)
  | .label l => some (.label l)
  | _ => none

def resRes : List ResultVar → Option (List RR)
  | [] => some []
  | .tmp t :: r => (resRes r).bind fun l => some (.t t :: l)
  | .cell a t :: r => (tyOf P t).bind fun q => (resRes r).bind fun l => some (.c a q.1 q.2 :: l)

def resF (own : List Nat) (f : Func) : Option RF :=
  f.body.bind fun c => (resCode P fid own f.ntmps c).bind fun b => (resRes P f.results.toList).bind fun rs =>
    if f.params.size + f.nfree ≤ f.ntmps then some ⟨f.params.size + f.nfree, f.ntmps, rs, b⟩ else none

/-- Resolved code without what it says of slots that are read later. -/
def RC.strip : RC → RC
  | .region ops draw _ => .region ops draw none
  | .seq a b => .seq a.strip b.strip
  | .cond x a b => .cond x a.strip b.strip
  | .block id c => .block id c.strip
  | .loop c => .loop c.strip
  | .scope c => .scope c.strip
  | .multi ops _ _ => .region ops true none
  | c => c

end Go.Cs
