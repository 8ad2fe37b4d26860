/- Parts: CsBase, CsRes, CsRel, CsSim, CsOpA, CsEq, CsOpB, CsOpC, CsApp. -/
import GoSem.Core.Value
import GoSem.Core.View
import GoSem.Op.String
import GoSem.Core.Made
import GoSem.Op.Equal
import GoSem.Core.Region
import Derived.Below
import Derived.Laws.Entries
import Derived.Laws.Strings
import Derived.Laws.Concat
import Derived.Laws.StructEq
import GoSem.Dispatch
import Derived.Laws.Cells
import Derived.ChangeKeysEq
import Derived.Laws.AppendOwn
import Derived.Deep.AppendSrc
import Derived.Lib.AppendZerosOnto
/- A small canonical machine for Go code: values, worlds, resolved operations, resolved code, and its weakest precondition. -/
namespace Go.Cs

/-- Canonical values. 'vec': a slice over a row that nobody writes any more; 'ref': a slice over a block of the canonical world. -/
inductive CV where
  | int (k : IntKind) (n : Int)
  | bool (b : Bool)
  | str (l : List UInt8)
  | nilp | nils | nilm | nilf | nili
  | agg (cs : List CV)
  | tup (vs : List CV)
  | ptr (b off : Nat)
  | row (cs : List CV) (off : Nat)
  | vec (cs : List CV) (n : Nat) (clip : Bool)
  | ref (b off n sz : Nat)
  | map (b : Nat)
  | fn (g : Nat) (first caps : List CV)
  | ifc (t : Nat) (v : CV)
  deriving Inhabited

def CV.cells : CV → List CV
  | .agg cs => cs
  | v => [v]

def CV.one : CV → Bool
  | .agg _ | .tup _ => false
  | _ => true

inductive CO where
  | cells (cs : List CV)
  | map (es : List (CV × CV × Nat)) (clock : Nat)

structure CW where
  get : Nat → Option CO
  next : Nat

def CW.push (cw : CW) (o : CO) : CW := ⟨fun b => if b = cw.next then some o else cw.get b, cw.next + 1⟩
def CW.set (cw : CW) (b : Nat) (o : CO) : CW := ⟨fun c => if c = b then some o else cw.get c, cw.next⟩
def CW.kill (cw : CW) (b : Nat) : CW := ⟨fun c => if c = b then none else cw.get c, cw.next⟩

inductive RX where
  | t (n : Nat)
  | c (v : CV)
  deriving Inhabited

/-- Of which kind '==' compares. -/
inductive EqK where
  | bool | ptr | slice | map | func | iface
  | agg (ks : List Nat)
  deriving Inhabited

inductive ROp where
  | mov (x : RX)
  | pick (c a b : RX)
  | bin (op : BinOp) (x y : RX)
  | eq (neg : Bool) (k : EqK) (x y : RX)
  | not (x : RX)
  | neg (x : RX)
  | cpl (x : RX)
  | conv (k : IntKind) (x : RX)
  | s2s (x : RX)
  | s2b (own : Bool) (x : RX)
  | b2s (x : RX)
  | i2s (x : RX)
  | len (x : RX)
  | lenS (x : RX)
  | lenA (n : Nat)
  | lenM (x : RX)
  | box (n : Nat) (x : RX)
  | alloc (zero : List CV)
  | load (agg : Bool) (n : Nat) (x : RX)
  | store (n : Nat) (x v : RX)
  | nilc (x : RX)
  | faddr (off : Nat) (x : RX)
  | fld (agg : Bool) (off n : Nat) (x : RX)
  | iaddr (sz : Nat) (x i : RX)
  | iaddrA (len sz : Nat) (x i : RX)
  | idx (len : Nat) (agg : Bool) (sz : Nat) (x i : RX)
  | idxS (x i : RX)
  | build (zero : List CV) (parts : List (Nat × Nat × RX))
  | lit (own : Bool) (sz n : Nat) (zero : List CV) (parts : List (Nat × Nat × RX))
  | mk (sz : Nat) (zero : List CV) (l c : RX)
  | subS (x : RX) (lo hi : Option RX)
  | sub (sz : Nat) (x : RX) (lo hi mx : Option RX)
  | subA (n sz : Nat) (x : RX)
  | app (sz : Nat) (x y : RX)
  | appZ (sz : Nat) (zero : List CV) (x n : RX)
  | copy (sz : Nat) (x y : RX)
  | clr (sz : Nat) (zero : List CV) (x : RX)
  | max (x y : RX)
  | min (x y : RX)
  | call (g : Nat) (xs : List RX)
  | callv (f : RX) (xs : List RX)
  | mkfn (g : Nat) (first caps : List RX)
  | ext (i : Nat) (x : RX)
  | ifc (t : Nat) (x : RX)
  | mkmap
  | look (ks : Bool) (zero : CV) (ok : Bool) (x k : RX)
  | mupd (ks : Bool) (m k v : RX)
  | ment (ks : Bool) (zero : CV) (m k : RX)
  | mset (m s v : RX)
  | mdel (ks : Bool) (m k : RX)
  | mclr (m : RX)
  deriving Inhabited

structure RO where
  dst : Option Nat
  op : ROp
  guard : Option (Nat × Bool) := none
  after : List Nat := []
  deriving Inhabited

inductive RC where
  | skip
  | region (ops : List RO) (draw : Bool) (live : Option (List Nat))
  | seq (a b : RC)
  | cond (x : RX) (a b : RC)
  | block (id : Nat) (c : RC)
  | loop (c : RC)
  | exit (id : Nat)
  | ret
  | scope (c : RC)
  | label (l : Nat)
  | multi (ops : List RO) (orders : List (List Nat)) (live : List Nat)
  deriving Inhabited

/-- Where a result lies: a slot, or the memory that a slot leads to. -/
inductive RR where
  | t (n : Nat)
  | c (n : Nat) (agg : Bool) (sz : Nat)
  deriving Inhabited

structure RF where
  np : Nat
  nt : Nat
  rs : List RR
  body : RC
  deriving Inhabited

/-! ## Environments -/
abbrev Env := List (Nat × CV)

def Env.get : Env → Nat → Option CV
  | [], _ => none
  | (i, v) :: r, t => if i = t then some v else Env.get r t

def Env.put (ρ : Env) (d : Option Nat) (v : CV) : Env :=
  match d with
  | some d => (d, v) :: ρ
  | none => ρ

def Env.keep (ρ : Env) : Option (List Nat) → Env
  | none => ρ
  | some l => l.filterMap fun t => (Env.get ρ t).map fun v => (t, v)

def ev (ρ : Env) : RX → Option CV
  | .t n => ρ.get n
  | .c v => some v

def evs (e : RX → Option CV) : List RX → Option (List CV)
  | [] => some []
  | x :: xs => (e x).bind fun v => (evs e xs).bind fun vs => some (v :: vs)

def evo (e : RX → Option CV) : Option RX → Option (Option CV)
  | none => some none
  | some x => (e x).bind fun v => some (some v)

/-! ## Operations on values -/
def lim : Nat := 2 ^ 36

def andI (k : IntKind) (a b : Int) : Int := k.wrap (BitVec.ofInt k.bits a &&& BitVec.ofInt k.bits b).toNat
def orI (k : IntKind) (a b : Int) : Int := k.wrap (BitVec.ofInt k.bits a ||| BitVec.ofInt k.bits b).toNat
def xorI (k : IntKind) (a b : Int) : Int := k.wrap (BitVec.ofInt k.bits a ^^^ BitVec.ofInt k.bits b).toNat
def clrI (k : IntKind) (a b : Int) : Int := k.wrap (BitVec.ofInt k.bits a &&& ~~~(BitVec.ofInt k.bits b)).toNat

def binI (op : BinOp) (k : IntKind) (a b : Int) : Option CV :=
  match op with
  | .add => some (.int k (k.wrap (a + b)))
  | .sub => some (.int k (k.wrap (a - b)))
  | .mul => some (.int k (k.wrap (a * b)))
  | .quo => if b = 0 then none else some (.int k (k.wrap (a.tdiv b)))
  | .rem => if b = 0 then none else some (.int k (a.tmod b))
  | .and => some (.int k (andI k a b))
  | .or => some (.int k (orI k a b))
  | .xor => some (.int k (xorI k a b))
  | .andNot => some (.int k (clrI k a b))
  | .eql => some (.bool (a == b))
  | .neq => some (.bool (a != b))
  | .lss => some (.bool (decide (a < b)))
  | .leq => some (.bool (decide (a ≤ b)))
  | .gtr => some (.bool (decide (a > b)))
  | .geq => some (.bool (decide (a ≥ b)))
  | _ => none

def binSh (op : BinOp) (k : IntKind) (a b : Int) : Option CV :=
  if b < 0 then none else
  match op with
  | .shl => some (.int k (k.wrap (a * 2 ^ (min b.toNat k.bits))))
  | .shr => some (.int k (a.fdiv (2 ^ (min b.toNat k.bits))))
  | _ => none

def binS (op : BinOp) (a b : List UInt8) : Option CV :=
  match op with
  | .add => if a.length + b.length ≤ 9223372036854775807 then some (.str (a ++ b)) else none
  | .eql => some (.bool (a == b))
  | .neq => some (.bool (!(a == b)))
  | .lss => some (.bool (Op.bytesLess a b))
  | .leq => some (.bool (Op.bytesLess a b || a == b))
  | .gtr => some (.bool (!(Op.bytesLess a b || a == b)))
  | .geq => some (.bool (!Op.bytesLess a b))
  | _ => none

def isSh : BinOp → Bool
  | .shl | .shr => true
  | _ => false

def binV (op : BinOp) : CV → CV → Option CV
  | .int k a, .int k' b => if isSh op then binSh op k a b else if k = k' then binI op k a b else none
  | .str a, .str b => binS op a b
  | _, _ => none

/-- Are two cells of a kind the same? 0: integers, 1: texts, 2: bools. -/
def eqCell : Nat → CV → CV → Option Bool
  | 0, .int k a, .int k' b => if k = k' then some (a == b) else none
  | 1, .str a, .str b => some (a == b)
  | 2, .bool a, .bool b => some (a == b)
  | _, _, _ => none

def eqCells : List Nat → List CV → List CV → Option Bool
  | [], [], [] => some true
  | k :: ks, a :: as, b :: bs => (eqCell k a b).bind fun x => (eqCells ks as bs).bind fun y => some (x && y)
  | _, _, _ => none

def eqV : EqK → CV → CV → Option Bool
  | .bool, .bool a, .bool b => some (a == b)
  | .ptr, .nilp, .nilp => some true
  | .ptr, .nilp, .ptr _ _ => some false
  | .ptr, .nilp, .row _ _ => some false
  | .ptr, .ptr _ _, .nilp => some false
  | .ptr, .row _ _, .nilp => some false
  | .slice, .nils, .nils => some true
  | .slice, .nils, .vec _ _ _ => some false
  | .slice, .nils, .ref _ _ _ _ => some false
  | .slice, .vec _ _ _, .nils => some false
  | .slice, .ref _ _ _ _, .nils => some false
  | .map, .nilm, .nilm => some true
  | .map, .nilm, .map _ => some false
  | .map, .map _, .nilm => some false
  | .func, .nilf, .nilf => some true
  | .func, .nilf, .fn _ _ _ => some false
  | .func, .fn _ _ _, .nilf => some false
  | .iface, .nili, .ifc _ _ => some false
  | .iface, .ifc _ _, .nili => some false
  | .agg ks, .agg a, .agg b => eqCells ks a b
  | _, _, _ => none

def byteCells (l : List UInt8) : List CV := l.map fun b => .int .u8 b.toNat

/-- The bytes of cells. -/
def bytesOf : List CV → Option (List UInt8)
  | [] => some []
  | .int .u8 n :: r => (bytesOf r).bind fun l => some (UInt8.ofNat n.toNat :: l)
  | _ => none

def ldc (agg : Bool) (n : Nat) (cs : List CV) (off : Nat) : Option CV :=
  if agg then (if off + n ≤ cs.length then some (.agg ((cs.drop off).take n)) else none) else cs[off]?

def splice (cs : List CV) (off : Nat) (vs : List CV) : List CV := cs.take off ++ vs ++ cs.drop (off + vs.length)

/-- Parts laid into zero cells: each has its place and its size. -/
def fillc (e : RX → Option CV) (cs : List CV) : List (Nat × Nat × RX) → Option (List CV)
  | [] => some cs
  | (off, n, x) :: r => (e x).bind fun v =>
    if v.cells.length = n ∧ off + n ≤ cs.length ∧ (v.cells.all CV.one) = true then fillc e (splice cs off v.cells) r else none

/-- The cells of a slice's first elements, and how many elements. -/
def seqOf (cw : CW) (sz : Nat) : CV → Option (List CV × Nat)
  | .nils => some ([], 0)
  | .vec cs n _ => if cs.length = n * sz then some (cs, n) else none
  | .ref b off n s => if s = sz then
      (match cw.get b with
      | some (.cells cs) => if off + n * sz ≤ cs.length then some ((cs.drop off).take (n * sz), n) else none
      | _ => none) else none
  | .str l => if sz = 1 then some (byteCells l, l.length) else none
  | _ => none

def repl (n : Nat) (z : List CV) : List CV := (List.replicate n z).flatten

def intV : CV → Option Int
  | .int _ n => some n
  | _ => none

/-- Bounds of a slice expression. -/
def loV : Option CV → Option Int
  | none => some 0
  | some v => intV v

def hiV (n : Int) : Option CV → Option Int
  | none => some n
  | some v => intV v

def hi3 : Option CV → Option Int
  | none => none
  | some v => intV v

/-- 'append': of what is there, and what is put behind. -/
def appV (cw : CW) (sz : Nat) (x : CV) (yc : List CV) (m : Nat) : Option (CV × CW) :=
  match x with
  | .nils => if m = 0 then some (.nils, cw) else
    if m ≤ lim then some (.ref cw.next 0 m sz, cw.push (.cells yc)) else none
  | .vec cs n clip => if m = 0 then some (x, cw) else
    if clip = true ∧ n + m ≤ lim ∧ cs.length = n * sz then some (.ref cw.next 0 (n + m) sz, cw.push (.cells (cs ++ yc))) else none
  | .ref b off n s => if m = 0 then some (x, cw) else if s ≠ sz then none else
    match cw.get b with
    | some (.cells cs) =>
      if off + (n + m) * sz ≤ cs.length then some (.ref b off (n + m) sz, cw.set b (.cells (splice cs (off + n * sz) yc)))
      else if off + n * sz = cs.length ∧ n + m ≤ lim then
        some (.ref cw.next 0 (n + m) sz, (cw.kill b).push (.cells (cs.drop off ++ yc)))
      else none
    | _ => none
  | _ => none

def keyEq : CV → CV → Bool
  | .int k a, .int k' b => k == k' && a == b
  | .str a, .str b => a == b
  | _, _ => false

def isKey (ks : Bool) : CV → Bool
  | .int _ _ => !ks
  | .str _ => ks
  | _ => false

def sameKind : CV → CV → Bool
  | .int k _, .int k' _ => k == k'
  | .str _, .str _ => true
  | _, _ => false

/-- The first entry of a key: where it stands, and what it holds. All keys are of the key's kind. -/
def findE (k : CV) : List (CV × CV × Nat) → Nat → Option (Option (Nat × CV × Nat))
  | [], _ => some none
  | (k', v, born) :: r, i => if sameKind k k' then (if keyEq k k' then some (some (i, v, born)) else findE k r (i + 1)) else none

/-- What an operation makes of the values and the world: nothing, if it may not be. -/
def stepOp (o : ROp) (e : RX → Option CV) (cw : CW) : Option (CV × CW) :=
  let pu (v : Option CV) : Option (CV × CW) := v.bind fun v => some (v, cw)
  match o with
  | .mov x => pu (e x)
  | .pick c a b => match e c with
    | some (.bool t) => pu (if t then e a else e b)
    | _ => none
  | .bin op x y => pu ((e x).bind fun a => (e y).bind fun b => binV op a b)
  | .eq neg k x y => pu ((e x).bind fun a => (e y).bind fun b => (eqV k a b).bind fun r => some (.bool (r != neg)))
  | .not x => match e x with
    | some (.bool b) => some (.bool (!b), cw)
    | _ => none
  | .neg x => match e x with
    | some (.int k n) => some (.int k (k.wrap (0 - n)), cw)
    | _ => none
  | .cpl x => match e x with
    | some (.int k n) => some (.int k (k.wrap (BitVec.ofInt k.bits (if k.signed then -1 else k.max) ^^^ BitVec.ofInt k.bits n).toNat), cw)
    | _ => none
  | .conv k x => match e x with
    | some (.int _ n) => some (.int k (k.wrap n), cw)
    | _ => none
  | .s2s x => match e x with
    | some (.str l) => some (.str l, cw)
    | _ => none
  | .s2b own x => match e x with
    | some (.str l) => if own then some (.ref cw.next 0 l.length 1, cw.push (.cells (byteCells l))) else some (.vec (byteCells l) l.length false, cw)
    | _ => none
  | .b2s x => (e x).bind fun v => match v with
    | .str _ => none
    | v => (seqOf cw 1 v).bind fun p => (bytesOf p.1).bind fun l => some (.str l, cw)
  | .lenS x => match e x with
    | some (.str l) => some (.int .i64 l.length, cw)
    | _ => none
  | .len x => match e x with
    | some .nils => some (.int .i64 0, cw)
    | some (.vec _ n _) => some (.int .i64 n, cw)
    | some (.ref _ _ n _) => some (.int .i64 n, cw)
    | _ => none
  | .lenA n => some (.int .i64 n, cw)
  | .lenM x => match e x with
    | some .nilm => some (.int .i64 0, cw)
    | some (.map b) => match cw.get b with
      | some (.map es _) => some (.int .i64 es.length, cw)
      | _ => none
    | _ => none
  | .box n x => (e x).bind fun v => if v.cells.length = n ∧ (v.cells.all CV.one) = true then some (.ptr cw.next 0, cw.push (.cells v.cells)) else none
  | .alloc zero => some (.ptr cw.next 0, cw.push (.cells zero))
  | .load agg n x => match e x with
    | some (.ptr b off) => match cw.get b with
      | some (.cells cs) => pu (ldc agg n cs off)
      | _ => none
    | some (.row cs off) => pu (ldc agg n cs off)
    | _ => none
  | .store n x v => match e x with
    | some (.ptr b off) => match cw.get b with
      | some (.cells cs) => (e v).bind fun u =>
        if u.cells.length = n ∧ off + n ≤ cs.length ∧ (u.cells.all CV.one) = true then some (.tup [], cw.set b (.cells (splice cs off u.cells))) else none
      | _ => none
    | _ => none
  | .nilc x => match e x with
    | some (.ptr b off) => some (.ptr b off, cw)
    | some (.row cs off) => some (.row cs off, cw)
    | _ => none
  | .faddr off x => match e x with
    | some (.ptr b o) => some (.ptr b (o + off), cw)
    | some (.row cs o) => some (.row cs (o + off), cw)
    | _ => none
  | .fld agg off n x => match e x with
    | some (.agg cs) => pu (ldc agg n cs off)
    | _ => none
  | .iaddr sz x i => (e i).bind fun iv => (intV iv).bind fun i => match e x with
    | some (.vec cs n _) => if 0 ≤ i ∧ i < n then some (.row cs (i.toNat * sz), cw) else none
    | some (.ref b off n s) => if 0 ≤ i ∧ i < n ∧ s = sz then some (.ptr b (off + i.toNat * sz), cw) else none
    | _ => none
  | .iaddrA len sz x i => (e i).bind fun iv => (intV iv).bind fun i => match e x with
    | some (.ptr b off) => if 0 ≤ i ∧ i < len then some (.ptr b (off + i.toNat * sz), cw) else none
    | some (.row cs off) => if 0 ≤ i ∧ i < len then some (.row cs (off + i.toNat * sz), cw) else none
    | _ => none
  | .idx len agg sz x i => (e i).bind fun iv => (intV iv).bind fun i => match e x with
    | some (.agg cs) => if 0 ≤ i ∧ i < len then pu (ldc agg sz cs (i.toNat * sz)) else none
    | _ => none
  | .idxS x i => (e i).bind fun iv => (intV iv).bind fun i => match e x with
    | some (.str l) => if 0 ≤ i then (l[i.toNat]?).bind fun b => some (.int .u8 b.toNat, cw) else none
    | _ => none
  | .build zero parts => (fillc e zero parts).bind fun cs => some (.agg cs, cw)
  | .lit own sz n zero parts => (fillc e (repl n zero) parts).bind fun cs =>
    if own then some (.ref cw.next 0 n sz, cw.push (.cells cs)) else some (.vec cs n true, cw)
  | .mk sz zero l c => (e l).bind fun lv => (intV lv).bind fun l => (e c).bind fun cv => (intV cv).bind fun c =>
    if 0 ≤ l ∧ l ≤ c ∧ c ≤ lim then some (.ref cw.next 0 l.toNat sz, cw.push (.cells (repl l.toNat zero))) else none
  | .subS x lo hi => match e x with
    | some (.str l) => (evo e lo).bind fun lo => (evo e hi).bind fun hi =>
      (hiV l.length hi).bind fun h =>
      (loV lo).bind fun o =>
      if 0 ≤ o ∧ o ≤ h ∧ h ≤ l.length then some (.str ((l.take h.toNat).drop o.toNat), cw) else none
    | _ => none
  | .sub sz x lo hi mx => (e x).bind fun x => (evo e lo).bind fun lo => (evo e hi).bind fun hi => (evo e mx).bind fun mx =>
    (loV lo).bind fun o =>
    match x, mx with
    | .nils, none => (hiV 0 hi).bind fun h => if o = 0 ∧ h = 0 then some (.nils, cw) else none
    | .nils, some m => (intV m).bind fun m => (hi3 hi).bind fun h => if o = 0 ∧ h = 0 ∧ m = 0 then some (.nils, cw) else none
    | .vec cs n clip, none => (hiV n hi).bind fun h =>
      if 0 ≤ o ∧ o ≤ h ∧ h ≤ n ∧ cs.length = n * sz then
        some (.vec ((cs.take (h.toNat * sz)).drop (o.toNat * sz)) (h.toNat - o.toNat) (clip && h == n), cw) else none
    | .vec cs n _, some m => (intV m).bind fun m => (hi3 hi).bind fun h =>
      if 0 ≤ o ∧ o ≤ h ∧ h ≤ m ∧ m ≤ n ∧ cs.length = n * sz then
        some (.vec ((cs.take (h.toNat * sz)).drop (o.toNat * sz)) (h.toNat - o.toNat) (h == m), cw) else none
    | .ref b off n s, none => (hiV n hi).bind fun h =>
      if s ≠ sz then none else
      match cw.get b with
      | some (.cells cs) => if 0 ≤ o ∧ o ≤ h ∧ off + h.toNat * sz ≤ cs.length then
          some (if o = h ∧ o ≠ 0 then .vec [] 0 false else .ref b (off + o.toNat * sz) (h.toNat - o.toNat) sz, cw) else none
      | _ => none
    | .ref b _ n _, some m => (intV m).bind fun m => (hi3 hi).bind fun h =>
      match cw.get b with
      | some _ => if 0 ≤ o ∧ o = h ∧ h = m ∧ m ≤ n then some (.vec [] 0 true, cw) else none
      | none => none
    | _, _ => none
  | .subA n sz x => match e x with
    | some (.ptr b 0) => match cw.get b with
      | some (.cells cs) => if cs.length = n * sz then some (.ref cw.next 0 n sz, (cw.kill b).push (.cells cs)) else none
      | _ => none
    | _ => none
  | .app sz x y => (e x).bind fun x => (e y).bind fun y => (seqOf cw sz y).bind fun p => appV cw sz x p.1 p.2
  | .appZ sz zero x n => (e x).bind fun x => (e n).bind fun nv => (intV nv).bind fun n => if 0 ≤ n ∧ n ≤ lim then appV cw sz x (repl n.toNat zero) n.toNat else none
  | .copy sz x y => (e x).bind fun x => (e y).bind fun y => (seqOf cw sz y).bind fun p => match x with
    | .nils => some (.int .i64 0, cw)
    | .vec _ n _ => if min p.2 n = 0 then some (.int .i64 0, cw) else none
    | .ref b off n s => if s ≠ sz then none else match cw.get b with
      | some (.cells cs) => if off + n * sz ≤ cs.length then
          some (.int .i64 (min p.2 n : Nat), cw.set b (.cells (splice cs off (p.1.take (min p.2 n * sz))))) else none
      | _ => none
    | _ => none
  | .clr sz zero x => (e x).bind fun x => match x with
    | .nils => some (.tup [], cw)
    | .vec _ n _ => if n = 0 then some (.tup [], cw) else none
    | .ref b off n s => if s ≠ sz then none else if n = 0 then some (.tup [], cw) else match cw.get b with
      | some (.cells cs) => if off + n * sz ≤ cs.length ∧ zero.length = sz then
          some (.tup [], cw.set b (.cells (splice cs off (repl n zero)))) else none
      | _ => none
    | _ => none
  | .max x y => pu ((e x).bind fun a => (e y).bind fun b => match a, b with
    | .int k a, .int _ b => some (.int k (if b > a then b else a))
    | _, _ => none)
  | .min x y => pu ((e x).bind fun a => (e y).bind fun b => match a, b with
    | .int k a, .int _ b => some (.int k (if b < a then b else a))
    | _, _ => none)
  | .mkfn g first caps => (evs e first).bind fun f => (evs e caps).bind fun c => some (.fn g f c, cw)
  | .ext i x => match e x with
    | some (.tup vs) => pu vs[i]?
    | _ => none
  | .ifc t x => (e x).bind fun v => some (.ifc t v, cw)
  | .mkmap => some (.map cw.next, cw.push (.map [] 0))
  | .look ks zero ok x k => (e x).bind fun x => (e k).bind fun k => if isKey ks k then
      (match x with
      | .nilm => some (none : Option (Nat × CV × Nat))
      | .map b => (match cw.get b with
        | some (.map es _) => findE k es 0
        | _ => none)
      | _ => none).bind fun r =>
      match r with
      | some (_, v, _) => some (if ok then .tup [v, .bool true] else v, cw)
      | none => some (if ok then .tup [zero, .bool false] else zero, cw) else none
  | .mupd ks m k v => (e m).bind fun m => (e k).bind fun k => (e v).bind fun v => if isKey ks k then
      (match m with
      | .map b => match cw.get b with
        | some (.map es clock) => (findE k es 0).bind fun r => match r with
          | some (i, _, _) => some (.tup [], cw.set b (.map (es.modify i fun e => (e.1, v, e.2.2)) clock))
          | none => some (.tup [], cw.set b (.map (es ++ [(k, v, clock)]) (clock + 1)))
        | _ => none
      | _ => none) else none
  | .ment ks zero m k => (e m).bind fun m => (e k).bind fun k => if isKey ks k then
      (match m with
      | .map b => match cw.get b with
        | some (.map es clock) => (findE k es 0).bind fun r => match r with
          | some (_, v, born) => some (.tup [v, .int .i64 born], cw.set b (.map es clock))
          | none => some (.tup [zero, .int .i64 clock], cw.set b (.map (es ++ [(k, zero, clock)]) (clock + 1)))
        | _ => none
      | _ => none) else none
  | .mset m s v => (e m).bind fun m => (e s).bind fun s => (e v).bind fun v => (intV s).bind fun s => match m with
      | .map b => match cw.get b with
        | some (.map es clock) => match es.findIdx? (fun e => (e.2.2 : Int) == s) with
          | some i => some (.tup [], cw.set b (.map (es.modify i fun e => (e.1, v, e.2.2)) clock))
          | none => none
        | _ => none
      | _ => none
  | .mdel ks m k => (e m).bind fun m => (e k).bind fun k => if isKey ks k then
      (match m with
      | .nilm => some (.tup [], cw)
      | .map b => match cw.get b with
        | some (.map es clock) => (findE k es 0).bind fun r => match r with
          | some (i, _, _) => some (.tup [], cw.set b (.map (es.eraseIdx i) clock))
          | none => some (.tup [], cw.set b (.map es clock))
        | _ => none
      | _ => none) else none
  | .mclr m => match e m with
    | some .nilm => some (.tup [], cw)
    | some (.map b) => match cw.get b with
      | some (.map _ clock) => some (.tup [], cw.set b (.map [] clock))
      | _ => none
    | _ => none
  | .i2s _ | .call _ _ | .callv _ _ => none

/-! ## The weakest precondition -/
abbrev Ct := List CV → CW → (CV → CW → Prop) → Prop

/-- Is an operation wanted? -/
def wantedR (g : Option (Nat × Bool)) (ρ : Env) : Option Bool :=
  match g with
  | none => some true
  | some (t, want) => match ρ.get t with
    | some (.bool b) => some (b == want)
    | some (.tup []) => some false
    | _ => none

def wpOp (K : Nat → Ct) (o : ROp) (ρ : Env) (cw : CW) (Q : CV → CW → Prop) : Prop :=
  match o with
  | .call g xs => ∃ vs, evs (ev ρ) xs = some vs ∧ K g vs cw Q
  | .callv f xs => ∃ g first caps vs, ev ρ f = some (.fn g first caps) ∧ evs (ev ρ) xs = some vs ∧ K g (first ++ vs ++ caps) cw Q
  | o => ∃ r, stepOp o (ev ρ) cw = some r ∧ Q r.1 r.2

def wpl (K : Nat → Ct) : List RO → Env → CW → (Env → CW → Prop) → Prop
  | [], ρ, cw, Q => Q ρ cw
  | o :: r, ρ, cw, Q => ∃ b, wantedR o.guard ρ = some b ∧
    (if b then wpOp K o.op ρ cw fun v cw' => wpl K r (ρ.put o.dst v) cw' Q else wpl K r (ρ.put o.dst (.tup [])) cw Q)

inductive RE where
  | nx
  | exit (id : Nat)
  | ret
  deriving Inhabited, DecidableEq

def seqQ (next : Env → CW → Prop) (Q : RE → Env → CW → Prop) : RE → Env → CW → Prop
  | .nx, ρ, cw => next ρ cw
  | e, ρ, cw => Q e ρ cw

def blkQ (id : Nat) (Q : RE → Env → CW → Prop) : RE → Env → CW → Prop
  | .exit i, ρ, cw => if i = id then Q .nx ρ cw else Q (.exit i) ρ cw
  | e, ρ, cw => Q e ρ cw

def loopN (body : Env → CW → (RE → Env → CW → Prop) → Prop) : Nat → Env → CW → (RE → Env → CW → Prop) → Prop
  | 0, _, _, _ => False
  | n + 1, ρ, cw, Q => body ρ cw (seqQ (fun ρ' cw' => loopN body n ρ' cw' Q) Q)

def wpc (K : Nat → Ct) : RC → Env → CW → (RE → Env → CW → Prop) → Prop
  | .skip, ρ, cw, Q => Q .nx ρ cw
  | .region ops _ live, ρ, cw, Q => wpl K ops ρ cw fun ρ' cw' => Q .nx (ρ'.keep live) cw'
  | .seq a b, ρ, cw, Q => wpc K a ρ cw (seqQ (fun ρ' cw' => wpc K b ρ' cw' Q) Q)
  | .cond x a b, ρ, cw, Q => ∃ c, ev ρ x = some (.bool c) ∧ (if c then wpc K a ρ cw Q else wpc K b ρ cw Q)
  | .block id c, ρ, cw, Q => wpc K c ρ cw (blkQ id Q)
  | .loop c, ρ, cw, Q => ∃ n, loopN (wpc K c) n ρ cw Q
  | .exit id, ρ, cw, Q => Q (.exit id) ρ cw
  | .ret, ρ, cw, Q => Q .ret ρ cw
  | .scope c, ρ, cw, Q => wpc K c ρ cw Q
  | .label _, ρ, cw, Q => Q .nx ρ cw
  | .multi ops orders live, ρ, cw, Q => ∀ o ∈ orders, wpl K (o.map fun i => (ops[i]?).getD default) ρ cw fun ρ' cw' => Q .nx (ρ'.keep (some live)) cw'

/-! ## Calls -/
/-- A value of a call, told without the blocks that the call made: slices over them become rows that nobody writes any more. -/
inductive Frz (base : Nat) (cw : CW) : CV → CV → Prop where
  | int (k : IntKind) (n : Int) : Frz base cw (.int k n) (.int k n)
  | bool (b : Bool) : Frz base cw (.bool b) (.bool b)
  | str (l : List UInt8) : Frz base cw (.str l) (.str l)
  | nilp : Frz base cw .nilp .nilp
  | nils : Frz base cw .nils .nils
  | nilm : Frz base cw .nilm .nilm
  | nilf : Frz base cw .nilf .nilf
  | nili : Frz base cw .nili .nili
  | agg {cs ds : List CV} : cs.length = ds.length → (∀ (i : Nat) (c d : CV), cs[i]? = some c → ds[i]? = some d → Frz base cw c d) → Frz base cw (.agg cs) (.agg ds)
  | tup {cs ds : List CV} : cs.length = ds.length → (∀ (i : Nat) (c d : CV), cs[i]? = some c → ds[i]? = some d → Frz base cw c d) → Frz base cw (.tup cs) (.tup ds)
  | ptr {b off : Nat} : b < base → Frz base cw (.ptr b off) (.ptr b off)
  | map {b : Nat} : b < base → Frz base cw (.map b) (.map b)
  | vec {cs ds : List CV} {n : Nat} {clip : Bool} : cs.length = ds.length → (∀ (i : Nat) (c d : CV), cs[i]? = some c → ds[i]? = some d → Frz base cw c d) → Frz base cw (.vec cs n clip) (.vec ds n clip)
  | keep {b off n sz : Nat} : b < base → Frz base cw (.ref b off n sz) (.ref b off n sz)
  | ref {b off n sz : Nat} {cs ds : List CV} : base ≤ b → cw.get b = some (.cells cs) → off + n * sz ≤ cs.length → ds.length = n * sz →
      (∀ (i : Nat) (c d : CV), i < n * sz → cs[off + i]? = some c → ds[i]? = some d → Frz base cw c d) → Frz base cw (.ref b off n sz) (.vec ds n false)
  | fn {g : Nat} {f1 c1 f2 c2 : List CV} : f1.length = f2.length → c1.length = c2.length → (∀ (i : Nat) (c d : CV), f1[i]? = some c → f2[i]? = some d → Frz base cw c d) →
      (∀ (i : Nat) (c d : CV), c1[i]? = some c → c2[i]? = some d → Frz base cw c d) → Frz base cw (.fn g f1 c1) (.fn g f2 c2)
  | ifc {t : Nat} {v u : CV} : Frz base cw v u → Frz base cw (.ifc t v) (.ifc t u)

def resOne (cw : CW) (ρ : Env) : RR → Option CV
  | .t n => ρ.get n
  | .c n agg sz => match ρ.get n with
    | some (.ptr b off) => match cw.get b with
      | some (.cells cs) => ldc agg sz cs off
      | _ => none
    | _ => none

def resAll (cw : CW) (ρ : Env) : List RR → Option (List CV)
  | [] => some []
  | r :: rs => (resOne cw ρ r).bind fun v => (resAll cw ρ rs).bind fun vs => some (v :: vs)

def resV (cw : CW) (ρ : Env) (rs : List RR) : Option CV :=
  (resAll cw ρ rs).bind fun vs => match vs with
    | [v] => some v
    | vs => some (.tup vs)

def numb : Nat → List CV → Env
  | _, [] => []
  | i, v :: vs => (i, v) :: numb (i + 1) vs

/-- How a call leaves the world: as it is (what it made stays), or as it was (what it made is told by value). -/
inductive Leave (cw0 : CW) (v : CV) (cw : CW) : CV → CW → Prop where
  | stay : Leave cw0 v cw v cw
  | gone {u : CV} : Frz cw0.next cw v u → (∀ b, b < cw0.next → cw.get b = cw0.get b) → Leave cw0 v cw u cw0

def wpF (K : Nat → Ct) (f : RF) (args : List CV) (cw : CW) (Q : CV → CW → Prop) : Prop :=
  args.length = f.np ∧
  wpc K f.body (numb 0 args) cw fun e ρ' cw' => (e = .nx ∨ e = .ret) ∧ ∃ v u cw'', resV cw' ρ' f.rs = some v ∧ Leave cw v cw' u cw'' ∧ Q u cw''

end Go.Cs

/- From a loaded program's code to resolved code. -/
namespace Go.Cs

def cvOne : Value → Option CV
  | .int k n => some (.int k n)
  | .bool b => some (.bool b)
  | .string s => some (.str s.data.toList)
  | .pointer none => some .nilp
  | .slice none 0 0 => some .nils
  | .map none => some .nilm
  | .nilFunc => some .nilf
  | .nilIface => some .nili
  | _ => none

def cvAll : List Value → Option (List CV)
  | [] => some []
  | v :: vs => (cvOne v).bind fun c => (cvAll vs).bind fun cs => some (c :: cs)

def cvOf : Value → Option CV
  | .agg cs => (cvAll cs.toList).bind fun l => some (.agg l)
  | v => cvOne v

def isAggD : TypeDesc → Bool
  | .struct _ | .array _ _ => true
  | _ => false

/-- Is a type one of several cells, and of how many? -/
def tyOf (P : Program) (t : TypeId) : Option (Bool × Nat) :=
  match P.underlying t, P.info? t with
  | some d, some i => if isAggD d || i.size == 1 then some (isAggD d, i.size) else none
  | _, _ => none

def szOf (P : Program) (t : TypeId) : Option Nat := (P.info? t).map (·.size)

def zeroOf (P : Program) (t : TypeId) : Option (List CV) :=
  match P.info? t with
  | some i => match i.zero with
    | some z => if z.cells.size = i.size then cvAll z.cells.toList else none
    | none => none
  | none => none

variable (P : Program) (fid : FuncId → Option Nat)

def rx : Operand → Option RX
  | .tmp t => some (.t t)
  | .const v => (cvOf v).bind fun c => some (.c c)
  | .func f => (fid f).bind fun g => some (.c (.fn g [] []))
  | .global _ => none

def rxs : List Operand → Option (List RX)
  | [] => some []
  | x :: xs => (rx fid x).bind fun y => (rxs xs).bind fun ys => some (y :: ys)

def rxo : Option Operand → Option (Option RX)
  | none => some none
  | some x => (rx fid x).bind fun y => some (some y)

def goK (k : TypeId → Option (List Nat)) : List Field → Nat → Option (List Nat)
  | [], _ => some []
  | f :: fs, off => if f.name = "_" ∨ f.offset ≠ off then none else (k f.type).bind fun l =>
    if szOf P f.type = some l.length then (goK k fs (off + l.length)).bind fun m => some (l ++ m) else none

/-- The kinds of a type's cells, if '==' over it asks all of them, and they are integers, texts and bools. -/
def kindsOf : Nat → TypeId → Option (List Nat)
  | 0, _ => none
  | d + 1, t => match P.underlying t with
    | some (.int _) => some [0]
    | some .string => some [1]
    | some .bool => some [2]
    | some (.struct fs) => if P.stoodInHeld t then none else goK P (kindsOf d) fs.toList 0
    | some (.array n e) => (kindsOf d e).bind fun l => if szOf P e = some l.length then some (List.replicate n l).flatten else none
    | _ => none

def eqK (t : TypeId) : Option EqK :=
  match P.underlying t with
  | some .bool => some .bool
  | some (.pointer _) => some .ptr
  | some (.slice _) => some .slice
  | some (.map _ _) => some .map
  | some (.func _ _ _) => some .func
  | some (.interface _) => some .iface
  | some (.struct _) | some (.array _ _) =>
    if P.eqGuardType P.depth t then none else (kindsOf P 50 t).bind fun l => some (.agg l)
  | _ => none

def parts (place : Nat → Option (Nat × Nat)) : List (Nat × Operand) → Option (List (Nat × Nat × RX))
  | [] => some []
  | (i, x) :: r => (place i).bind fun p => (rx fid x).bind fun y => (parts place r).bind fun l => some ((p.1, p.2, y) :: l)

def fieldsAt (fs : Array Field) (i : Nat) : Option (Nat × Nat) := (fs[i]?).bind fun f => (szOf P f.type).bind fun n => some (f.offset, n)

def isU8 (t : TypeId) : Bool := match P.underlying t with
  | some (.int .u8) => true
  | _ => false

def isKeyT (t : TypeId) : Option Bool := match P.underlying t with
  | some (.int _) => some false
  | some .string => some true
  | _ => none

def resBuiltin (b : Builtin) (ts : Array TypeId) (xs : List Operand) : Option ROp :=
  match b, xs with
  | .len, [x] => (ts[0]?).bind fun t => (rx fid x).bind fun y => match P.underlying t with
    | some .string => some (.lenS y)
    | some (.slice _) => some (.len y)
    | some (.array n _) => some (.lenA n)
    | some (.pointer a) => match P.underlying a with
      | some (.array n _) => some (.lenA n)
      | _ => none
    | some (.map _ _) => some (.lenM y)
    | _ => none
  | .append, [x, y] => (ts[0]?).bind fun t => (ts[1]?).bind fun u => (rx fid x).bind fun x => (rx fid y).bind fun y =>
    match P.underlying t, P.underlying u with
    | some (.slice e), some d => (P.info? e).bind fun i => if i.size = 0 ∨ i.bytes > 1024 then none else
      (zeroOf P e).bind fun z => match d with
      | .slice _ => some (.app i.size x y)
      | .string => if i.size = 1 then some (.app 1 x y) else none
      | .int _ => some (.appZ i.size z x y)
      | _ => none
    | _, _ => none
  | .copy, [x, y] => (ts[0]?).bind fun t => (rx fid x).bind fun x => (rx fid y).bind fun y => match P.underlying t with
    | some (.slice e) => (szOf P e).bind fun n => if n = 0 then none else some (.copy n x y)
    | _ => none
  | .clear, [x] => (ts[0]?).bind fun t => (rx fid x).bind fun x => match P.underlying t with
    | some (.slice e) => (szOf P e).bind fun n => (zeroOf P e).bind fun z => if n = 0 then none else some (.clr n z x)
    | some (.map _ _) => some (.mclr x)
    | _ => none
  | .delete, [x, k] => (ts[0]?).bind fun t => (rx fid x).bind fun x => (rx fid k).bind fun k => match P.underlying t with
    | some (.map kt _) => (isKeyT P kt).bind fun ks => some (.mdel ks x k)
    | _ => none
  | .max, [x, y] => (rx fid x).bind fun x => (rx fid y).bind fun y => some (.max x y)
  | .min, [x, y] => (rx fid x).bind fun x => (rx fid y).bind fun y => some (.min x y)
  | _, _ => none

/-- An operation, resolved. 'own': is the row that it makes one that is written later? -/
def resOp (own : Bool) (o : Op) : Option ROp :=
  match o with
  | .move x | .assign x => (rx fid x).bind fun x => some (.mov x)
  | .pick c a b => (rx fid c).bind fun c => (rx fid a).bind fun a => (rx fid b).bind fun b => some (.pick c a b)
  | .alloc t => (zeroOf P t).bind fun z => some (.alloc z)
  | .box t x => (szOf P t).bind fun n => (rx fid x).bind fun x => some (.box n x)
  | .build t ps => (zeroOf P t).bind fun z => match P.underlying t with
    | some (.struct fs) => (parts fid (fieldsAt P fs) ps.toList).bind fun l => if fs.toList.all (fun f => (szOf P f.type).isSome) then some (.build z l) else none
    | some (.array _ e) => (szOf P e).bind fun n => (parts fid (fun i => some (i * n, n)) ps.toList).bind fun l => some (.build z l)
    | _ => none
  | .buildSlice t n ps => match P.underlying t with
    | some (.slice e) => (zeroOf P e).bind fun z => (szOf P e).bind fun s => (parts fid (fun i => some (i * s, s)) ps.toList).bind fun l =>
      if s = 0 ∨ n * s > 2 ^ 24 then none else some (.lit own s n z l)
    | _ => none
  | .load t x => (tyOf P t).bind fun a => (rx fid x).bind fun x => some (.load a.1 a.2 x)
  | .store t x v => (szOf P t).bind fun n => (rx fid x).bind fun x => (rx fid v).bind fun v => some (.store n x v)
  | .nilCheck x => (rx fid x).bind fun x => some (.nilc x)
  | .binOp op t x y _ => (rx fid x).bind fun a => (rx fid y).bind fun b =>
    match op, P.underlying t with
    | .eql, some (.int _) | .eql, some .string | .neq, some (.int _) | .neq, some .string => some (.bin op a b)
    | .eql, _ => (eqK P t).bind fun k => some (.eq false k a b)
    | .neq, _ => (eqK P t).bind fun k => some (.eq true k a b)
    | op, _ => some (.bin op a b)
  | .unOp op _ x => (rx fid x).bind fun x => match op with
    | .not => some (.not x)
    | .neg => some (.neg x)
    | .xor => some (.cpl x)
    | _ => none
  | .convert s d x => (rx fid x).bind fun x => match P.underlying s, P.underlying d with
    | some (.int _), some (.int k) => some (.conv k x)
    | some .string, some .string => some (.s2s x)
    | some .string, some (.slice e) => if isU8 P e then some (.s2b own x) else none
    | some (.slice e), some .string => if isU8 P e then some (.b2s x) else none
    | _, _ => none
  | .makeInterface t x => (rx fid x).bind fun x => match P.underlying t with
    | some (.interface _) => none
    | some _ => some (.ifc t x)
    | none => none
  | .makeFunc (.func f) a b => (fid f).bind fun g => (rxs fid a.toList).bind fun a => (rxs fid b.toList).bind fun b => some (.mkfn g a b)
  | .makeMap _ none => some .mkmap
  | .makeSlice t l c => match P.underlying t with
    | some (.slice e) => (P.info? e).bind fun i => (zeroOf P e).bind fun z => (rx fid l).bind fun l => (rx fid c).bind fun c =>
      if i.size = 0 ∨ i.bytes > 1024 then none else some (.mk i.size z l c)
    | _ => none
  | .slice t x lo hi mx => (rx fid x).bind fun x => (rxo fid lo).bind fun lo => (rxo fid hi).bind fun hi => (rxo fid mx).bind fun mx =>
    match P.underlying t with
    | some .string => if mx.isSome then none else some (.subS x lo hi)
    | some (.slice e) => (szOf P e).bind fun n => if n = 0 then none else some (.sub n x lo hi mx)
    | some (.array n e) => (szOf P e).bind fun s => if lo.isSome || hi.isSome || mx.isSome || s == 0 then none else some (.subA n s x)
    | _ => none
  | .fieldAddr t x i => match P.underlying t with
    | some (.struct fs) => (fs[i]?).bind fun f => (rx fid x).bind fun x => match szOf P f.type with
      | some (_ + 1) => some (.faddr f.offset x)
      | _ => none
    | _ => none
  | .field t x i => match P.underlying t with
    | some (.struct fs) => (fs[i]?).bind fun f => (rx fid x).bind fun x => (tyOf P f.type).bind fun a => some (.fld a.1 f.offset a.2 x)
    | _ => none
  | .indexAddr t x i => (rx fid x).bind fun x => (rx fid i).bind fun i => match P.underlying t with
    | some (.slice e) => (szOf P e).bind fun n => some (.iaddr n x i)
    | some (.array m e) => (szOf P e).bind fun n => some (.iaddrA m n x i)
    | _ => none
  | .index t x i => (rx fid x).bind fun x => (rx fid i).bind fun i => match P.underlying t with
    | some .string => some (.idxS x i)
    | some (.array m e) => (tyOf P e).bind fun a => some (.idx m a.1 a.2 x i)
    | _ => none
  | .lookup t x k ok => (rx fid x).bind fun x => (rx fid k).bind fun k => match P.underlying t with
    | some (.map kt e) => (isKeyT P kt).bind fun ks => ((P.info? e).bind (·.zero)).bind fun z => (cvOf z).bind fun z => some (.look ks z ok x k)
    | _ => none
  | .mapUpdate t m k v => (rx fid m).bind fun m => (rx fid k).bind fun k => (rx fid v).bind fun v => match P.underlying t with
    | some (.map kt _) => (isKeyT P kt).bind fun ks => some (.mupd ks m k v)
    | _ => none
  | .insert t m k v => (rx fid m).bind fun m => (rx fid k).bind fun k => (rx fid v).bind fun v => match P.underlying t with
    | some (.map kt _) => (isKeyT P kt).bind fun ks => some (.mupd ks m k v)
    | _ => none
  | .mapEntry t m k => (rx fid m).bind fun m => (rx fid k).bind fun k => match P.underlying t with
    | some (.map kt e) => (isKeyT P kt).bind fun ks => ((P.info? e).bind (·.zero)).bind fun z => (cvOf z).bind fun z => some (.ment ks z m k)
    | _ => none
  | .entryStore _ m s v => (rx fid m).bind fun m => (rx fid s).bind fun s => (rx fid v).bind fun v => some (.mset m s v)
  | .extract x i => (rx fid x).bind fun x => some (.ext i x)
  | .call { callee := .value (.func f), args, .. } => (fid f).bind fun g => (rxs fid args.toList).bind fun xs => some (.call g xs)
  | .call { callee := .value f, args, .. } => (rx fid f).bind fun f => (rxs fid args.toList).bind fun xs => some (.callv f xs)
  | .call { callee := .builtin b, args, argTypes } => resBuiltin P fid b argTypes args.toList
  | _ => none

def resGuard (ops : Array Oper) : Option (Nat × Bool) → Option (Option (Nat × Bool))
  | none => some none
  | some (j, want) => ((ops[j]?).bind (·.dst)).bind fun t => some (some (t, want))

def resAfter (draw : Bool) (o : Oper) : List Nat :=
  if draw then (o.after.toList.filter (Region.binds .any)).map (·.on) else []

def ownAt (own : List Nat) : Option Nat → Bool
  | some d => own.contains d
  | none => false

def dstOk (nt : Nat) : Option Nat → Bool
  | some d => decide (d < nt)
  | none => true

def resOps (own : List Nat) (nt : Nat) (ops : Array Oper) (draw : Bool) : List Oper → Option (List RO)
  | [] => some []
  | o :: r => (resOp P fid (ownAt own o.dst) o.op).bind fun op => (resGuard ops o.guard).bind fun g =>
    if dstOk nt o.dst then (resOps own nt ops draw r).bind fun l => some (⟨o.dst, op, g, resAfter draw o⟩ :: l) else none

def resCode (own : List Nat) (nt : Nat) : Code → Option RC
  | .skip => some .skip
  | .region _ ops draw => (resOps P fid own nt ops draw ops.toList).bind fun l => some (.region l draw none)
  | .seq a b => (resCode own nt a).bind fun a => (resCode own nt b).bind fun b => some (.seq a b)
  | .cond x a b => (rx fid x).bind fun x => (resCode own nt a).bind fun a => (resCode own nt b).bind fun b => some (.cond x a b)
  | .block id c => (resCode own nt c).bind fun c => some (.block id c)
  | .loop c => (resCode own nt c).bind fun c => some (.loop c)
  | .exit id => some (.exit id)
  | .ret => some .ret
  | .scope c => (resCode own nt c).bind fun c => some (.scope c)
  | .label l => some (.label l)
  | _ => none

def resRes : List ResultVar → Option (List RR)
  | [] => some []
  | .tmp t :: r => (resRes r).bind fun l => some (.t t :: l)
  | .cell a t :: r => (tyOf P t).bind fun q => (resRes r).bind fun l => some (.c a q.1 q.2 :: l)

def resF (own : List Nat) (f : Func) : Option RF :=
  f.body.bind fun c => (resCode P fid own f.ntmps c).bind fun b => (resRes P f.results.toList).bind fun rs =>
    if f.params.size + f.nfree ≤ f.ntmps then some ⟨f.params.size + f.nfree, f.ntmps, rs, b⟩ else none

/-- Resolved code without what it says of slots that are read later. -/
def RC.strip : RC → RC
  | .region ops draw _ => .region ops draw none
  | .seq a b => .seq a.strip b.strip
  | .cond x a b => .cond x a.strip b.strip
  | .block id c => .block id c.strip
  | .loop c => .loop c.strip
  | .scope c => .scope c.strip
  | .multi ops _ _ => .region ops true none
  | c => c

end Go.Cs

/- How the canonical machine's values and worlds stand to Go's. -/
namespace Go.Cs
open Go.RowKit (Below)

/-- M: where a canonical block lies (block, place, how many cells from there may be used); I: cells that nobody writes any more; nx: the canonical blocks' count. -/
structure Cx where
  M : Nat → Option (Nat × Nat × Nat)
  I : Nat → Nat → Prop
  nx : Nat

def cellD (w : World) (r o : Nat) : Value := (w.cell? ⟨r, o, none⟩).getD undef

section
variable (fid : FuncId → Option Nat)

inductive VR (X : Cx) (w : World) : CV → Value → Prop where
  | int (k : IntKind) (n : Int) : VR X w (.int k n) (.int k n)
  | bool (b : Bool) : VR X w (.bool b) (.bool b)
  | str (s : ByteArray) : VR X w (.str s.data.toList) (.string s)
  | nilp : VR X w .nilp (.pointer none)
  | nils : VR X w .nils (.slice none 0 0)
  | nilm : VR X w .nilm (.map none)
  | nilf : VR X w .nilf .nilFunc
  | nili : VR X w .nili .nilIface
  | agg {cs : List CV} {rcs : Array Value} : rcs.size = cs.length → (∀ (i : Nat) (c : CV), cs[i]? = some c → c.one = true) →
      (∀ (i : Nat) (c : CV), cs[i]? = some c → VR X w c (rcs.getD i undef)) → VR X w (.agg cs) (.agg rcs)
  | tup {cs : List CV} {rcs : Array Value} : rcs.size = cs.length →
      (∀ (i : Nat) (c : CV), cs[i]? = some c → VR X w c (rcs.getD i undef)) → VR X w (.tup cs) (.tuple rcs)
  | ptr {b off : Nat} {a : Addr} : b < X.nx → (∀ m, X.M b = some m → a = ⟨m.1, m.2.1 + off, none⟩) → VR X w (.ptr b off) (.pointer (some a))
  | row {cs : List CV} {off r o : Nat} : (∀ (i : Nat) (c : CV), cs[i]? = some c → c.one = true ∧ X.I r (o + i) ∧ (w.cell? ⟨r, o + i, none⟩).isSome) →
      (∀ (i : Nat) (c : CV), cs[i]? = some c → VR X w c (cellD w r (o + i))) → VR X w (.row cs off) (.pointer (some ⟨r, o + off, none⟩))
  | vec {cs : List CV} {n cap r o : Nat} {clip : Bool} : n ≤ cap → (clip = true → cap = n) →
      (∀ (i : Nat) (c : CV), cs[i]? = some c → c.one = true ∧ X.I r (o + i) ∧ (w.cell? ⟨r, o + i, none⟩).isSome) →
      (∀ (i : Nat) (c : CV), cs[i]? = some c → VR X w c (cellD w r (o + i))) → VR X w (.vec cs n clip) (.slice (some ⟨r, o, none⟩) n cap)
  | ref {b off n sz cap : Nat} {a : Addr} : b < X.nx → n ≤ cap →
      (∀ m, X.M b = some m → a = ⟨m.1, m.2.1 + off, none⟩ ∧ off + cap * sz = m.2.2) → VR X w (.ref b off n sz) (.slice (some a) n cap)
  | map {b r : Nat} : b < X.nx → (∀ m, X.M b = some m → r = m.1) → VR X w (.map b) (.map (some r))
  | fn {f g : Nat} {f1 c1 : List CV} {f2 c2 : Array Value} : fid f = some g → f2.size = f1.length → c2.size = c1.length →
      (∀ (i : Nat) (c : CV), f1[i]? = some c → VR X w c (f2.getD i undef)) →
      (∀ (i : Nat) (c : CV), c1[i]? = some c → VR X w c (c2.getD i undef)) → VR X w (.fn g f1 c1) (.func (.func f) f2 c2)
  | ifc {t : Nat} {v : CV} {u : Value} : VR X w v u → VR X w (.ifc t v) (.iface t u)

structure Ext (X : Cx) (w : World) (X' : Cx) (w' : World) : Prop where
  nx : X.nx ≤ X'.nx
  m : ∀ b m, b < X.nx → X'.M b = some m → X.M b = some m
  i : ∀ r o, X.I r o → X'.I r o
  c : ∀ r o, X.I r o → w'.cell? ⟨r, o, none⟩ = w.cell? ⟨r, o, none⟩

theorem Ext.refl (X : Cx) (w : World) : Ext X w X w := ⟨Nat.le_refl _, fun _ _ _ h => h, fun _ _ h => h, fun _ _ _ => rfl⟩

theorem Ext.trans {X X' X'' : Cx} {w w' w'' : World} (h : Ext X w X' w') (k : Ext X' w' X'' w'') : Ext X w X'' w'' :=
  ⟨Nat.le_trans h.nx k.nx, fun b m hb hm => h.m b m hb (k.m b m (Nat.lt_of_lt_of_le hb h.nx) hm), fun r o hi => k.i r o (h.i r o hi),
   fun r o hi => (k.c r o (h.i r o hi)).trans (h.c r o hi)⟩

variable {fid}

theorem VR.mono {X X' : Cx} {w w' : World} {c : CV} {v : Value} (h : VR fid X w c v) (e : Ext X w X' w') : VR fid X' w' c v := by
  induction h with
  | int k n => exact .int k n
  | bool b => exact .bool b
  | str s => exact .str s
  | nilp => exact .nilp
  | nils => exact .nils
  | nilm => exact .nilm
  | nilf => exact .nilf
  | nili => exact .nili
  | agg hl h1 _ ih => exact .agg hl h1 fun i c hc => ih i c hc
  | tup hl _ ih => exact .tup hl fun i c hc => ih i c hc
  | ptr hb hm => exact .ptr (Nat.lt_of_lt_of_le hb e.nx) fun m h => hm m (e.m _ m hb h)
  | row h1 _ ih =>
    refine .row (fun i c hc => ?_) fun i c hc => ?_
    · obtain ⟨a, b, d⟩ := h1 i c hc
      exact ⟨a, e.i _ _ b, by rw [e.c _ _ b]; exact d⟩
    · have := ih i c hc
      unfold cellD at *
      rw [e.c _ _ (h1 i c hc).2.1]; exact this
  | vec hn hcl h1 _ ih =>
    refine .vec hn hcl (fun i c hc => ?_) fun i c hc => ?_
    · obtain ⟨a, b, d⟩ := h1 i c hc
      exact ⟨a, e.i _ _ b, by rw [e.c _ _ b]; exact d⟩
    · have := ih i c hc
      unfold cellD at *
      rw [e.c _ _ (h1 i c hc).2.1]; exact this
  | ref hb hn hm => exact .ref (Nat.lt_of_lt_of_le hb e.nx) hn fun m h => hm m (e.m _ m hb h)
  | map hb hm => exact .map (Nat.lt_of_lt_of_le hb e.nx) fun m h => hm m (e.m _ m hb h)
  | fn hf h1 h2 _ _ ih1 ih2 => exact .fn hf h1 h2 (fun i c hc => ih1 i c hc) (fun i c hc => ih2 i c hc)
  | ifc _ ih => exact .ifc ih

/-! ## What a canonical value tells of Go's -/
section inv
variable {X : Cx} {w : World} {v : Value}
theorem VR.int_inv {k : IntKind} {n : Int} (h : VR fid X w (.int k n) v) : v = .int k n := by cases h; rfl
theorem VR.bool_inv {b : Bool} (h : VR fid X w (.bool b) v) : v = .bool b := by cases h; rfl
theorem VR.str_inv {l : List UInt8} (h : VR fid X w (.str l) v) : v = .string ⟨l.toArray⟩ := by cases h with | str s => rfl
theorem VR.str' (l : List UInt8) : VR fid X w (.str l) (.string ⟨l.toArray⟩) := by
  have := VR.str (fid := fid) (X := X) (w := w) ⟨l.toArray⟩
  simpa using this
theorem VR.tup0_inv (h : VR fid X w (.tup []) v) : v = undef := by
  cases h with
  | tup hl _ =>
    have : (_ : Array Value) = #[] := Array.eq_empty_of_size_eq_zero (by simpa using hl)
    subst this; rfl
theorem VR.tup0 : VR fid X w (.tup []) undef := .tup rfl (by simp)
theorem VR.cells_size {c : CV} (h : VR fid X w c v) : v.cells.size = c.cells.length := by cases h <;> simp_all [Value.cells, CV.cells]
theorem VR.cells_at {c : CV} (h : VR fid X w c v) (i : Nat) (d : CV) (hd : c.cells[i]? = some d) : VR fid X w d (v.cells.getD i undef) := by
  have key : c.cells = [c] → v.cells = #[v] → VR fid X w d (v.cells.getD i undef) := by
    intro h1 h2
    rw [h1] at hd
    have hi : i = 0 := by
      rcases Nat.eq_zero_or_pos i with hz | hz
      · exact hz
      · rw [List.getElem?_eq_none (by simp; omega)] at hd; cases hd
    subst hi
    simp only [List.getElem?_cons_zero, Option.some.injEq] at hd
    subst hd
    rw [h2]; exact h
  cases h with
  | agg hl h1 h2 => exact h2 i d hd
  | _ => exact key rfl rfl
end inv
end
end Go.Cs

/- The simulation relation between the canonical world and Go's, and how it is kept. -/
namespace Go.Cs
open Go.RowKit (Below)

section
variable (fid : FuncId → Option Nat)

def OR (X : Cx) (w : World) : CO → Nat × Nat × Nat → Prop
  | .cells cs, m => ∃ (rcs : Array Value) (T : TypeId) (fr : Nat × Nat), w.heap[m.1]? = some (.cells rcs T fr) ∧ cs.length ≤ m.2.2 ∧ m.2.1 + m.2.2 ≤ rcs.size ∧
      (fr.2 ≤ fr.1 ∨ rcs.size ≤ fr.1) ∧ ∀ (i : Nat) (c : CV), cs[i]? = some c → c.one = true ∧ VR fid X w c (rcs.getD (m.2.1 + i) undef)
  | .map es clock, m => ∃ res : Array MapEntry, w.heap[m.1]? = some (.map res clock) ∧ res.size = es.length ∧
      ∀ (i : Nat) (e : CV × CV × Nat), es[i]? = some e → ∃ r, res[i]? = some r ∧ r.born = e.2.2 ∧ VR fid X w e.1 r.key ∧ VR fid X w e.2.1 r.val

structure Sim (N : Nat) (w0 : World) (X : Cx) (cw : CW) (w : World) : Prop where
  nx : X.nx = cw.next
  dom : ∀ b m, X.M b = some m → ∃ o, cw.get b = some o
  blk : ∀ b o, cw.get b = some o → b < X.nx ∧ ∃ m, X.M b = some m ∧ OR fid X w o m
  inj : ∀ b b' m m', X.M b = some m → X.M b' = some m' → m.1 = m'.1 → b = b'
  sep : ∀ b m, X.M b = some m → N ≤ m.1 ∧ ∀ o, ¬ X.I m.1 o
  old : ∀ r o, r < N → X.I r o
  lt : ∀ r o, X.I r o → r < w.heap.size
  below : Below N w0 w
  room : N ≤ w.heap.size
end

variable {fid : FuncId → Option Nat} {N : Nat} {w0 : World} {X : Cx} {cw : CW} {w w' : World}

theorem heap_lt {w : World} {r : Nat} {o : Obj} (h : w.heap[r]? = some o) : r < w.heap.size := by
  rcases Nat.lt_or_ge r w.heap.size with h' | h'
  · exact h'
  · rw [Array.getElem?_eq_none h'] at h; cases h

theorem OR.at {o : CO} {m : Nat × Nat × Nat} (h : OR fid X w o m) : m.1 < w.heap.size := by
  cases o with
  | cells cs => obtain ⟨_, _, _, h, _⟩ := h; exact heap_lt h
  | map es c => obtain ⟨_, h, _⟩ := h; exact heap_lt h

theorem OR.mono {X' : Cx} {o : CO} {m : Nat × Nat × Nat} (h : OR fid X w o m) (e : Ext X w X' w') (hw : w'.heap[m.1]? = w.heap[m.1]?) : OR fid X' w' o m := by
  cases o with
  | cells cs =>
    obtain ⟨rcs, T, fr, h1, h2, h3, h4, h5⟩ := h
    exact ⟨rcs, T, fr, by rw [hw]; exact h1, h2, h3, h4, fun i c hc => ⟨(h5 i c hc).1, (h5 i c hc).2.mono e⟩⟩
  | map es c =>
    obtain ⟨res, h1, h2, h3⟩ := h
    refine ⟨res, by rw [hw]; exact h1, h2, fun i e' he => ?_⟩
    obtain ⟨r, a, b, v, u⟩ := h3 i e' he
    exact ⟨r, a, b, v.mono e, u.mono e⟩

theorem Sim.M_lt (h : Sim fid N w0 X cw w) {b : Nat} {m : Nat × Nat × Nat} (hm : X.M b = some m) : b < X.nx ∧ m.1 < w.heap.size := by
  obtain ⟨o, ho⟩ := h.dom b m hm
  obtain ⟨hb, m', hm', hor⟩ := h.blk b o ho
  rw [hm] at hm'; cases hm'
  exact ⟨hb, hor.at⟩

theorem Sim.get (h : Sim fid N w0 X cw w) {b : Nat} {o : CO} (ho : cw.get b = some o) : ∃ m, X.M b = some m ∧ OR fid X w o m := (h.blk b o ho).2

theorem cell_of_block {w w' : World} {r : Nat} (h : w'.heap[r]? = w.heap[r]?) (o : Nat) : w'.cell? ⟨r, o, none⟩ = w.cell? ⟨r, o, none⟩ := by
  simp only [World.cell?, h]

/-- All that there was is as it was. -/
theorem Sim.same (h : Sim fid N w0 X cw w) (hb : Below w.heap.size w w') : Sim fid N w0 X cw w' ∧ Ext X w X w' := by
  have e : Ext X w X w' := ⟨Nat.le_refl _, fun _ _ _ h => h, fun _ _ h => h, fun r o hi => cell_of_block (hb.block r (h.lt r o hi)) o⟩
  refine ⟨⟨h.nx, h.dom, fun b o ho => ?_, h.inj, h.sep, h.old, fun r o hi => Nat.lt_of_lt_of_le (h.lt r o hi) hb.size, h.below.trans (hb.mono h.room), Nat.le_trans h.room hb.size⟩, e⟩
  obtain ⟨hlt, m, hm, hor⟩ := h.blk b o ho
  exact ⟨hlt, m, hm, hor.mono e (hb.block _ hor.at)⟩

theorem below_drew (w : World) : Below w.heap.size w { w with drawn := w.drawn + 1 } := ⟨rfl, rfl, rfl, Nat.le_refl _, fun _ _ => rfl⟩

/-- A new row that nobody will write. -/
theorem Sim.imm (h : Sim fid N w0 X cw w) (o : Obj) :
    Sim fid N w0 { X with I := fun r i => X.I r i ∨ r = w.heap.size } cw (w.alloc o) ∧ Ext X w { X with I := fun r i => X.I r i ∨ r = w.heap.size } (w.alloc o) := by
  have hb : Below w.heap.size w (w.alloc o) := (Below.refl _ _).alloc (Nat.le_refl _) o
  have e : Ext X w { X with I := fun r i => X.I r i ∨ r = w.heap.size } (w.alloc o) :=
    ⟨Nat.le_refl _, fun _ _ _ h => h, fun _ _ h => .inl h, fun r o hi => cell_of_block (hb.block r (h.lt r o hi)) o⟩
  refine ⟨⟨h.nx, h.dom, fun b o ho => ?_, h.inj, fun b m hm => ?_, fun r o hr => .inl (h.old r o hr), fun r i hi => ?_, h.below.trans (hb.mono h.room), Nat.le_trans h.room hb.size⟩, e⟩
  · obtain ⟨hlt, m, hm, hor⟩ := h.blk b o ho
    exact ⟨hlt, m, hm, hor.mono e (hb.block _ hor.at)⟩
  · refine ⟨(h.sep b m hm).1, fun o' hi => ?_⟩
    rcases hi with hi | hi
    · exact (h.sep b m hm).2 o' hi
    · have := (h.M_lt hm).2; omega
  · have hs : (w.alloc o).heap.size = w.heap.size + 1 := Array.size_push ..
    rcases hi with hi | hi
    · have := h.lt r i hi; omega
    · omega

/-- A new canonical block, over a real one that no other has. -/
theorem Sim.pushG (h : Sim fid N w0 X cw w) {rb base e : Nat} {o : CO} (hN : N ≤ rb) (hI : ∀ i, ¬ X.I rb i) (hM : ∀ b m, X.M b = some m → m.1 ≠ rb)
    (hw : ∀ r, r ≠ rb → r < w.heap.size → w'.heap[r]? = w.heap[r]?) (hs : w.heap.size ≤ w'.heap.size) (hos : w'.os = w.os) (ht : w'.tape = w.tape) (hou : w'.output = w.output)
    (hor : Ext X w { X with M := fun b => if b = X.nx then some (rb, base, e) else X.M b, nx := X.nx + 1 } w' →
      OR fid { X with M := fun b => if b = X.nx then some (rb, base, e) else X.M b, nx := X.nx + 1 } w' o (rb, base, e)) :
    Sim fid N w0 { X with M := fun b => if b = X.nx then some (rb, base, e) else X.M b, nx := X.nx + 1 } (cw.push o) w' ∧
    Ext X w { X with M := fun b => if b = X.nx then some (rb, base, e) else X.M b, nx := X.nx + 1 } w' := by
  have ex : Ext X w { X with M := fun b => if b = X.nx then some (rb, base, e) else X.M b, nx := X.nx + 1 } w' := by
    refine ⟨Nat.le_succ _, fun b m hb hm => ?_, fun _ _ h => h, fun r i hi => cell_of_block (hw r (fun e => hI i (e ▸ hi)) (h.lt r i hi)) i⟩
    simp only at hm
    rwa [if_neg (by omega)] at hm
  have horr := hor ex
  refine ⟨⟨?_, ?_, ?_, ?_, ?_, h.old, fun r i hi => Nat.lt_of_lt_of_le (h.lt r i hi) hs, ?_, Nat.le_trans h.room hs⟩, ex⟩
  · simp [CW.push, h.nx]
  · intro b m hm
    simp only [CW.push] at hm ⊢
    by_cases hb : b = X.nx
    · exact ⟨o, by rw [if_pos (hb.trans h.nx)]⟩
    · rw [if_neg hb] at hm
      obtain ⟨o', ho'⟩ := h.dom b m hm
      exact ⟨o', by rw [if_neg (by rw [← h.nx]; exact hb)]; exact ho'⟩
  · intro b o' ho'
    simp only [CW.push] at ho' ⊢
    by_cases hb : b = X.nx
    · rw [if_pos (hb.trans h.nx)] at ho'
      cases ho'
      exact ⟨by omega, (rb, base, e), if_pos hb, horr⟩
    · rw [if_neg (by rw [← h.nx]; exact hb)] at ho'
      obtain ⟨hlt, m, hm, hor'⟩ := h.blk b o' ho'
      exact ⟨by omega, m, by rw [if_neg hb]; exact hm, hor'.mono ex (hw _ (hM b m hm) hor'.at)⟩
  · intro b b' m m' hm hm' he
    simp only at hm hm'
    by_cases hb : b = X.nx <;> by_cases hb' : b' = X.nx
    · omega
    · rw [if_pos hb] at hm; rw [if_neg hb'] at hm'; cases hm
      exact absurd he.symm (hM b' m' hm')
    · rw [if_neg hb] at hm; rw [if_pos hb'] at hm'; cases hm'
      exact absurd he (hM b m hm)
    · rw [if_neg hb] at hm; rw [if_neg hb'] at hm'
      exact h.inj b b' m m' hm hm' he
  · intro b m hm
    simp only at hm
    by_cases hb : b = X.nx
    · rw [if_pos hb] at hm; cases hm; exact ⟨hN, hI⟩
    · rw [if_neg hb] at hm; exact h.sep b m hm
  · exact h.below.trans ⟨hos, ht, hou, by omega, fun k hk => hw k (by omega) (Nat.lt_of_lt_of_le hk h.room)⟩

/-- A new block that the call may write. -/
theorem Sim.mut (h : Sim fid N w0 X cw w) {o : CO} {ob : Obj} {base e : Nat}
    (hor : Ext X w { X with M := fun b => if b = X.nx then some (w.heap.size, base, e) else X.M b, nx := X.nx + 1 } (w.alloc ob) →
      OR fid { X with M := fun b => if b = X.nx then some (w.heap.size, base, e) else X.M b, nx := X.nx + 1 } (w.alloc ob) o (w.heap.size, base, e)) :
    Sim fid N w0 { X with M := fun b => if b = X.nx then some (w.heap.size, base, e) else X.M b, nx := X.nx + 1 } (cw.push o) (w.alloc ob) ∧
    Ext X w { X with M := fun b => if b = X.nx then some (w.heap.size, base, e) else X.M b, nx := X.nx + 1 } (w.alloc ob) := by
  refine h.pushG h.room (fun i hi => ?_) (fun b m hm => ?_) (fun r _ hr => Below.heap_alloc w ob r hr) (by show _ ≤ (w.heap.push ob).size; simp) rfl rfl rfl hor
  · have := h.lt _ i hi; omega
  · have := (h.M_lt hm).2; omega

/-- One block is written. -/
structure Upd (w : World) (r : Nat) (o : Obj) (w' : World) : Prop where
  os : w'.os = w.os
  tape : w'.tape = w.tape
  output : w'.output = w.output
  size : w'.heap.size = w.heap.size
  here : w'.heap[r]? = some o
  there : ∀ k, k ≠ r → w'.heap[k]? = w.heap[k]?

theorem Sim.upd_ext (h : Sim fid N w0 X cw w) {b : Nat} {m : Nat × Nat × Nat} {ob : Obj} (hm : X.M b = some m) (hu : Upd w m.1 ob w') : Ext X w X w' :=
  ⟨Nat.le_refl _, fun _ _ _ h => h, fun _ _ h => h, fun r i hi => cell_of_block (hu.there r fun e => (h.sep b m hm).2 i (e ▸ hi)) i⟩

theorem Sim.upd (h : Sim fid N w0 X cw w) {b : Nat} {m : Nat × Nat × Nat} {ob : Obj} {o : CO} (hm : X.M b = some m) (hu : Upd w m.1 ob w')
    (hor : OR fid X w' o m) : Sim fid N w0 X (cw.set b o) w' ∧ Ext X w X w' := by
  have ex := h.upd_ext hm hu
  have hbx := (h.M_lt hm).1
  refine ⟨⟨h.nx, ?_, ?_, h.inj, h.sep, h.old, fun r i hi => by rw [hu.size]; exact h.lt r i hi, ?_, by rw [hu.size]; exact h.room⟩, ex⟩
  · intro c m' hm'
    simp only [CW.set]
    by_cases hc : c = b
    · exact ⟨o, if_pos hc⟩
    · obtain ⟨o', ho'⟩ := h.dom c m' hm'
      exact ⟨o', by rw [if_neg hc]; exact ho'⟩
  · intro c o' ho'
    simp only [CW.set] at ho'
    by_cases hc : c = b
    · rw [if_pos hc] at ho'; cases ho'; subst hc
      exact ⟨hbx, m, hm, hor⟩
    · rw [if_neg hc] at ho'
      obtain ⟨hlt, m', hm', hor'⟩ := h.blk c o' ho'
      exact ⟨hlt, m', hm', hor'.mono ex (hu.there _ fun e => hc (h.inj c b m' m hm' hm e))⟩
  · exact h.below.trans ⟨hu.os, hu.tape, hu.output, by rw [hu.size]; exact Nat.le_refl _, fun k hk => hu.there k (by have := (h.sep b m hm).1; omega)⟩

/-- A canonical block is given up. -/
theorem Sim.kill (h : Sim fid N w0 X cw w) (b : Nat) :
    Sim fid N w0 { X with M := fun c => if c = b then none else X.M c } (cw.kill b) w ∧ Ext X w { X with M := fun c => if c = b then none else X.M c } w := by
  have ex : Ext X w { X with M := fun c => if c = b then none else X.M c } w := by
    refine ⟨Nat.le_refl _, fun c m _ hm => ?_, fun _ _ h => h, fun _ _ _ => rfl⟩
    simp only at hm
    by_cases hc : c = b
    · rw [if_pos hc] at hm; cases hm
    · rwa [if_neg hc] at hm
  have hne : ∀ c m, (if c = b then none else X.M c) = some m → c ≠ b ∧ X.M c = some m := by
    intro c m hm
    by_cases hc : c = b
    · rw [if_pos hc] at hm; cases hm
    · rw [if_neg hc] at hm; exact ⟨hc, hm⟩
  refine ⟨⟨h.nx, ?_, ?_, ?_, ?_, h.old, h.lt, h.below, h.room⟩, ex⟩
  · intro c m hm
    obtain ⟨hc, hm⟩ := hne c m hm
    obtain ⟨o, ho⟩ := h.dom c m hm
    exact ⟨o, by simp only [CW.kill]; rw [if_neg hc]; exact ho⟩
  · intro c o ho
    simp only [CW.kill] at ho
    by_cases hc : c = b
    · rw [if_pos hc] at ho; cases ho
    · rw [if_neg hc] at ho
      obtain ⟨hlt, m, hm, hor⟩ := h.blk c o ho
      exact ⟨hlt, m, by simp only; rw [if_neg hc]; exact hm, hor.mono ex rfl⟩
  · intro c c' m m' hm hm' he
    exact h.inj c c' m m' (hne c m hm).2 (hne c' m' hm').2 he
  · intro c m hm
    exact h.sep c m (hne c m hm).2

theorem getE {cs ds : List CV} (hl : cs.length = ds.length) {i : Nat} {d : CV} (hd : ds[i]? = some d) : ∃ c, cs[i]? = some c :=
  ⟨_, List.getElem?_eq_getElem (by have := (List.getElem?_eq_some_iff.1 hd).1; omega)⟩

/-- What a call made is told by value: its blocks become rows that nobody writes. -/
theorem frz_vr {base : Nat} (h : Sim fid N w0 X cw w) {c d : CV} (hf : Frz base cw c d) : ∀ {v : Value}, VR fid X w c v → base ≤ X.nx →
    VR fid { M := fun b => if b < base then X.M b else none, I := fun r i => X.I r i ∨ ∃ b m, base ≤ b ∧ X.M b = some m ∧ m.1 = r, nx := base } w d v := by
  induction hf with
  | int k n => intro v hv _; cases hv; exact .int k n
  | bool b => intro v hv _; cases hv; exact .bool b
  | str l => intro v hv _; cases hv; exact .str _
  | nilp => intro v hv _; cases hv; exact .nilp
  | nils => intro v hv _; cases hv; exact .nils
  | nilm => intro v hv _; cases hv; exact .nilm
  | nilf => intro v hv _; cases hv; exact .nilf
  | nili => intro v hv _; cases hv; exact .nili
  | agg hl hf ih =>
    intro v hv hb
    cases hv with
    | agg h1 h2 h3 =>
      refine .agg (by omega) (fun i d hd => ?_) fun i d hd => ?_
      · obtain ⟨c, hc⟩ := getE hl hd
        have h0 := h2 i c hc
        have := hf i c d hc hd
        cases this <;> simp_all [CV.one]
      · obtain ⟨c, hc⟩ := getE hl hd
        exact ih i c d hc hd (h3 i c hc) hb
  | tup hl hf ih =>
    intro v hv hb
    cases hv with
    | tup h1 h3 =>
      refine .tup (by omega) fun i d hd => ?_
      obtain ⟨c, hc⟩ := getE hl hd
      exact ih i c d hc hd (h3 i c hc) hb
  | ptr hlt =>
    intro v hv hb
    cases hv with
    | ptr h1 h2 =>
      refine .ptr hlt fun m hm => h2 m ?_
      simp only at hm
      rwa [if_pos hlt] at hm
  | map hlt =>
    intro v hv hb
    cases hv with
    | map h1 h2 =>
      refine .map hlt fun m hm => h2 m ?_
      simp only at hm
      rwa [if_pos hlt] at hm
  | vec hl hf ih =>
    intro v hv hb
    cases hv with
    | vec h0 hcl h1 h3 =>
      refine .vec h0 hcl (fun i d hd => ?_) fun i d hd => ?_
      · obtain ⟨c, hc⟩ := getE hl hd
        obtain ⟨x, y, z⟩ := h1 i c hc
        refine ⟨?_, .inl y, z⟩
        have := hf i c d hc hd
        cases this <;> simp_all [CV.one]
      · obtain ⟨c, hc⟩ := getE hl hd
        exact ih i c d hc hd (h3 i c hc) hb
  | keep hlt =>
    intro v hv hb
    cases hv with
    | ref h1 h2 h3 =>
      refine .ref hlt h2 fun m hm => h3 m ?_
      simp only at hm
      rwa [if_pos hlt] at hm
  | @ref b off n sz cs ds hbb hget hle hdl hf ih =>
    intro v hv hb
    cases hv with
    | @ref _ _ _ _ cap a h1 h2 h3 =>
      obtain ⟨m, hm, rcs, T, fr, g1, g2, g3, g4, g5⟩ := h.get hget
      obtain ⟨rfl, hcap⟩ := h3 m hm
      refine .vec h2 (by simp) (fun i d hd => ?_) fun i d hd => ?_
      all_goals
        have hi : i < n * sz := hdl ▸ (List.getElem?_eq_some_iff.1 hd).1
        obtain ⟨c, hc⟩ : ∃ c, cs[off + i]? = some c := ⟨_, List.getElem?_eq_getElem (by omega)⟩
        obtain ⟨k1, k2⟩ := g5 _ c hc
        have hcell : w.cell? ⟨m.1, m.2.1 + off + i, none⟩ = some (rcs.getD (m.2.1 + (off + i)) undef) := by
          have hlt : m.2.1 + off + i < rcs.size := by omega
          simp only [World.cell?, g1, Option.isSome_none, Bool.false_eq_true, if_false]
          rw [show m.2.1 + (off + i) = m.2.1 + off + i by omega]
          simp [hlt]
      · refine ⟨?_, .inr ⟨b, m, hbb, hm, rfl⟩, by rw [hcell]; rfl⟩
        have := hf i c d hi hc hd
        cases this <;> simp_all [CV.one]
      · unfold cellD
        rw [hcell]
        exact ih i c d hi hc hd k2 hb
  | fn hl1 hl2 hf1 hf2 ih1 ih2 =>
    intro v hv hb
    cases hv with
    | fn h0 h1 h2 h3 h4 =>
      refine .fn h0 (by omega) (by omega) (fun i d hd => ?_) fun i d hd => ?_
      · obtain ⟨c, hc⟩ := getE hl1 hd
        exact ih1 i c d hc hd (h3 i c hc) hb
      · obtain ⟨c, hc⟩ := getE hl2 hd
        exact ih2 i c d hc hd (h4 i c hc) hb
  | ifc _ ih =>
    intro v hv hb
    cases hv with
    | ifc h1 => exact .ifc (ih h1 hb)

end Go.Cs

/- The operations, one by one: operands; operations on values. -/
namespace Go.Cs
open Go.RowKit (Below)

variable {P : Program} {fid : FuncId → Option Nat} {N : Nat} {w0 : World} {X : Cx} {cw : CW} {w : World} {ρ : Env} {a : Act}

def EnvR (fid : FuncId → Option Nat) (X : Cx) (w : World) (ρ : Env) (a : Act) : Prop :=
  ∀ t c, ρ.get t = some c → t < a.tmps.size ∧ VR fid X w c (a.tmps.getD t undef)

theorem EnvR.mono {X' : Cx} {w' : World} (h : EnvR fid X w ρ a) (e : Ext X w X' w') : EnvR fid X' w' ρ a :=
  fun t c hc => ⟨(h t c hc).1, (h t c hc).2.mono e⟩

theorem EnvR.put (h : EnvR fid X w ρ a) {d : Option Nat} {c : CV} {v : Value} (hd : dstOk a.tmps.size d = true) (hv : VR fid X w c v) :
    EnvR fid X w (ρ.put d c) (a.put d v) := by
  cases d with
  | none => exact h
  | some d =>
    simp only [dstOk, decide_eq_true_eq] at hd
    intro t c' hc
    simp only [Env.put, Env.get] at hc
    by_cases ht : d = t
    · subst ht
      simp only [if_true, Option.some.injEq] at hc
      subst hc
      exact ⟨by simp [Act.put, hd], by simp [Act.put, hd]; exact hv⟩
    · rw [if_neg ht] at hc
      obtain ⟨h1, h2⟩ := h t c' hc
      refine ⟨by simp [Act.put, h1], ?_⟩
      simp only [Act.put, Array.getD_eq_getD_getElem?]
      rw [Array.getElem?_setIfInBounds_ne ht]
      simpa [Array.getD_eq_getD_getElem?] using h2

theorem EnvR.keep (h : EnvR fid X w ρ a) (l : Option (List Nat)) : EnvR fid X w (ρ.keep l) a := by
  cases l with
  | none => exact h
  | some l =>
    intro t c hc
    have key : ∀ l : List Nat, Env.get (l.filterMap fun t => (Env.get ρ t).map fun v => (t, v)) t = some c → Env.get ρ t = some c := by
      intro l
      induction l with
      | nil => intro hc; cases hc
      | cons x r ih =>
        intro hc
        simp only [List.filterMap_cons] at hc
        cases hx : Env.get ρ x with
        | none => rw [hx] at hc; exact ih (by simpa using hc)
        | some v =>
          rw [hx] at hc
          simp only [Option.map_some, Env.get] at hc
          by_cases e : x = t
          · subst e; rw [if_pos rfl] at hc; rw [hx]; exact hc
          · rw [if_neg e] at hc; exact ih hc
    exact h t c (key l (by simpa [Env.keep] using hc))

theorem cvOne_vr {v : Value} {c : CV} (h : cvOne v = some c) : VR fid X w c v ∧ c.one = true := by
  unfold cvOne at h
  split at h <;> cases h <;> first
    | exact ⟨.int _ _, rfl⟩
    | exact ⟨.bool _, rfl⟩
    | exact ⟨.str _, rfl⟩
    | exact ⟨.nilp, rfl⟩
    | exact ⟨.nils, rfl⟩
    | exact ⟨.nilm, rfl⟩
    | exact ⟨.nilf, rfl⟩
    | exact ⟨.nili, rfl⟩

theorem cvAll_vr : ∀ {vs : List Value} {cs : List CV}, cvAll vs = some cs → cs.length = vs.length ∧
    ∀ (i : Nat) (c : CV), cs[i]? = some c → c.one = true ∧ VR fid X w c (vs[i]?.getD undef)
  | [], cs, h => by cases h; simp
  | v :: vs, cs, h => by
    simp only [cvAll, Option.bind_eq_some_iff] at h
    obtain ⟨c, hc, ds, hds, h⟩ := h
    cases h
    obtain ⟨h1, h2⟩ := cvAll_vr hds
    refine ⟨by simp [h1], fun i d hd => ?_⟩
    cases i with
    | zero =>
      simp only [List.getElem?_cons_zero, Option.some.injEq] at hd
      subst hd
      exact ⟨(cvOne_vr (fid := fid) (X := X) (w := w) hc).2, by simpa using (cvOne_vr hc).1⟩
    | succ i => simpa using h2 i d (by simpa using hd)

theorem cvOf_vr {v : Value} {c : CV} (h : cvOf v = some c) : VR fid X w c v := by
  unfold cvOf at h
  split at h
  · rename_i rcs
    simp only [Option.bind_eq_some_iff] at h
    obtain ⟨l, hl, h⟩ := h
    cases h
    obtain ⟨h1, h2⟩ := cvAll_vr (fid := fid) (X := X) (w := w) hl
    refine .agg (by simp [h1]) (fun i c hc => (h2 i c hc).1) fun i c hc => ?_
    have := (h2 i c hc).2
    simpa [Array.getD_eq_getD_getElem?] using this
  · exact (cvOne_vr h).1

theorem rx_vr {x : Operand} {r : RX} {c : CV} (h : rx fid x = some r) (he : ev ρ r = some c) (hE : EnvR fid X w ρ a) : VR fid X w c (a.eval x) := by
  cases x with
  | tmp t =>
    cases h
    exact (hE t c he).2
  | const v =>
    simp only [rx, Option.bind_eq_some_iff] at h
    obtain ⟨d, hd, h⟩ := h
    cases h; cases he
    exact cvOf_vr hd
  | func f =>
    simp only [rx, Option.bind_eq_some_iff] at h
    obtain ⟨g, hg, h⟩ := h
    cases h; cases he
    exact .fn hg rfl rfl (by simp) (by simp)
  | global g => cases h

theorem rxs_vr : ∀ {xs : List Operand} {rs : List RX} {cs : List CV}, rxs fid xs = some rs → evs (ev ρ) rs = some cs → EnvR fid X w ρ a →
    cs.length = xs.length ∧ ∀ (i : Nat) (c : CV), cs[i]? = some c → VR fid X w c ((xs.map a.eval)[i]?.getD undef)
  | [], rs, cs, h, he, _ => by cases h; cases he; simp
  | x :: xs, rs, cs, h, he, hE => by
    simp only [rxs, Option.bind_eq_some_iff] at h
    obtain ⟨y, hy, ys, hys, h⟩ := h
    cases h
    simp only [evs, Option.bind_eq_some_iff] at he
    obtain ⟨c, hc, ds, hds, he⟩ := he
    cases he
    obtain ⟨h1, h2⟩ := rxs_vr hys hds hE
    refine ⟨by simp [h1], fun i d hd => ?_⟩
    cases i with
    | zero =>
      simp only [List.getElem?_cons_zero, Option.some.injEq] at hd
      subst hd
      simpa using rx_vr hy hc hE
    | succ i => simpa using h2 i d (by simpa using hd)

/-- What an operation on values does. -/
def ResV (fid : FuncId → Option Nat) (N : Nat) (w0 : World) (X : Cx) (P : Program) (s : Sem Value) (w : World) (c : CV) (cw' : CW) : Prop :=
  ∃ v w' X', s.run P w = .ok v w' ∧ Sim fid N w0 X' cw' w' ∧ Ext X w X' w' ∧ VR fid X' w' c v

theorem ResV.pure {s : Sem Value} {c : CV} {v : Value} (hS : Sim fid N w0 X cw w) (hr : s.run P w = .ok v w) (hv : VR fid X w c v) : ResV fid N w0 X P s w c cw :=
  ⟨v, w, X, hr, hS, .refl X w, hv⟩

theorem binI_run {op : BinOp} {k : IntKind} {x y : Int} {c : CV} {t : TypeId} (h : binI op k x y = some c) (hs : isSh op = false) :
    ∃ v, (Go.binOp op t (.int k x) (.int k y)).run P w = .ok v w ∧ VR fid X w c v := by
  cases op <;> simp only [isSh, Bool.true_eq_false] at hs <;> simp only [binI] at h
  case quo =>
    split at h
    · cases h
    · rename_i h0
      cases h
      exact ⟨_, by simp [Go.binOp, Op.intDiv, h0], .int _ _⟩
  case rem =>
    split at h
    · cases h
    · rename_i h0
      cases h
      exact ⟨_, by simp [Go.binOp, Op.intDiv, h0], .int _ _⟩
  all_goals
    cases h
    first
      | (refine ⟨_, ?_, .int _ _⟩; simp [Go.binOp, Op.intArith, Op.intBits, andI, orI, xorI, clrI]; done)
      | (refine ⟨_, ?_, .bool _⟩; simp [Go.binOp, Op.intCmp]; done)

theorem binSh_run {op : BinOp} {k k' : IntKind} {x y : Int} {c : CV} {t : TypeId} (h : binSh op k x y = some c) :
    ∃ v, (Go.binOp op t (.int k x) (.int k' y)).run P w = .ok v w ∧ VR fid X w c v := by
  unfold binSh at h
  split at h
  · cases h
  · rename_i hy
    split at h <;> cases h
    · exact ⟨_, by simp [Go.binOp, Op.shift, hy], .int _ _⟩
    · exact ⟨_, by simp [Go.binOp, Op.shift, hy], .int _ _⟩

theorem binS_run {op : BinOp} {x y : List UInt8} {c : CV} {t : TypeId} (h : binS op x y = some c) :
    ∃ v, (Go.binOp op t (.string ⟨x.toArray⟩) (.string ⟨y.toArray⟩)).run P w = .ok v w ∧ VR fid X w c v := by
  cases op <;> simp only [binS] at h
  case add =>
    split at h
    · cases h
      refine ⟨.string ⟨(x ++ y).toArray⟩, ?_, VR.str' _⟩
      simp only [Go.binOp]
      rw [run_string_add_sum w _ _ (by simp [ByteArray.size]; omega), ByteArray.mk_append_mk]
    · cases h
  all_goals
    cases h
    try (refine ⟨_, ?_, .bool _⟩; simp [Go.binOp, Op.stringOp]; done)

theorem binV_run {op : BinOp} {x y c : CV} {u v : Value} {t : TypeId} (h : binV op x y = some c) (hx : VR fid X w x u) (hy : VR fid X w y v) :
    ∃ r, (Go.binOp op t u v).run P w = .ok r w ∧ VR fid X w c r := by
  unfold binV at h
  split at h
  · cases hx; cases hy
    split at h
    · exact binSh_run h
    · rename_i hs
      split at h
      · rename_i hk; subst hk
        exact binI_run h (by simpa using hs)
      · cases h
  · rw [hx.str_inv, hy.str_inv]
    exact binS_run h
  · cases h

/-- Where the operands are neither a nil interface nor an aggregate, the guard of '==' does nothing. -/
theorem guard_run {op : BinOp} {t : TypeId} {x y : Operand} {u v : Value} (h : ∀ cs, u ≠ .agg cs) (h' : u ≠ .nilIface) : (eqGuard op t x y u v).run P w = .ok () w := by
  unfold eqGuard
  cases u <;> first
    | exact absurd rfl h'
    | exact absurd rfl (h _)
    | (cases op <;> rfl)

theorem binV_guard {op : BinOp} {x y c : CV} {u : Value} (h : binV op x y = some c) (hx : VR fid X w x u) : (∀ cs, u ≠ .agg cs) ∧ u ≠ .nilIface := by
  unfold binV at h
  split at h
  · cases hx; simp
  · rw [hx.str_inv]; simp
  · cases h

end Go.Cs

/- '==' on canonical values, and on Go's. -/
namespace Go.Cs
open Go.RowKit (Below)
variable {P : Program} {fid : FuncId → Option Nat} {N : Nat} {w0 : World} {X : Cx} {cw : CW} {w : World} {ρ : Env} {a : Act}

theorem eqCells_len : ∀ {ks : List Nat} {x y : List CV} {r : Bool}, eqCells ks x y = some r → x.length = ks.length ∧ y.length = ks.length
  | [], [], [], _, _ => ⟨rfl, rfl⟩
  | k :: ks, a :: x, b :: y, r, h => by
    simp only [eqCells, Option.bind_eq_some_iff] at h
    obtain ⟨_, _, s, h, _⟩ := h
    have := eqCells_len h
    simp [this.1, this.2]
  | [], [], _ :: _, _, h => by simp [eqCells] at h
  | [], _ :: _, _, _, h => by simp [eqCells] at h
  | _ :: _, [], _, _, h => by simp [eqCells] at h
  | _ :: _, _ :: _, [], _, h => by simp [eqCells] at h

theorem eqCells_nil {x y : List CV} {r : Bool} (h : eqCells [] x y = some r) : r = true := by
  cases x <;> cases y <;> simp_all [eqCells]

theorem eqCells_app : ∀ {k1 k2 : List Nat} {x y : List CV} {r : Bool}, eqCells (k1 ++ k2) x y = some r →
    ∃ r1 r2, eqCells k1 (x.take k1.length) (y.take k1.length) = some r1 ∧ eqCells k2 (x.drop k1.length) (y.drop k1.length) = some r2 ∧ r = (r1 && r2)
  | [], k2, x, y, r, h => ⟨true, r, rfl, by simpa using h, by simp⟩
  | k :: k1, k2, a :: x, b :: y, r, h => by
    simp only [List.cons_append, eqCells, Option.bind_eq_some_iff] at h
    obtain ⟨p, hp, s, hs, hr⟩ := h
    cases hr
    obtain ⟨r1, r2, h1, h2, h3⟩ := eqCells_app hs
    refine ⟨p && r1, r2, ?_, by simpa using h2, by rw [h3, Bool.and_assoc]⟩
    simp [eqCells, hp, h1]
  | _ :: _, _, [], _, _, h => by simp [eqCells] at h
  | _ :: _, _, _ :: _, [], _, h => by simp [eqCells] at h

/-- The cells of a value of a type. -/
def Fits (P : Program) (fid : FuncId → Option Nat) (X : Cx) (w : World) (t : TypeId) (u : Value) (x : List CV) : Prop :=
  match P.underlying t with
  | some (.struct _) | some (.array _ _) => ∃ us : Array Value, u = .agg us ∧ us.size = x.length ∧ ∀ (i : Nat) (c : CV), x[i]? = some c → VR fid X w c (us.getD i undef)
  | _ => ∃ c, x = [c] ∧ VR fid X w c u

theorem part_run {t : TypeId} {us : Array Value} {x : List CV} {off n : Nat} (hn : szOf P t = some n) (hl : us.size = x.length) (hle : off + n ≤ x.length)
    (h1 : (∀ fs, P.underlying t ≠ some (.struct fs)) → (∀ k e, P.underlying t ≠ some (.array k e)) → n = 1)
    (hu : P.underlying t ≠ none)
    (hx : ∀ (i : Nat) (c : CV), x[i]? = some c → VR fid X w c (us.getD i undef)) :
    ∃ v, (part t us off).run P w = .ok v w ∧ Fits P fid X w t v ((x.drop off).take n) := by
  unfold szOf at hn
  obtain ⟨i, hi, rfl⟩ := Option.map_eq_some_iff.1 hn
  have hsz : P.cellsOf t = i.size := by simp [Program.cellsOf, hi]
  obtain ⟨d, hd⟩ := Option.ne_none_iff_exists'.1 hu
  have agg : (∃ fs, d = .struct fs) ∨ (∃ k e, d = .array k e) → ∃ v, (part t us off).run P w = .ok v w ∧ Fits P fid X w t v ((x.drop off).take i.size) := by
    intro hag
    refine ⟨.agg (us.extract off (off + i.size)), ?_, ?_⟩
    · rcases hag with ⟨fs, rfl⟩ | ⟨k, e, rfl⟩ <;> simp [part, isAgg, run_underlying hd, sizeOf, typeInfo, hi]
    · have : ∃ us' : Array Value, Value.agg (us.extract off (off + i.size)) = .agg us' ∧ us'.size = ((x.drop off).take i.size).length ∧
          ∀ (j : Nat) (c : CV), ((x.drop off).take i.size)[j]? = some c → VR fid X w c (us'.getD j undef) := by
        refine ⟨_, rfl, by simp; omega, fun j c hc => ?_⟩
        rw [List.getElem?_take] at hc
        split at hc
        · rename_i hj
          rw [List.getElem?_drop] at hc
          have := hx _ c hc
          have e : (us.extract off (off + i.size)).getD j undef = us.getD (off + j) undef := by
            simp only [Array.getD_eq_getD_getElem?, Array.getElem?_extract]
            rw [if_pos (by omega)]
          rw [e]; exact this
        · cases hc
      unfold Fits
      rcases hag with ⟨fs, rfl⟩ | ⟨k, e, rfl⟩ <;> simp only [hd] <;> exact this
  by_cases hag : (∃ fs, d = .struct fs) ∨ (∃ k e, d = .array k e)
  · exact agg hag
  · have hs : i.size = 1 := h1 (fun fs h => hag (.inl ⟨fs, by rw [hd] at h; cases h; rfl⟩)) (fun k e h => hag (.inr ⟨k, e, by rw [hd] at h; cases h; rfl⟩))
    rw [hs] at hle ⊢
    have hlt : off < us.size := by omega
    obtain ⟨c, hc⟩ : ∃ c, x[off]? = some c := ⟨_, List.getElem?_eq_getElem (by omega)⟩
    refine ⟨us.getD off undef, ?_, ?_⟩
    · cases d <;> simp [part, isAgg, run_underlying hd, hlt] <;> exact absurd (by first | exact .inl ⟨_, rfl⟩ | exact .inr ⟨_, _, rfl⟩) hag
    · have e : (x.drop off).take 1 = [c] := by
        apply List.ext_getElem?
        intro j
        rw [List.getElem?_take]
        cases j with
        | zero => simp [List.getElem?_drop, hc]
        | succ j => simp
      unfold Fits
      rw [e, hd]
      cases d <;> first
        | exact ⟨c, rfl, hx off c hc⟩
        | exact absurd (by first | exact .inl ⟨_, rfl⟩ | exact .inr ⟨_, _, rfl⟩) hag

theorem kinds_pos {d : Nat} {t : TypeId} {l : List Nat} (h : kindsOf P d t = some l) : P.underlying t ≠ none ∧
    ((∀ fs, P.underlying t ≠ some (.struct fs)) → (∀ k e, P.underlying t ≠ some (.array k e)) → l.length = 1) := by
  cases d with
  | zero => cases h
  | succ d =>
    simp only [kindsOf] at h
    split at h <;> rename_i hu
    · cases h; rw [hu]; simp
    · cases h; rw [hu]; simp
    · cases h; rw [hu]; simp
    · rw [hu]; simp
    · rw [hu]; simp
    · cases h

theorem goK_at {P : Program} {d : Nat} {x y : List CV} {us vs : Array Value} (e : Nat)
    (ih : ∀ (t : TypeId) (l : List Nat), kindsOf P d t = some l → ∀ (u v : Value) (x y : List CV) (r : Bool), Fits P fid X w t u x → Fits P fid X w t v y →
      eqCells l x y = some r → (Op.equalIn e t u v).run P w = .ok r w)
    (hu : us.size = x.length) (hv : vs.size = y.length)
    (hx : ∀ (i : Nat) (c : CV), x[i]? = some c → VR fid X w c (us.getD i undef)) (hy : ∀ (i : Nat) (c : CV), y[i]? = some c → VR fid X w c (vs.getD i undef)) :
    ∀ (fs : List Field) (off : Nat) (l : List Nat) (r : Bool), off ≤ x.length → off ≤ y.length → goK P (kindsOf P d) fs off = some l → eqCells l (x.drop off) (y.drop off) = some r →
      (Op.eqFields e us vs fs).run P w = .ok r w
  | [], off, l, r, _, _, h, hr => by
    cases h
    cases eqCells_nil hr; rfl
  | f :: fs, off, l, r, ho1, ho2, h, hr => by
    simp only [goK] at h
    split at h
    · cases h
    · rename_i hno
      simp only [Option.bind_eq_some_iff] at h
      obtain ⟨lf, hlf, h⟩ := h
      split at h
      · rename_i hsz
        simp only [Option.bind_eq_some_iff] at h
        obtain ⟨m, hm, h⟩ := h
        cases h
        have hname : f.name ≠ "_" := fun e => hno (.inl e)
        have hoff : f.offset = off := Classical.not_not.1 fun e => hno (.inr e)
        have hlen := eqCells_len hr
        obtain ⟨r1, r2, h1, h2, h3⟩ := eqCells_app hr
        simp only [List.length_drop, List.length_append] at hlen
        obtain ⟨hune, hone⟩ := kinds_pos hlf
        obtain ⟨v1, hv1, fit1⟩ := part_run (P := P) (fid := fid) (X := X) (w := w) (t := f.type) (off := off) hsz hu (by omega) hone hune hx
        obtain ⟨v2, hv2, fit2⟩ := part_run (P := P) (fid := fid) (X := X) (w := w) (t := f.type) (off := off) hsz hv (by omega) hone hune hy
        have heq := ih f.type lf hlf v1 v2 _ _ r1 fit1 fit2 h1
        have hrest := goK_at e ih hu hv hx hy fs (off + lf.length) m r2 (by omega) (by omega) hm (by simpa [List.drop_drop] using h2)
        simp only [Op.eqFields, ne_eq, hname, not_false_eq_true, if_true, hoff, Sem.run_bind, hv1, hv2, heq, Result.andThen_ok]
        subst h3
        cases r1
        · simp
        · simp [hrest]
      · cases h

theorem equalIn_run : ∀ (d : Nat) (t : TypeId) (l : List Nat), kindsOf P d t = some l → ∀ (e : Nat), d ≤ e → ∀ (u v : Value) (x y : List CV) (r : Bool),
    Fits P fid X w t u x → Fits P fid X w t v y → eqCells l x y = some r → (Op.equalIn e t u v).run P w = .ok r w
  | 0, _, _, h, _, _, _, _, _, _, _, _, _, _ => by cases h
  | d + 1, t, l, h, e, he, u, v, x, y, r, hu, hv, hr => by
    obtain ⟨e, rfl⟩ : ∃ k, e = k + 1 := ⟨e - 1, by omega⟩
    simp only [kindsOf] at h
    split at h
    · rename_i k ht
      cases h
      simp only [Fits, ht] at hu hv
      obtain ⟨c, rfl, hc⟩ := hu
      obtain ⟨c', rfl, hc'⟩ := hv
      simp only [eqCells, Option.bind_eq_some_iff] at hr
      obtain ⟨p, hp, q, hq, hr⟩ := hr
      cases hq; cases hr
      cases c <;> simp only [eqCell] at hp <;> first | cases hp; done | skip
      cases c' <;> simp only [eqCell] at hp <;> first | cases hp; done | skip
      split at hp
      · rename_i hk
        cases hk; cases hp
        rw [hc.int_inv, hc'.int_inv, run_equalIn_int w e t _ _ _ _ ht]
        simp
      · cases hp
    · rename_i ht
      cases h
      simp only [Fits, ht] at hu hv
      obtain ⟨c, rfl, hc⟩ := hu
      obtain ⟨c', rfl, hc'⟩ := hv
      simp only [eqCells, Option.bind_eq_some_iff] at hr
      obtain ⟨p, hp, q, hq, hr⟩ := hr
      cases hq; cases hr
      cases c <;> simp only [eqCell] at hp <;> first | cases hp; done | skip
      cases c' <;> simp only [eqCell] at hp <;> first | cases hp; done | skip
      cases hp
      rw [hc.str_inv, hc'.str_inv, run_equalIn_string w e t _ _ ht]
      simp
    · rename_i ht
      cases h
      simp only [Fits, ht] at hu hv
      obtain ⟨c, rfl, hc⟩ := hu
      obtain ⟨c', rfl, hc'⟩ := hv
      simp only [eqCells, Option.bind_eq_some_iff] at hr
      obtain ⟨p, hp, q, hq, hr⟩ := hr
      cases hq; cases hr
      cases c <;> simp only [eqCell] at hp <;> first | cases hp; done | skip
      cases c' <;> simp only [eqCell] at hp <;> first | cases hp; done | skip
      cases hp
      rw [hc.bool_inv, hc'.bool_inv, run_equalIn_bool' w e t _ _ ht]
      simp
    · rename_i fs ht
      split at h
      · cases h
      · rename_i hst
        simp only [Fits, ht] at hu hv
        obtain ⟨us, rfl, hus, hux⟩ := hu
        obtain ⟨vs, rfl, hvs, hvx⟩ := hv
        have hf : P.fieldsOf t = fs := by simp [Program.fieldsOf, ht]
        rw [run_equalIn_struct w e t us vs (by rw [hf]; exact ht) (by simpa using hst), hf]
        exact goK_at e (fun t l hk u v x y r h1 h2 h3 => equalIn_run d t l hk e (by omega) u v x y r h1 h2 h3) hus hvs hux hvx fs.toList 0 l r (Nat.zero_le _) (Nat.zero_le _) h (by simpa using hr)
    · rename_i n et ht
      simp only [Option.bind_eq_some_iff] at h
      obtain ⟨le, hle, h⟩ := h
      split at h
      · rename_i hsz
        cases h
        simp only [Fits, ht] at hu hv
        obtain ⟨us, rfl, hus, hux⟩ := hu
        obtain ⟨vs, rfl, hvs, hvx⟩ := hv
        obtain ⟨i, hi, hii⟩ := Option.map_eq_some_iff.1 (show (P.info? et).map (·.size) = some le.length from hsz)
        have hsize : (sizeOf et).run P w = .ok le.length w := by simp [sizeOf, typeInfo, hi, hii]
        have hlen := eqCells_len hr
        obtain ⟨hune, hone⟩ := kinds_pos hle
        have hfl : (List.replicate n le).flatten.length = n * le.length := by simp [List.length_flatten]
        simp only [Op.equalIn, Sem.run_bind, run_underlying ht, Result.andThen_ok, hsize, Std.Legacy.Range.forIn_eq_forIn_range', Std.Legacy.Range.size, Nat.sub_zero, Nat.add_sub_cancel, Nat.div_one]
        have key : ∀ (k : Nat) (j : Nat) (r : Bool), j + k = n → eqCells (List.replicate k le).flatten (x.drop (j * le.length)) (y.drop (j * le.length)) = some r →
            ((forIn (List.range' j k) ((none, ()) : Option Bool × Unit) fun i _ => do
              if !(← Op.equalIn e et (← part et us (i * le.length)) (← part et vs (i * le.length))) then pure (ForInStep.done (some false, ())) else
                pure (ForInStep.yield (none, ())) : Sem _).run P w) = .ok (if r then none else some false, ()) w := by
          intro k
          induction k with
          | zero =>
            intro j r _ hk
            cases eqCells_nil hk; simp
          | succ k ihk =>
            intro j r hj hk
            simp only [List.replicate_succ, List.flatten_cons] at hk
            have hlk := eqCells_len hk
            obtain ⟨r1, r2, h1, h2, h3⟩ := eqCells_app hk
            simp only [List.length_drop, List.length_append] at hlk
            have hmul : (j + 1) * le.length ≤ n * le.length := Nat.mul_le_mul_right _ (by omega)
            rw [Nat.add_mul, Nat.one_mul] at hmul
            obtain ⟨v1, hv1, fit1⟩ := part_run (P := P) (fid := fid) (X := X) (w := w) (t := et) (off := j * le.length) hsz hus (by omega) hone hune hux
            obtain ⟨v2, hv2, fit2⟩ := part_run (P := P) (fid := fid) (X := X) (w := w) (t := et) (off := j * le.length) hsz hvs (by omega) hone hune hvx
            have heq := equalIn_run d et le hle e (by omega) v1 v2 _ _ r1 fit1 fit2 h1
            have hrest := ihk (j + 1) r2 (by omega) (by simpa [List.drop_drop, Nat.add_mul] using h2)
            simp only [List.range'_succ, List.forIn_cons, Sem.run_bind, hv1, hv2, heq, Result.andThen_ok, Sem.run_ite]
            subst h3
            cases r1
            · simp
            · simp only [Bool.not_true, Bool.false_eq_true, if_false, Sem.run_bind, Sem.run_pure, Result.andThen_ok, Bool.true_and]
              exact hrest
        have := key n 0 r (by omega) (by simpa using hr)
        rw [this]
        cases r <;> simp
      · cases h
    · cases h

theorem equal_agg {t : TypeId} {l : List Nat} {u v : Value} {x y : List CV} {r : Bool} (hk : kindsOf P 50 t = some l) (hd : (∃ fs, P.underlying t = some (.struct fs)) ∨ (∃ n e, P.underlying t = some (.array n e)))
    (hu : VR fid X w (.agg x) u) (hv : VR fid X w (.agg y) v) (hr : eqCells l x y = some r) : (Op.equal t u v).run P w = .ok r w := by
  cases hu with
  | @agg _ us h1 h2 h3 =>
    cases hv with
    | @agg _ vs g1 g2 g3 =>
      unfold Op.equal
      refine equalIn_run (fid := fid) (X := X) 50 t l hk Op.maxDepth (by decide) _ _ x y r ?_ ?_ hr
      · rcases hd with ⟨fs, hd⟩ | ⟨n, e, hd⟩ <;> simp only [Fits, hd] <;> exact ⟨us, rfl, h1, h3⟩
      · rcases hd with ⟨fs, hd⟩ | ⟨n, e, hd⟩ <;> simp only [Fits, hd] <;> exact ⟨vs, rfl, g1, g3⟩

theorem eqSimple {d : Nat} {t : TypeId} {k : EqK} {x y : CV} {u v : Value} {r : Bool} (hk : eqK P t = some k) (hna : ∀ ks, k ≠ .agg ks) (hu : VR fid X w x u) (hv : VR fid X w y v)
    (hr : eqV k x y = some r) : (Op.equalIn (d + 1) t u v).run P w = .ok r w := by
  unfold eqK at hk
  split at hk
  · rename_i ht
    cases hk
    cases x <;> simp only [eqV] at hr <;> first | cases hr; done | skip
    cases y <;> simp only [eqV] at hr <;> first | cases hr; done | skip
    cases hr
    rw [hu.bool_inv, hv.bool_inv]
    exact run_equalIn_bool' w d t _ _ ht
  · rename_i e ht
    cases hk
    cases x <;> simp only [eqV] at hr <;> first | cases hr; done | skip
    all_goals cases y <;> simp only [eqV] at hr <;> first | cases hr; done | skip
    all_goals cases hr; cases hu; cases hv; simp only [Op.equalIn, Sem.run_bind, run_underlying ht, Result.andThen_ok]; rfl
  · rename_i e ht
    cases hk
    cases x <;> simp only [eqV] at hr <;> first | cases hr; done | skip
    all_goals cases y <;> simp only [eqV] at hr <;> first | cases hr; done | skip
    all_goals cases hr; cases hu; cases hv; simp only [Op.equalIn, Sem.run_bind, run_underlying ht, Result.andThen_ok]; rfl
  · rename_i e ht
    cases hk
    cases x <;> simp only [eqV] at hr <;> first | cases hr; done | skip
    all_goals cases y <;> simp only [eqV] at hr <;> first | cases hr; done | skip
    all_goals cases hr; cases hu; cases hv; simp only [Op.equalIn, Sem.run_bind, run_underlying ht, Result.andThen_ok]; rfl
  · rename_i e ht
    cases hk
    cases x <;> simp only [eqV] at hr <;> first | cases hr; done | skip
    all_goals cases y <;> simp only [eqV] at hr <;> first | cases hr; done | skip
    all_goals cases hr; cases hu; cases hv; simp only [Op.equalIn, Sem.run_bind, run_underlying ht, Result.andThen_ok]; rfl
  · rename_i e ht
    cases hk
    cases x <;> simp only [eqV] at hr <;> first | cases hr; done | skip
    all_goals cases y <;> simp only [eqV] at hr <;> first | cases hr; done | skip
    all_goals cases hr; cases hu; cases hv; simp only [Op.equalIn, Sem.run_bind, run_underlying ht, Result.andThen_ok]; rfl
  · split at hk
    · cases hk
    · simp only [Option.bind_eq_some_iff] at hk
      obtain ⟨l, hl, hk⟩ := hk
      cases hk
      exact absurd rfl (hna _)
  · split at hk
    · cases hk
    · simp only [Option.bind_eq_some_iff] at hk
      obtain ⟨l, hl, hk⟩ := hk
      cases hk
      exact absurd rfl (hna _)
  · cases hk

theorem eqV_run {t : TypeId} {k : EqK} {x y : CV} {u v : Value} {r : Bool} (hk : eqK P t = some k) (hu : VR fid X w x u) (hv : VR fid X w y v) (hr : eqV k x y = some r) :
    (Op.equal t u v).run P w = .ok r w := by
  by_cases hna : ∀ ks, k ≠ .agg ks
  · exact eqSimple (d := 9999) hk hna hu hv hr
  · obtain ⟨ks, hks⟩ : ∃ ks, k = .agg ks := Classical.byContradiction fun h => hna fun ks e => h ⟨ks, e⟩
    subst hks
    unfold eqK at hk
    split at hk <;> first | cases hk; done | skip
    · rename_i fs ht
      split at hk
      · cases hk
      · simp only [Option.bind_eq_some_iff] at hk
        obtain ⟨l, hl, hk⟩ := hk
        cases hk
        cases x <;> simp only [eqV] at hr <;> first | cases hr; done | skip
        cases y <;> simp only [eqV] at hr <;> first | cases hr; done | skip
        exact equal_agg hl (.inl ⟨_, ht⟩) hu hv hr
    · rename_i n e ht
      split at hk
      · cases hk
      · simp only [Option.bind_eq_some_iff] at hk
        obtain ⟨l, hl, hk⟩ := hk
        cases hk
        cases x <;> simp only [eqV] at hr <;> first | cases hr; done | skip
        cases y <;> simp only [eqV] at hr <;> first | cases hr; done | skip
        exact equal_agg hl (.inr ⟨_, _, ht⟩) hu hv hr

/-- The whole operation '==' ('neg': '!='). -/
theorem eqOp_run {neg : Bool} {t : TypeId} {k : EqK} {xo yo : Operand} {x y : CV} {u v : Value} {r : Bool} (hk : eqK P t = some k) (hu : VR fid X w x u) (hv : VR fid X w y v)
    (hr : eqV k x y = some r) : ((do eqGuard (if neg then .neq else .eql) t xo yo u v; Go.binOp (if neg then .neq else .eql) t u v : Sem Value).run P w) = .ok (.bool (r != neg)) w := by
  have he := eqV_run hk hu hv hr
  have hg : (eqGuard (if neg then .neq else .eql) t xo yo u v).run P w = .ok () w := by
    by_cases hag : ∃ cs, u = .agg cs
    · obtain ⟨cs, rfl⟩ := hag
      by_cases hag' : ∃ ds, v = .agg ds
      · obtain ⟨ds, rfl⟩ := hag'
        refine run_eqGuard_agg w _ t xo yo cs ds ?_
        cases hu; cases hv
        cases k <;> simp only [eqV] at hr <;> first | cases hr; done | skip
        unfold eqK at hk
        split at hk <;> first | cases hk; done | skip
        · split at hk
          · cases hk
          · rename_i hh; simpa using hh
        · split at hk
          · cases hk
          · rename_i hh; simpa using hh
      · unfold eqGuard
        cases v <;> first | exact absurd ⟨_, rfl⟩ hag' | (cases neg <;> rfl)
    · by_cases hni : u = .nilIface
      · subst hni
        have hvn : v ≠ .nilIface := by
          intro e
          subst e
          cases hu; cases hv
          cases k <;> simp [eqV] at hr
        unfold eqGuard
        cases v <;> first | exact absurd rfl hvn | (cases neg <;> rfl)
      · exact guard_run (fun cs e => hag ⟨cs, e⟩) hni
  have hb : ∀ op, (op = .eql ∨ op = .neq) → (Go.binOp op t u v) = (match op with | .eql => (do pure (.bool (← Op.equal t u v)) : Sem Value) | _ => (do pure (.bool (!(← Op.equal t u v))) : Sem Value)) := by
    have nint : ∀ k n, u ≠ .int k n := by
      rintro k' n rfl
      cases hu
      cases k <;> cases y <;> simp [eqV] at hr
    have nstr : ∀ s, u ≠ .string s := by
      rintro s rfl
      cases hu
      cases k <;> cases y <;> simp [eqV] at hr
    have nfl : ∀ k b, u ≠ .float k b := by
      rintro k' n rfl
      cases hu
    have nco : ∀ k b c, u ≠ .complex k b c := by
      rintro k' n m rfl
      cases hu
    rintro op (rfl | rfl)
    · cases u <;> first | exact absurd rfl (nint _ _) | exact absurd rfl (nstr _) | exact absurd rfl (nfl _ _) | exact absurd rfl (nco _ _ _) | rfl
    · cases u <;> first | exact absurd rfl (nint _ _) | exact absurd rfl (nstr _) | exact absurd rfl (nfl _ _) | exact absurd rfl (nco _ _ _) | rfl
  cases neg
  · simp only [Bool.false_eq_true, if_false] at hg ⊢
    simp only [Sem.run_bind, hg, Result.andThen_ok]
    rw [hb .eql (.inl rfl)]
    simp [he]
  · simp only [if_true] at hg ⊢
    simp only [Sem.run_bind, hg, Result.andThen_ok]
    rw [hb .neq (.inr rfl)]
    simp [he]

end Go.Cs

/- The operations, one by one: memory. -/
namespace Go.Cs
open Go.RowKit (Below)
variable {P : Program} {fid : FuncId → Option Nat} {N : Nat} {w0 : World} {X : Cx} {cw : CW} {w : World} {ρ : Env} {a : Act}

theorem add_none (r o n : Nat) : (Addr.mk r o none).add n = ⟨r, o + n, none⟩ := by
  unfold Addr.add
  split
  · rename_i h; subst h; rfl
  · rfl

theorem one_vr {c : CV} {v : Value} (h : VR fid X w c v) (h1 : c.one = true) : v.oneCell' = true := by
  cases h <;> first | rfl | (simp [CV.one] at h1)

/-- A row of cells that reads as canonical ones. -/
def RowAt (fid : FuncId → Option Nat) (X : Cx) (w : World) (r o : Nat) (cs : List CV) : Prop :=
  ∀ (i : Nat) (c : CV), cs[i]? = some c → c.one = true ∧ ∃ v, w.cell? ⟨r, o + i, none⟩ = some v ∧ VR fid X w c v

theorem RowAt.sub {r o : Nat} {cs : List CV} (h : RowAt fid X w r o cs) (off n : Nat) : RowAt fid X w r (o + off) ((cs.drop off).take n) := by
  intro i c hc
  rw [List.getElem?_take] at hc
  split at hc
  · rw [List.getElem?_drop] at hc
    rw [Nat.add_assoc]
    exact h _ c hc
  · cases hc

theorem Sim.rowAt (h : Sim fid N w0 X cw w) {b : Nat} {cs : List CV} (hg : cw.get b = some (.cells cs)) :
    ∃ m, X.M b = some m ∧ RowAt fid X w m.1 m.2.1 cs := by
  obtain ⟨m, hm, rcs, T, fr, h1, h2, h3, h4, h5⟩ := h.get hg
  refine ⟨m, hm, fun i c hc => ⟨(h5 i c hc).1, _, ?_, (h5 i c hc).2⟩⟩
  have hi : i < cs.length := (List.getElem?_eq_some_iff.1 hc).1
  have hlt : m.2.1 + i < rcs.size := by omega
  simp only [World.cell?, h1, Option.isSome_none, Bool.false_eq_true, if_false]
  simp [hlt]

theorem VR.row_inv {cs : List CV} {off : Nat} {v : Value} (h : VR fid X w (.row cs off) v) :
    ∃ r o, v = .pointer (some ⟨r, o + off, none⟩) ∧ RowAt fid X w r o cs ∧ ∀ (i : Nat) (c : CV), cs[i]? = some c → X.I r (o + i) := by
  cases h with
  | @row _ _ r o h1 h2 =>
    refine ⟨r, o, rfl, fun i c hc => ⟨(h1 i c hc).1, cellD w r (o + i), ?_, h2 i c hc⟩, fun i c hc => (h1 i c hc).2.1⟩
    have := (h1 i c hc).2.2
    unfold cellD
    cases hh : w.cell? ⟨r, o + i, none⟩ with
    | none => rw [hh] at this; cases this
    | some v => rfl

theorem VR.vec_inv {cs : List CV} {n : Nat} {clip : Bool} {v : Value} (h : VR fid X w (.vec cs n clip) v) :
    ∃ r o cap, v = .slice (some ⟨r, o, none⟩) n cap ∧ n ≤ cap ∧ (clip = true → cap = n) ∧ RowAt fid X w r o cs ∧ ∀ (i : Nat) (c : CV), cs[i]? = some c → X.I r (o + i) := by
  cases h with
  | @vec _ _ cap r o _ h0 hc h1 h2 =>
    refine ⟨r, o, cap, rfl, h0, hc, fun i c hc => ⟨(h1 i c hc).1, cellD w r (o + i), ?_, h2 i c hc⟩, fun i c hc => (h1 i c hc).2.1⟩
    have := (h1 i c hc).2.2
    unfold cellD
    cases hh : w.cell? ⟨r, o + i, none⟩ with
    | none => rw [hh] at this; cases this
    | some v => rfl

theorem RowAt.row {r o : Nat} {cs : List CV} (h : RowAt fid X w r o cs) (hI : ∀ (i : Nat) (c : CV), cs[i]? = some c → X.I r (o + i)) (off : Nat) :
    VR fid X w (.row cs off) (.pointer (some ⟨r, o + off, none⟩)) := by
  refine .row (fun i c hc => ⟨(h i c hc).1, hI i c hc, ?_⟩) fun i c hc => ?_
  · obtain ⟨_, v, hv, _⟩ := h i c hc; rw [hv]; rfl
  · obtain ⟨_, v, hv, hr⟩ := h i c hc; unfold cellD; rw [hv]; exact hr

theorem RowAt.vec {r o : Nat} {cs : List CV} (h : RowAt fid X w r o cs) (hI : ∀ (i : Nat) (c : CV), cs[i]? = some c → X.I r (o + i)) {n cap : Nat} {clip : Bool}
    (hn : n ≤ cap) (hc : clip = true → cap = n) : VR fid X w (.vec cs n clip) (.slice (some ⟨r, o, none⟩) n cap) := by
  refine .vec hn hc (fun i c hc => ⟨(h i c hc).1, hI i c hc, ?_⟩) fun i c hc => ?_
  · obtain ⟨_, v, hv, _⟩ := h i c hc; rw [hv]; rfl
  · obtain ⟨_, v, hv, hr⟩ := h i c hc; unfold cellD; rw [hv]; exact hr

/-- The values of a row. -/
theorem RowAt.vals {r o : Nat} {cs : List CV} (h : RowAt fid X w r o cs) : ∃ vs : List Value, vs.length = cs.length ∧
    (∀ (i : Nat) (v : Value), vs[i]? = some v → w.cell? ⟨r, o + i, none⟩ = some v) ∧ ∀ (i : Nat) (c : CV), cs[i]? = some c → c.one = true ∧ VR fid X w c (vs[i]?.getD undef) := by
  refine ⟨(List.range cs.length).map fun i => cellD w r (o + i), by simp, fun i v hv => ?_, fun i c hc => ?_⟩
  · simp only [List.getElem?_map, Option.map_eq_some_iff] at hv
    obtain ⟨j, hj, rfl⟩ := hv
    have hlt : i < cs.length := by
      have := (List.getElem?_eq_some_iff.1 hj).1
      simpa using this
    have : j = i := by simpa [List.getElem?_range hlt] using hj.symm
    subst this
    obtain ⟨_, v, hv, _⟩ := h j _ (List.getElem?_eq_getElem hlt)
    unfold cellD; rw [hv]; rfl
  · have hlt : i < cs.length := (List.getElem?_eq_some_iff.1 hc).1
    obtain ⟨h1, v, hv, hr⟩ := h i c hc
    refine ⟨h1, ?_⟩
    simp only [List.getElem?_map, List.getElem?_range hlt, Option.map_some, Option.getD_some]
    unfold cellD; rw [hv]; exact hr

theorem loadCells_run {r o : Nat} {vs : List Value} (h : ∀ (i : Nat) (v : Value), vs[i]? = some v → w.cell? ⟨r, o + i, none⟩ = some v) :
    (loadCells ⟨r, o, none⟩ vs.length).run P w = .ok vs.toArray w :=
  run_loadCells_list w ⟨r, o, none⟩ vs fun j v hj => by rw [add_none]; exact h j v hj

theorem tyOf_spec {t : TypeId} {q : Bool × Nat} (h : tyOf P t = some q) : (isAgg t).run P w = .ok q.1 w ∧ (sizeOf t).run P w = .ok q.2 w ∧ szOf P t = some q.2 ∧ (q.1 = false → q.2 = 1) ∧
    ∃ d, P.underlying t = some d ∧ isAggD d = q.1 := by
  unfold tyOf at h
  split at h
  · rename_i d i hd hi
    split at h
    · rename_i hc
      cases h
      refine ⟨?_, ?_, by simp [szOf, hi], fun hf => ?_, d, hd, rfl⟩
      · simp only [isAgg, Sem.run_bind, run_underlying hd, Result.andThen_ok]
        cases d <;> rfl
      · simp [sizeOf, typeInfo, hi]
      · simp only [Bool.or_eq_true, beq_iff_eq] at hc
        rcases hc with hc | hc
        · rw [hc] at hf; cases hf
        · exact hc
    · cases h
  · cases h

theorem szOf_run {t : TypeId} {n : Nat} (h : szOf P t = some n) : (sizeOf t).run P w = .ok n w := by
  unfold szOf at h
  obtain ⟨i, hi, rfl⟩ := Option.map_eq_some_iff.1 h
  simp [sizeOf, typeInfo, hi]

theorem load_run {t : TypeId} {q : Bool × Nat} (hq : tyOf P t = some q) {r o off : Nat} {cs : List CV} {c : CV} (h : RowAt fid X w r o cs) (hl : ldc q.1 q.2 cs off = some c) :
    ∃ v, (loadVar t ⟨r, o + off, none⟩).run P w = .ok v w ∧ VR fid X w c v := by
  obtain ⟨h1, h2, _, _, _⟩ := tyOf_spec (w := w) hq
  unfold ldc at hl
  split at hl
  · rename_i ha
    split at hl
    · rename_i hle
      cases hl
      obtain ⟨vs, k1, k2, k3⟩ := (h.sub off q.2).vals
      have hlen : vs.length = q.2 := by rw [k1, List.length_take, List.length_drop]; omega
      refine ⟨.agg vs.toArray, ?_, ?_⟩
      · simp only [loadVar, Sem.run_bind, h1, ha, Result.andThen_ok, if_true, h2]
        rw [← hlen, loadCells_run k2]
        rfl
      · refine .agg (by simp [k1]) (fun i c hc => (k3 i c hc).1) fun i c hc => ?_
        have := (k3 i c hc).2
        simpa [Array.getD_eq_getD_getElem?] using this
    · cases hl
  · rename_i ha
    obtain ⟨_, v, hv, hr⟩ := h off c hl
    refine ⟨v, ?_, hr⟩
    simp only [loadVar, Sem.run_bind, h1, Result.andThen_ok, ha]
    simp [hv]

theorem storeCells_run {r : Nat} {T : TypeId} {fr : Nat × Nat} : ∀ (vs : List Value) (o i : Nat) (w : World) (rcs : Array Value), w.heap[r]? = some (.cells rcs T fr) →
    (fr.2 ≤ fr.1 ∨ rcs.size ≤ fr.1) → o + i + vs.length ≤ rcs.size → (∀ v ∈ vs, v.oneCell' = true) →
    ∃ w' rcs', (storeCells ⟨r, o, none⟩ vs i).run P w = .ok () w' ∧ Upd w r (.cells rcs' T fr) w' ∧ rcs'.size = rcs.size ∧
      ∀ j, rcs'[j]? = if o + i ≤ j ∧ j < o + i + vs.length then vs[j - (o + i)]? else rcs[j]?
  | [], o, i, w, rcs, h, _, _, _ => ⟨w, rcs, rfl, ⟨rfl, rfl, rfl, rfl, h, fun _ _ => rfl⟩, rfl, fun j => by
      rw [if_neg (by simp only [List.length_nil]; omega)]⟩
  | v :: vs, o, i, w, rcs, h, hfr, hle, h1 => by
    simp only [List.length_cons] at hle
    have hcell : w.cell? ⟨r, o + i, none⟩ = some (rcs[o + i]'(by omega)) := by
      simp only [World.cell?, h, Option.isSome_none, Bool.false_eq_true, if_false]
      simp
    have hfz : w.frozen? ⟨r, o + i, none⟩ = false := by
      simp only [World.frozen?, h]
      simp only [Bool.and_eq_false_iff, decide_eq_false_iff_not]
      omega
    have hheap : (w.setCell ⟨r, o + i, none⟩ v).heap[r]? = some (.cells (rcs.setIfInBounds (o + i) v) T fr) := by
      simp [World.setCell, Array.getElem?_modify, h]
    obtain ⟨w', rcs', k1, k2, k3, k4⟩ := storeCells_run vs o (i + 1) (w.setCell ⟨r, o + i, none⟩ v) _ hheap (by simpa using hfr) (by simp; omega) fun u hu => h1 u (by simp [hu])
    refine ⟨w', rcs', ?_, ?_, by rw [k3]; simp, fun j => ?_⟩
    · simp only [storeCells, Sem.run_bind, add_none]
      rw [run_store P w _ v .plain (h1 v (by simp))]
      simp only [hcell, hfz, Bool.false_eq_true, if_false, Result.andThen_ok]
      exact k1
    · refine ⟨k2.os, k2.tape, k2.output, ?_, k2.here, fun k hk => ?_⟩
      · rw [k2.size]; simp [World.setCell]
      · rw [k2.there k hk]; exact Below.heap_setCell w _ v k hk
    · rw [k4 j]
      simp only [List.length_cons]
      by_cases hj : j = o + i
      · subst hj
        rw [if_neg (by omega), if_pos (by omega), Array.getElem?_setIfInBounds_self_of_lt (by omega)]
        simp
      · by_cases hj2 : o + (i + 1) ≤ j ∧ j < o + (i + 1) + vs.length
        · rw [if_pos hj2, if_pos (by omega)]
          rw [show j - (o + i) = (j - (o + (i + 1))) + 1 by omega]
          simp
        · rw [if_neg hj2, if_neg (by omega)]
          rw [Array.getElem?_setIfInBounds_ne (by omega)]

theorem splice_at (cs vs : List CV) (off : Nat) (hle : off + vs.length ≤ cs.length) (i : Nat) : (splice cs off vs)[i]? = if off ≤ i ∧ i < off + vs.length then vs[i - off]? else cs[i]? := by
  unfold splice
  have h1 : (cs.take off).length = off := by rw [List.length_take]; omega
  by_cases h : i < off
  · rw [if_neg (by omega), List.append_assoc, List.getElem?_append_left (by omega), List.getElem?_take, if_pos h]
  · by_cases h2 : i < off + vs.length
    · rw [if_pos ⟨by omega, h2⟩, List.append_assoc, List.getElem?_append_right (by omega), h1, List.getElem?_append_left (by omega)]
    · rw [if_neg (by omega), List.getElem?_append_right (by simp only [List.length_append, h1]; omega), List.getElem?_drop]
      simp only [List.length_append, h1]
      congr 1
      omega

theorem splice_length (cs vs : List CV) (off : Nat) (hle : off + vs.length ≤ cs.length) : (splice cs off vs).length = cs.length := by
  simp [splice]; omega

/-- Values stored into a canonical block. -/
theorem store_sim (h : Sim fid N w0 X cw w) {b : Nat} {cs ds : List CV} {off : Nat} (hg : cw.get b = some (.cells cs)) (hle : off + ds.length ≤ cs.length) {vs : List Value}
    (hl : vs.length = ds.length) (hv : ∀ (i : Nat) (c : CV), ds[i]? = some c → c.one = true ∧ VR fid X w c (vs[i]?.getD undef)) :
    ∃ m w', X.M b = some m ∧ (storeCells ⟨m.1, m.2.1 + off, none⟩ vs 0).run P w = .ok () w' ∧ Sim fid N w0 X (cw.set b (.cells (splice cs off ds))) w' ∧ Ext X w X w' := by
  obtain ⟨m, hm, rcs, T, fr, h1, h2, h3, h4, h5⟩ := h.get hg
  have hone : ∀ v ∈ vs, v.oneCell' = true := by
    intro v hvm
    obtain ⟨i, hi, rfl⟩ := List.getElem_of_mem hvm
    obtain ⟨k1, k2⟩ := hv i _ (List.getElem?_eq_getElem (by omega))
    rw [List.getElem?_eq_getElem hi] at k2
    exact one_vr k2 k1
  obtain ⟨w', rcs', k1, k2, k3, k4⟩ := storeCells_run (P := P) vs (m.2.1 + off) 0 w rcs h1 h4 (by omega) hone
  have ex := h.upd_ext hm k2
  obtain ⟨s1, s2⟩ := h.upd (o := .cells (splice cs off ds)) hm k2 ⟨rcs', T, fr, k2.here, by rw [splice_length _ _ _ hle]; exact h2, by omega, by rw [k3]; exact h4, fun i c hc => by
    rw [splice_at _ _ _ hle] at hc
    split at hc
    · rename_i hi
      obtain ⟨q1, q2⟩ := hv _ c hc
      refine ⟨q1, ?_⟩
      have : rcs'.getD (m.2.1 + i) undef = vs[i - off]?.getD undef := by
        rw [Array.getD_eq_getD_getElem?, k4, if_pos (by omega)]
        rw [show m.2.1 + i - (m.2.1 + off + 0) = i - off by omega]
      rw [this]; exact q2.mono ex
    · rename_i hi
      obtain ⟨q1, q2⟩ := h5 i c hc
      refine ⟨q1, ?_⟩
      have : rcs'.getD (m.2.1 + i) undef = rcs.getD (m.2.1 + i) undef := by
        rw [Array.getD_eq_getD_getElem?, k4, if_neg (by omega), Array.getD_eq_getD_getElem?]
      rw [this]; exact q2.mono ex⟩
  exact ⟨m, w', hm, k1, s1, s2⟩

/-- A row that the call makes: cells told, and perhaps more behind them. -/
theorem new_imm (h : Sim fid N w0 X cw w) {cs : List CV} {rcs : Array Value} {T : TypeId} {fr : Nat × Nat} (hl : cs.length ≤ rcs.size)
    (hv : ∀ (i : Nat) (c : CV), cs[i]? = some c → c.one = true ∧ VR fid X w c (rcs.getD i undef)) {n cap : Nat} {clip : Bool} (hn : n ≤ cap) (hc : clip = true → cap = n) :
    ∃ X', Sim fid N w0 X' cw (w.alloc (.cells rcs T fr)) ∧ Ext X w X' (w.alloc (.cells rcs T fr)) ∧ VR fid X' (w.alloc (.cells rcs T fr)) (.vec cs n clip) (.slice (some ⟨w.heap.size, 0, none⟩) n cap) := by
  obtain ⟨s, e⟩ := h.imm (.cells rcs T fr)
  refine ⟨_, s, e, RowAt.vec (fun i c hc => ?_) (fun i c hc => Or.inr rfl) hn hc⟩
  obtain ⟨k1, k2⟩ := hv i c hc
  refine ⟨k1, rcs.getD i undef, ?_, k2.mono e⟩
  have hi : i < rcs.size := by have := (List.getElem?_eq_some_iff.1 hc).1; omega
  show (w.alloc (.cells rcs T fr)).cell? ⟨w.heap.size, 0 + i, none⟩ = _
  have : (w.heap.push (.cells rcs T fr))[w.heap.size]? = some (.cells rcs T fr) := by simp
  simp only [World.cell?, World.alloc, this, Option.isSome_none, Bool.false_eq_true, if_false]
  simp [hi]

theorem new_mut (h : Sim fid N w0 X cw w) {cs : List CV} {rcs : Array Value} {T : TypeId} {fr : Nat × Nat} (hl : cs.length ≤ rcs.size) (hf : fr.2 ≤ fr.1 ∨ rcs.size ≤ fr.1)
    (hv : ∀ (i : Nat) (c : CV), cs[i]? = some c → c.one = true ∧ VR fid X w c (rcs.getD i undef)) :
    ∃ X', Sim fid N w0 X' (cw.push (.cells cs)) (w.alloc (.cells rcs T fr)) ∧ Ext X w X' (w.alloc (.cells rcs T fr)) ∧
      X'.nx = cw.next + 1 ∧ X'.M cw.next = some (w.heap.size, 0, rcs.size) := by
  have := h.mut (o := .cells cs) (ob := .cells rcs T fr) (base := 0) (e := rcs.size) fun e =>
    ⟨rcs, T, fr, by show (w.heap.push _)[w.heap.size]? = _; simp, hl, by show 0 + rcs.size ≤ rcs.size; omega, hf, fun i c hc => ⟨(hv i c hc).1, by rw [Nat.zero_add]; exact (hv i c hc).2.mono e⟩⟩
  exact ⟨_, this.1, this.2, by simp [h.nx], by simp [h.nx]⟩

end Go.Cs

/- The operations, one by one: literals, slices, appends. -/
namespace Go.Cs
open Go.RowKit (Below)
variable {P : Program} {fid : FuncId → Option Nat} {N : Nat} {w0 : World} {X : Cx} {cw : CW} {w : World} {ρ : Env} {a : Act}

/-- Canonical cells, and Go's, from a place on. -/
def CellsR (fid : FuncId → Option Nat) (X : Cx) (w : World) (cs : List CV) (rcs : Array Value) : Prop :=
  cs.length = rcs.size ∧ ∀ (i : Nat) (c : CV), cs[i]? = some c → c.one = true ∧ VR fid X w c (rcs.getD i undef)

theorem set_fold (off : Nat) : ∀ (vs : List Value) (j : Nat) (cells : Array Value), off + j + vs.length ≤ cells.size →
    ((vs.zipIdx j).foldl (fun cs (x : Value × Nat) => cs.setIfInBounds (off + x.2) x.1) cells).size = cells.size ∧
    ∀ k, ((vs.zipIdx j).foldl (fun cs (x : Value × Nat) => cs.setIfInBounds (off + x.2) x.1) cells)[k]? =
      if off + j ≤ k ∧ k < off + j + vs.length then vs[k - (off + j)]? else cells[k]?
  | [], j, cells, _ => ⟨rfl, fun k => by rw [if_neg (by simp only [List.length_nil]; omega)]; rfl⟩
  | v :: vs, j, cells, h => by
    simp only [List.length_cons] at h
    obtain ⟨h1, h2⟩ := set_fold off vs (j + 1) (cells.setIfInBounds (off + j) v) (by simp; omega)
    simp only [List.zipIdx_cons, List.foldl_cons]
    refine ⟨by rw [h1]; simp, fun k => ?_⟩
    rw [h2 k]
    simp only [List.length_cons]
    by_cases hk : k = off + j
    · subst hk
      rw [if_neg (by omega), if_pos (by omega), Array.getElem?_setIfInBounds_self_of_lt (by omega)]
      simp
    · by_cases hk2 : off + (j + 1) ≤ k ∧ k < off + (j + 1) + vs.length
      · rw [if_pos hk2, if_pos (by omega), show k - (off + j) = (k - (off + (j + 1))) + 1 by omega]
        simp
      · rw [if_neg hk2, if_neg (by omega), Array.getElem?_setIfInBounds_ne (by omega)]

theorem fill_run {place : Nat → Option (Nat × Nat)} (hE : EnvR fid X w ρ a) : ∀ (ps : List (Nat × Operand)) (l : List (Nat × Nat × RX)) (zs cs : List CV) (zarr : Array Value),
    parts fid place ps = some l → fillc (ev ρ) zs l = some cs → CellsR fid X w zs zarr →
    ∃ arr, Instr.fill place zarr (ps.map fun p => (p.1, a.eval p.2)) = some arr ∧ arr.size = zarr.size ∧ CellsR fid X w cs arr
  | [], l, zs, cs, zarr, hp, hf, hz => by
    cases hp; cases hf
    exact ⟨zarr, rfl, rfl, hz⟩
  | (i, x) :: r, l, zs, cs, zarr, hp, hf, hz => by
    simp only [parts, Option.bind_eq_some_iff] at hp
    obtain ⟨p, hpl, y, hy, l', hl', hp⟩ := hp
    cases hp
    obtain ⟨off, n⟩ := p
    simp only [fillc, Option.bind_eq_some_iff] at hf
    obtain ⟨v, hv, hf⟩ := hf
    split at hf
    · rename_i hc
      obtain ⟨hc1, hc2, hc3⟩ := hc
      have hvr := rx_vr hy hv hE
      have hsz := hvr.cells_size
      have hzl := hz.1
      have hle : off + (a.eval x).cells.toList.length ≤ zarr.size := by simp only [Array.length_toList]; omega
      obtain ⟨s1, s2⟩ := set_fold off (a.eval x).cells.toList 0 zarr (by omega)
      have hnew : CellsR fid X w (splice zs off v.cells) (((a.eval x).cells.toList.zipIdx 0).foldl (fun cs (x : Value × Nat) => cs.setIfInBounds (off + x.2) x.1) zarr) := by
        refine ⟨by rw [splice_length _ _ _ (by omega), s1]; exact hzl, fun j c hj => ?_⟩
        rw [splice_at _ _ _ (by omega)] at hj
        rw [Array.getD_eq_getD_getElem?, s2]
        simp only [Array.length_toList]
        split at hj
        · rename_i hin
          rw [if_pos (by omega)]
          refine ⟨(List.all_eq_true.1 hc3) c (List.mem_of_getElem? hj), ?_⟩
          have := hvr.cells_at _ c hj
          rw [Array.getD_eq_getD_getElem?] at this
          simpa using this
        · rename_i hin
          rw [if_neg (by omega), ← Array.getD_eq_getD_getElem?]
          exact hz.2 j c hj
      obtain ⟨arr, g1, g2, g3⟩ := fill_run hE r l' _ cs _ hl' hf hnew
      refine ⟨arr, ?_, by rw [g2]; exact s1, g3⟩
      simp only [List.map_cons, Instr.fill, hpl]
      have hcond : ((a.eval x).cells.size ≠ n || decide (off + (a.eval x).cells.size > zarr.size)) = false := by
        simp only [Bool.or_eq_false_iff, decide_eq_false_iff_not]
        omega
      simp only [Bool.or_eq_true, decide_eq_true_eq] at hcond ⊢
      rw [if_neg (by omega)]
      rw [← g1]
      congr 1
      rw [← Array.foldl_toList, Array.toList_zipIdx]
    · cases hf

theorem repl_at (n : Nat) (z : List CV) : ∀ (k : Nat), (repl n z)[k]? = if k < n * z.length then z[k % z.length]? else none := by
  unfold repl
  induction n with
  | zero => intro k; simp
  | succ n ih =>
    intro k
    simp only [List.replicate_succ, List.flatten_cons]
    by_cases hk : k < z.length
    · rw [List.getElem?_append_left hk, Nat.mod_eq_of_lt hk, if_pos (by rw [Nat.add_mul]; omega)]
    · rw [List.getElem?_append_right (by omega), ih]
      by_cases h2 : k - z.length < n * z.length
      · rw [if_pos h2, if_pos (by rw [Nat.add_mul]; omega), Nat.mod_eq_sub_mod (a := k) (b := z.length) (by omega)]
      · rw [if_neg h2, if_neg (by rw [Nat.add_mul]; omega)]

theorem repl_length (n : Nat) (z : List CV) : (repl n z).length = n * z.length := by simp [repl]

theorem zeroOf_spec {t : TypeId} {z : List CV} (h : zeroOf P t = some z) : ∃ i zv, P.info? t = some i ∧ i.zero = some zv ∧ zv.cells.size = i.size ∧ z.length = i.size ∧
    CellsR fid X w z zv.cells ∧ (zeroValue t).run P w = .ok zv w ∧ szOf P t = some i.size := by
  unfold zeroOf at h
  split at h
  · rename_i i hi
    split at h
    · rename_i zv hz
      split at h
      · rename_i hsz
        obtain ⟨h1, h2⟩ := cvAll_vr (fid := fid) (X := X) (w := w) h
        refine ⟨i, zv, hi, hz, hsz, by rw [h1]; simpa using hsz, ⟨by rw [h1]; simp, fun j c hj => ?_⟩, by simp [zeroValue, typeInfo, hi, hz], by simp [szOf, hi]⟩
        have := h2 j c hj
        simpa [Array.getD_eq_getD_getElem?] using this
      · cases h
    · cases h
  · cases h

theorem zeros_cells {z : List CV} {zs : Array Value} (h : CellsR fid X w z zs) (n : Nat) :
    CellsR fid X w (repl n z) ((Array.range (n * z.length)).map (zs[· % zs.size]!)) := by
  refine ⟨by rw [repl_length]; simp, fun i c hc => ?_⟩
  rw [repl_at] at hc
  split at hc
  · rename_i hi
    obtain ⟨k1, k2⟩ := h.2 _ c hc
    refine ⟨k1, ?_⟩
    have hlt : i % z.length < zs.size := by have := (List.getElem?_eq_some_iff.1 hc).1; rw [← h.1]; exact this
    have : ((Array.range (n * z.length)).map (zs[· % zs.size]!)).getD i undef = zs.getD (i % z.length) undef := by
      rw [Array.getD_eq_getD_getElem?, Array.getElem?_map, Array.getElem?_range, if_pos hi]
      simp only [Option.map_some, Option.getD_some, ← h.1]
      rw [Array.getD_eq_getD_getElem?, Array.getElem?_eq_getElem hlt]
      simp [hlt]
    rw [this]; exact k2
  · cases hc

/-- What an operation does. -/
def OpOk (fid : FuncId → Option Nat) (N : Nat) (w0 : World) (X : Cx) (P : Program) (s : Sem Next) (w : World) (c : CV) (cw' : CW) : Prop :=
  ∃ v w' X', (s.run P w = .ok (.value v) w' ∨ (s.run P w = .ok .skip w' ∧ v = undef)) ∧ Sim fid N w0 X' cw' w' ∧ Ext X w X' w' ∧ VR fid X' w' c v

theorem OpOk.val {s : Sem Value} {c : CV} {cw' : CW} {v : Value} {w' : World} {X' : Cx} (hr : s.run P w = .ok v w') (hS : Sim fid N w0 X' cw' w') (hX : Ext X w X' w')
    (hv : VR fid X' w' c v) : OpOk fid N w0 X P (do pure (.value (← s))) w c cw' :=
  ⟨v, w', X', .inl (by simp [hr]), hS, hX, hv⟩

theorem OpOk.pur {s : Sem Value} {c : CV} {v : Value} (hS : Sim fid N w0 X cw w) (hr : s.run P w = .ok v w) (hv : VR fid X w c v) :
    OpOk fid N w0 X P (do pure (.value (← s))) w c cw := OpOk.val hr hS (.refl X w) hv

theorem OpOk.unit {s : Sem Unit} {cw' : CW} {w' : World} {X' : Cx} (hr : s.run P w = .ok () w') (hS : Sim fid N w0 X' cw' w') (hX : Ext X w X' w') :
    OpOk fid N w0 X P (do s; pure .skip) w (.tup []) cw' :=
  ⟨undef, w', X', .inr ⟨by simp [hr], rfl⟩, hS, hX, .tup0⟩

theorem build_ok {t : TypeId} {ps : Array (Nat × Operand)} {z l} {fs : Array Field} {cs : List CV} (hz : zeroOf P t = some z) (ht : P.underlying t = some (.struct fs))
    (hp : parts fid (fieldsAt P fs) ps.toList = some l) (hall : fs.toList.all (fun f => (szOf P f.type).isSome) = true) (hE : EnvR fid X w ρ a) (hf : fillc (ev ρ) z l = some cs) :
    ∃ v, (Instr.build t (ps.map fun p => (p.1, a.eval p.2))).run P w = .ok v w ∧ VR fid X w (.agg cs) v := by
  obtain ⟨i, zv, hi, hzv, hsz, hzl, hzr, hrun, hso⟩ := zeroOf_spec (fid := fid) (X := X) (w := w) hz
  have hmap : (fs.mapM fun f => do pure (f.offset, ← sizeOf f.type) : Sem (Array (Nat × Nat))).run P w = .ok (fs.map fun f => (f.offset, P.cellsOf f.type)) w := by
    rw [Array.mapM_eq_mapM_toList]
    have key : ∀ l : List Field, l.all (fun f => (szOf P f.type).isSome) = true → (l.mapM (fun f => do pure (f.offset, ← sizeOf f.type)) : Sem (List (Nat × Nat))).run P w = .ok (l.map fun f => (f.offset, P.cellsOf f.type)) w := by
      intro l
      induction l with
      | nil => intro _; simp
      | cons f l ih =>
        intro h
        simp only [List.all_cons, Bool.and_eq_true] at h
        obtain ⟨n, hn⟩ := Option.isSome_iff_exists.1 h.1
        have hc : P.cellsOf f.type = n := by
          unfold szOf at hn
          simp [Program.cellsOf, hn]
        have hs := szOf_run (P := P) (w := w) hn
        simp only [List.mapM_cons, Sem.run_bind, hs, Result.andThen_ok, Sem.run_pure, ih h.2, List.map_cons, hc]
    rw [map_eq_pure_bind]
    simp only [Sem.run_bind, key _ hall, Result.andThen_ok, Sem.run_pure]
    rw [← List.map_toArray, Array.toArray_toList]
  have hpl : parts fid ((fs.map fun f => (f.offset, P.cellsOf f.type))[·]?) ps.toList = some l := by
    rw [← hp]
    clear hp hf
    congr 1
    funext k
    unfold fieldsAt
    cases hk : fs[k]? with
    | none => simp [hk]
    | some f =>
      have : (szOf P f.type).isSome := (List.all_eq_true.1 hall) f (by
        have := Array.mem_of_getElem? hk
        exact Array.mem_toList_iff.2 this)
      obtain ⟨n, hn⟩ := Option.isSome_iff_exists.1 this
      have hc : P.cellsOf f.type = n := by
        have h2 := hn
        unfold szOf at h2
        simp [Program.cellsOf, h2]
      simp [hk, hn, hc]
  obtain ⟨arr, g1, g2, g3⟩ := fill_run hE ps.toList l z cs zv.cells hpl hf hzr
  refine ⟨.agg arr, ?_, .agg g3.1.symm (fun i c hc => (g3.2 i c hc).1) fun i c hc => (g3.2 i c hc).2⟩
  simp only [Instr.build, Sem.run_bind, hrun, Result.andThen_ok, run_underlying ht, hmap]
  simp only [Array.toList_map]
  rw [g1]
  rfl

theorem build_arr {t e : TypeId} {len n : Nat} {ps : Array (Nat × Operand)} {z l} {cs : List CV} (hz : zeroOf P t = some z) (ht : P.underlying t = some (.array len e)) (hn : szOf P e = some n)
    (hp : parts fid (fun i => some (i * n, n)) ps.toList = some l) (hE : EnvR fid X w ρ a) (hf : fillc (ev ρ) z l = some cs) :
    ∃ v, (Instr.build t (ps.map fun p => (p.1, a.eval p.2))).run P w = .ok v w ∧ VR fid X w (.agg cs) v := by
  obtain ⟨i, zv, hi, hzv, hsz, hzl, hzr, hrun, hso⟩ := zeroOf_spec (fid := fid) (X := X) (w := w) hz
  obtain ⟨arr, g1, g2, g3⟩ := fill_run hE ps.toList l z cs zv.cells hp hf hzr
  refine ⟨.agg arr, ?_, .agg g3.1.symm (fun i c hc => (g3.2 i c hc).1) fun i c hc => (g3.2 i c hc).2⟩
  simp only [Instr.build, Sem.run_bind, hrun, Result.andThen_ok, run_underlying ht, szOf_run hn]
  simp only [Array.toList_map]
  rw [g1]
  rfl

theorem lit_run {t e : TypeId} {len n : Nat} {ps : Array (Nat × Operand)} {z l} {cs : List CV} (ht : P.underlying t = some (.slice e)) (hz : zeroOf P e = some z) (hn : szOf P e = some n)
    (hp : parts fid (fun i => some (i * n, n)) ps.toList = some l) (hno : ¬(n = 0 ∨ len * n > 2 ^ 24)) (hE : EnvR fid X w ρ a) (hf : fillc (ev ρ) (repl len z) l = some cs) :
    ∃ arr, (Instr.buildSlice t len (ps.map fun p => (p.1, a.eval p.2))).run P w = .ok (.slice (some ⟨w.heap.size, 0, none⟩) len len) (w.alloc (.cells arr e)) ∧ CellsR fid X w cs arr ∧ arr.size = len * n := by
  obtain ⟨i, zv, hi, hzv, hsz, hzl, hzr, hrun, hso⟩ := zeroOf_spec (fid := fid) (X := X) (w := w) hz
  have hin : i.size = n := by rw [hn] at hso; cases hso; rfl
  have hzz := zeros_cells hzr len
  rw [hzl, hin] at hzz
  obtain ⟨arr, g1, g2, g3⟩ := fill_run hE ps.toList l _ cs _ hp hf hzz
  have hsize : zv.cells.size = n := by omega
  have hbig : ¬ (len * n > 2 ^ 24) := fun h => hno (.inr h)
  by_cases h0 : len * n = 0
  · refine ⟨arr, ?_, g3, by rw [g2]; simp⟩
    simp only [Instr.buildSlice, Sem.run_bind, run_underlying ht, Result.andThen_ok, szOf_run hn]
    rw [if_neg hbig]
    simp only [Sem.run_pure, Result.andThen_ok, h0, if_true, Sem.run_bind]
    simp only [h0] at g1 ⊢
    simp only [Array.toList_map]
    have em : ∀ f : Nat → Value, (Array.range 0).map f = #[] := fun f => by rw [show Array.range 0 = #[] from rfl, Array.map_empty]
    rw [em] at g1 ⊢
    rw [g1]
    rfl
  · refine ⟨arr, ?_, g3, by rw [g2]; simp⟩
    simp only [Instr.buildSlice, Sem.run_bind, run_underlying ht, Result.andThen_ok, szOf_run hn]
    rw [if_neg hbig]
    simp only [Sem.run_pure, Result.andThen_ok, h0, if_false, Sem.run_bind, hrun]
    simp only [Array.toList_map]
    rw [g1]
    rfl

end Go.Cs

/- 'append', on canonical slices and on Go's. -/
namespace Go.Cs
open Go.RowKit (Below)
variable {P : Program} {fid : FuncId → Option Nat} {N : Nat} {w0 : World} {X : Cx} {cw : CW} {w : World} {ρ : Env} {a : Act}

theorem growBy_le (need : Nat) : ∀ (r c : Nat), c ≤ 2 * need + 512 → Builtin.growBy need r c ≤ 2 * need + 512
  | 0, c, h => h
  | r + 1, c, h => by
    simp only [Builtin.growBy]
    split
    · exact h
    · exact growBy_le need r _ (by omega)

theorem nextcap_le (need cap : Nat) (h : cap < need) : Builtin.nextslicecap need cap ≤ 2 * need + 512 := by
  unfold Builtin.nextslicecap
  split
  · omega
  · split
    · omega
    · exact growBy_le need 4 cap (by omega)

theorem cell_heap {w w' : World} (h : w'.heap = w.heap) (p : Addr) : w'.cell? p = w.cell? p := by simp only [World.cell?, h]

theorem RowAt.vals' {r o : Nat} {cs : List CV} (h : RowAt fid X w r o cs) : ∃ vs : List Value, vs.length = cs.length ∧
    (∀ w', w'.heap = w.heap → ∀ k, k ≤ cs.length → (loadCells ⟨r, o, none⟩ k).run P w' = .ok (vs.take k).toArray w') ∧ ∀ (i : Nat) (c : CV), cs[i]? = some c → c.one = true ∧ VR fid X w c (vs[i]?.getD undef) := by
  obtain ⟨vs, h1, h2, h3⟩ := h.vals
  refine ⟨vs, h1, fun w' hw k hk => ?_, h3⟩
  have hl : (vs.take k).length = k := by rw [List.length_take]; omega
  have := loadCells_run (P := P) (w := w') (r := r) (o := o) (vs := vs.take k) fun i v hv => by
    rw [List.getElem?_take] at hv
    split at hv
    · rw [cell_heap hw]; exact h2 i v hv
    · cases hv
  rw [hl] at this
  exact this

theorem byteCells_at {l : List UInt8} {i : Nat} {c : CV} (h : (byteCells l)[i]? = some c) : ∃ b, l[i]? = some b ∧ c = .int .u8 b.toNat := by
  unfold byteCells at h
  simp only [List.getElem?_map, Option.map_eq_some_iff] at h
  obtain ⟨b, hb, rfl⟩ := h
  exact ⟨b, hb, rfl⟩

/-- What is put behind: its cells, however often they are read. -/
theorem seq_src {y : CV} {v : Value} {sz : Nat} {p : List CV × Nat} (hS : Sim fid N w0 X cw w) (hv : VR fid X w y v) (h : seqOf cw sz y = some p) :
    (∀ w', (Builtin.lenOf v).run P w' = .ok p.2 w') ∧ p.1.length = p.2 * sz ∧ ∃ ys : List Value, ys.length = p.1.length ∧
      (∀ w', w'.heap = w.heap → ∀ k, k ≤ p.2 → (Builtin.firstCells sz k v).run P w' = .ok (ys.take (k * sz)).toArray w') ∧
      ∀ (i : Nat) (c : CV), p.1[i]? = some c → c.one = true ∧ VR fid X w c (ys[i]?.getD undef) := by
  cases y with
  | nils =>
    cases h; cases hv
    exact ⟨fun _ => rfl, by simp, [], rfl, fun w' _ k _ => by simp [Builtin.firstCells], by simp⟩
  | vec cs n clip =>
    simp only [seqOf] at h
    split at h
    · rename_i hl
      cases h
      obtain ⟨r, o, cap, rfl, h1, h2, h3, h4⟩ := hv.vec_inv
      obtain ⟨vs, k1, k2, k3⟩ := h3.vals' (P := P)
      refine ⟨fun _ => rfl, hl, vs, k1, fun w' hw k hk => ?_, k3⟩
      simp only [Builtin.firstCells]
      exact k2 w' hw _ (by rw [hl]; exact Nat.mul_le_mul_right _ hk)
    · cases h
  | ref b off n s =>
    simp only [seqOf] at h
    split at h
    · rename_i hs
      subst hs
      split at h
      · rename_i cs hg
        split at h
        · rename_i hle
          cases h
          obtain ⟨m, hm, hr⟩ := hS.rowAt hg
          cases hv with
          | ref h1 h2 h3 =>
            obtain ⟨rfl, _⟩ := h3 m hm
            have hlen : ((cs.drop off).take (n * s)).length = n * s := by rw [List.length_take, List.length_drop]; omega
            obtain ⟨vs, k1, k2, k3⟩ := (hr.sub off (n * s)).vals' (P := P)
            refine ⟨fun _ => rfl, hlen, vs, k1, fun w' hw k hk => ?_, k3⟩
            simp only [Builtin.firstCells]
            exact k2 w' hw _ (by rw [hlen]; exact Nat.mul_le_mul_right _ hk)
        · cases h
      · cases h
    · cases h
  | str l =>
    simp only [seqOf] at h
    split at h
    · rename_i hs
      subst hs
      cases h
      rw [hv.str_inv]
      refine ⟨fun _ => ?_, by simp [byteCells], l.map fun b => .int .u8 b.toNat, by simp [byteCells], fun w' _ k hk => ?_, fun i c hc => ?_⟩
      · simp [Builtin.lenOf, ByteArray.size]
      · simp only [Builtin.firstCells, Sem.run_pure]
        congr 1
        apply Array.ext'
        simp [List.map_take, ByteArray.data_extract, List.extract]
      · obtain ⟨b, hb, rfl⟩ := byteCells_at hc
        simp only [List.getElem?_map, hb, Option.map_some, Option.getD_some]
        exact ⟨rfl, .int _ _⟩
    · cases h
  | _ => simp [seqOf] at h

/-- All of it. -/
theorem seq_all {y : CV} {v : Value} {sz : Nat} {p : List CV × Nat} (hS : Sim fid N w0 X cw w) (hv : VR fid X w y v) (h : seqOf cw sz y = some p) :
    (∀ w', (Builtin.lenOf v).run P w' = .ok p.2 w') ∧ p.1.length = p.2 * sz ∧ ∃ ys : List Value, ys.length = p.1.length ∧
      (∀ w', w'.heap = w.heap → (Builtin.firstCells sz p.2 v).run P w' = .ok ys.toArray w') ∧
      (∀ w', w'.heap = w.heap → ∀ k, k ≤ p.2 → (Builtin.firstCells sz k v).run P w' = .ok (ys.take (k * sz)).toArray w') ∧
      ∀ (i : Nat) (c : CV), p.1[i]? = some c → c.one = true ∧ VR fid X w c (ys[i]?.getD undef) := by
  obtain ⟨h1, h2, ys, h3, h4, h5⟩ := seq_src (P := P) hS hv h
  refine ⟨h1, h2, ys, h3, fun w' hw => ?_, h4, h5⟩
  rw [h4 w' hw p.2 (Nat.le_refl _), List.take_of_length_le (by omega)]

theorem list_at_arr (l1 l2 : List Value) (r : Array Value) (i : Nat) : (l1.toArray ++ l2.toArray ++ r).getD i undef =
    if i < l1.length then l1[i]?.getD undef else if i < l1.length + l2.length then l2[i - l1.length]?.getD undef else r.getD (i - (l1.length + l2.length)) undef := by
  rw [Array.getD_eq_getD_getElem?]
  by_cases h1 : i < l1.length
  · rw [if_pos h1, Array.getElem?_append_left (by simp; omega), Array.getElem?_append_left (by simpa using h1)]
    simp
  · rw [if_neg h1]
    by_cases h2 : i < l1.length + l2.length
    · rw [if_pos h2, Array.getElem?_append_left (by simp; omega), Array.getElem?_append_right (by simpa using h1)]
      simp
    · rw [if_neg h2, Array.getElem?_append_right (by simp; omega), Array.getD_eq_getD_getElem?]
      simp

/-- The cells of two rows, one behind the other, and more. -/
theorem two_rows {xc yc : List CV} {xs ys : List Value} {r : Array Value} (hx : xs.length = xc.length) (hy : ys.length = yc.length)
    (h1 : ∀ (i : Nat) (c : CV), xc[i]? = some c → c.one = true ∧ VR fid X w c (xs[i]?.getD undef))
    (h2 : ∀ (i : Nat) (c : CV), yc[i]? = some c → c.one = true ∧ VR fid X w c (ys[i]?.getD undef)) (i : Nat) (c : CV) (hc : (xc ++ yc)[i]? = some c) :
    c.one = true ∧ VR fid X w c ((xs.toArray ++ ys.toArray ++ r).getD i undef) := by
  rw [list_at_arr]
  by_cases hi : i < xc.length
  · rw [if_pos (by omega)]
    rw [List.getElem?_append_left hi] at hc
    exact h1 i c hc
  · have hlt : i < (xc ++ yc).length := (List.getElem?_eq_some_iff.1 hc).1
    rw [List.length_append] at hlt
    rw [if_neg (by omega), if_pos (by omega)]
    rw [List.getElem?_append_right (by omega)] at hc
    rw [hx]
    exact h2 _ c hc

/-- What 'append' does of one thing that is put behind: in place, or in a new row. -/
structure AppF (P : Program) (w : World) (run : Value → Result Value) (e : TypeId) (m sz : Nat) (ys : List Value) : Prop where
  none : m = 0 → run (.slice none 0 0) = .ok (.slice none 0 0) w
  room : ∀ (r o n cap : Nat) (w' : World), n + m ≤ cap → (storeCells ⟨r, o + n * sz, Option.none⟩ ys 0).run P w = .ok () w' →
    run (.slice (some ⟨r, o, Option.none⟩) n cap) = .ok (.slice (some ⟨r, o, Option.none⟩) (n + m) cap) w'
  zero : m = 0 → ∀ (a : Addr) (n cap : Nat), n ≤ cap → run (.slice (some a) n cap) = .ok (.slice (some a) n cap) w
  grow : ∀ (base : Option Addr) (n cap : Nat) (olds : List Value), (Builtin.firstCells sz n (.slice base n cap)).run P w.drew = .ok olds.toArray w.drew → cap < n + m → n + m ≤ lim → olds.length = n * sz →
    ∃ (newcap : Nat) (rest : Array Value), n + m ≤ newcap ∧ (olds.toArray ++ ys.toArray ++ rest).size = newcap * sz ∧
      run (.slice base n cap) = .ok (.slice (some ⟨w.heap.size, 0, Option.none⟩) (n + m) newcap) (w.drew.alloc (.cells (olds.toArray ++ ys.toArray ++ rest) e))

theorem drew_below (w : World) : Below w.heap.size w w.drew := ⟨rfl, rfl, rfl, Nat.le_refl _, fun _ _ => rfl⟩

/-- A new row out of two. -/
theorem grown_ok (hS : Sim fid N w0 X cw w) {xc yc : List CV} {xs ys : List Value} {rest : Array Value} {e : TypeId} {n cap sz : Nat} (hx : xs.length = xc.length) (hy : ys.length = yc.length)
    (h1 : ∀ (i : Nat) (c : CV), xc[i]? = some c → c.one = true ∧ VR fid X w c (xs[i]?.getD undef))
    (h2 : ∀ (i : Nat) (c : CV), yc[i]? = some c → c.one = true ∧ VR fid X w c (ys[i]?.getD undef))
    (hn : n ≤ cap) (hsz : (xs.toArray ++ ys.toArray ++ rest).size = cap * sz) :
    ∃ X', Sim fid N w0 X' (cw.push (.cells (xc ++ yc))) (w.drew.alloc (.cells (xs.toArray ++ ys.toArray ++ rest) e)) ∧ Ext X w X' (w.drew.alloc (.cells (xs.toArray ++ ys.toArray ++ rest) e)) ∧
      VR fid X' (w.drew.alloc (.cells (xs.toArray ++ ys.toArray ++ rest) e)) (.ref cw.next 0 n sz) (.slice (some ⟨w.heap.size, 0, none⟩) n cap) := by
  obtain ⟨s1, e1⟩ := hS.same (drew_below w)
  obtain ⟨X', s2, e2, hnx, hM⟩ := new_mut (T := e) (fr := (0, 0)) s1 (cs := xc ++ yc) (rcs := xs.toArray ++ ys.toArray ++ rest) (by simp; omega) (.inl (Nat.le_refl _))
    fun i c hc => by
      obtain ⟨k1, k2⟩ := two_rows (r := rest) hx hy h1 h2 i c hc
      exact ⟨k1, k2.mono e1⟩
  refine ⟨X', s2, e1.trans e2, .ref (by omega) hn fun m hm => ?_⟩
  rw [hM] at hm
  cases hm
  exact ⟨rfl, by rw [Nat.zero_add]; exact hsz.symm⟩

theorem mul_le_of {a b sz : Nat} (h : a * sz ≤ b * sz) (hs : sz ≠ 0) : a ≤ b := Nat.le_of_mul_le_mul_right h (by omega)

theorem zeroCells_size (z : Array Value) (n : Nat) : (Builtin.zeroCells z n).size = n * z.size := by simp [Builtin.zeroCells]

theorem appF_src {t u ty e : TypeId} {i : TypeInfo} {d : TypeDesc} {m sz : Nat} {ys : List Value} {yv : Value} (ht : P.underlying t = some (.slice e)) (hi : P.info? e = some i) (hsz : i.size = sz)
    (hb : ¬ i.bytes > 1024) {z : Value} (hz : i.zero = some z) (hzs : z.cells.size = i.size) (hs : Src P i.size u yv m ys w) : AppF P w (fun x => (Builtin.append_ #[t, u] ty #[x, yv]).run P w) e m sz ys := by
  subst hsz
  have hstep : ∀ (base : Option Addr) (n cap : Nat), n + m ≤ cap → (Builtin.append_ #[t, u] ty #[.slice base n cap, yv]).run P w =
      (match base with
      | some a => ((storeCells (a.add (n * i.size)) ys).run P w).andThen fun _ w' => .ok (Value.slice base (n + m) cap) w'
      | none => .ok (Value.slice base (n + m) cap) w) := by
    intro base n cap hroom
    rcases hs.kind with ⟨e', hk⟩ | hk <;> cases base <;> simp [Builtin.append_, run_underlying ht, run_underlying hk, sizeOf, typeInfo, hi, hs.len, hroom, hs.cells]
  refine ⟨fun hm => ?_, fun r o n cap w' hroom hst => ?_, fun hm a n cap hle => ?_, fun base n cap olds hold hlt hlim hol => ?_⟩
  · subst hm
    show (Builtin.append_ #[t, u] ty #[.slice none 0 0, yv]).run P w = _
    rw [hstep none 0 0 (by omega)]
  · show (Builtin.append_ #[t, u] ty #[.slice (some ⟨r, o, none⟩) n cap, yv]).run P w = _
    rw [hstep _ n cap hroom]
    simp only [add_none, hst, Result.andThen_ok]
  · subst hm
    have hys : ys = [] := List.length_eq_zero_iff.1 (by rw [hs.newsLen]; simp)
    subst hys
    show (Builtin.append_ #[t, u] ty #[.slice (some a) n cap, yv]).run P w = _
    rw [hstep _ n cap (by omega)]
    simp [storeCells]
  · unfold lim at hlim
    have hfit : Builtin.nextslicecap (n + m) cap * i.bytes ≤ 281474976710656 := by
      have h1 := nextcap_le (n + m) cap hlt
      calc Builtin.nextslicecap (n + m) cap * i.bytes ≤ (2 * (n + m) + 512) * 1024 := Nat.mul_le_mul h1 (by omega)
        _ ≤ 281474976710656 := by omega
    have hg := run_append_grow_src (P := P) w t u ty e i z ht hi hz base n cap olds hold yv m ys hs hlt (by omega) hfit
    have hcap : n + m ≤ grownCap w (n + m) cap e := by unfold grownCap; simp only [Question.cut]; omega
    refine ⟨grownCap w (n + m) cap e, Builtin.zeroCells z.cells (grownCap w (n + m) cap e - (n + m)), hcap, ?_, ?_⟩
    · simp only [Array.size_append, List.size_toArray, zeroCells_size, hs.newsLen, hol, hzs]
      rw [← Nat.add_mul, ← Nat.add_mul]
      congr 1
      omega
    · show (Builtin.append_ #[t, u] ty #[.slice base n cap, yv]).run P w = _
      rw [hg]
      simp

theorem appF_zeros {t u ty e : TypeId} {i : TypeInfo} {kn kq : IntKind} {m sz : Nat} (ht : P.underlying t = some (.slice e)) (hu : P.underlying u = some (.int kn)) (hi : P.info? e = some i) (hsz : i.size = sz)
    (hb : ¬ i.bytes > 1024) (hnz : sz ≠ 0) {z : Value} (hz : i.zero = some z) (hzs : z.cells.size = i.size) (hm : m ≤ lim) :
    AppF P w (fun x => (Builtin.append_ #[t, u] ty #[x, .int kq m]).run P w) e m sz (Builtin.zeroCells z.cells m).toList := by
  subst hsz
  unfold lim at hm
  have hw : IntKind.i64.wrap (m : Int) = m := by rw [IntKind.wrap_i64]; omega
  have hneg : ¬ ((m : Int) < 0) := by omega
  have h48i : ¬ (281474976710656 < (m : Int) * (i.bytes : Int)) := by
    rw [← Int.natCast_mul]
    have : m * i.bytes ≤ 2 ^ 36 * 1024 := Nat.mul_le_mul hm (by omega)
    omega
  have happ : (if m * i.size = 0 then pure #[] else do pure (Builtin.zeroCells (← zeroValue e).cells m) : Sem (Array Value)).run P w = .ok (Builtin.zeroCells z.cells m) w := by
    split
    · rename_i h0
      rw [show Builtin.zeroCells z.cells m = #[] from Array.eq_empty_of_size_eq_zero (by rw [zeroCells_size, hzs]; exact h0)]
      rfl
    · simp [zeroValue, typeInfo, hi, hz]
  have hstep : ∀ (base : Option Addr) (n cap : Nat), n + m ≤ cap → (Builtin.append_ #[t, u] ty #[.slice base n cap, .int kq m]).run P w =
      (match base with
      | some a => ((storeCells (a.add (n * i.size)) (Builtin.zeroCells z.cells m).toList).run P w).andThen fun _ w' => .ok (Value.slice base (n + m) cap) w'
      | none => .ok (Value.slice base (n + m) cap) w) := by
    intro base n cap hroom
    by_cases h0 : m * i.size = 0
    · simp only [h0, if_true, Sem.run_pure, Result.ok.injEq, and_true] at happ
      cases base <;> simp [Builtin.append_, run_underlying ht, run_underlying hu, sizeOf, typeInfo, hi, asInt, asIntOf, hw, hneg, h48i, hroom, h0, ← happ]
    · cases base <;> simp [Builtin.append_, run_underlying ht, run_underlying hu, sizeOf, typeInfo, zeroValue, hi, hz, asInt, asIntOf, hw, hneg, h48i, hroom, h0]
  refine ⟨fun hm => ?_, fun r o n cap w' hroom hst => ?_, fun hm a n cap hle => ?_, fun base n cap olds hold hlt hlim hol => ?_⟩
  · subst hm
    show (Builtin.append_ #[t, u] ty #[.slice none 0 0, _]).run P w = _
    rw [hstep none 0 0 (by omega)]
  · show (Builtin.append_ #[t, u] ty #[.slice (some ⟨r, o, none⟩) n cap, _]).run P w = _
    rw [hstep _ n cap hroom]
    simp only [add_none, hst, Result.andThen_ok]
  · subst hm
    have hys : Builtin.zeroCells z.cells 0 = #[] := Array.eq_empty_of_size_eq_zero (by rw [zeroCells_size]; omega)
    show (Builtin.append_ #[t, u] ty #[.slice (some a) n cap, _]).run P w = _
    rw [hstep _ n cap (by omega), hys]
    simp [storeCells]
  · unfold lim at hlim
    by_cases hm0 : m = 0
    · -- nothing is put behind, and there is no room for what is there: cannot be asked, but of a slice that is longer than its room
      subst hm0
      have hfit : Builtin.nextslicecap (n + 0) cap * i.bytes ≤ 281474976710656 := by
        have h1 := nextcap_le (n + 0) cap hlt
        calc Builtin.nextslicecap (n + 0) cap * i.bytes ≤ (2 * (n + 0) + 512) * 1024 := Nat.mul_le_mul h1 (by omega)
          _ ≤ 281474976710656 := by omega
      have hn : ¬ (n ≤ cap) := by omega
      have h63' : ¬ (9223372036854775807 < (n : Int)) := by omega
      have h48' : ¬ (281474976710656 < Builtin.nextslicecap n cap * i.bytes) := by simpa using hfit
      have hcap : n ≤ grownCap w n cap e := by unfold grownCap; simp only [Question.cut]; omega
      refine ⟨grownCap w n cap e, Builtin.zeroCells z.cells (grownCap w n cap e - n), hcap, ?_, ?_⟩
      · simp only [Array.size_append, List.size_toArray, Array.toArray_toList, zeroCells_size, hol, hzs]
        rw [← Nat.add_mul, ← Nat.add_mul]
        congr 1
        omega
      · show (Builtin.append_ #[t, u] ty #[.slice base n cap, _]).run P w = _
        have hw0 : IntKind.i64.wrap 0 = 0 := by decide
        have hz0 : Builtin.zeroCells z.cells 0 = #[] := Array.eq_empty_of_size_eq_zero (by rw [zeroCells_size]; omega)
        simp [Builtin.append_, run_underlying ht, run_underlying hu, sizeOf, typeInfo, zeroValue, hi, hz, asInt, asIntOf, hw0, hn, h63', h48', Question.forced, hold, newRow, grownCap, hz0]
    · have hfit : Builtin.nextslicecap (n + m) cap * i.bytes ≤ 281474976710656 := by
        have h1 := nextcap_le (n + m) cap hlt
        calc Builtin.nextslicecap (n + m) cap * i.bytes ≤ (2 * (n + m) + 512) * 1024 := Nat.mul_le_mul h1 (by omega)
          _ ≤ 281474976710656 := by omega
      have h48 : m * i.bytes ≤ 281474976710656 := by
        have : m * i.bytes ≤ 2 ^ 36 * 1024 := Nat.mul_le_mul hm (by omega)
        omega
      have hg := Lib.run_append_grow_zeros (P := P) w t u ty e i z kq kn ht hu hi hz base n cap olds hold m (by omega) (by omega) hlt (by omega) h48 hfit
      have hcap : n + m ≤ grownCap w (n + m) cap e := by unfold grownCap; simp only [Question.cut]; omega
      refine ⟨grownCap w (n + m) cap e, Builtin.zeroCells z.cells (grownCap w (n + m) cap e - (n + m)), hcap, ?_, ?_⟩
      · simp only [Array.size_append, List.size_toArray, Array.toArray_toList, zeroCells_size, hol, hzs]
        rw [← Nat.add_mul, ← Nat.add_mul]
        congr 1
        omega
      · show (Builtin.append_ #[t, u] ty #[.slice base n cap, _]).run P w = _
        rw [hg]

theorem app_core {run : Value → Result Value} {e : TypeId} {m sz : Nat} {yc : List CV} {ys : List Value} (hF : AppF P w run e m sz ys) (hS : Sim fid N w0 X cw w) {x c : CV} {xv : Value} {cw' : CW}
    (hx : VR fid X w x xv) (hy : ys.length = yc.length) (hyc : yc.length = m * sz) (h2 : ∀ (i : Nat) (c : CV), yc[i]? = some c → c.one = true ∧ VR fid X w c (ys[i]?.getD undef))
    (hsz : sz ≠ 0) (h : appV cw sz x yc m = some (c, cw')) :
    ∃ v w' X', run xv = .ok v w' ∧ Sim fid N w0 X' cw' w' ∧ Ext X w X' w' ∧ VR fid X' w' c v := by
  cases x with
  | nils =>
    simp only [appV] at h
    cases hx
    split at h
    · rename_i hm
      cases h
      exact ⟨_, w, X, hF.none hm, hS, .refl X w, .nils⟩
    · split at h
      · rename_i hm hlim
        cases h
        obtain ⟨nc, rest, g1, g2, g3⟩ := hF.grow none 0 0 [] rfl (by omega) (by omega) (by simp)
        obtain ⟨X', s, ex, hv⟩ := grown_ok hS (xc := []) (xs := []) (e := e) rfl hy (by simp) h2 (n := 0 + m) g1 g2
        rw [Nat.zero_add] at hv g3
        exact ⟨_, _, X', g3, s, ex, hv⟩
      · cases h
  | vec cs n clip =>
    simp only [appV] at h
    split at h
    · rename_i hm
      cases h
      obtain ⟨r, o, cap, rfl, k1, k2, k3, k4⟩ := hx.vec_inv
      exact ⟨_, w, X, hF.zero hm _ _ _ k1, hS, .refl X w, hx⟩
    · rename_i hm
      split at h
      · rename_i hc
        obtain ⟨hc1, hc2, hc3⟩ := hc
        cases h
        obtain ⟨r, o, cap, rfl, k1, k2, k3, k4⟩ := hx.vec_inv
        cases k2 hc1
        obtain ⟨vs, q1, q2, q3⟩ := k3.vals' (P := P)
        obtain ⟨nc, rest, g1, g2, g3⟩ := hF.grow (some ⟨r, o, none⟩) n n vs (by simp only [Builtin.firstCells]; rw [q2 w.drew rfl _ (by omega), List.take_of_length_le (by omega)]) (by omega) hc2 (by omega)
        obtain ⟨X', s, ex, hv⟩ := grown_ok hS (e := e) q1 hy q3 h2 g1 g2
        exact ⟨_, _, X', g3, s, ex, hv⟩
      · cases h
  | ref b off n s =>
    simp only [appV] at h
    split at h
    · rename_i hm
      cases h
      cases hx with
      | ref k1 k2 k3 => exact ⟨_, w, X, hF.zero hm _ _ _ k2, hS, .refl X w, .ref k1 k2 k3⟩
    · rename_i hm
      split at h
      · cases h
      · rename_i hs
        have hs : s = sz := Classical.not_not.1 hs
        subst hs
        split at h
        · rename_i cs hg
          cases hx with
          | @ref _ _ _ _ cap ad k1 k2 k3 =>
            split at h
            · rename_i hle
              cases h
              obtain ⟨mm, w', hmm, hst, s1, e1⟩ := store_sim (P := P) hS hg (off := off + n * s) (ds := yc) (by rw [hyc]; rw [Nat.add_mul] at hle; omega) hy h2
              obtain ⟨rfl, hcap⟩ := k3 mm hmm
              obtain ⟨_, hmm', hor⟩ := hS.get hg
              rw [hmm] at hmm'; cases hmm'
              obtain ⟨rcs, T, fr, o1, o2, o3, o4, o5⟩ := hor
              have hroom : n + m ≤ cap := mul_le_of (sz := s) (by omega) hsz
              exact ⟨_, w', X, hF.room mm.1 (mm.2.1 + off) n cap w' hroom (by rw [Nat.add_assoc]; exact hst), s1, e1, .ref k1 hroom fun m' hm' => by
                rw [hmm] at hm'; cases hm'; exact ⟨rfl, hcap⟩⟩
            · rename_i hle
              split at h
              · rename_i hc
                obtain ⟨hfr, hlim⟩ := hc
                cases h
                obtain ⟨mm, hmm, hor⟩ := hS.get hg
                obtain ⟨rfl, hcap⟩ := k3 mm hmm
                obtain ⟨rcs, T, fr, o1, o2, o3, o4, o5⟩ := hor
                obtain ⟨sk, ek⟩ := hS.kill b
                by_cases hroom : n + m ≤ cap
                · -- in place, behind what is told
                  have hmul : (n + m) * s ≤ cap * s := Nat.mul_le_mul_right _ hroom
                  rw [Nat.add_mul] at hmul
                  have hone : ∀ v ∈ ys, v.oneCell' = true := by
                    intro v hvm
                    obtain ⟨i, hi, rfl⟩ := List.getElem_of_mem hvm
                    obtain ⟨q1, q2⟩ := h2 i _ (List.getElem?_eq_getElem (by omega))
                    rw [List.getElem?_eq_getElem hi] at q2
                    exact one_vr q2 q1
                  obtain ⟨w', rcs', t1, t2, t3, t4⟩ := storeCells_run (P := P) ys (mm.2.1 + off + n * s) 0 w rcs o1 o4 (by omega) hone
                  have hMk : ∀ b' m', (if b' = b then none else X.M b') = some m' → m'.1 ≠ mm.1 := by
                    intro b' m' hm' he
                    by_cases hb : b' = b
                    · rw [if_pos hb] at hm'; cases hm'
                    · rw [if_neg hb] at hm'
                      exact hb (hS.inj b' b m' mm hm' hmm he)
                  have hpush := sk.pushG (w' := w') (rb := mm.1) (base := mm.2.1 + off) (e := cap * s) (o := .cells (cs.drop off ++ yc)) (hS.sep b mm hmm).1 (hS.sep b mm hmm).2 hMk
                    (fun r hr _ => t2.there r hr) (by rw [t2.size]; exact Nat.le_refl _) t2.os t2.tape t2.output fun ex => by
                      have ex' := ek.trans ex
                      refine ⟨rcs', T, fr, t2.here, by simp only [List.length_append, List.length_drop, hyc]; omega, by rw [t3]; show mm.2.1 + off + cap * s ≤ rcs.size; omega, by rw [t3]; exact o4, fun i c hc => ?_⟩
                      show c.one = true ∧ VR fid _ w' c (rcs'.getD (mm.2.1 + off + i) undef)
                      rw [Array.getD_eq_getD_getElem?, t4]
                      by_cases hi : i < cs.length - off
                      · rw [List.getElem?_append_left (by rw [List.length_drop]; exact hi), List.getElem?_drop] at hc
                        obtain ⟨q1, q2⟩ := o5 _ c hc
                        rw [if_neg (by omega), ← Array.getD_eq_getD_getElem?]
                        refine ⟨q1, ?_⟩
                        rw [Nat.add_assoc]
                        exact q2.mono ex'
                      · have hlt : i < (cs.drop off ++ yc).length := (List.getElem?_eq_some_iff.1 hc).1
                        rw [List.length_append, List.length_drop] at hlt
                        rw [List.getElem?_append_right (by rw [List.length_drop]; omega), List.length_drop] at hc
                        obtain ⟨q1, q2⟩ := h2 _ c hc
                        rw [if_pos (by omega)]
                        refine ⟨q1, ?_⟩
                        have : mm.2.1 + off + i - (mm.2.1 + off + n * s + 0) = i - (cs.length - off) := by omega
                        rw [this]
                        exact q2.mono ex'
                  obtain ⟨s2, e2⟩ := hpush
                  have hnx : X.nx = cw.next := hS.nx
                  refine ⟨_, w', _, hF.room mm.1 (mm.2.1 + off) n cap w' hroom t1, s2, ek.trans e2, .ref (by show (cw.kill b).next < X.nx + 1; rw [hnx]; exact Nat.lt_succ_self _) hroom fun m' hm' => ?_⟩
                  have : (if cw.next = X.nx then some (mm.1, mm.2.1 + off, cap * s) else if cw.next = b then none else X.M cw.next) = some m' := hm'
                  rw [if_pos hnx.symm] at this
                  cases this
                  exact ⟨rfl, by show 0 + cap * s = cap * s; omega⟩
                · obtain ⟨_, hmm2, hrow⟩ := hS.rowAt hg
                  rw [hmm] at hmm2; cases hmm2
                  have hlen : ((cs.drop off).take (n * s)).length = n * s := by rw [List.length_take, List.length_drop]; omega
                  obtain ⟨vs, q1, q2, q3⟩ := (hrow.sub off (n * s)).vals' (P := P)
                  have htk : (cs.drop off).take (n * s) = cs.drop off := List.take_of_length_le (by rw [List.length_drop]; omega)
                  obtain ⟨nc, rest, g1, g2, g3⟩ := hF.grow (some ⟨mm.1, mm.2.1 + off, none⟩) n cap vs (by simp only [Builtin.firstCells]; rw [hlen] at q2 q1; rw [q2 w.drew rfl _ (Nat.le_refl _), List.take_of_length_le (by omega)]) (by omega) hlim (by omega)
                  rw [htk] at q1 q3
                  obtain ⟨X', s3, e3, hv⟩ := grown_ok sk (e := e) q1 hy (fun i c hc => ⟨(q3 i c hc).1, (q3 i c hc).2.mono ek⟩) (fun i c hc => ⟨(h2 i c hc).1, (h2 i c hc).2.mono ek⟩) g1 g2
                  exact ⟨_, _, X', g3, s3, ek.trans e3, hv⟩
              · cases h
        · cases h
  | _ => simp [appV] at h

end Go.Cs
