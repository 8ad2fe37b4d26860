/- A small canonical machine for Go code: values, worlds, resolved operations, resolved code, and its weakest precondition. -/
import GoSem.Core.Value
import GoSem.Core.View
import GoSem.Op.String
namespace Go.Cs

/-- Canonical values. 'vec': a slice over a row that nobody writes any more; 'ref': a slice over a block of the canonical world. -/
inductive CV where
  | int (k : IntKind) (n : Int)
  | bool (b : Bool)
  | str (l : List UInt8)
  | nilp | nils | nilm | nilf | nili
  | agg (cs : List CV)
  | tup (vs : List CV)
  | ptr (b off : Nat)
  | row (cs : List CV) (off : Nat)
  | vec (cs : List CV) (n : Nat) (clip : Bool)
  | ref (b off n sz : Nat)
  | map (b : Nat)
  | fn (g : Nat) (first caps : List CV)
  | ifc (t : Nat) (v : CV)
  deriving Inhabited

def CV.cells : CV → List CV
  | .agg cs => cs
  | v => [v]

def CV.one : CV → Bool
  | .agg _ | .tup _ => false
  | _ => true

inductive CO where
  | cells (cs : List CV)
  | map (es : List (CV × CV × Nat)) (clock : Nat)

structure CW where
  get : Nat → Option CO
  next : Nat

def CW.push (cw : CW) (o : CO) : CW := ⟨fun b => if b = cw.next then some o else cw.get b, cw.next + 1⟩
def CW.set (cw : CW) (b : Nat) (o : CO) : CW := ⟨fun c => if c = b then some o else cw.get c, cw.next⟩
def CW.kill (cw : CW) (b : Nat) : CW := ⟨fun c => if c = b then none else cw.get c, cw.next⟩

inductive RX where
  | t (n : Nat)
  | c (v : CV)
  deriving Inhabited

/-- Of which kind '==' compares. -/
inductive EqK where
  | bool | ptr | slice | map | func | iface
  | agg (ks : List Nat)
  deriving Inhabited

inductive ROp where
  | mov (x : RX)
  | pick (c a b : RX)
  | bin (op : BinOp) (x y : RX)
  | eq (neg : Bool) (k : EqK) (x y : RX)
  | not (x : RX)
  | neg (x : RX)
  | cpl (x : RX)
  | conv (k : IntKind) (x : RX)
  | s2s (x : RX)
  | s2b (own : Bool) (x : RX)
  | b2s (x : RX)
  | i2s (x : RX)
  | len (x : RX)
  | lenS (x : RX)
  | lenA (n : Nat)
  | lenM (x : RX)
  | box (n : Nat) (x : RX)
  | alloc (zero : List CV)
  | load (agg : Bool) (n : Nat) (x : RX)
  | store (n : Nat) (x v : RX)
  | nilc (x : RX)
  | faddr (off : Nat) (x : RX)
  | fld (agg : Bool) (off n : Nat) (x : RX)
  | iaddr (sz : Nat) (x i : RX)
  | iaddrA (len sz : Nat) (x i : RX)
  | idx (len : Nat) (agg : Bool) (sz : Nat) (x i : RX)
  | idxS (x i : RX)
  | build (zero : List CV) (parts : List (Nat × Nat × RX))
  | lit (own : Bool) (sz n : Nat) (zero : List CV) (parts : List (Nat × Nat × RX))
  | mk (sz : Nat) (zero : List CV) (l c : RX)
  | subS (x : RX) (lo hi : Option RX)
  | sub (sz : Nat) (x : RX) (lo hi mx : Option RX)
  | subA (n sz : Nat) (x : RX)
  | app (sz : Nat) (x y : RX)
  | appZ (sz : Nat) (zero : List CV) (x n : RX)
  | copy (sz : Nat) (x y : RX)
  | clr (sz : Nat) (zero : List CV) (x : RX)
  | max (x y : RX)
  | min (x y : RX)
  | call (g : Nat) (xs : List RX)
  | callv (f : RX) (xs : List RX)
  | mkfn (g : Nat) (first caps : List RX)
  | ext (i : Nat) (x : RX)
  | ifc (t : Nat) (x : RX)
  | mkmap
  | look (ks : Bool) (zero : CV) (ok : Bool) (x k : RX)
  | mupd (ks : Bool) (m k v : RX)
  | ment (ks : Bool) (zero : CV) (m k : RX)
  | mset (m s v : RX)
  | mdel (ks : Bool) (m k : RX)
  | mclr (m : RX)
  deriving Inhabited

structure RO where
  dst : Option Nat
  op : ROp
  guard : Option (Nat × Bool) := none
  after : List Nat := []
  deriving Inhabited

inductive RC where
  | skip
  | region (ops : List RO) (draw : Bool) (live : Option (List Nat))
  | seq (a b : RC)
  | cond (x : RX) (a b : RC)
  | block (id : Nat) (c : RC)
  | loop (c : RC)
  | exit (id : Nat)
  | ret
  | scope (c : RC)
  | label (l : Nat)
  | multi (ops : List RO) (orders : List (List Nat)) (live : List Nat)
  deriving Inhabited

/-- Where a result lies: a slot, or the memory that a slot leads to. -/
inductive RR where
  | t (n : Nat)
  | c (n : Nat) (agg : Bool) (sz : Nat)
  deriving Inhabited

structure RF where
  np : Nat
  nt : Nat
  rs : List RR
  body : RC
  deriving Inhabited

/-! ## Environments -/
abbrev Env := List (Nat × CV)

def Env.get : Env → Nat → Option CV
  | [], _ => none
  | (i, v) :: r, t => if i = t then some v else Env.get r t

def Env.put (ρ : Env) (d : Option Nat) (v : CV) : Env :=
  match d with
  | some d => (d, v) :: ρ
  | none => ρ

def Env.keep (ρ : Env) : Option (List Nat) → Env
  | none => ρ
  | some l => l.filterMap fun t => (Env.get ρ t).map fun v => (t, v)

def ev (ρ : Env) : RX → Option CV
  | .t n => ρ.get n
  | .c v => some v

def evs (e : RX → Option CV) : List RX → Option (List CV)
  | [] => some []
  | x :: xs => (e x).bind fun v => (evs e xs).bind fun vs => some (v :: vs)

def evo (e : RX → Option CV) : Option RX → Option (Option CV)
  | none => some none
  | some x => (e x).bind fun v => some (some v)

/-! ## Operations on values -/
def lim : Nat := 2 ^ 36

def andI (k : IntKind) (a b : Int) : Int := k.wrap (BitVec.ofInt k.bits a &&& BitVec.ofInt k.bits b).toNat
def orI (k : IntKind) (a b : Int) : Int := k.wrap (BitVec.ofInt k.bits a ||| BitVec.ofInt k.bits b).toNat
def xorI (k : IntKind) (a b : Int) : Int := k.wrap (BitVec.ofInt k.bits a ^^^ BitVec.ofInt k.bits b).toNat
def clrI (k : IntKind) (a b : Int) : Int := k.wrap (BitVec.ofInt k.bits a &&& ~~~(BitVec.ofInt k.bits b)).toNat

def binI (op : BinOp) (k : IntKind) (a b : Int) : Option CV :=
  match op with
  | .add => some (.int k (k.wrap (a + b)))
  | .sub => some (.int k (k.wrap (a - b)))
  | .mul => some (.int k (k.wrap (a * b)))
  | .quo => if b = 0 then none else some (.int k (k.wrap (a.tdiv b)))
  | .rem => if b = 0 then none else some (.int k (a.tmod b))
  | .and => some (.int k (andI k a b))
  | .or => some (.int k (orI k a b))
  | .xor => some (.int k (xorI k a b))
  | .andNot => some (.int k (clrI k a b))
  | .eql => some (.bool (a == b))
  | .neq => some (.bool (a != b))
  | .lss => some (.bool (decide (a < b)))
  | .leq => some (.bool (decide (a ≤ b)))
  | .gtr => some (.bool (decide (a > b)))
  | .geq => some (.bool (decide (a ≥ b)))
  | _ => none

def binSh (op : BinOp) (k : IntKind) (a b : Int) : Option CV :=
  if b < 0 then none else
  match op with
  | .shl => some (.int k (k.wrap (a * 2 ^ (min b.toNat k.bits))))
  | .shr => some (.int k (a.fdiv (2 ^ (min b.toNat k.bits))))
  | _ => none

def binS (op : BinOp) (a b : List UInt8) : Option CV :=
  match op with
  | .add => if a.length + b.length ≤ 9223372036854775807 then some (.str (a ++ b)) else none
  | .eql => some (.bool (a == b))
  | .neq => some (.bool (!(a == b)))
  | .lss => some (.bool (Op.bytesLess a b))
  | .leq => some (.bool (Op.bytesLess a b || a == b))
  | .gtr => some (.bool (!(Op.bytesLess a b || a == b)))
  | .geq => some (.bool (!Op.bytesLess a b))
  | _ => none

def isSh : BinOp → Bool
  | .shl | .shr => true
  | _ => false

def binV (op : BinOp) : CV → CV → Option CV
  | .int k a, .int k' b => if isSh op then binSh op k a b else if k = k' then binI op k a b else none
  | .str a, .str b => binS op a b
  | _, _ => none

/-- Are two cells of a kind the same? 0: integers, 1: texts, 2: bools. -/
def eqCell : Nat → CV → CV → Option Bool
  | 0, .int k a, .int k' b => if k = k' then some (a == b) else none
  | 1, .str a, .str b => some (a == b)
  | 2, .bool a, .bool b => some (a == b)
  | _, _, _ => none

def eqCells : List Nat → List CV → List CV → Option Bool
  | [], [], [] => some true
  | k :: ks, a :: as, b :: bs => (eqCell k a b).bind fun x => (eqCells ks as bs).bind fun y => some (x && y)
  | _, _, _ => none

def eqV : EqK → CV → CV → Option Bool
  | .bool, .bool a, .bool b => some (a == b)
  | .ptr, .nilp, .nilp => some true
  | .ptr, .nilp, .ptr _ _ => some false
  | .ptr, .nilp, .row _ _ => some false
  | .ptr, .ptr _ _, .nilp => some false
  | .ptr, .row _ _, .nilp => some false
  | .slice, .nils, .nils => some true
  | .slice, .nils, .vec _ _ _ => some false
  | .slice, .nils, .ref _ _ _ _ => some false
  | .slice, .vec _ _ _, .nils => some false
  | .slice, .ref _ _ _ _, .nils => some false
  | .map, .nilm, .nilm => some true
  | .map, .nilm, .map _ => some false
  | .map, .map _, .nilm => some false
  | .func, .nilf, .nilf => some true
  | .func, .nilf, .fn _ _ _ => some false
  | .func, .fn _ _ _, .nilf => some false
  | .iface, .nili, .ifc _ _ => some false
  | .iface, .ifc _ _, .nili => some false
  | .agg ks, .agg a, .agg b => eqCells ks a b
  | _, _, _ => none

def byteCells (l : List UInt8) : List CV := l.map fun b => .int .u8 b.toNat

/-- The bytes of cells. -/
def bytesOf : List CV → Option (List UInt8)
  | [] => some []
  | .int .u8 n :: r => (bytesOf r).bind fun l => some (UInt8.ofNat n.toNat :: l)
  | _ => none

def ldc (agg : Bool) (n : Nat) (cs : List CV) (off : Nat) : Option CV :=
  if agg then (if off + n ≤ cs.length then some (.agg ((cs.drop off).take n)) else none) else cs[off]?

def splice (cs : List CV) (off : Nat) (vs : List CV) : List CV := cs.take off ++ vs ++ cs.drop (off + vs.length)

/-- Parts laid into zero cells: each has its place and its size. -/
def fillc (e : RX → Option CV) (cs : List CV) : List (Nat × Nat × RX) → Option (List CV)
  | [] => some cs
  | (off, n, x) :: r => (e x).bind fun v =>
    if v.cells.length = n ∧ off + n ≤ cs.length ∧ (v.cells.all CV.one) = true then fillc e (splice cs off v.cells) r else none

/-- The cells of a slice's first elements, and how many elements. -/
def seqOf (cw : CW) (sz : Nat) : CV → Option (List CV × Nat)
  | .nils => some ([], 0)
  | .vec cs n _ => if cs.length = n * sz then some (cs, n) else none
  | .ref b off n s => if s = sz then
      (match cw.get b with
      | some (.cells cs) => if off + n * sz ≤ cs.length then some ((cs.drop off).take (n * sz), n) else none
      | _ => none) else none
  | .str l => if sz = 1 then some (byteCells l, l.length) else none
  | _ => none

def repl (n : Nat) (z : List CV) : List CV := (List.replicate n z).flatten

def intV : CV → Option Int
  | .int _ n => some n
  | _ => none

/-- Bounds of a slice expression. -/
def loV : Option CV → Option Int
  | none => some 0
  | some v => intV v

def hiV (n : Int) : Option CV → Option Int
  | none => some n
  | some v => intV v

def hi3 : Option CV → Option Int
  | none => none
  | some v => intV v

/-- 'append': of what is there, and what is put behind. -/
def appV (cw : CW) (sz : Nat) (x : CV) (yc : List CV) (m : Nat) : Option (CV × CW) :=
  match x with
  | .nils => if m = 0 then some (.nils, cw) else
    if m ≤ lim then some (.ref cw.next 0 m sz, cw.push (.cells yc)) else none
  | .vec cs n clip => if m = 0 then some (x, cw) else
    if clip = true ∧ n + m ≤ lim ∧ cs.length = n * sz then some (.ref cw.next 0 (n + m) sz, cw.push (.cells (cs ++ yc))) else none
  | .ref b off n s => if m = 0 then some (x, cw) else if s ≠ sz then none else
    match cw.get b with
    | some (.cells cs) =>
      if off + (n + m) * sz ≤ cs.length then some (.ref b off (n + m) sz, cw.set b (.cells (splice cs (off + n * sz) yc)))
      else if off + n * sz = cs.length ∧ n + m ≤ lim then
        some (.ref cw.next 0 (n + m) sz, (cw.kill b).push (.cells (cs.drop off ++ yc)))
      else none
    | _ => none
  | _ => none

def keyEq : CV → CV → Bool
  | .int k a, .int k' b => k == k' && a == b
  | .str a, .str b => a == b
  | _, _ => false

def isKey (ks : Bool) : CV → Bool
  | .int _ _ => !ks
  | .str _ => ks
  | _ => false

def sameKind : CV → CV → Bool
  | .int k _, .int k' _ => k == k'
  | .str _, .str _ => true
  | _, _ => false

/-- The first entry of a key: where it stands, and what it holds. All keys are of the key's kind. -/
def findE (k : CV) : List (CV × CV × Nat) → Nat → Option (Option (Nat × CV × Nat))
  | [], _ => some none
  | (k', v, born) :: r, i => if sameKind k k' then (if keyEq k k' then some (some (i, v, born)) else findE k r (i + 1)) else none

/-- What an operation makes of the values and the world: nothing, if it may not be. -/
def stepOp (o : ROp) (e : RX → Option CV) (cw : CW) : Option (CV × CW) :=
  let pu (v : Option CV) : Option (CV × CW) := v.bind fun v => some (v, cw)
  match o with
  | .mov x => pu (e x)
  | .pick c a b => match e c with
    | some (.bool t) => pu (if t then e a else e b)
    | _ => none
  | .bin op x y => pu ((e x).bind fun a => (e y).bind fun b => binV op a b)
  | .eq neg k x y => pu ((e x).bind fun a => (e y).bind fun b => (eqV k a b).bind fun r => some (.bool (r != neg)))
  | .not x => match e x with
    | some (.bool b) => some (.bool (!b), cw)
    | _ => none
  | .neg x => match e x with
    | some (.int k n) => some (.int k (k.wrap (0 - n)), cw)
    | _ => none
  | .cpl x => match e x with
    | some (.int k n) => some (.int k (k.wrap (BitVec.ofInt k.bits (if k.signed then -1 else k.max) ^^^ BitVec.ofInt k.bits n).toNat), cw)
    | _ => none
  | .conv k x => match e x with
    | some (.int _ n) => some (.int k (k.wrap n), cw)
    | _ => none
  | .s2s x => match e x with
    | some (.str l) => some (.str l, cw)
    | _ => none
  | .s2b own x => match e x with
    | some (.str l) => if own then some (.ref cw.next 0 l.length 1, cw.push (.cells (byteCells l))) else some (.vec (byteCells l) l.length false, cw)
    | _ => none
  | .b2s x => (e x).bind fun v => match v with
    | .str _ => none
    | v => (seqOf cw 1 v).bind fun p => (bytesOf p.1).bind fun l => some (.str l, cw)
  | .lenS x => match e x with
    | some (.str l) => some (.int .i64 l.length, cw)
    | _ => none
  | .len x => match e x with
    | some .nils => some (.int .i64 0, cw)
    | some (.vec _ n _) => some (.int .i64 n, cw)
    | some (.ref _ _ n _) => some (.int .i64 n, cw)
    | _ => none
  | .lenA n => some (.int .i64 n, cw)
  | .lenM x => match e x with
    | some .nilm => some (.int .i64 0, cw)
    | some (.map b) => match cw.get b with
      | some (.map es _) => some (.int .i64 es.length, cw)
      | _ => none
    | _ => none
  | .box n x => (e x).bind fun v => if v.cells.length = n ∧ (v.cells.all CV.one) = true then some (.ptr cw.next 0, cw.push (.cells v.cells)) else none
  | .alloc zero => some (.ptr cw.next 0, cw.push (.cells zero))
  | .load agg n x => match e x with
    | some (.ptr b off) => match cw.get b with
      | some (.cells cs) => pu (ldc agg n cs off)
      | _ => none
    | some (.row cs off) => pu (ldc agg n cs off)
    | _ => none
  | .store n x v => match e x with
    | some (.ptr b off) => match cw.get b with
      | some (.cells cs) => (e v).bind fun u =>
        if u.cells.length = n ∧ off + n ≤ cs.length ∧ (u.cells.all CV.one) = true then some (.tup [], cw.set b (.cells (splice cs off u.cells))) else none
      | _ => none
    | _ => none
  | .nilc x => match e x with
    | some (.ptr b off) => some (.ptr b off, cw)
    | some (.row cs off) => some (.row cs off, cw)
    | _ => none
  | .faddr off x => match e x with
    | some (.ptr b o) => some (.ptr b (o + off), cw)
    | some (.row cs o) => some (.row cs (o + off), cw)
    | _ => none
  | .fld agg off n x => match e x with
    | some (.agg cs) => pu (ldc agg n cs off)
    | _ => none
  | .iaddr sz x i => (e i).bind fun iv => (intV iv).bind fun i => match e x with
    | some (.vec cs n _) => if 0 ≤ i ∧ i < n then some (.row cs (i.toNat * sz), cw) else none
    | some (.ref b off n s) => if 0 ≤ i ∧ i < n ∧ s = sz then some (.ptr b (off + i.toNat * sz), cw) else none
    | _ => none
  | .iaddrA len sz x i => (e i).bind fun iv => (intV iv).bind fun i => match e x with
    | some (.ptr b off) => if 0 ≤ i ∧ i < len then some (.ptr b (off + i.toNat * sz), cw) else none
    | some (.row cs off) => if 0 ≤ i ∧ i < len then some (.row cs (off + i.toNat * sz), cw) else none
    | _ => none
  | .idx len agg sz x i => (e i).bind fun iv => (intV iv).bind fun i => match e x with
    | some (.agg cs) => if 0 ≤ i ∧ i < len then pu (ldc agg sz cs (i.toNat * sz)) else none
    | _ => none
  | .idxS x i => (e i).bind fun iv => (intV iv).bind fun i => match e x with
    | some (.str l) => if 0 ≤ i then (l[i.toNat]?).bind fun b => some (.int .u8 b.toNat, cw) else none
    | _ => none
  | .build zero parts => (fillc e zero parts).bind fun cs => some (.agg cs, cw)
  | .lit own sz n zero parts => (fillc e (repl n zero) parts).bind fun cs =>
    if own then some (.ref cw.next 0 n sz, cw.push (.cells cs)) else some (.vec cs n true, cw)
  | .mk sz zero l c => (e l).bind fun lv => (intV lv).bind fun l => (e c).bind fun cv => (intV cv).bind fun c =>
    if 0 ≤ l ∧ l ≤ c ∧ c ≤ lim then some (.ref cw.next 0 l.toNat sz, cw.push (.cells (repl l.toNat zero))) else none
  | .subS x lo hi => match e x with
    | some (.str l) => (evo e lo).bind fun lo => (evo e hi).bind fun hi =>
      (hiV l.length hi).bind fun h =>
      (loV lo).bind fun o =>
      if 0 ≤ o ∧ o ≤ h ∧ h ≤ l.length then some (.str ((l.take h.toNat).drop o.toNat), cw) else none
    | _ => none
  | .sub sz x lo hi mx => (e x).bind fun x => (evo e lo).bind fun lo => (evo e hi).bind fun hi => (evo e mx).bind fun mx =>
    (loV lo).bind fun o =>
    match x, mx with
    | .nils, none => (hiV 0 hi).bind fun h => if o = 0 ∧ h = 0 then some (.nils, cw) else none
    | .nils, some m => (intV m).bind fun m => (hi3 hi).bind fun h => if o = 0 ∧ h = 0 ∧ m = 0 then some (.nils, cw) else none
    | .vec cs n clip, none => (hiV n hi).bind fun h =>
      if 0 ≤ o ∧ o ≤ h ∧ h ≤ n ∧ cs.length = n * sz then
        some (.vec ((cs.take (h.toNat * sz)).drop (o.toNat * sz)) (h.toNat - o.toNat) (clip && h == n), cw) else none
    | .vec cs n _, some m => (intV m).bind fun m => (hi3 hi).bind fun h =>
      if 0 ≤ o ∧ o ≤ h ∧ h ≤ m ∧ m ≤ n ∧ cs.length = n * sz then
        some (.vec ((cs.take (h.toNat * sz)).drop (o.toNat * sz)) (h.toNat - o.toNat) (h == m), cw) else none
    | .ref b off n s, none => (hiV n hi).bind fun h =>
      if s ≠ sz then none else
      match cw.get b with
      | some (.cells cs) => if 0 ≤ o ∧ o ≤ h ∧ off + h.toNat * sz ≤ cs.length then
          some (if o = h ∧ o ≠ 0 then .vec [] 0 false else .ref b (off + o.toNat * sz) (h.toNat - o.toNat) sz, cw) else none
      | _ => none
    | .ref b _ n _, some m => (intV m).bind fun m => (hi3 hi).bind fun h =>
      match cw.get b with
      | some _ => if 0 ≤ o ∧ o = h ∧ h = m ∧ m ≤ n then some (.vec [] 0 true, cw) else none
      | none => none
    | _, _ => none
  | .subA n sz x => match e x with
    | some (.ptr b 0) => match cw.get b with
      | some (.cells cs) => if cs.length = n * sz then some (.ref cw.next 0 n sz, (cw.kill b).push (.cells cs)) else none
      | _ => none
    | _ => none
  | .app sz x y => (e x).bind fun x => (e y).bind fun y => (seqOf cw sz y).bind fun p => appV cw sz x p.1 p.2
  | .appZ sz zero x n => (e x).bind fun x => (e n).bind fun nv => (intV nv).bind fun n => if 0 ≤ n ∧ n ≤ lim then appV cw sz x (repl n.toNat zero) n.toNat else none
  | .copy sz x y => (e x).bind fun x => (e y).bind fun y => (seqOf cw sz y).bind fun p => match x with
    | .nils => some (.int .i64 0, cw)
    | .vec _ n _ => if min p.2 n = 0 then some (.int .i64 0, cw) else none
    | .ref b off n s => if s ≠ sz then none else match cw.get b with
      | some (.cells cs) => if off + n * sz ≤ cs.length then
          some (.int .i64 (min p.2 n : Nat), cw.set b (.cells (splice cs off (p.1.take (min p.2 n * sz))))) else none
      | _ => none
    | _ => none
  | .clr sz zero x => (e x).bind fun x => match x with
    | .nils => some (.tup [], cw)
    | .vec _ n _ => if n = 0 then some (.tup [], cw) else none
    | .ref b off n s => if s ≠ sz then none else if n = 0 then some (.tup [], cw) else match cw.get b with
      | some (.cells cs) => if off + n * sz ≤ cs.length ∧ zero.length = sz then
          some (.tup [], cw.set b (.cells (splice cs off (repl n zero)))) else none
      | _ => none
    | _ => none
  | .max x y => pu ((e x).bind fun a => (e y).bind fun b => match a, b with
    | .int k a, .int _ b => some (.int k (if b > a then b else a))
    | _, _ => none)
  | .min x y => pu ((e x).bind fun a => (e y).bind fun b => match a, b with
    | .int k a, .int _ b => some (.int k (if b < a then b else a))
    | _, _ => none)
  | .mkfn g first caps => (evs e first).bind fun f => (evs e caps).bind fun c => some (.fn g f c, cw)
  | .ext i x => match e x with
    | some (.tup vs) => pu vs[i]?
    | _ => none
  | .ifc t x => (e x).bind fun v => some (.ifc t v, cw)
  | .mkmap => some (.map cw.next, cw.push (.map [] 0))
  | .look ks zero ok x k => (e x).bind fun x => (e k).bind fun k => if isKey ks k then
      (match x with
      | .nilm => some (none : Option (Nat × CV × Nat))
      | .map b => (match cw.get b with
        | some (.map es _) => findE k es 0
        | _ => none)
      | _ => none).bind fun r =>
      match r with
      | some (_, v, _) => some (if ok then .tup [v, .bool true] else v, cw)
      | none => some (if ok then .tup [zero, .bool false] else zero, cw) else none
  | .mupd ks m k v => (e m).bind fun m => (e k).bind fun k => (e v).bind fun v => if isKey ks k then
      (match m with
      | .map b => match cw.get b with
        | some (.map es clock) => (findE k es 0).bind fun r => match r with
          | some (i, _, _) => some (.tup [], cw.set b (.map (es.modify i fun e => (e.1, v, e.2.2)) clock))
          | none => some (.tup [], cw.set b (.map (es ++ [(k, v, clock)]) (clock + 1)))
        | _ => none
      | _ => none) else none
  | .ment ks zero m k => (e m).bind fun m => (e k).bind fun k => if isKey ks k then
      (match m with
      | .map b => match cw.get b with
        | some (.map es clock) => (findE k es 0).bind fun r => match r with
          | some (_, v, born) => some (.tup [v, .int .i64 born], cw.set b (.map es clock))
          | none => some (.tup [zero, .int .i64 clock], cw.set b (.map (es ++ [(k, zero, clock)]) (clock + 1)))
        | _ => none
      | _ => none) else none
  | .mset m s v => (e m).bind fun m => (e s).bind fun s => (e v).bind fun v => (intV s).bind fun s => match m with
      | .map b => match cw.get b with
        | some (.map es clock) => match es.findIdx? (fun e => (e.2.2 : Int) == s) with
          | some i => some (.tup [], cw.set b (.map (es.modify i fun e => (e.1, v, e.2.2)) clock))
          | none => none
        | _ => none
      | _ => none
  | .mdel ks m k => (e m).bind fun m => (e k).bind fun k => if isKey ks k then
      (match m with
      | .nilm => some (.tup [], cw)
      | .map b => match cw.get b with
        | some (.map es clock) => (findE k es 0).bind fun r => match r with
          | some (i, _, _) => some (.tup [], cw.set b (.map (es.eraseIdx i) clock))
          | none => some (.tup [], cw.set b (.map es clock))
        | _ => none
      | _ => none) else none
  | .mclr m => match e m with
    | some .nilm => some (.tup [], cw)
    | some (.map b) => match cw.get b with
      | some (.map _ clock) => some (.tup [], cw.set b (.map [] clock))
      | _ => none
    | _ => none
  | .i2s _ | .call _ _ | .callv _ _ => none

/-! ## The weakest precondition -/
abbrev Ct := List CV → CW → (CV → CW → Prop) → Prop

/-- Is an operation wanted? -/
def wantedR (g : Option (Nat × Bool)) (ρ : Env) : Option Bool :=
  match g with
  | none => some true
  | some (t, want) => match ρ.get t with
    | some (.bool b) => some (b == want)
    | some (.tup []) => some false
    | _ => none

def wpOp (K : Nat → Ct) (o : ROp) (ρ : Env) (cw : CW) (Q : CV → CW → Prop) : Prop :=
  match o with
  | .call g xs => ∃ vs, evs (ev ρ) xs = some vs ∧ K g vs cw Q
  | .callv f xs => ∃ g first caps vs, ev ρ f = some (.fn g first caps) ∧ evs (ev ρ) xs = some vs ∧ K g (first ++ vs ++ caps) cw Q
  | o => ∃ r, stepOp o (ev ρ) cw = some r ∧ Q r.1 r.2

def wpl (K : Nat → Ct) : List RO → Env → CW → (Env → CW → Prop) → Prop
  | [], ρ, cw, Q => Q ρ cw
  | o :: r, ρ, cw, Q => ∃ b, wantedR o.guard ρ = some b ∧
    (if b then wpOp K o.op ρ cw fun v cw' => wpl K r (ρ.put o.dst v) cw' Q else wpl K r (ρ.put o.dst (.tup [])) cw Q)

inductive RE where
  | nx
  | exit (id : Nat)
  | ret
  deriving Inhabited, DecidableEq

def seqQ (next : Env → CW → Prop) (Q : RE → Env → CW → Prop) : RE → Env → CW → Prop
  | .nx, ρ, cw => next ρ cw
  | e, ρ, cw => Q e ρ cw

def blkQ (id : Nat) (Q : RE → Env → CW → Prop) : RE → Env → CW → Prop
  | .exit i, ρ, cw => if i = id then Q .nx ρ cw else Q (.exit i) ρ cw
  | e, ρ, cw => Q e ρ cw

def loopN (body : Env → CW → (RE → Env → CW → Prop) → Prop) : Nat → Env → CW → (RE → Env → CW → Prop) → Prop
  | 0, _, _, _ => False
  | n + 1, ρ, cw, Q => body ρ cw (seqQ (fun ρ' cw' => loopN body n ρ' cw' Q) Q)

def wpc (K : Nat → Ct) : RC → Env → CW → (RE → Env → CW → Prop) → Prop
  | .skip, ρ, cw, Q => Q .nx ρ cw
  | .region ops _ live, ρ, cw, Q => wpl K ops ρ cw fun ρ' cw' => Q .nx (ρ'.keep live) cw'
  | .seq a b, ρ, cw, Q => wpc K a ρ cw (seqQ (fun ρ' cw' => wpc K b ρ' cw' Q) Q)
  | .cond x a b, ρ, cw, Q => ∃ c, ev ρ x = some (.bool c) ∧ (if c then wpc K a ρ cw Q else wpc K b ρ cw Q)
  | .block id c, ρ, cw, Q => wpc K c ρ cw (blkQ id Q)
  | .loop c, ρ, cw, Q => ∃ n, loopN (wpc K c) n ρ cw Q
  | .exit id, ρ, cw, Q => Q (.exit id) ρ cw
  | .ret, ρ, cw, Q => Q .ret ρ cw
  | .scope c, ρ, cw, Q => wpc K c ρ cw Q
  | .label _, ρ, cw, Q => Q .nx ρ cw
  | .multi ops orders live, ρ, cw, Q => ∀ o ∈ orders, wpl K (o.map fun i => (ops[i]?).getD default) ρ cw fun ρ' cw' => Q .nx (ρ'.keep (some live)) cw'

/-! ## Calls -/
/-- A value of a call, told without the blocks that the call made: slices over them become rows that nobody writes any more. -/
inductive Frz (base : Nat) (cw : CW) : CV → CV → Prop where
  | int (k : IntKind) (n : Int) : Frz base cw (.int k n) (.int k n)
  | bool (b : Bool) : Frz base cw (.bool b) (.bool b)
  | str (l : List UInt8) : Frz base cw (.str l) (.str l)
  | nilp : Frz base cw .nilp .nilp
  | nils : Frz base cw .nils .nils
  | nilm : Frz base cw .nilm .nilm
  | nilf : Frz base cw .nilf .nilf
  | nili : Frz base cw .nili .nili
  | agg {cs ds : List CV} : cs.length = ds.length → (∀ (i : Nat) (c d : CV), cs[i]? = some c → ds[i]? = some d → Frz base cw c d) → Frz base cw (.agg cs) (.agg ds)
  | tup {cs ds : List CV} : cs.length = ds.length → (∀ (i : Nat) (c d : CV), cs[i]? = some c → ds[i]? = some d → Frz base cw c d) → Frz base cw (.tup cs) (.tup ds)
  | ptr {b off : Nat} : b < base → Frz base cw (.ptr b off) (.ptr b off)
  | map {b : Nat} : b < base → Frz base cw (.map b) (.map b)
  | vec {cs ds : List CV} {n : Nat} {clip : Bool} : cs.length = ds.length → (∀ (i : Nat) (c d : CV), cs[i]? = some c → ds[i]? = some d → Frz base cw c d) → Frz base cw (.vec cs n clip) (.vec ds n clip)
  | keep {b off n sz : Nat} : b < base → Frz base cw (.ref b off n sz) (.ref b off n sz)
  | ref {b off n sz : Nat} {cs ds : List CV} : base ≤ b → cw.get b = some (.cells cs) → off + n * sz ≤ cs.length → ds.length = n * sz →
      (∀ (i : Nat) (c d : CV), i < n * sz → cs[off + i]? = some c → ds[i]? = some d → Frz base cw c d) → Frz base cw (.ref b off n sz) (.vec ds n false)
  | fn {g : Nat} {f1 c1 f2 c2 : List CV} : f1.length = f2.length → c1.length = c2.length → (∀ (i : Nat) (c d : CV), f1[i]? = some c → f2[i]? = some d → Frz base cw c d) →
      (∀ (i : Nat) (c d : CV), c1[i]? = some c → c2[i]? = some d → Frz base cw c d) → Frz base cw (.fn g f1 c1) (.fn g f2 c2)
  | ifc {t : Nat} {v u : CV} : Frz base cw v u → Frz base cw (.ifc t v) (.ifc t u)

def resOne (cw : CW) (ρ : Env) : RR → Option CV
  | .t n => ρ.get n
  | .c n agg sz => match ρ.get n with
    | some (.ptr b off) => match cw.get b with
      | some (.cells cs) => ldc agg sz cs off
      | _ => none
    | _ => none

def resAll (cw : CW) (ρ : Env) : List RR → Option (List CV)
  | [] => some []
  | r :: rs => (resOne cw ρ r).bind fun v => (resAll cw ρ rs).bind fun vs => some (v :: vs)

def resV (cw : CW) (ρ : Env) (rs : List RR) : Option CV :=
  (resAll cw ρ rs).bind fun vs => match vs with
    | [v] => some v
    | vs => some (.tup vs)

def numb : Nat → List CV → Env
  | _, [] => []
  | i, v :: vs => (i, v) :: numb (i + 1) vs

/-- How a call leaves the world: as it is (what it made stays), or as it was (what it made is told by value). -/
inductive Leave (cw0 : CW) (v : CV) (cw : CW) : CV → CW → Prop where
  | stay : Leave cw0 v cw v cw
  | gone {u : CV} : Frz cw0.next cw v u → (∀ b, b < cw0.next → cw.get b = cw0.get b) → Leave cw0 v cw u cw0

def wpF (K : Nat → Ct) (f : RF) (args : List CV) (cw : CW) (Q : CV → CW → Prop) : Prop :=
  args.length = f.np ∧
  wpc K f.body (numb 0 args) cw fun e ρ' cw' => (e = .nx ∨ e = .ret) ∧ ∃ v u cw'', resV cw' ρ' f.rs = some v ∧ Leave cw v cw' u cw'' ∧ Q u cw''

end Go.Cs
