/-
  THE LOGIC V, PART b: the slim code, and what an operation that writes nothing does to an abstract state.
-/
import Derived.Test.YtchmoleeajkioaaDoorVa
namespace Go.Proofs.YtchmoleeajkioaaDoor.V
open Go Go.RowKit
set_option linter.unusedSimpArgs false
set_option linter.unusedVariables false

inductive SA where
  | t (n : Nat)
  | c (x : AV)
  deriving Inhabited

/-- The kind of a cell that is compared. -/
inductive CK where
  | i (k : IntKind)
  | b
  | s
  deriving DecidableEq, Inhabited

inductive SOp where
  | mv (x : SA)
  | bin (op : BinOp) (k : IntKind) (x y : SA)
  | shf (op : BinOp) (k : IntKind) (x y : SA)
  | sbin (op : BinOp) (x y : SA)
  | bbin (ne : Bool) (x y : SA)
  | abin (ks : List CK) (ne : Bool) (x y : SA)
  | neg (k : IntKind) (x : SA)
  | com (k : IntKind) (x : SA)
  | not (x : SA)
  | conv (k : IntKind) (x : SA)
  | scv (x : SA)
  | s2b (x : SA)
  | b2s (x : SA)
  | chk (x : SA)
  | fad (off : Nat) (x : SA)
  | fld (off : Nat) (n : Option Nat) (x : SA)
  | ld (n : Option Nat) (x : SA)
  | st (n : Nat) (x y : SA)
  | new (z : List AV)
  | box (n : Nat) (x : SA)
  | bld (z : List AV) (ps : List (Nat × Nat × SA))
  | bsl (sz : Nat) (z : List DV) (n : Nat) (ps : List (Nat × SA))
  | iad (sz : Nat) (z : List DV) (x i : SA)
  | ist (x i : SA)
  | sli (sz : Nat) (x : SA) (lo hi : Option SA)
  | sl3 (sz : Nat) (x : SA) (lo hi mx : SA)
  | sst (x : SA) (lo hi : Option SA)
  | len (x : SA)
  | sln (x : SA)
  | ext (j : Nat) (x : SA)
  | mk (sz : Nat) (z : List DV) (l c : SA)
  | app (sz : Nat) (x y : SA)
  | cpy (sz : Nat) (x y : SA)
  | clr (sz : Nat) (z : List DV) (x : SA)
  | call (f : Nat) (xs : List SA)
  | calv (f : SA) (xs : List SA)
  | mkf (fn : Fn) (fs cs : List SA)
  | pick (c a b : SA)
  | mx (x y : SA)
  | mn (x y : SA)
  | isn (ne : Bool) (x : SA)
  | sfz (x : SA)
  | bad
  deriving Inhabited

/-- An operation: its slot, its guard (a slot, and what it must hold), what it does. -/
structure SO where
  d : Option Nat
  g : Option (Nat × Bool)
  op : SOp
  deriving Inhabited

/-- A region whose order is drawn: what comes next; or, where it may be this or that, both. -/
inductive DT where
  | done
  | op (o : SO) (t : DT)
  | both (a b : DT)
  deriving Inhabited

inductive SC where
  | skip
  | rg (ops : List SO)
  | rgd (t : DT)
  | seq (a b : SC)
  | cond (c : SA) (a b : SC)
  | blk (id : Nat) (a : SC)
  | loop (a : SC)
  | exit (id : Nat)
  | ret
  | weak (a : SC)
  | bad
  deriving Inhabited

/-- Without the places where less is told. -/
def SC.strip : SC → SC
  | .seq a b => .seq a.strip b.strip
  | .cond c a b => .cond c a.strip b.strip
  | .blk id a => .blk id a.strip
  | .loop a => .loop a.strip
  | .weak a => a.strip
  | .skip => .skip
  | .rg ops => .rg ops
  | .rgd t => .rgd t
  | .exit id => .exit id
  | .ret => .ret
  | .bad => .bad

/-- The abstract state. -/
structure St where
  s : Nat → AV
  bx : Nat → Option (List AV)
  tg : Nat → Option (Nat × Nat)

abbrev St.H (st : St) : Hp := ⟨st.bx, st.tg⟩

def upd {α : Type} (f : Nat → α) (i : Nat) (v : α) : Nat → α := fun j => if j = i then v else f j

theorem upd_at {α : Type} (f : Nat → α) (i : Nat) (v : α) (j : Nat) : upd f i v j = if j = i then v else f j := rfl

def St.get (st : St) : SA → AV
  | .t n => st.s n
  | .c x => x

/-- What an operation makes beside its value: nothing, a box, a row. -/
inductive Al where
  | no
  | box (cells : List AV)
  | row (sz n : Nat)

structure QR where
  p : Prop
  v : AV
  al : Al

def bad : QR := ⟨False, .any, .no⟩
def gd (c : Prop) (q : QR) : QR := ⟨c ∧ q.p, q.v, q.al⟩

/-- A value lands in a slot. -/
def St.putA (st : St) (d : Nat) (v : AV) : Al → St
  | .no => ⟨upd st.s d v, st.bx, st.tg⟩
  | .box cs => ⟨upd st.s d v, upd st.bx d (some cs), st.tg⟩
  | .row sz n => ⟨upd st.s d v, st.bx, upd st.tg d (some (sz, n))⟩

def inK : IntKind → Int → Prop
  | .i8, n => -128 ≤ n ∧ n ≤ 127
  | .i16, n => -32768 ≤ n ∧ n ≤ 32767
  | .i32, n => -2147483648 ≤ n ∧ n ≤ 2147483647
  | .i64, n => -9223372036854775808 ≤ n ∧ n ≤ 9223372036854775807
  | .u8, n => 0 ≤ n ∧ n ≤ 255
  | .u16, n => 0 ≤ n ∧ n ≤ 65535
  | .u32, n => 0 ≤ n ∧ n ≤ 4294967295
  | .u64, n => 0 ≤ n ∧ n ≤ 18446744073709551615

def iv (k : IntKind) (n : Int) : AV := .d (.int k n)
def bv (b : Bool) : AV := .d (.bool b)
def sv (s : List UInt8) : AV := .d (.str s)

/-- A signed number is told as it is, and must fit; an unsigned one wraps. -/
def fit (k : IntKind) (n : Int) : QR := match k with
  | .i8 | .i16 | .i32 | .i64 => ⟨inK k n, iv k n, .no⟩
  | _ => ⟨True, iv k (k.wrap n), .no⟩

def bitsI (op : BinOp) (k : IntKind) (x y : Int) : Int :=
  match op with
  | .and => k.wrap (BitVec.ofInt k.bits x &&& BitVec.ofInt k.bits y).toNat
  | .or => k.wrap (BitVec.ofInt k.bits x ||| BitVec.ofInt k.bits y).toNat
  | .xor => k.wrap (BitVec.ofInt k.bits x ^^^ BitVec.ofInt k.bits y).toNat
  | .andNot => k.wrap (BitVec.ofInt k.bits x &&& ~~~(BitVec.ofInt k.bits y)).toNat
  | _ => 0

def arI (op : BinOp) (k : IntKind) (a b : Int) : QR :=
  match op with
  | .add => fit k (a + b)
  | .sub => fit k (a - b)
  | .mul => fit k (a * b)
  | .quo => ⟨b ≠ 0 ∧ (fit k (a.tdiv b)).p, (fit k (a.tdiv b)).v, .no⟩
  | .rem => ⟨b ≠ 0, iv k (a.tmod b), .no⟩
  | .and => ⟨True, iv k (bitsI .and k a b), .no⟩
  | .or => ⟨True, iv k (bitsI .or k a b), .no⟩
  | .xor => ⟨True, iv k (bitsI .xor k a b), .no⟩
  | .andNot => ⟨True, iv k (bitsI .andNot k a b), .no⟩
  | .eql => ⟨True, bv (a == b), .no⟩
  | .neq => ⟨True, bv (a != b), .no⟩
  | .lss => ⟨True, bv (decide (a < b)), .no⟩
  | .leq => ⟨True, bv (decide (a ≤ b)), .no⟩
  | .gtr => ⟨True, bv (decide (a > b)), .no⟩
  | .geq => ⟨True, bv (decide (a ≥ b)), .no⟩
  | _ => bad

def shI (op : BinOp) (k : IntKind) (a b : Int) : QR :=
  match op with
  | .shl => ⟨0 ≤ b ∧ (fit k (a * 2 ^ (min b.toNat k.bits))).p, (fit k (a * 2 ^ (min b.toNat k.bits))).v, .no⟩
  | .shr => ⟨0 ≤ b, iv k (a.fdiv (2 ^ (min b.toNat k.bits))), .no⟩
  | _ => bad

def stI (op : BinOp) (x y : List UInt8) : QR :=
  match op with
  | .add => ⟨x.length + y.length ≤ 9223372036854775807, sv (x ++ y), .no⟩
  | .eql => ⟨True, bv (x == y), .no⟩
  | .neq => ⟨True, bv (x != y), .no⟩
  | .lss => ⟨True, bv (Op.bytesLess x y), .no⟩
  | .leq => ⟨True, bv (Op.bytesLess x y || x == y), .no⟩
  | .gtr => ⟨True, bv (!(Op.bytesLess x y || x == y)), .no⟩
  | .geq => ⟨True, bv (!(Op.bytesLess x y)), .no⟩
  | _ => bad

/-- A row of cells out of a value: what holds a row of this call's own is none. -/
def dvOf : AV → Option DV
  | .d x => some x
  | .nils sz => some (.sl sz [])
  | _ => none
def rowOf : AV → Option (List DV)
  | .agg cs => cs.mapM dvOf
  | x => (dvOf x).map fun y => [y]

/-- The cells of a value. -/
def cellsOf : AV → List AV
  | .agg cs => cs
  | x => [x]

def splice {α : Type} (l : List α) (off : Nat) (p : List α) : List α := l.take off ++ p ++ l.drop (off + p.length)

/-- Parts laid into cells. -/
def fillA (z : List AV) : List (Nat × Nat × AV) → QR
  | [] => ⟨True, .agg z, .no⟩
  | (off, n, x) :: r => ⟨((cellsOf x).length = n ∧ off + n ≤ z.length ∧ (cellsOf x).all AV.one = true) ∧ (fillA (splice z off (cellsOf x)) r).p, (fillA (splice z off (cellsOf x)) r).v, .no⟩

def fillR (rows : List (List DV)) (sz : Nat) : List (Nat × AV) → Option (List (List DV))
  | [] => some rows
  | (i, x) :: r => match rowOf x with
    | some y => if y.length = sz ∧ i < rows.length then fillR (rows.set i y) sz r else none
    | none => none

def addOff (off : Nat) : AV → QR
  | .ptr l o => ⟨True, .ptr l (o + off), .no⟩
  | .rptr row => ⟨off ≤ row.length, .rptr (row.drop off), .no⟩
  | .optr t sz i j row => ⟨True, .optr t sz i (j + off) row, .no⟩
  | _ => bad

def fldF (off : Nat) (n : Option Nat) : AV → QR
  | .agg cs => match n with
    | none => match cs[off]? with
      | some x => ⟨True, x, .no⟩
      | none => bad
    | some m => ⟨off + m ≤ cs.length, .agg ((cs.drop off).take m), .no⟩
  | _ => bad

def ldC (cs : List AV) (o : Nat) : Option Nat → QR
  | none => match cs[o]? with
    | some x => ⟨True, x, .no⟩
    | none => bad
  | some m => ⟨o + m ≤ cs.length, .agg ((cs.drop o).take m), .no⟩

def ldF (bx : Nat → Option (List AV)) (n : Option Nat) : AV → QR
  | .ptr l o => match bx l with
    | some cs => ldC cs o n
    | none => bad
  | .rptr row => ldC (row.map .d) 0 n
  | .optr _ _ _ j row => ldC (row.map .d) j n
  | _ => bad

def iadF (sz : Nat) (z : List DV) : AV → AV → QR
  | .d (.sl sz' rows), .d (.int _ i) => ⟨sz' = sz ∧ 0 ≤ i ∧ i < rows.length, .rptr (rows.getD i.toNat z), .no⟩
  | .own t sz' off rows, .d (.int _ i) => ⟨sz' = sz ∧ 0 ≤ i ∧ i < rows.length, .optr t sz (off + i.toNat) 0 (rows.getD i.toNat z), .no⟩
  | _, _ => bad

def istF : AV → AV → QR
  | .d (.str s), .d (.int _ i) => ⟨0 ≤ i ∧ i < s.length, iv .u8 (s.getD i.toNat 0).toNat, .no⟩
  | _, _ => bad

def loOf : Option AV → Option Int
  | none => some 0
  | some (.d (.int _ i)) => some i
  | _ => none
def hiOf (n : Nat) : Option AV → Option Int
  | none => some n
  | some (.d (.int _ i)) => some i
  | _ => none

def sliF (sz : Nat) (x : AV) (lo hi : Option AV) : QR :=
  match x with
  | .d (.sl sz' rows) => match loOf lo, hiOf rows.length hi with
    | some l, some h => ⟨sz' = sz ∧ 0 ≤ l ∧ l ≤ h ∧ h ≤ rows.length, .d (.sl sz ((rows.take h.toNat).drop l.toNat)), .no⟩
    | _, _ => bad
  | .nils _ => match loOf lo, hiOf 0 hi with
    | some l, some h => ⟨l = 0 ∧ h = 0, .nils sz, .no⟩
    | _, _ => bad
  | .own t sz' off rows => match loOf lo, hiOf rows.length hi with
    | some l, some h => ⟨sz' = sz ∧ 0 ≤ l ∧ l ≤ h ∧ h ≤ rows.length, .own t sz (off + l.toNat) ((rows.take h.toNat).drop l.toNat), .no⟩
    | _, _ => bad
  | _ => bad

def sstF (x : AV) (lo hi : Option AV) : QR :=
  match x with
  | .d (.str s) => match loOf lo, hiOf s.length hi with
    | some l, some h => ⟨0 ≤ l ∧ l ≤ h ∧ h ≤ s.length, sv ((s.take h.toNat).drop l.toNat), .no⟩
    | _, _ => bad
  | _ => bad

def slnF : AV → QR
  | .d (.str s) => ⟨True, iv .i64 s.length, .no⟩
  | _ => bad
def lenF : AV → QR
  | .d (.sl _ rows) => ⟨True, iv .i64 rows.length, .no⟩
  | .own _ _ _ rows => ⟨True, iv .i64 rows.length, .no⟩
  | .nils _ => ⟨True, iv .i64 0, .no⟩
  | _ => bad

def extF (j : Nat) : AV → QR
  | .tup vs => match vs[j]? with
    | some x => ⟨True, x, .no⟩
    | none => bad
  | _ => bad

def byteOf : List DV → UInt8
  | [.int _ n] => UInt8.ofNat n.toNat
  | _ => 0
def isByte : List DV → Bool
  | [.int .u8 _] => true
  | _ => false

def b2sF : AV → QR
  | .d (.sl sz rows) => ⟨sz = 1 ∧ rows.all isByte = true, sv (rows.map byteOf), .no⟩
  | .own _ sz _ rows => ⟨sz = 1 ∧ rows.all isByte = true, sv (rows.map byteOf), .no⟩
  | .nils _ => ⟨True, sv [], .no⟩
  | _ => bad

def cellEq : CK → AV → AV → Option Bool
  | .i k, .d (.int k1 a), .d (.int k2 b) => if k1 = k ∧ k2 = k then some (a == b) else none
  | .b, .d (.bool a), .d (.bool b) => some (a == b)
  | .s, .d (.str a), .d (.str b) => some (a == b)
  | _, _, _ => none
def cellsEq : List CK → List AV → List AV → Option Bool
  | [], [], [] => some true
  | k :: ks, a :: as, b :: bs => match cellEq k a b, cellsEq ks as bs with
    | some x, some y => some (x && y)
    | _, _ => none
  | _, _, _ => none

/-- What an operation that writes nothing gives. -/
def qf (st : St) (d : Nat) : SOp → QR
  | .mv x => ⟨True, st.get x, .no⟩
  | .bin op k x y => match st.get x, st.get y with
    | .d (.int k1 a), .d (.int k2 b) => gd (k1 = k ∧ k2 = k) (arI op k a b)
    | _, _ => bad
  | .shf op k x y => match st.get x, st.get y with
    | .d (.int k1 a), .d (.int _ b) => gd (k1 = k) (shI op k a b)
    | _, _ => bad
  | .sbin op x y => match st.get x, st.get y with
    | .d (.str a), .d (.str b) => stI op a b
    | _, _ => bad
  | .bbin ne x y => match st.get x, st.get y with
    | .d (.bool a), .d (.bool b) => ⟨True, bv (if ne then a != b else a == b), .no⟩
    | _, _ => bad
  | .abin ks ne x y => match st.get x, st.get y with
    | .agg a, .agg b => match cellsEq ks a b with
      | some r => ⟨True, bv (if ne then !r else r), .no⟩
      | none => bad
    | _, _ => bad
  | .neg k x => match st.get x with
    | .d (.int k1 a) => gd (k1 = k) (fit k (0 - a))
    | _ => bad
  | .com k x => match st.get x with
    | .d (.int k1 a) => gd (k1 = k) ⟨True, iv k (bitsI .xor k (if k.signed then -1 else k.max) a), .no⟩
    | _ => bad
  | .not x => match st.get x with
    | .d (.bool a) => ⟨True, bv (!a), .no⟩
    | _ => bad
  | .conv k x => match st.get x with
    | .d (.int _ a) => ⟨True, iv k (k.wrap a), .no⟩
    | _ => bad
  | .scv x => match st.get x with
    | .d (.str s) => ⟨True, sv s, .no⟩
    | _ => bad
  | .s2b x => match st.get x with
    | .d (.str s) => ⟨st.tg d = none ∧ s.length ≤ 1099511627776, .own d 1 0 (s.map fun b => [.int .u8 b.toNat]), .row 1 s.length⟩
    | _ => bad
  | .b2s x => b2sF (st.get x)
  | .chk x => match st.get x with
    | .ptr l o => ⟨True, .ptr l o, .no⟩
    | .rptr r => ⟨True, .rptr r, .no⟩
    | .optr t sz i j r => ⟨True, .optr t sz i j r, .no⟩
    | .clos (.func f) a b => ⟨True, .clos (.func f) a b, .no⟩
    | _ => bad
  | .fad off x => addOff off (st.get x)
  | .fld off n x => fldF off n (st.get x)
  | .ld n x => ldF st.bx n (st.get x)
  | .new z => ⟨st.bx d = none, .ptr d 0, .box z⟩
  | .box n x => ⟨st.bx d = none ∧ (cellsOf (st.get x)).length = n ∧ (cellsOf (st.get x)).all AV.one = true, .ptr d 0, .box (cellsOf (st.get x))⟩
  | .bld z ps => fillA z (ps.map fun (x : Nat × Nat × SA) => (x.1, x.2.1, st.get x.2.2))
  | .bsl sz z n ps => match fillR (List.replicate n z) sz (ps.map fun (i, x) => (i, st.get x)) with
    | some rows => ⟨st.tg d = none, .own d sz 0 rows, .row sz n⟩
    | none => bad
  | .iad sz z x i => iadF sz z (st.get x) (st.get i)
  | .ist x i => istF (st.get x) (st.get i)
  | .sli sz x lo hi => sliF sz (st.get x) (lo.map st.get) (hi.map st.get)
  | .sst x lo hi => sstF (st.get x) (lo.map st.get) (hi.map st.get)
  | .len x => lenF (st.get x)
  | .sln x => slnF (st.get x)
  | .ext j x => extF j (st.get x)
  | .mk sz z l c => match st.get l, st.get c with
    | .d (.int _ a), .d (.int _ b) => ⟨st.tg d = none ∧ 0 ≤ a ∧ a ≤ b ∧ b ≤ 1099511627776, .own d sz 0 (List.replicate a.toNat z), .row sz a.toNat⟩
    | _, _ => bad
  | .mkf fn fs cs => ⟨True, .clos fn (fs.map st.get) (cs.map st.get), .no⟩
  | .pick c a b => match st.get c with
    | .d (.bool true) => ⟨True, st.get a, .no⟩
    | .d (.bool false) => ⟨True, st.get b, .no⟩
    | _ => bad
  | .mx x y => match st.get x, st.get y with
    | .d (.int k a), .d (.int _ b) => ⟨True, iv k (if b > a then b else a), .no⟩
    | _, _ => bad
  | .mn x y => match st.get x, st.get y with
    | .d (.int k a), .d (.int _ b) => ⟨True, iv k (if b < a then b else a), .no⟩
    | _, _ => bad
  | _ => bad

end Go.Proofs.YtchmoleeajkioaaDoor.V
