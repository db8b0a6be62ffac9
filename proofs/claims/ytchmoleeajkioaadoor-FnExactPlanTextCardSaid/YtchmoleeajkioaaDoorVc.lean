/-
  THE LOGIC V, PART c: from the loaded code to the slim code.
-/
import Derived.Test.YtchmoleeajkioaaDoorVb
namespace Go.Proofs.YtchmoleeajkioaaDoor.V
open Go Go.RowKit
set_option linter.unusedSimpArgs false
set_option linter.unusedVariables false

/-- A closed value reads as an abstract one. -/
def constOk : Value → AV → Bool
  | .int k n, .d (.int k' m) => k == k' && n == m
  | .bool a, .d (.bool b) => a == b
  | .string s, .d (.str l) => s.data.toList == l
  | .slice none 0 0, .nils _ => true
  | .pointer none, .d (.oth (.pointer none)) => true
  | .map none, .d (.oth (.map none)) => true
  | .nilFunc, .d (.oth .nilFunc) => true
  | .nilIface, .d (.oth .nilIface) => true
  | _, _ => false

theorem VL.const {w : World} {S : Nat → Prop} {ι : Io} {H : Hp} {v : Value} {x : AV} (h : constOk v x = true) : VL w S ι H v x := by
  unfold constOk at h
  split at h
  · simp at h; obtain ⟨rfl, rfl⟩ := h; exact .d (.int _ _)
  · simp at h; subst h; exact .d (.bool _)
  · rename_i s l
    simp at h; subst h
    have : s = ⟨s.data.toList.toArray⟩ := by cases s; simp
    rw [this]; simp only [Array.toArray_toList]
    have := Rd.str (w := w) (S := S) s.data.toList
    simp only [Array.toArray_toList] at this
    exact .d this
  · exact .nils _
  · exact .d (.oth _ rfl)
  · exact .d (.oth _ rfl)
  · exact .d (.oth _ rfl)
  · exact .d (.oth _ rfl)
  · cases h

def zeroAV (P : Program) : Nat → TypeId → Option (List AV)
  | 0, _ => none
  | f + 1, t => match P.underlying t with
    | some (.int k) => some [.d (.int k 0)]
    | some .bool => some [.d (.bool false)]
    | some .string => some [.d (.str [])]
    | some (.slice e) => some [.nils (P.cellsOf e)]
    | some (.pointer _) => some [.d (.oth (.pointer none))]
    | some (.map _ _) => some [.d (.oth (.map none))]
    | some (.func _ _ _) => some [.d (.oth .nilFunc)]
    | some (.interface _) => some [.d (.oth .nilIface)]
    | some (.struct fs) => (fs.toList.mapM fun fd => zeroAV P f fd.type).map List.flatten
    | _ => none

/-- The zero value's cells, held against the type's own. -/
def zeroA (P : Program) (t : TypeId) : Option (List AV) :=
  match zeroAV P 12 t, (P.info? t).bind (·.zero) with
  | some zs, some z => if z.cells.size == zs.length && (z.cells.toList.zip zs).all (fun (v, x) => constOk v x) && zs.all AV.one then some zs else none
  | _, _ => none

def slimConst (P : Program) (t : TypeId) (v : Value) : Option AV :=
  match v with
  | .int k n => some (.d (.int k n))
  | .bool b => some (.d (.bool b))
  | .string s => some (.d (.str s.data.toList))
  | .slice none 0 0 => match P.underlying t with
    | some (.slice e) => some (.nils (P.cellsOf e))
    | _ => none
  | .pointer none => some (.d (.oth (.pointer none)))
  | .map none => some (.d (.oth (.map none)))
  | .nilFunc => some (.d (.oth .nilFunc))
  | .nilIface => some (.d (.oth .nilIface))
  | _ => none

def slimArg (P : Program) (t : TypeId) : Operand → Option SA
  | .tmp n => some (.t n)
  | .const v => (slimConst P t v).map .c
  | .func f => some (.c (.clos (.func f) [] []))
  | .global _ => none

def isAggB (P : Program) (t : TypeId) : Bool := match P.underlying t with
  | some (.struct _) => true
  | _ => false
def isArrB (P : Program) (t : TypeId) : Bool := match P.underlying t with
  | some (.array _ _) => true
  | _ => false

/-- How a type is loaded: one cell, or so many. -/
def shapeOf (P : Program) (t : TypeId) : Option (Option Nat) :=
  match P.underlying t with
  | some (.struct _) => some (some (P.cellsOf t))
  | some (.array _ _) => none
  | some _ => some none
  | none => none

def optArg (P : Program) (t : TypeId) : Option Operand → Option (Option SA)
  | none => some none
  | some x => (slimArg P t x).map some

/-- A struct type's field: its place, its cells, its type. -/
def fieldOf (P : Program) (fs : Array Field) (i : Nat) : Option (Nat × Nat × TypeId) :=
  match fs[i]? with
  | some f => if P.cellsOf f.type = 0 then none else some (f.offset, P.cellsOf f.type, f.type)
  | none => none

def ckOf (P : Program) (t : TypeId) : Option CK := match P.underlying t with
  | some (.int k) => some (.i k)
  | some .bool => some .b
  | some .string => some .s
  | _ => none

/-- Fields of types that are compared cell by cell: whole numbers, bools, strings, one behind the other from place k on. -/
def flatEq (P : Program) : Nat → List Field → Option (List CK)
  | _, [] => some []
  | k, f :: fs => if f.offset = k ∧ f.name ≠ "_" then match ckOf P f.type, flatEq P (k + 1) fs with
    | some c, some r => some (c :: r)
    | _, _ => none
    else none

/-- The zero value has as many cells as the type says. -/
def zeroFits (P : Program) (e : TypeId) : Bool := match (P.info? e).bind (·.zero) with
  | some z => z.cells.size == P.cellsOf e
  | none => false

def isU8 (P : Program) (e : TypeId) : Bool := match P.underlying e with
  | some (.int .u8) => true
  | _ => false

/-- The arguments of a call. -/
def callArgs (P : Program) (c : Call) : Option (List SA) :=
  if c.args.size = c.argTypes.size then (c.args.toList.zip c.argTypes.toList).mapM fun (x : Operand × TypeId) => slimArg P x.2 x.1 else none

def slimOp (P : Program) (o : Oper) : Option SOp :=
  match o.op with
  | .move x => (slimArg P o.type x).map .mv
  | .assign x => (slimArg P o.type x).map .mv
  | .pick c a b => do pure (.pick (← slimArg P 0 c) (← slimArg P o.type a) (← slimArg P o.type b))
  | .binOp op xT x y yT => do
    let x' ← slimArg P xT x
    let y' ← slimArg P yT y
    match P.underlying xT with
    | some (.int k) => match op with
      | .shl => some (.shf .shl k x' y')
      | .shr => some (.shf .shr k x' y')
      | _ => some (.bin op k x' y')
    | some .string => some (.sbin op x' y')
    | some .bool => match op with
      | .eql => some (.bbin false x' y')
      | .neq => some (.bbin true x' y')
      | _ => none
    | some (.struct fs) => (match flatEq P 0 fs.toList with
      | some ks => if P.stoodInHeld xT || P.eqGuardType P.depth xT then none else match op with
        | .eql => some (.abin ks false x' y')
        | .neq => some (.abin ks true x' y')
        | _ => none
      | none => none)
    | some (.slice _) => match op, y with
      | .eql, .const (.slice none 0 0) => some (.isn false x')
      | .neq, .const (.slice none 0 0) => some (.isn true x')
      | _, _ => none
    | _ => none
  | .unOp op xT x => do
    let x' ← slimArg P xT x
    match op, P.underlying xT with
    | .neg, some (.int k) => some (.neg k x')
    | .xor, some (.int k) => some (.com k x')
    | .not, some .bool => some (.not x')
    | _, _ => none
  | .convert src dst x => do
    let x' ← slimArg P src x
    match P.underlying src, P.underlying dst with
    | some (.int _), some (.int k) => some (.conv k x')
    | some .string, some .string => some (.scv x')
    | some .string, some (.slice e) => if isU8 P e && P.cellsOf e == 1 && P.bytesOf e == 1 then some (.s2b x') else none
    | some (.slice e), some .string => if isU8 P e then some (.b2s x') else none
    | some (.slice _), some (.slice e) => if src == dst && isU8 P e && P.cellsOf e == 1 then some (.sfz x') else none
    | _, _ => none
  | .nilCheck x => (slimArg P o.type x).map .chk
  | .fieldAddr sT x i => do
    let x' ← slimArg P o.type x
    match P.underlying sT with
    | some (.struct fs) => (fieldOf P fs i).map fun (off, _, _) => .fad off x'
    | _ => none
  | .field sT x i => do
    let x' ← slimArg P sT x
    match P.underlying sT with
    | some (.struct fs) => do
      let (off, _, ft) ← fieldOf P fs i
      pure (.fld off (← shapeOf P ft) x')
    | _ => none
  | .load t x => do pure (.ld (← shapeOf P t) (← slimArg P o.type x))
  | .store t x y => do pure (.st (P.cellsOf t) (← slimArg P o.type x) (← slimArg P t y))
  | .alloc t => (zeroA P t).map .new
  | .box t x => do pure (.box (P.cellsOf t) (← slimArg P t x))
  | .build t ps => match P.underlying t with
    | some (.struct fs) => do
      let z ← zeroA P t
      let ps' ← ps.toList.mapM fun (x : Nat × Operand) => (fieldOf P fs x.1).bind fun (y : Nat × Nat × TypeId) => (slimArg P y.2.2 x.2).bind fun u => some (y.1, y.2.1, u)
      if (fs.toList.mapM fun f => P.info? f.type).isSome then pure (.bld z ps') else none
    | _ => none
  | .buildSlice t n ps => match P.underlying t with
    | some (.slice e) => do
      let z ← zeroA P e
      let zd ← z.mapM dvOf
      let ps' ← ps.toList.mapM fun (i, x) => do pure (i, ← slimArg P e x)
      if P.cellsOf e = zd.length ∧ 0 < zd.length ∧ n * zd.length ≤ 4096 then pure (.bsl zd.length zd n ps') else none
    | _ => none
  | .indexAddr t x i => match P.underlying t with
    | some (.slice e) => do
      let z ← zeroA P e
      let zd ← z.mapM dvOf
      if P.cellsOf e = zd.length ∧ zd.length ≠ 0 then pure (.iad zd.length zd (← slimArg P t x) (← slimArg P 0 i)) else none
    | _ => none
  | .index t x i => match P.underlying t with
    | some .string => do pure (.ist (← slimArg P t x) (← slimArg P 0 i))
    | _ => none
  | .slice t x lo hi mx => match P.underlying t, mx with
    | some (.slice e), none => if P.cellsOf e = 0 then none else do pure (.sli (P.cellsOf e) (← slimArg P t x) (← optArg P 0 lo) (← optArg P 0 hi))
    | some .string, none => do pure (.sst (← slimArg P t x) (← optArg P 0 lo) (← optArg P 0 hi))
    | some (.slice e), some m => match lo, hi with
      | some l, some h => if P.cellsOf e = 0 then none else do pure (.sl3 (P.cellsOf e) (← slimArg P t x) (← slimArg P 0 l) (← slimArg P 0 h) (← slimArg P 0 m))
      | _, _ => none
    | _, _ => none
  | .extract x j => (slimArg P o.type x).map (.ext j)
  | .makeSlice t l c => match P.underlying t with
    | some (.slice e) => do
      let z ← zeroA P e
      let zd ← z.mapM dvOf
      if P.cellsOf e = zd.length ∧ 0 < zd.length ∧ P.bytesOf e ≤ 128 then pure (.mk zd.length zd (← slimArg P 0 l) (← slimArg P 0 c)) else none
    | _ => none
  | .makeFunc fn fs cs => do pure (.mkf fn (← fs.toList.mapM (slimArg P 0)) (← cs.toList.mapM (slimArg P 0)))
  | .call c => match c.callee with
    | .builtin b => match b, c.args.toList, c.argTypes.toList with
      | .len, [x], [t] => match P.underlying t with
        | some (.slice _) => (slimArg P t x).map .len
        | some .string => (slimArg P t x).map .sln
        | _ => none
      | .append, [x, y], [t, u] => match P.underlying t, P.underlying u with
        | some (.slice e), some (.slice e') => if P.cellsOf e = P.cellsOf e' ∧ 0 < P.cellsOf e ∧ P.bytesOf e ≤ 128 ∧ zeroFits P e = true then do pure (.app (P.cellsOf e) (← slimArg P t x) (← slimArg P u y)) else none
        | some (.slice e), some .string => if P.cellsOf e = 1 ∧ P.bytesOf e ≤ 128 ∧ zeroFits P e = true then do pure (.app 1 (← slimArg P t x) (← slimArg P u y)) else none
        | _, _ => none
      | .copy, [x, y], [t, u] => match P.underlying t with
        | some (.slice e) => do pure (.cpy (P.cellsOf e) (← slimArg P t x) (← slimArg P u y))
        | _ => none
      | .max, [x, y], [t, u] => do pure (.mx (← slimArg P t x) (← slimArg P u y))
      | .min, [x, y], [t, u] => do pure (.mn (← slimArg P t x) (← slimArg P u y))
      | _, _, _ => none
    | .value (.func f) => do pure (.call f (← callArgs P c))
    | .value (.tmp t) => do pure (.calv (.t t) (← callArgs P c))
    | _ => none
  | _ => none

/-- N: how many slots the frame has. -/
def slimOper (P : Program) (N : Nat) (ops : Array Oper) (o : Oper) : Option SO := do
  let op := (slimOp P o).getD .bad
  let d ← match o.dst with
    | none => some none
    | some d => if d < N then some (some d) else none
  match o.guard with
  | none => pure ⟨d, none, op⟩
  | some (j, b) => match (ops[j]?).bind (·.dst) with
    | some t => pure ⟨d, some (t, b), op⟩
    | none => none

/-! ### A region whose order is drawn -/

/-- Operations whose value hangs on plain values alone. -/
def SOp.scal : SOp → Bool
  | .bin .. | .shf .. | .sbin .. | .bbin .. | .neg .. | .com .. | .not _ | .conv .. | .scv _ | .ist .. | .sln _ | .mx .. | .mn .. => true
  | _ => false

/-- Operations that look at no memory. -/
def SOp.free : SOp → Bool
  | .mv _ | .fad .. | .fld .. | .iad .. | .sli .. | .sst .. | .len _ | .ext .. | .chk _ | .bld .. | .mkf .. | .pick .. => true
  | _ => false

/-- Loads. -/
def SOp.isLd : SOp → Bool
  | .ld .. => true
  | _ => false

/-- Operations that may write to memory that was there before. 'loud': functions that do. -/
def SOp.writes (loud : Nat → Bool) : SOp → Bool
  | .st .. | .app .. | .cpy .. | .clr .. | .calv .. | .sfz .. => true
  | .call f _ => loud f
  | _ => false

/-- Of those that are left: which wait for i, by whatever road. -/
def deps (ops : Array Oper) (listed : Array Bool) (i : Nat) : List Nat :=
  (List.range ops.size).foldl (fun D j => if !listed.getD j true && (match ops[j]? with
    | some o => o.after.any fun e => Region.binds .any e && (e.on == i || D.contains e.on)
    | none => false) then D ++ [j] else D) []

/-- What writes, of those that are left, waits for i. -/
def calm (loud : Nat → Bool) (ops : Array Oper) (so : List SO) (listed : Array Bool) (i : Nat) : Bool :=
  let D := deps ops listed i
  (D.all fun j => !listed.getD j true && (match ops[j]? with
    | some o => o.after.any fun e => Region.binds .any e && (e.on == i || D.contains e.on)
    | none => false)) &&
  (List.range so.length).all fun j => j == i || listed.getD j true || D.contains j || match so[j]? with
    | some o => !o.op.writes loud
    | none => false

/-- May the operation i come first? -/
def canFirst (loud : Nat → Bool) (ops : Array Oper) (so : List SO) (listed : Array Bool) (i : Nat) : Bool :=
  (match so[i]? with
    | some o => o.d.isSome && (o.op.scal || o.op.free || (o.op.isLd && calm loud ops so listed i))
    | none => false) && Region.free .any ops listed i

def tree (loud : Nat → Bool) (ops : Array Oper) (so : List SO) : Nat → Array Bool → Option DT
  | 0, listed => if Region.ready .any ops listed = [] then some .done else none
  | n + 1, listed =>
    let rd := Region.ready .any ops listed
    match rd.find? (canFirst loud ops so listed) with
    | some i => do pure (.op (← so[i]?) (← tree loud ops so n (listed.setIfInBounds i true)))
    | none => do
      let ts ← rd.mapM fun i => do pure (DT.op (← so[i]?) (← tree loud ops so n (listed.setIfInBounds i true)))
      match ts with
      | [] => some .done
      | t :: r => pure (r.foldl .both t)

def slim (P : Program) (loud : Nat → Bool) (N : Nat) : Code → Option SC
  | .skip => some .skip
  | .region _ ops draw => do
    let so ← ops.toList.mapM (slimOper P N ops)
    if draw then if Region.noSelect ops then (tree loud ops so ops.size (Array.replicate ops.size false)).map .rgd else none else pure (.rg so)
  | .seq a b => do pure (.seq (← slim P loud N a) (← slim P loud N b))
  | .cond c a b => do pure (.cond (← slimArg P 0 c) (← slim P loud N a) (← slim P loud N b))
  | .block id a => do pure (.blk id (← slim P loud N a))
  | .loop a => do pure (.loop (← slim P loud N a))
  | .exit id => some (.exit id)
  | .ret => some .ret
  | _ => some .bad

end Go.Proofs.YtchmoleeajkioaaDoor.V
