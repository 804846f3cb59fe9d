/- The value machine: an interpreter of the model's code over values. A slice is the list of its cells; a variable in memory is a cell of a numbered object. -/
import Derived.WalkKit
namespace Go.Proofs.Ytlgdiloddphgnaa
open Go.RowKit
namespace AM

inductive AV where
  | und
  | no
  | bool (b : Bool)
  | int (k : IntKind) (n : Int)
  | str (s : ByteArray)
  | nilp
  | ptr (o off : Nat)
  | view (xs : List AV)
  | lst (full : Bool) (n : Nat) (xs : List AV)
  | own (k n : Nat) (xs : List AV)
  | nilm
  | map (o : Nat)
  | nilf
  | fn (f : FuncId) (first caps : List AV)
  | agg (xs : List AV)
  | tup (xs : List AV)
  deriving Inhabited

/-- What an entry of the state is: cells of variables; the row of a slice that may grow. -/
inductive AObj where
  | cells (t : TypeId) (cs : List AV)
  | tip (t : TypeId) (n : Nat)
  deriving Inhabited

structure St where
  objs : List AObj
  deriving Inhabited
def St.get (s : St) (k : Nat) : Option AObj := s.objs[k]?
def St.next (s : St) : Nat := s.objs.length
def St.push (s : St) (o : AObj) : St := ⟨s.objs ++ [o]⟩
def St.set (s : St) (k : Nat) (o : AObj) : St := ⟨s.objs.set k o⟩

theorem St.get_push_old {s : St} {o : AObj} {k : Nat} (h : k < s.next) : (s.push o).get k = s.get k := by
  simp only [St.get, St.push, St.next] at *
  exact List.getElem?_append_left h
theorem St.get_push_new {s : St} {o : AObj} : (s.push o).get s.next = some o := by simp [St.get, St.push, St.next]
theorem St.get_lt {s : St} {k : Nat} {o : AObj} (h : s.get k = some o) : k < s.next := by
  simp only [St.get, St.next] at *
  exact (List.getElem?_eq_some_iff.1 h).1
theorem St.get_push {s : St} {o x : AObj} {k : Nat} (h : s.get k = some x) : (s.push o).get k = some x := by rw [St.get_push_old (St.get_lt h), h]
theorem St.push_inv {s : St} {o x : AObj} {k : Nat} (h : (s.push o).get k = some x) : s.get k = some x ∨ k = s.next ∧ x = o := by
  simp only [St.get, St.push, St.next] at *
  rw [List.getElem?_append] at h
  split at h
  · exact .inl h
  · rename_i hk
    right
    rw [List.getElem?_singleton] at h
    split at h
    · exact ⟨by omega, by simpa using h.symm⟩
    · cases h
theorem St.get_set_ne {s : St} {o : AObj} {k j : Nat} (h : k ≠ j) : (s.set k o).get j = s.get j := by
  simp only [St.get, St.set]
  exact List.getElem?_set_ne h
theorem St.get_set_eq {s : St} {o : AObj} {k : Nat} (h : k < s.next) : (s.set k o).get k = some o := by
  simp only [St.get, St.set, St.next] at *
  simp [h]
theorem St.next_push {s : St} {o : AObj} : (s.push o).next = s.next + 1 := by simp [St.next, St.push]
theorem St.next_set {s : St} {o : AObj} {k : Nat} : (s.set k o).next = s.next := by simp [St.next, St.set]

/-- A constant. -/
def ofConst1 : Value → AV
  | .bool b => .bool b
  | .int k n => .int k n
  | .string s => .str s
  | .pointer none => .nilp
  | .slice none 0 0 => .lst true 0 []
  | .nilFunc => .nilf
  | .map none => .nilm
  | .func (.func f) a b => if a.size = 0 ∧ b.size = 0 then .fn f [] [] else .und
  | _ => .und
def ofConst : Value → AV
  | .agg cs => if cs.all (·.oneCell') then .agg (cs.toList.map ofConst1) else .und
  | v => ofConst1 v

abbrev Fr := List AV
def ev (a : Fr) : Operand → AV
  | .tmp t => a.getD t .no
  | .const v => ofConst v
  | .global _ => .und
  | .func f => .fn f [] []
def put (a : Fr) (dst : Option Tmp) (v : AV) : Fr :=
  match dst with
  | some d => a.set d v
  | none => a

/-- A computation that asks the program at most. -/
def pureOf (P : Program) : Sem Value → Option Value
  | .pure v => some v
  | .program k => pureOf P (k P)
  | _ => none

def size (P : Program) (t : TypeId) : Option Nat := (P.info? t).map (·.size)
def isAggT (P : Program) (t : TypeId) : Option Bool :=
  match P.underlying t with
  | some (.struct _) | some (.array _ _) => some true
  | some _ => some false
  | none => none
def zeroCells (P : Program) (t : TypeId) : Option (List AV) :=
  match P.info? t with
  | some i => i.zero.bind fun z => if z.cells.all (·.oneCell') then some (z.cells.toList.map ofConst1) else none
  | none => none
/-- The cells of a value; none: it isn't known how many. -/
def cellsOf : AV → Option (List AV)
  | .agg xs => some xs
  | .und | .no | .tup _ => none
  | v => some [v]
/-- Of some cells the value of a type, from a place on. -/
def partOf (P : Program) (t : TypeId) (cs : List AV) (off : Nat) : Option AV :=
  match isAggT P t, size P t with
  | some true, some s => if off + s ≤ cs.length then some (.agg ((cs.drop off).take s)) else none
  | some false, _ => cs[off]?
  | _, _ => none
def putCells (cs : List AV) (off : Nat) (xs : List AV) : List AV := cs.take off ++ xs ++ cs.drop (off + xs.length)
def fillIn (place : Nat → Option (Nat × Nat)) : List AV → List (Nat × AV) → Option (List AV)
  | cs, [] => some cs
  | cs, (i, v) :: rest =>
    match place i, cellsOf v with
    | some (off, s), some xs => if xs.length = s ∧ off + xs.length ≤ cs.length then fillIn place (putCells cs off xs) rest else none
    | _, _ => none
def fieldOf (P : Program) (t : TypeId) (f : Nat) : Option Field :=
  match P.underlying t with
  | some (.struct fs) => fs[f]?
  | _ => none
def elemOf (P : Program) (t : TypeId) : Option TypeId :=
  match P.underlying t with
  | some (.slice e) => some e
  | _ => none
def isPtrT (P : Program) (t : TypeId) : Bool :=
  match P.underlying t with
  | some (.pointer _) => true
  | _ => false

def aload (P : Program) (s : St) (t : TypeId) : AV → Option AV
  | .ptr o off =>
    match s.get o with
    | some (.cells _ cs) => partOf P t cs off
    | _ => none
  | .view xs => partOf P t xs 0
  | _ => none
def astore (P : Program) (s : St) (t : TypeId) (p v : AV) : Option St :=
  match p, cellsOf v, size P t with
  | .ptr o off, some xs, some n =>
    match s.get o with
    | some (.cells e cs) => if xs.length = n ∧ off + xs.length ≤ cs.length then some (s.set o (.cells e (putCells cs off xs))) else none
    | _ => none
  | _, _, _ => none
def abuild (P : Program) (t : TypeId) (parts : List (Nat × AV)) : Option AV :=
  match P.underlying t, zeroCells P t with
  | some (.struct fs), some z =>
    match fs.toList.mapM (fun f => (P.info? f.type).map fun i => (f.offset, i.size)) with
    | some pl => (fillIn (fun i => pl.toArray[i]?) z parts).map .agg
    | none => none
  | _, _ => none
def abuildSlice (P : Program) (t : TypeId) (len : Nat) (parts : List (Nat × AV)) : Option AV :=
  match elemOf P t with
  | some e =>
    match size P e, zeroCells P e with
    | some s, some z =>
      if 0 < s ∧ z.length = s ∧ len * s ≤ 16777216 then (fillIn (fun i => some (i * s, s)) (List.replicate len z).flatten parts).map (.lst true len) else none
    | _, _ => none
  | none => none

def isZ : AV → Option Int
  | .int _ n => some n
  | _ => none
def bnd (d : Int) : Option AV → Option Int
  | none => some d
  | some v => isZ v
/-- x[lo:hi:mx], x of n elements of z cells each. -/
def acut (z : Nat) (full : Bool) (n : Nat) (xs : List AV) (lo hi mx : Option AV) : Option AV :=
  match bnd 0 lo, bnd n hi, mx with
  | some l, some h, none => if 0 ≤ l ∧ l ≤ h ∧ h ≤ n then some (.lst (full && decide (h = n)) (h.toNat - l.toNat) ((xs.drop (l.toNat * z)).take ((h.toNat - l.toNat) * z))) else none
  | some l, some h, some v =>
    match isZ v with
    | some m => if 0 ≤ l ∧ l ≤ h ∧ h ≤ m ∧ m ≤ n ∧ hi.isSome then some (.lst (decide (h = m)) (h.toNat - l.toNat) ((xs.drop (l.toNat * z)).take ((h.toNat - l.toNat) * z))) else none
    | none => none
  | _, _, _ => none
def isStrT (P : Program) (t : TypeId) : Bool :=
  match P.underlying t with
  | some .string => true
  | _ => false
def aslice (P : Program) (t : TypeId) (x : AV) (lo hi mx : Option AV) : Option AV :=
  match x with
  | .str s =>
    match bnd 0 lo, bnd s.size hi, mx with
    | some l, some h, none => if 0 ≤ l ∧ l ≤ h ∧ h ≤ s.size ∧ isStrT P t then some (.str (s.extract l.toNat h.toNat)) else none
    | _, _, _ => none
  | .lst full n xs =>
    match elemOf P t with
    | some e => (size P e).bind fun z => acut z full n xs lo hi mx
    | none => none
  | .own k n xs =>
    match elemOf P t with
    | some e => (size P e).bind fun z => if lo.isNone ∧ hi.isNone ∧ mx.isNone then some (.own k n xs) else acut z false n xs lo hi mx
    | none => none
  | _ => none
def aindexAddr (P : Program) (t : TypeId) (x i : AV) : Option AV :=
  match elemOf P t, isZ i with
  | some e, some i =>
    match size P e, x with
    | some s, .lst _ n xs | some s, .own _ n xs => if 0 ≤ i ∧ i < n ∧ (i.toNat + 1) * s ≤ xs.length ∧ 0 < s then some (.view (xs.drop (i.toNat * s))) else none
    | _, _ => none
  | _, _ => none
def afieldAddr (P : Program) (t : TypeId) (x : AV) (f : Nat) : Option AV :=
  match fieldOf P t f with
  | some fd =>
    match size P fd.type, x with
    | some (_ + 1), .ptr o off => some (.ptr o (off + fd.offset))
    | some (_ + 1), .view xs => if fd.offset ≤ xs.length then some (.view (xs.drop fd.offset)) else none
    | _, _ => none
  | none => none
/-- A plain value as the model has it. -/
def plain : AV → Option Value
  | .bool b => some (.bool b)
  | .int k n => some (.int k n)
  | .str s => some (.string s)
  | _ => none
def ofPlain : Value → Option AV
  | .bool b => some (.bool b)
  | .int k n => some (.int k n)
  | .string s => some (.str s)
  | _ => none
def nilC : Operand → Bool
  | .const (.slice none 0 0) => true
  | _ => false
def abinOp (P : Program) (op : BinOp) (t : TypeId) (nilY : Bool) (x y : AV) : Option AV :=
  match x, y with
  | .lst _ _ (_ :: _), _ | .own _ _ (_ :: _), _ =>
    if nilY && (elemOf P t).isSome then
      match op with
      | .eql => some (.bool false)
      | .neq => some (.bool true)
      | _ => none
    else none
  | .int k a, .int k' b => ((pureOf P (binOp op t (.int k a) (.int k' b))).bind ofPlain)
  | .str a, .str b => ((pureOf P (binOp op t (.string a) (.string b))).bind ofPlain)
  | .bool a, .bool b =>
    match op, P.underlying t with
    | .eql, some .bool => some (.bool (a == b))
    | .neq, some .bool => some (.bool (a != b))
    | _, _ => none
  | .ptr _ _, .nilp | .view _, .nilp | .nilp, .ptr _ _ | .nilp, .view _ =>
    match op with
    | .eql => if isPtrT P t then some (.bool false) else none
    | .neq => if isPtrT P t then some (.bool true) else none
    | _ => none
  | .nilp, .nilp =>
    match op with
    | .eql => if isPtrT P t then some (.bool true) else none
    | .neq => if isPtrT P t then some (.bool false) else none
    | _ => none
  | _, _ => none
def alen (P : Program) (t : TypeId) (x : AV) : Option AV :=
  match x with
  | .str s => if isStrT P t then some (.int .i64 s.size) else none
  | .lst _ n _ | .own _ n _ => if (elemOf P t).isSome then some (.int .i64 n) else none
  | _ => none
def cellsStr (s : ByteArray) : List AV := s.data.toList.map fun b => .int .u8 b.toNat
def asList : AV → Option (Nat × List AV)
  | .lst _ n xs | .own _ n xs => some (n, xs)
  | _ => none
/-- append(x, y...) -/
def aappend (P : Program) (s : St) (t t' : TypeId) (x y : AV) : Option (AV × St) :=
  match elemOf P t, asList y with
  | some e, some (m, ys) =>
    match P.info? e with
    | some i =>
      if t' = t ∧ 0 < i.size ∧ 0 < i.bytes ∧ (i.zero.map (·.cells.size)) = some i.size then
        if m = 0 then (match x with | .lst .. | .own .. => some (x, s) | _ => none) else
        match x with
        | .lst true n xs => if (n + m) * i.bytes ≤ 140737488355328 ∧ xs.length = n * i.size ∧ ys.length = m * i.size then some (.own s.next (n + m) (xs ++ ys), s.push (.tip e (n + m))) else none
        | .own k n xs =>
          match s.get k with
          | some (.tip e' n') => if e' = e ∧ n' = n ∧ (n + m) * i.bytes ≤ 140737488355328 ∧ xs.length = n * i.size ∧ ys.length = m * i.size then some (.own k (n + m) (xs ++ ys), s.set k (.tip e (n + m))) else none
          | _ => none
        | _ => none
      else none
    | none => none
  | _, _ => none

abbrev Callee := FuncId → List AV → St → Option (AV × St)
def aminmax (isMax : Bool) : List AV → Option AV
  | [.int k a, .int k' b] => if k = k' then some (.int k (if isMax then (if b > a then b else a) else (if b < a then b else a))) else none
  | _ => none
def acallOp (P : Program) (call : Callee) (c : Call) (a : Fr) (s : St) : Option (AV × St) :=
  match c.callee with
  | .value f =>
    match ev a f with
    | .fn g first caps => call g (first ++ (c.args.toList.map (ev a)) ++ caps) s
    | _ => none
  | .builtin .len =>
    match c.args.toList, c.argTypes.toList with
    | [x], [t] => (alen P t (ev a x)).map (·, s)
    | _, _ => none
  | .builtin .append =>
    match c.args.toList, c.argTypes.toList with
    | [x, y], [t, t'] => aappend P s t t' (ev a x) (ev a y)
    | _, _ => none
  | .builtin .max => (aminmax true (c.args.toList.map (ev a))).map (·, s)
  | .builtin .min => (aminmax false (c.args.toList.map (ev a))).map (·, s)
  | _ => none

/-- One operation: its value, and the state behind it. -/
def aop (P : Program) (call : Callee) (o : Oper) (a : Fr) (s : St) : Option (AV × St) :=
  match o.op with
  | .move x | .assign x => some (ev a x, s)
  | .pick c x y =>
    match ev a c with
    | .bool b => some (if b then ev a x else ev a y, s)
    | _ => none
  | .alloc t => (zeroCells P t).map fun z => (.ptr s.next 0, s.push (.cells t z))
  | .box t x => (cellsOf (ev a x)).map fun z => (.ptr s.next 0, s.push (.cells t z))
  | .build t parts => (abuild P t (parts.toList.map fun p => (p.1, ev a p.2))).map (·, s)
  | .buildSlice t len parts => (abuildSlice P t len (parts.toList.map fun p => (p.1, ev a p.2))).map (·, s)
  | .load t x => (aload P s t (ev a x)).map (·, s)
  | .store t p x => (astore P s t (ev a p) (ev a x)).map (.no, ·)
  | .nilCheck x =>
    match ev a x with
    | .ptr o off => some (.ptr o off, s)
    | .view xs => some (.view xs, s)
    | .fn f first caps => some (.fn f first caps, s)
    | _ => none
  | .binOp op t x y _ => (abinOp P op t (nilC y) (ev a x) (ev a y)).map (·, s)
  | .unOp op _ x => (((plain (ev a x)).bind fun v => pureOf P (Op.unary op v)).bind ofPlain).map (·, s)
  | .convert src dst x =>
    match ev a x with
    | .int k n => ((pureOf P (convert src dst (.int k n))).bind ofPlain).map (·, s)
    | _ => none
  | .makeFunc (.func f) first caps => some (.fn f (first.toList.map (ev a)) (caps.toList.map (ev a)), s)
  | .slice t x lo hi mx => (aslice P t (ev a x) (lo.map (ev a)) (hi.map (ev a)) (mx.map (ev a))).map (·, s)
  | .fieldAddr t x f => (afieldAddr P t (ev a x) f).map (·, s)
  | .field t x f =>
    match ev a x, fieldOf P t f with
    | .agg xs, some fd => (partOf P fd.type xs fd.offset).map (·, s)
    | _, _ => none
  | .indexAddr t x i => (aindexAddr P t (ev a x) (ev a i)).map (·, s)
  | .index t x i =>
    match ev a x, ev a i with
    | .str b, .int k n => ((pureOf P (Instr.index t (.string b) (.int k n))).bind ofPlain).map (·, s)
    | _, _ => none
  | .extract x i =>
    match ev a x with
    | .tup vs => (vs[i]?).map (·, s)
    | _ => none
  | .call c => acallOp P call c a s
  | _ => none

/-- Is an operation carried out? none: it isn't known. -/
def wants (ops : Array Oper) (a : Fr) (o : Oper) : Option Bool :=
  match o.guard with
  | none => some true
  | some (j, want) =>
    match (ops[j]?).bind (·.dst) with
    | none => some false
    | some d =>
      match a[d]? with
      | none => some false
      | some (.bool b) => some (b == want)
      | some .no => some false
      | some (.int _ _) | some (.ptr _ _) | some (.lst _ _ _) => some false
      | some _ => none
def astep (P : Program) (call : Callee) (ops : Array Oper) (o : Oper) (a : Fr) (s : St) : Option (Fr × St) :=
  match wants ops a o with
  | some true => (aop P call o a s).map fun r => (put a o.dst r.1, r.2)
  | some false => some (put a o.dst .no, s)
  | none => none
def aops (P : Program) (call : Callee) (ops : Array Oper) : List Oper → Fr → St → Option (Fr × St)
  | [], a, s => some (a, s)
  | o :: l, a, s =>
    match astep P call ops o a s with
    | some (a', s') => aops P call ops l a' s'
    | none => none

/-! ### Regions that draw their order -/
/-- May it change the state? -/
def isEff : Op → Bool
  | .alloc _ | .box _ _ | .store _ _ _ => true
  | .call c =>
    match c.callee with
    | .builtin .len | .builtin .max | .builtin .min => false
    | _ => true
  | _ => false
/-- Does it look at the state? -/
def isRd : Op → Bool
  | .load _ _ => true
  | _ => false
/-- At which entries? -/
def readsAt (a : Fr) : Op → List Nat
  | .load _ x =>
    match ev a x with
    | .ptr o _ => [o]
    | _ => []
  | _ => []
def ancMask (o : Oper) (acc : List Nat) : Nat := o.after.toList.foldl (fun s e => if Region.binds .any e then s ||| 2 ^ e.on ||| acc.getD e.on 0 else s) 0
def ancs : List Oper → List Nat → List Nat
  | [], acc => acc
  | o :: l, acc => ancs l (acc ++ [ancMask o acc])
/-- Does operation i wait for operation j? -/
def waits (b : List Nat) (i j : Nat) : Bool := (b.getD i 0).testBit j
def apartOK (ops : Array Oper) (x y : Oper) : Bool := x.apart ops y && y.apart ops x
def pairOK (ops : Array Oper) (x y : Oper) : Bool := apartOK ops x y && (!isEff x.op || !isEff y.op)
/-- Is there an operation that changes the state and stands in no order with i? -/
def freeAt (ops : Array Oper) (b : List Nat) (i : Nat) : Bool :=
  (List.range ops.size).any fun j => j != i && !waits b i j && !waits b j i && ((ops[j]?).any fun o => isEff o.op)
def edgesOK (ops : Array Oper) : Bool :=
  (List.range ops.size).all fun i => (ops[i]?).all fun o => o.after.all fun e => !Region.binds .any e || decide (e.on < i)
def drawOK (ops : Array Oper) : Bool :=
  let b := ancs ops.toList []
  edgesOK ops && (List.range ops.size).all fun i => (List.range i).all fun j => waits b i j ||
    (match ops[j]?, ops[i]? with
     | some x, some y => pairOK ops x y
     | _, _ => false)
def beqL (f : AV → AV → Bool) : List AV → List AV → Bool
  | [], [] => true
  | x :: xs, y :: ys => f x y && beqL f xs ys
  | _, _ => false
/-- Are two values the same? -/
def beqV : Nat → AV → AV → Bool
  | 0, _, _ => false
  | n + 1, x, y =>
    match x, y with
    | .und, .und | .no, .no | .nilp, .nilp | .nilm, .nilm | .nilf, .nilf => true
    | .bool a, .bool b => a == b
    | .int k a, .int k' b => decide (k = k') && decide (a = b)
    | .str a, .str b => decide (a.data.toList = b.data.toList)
    | .ptr o i, .ptr o' i' => o == o' && i == i'
    | .map o, .map o' => o == o'
    | .view xs, .view ys | .agg xs, .agg ys | .tup xs, .tup ys => beqL (beqV n) xs ys
    | .lst f m xs, .lst f' m' ys => f == f' && m == m' && beqL (beqV n) xs ys
    | .own k m xs, .own k' m' ys => k == k' && m == m' && beqL (beqV n) xs ys
    | .fn f xs zs, .fn f' ys vs => f == f' && beqL (beqV n) xs ys && beqL (beqV n) zs vs
    | _, _ => false
def beqO : Option AObj → Option AObj → Bool
  | none, none => true
  | some (.cells t xs), some (.cells t' ys) => t == t' && beqL (beqV 20) xs ys
  | some (.tip t n), some (.tip t' n') => t == t' && n == n'
  | _, _ => false
/-- The walk in the text's order; behind each operation the entries that are looked at out of order are what they were. -/
def adraw (P : Program) (call : Callee) (ops : Array Oper) (b : List Nat) (O : List Nat) (s0 : St) : List Nat → Fr → St → Option (Fr × St)
  | [], a, s => some (a, s)
  | i :: l, a, s =>
    match ops[i]? with
    | none => none
    | some o =>
      match astep P call ops o a s with
      | some (a', s') =>
        if (!freeAt ops b i || (readsAt a o.op).all fun k => O.contains k) && (!isEff o.op || O.all fun k => beqO (s0.get k) (s'.get k)) then adraw P call ops b O s0 l a' s' else none
      | none => none
/-- The entries that are looked at out of order. -/
def drawReads (P : Program) (call : Callee) (ops : Array Oper) (b : List Nat) : List Nat → Fr → St → List Nat
  | [], _, _ => []
  | i :: l, a, s =>
    match ops[i]? with
    | none => []
    | some o =>
      match astep P call ops o a s with
      | some (a', s') => (if freeAt ops b i then readsAt a o.op else []) ++ drawReads P call ops b l a' s'
      | none => []
def aregion (P : Program) (call : Callee) (ops : Array Oper) (draw : Bool) (a : Fr) (s : St) : Option (Fr × St) :=
  if draw then
    if drawOK ops then
      let b := ancs ops.toList []
      adraw P call ops b (drawReads P call ops b (List.range ops.size) a s) s (List.range ops.size) a s
    else none
  else aops P call ops ops.toList a s

/-! ### Code -/
inductive AX where
  | normal
  | exit (id : Nat)
  | ret
def acode (P : Program) (call : Callee) : Nat → Code → Fr → St → Option (AX × Fr × St)
  | 0, _, _, _ => none
  | m + 1, c, a, s =>
    match c with
    | .skip => some (.normal, a, s)
    | .label _ => some (.normal, a, s)
    | .region _ ops draw => (aregion P call ops draw a s).map (.normal, ·)
    | .seq x y =>
      match acode P call m x a s with
      | some (.normal, a', s') => acode P call m y a' s'
      | r => r
    | .cond c x y =>
      match ev a c with
      | .bool b => acode P call m (if b then x else y) a s
      | _ => none
    | .block id x =>
      match acode P call m x a s with
      | some (.exit i, a', s') => if i = id then some (.normal, a', s') else some (.exit i, a', s')
      | r => r
    | .loop x =>
      match acode P call m x a s with
      | some (.normal, a', s') => acode P call m (.loop x) a' s'
      | r => r
    | .scope x => acode P call m x a s
    | .exit id => some (.exit id, a, s)
    | .ret => some (.ret, a, s)
    | _ => none
def resVals (P : Program) (s : St) (a : Fr) : List ResultVar → Option (List AV)
  | [] => some []
  | .tmp t :: l => (resVals P s a l).map (a.getD t .no :: ·)
  | .cell x t :: l =>
    match aload P s t (a.getD x .no), resVals P s a l with
    | some v, some vs => some (v :: vs)
    | _, _ => none
def aresult : List AV → AV
  | [v] => v
  | l => .tup l
def abody (P : Program) (call : Callee) (m : Nat) (f : FuncId) (args : List AV) (s : St) : Option (AV × St) :=
  match P.funcs[f]? with
  | some fn =>
    match fn.body with
    | some c =>
      match acode P call m c (args ++ List.replicate (fn.ntmps - args.length) .no) s with
      | some (.normal, a, s') => (resVals P s' a fn.results.toList).map fun vs => (aresult vs, s')
      | some (.ret, a, s') => (resVals P s' a fn.results.toList).map fun vs => (aresult vs, s')
      | _ => none
    | none => none
  | none => none
/-- A call; 'prim': functions whose answer is told, not computed. -/
def acall (P : Program) (prim : Callee) : Nat → Callee
  | 0, _, _, _ => none
  | n + 1, f, args, s =>
    match prim f args s with
    | some r => some r
    | none => abody P (acall P prim n) (n + 1) f args s
end AM
end Go.Proofs.Ytlgdiloddphgnaa
