/- The machine T: values, memory, types and steps. Definitions only. -/
import Derived.Below
namespace Go.Proofs.YtfbhdjkeofleiaaDoor.T
open Go

/-- A value of T. Blocks are numbered by T itself. -/
inductive V where
  | int (k : IntKind) (n : Int)
  | bool (b : Bool)
  | str (s : ByteArray)
  /-- a pointer: block, row, column; none is nil -/
  | ptr (p : Option (Nat × Nat × Nat))
  /-- a pointer to a variable of the frame: its slot, the column -/
  | lp (t j : Nat)
  /-- a slice: cells a row, block and first row, length, capacity (none: not known) -/
  | sl (R : Nat) (a : Option (Nat × Nat)) (len : Nat) (cap : Option Nat)
  | map (r : Option Nat)
  | fn (f : Nat) (cs : List V)
  | nilf
  | ifc (t : Nat) (v : V)
  | nili
  | agg (cs : List V)
  | tup (cs : List V)
  | any

/-- A block of T. -/
inductive Blk where
  | rows (R : Nat) (elem : TypeId) (ro : Bool) (rs : List (List V))
  | map (t : TypeId) (kv : List (V × V))
  | dead

abbrev Heap := List Blk
abbrev CallT := Nat → FuncId → List V → Heap → Option (V × Heap)

/-- What one cell of a type looks like. -/
inductive Sh where
  | int (k : IntKind) | bool | str | ptr | sl (R : Nat) | map | fn | ifc | no

inductive Ty where
  | scalar
  | slice (e : TypeId)
  | array (n : Nat) (e : TypeId)
  | struct (fs : List (Nat × TypeId))
  | pointer (e : TypeId)
  | map (k e : TypeId)
  | no

structure TI where
  ty : Ty
  agg : Bool
  size : Nat
  bytes : Nat
  zero : List V
  /-- the zero value is known, and whole -/
  hz : Bool
  sh : List Sh

def TI.none : TI := ⟨.no, false, 0, 0, [], false, []⟩

def TI.known (i : TI) : Bool := match i.ty with | .no => false | _ => true
/-- the look of a type's one cell -/
def TI.cell (i : TI) : Sh := match i.agg, i.known, i.sh with
  | false, true, [s] => s
  | _, _, _ => .no

/-! ### constants and zero values -/
mutual
def ofValue : Value → V
  | .int k n => .int k n
  | .bool b => .bool b
  | .string s => .str s
  | .pointer .none => .ptr none
  | .slice .none n c => match n, c with | 0, 0 => .sl 0 none 0 (some 0) | _, _ => .any
  | .map .none => .map none
  | .nilFunc => .nilf
  | .nilIface => .nili
  | .agg ⟨cs⟩ => .agg (ofValues cs)
  | .tuple ⟨cs⟩ => .tup (ofValues cs)
  | _ => .any
def ofValues : List Value → List V
  | [] => []
  | v :: r => ofValue v :: ofValues r
end

def cellsV : V → List V
  | .agg cs => cs
  | v => [v]

/-! ### memory -/
def look (s : List (Nat × V)) (t : Nat) : V := match s with
  | [] => .any
  | (u, v) :: r => match Nat.beq u t with | true => v | false => look r t
def lookB (s : List (Nat × List V)) (t : Nat) : Option (List V) := match s with
  | [] => none
  | (u, v) :: r => match Nat.beq u t with | true => some v | false => lookB r t
def setB (s : List (Nat × List V)) (t : Nat) (x : List V) : List (Nat × List V) := match s with
  | [] => []
  | (u, v) :: r => match Nat.beq u t with | true => (u, x) :: r | false => (u, v) :: setB r t x
def keepS (ts : List Nat) (s : List (Nat × V)) : List (Nat × V) := match ts with
  | [] => []
  | t :: r => (t, look s t) :: keepS r s
def keepBx (ts : List Nat) (s : List (Nat × List V)) : List (Nat × List V) := match ts with
  | [] => []
  | t :: r => match lookB s t with | some x => (t, x) :: keepBx r s | none => keepBx r s
/-- Pointers to variables that are kept no more. -/
def keepV (ts : List Nat) : V → V
  | .lp u j => match ts.any (Nat.beq u) with | true => .lp u j | false => .any
  | v => v
def keepVs (ts : List Nat) (s : List (Nat × V)) : List (Nat × V) := match s with
  | [] => []
  | (u, v) :: r => (u, keepV ts v) :: keepVs ts r

/-- no pointer to a variable of the frame, and known -/
def okV : V → Bool
  | .lp _ _ => false
  | .any => false
  | _ => true
def okVs : List V → Bool
  | [] => true
  | v :: r => match okV v with | true => okVs r | false => false
/-- a function's given values: a receiver comes first, as a tuple of its own -/
def noTup : List V → Bool
  | .tup _ :: _ => false
  | _ => true
def fnArgs (xs : List V) (cs : List V) : List V := match cs with
  | .tup f :: r => f ++ (xs ++ r)
  | _ => xs ++ cs
/-- what may be stored: also no slice whose place is not sure -/
def firm : V → Bool
  | .lp _ _ => false
  | .any => false
  | .agg _ => false
  | .tup _ => false
  | _ => true
def firms : List V → Bool
  | [] => true
  | v :: r => match firm v with | true => firms r | false => false

/-- 'n' cells from column 'j' on. -/
def cut (row : List V) (j n : Nat) : Option (List V) := match j with
  | 0 => match n with
    | 0 => some []
    | n + 1 => match row with
      | [] => none
      | v :: r => match cut r 0 n with | some l => some (v :: l) | none => none
  | j + 1 => match row with
    | [] => none
    | _ :: r => cut r j n
/-- these cells from column 'j' on -/
def paste (row : List V) (j : Nat) (cs : List V) : Option (List V) := match j with
  | 0 => match cs with
    | [] => some row
    | c :: cs => match row with
      | [] => none
      | _ :: r => match paste r 0 cs with | some l => some (c :: l) | none => none
  | j + 1 => match row with
    | [] => none
    | v :: r => match paste r j cs with | some l => some (v :: l) | none => none

def Heap.rows? (h : Heap) (b : Nat) : Option (List (List V)) := match h[b]? with
  | some (.rows _ _ _ rs) => some rs
  | _ => none
def Heap.own? (lo : Nat) (e : TypeId) (h : Heap) (b : Nat) : Option (List (List V)) := match h[b]? with
  | some (.rows _ el false rs) => match Nat.ble lo b, Nat.beq el e with | true, true => some rs | _, _ => none
  | _ => none
def Heap.kv? (h : Heap) (b : Nat) : Option (List (V × V)) := match h[b]? with
  | some (.map _ kv) => some kv
  | _ => none
def strAt (s : ByteArray) (q : Int) : Option UInt8 := match decide (0 ≤ q) with | true => s[q.toNat]? | false => none
/-- The cells at a place. -/
def ld (h : Heap) (b i j n : Nat) : Option (List V) :=
  (Heap.rows? h b).bind fun rs => (rs[i]?).bind fun row => cut row j n
/-- The memory behind a store. -/
def st (lo : Nat) (h : Heap) (b i j : Nat) (cs : List V) : Option Heap := match h[b]? with
  | some (.rows R e false rs) => match Nat.ble lo b with
    | true => (rs[i]?).bind fun row => (paste row j cs).bind fun row' => some (h.set b (.rows R e false (rs.set i row')))
    | false => none
  | _ => none

/-- rows 'i' to 'i + n' of a block -/
def ldRows (h : Heap) (b i n : Nat) : Option (List (List V)) :=
  (Heap.rows? h b).bind fun rs => match Nat.ble (i + n) rs.length with | true => some ((rs.drop i).take n) | false => none
def stRows (lo : Nat) (h : Heap) (b i : Nat) (xs : List (List V)) : Option Heap := match h[b]? with
  | some (.rows R e false rs) => match Nat.ble lo b, Nat.ble (i + xs.length) rs.length with
    | true, true => some (h.set b (.rows R e false (rs.take i ++ xs ++ rs.drop (i + xs.length))))
    | _, _ => none
  | _ => none

/-! ### the words of a printed tree -/
section
variable {R : Type}
def br (b : Bool) (x y : Option R) : Option R := match b with | true => x | false => y
/-- a place in a text: also a byte -/
def eIu (v : V) (f : Int → Option R) (z : (Int → Option R) → Option R) : Option R := match v with
  | .int .u8 n => f n
  | _ => z f
def eI (k : IntKind) (v : V) (f : Int → Option R) : Option R := match v with
  | .int k' n => match decide (k' = k) with | true => f n | false => none
  | _ => none
def eBv (v : V) (f : Bool → Option R) : Option R := match v with | .bool b => f b | _ => none
def eB (v : V) (x y : Option R) : Option R := match v with | .bool b => br b x y | _ => none
def eT (v : V) (f : ByteArray → Option R) : Option R := match v with | .str s => f s | _ => none
def eS (R' : Nat) (v : V) (f : Option (Nat × Nat) → Nat → Option Nat → Option R) : Option R := match v with
  | .sl q a n c => match a with
    | none => f none n c
    | some p => match Nat.beq q R' with | true => f (some p) n c | false => none
  | _ => none
def eP (v : V) (f : Option (Nat × Nat × Nat) → Option R) : Option R := match v with | .ptr p => f p | _ => none
def eM (v : V) (f : Option Nat → Option R) : Option R := match v with | .map p => f p | _ => none
def eF (v : V) (f : Nat → List V → Option R) : Option R := match v with | .fn g cs => f g cs | _ => none
def eE (v : V) (f : Nat → V → Option R) (z : Option R) : Option R := match v with | .ifc t x => f t x | .nili => z | _ => none
def eA (v : V) (f : List V → Option R) : Option R := match v with | .agg cs => f cs | _ => none
def eU (v : V) (f : List V → Option R) : Option R := match v with | .tup cs => f cs | _ => none
def eC (cs : List V) (f : V → List V → Option R) : Option R := match cs with | v :: r => f v r | [] => none
def eN (cs : List V) (x : Option R) : Option R := match cs with | [] => x | _ :: _ => none
def eO {α : Type} (o : Option α) (f : α → Option R) : Option R := match o with | some x => f x | none => none
/-- what was found, or what stands for nothing -/
def dflt (o : Option V) (z : V) : V := match o with | some v => v | none => z
/-- found, or not -/
def eX {α : Type} (o : Option α) (f : α → Option R) (z : Option R) : Option R := match o with | some x => f x | none => z
/-- a call -/
def cal {α : Type} (o : Option (V × α)) (f : V → α → Option R) : Option R := match o with | some (v, h) => f v h | none => none
/-- an index within bounds -/
def inB (i : Int) (n : Nat) (f : Option R) : Option R := match decide (0 ≤ i ∧ i < n) with | true => f | false => none
/-- a bound of a slice -/
def inS (i : Int) (n : Nat) (f : Option R) : Option R := match decide (0 ≤ i ∧ i ≤ n) with | true => f | false => none
def need (b : Bool) (f : Option R) : Option R := match b with | true => f | false => none
theorem cat_ex : ∃ f : ByteArray → ByteArray → (ByteArray → Option R) → Option R, ∀ a b k, f a b k = need (decide (((a.size + b.size : Nat) : Int) ≤ IntKind.i64.max)) (k (a ++ b)) := ⟨fun a b k => need (decide (((a.size + b.size : Nat) : Int) ≤ IntKind.i64.max)) (k (a ++ b)), fun _ _ _ => rfl⟩
/-- two texts behind each other (chosen, so that the kernel never looks into it) -/
noncomputable def cat (a b : ByteArray) (f : ByteArray → Option R) : Option R := Classical.choose (cat_ex (R := R)) a b f
theorem cat_eq {a b : ByteArray} {f : ByteArray → Option R} : cat a b f = need (decide (((a.size + b.size : Nat) : Int) ≤ IntKind.i64.max)) (f (a ++ b)) := Classical.choose_spec (cat_ex (R := R)) a b f

/-- One cell of a known look, handed on written out. -/
def eSh (s : Sh) (v : V) (f : V → Option R) : Option R := match s with
  | .int k => eI k v fun n => f (.int k n)
  | .bool => eBv v fun b => f (.bool b)
  | .str => eT v fun s => f (.str s)
  | .ptr => eP v fun p => f (.ptr p)
  | .sl R' => eS R' v fun a n c => f (.sl R' a n c)
  | .map => eM v fun p => f (.map p)
  | .fn => eF v fun g cs => f (.fn g cs)
  | .ifc => eE v (fun t x => f (.ifc t x)) (f .nili)
  | .no => none
def eShs (ss : List Sh) (cs : List V) (f : List V → Option R) : Option R := match ss with
  | [] => eN cs (f [])
  | s :: ss => eC cs fun v r => eSh s v fun v => eShs ss r fun l => f (v :: l)
/-- A value of a type; a bool by itself parts the ways. -/
def eVal (agg : Bool) (ss : List Sh) (v : V) (f : V → Option R) : Option R := match agg with
  | true => eA v fun cs => eShs ss cs fun l => f (.agg l)
  | false => match ss with
    | [.bool] => eB v (f (.bool true)) (f (.bool false))
    | [s] => eSh s v f
    | _ => none
def eVals (ts : List (Bool × List Sh)) (cs : List V) (f : List V → Option R) : Option R := match ts with
  | [] => eN cs (f [])
  | t :: ts => eC cs fun v r => eVal t.1 t.2 v fun v => eVals ts r fun l => f (v :: l)
/-- The results of a call. -/
def eRes (ts : List (Bool × List Sh)) (v : V) (f : V → Option R) : Option R := match ts with
  | [t] => eVal t.1 t.2 v f
  | ts => eU v fun cs => eVals ts cs fun l => f (.tup l)
/-- Cells that were read, as a value of a type. -/
def eCells (agg : Bool) (ss : List Sh) (cs : List V) (f : V → Option R) : Option R := match agg with
  | true => eShs ss cs fun l => f (.agg l)
  | false => eC cs fun v r => eN r (eVal false ss v f)
end

/-! ### the machine -/
structure St where
  s : List (Nat × V)
  bx : List (Nat × List V)
  h : Heap

/-- What a function's steps lean on. -/
structure Ctx where
  ty : TypeId → TI
  /-- struct types whose '==' is that of their cells -/
  cmp : TypeId → Bool
  ret : TypeId → List (Bool × List Sh)
  call : Nat → FuncId → List V → Heap → Option (V × Heap)
  /-- by a loop's block: the slots and the variables that live on at its head -/
  keep : List (Nat × List Nat × List Nat)
  /-- slots of variables that lie in the memory -/
  hb : List Nat
  /-- by a region's number: which of its operations read variables of the frame alone -/
  cl : List (Nat × List Nat)
  /-- slices whose capacity is not known may be cut anew up to the rows that are known -/
  wide : Bool
/-- where the model draws an order no slice is cut so -/
def Ctx.narrow (X : Ctx) : Ctx := ⟨X.ty, X.cmp, X.ret, X.call, X.keep, X.hb, X.cl, false⟩

def ev (s : List (Nat × V)) : Operand → V
  | .tmp t => look s t
  | .const v => ofValue v
  | .global _ => .any
  | .func f => .fn f []
def evs (s : List (Nat × V)) : List Operand → List V
  | [] => []
  | x :: r => ev s x :: evs s r

def isConst : Operand → Bool
  | .const _ => true
  | _ => false

/-- Equal cells of plain types; none: not for T. -/
def eqC : V → V → Option Bool
  | .int k a, .int k' b => match decide (k = k') with | true => some (a == b) | false => none
  | .bool a, .bool b => some (a == b)
  | .str a, .str b => some (a.toList == b.toList)
  | _, _ => none
def eqVs : List V → List V → Option Bool
  | [], [] => some true
  | x :: xs, y :: ys => match eqC x y, eqVs xs ys with
    | some a, some b => some (a && b)
    | _, _ => none
  | _, _ => none
def eqV : V → V → Option Bool
  | .agg xs, .agg ys => eqVs xs ys
  | x, y => eqC x y
/-- the cell looks as its type says -/
def shOk : Sh → V → Bool
  | .int k, .int k' _ => decide (k' = k)
  | .bool, .bool _ => true
  | .str, .str _ => true
  | _, _ => false
def shOks : List Sh → List V → Bool
  | [], [] => true
  | s :: ss, v :: vs => match shOk s v with | true => shOks ss vs | false => false
  | _, _ => false
def TI.one (i : TI) (s : Sh) : Bool := match i.agg, i.known, i.sh with
  | false, true, [s'] => match s, s' with
    | .bool, .bool => true
    | .sl _, .sl _ => true
    | .ifc, .ifc => true
    | .str, .str => true
    | .int k, .int k' => decide (k = k')
    | _, _ => false
  | _, _, _ => false

section
variable {R : Type}
/-- '==' of two values; 'c': one of them is a constant of the text -/
def eql (X : Ctx) (t : TypeId) (c : Bool) (x y : V) (f : Bool → Option R) : Option R := match x, y with
  | .int a m, .int b n => need (decide (a = b)) (f (m == n))
  | .str s, .str u => f (s.toList == u.toList)
  | .bool a, .bool b => need ((X.ty t).one .bool) (f (a == b))
  | .sl _ a _ _, .sl _ b _ _ => match b with
    | none => need ((X.ty t).one (.sl 0)) (f a.isNone)
    | some _ => none
  | .ifc _ _, .nili => need ((X.ty t).one .ifc) (f false)
  | .nili, .nili => need ((X.ty t).one .ifc && c) (f true)
  | .agg xs, .agg ys => need (X.cmp t && shOks (X.ty t).sh xs && shOks (X.ty t).sh ys) (eO (eqVs xs ys) f)
  | _, _ => none
/-- a comparison parts the ways at once -/
def brV (b : Bool) (k : V → Option R) : Option R := br b (k (.bool true)) (k (.bool false))

noncomputable def binOp (X : Ctx) (op : BinOp) (t : TypeId) (c : Bool) (x y : V) (k : V → Option R) : Option R := match op with
  | .eql => eql X t c x y fun b => brV b k
  | .neq => eql X t c x y fun b => br b (k (.bool false)) (k (.bool true))
  | .add => match x, y with
    | .int a m, .int b n => need (decide (a = b)) (k (.int a (a.wrap (m + n))))
    | .str s, .str t => cat s t fun r => k (.str r)
    | _, _ => none
  | .sub => match x, y with
    | .int a m, .int b n => need (decide (a = b)) (k (.int a (a.wrap (m - n))))
    | _, _ => none
  | .mul => match x, y with
    | .int a m, .int b n => need (decide (a = b)) (k (.int a (a.wrap (m * n))))
    | _, _ => none
  | .quo => match x, y with
    | .int a m, .int b n => need (decide (a = b)) (need (decide (n ≠ 0)) (k (.int a (a.wrap (m.tdiv n)))))
    | _, _ => none
  | .rem => match x, y with
    | .int a m, .int b n => need (decide (a = b)) (need (decide (n ≠ 0)) (k (.int a (m.tmod n))))
    | _, _ => none
  | .lss => match x, y with
    | .int a m, .int b n => need (decide (a = b)) (brV (decide (m < n)) k)
    | _, _ => none
  | .leq => match x, y with
    | .int a m, .int b n => need (decide (a = b)) (brV (decide (m ≤ n)) k)
    | _, _ => none
  | .gtr => match x, y with
    | .int a m, .int b n => need (decide (a = b)) (brV (decide (m > n)) k)
    | _, _ => none
  | .geq => match x, y with
    | .int a m, .int b n => need (decide (a = b)) (brV (decide (m ≥ n)) k)
    | _, _ => none
  | .xor => match x, y with
    | .int a m, .int b n => need (decide (a = b)) (k (.int a (a.wrap (BitVec.ofInt a.bits m ^^^ BitVec.ofInt a.bits n).toNat)))
    | _, _ => none
  | _ => none

def unOp (op : UnOp) (x : V) (k : V → Option R) : Option R := match op with
  | .not => eBv x fun b => k (.bool (!b))
  | .neg => match x with | .int a m => k (.int a (a.wrap (0 - m))) | _ => none
  | _ => none
end

/-- The parts of a struct or array laid over its zero value. 'place': where, how many cells. -/
def lay (place : Nat → Option (Nat × Nat)) (cells : List V) : List (Nat × V) → Option (List V)
  | [] => some cells
  | (i, v) :: r => match place i with
    | some (off, size) => match Nat.beq (cellsV v).length size with
      | true => match paste cells off (cellsV v) with
        | some cells' => lay place cells' r
        | none => none
      | false => none
    | none => none
def structLay (X : Ctx) (fs : List (Nat × TypeId)) (i : Nat) : Option (Nat × Nat) := match fs[i]? with | some f => some (f.1, (X.ty f.2).size) | none => none
def allKnown (X : Ctx) : List (Nat × TypeId) → Bool
  | [] => true
  | f :: r => match (X.ty f.2).known with | true => allKnown X r | false => false
def layRows (size : Nat) (rows : List (List V)) : List (Nat × V) → Option (List (List V))
  | [] => some rows
  | (i, v) :: r => match Nat.blt i rows.length && Nat.beq (cellsV v).length size with
    | true => layRows size (rows.set i (cellsV v)) r
    | false => none

def evp (s : List (Nat × V)) : List (Nat × Operand) → List (Nat × V)
  | [] => []
  | (i, x) :: r => (i, ev s x) :: evp s r

def okP : List (Nat × V) → Bool
  | [] => true
  | (_, v) :: r => match firms (cellsV v) with | true => okP r | false => false

def mkO (agg : Bool) (cs : List V) : Option V := match agg with
  | true => some (.agg cs)
  | false => match cs with | [v] => some v | _ => none
def mkV (agg : Bool) (cs : List V) : V := match agg with
  | true => .agg cs
  | false => match cs with | [v] => v | _ => .any

/-- the rows with which one appends -/
def maxBytes : Nat := 140737488355328

section
variable {R : Type}
/-- append(s, xs...) : rows 'xs' behind slice 's'. -/
def app (lo : Nat) (e : TypeId) (size bytes : Nat) (s : V) (xs : List (List V)) (h : Heap) (k : V → Heap → Option R) : Option R := match s with
  | .sl R' a len cap =>
    match xs with
    | [] => k (.sl R' a len cap) h
    | _ :: _ => need (Nat.blt 0 bytes) <| need (decide ((len + xs.length) * bytes ≤ maxBytes)) <| match a with
    | none => k (.sl size (some (h.length, 0)) (len + xs.length) none) (h ++ [.rows size e false xs])
    | some (b, i) => need (Nat.beq R' size) <| match cap with
      | some c => match Nat.ble (len + xs.length) c with
        | true => eO (stRows lo h b (i + len) xs) fun h' => k (.sl size a (len + xs.length) cap) h'
        | false => eO (ldRows h b i len) fun old => k (.sl size (some (h.length, 0)) (len + xs.length) none) (h ++ [.rows size e false (old ++ xs)])
      | none => eO (Heap.own? lo e h b) fun rs => match Nat.ble (i + len + xs.length) rs.length with
        | true => eO (stRows lo h b (i + len) xs) fun h' => k (.sl size a (len + xs.length) cap) h'
        | false => need (Nat.beq i 0) <| eO (ldRows h b i len) fun old =>
            k (.sl size (some (h.length, 0)) (len + xs.length) none) (h.set b .dead ++ [.rows size e false (old ++ xs)])
  | _ => none

def bytesRows (s : ByteArray) : List (List V) := s.data.toList.map fun b => [.int .u8 (b.toNat : Int)]

/-- a slice's own rows -/
def rowsOf (size : Nat) (h : Heap) (v : V) (k : List (List V) → Option R) : Option R := match v with
  | .sl R' a n _ => match a with
    | none => k []
    | some (b, i) => need (Nat.beq R' size) <| match n with
      | 0 => k []
      | n + 1 => eO (ldRows h b i (n + 1)) k
  | .str s => k (bytesRows s)
  | _ => none

/-- rows that are bytes; the text of bytes -/
def byteRows : List (List V) → Option (List Int)
  | [] => some []
  | [.int k n] :: r => match k with
    | .u8 => match byteRows r with | some l => some (n :: l) | none => none
    | _ => none
  | _ => none
def bytesOf (ns : List Int) : ByteArray := ns.foldl (fun r n => r.push (UInt8.ofNat n.toNat)) ByteArray.empty

/-- s[lo:hi:max] of a slice -/
def slMax (len : Nat) (cap : Option Nat) (m : Option V) (f : Option Nat → Option R) : Option R := match m with
  | none => f cap
  | some mv => eI .i64 mv fun n => match cap with
    | some c => inS n c (f (some n.toNat))
    | none => inS n len (f (some n.toNat))
def slHi (noMax : Bool) (len : Nat) (cap : Option Nat) (hi : Option V) (f : Nat → Option R) : Option R := match hi with
  | none => match noMax with | true => f len | false => none
  | some hv => eI .i64 hv fun n => match cap with
    | some c => inS n c (f n.toNat)
    | none => inS n len (f n.toNat)
def slAt (a : Option (Nat × Nat)) (h : Nat) (cap : Option Nat) (n : Nat) (k : Option (Nat × Nat) → Nat → Option Nat → Option R) : Option R := match a with
  | none => k none 0 (some 0)
  | some (b, i) => match cap with
    | some c => br (Nat.beq c n) (k (some (b, i)) (h - n) (some 0)) (k (some (b, i + n)) (h - n) (some (c - n)))
    | none => k (some (b, i + n)) (h - n) none
def slLo (a : Option (Nat × Nat)) (h : Nat) (cap : Option Nat) (l : Option V) (k : Option (Nat × Nat) → Nat → Option Nat → Option R) : Option R := match l with
  | none => k a h cap
  | some lv => eI .i64 lv fun n => inS n h <| slAt a h cap n.toNat k
def reslice (a : Option (Nat × Nat)) (len : Nat) (cap : Option Nat) (l hi m : Option V) (k : Option (Nat × Nat) → Nat → Option Nat → Option R) : Option R :=
  slMax len cap m fun cap' => slHi m.isNone len cap' hi fun h => slLo a h cap' l k

/-- how far a slice surely reaches -/
def roomOf (h : Heap) (a : Option (Nat × Nat)) (n : Nat) (c : Option Nat) : Nat := match c with
  | some _ => n
  | none => match a with
    | none => n
    | some (b, i) => match Heap.rows? h b with
      | some rs => Nat.max n (rs.length - i)
      | none => n
def roomFor (wide : Bool) (h : Heap) (a : Option (Nat × Nat)) (n : Nat) (c : Option Nat) (hi : Option V) : Nat := match wide with
  | false => n
  | true => match hi with
    | none => n
    | some _ => roomOf h a n c

def strLo (s : ByteArray) (h : Nat) (l : Option V) (k : V → Option R) : Option R := match l with
  | none => k (.str (s.extract 0 h))
  | some lv => eI .i64 lv fun n => inS n h (k (.str (s.extract n.toNat h)))
def strSlice (s : ByteArray) (l hi : Option V) (k : V → Option R) : Option R :=
  slHi true s.size (some s.size) hi fun h => strLo s h l k

def evo (s : List (Nat × V)) : Option Operand → Option V
  | none => none
  | some x => some (ev s x)

/-- a key that T may look up -/
def keyOk (X : Ctx) (k : TypeId) (v : V) : Bool := match v with
  | .agg cs => X.cmp k && shOks (X.ty k).sh cs
  | v => shOk (X.ty k).cell v
/-- what stands at a key -/
def kvFind (key : V) : List (V × V) → Option (Option V)
  | [] => some none
  | (x, v) :: r => match eqV key x with
    | some true => some (some v)
    | some false => kvFind key r
    | none => none
def kvSet (key val : V) : List (V × V) → Option (List (V × V))
  | [] => some [(key, val)]
  | (x, v) :: r => match eqV key x with
    | some true => some ((key, val) :: r)
    | some false => match kvSet key val r with | some l => some ((x, v) :: l) | none => none
    | none => none

def maxI (xs : List V) (m : Int) (k : V → Option R) : Option R := match xs with
  | [] => k (.int .i64 m)
  | v :: r => eI .i64 v fun n => maxI r (if n > m then n else m) k
def minI (xs : List V) (m : Int) (k : V → Option R) : Option R := match xs with
  | [] => k (.int .i64 m)
  | v :: r => eI .i64 v fun n => minI r (if n < m then n else m) k

/-- rows set to zero -/
def clr (lo R' size : Nat) (ok : Bool) (zero : List V) (h : Heap) (a : Option (Nat × Nat)) (n : Nat) (k : Heap → Option R) : Option R := match a with
  | none => k h
  | some (b, i) => need (Nat.beq R' size && ok) <| eO (stRows lo h b i (List.replicate n zero)) k

/-- One builtin. -/
def bltn (X : Ctx) (lo : Nat) (b : Builtin) (ts : List TypeId) (vs : List V) (h : Heap) (k : V → Heap → Option R) : Option R := match b with
  | .len => match vs, ts with
    | [v], [t] => match v with
      | .str s => need ((X.ty t).one .str) (k (.int .i64 (s.size : Nat)) h)
      | .sl _ _ n _ => match (X.ty t).ty with
        | .slice _ => k (.int .i64 (n : Nat)) h
        | _ => none
      | .map r => match (X.ty t).ty with
        | .map _ _ => eO r fun b => eO (Heap.kv? h b) fun kv => k (.int .i64 (kv.length : Nat)) h
        | _ => none
      | _ => match (X.ty t).ty with
        | .array n _ => k (.int .i64 (n : Nat)) h
        | .pointer e => match (X.ty e).ty with
          | .array n _ => k (.int .i64 (n : Nat)) h
          | _ => none
        | _ => none
    | _, _ => none
  | .cap => match vs, ts with
    | [.sl _ _ _ c], [t] => match (X.ty t).ty with
      | .slice _ => eO c fun c => k (.int .i64 (c : Nat)) h
      | _ => none
    | _, _ => none
  | .append => match vs, ts with
    | [s, x], [t, u] => match (X.ty t).ty with
      | .slice e => need ((X.ty e).known && (X.ty e).hz && firms (X.ty e).zero) <| match (X.ty u).ty with
        | .slice _ => match x with
          | .sl _ _ _ _ => rowsOf (X.ty e).size h x fun xs => app lo e (X.ty e).size (X.ty e).bytes s xs h fun v h => eS (X.ty e).size v fun a n c => k (.sl (X.ty e).size a n c) h
          | _ => none
        | .scalar => match x with
          | .str _ => need ((X.ty u).one .str && Nat.beq (X.ty e).size 1) <| rowsOf (X.ty e).size h x fun xs => app lo e (X.ty e).size (X.ty e).bytes s xs h fun v h => eS (X.ty e).size v fun a n c => k (.sl (X.ty e).size a n c) h
          | .int .i64 m => need ((X.ty u).one (.int .i64) && Nat.blt 0 (X.ty e).bytes) <| need (decide (0 ≤ m ∧ m * ((X.ty e).bytes : Nat) ≤ 140737488355328)) <| app lo e (X.ty e).size (X.ty e).bytes s (List.replicate m.toNat (X.ty e).zero) h fun v h => eS (X.ty e).size v fun a n c => k (.sl (X.ty e).size a n c) h
          | _ => none
        | _ => none
      | _ => none
    | _, _ => none
  | .max => match vs with
    | v :: r => eI .i64 v fun m => maxI r m fun v => k v h
    | _ => none
  | .min => match vs with
    | v :: r => eI .i64 v fun m => minI r m fun v => k v h
    | _ => none
  | .clear => match vs, ts with
    | [.sl R' a n _], [t] => match (X.ty t).ty with
      | .slice e => clr lo R' (X.ty e).size ((X.ty e).hz && firms (X.ty e).zero) (X.ty e).zero h a n fun h' => k (.tup []) h'
      | _ => none
    | _, _ => none
  | _ => none

/-- One operation: its value, the memory behind it. 'd' is the slot that it writes, 'ty' its type. -/
noncomputable def opT (X : Ctx) (lo : Nat) (d : Option Nat) (ty : TypeId) (o : Op) (σ : St) (k : V → St → Option R) : Option R := match o with
  | .move x => k (ev σ.s x) σ
  | .assign x => k (ev σ.s x) σ
  | .pick c a b => eBv (ev σ.s c) fun t => br t (k (ev σ.s a) σ) (k (ev σ.s b) σ)
  | .alloc e => match d, (X.ty e).known && (X.ty e).hz && firms (X.ty e).zero with
    | none, _ => none
    | some _, false => none
    | some t, true => match X.hb.any (Nat.beq t) with
      | true => k (.ptr (some (σ.h.length, 0, 0))) { σ with h := σ.h ++ [.rows (X.ty e).size e false [(X.ty e).zero]] }
      | false => match lookB σ.bx t with
        | some _ => none
        | none => k (.lp t 0) { σ with bx := (t, (X.ty e).zero) :: σ.bx }
  | .box e x => match d with
    | none => none
    | some t => match firms (cellsV (ev σ.s x)) with
      | true => match Nat.beq (cellsV (ev σ.s x)).length (X.ty e).size with
        | true => match X.hb.any (Nat.beq t) with
          | true => k (.ptr (some (σ.h.length, 0, 0))) { σ with h := σ.h ++ [.rows (X.ty e).size e false [cellsV (ev σ.s x)]] }
          | false => match lookB σ.bx t with
            | some _ => none
            | none => k (.lp t 0) { σ with bx := (t, cellsV (ev σ.s x)) :: σ.bx }
        | false => none
      | false => none
  | .build t ps => match okP (evp σ.s ps.toList) && (X.ty t).hz && firms (X.ty t).zero with
    | true => match (X.ty t).ty with
      | .struct fs => need (allKnown X fs) <| eO (lay (structLay X fs) (X.ty t).zero (evp σ.s ps.toList)) fun cs => k (.agg cs) σ
      | .array _ e => need (X.ty e).known <| eO (lay (fun i => some (i * (X.ty e).size, (X.ty e).size)) (X.ty t).zero (evp σ.s ps.toList)) fun cs => k (.agg cs) σ
      | _ => none
    | false => none
  | .buildSlice t n ps => match okP (evp σ.s ps.toList) with
    | true => match (X.ty t).ty with
      | .slice e => match (X.ty e).known && (X.ty e).hz && firms (X.ty e).zero && Nat.ble (n * (X.ty e).size) 16777216 with
        | true => eO (layRows (X.ty e).size (List.replicate n (X.ty e).zero) (evp σ.s ps.toList)) fun rows =>
          k (.sl (X.ty e).size (some (σ.h.length, 0)) n (some n)) { σ with h := σ.h ++ [.rows (X.ty e).size e false rows] }
        | false => none
      | _ => none
    | false => none
  | .load t a => match (X.ty t).known with
    | false => none
    | true => match ev σ.s a with
    | .lp u j => match lookB σ.bx u with
      | some row => eO (cut row j (X.ty t).size) fun cs => eO (mkO (X.ty t).agg cs) fun v => k v σ
      | none => none
    | .ptr p => eO p fun (b, i, j) => eO (ld σ.h b i j (X.ty t).size) fun cs => eCells (X.ty t).agg (X.ty t).sh cs fun v => k v σ
    | _ => none
  | .store t a x => match (X.ty t).known && firms (cellsV (ev σ.s x)) with
    | true => match Nat.beq (cellsV (ev σ.s x)).length (X.ty t).size with
      | true => match ev σ.s a with
        | .lp u j => match lookB σ.bx u with
          | some row => match paste row j (cellsV (ev σ.s x)) with
            | some row' => k (.tup []) { σ with bx := setB σ.bx u row' }
            | none => none
          | none => none
        | .ptr p => eO p fun (b, i, j) => eO (st lo σ.h b i j (cellsV (ev σ.s x))) fun h' => k (.tup []) { σ with h := h' }
        | _ => none
      | false => none
    | false => none
  | .nilCheck x => match ev σ.s x with
    | .lp u j => k (.lp u j) σ
    | .ptr p => eO p fun q => k (.ptr (some q)) σ
    | .fn f cs => k (.fn f cs) σ
    | _ => none
  | .binOp op t x y _ => binOp X op t (isConst x || isConst y) (ev σ.s x) (ev σ.s y) fun v => k v σ
  | .unOp op _ x => unOp op (ev σ.s x) fun v => k v σ
  | .convert u t x => match (X.ty u).known with
    | true => match ev σ.s x with
      | .int _ n => match (X.ty t).cell with
        | .int a => k (.int a (a.wrap n)) σ
        | _ => none
      | .str s => match (X.ty t).cell with
        | .str => k (.str s) σ
        | _ => none
      | .sl R' a n c => match (X.ty u).ty, (X.ty t).cell with
        | .slice e, .str => match (X.ty e).cell with
          | .int .u8 => rowsOf 1 σ.h (.sl R' a n c) fun rows => eO (byteRows rows) fun ns => k (.str (bytesOf ns)) σ
          | _ => none
        | _, _ => none
      | _ => none
    | false => none
  | .makeFunc f fst cs => match f, fst.toList with
    | .func g, [] => match okVs (evs σ.s cs.toList) && noTup (evs σ.s cs.toList) with
      | true => k (.fn g (evs σ.s cs.toList)) σ
      | false => none
    | .func g, x :: xs => match okVs (evs σ.s (x :: xs)) && okVs (evs σ.s cs.toList) with
      | true => k (.fn g (.tup (evs σ.s (x :: xs)) :: evs σ.s cs.toList)) σ
      | false => none
    | _, _ => none
  | .makeSlice t l c => match (X.ty t).ty with
    | .slice e => eI .i64 (ev σ.s l) fun n => eI .i64 (ev σ.s c) fun m =>
        need ((X.ty e).known && (X.ty e).hz && firms (X.ty e).zero) <|
        need (decide (0 ≤ n ∧ n ≤ m ∧ m ≤ 140737488355328 ∧ m * ((X.ty e).bytes : Nat) ≤ 281474976710656)) <|
        k (.sl (X.ty e).size (some (σ.h.length, 0)) n.toNat (some m.toNat)) { σ with h := σ.h ++ [.rows (X.ty e).size e false (List.replicate m.toNat (X.ty e).zero)] }
    | _ => none
  | .slice t x l hi m => match ev σ.s x with
    | .str s => match m with
      | none => need ((X.ty t).one .str) <| strSlice s (evo σ.s l) (evo σ.s hi) fun v => eT v fun s => k (.str s) σ
      | some _ => none
    | .sl R' a n c => match (X.ty t).ty with
      | .slice e => need ((Nat.beq R' (X.ty e).size || a.isNone) && (X.ty e).known) <| reslice a (roomFor X.wide σ.h a n c (evo σ.s hi)) c (evo σ.s l) (evo σ.s hi) (evo σ.s m) fun a n c => k (.sl (X.ty e).size a n c) σ
      | _ => none
    | _ => none
  | .fieldAddr t x f => match (X.ty t).ty with
    | .struct fs => match fs[f]? with
      | some g => match (X.ty g.2).known && Nat.blt 0 (X.ty g.2).size with
        | true => match ev σ.s x with
          | .lp u j => k (.lp u (j + g.1)) σ
          | .ptr p => eO p fun (b, i, j) => k (.ptr (some (b, i, j + g.1))) σ
          | _ => none
        | false => none
      | none => none
    | _ => none
  | .field t x f => match (X.ty t).ty with
    | .struct fs => match fs[f]? with
      | some g => match (X.ty g.2).known with
        | true => match ev σ.s x with
          | .agg cs => eO (cut cs g.1 (X.ty g.2).size) fun cs => eO (mkO (X.ty g.2).agg cs) fun v => k v σ
          | _ => none
        | false => none
      | none => none
    | _ => none
  | .indexAddr t x i => match ev σ.s x with
    | .sl R' a n _ => match (X.ty t).ty with
      | .slice e => eI .i64 (ev σ.s i) fun q => inB q n <| eO a fun (b, r) => need (Nat.beq R' (X.ty e).size && (X.ty e).known) <| k (.ptr (some (b, r + q.toNat, 0))) σ
      | _ => none
    | .lp u j => match (X.ty t).ty with
      | .array n e => eI .i64 (ev σ.s i) fun q => inB q n <| need (X.ty e).known <| k (.lp u (j + q.toNat * (X.ty e).size)) σ
      | _ => none
    | .ptr p => match (X.ty t).ty with
      | .array n e => eO p fun (b, r, j) => eI .i64 (ev σ.s i) fun q => inB q n <| need (X.ty e).known <| k (.ptr (some (b, r, j + q.toNat * (X.ty e).size))) σ
      | _ => none
    | _ => none
  | .index t x i => match ev σ.s x with
    | .str s => need ((X.ty t).one .str) <| eIu (ev σ.s i) (fun q => eO (strAt s q) fun c => k (.int .u8 (c.toNat : Nat)) σ) fun f => eI .i64 (ev σ.s i) f
    | .agg cs => match (X.ty t).ty with
      | .array n e => eI .i64 (ev σ.s i) fun q => inB q n <| need (X.ty e).known <| eO (cut cs (q.toNat * (X.ty e).size) (X.ty e).size) fun cs => eCells (X.ty e).agg (X.ty e).sh cs fun v => k v σ
      | _ => none
    | _ => none
  | .lookup t m i ok => match (X.ty t).ty with
    | .map q e => match ev σ.s m, keyOk X q (ev σ.s i) && (X.ty e).hz && (X.ty e).known with
      | .map r, true => eO r fun b => eO (Heap.kv? σ.h b) fun kv => eO (kvFind (ev σ.s i) kv) fun f => match ok with
        | true => eX f (fun v => eVal (X.ty e).agg (X.ty e).sh v fun v => k (.tup [v, .bool true]) σ) (k (.tup [mkV (X.ty e).agg (X.ty e).zero, .bool false]) σ)
        | false => eVal (X.ty e).agg (X.ty e).sh (dflt f (mkV (X.ty e).agg (X.ty e).zero)) fun v => k v σ
      | _, _ => none
    | _ => none
  | .mapUpdate t m i x => match (X.ty t).ty with
    | .map q _ => match ev σ.s m, okV (ev σ.s x) && keyOk X q (ev σ.s i) with
      | .map r, true => eO r fun b => eO (Heap.kv? σ.h b) fun kv => need (Nat.ble lo b) <| eO (kvSet (ev σ.s i) (ev σ.s x) kv) fun kv' => k (.tup []) { σ with h := σ.h.set b (.map t kv') }
      | _, _ => none
    | _ => none
  | .insert t m i x => match (X.ty t).ty with
    | .map q _ => match ev σ.s m, okV (ev σ.s x) && keyOk X q (ev σ.s i) with
      | .map r, true => eO r fun b => eO (Heap.kv? σ.h b) fun kv => need (Nat.ble lo b) <| eO (kvSet (ev σ.s i) (ev σ.s x) kv) fun kv' => k (.tup []) { σ with h := σ.h.set b (.map t kv') }
      | _, _ => none
    | _ => none
  | .makeMap t r => match r with
    | none => k (.map (some σ.h.length)) { σ with h := σ.h ++ [.map t []] }
    | some _ => none
  | .extract x i => match ev σ.s x with
    | .tup cs => match cs[i]? with
      | some v => k v σ
      | none => none
    | _ => none
  | .call c => match okVs (evs σ.s c.args.toList) with
    | true => match c.callee with
      | .value f => match ev σ.s f with
        | .fn g cs => cal (X.call lo g (fnArgs (evs σ.s c.args.toList) cs) σ.h) fun v h => eRes (X.ret ty) v fun v => k v { σ with h := h }
        | _ => none
      | .builtin b => bltn X lo b c.argTypes.toList (evs σ.s c.args.toList) σ.h fun v h => k v { σ with h := h }
      | .invoke _ _ => none
    | false => none
  | _ => none

def putS (σ : St) (d : Option Nat) (v : V) : St := match d with
  | some t => { σ with s := (t, v) :: σ.s }
  | none => σ

/-! ### which operations of a region stand in which order -/
def inert (o : Oper) : Bool := match o.op with
  | .move _ | .assign _ | .pick .. | .fieldAddr .. | .indexAddr .. | .nilCheck _ | .binOp .. | .unOp .. | .extract .. | .build .. | .slice .. | .field .. | .index .. | .makeFunc .. => true
  | .convert .. => false
  | .call c => match c.callee with
    | .builtin .cap | .builtin .max | .builtin .min => true
    | _ => false
  | _ => false
def isLoad (o : Oper) : Bool := match o.op with | .load .. => true | _ => false
def isWrite (o : Oper) : Bool := match o.op with
  | .store .. | .mapUpdate .. | .insert .. => true
  | .call c => match c.callee with
    | .builtin .clear | .builtin .copy | .builtin .delete => true
    | _ => false
  | _ => false

def bindsE (e : Edge) : Bool := match e.ground with | .textOnly _ => false | .gcOnly _ => false | _ => true
/-- for each operation the set of those that come ahead of it, as bits -/
def aheadOf (acc : List Nat) : List Edge → Nat
  | [] => 0
  | e :: r => match bindsE e with
    | true => Nat.lor (Nat.lor (Nat.shiftLeft 1 e.on) (acc.getD e.on 0)) (aheadOf acc r)
    | false => aheadOf acc r
def aheadL (acc : List Nat) : List Oper → List Nat
  | [] => acc
  | o :: r => aheadL (acc ++ [aheadOf acc o.after.toList]) r
def cmpB (M : List Nat) (i j : Nat) : Bool := match (M.getD i 0).testBit j with | true => true | false => (M.getD j 0).testBit i

def opTmps : List Operand → List Nat
  | [] => []
  | .tmp t :: r => t :: opTmps r
  | _ :: r => opTmps r
def guardTmp (all : List Oper) (o : Oper) : List Nat := match o.guard with
  | none => []
  | some (j, _) => match all[j]? with | some g => g.dst.toList | none => []
def readsT (all : List Oper) (o : Oper) : List Nat := guardTmp all o ++ opTmps o.op.operands.toList
def touchesT (all : List Oper) (o : Oper) : List Nat := o.dst.toList ++ readsT all o

def clOf (l : List (Nat × List Nat)) (id i : Nat) : Bool := match l with
  | [] => false
  | (u, xs) :: r => match Nat.beq u id with | true => xs.any (Nat.beq i) | false => clOf r id i
def loadTmp (o : Oper) : Option Nat := match o.op with | .load _ (.tmp a) => some a | _ => none
/-- a variable of the frame that is made -/
def mkBox (o : Oper) : Option (Nat × TypeId) := match o.op with
  | .alloc e => match o.dst with
    | some t => some (t, e)
    | none => none
  | _ => none
/-- .. at any time -/
def boxAt (cl : Nat → Bool) (i : Nat) (o : Oper) : Option (Nat × TypeId) := match cl i with
  | true => mkBox o
  | false => none
/-- these stand ready ahead of all -/
def boxesOf (X : Ctx) (cl : Nat → Bool) : Nat → List Oper → List (Nat × List V) → Option (List (Nat × List V))
  | _, [], bx => some bx
  | i, o :: r, bx => match boxAt cl i o with
    | none => boxesOf X cl (i + 1) r bx
    | some (t, e) => match (X.ty e).known && (X.ty e).hz && firms (X.ty e).zero, X.hb.any (Nat.beq t), lookB bx t with
      | true, false, none => boxesOf X cl (i + 1) r ((t, (X.ty e).zero) :: bx)
      | _, _, _ => none
/-- comparable with all that touch memory ('cl': those that read what nobody else changes meanwhile) -/
def freeAt (M : List Nat) (all : List Oper) (cl : Nat → Bool) (i : Nat) : Bool :=
  (all.zipIdx).all fun p => Nat.beq p.2 i || inert p.1 || cmpB M i p.2 || cl p.2
def isStoreOp (o : Oper) : Bool := match o.op with | .store .. => true | _ => false
def isLp : V → Bool
  | .lp _ _ => true
  | _ => false
/-- no operation writes the slot at a place, or later -/
def stays (all : List Oper) (a n : Nat) : Bool := (all.zipIdx).all fun q => Nat.blt q.2 n || !(q.1.dst.toList.any (Nat.beq a))
/-- the slot stays from there on; and from all stores on that have no place beside it -/
def clStat (M : List Nat) (all : List Oper) (i : Nat) (o : Oper) : Bool := match loadTmp o with
  | some a => stays all a i && (all.zipIdx).all fun p => !isStoreOp p.1 || cmpB M p.2 i || stays all a p.2
  | none => match mkBox o with
    | some _ => Nat.beq (M.getD i 0) 0 && o.guard.isNone
    | none => false
/-- something that has no place beside it comes before the slot is written: then it has to be a variable of the frame -/
def early (M : List Nat) (all : List Oper) (cl : Nat → Bool) (i a : Nat) : Bool := (all.zipIdx).all fun p => inert p.1 || cl p.2 || cmpB M p.2 i || stays all a p.2 || !freeAt M all cl p.2
def endOk (s : List (Nat × V)) (M : List Nat) (all : List Oper) (cl : Nat → Bool) : Bool :=
  (all.zipIdx).all fun p => !cl p.2 || match loadTmp p.1 with | some a => early M all cl p.2 a || isLp (look s a) | none => (mkBox p.1).isSome
/-- the loads that have no place beside an operation -/
def clashL (M : List Nat) (all : List Oper) (cl : Nat → Bool) (j : Nat) : Nat → List Oper → List Oper
  | _, [] => []
  | i, p :: r => match cl i with
    | false => clashL M all cl j (i + 1) r
    | true => match cmpB M j i with
      | true => clashL M all cl j (i + 1) r
      | false => match loadTmp p with
        | none => match mkBox p with
          | some _ => p :: clashL M all cl j (i + 1) r
          | none => clashL M all cl j (i + 1) r
        | some a => match stays all a j with
          | false => clashL M all cl j (i + 1) r
          | true => p :: clashL M all cl j (i + 1) r
def ckOf (M : List Nat) (all : List Oper) (cl : Nat → Bool) (j : Nat) : List Oper := match all[j]? with
  | none => []
  | some o => match inert o with
    | true => []
    | false => match cl j with
      | true => []
      | false => clashL M all cl j 0 all
/-- both times the same cells -/
noncomputable def sameO (a b : Option (List V)) : Bool := open Classical in decide (a = b)
/-- an operation leaves what the loads read -/
noncomputable def chkT (X : Ctx) (o : Oper) (σ σ' : St) : List Oper → Option R → Option R
  | [], k => k
  | p :: r, k => match p.op with
    | .load t x => match ev σ.s x with
      | .lp u _ => match o.op with
        | .store _ y _ => match ev σ.s y with
          | .lp u' _ => match Nat.beq u' u with
            | true => none
            | false => chkT X o σ σ' r k
          | .ptr _ => chkT X o σ σ' r k
          | _ => none
        | _ => chkT X o σ σ' r k
      | .ptr q => eO q fun (b, i, j) => match o.op with
        | .store _ y _ => match ev σ.s y with
          | .lp _ _ => chkT X o σ σ' r k
          | _ => need (sameO (ld σ.h b i j (X.ty t).size) (ld σ'.h b i j (X.ty t).size)) (chkT X o σ σ' r k)
        | _ => need (sameO (ld σ.h b i j (X.ty t).size) (ld σ'.h b i j (X.ty t).size)) (chkT X o σ σ' r k)
      | _ => none
    | .alloc _ => match p.dst with
      | some t => match o.op with
        | .store _ y _ => match ev σ.s y with
          | .lp u' _ => match Nat.beq u' t with
            | true => none
            | false => chkT X o σ σ' r k
          | .ptr _ => chkT X o σ σ' r k
          | _ => none
        | _ => chkT X o σ σ' r k
      | none => none
    | _ => none
def disj (a b : List Nat) : Bool := a.all fun x => !(b.any (Nat.beq x))
def drawOk (M : List Nat) (all : List Oper) (cl : Nat → Bool) : Bool :=
  (all.zipIdx).all fun p =>
    (!cl p.2 || clStat M all p.2 p.1) &&
    (!isWrite p.1 || freeAt M all cl p.2) &&
    (p.1.after.toList.all fun e => !bindsE e || Nat.blt e.on p.2) &&
    (match p.1.guard with | none => true | some (j, _) => (M.getD p.2 0).testBit j) &&
    (all.zipIdx).all fun q => !Nat.blt p.2 q.2 || cmpB M p.2 q.2 || (disj p.1.dst.toList (touchesT all q.1) && disj q.1.dst.toList (touchesT all p.1))

/-- An operation of a region: it runs, or its guard says no. -/
def guardT (all : List Oper) (s : List (Nat × V)) (g : Option (Nat × Bool)) (run skip : Option R) : Option R := match g with
  | none => run
  | some (j, want) => match all[j]? with
    | none => none
    | some g => match g.dst with
      | none => none
      | some t => match look s t with
        | .bool b => match want with
          | true => br b run skip
          | false => br b skip run
        | .tup _ => skip
        | _ => none

/-- The operations of a region, in the order of the text. 'calm i': operation 'i' may write nothing that was there; 'ck i': what it must leave. -/
noncomputable def opsT (X : Ctx) (lo : Nat) (all : List Oper) (calm : Nat → Bool) (ck : Nat → List Oper) (al : Nat → Bool) : Nat → List Oper → St → (St → Option R) → Option R
  | _, [], σ, k => k σ
  | i, o :: r, σ, k => match boxAt al i o with
    | some (t, _) => opsT X lo all calm ck al (i + 1) r (putS σ o.dst (.lp t 0)) k
    | none => guardT all σ.s o.guard
      (match calm i with
        | true => opT X σ.h.length o.dst o.type o.op σ fun v σ => opsT X lo all calm ck al (i + 1) r (putS σ o.dst v) k
        | false => opT X lo o.dst o.type o.op σ fun v σ' => chkT X o σ σ' (ck i) (opsT X lo all calm ck al (i + 1) r (putS σ' o.dst v) k))
      (opsT X lo all calm ck al (i + 1) r (putS σ o.dst (.tup [])) k)
end

/-! ### code -/
inductive Ex where
  | normal
  | exit (id : Nat)
  | ret

def keepOf (ks : List (Nat × List Nat × List Nat)) (id : Nat) : List Nat × List Nat := match ks with
  | [] => ([], [])
  | (u, x) :: r => match Nat.beq u id with | true => x | false => keepOf r id
def norm (X : Ctx) (id : Nat) (σ : St) : St :=
  ⟨keepVs (keepOf X.keep id).2 (keepS (keepOf X.keep id).1 σ.s), keepBx (keepOf X.keep id).2 σ.bx, σ.h⟩

/-- The answer that all large numbers of rounds give. -/
noncomputable def LimO {α : Type} (g : Nat → Option α) : Option α :=
  open Classical in if h : ∃ r, ∃ n, ∀ m, n ≤ m → g m = some r then some (Classical.choose h) else none

section
variable {R : Type}
/-- Behind a first part, the second ('c' is its text, for the printer). -/
def kSeq (_c : Code) (_id : Nat) (f : St → (Ex → St → Option R) → Option R) (k : Ex → St → Option R) : Ex → St → Option R
  | .normal, σ => f σ k
  | e, σ => k e σ
def kBlock (id : Nat) (k : Ex → St → Option R) : Ex → St → Option R
  | .exit j, σ => match Nat.beq j id with | true => k .normal σ | false => k (.exit j) σ
  | e, σ => k e σ
end
def kPair (X : Ctx) (id : Nat) (e : Ex) (σ : St) : Option (Ex × St) := some (e, norm X id σ)
/-- 'n' rounds of a loop at the most. -/
def rounds (body : St → Option (Ex × St)) : Nat → St → Option (Ex × St)
  | 0, _ => none
  | n + 1, σ => (body σ).bind fun p => match p.1 with
    | .normal => rounds body n p.2
    | e => some (e, p.2)
def lup (o : Option (Ex × St)) {R : Type} (f : Ex → St → Option R) : Option R := match o with | some (e, σ) => f e σ | none => none
/-- A loop ('c' is its text, for the printer). -/
noncomputable def loopD (_c : Code) (_id : Nat) (body : St → Option (Ex × St)) (σ : St) : Option (Ex × St) := LimO fun n => rounds body n σ

noncomputable def exec (X : Ctx) (lo : Nat) {R : Type} : Code → Nat → St → (Ex → St → Option R) → Option R
  | .skip, _, σ, k => k .normal σ
  | .region rid ops draw, _, σ, k => match draw with
    | false => opsT X lo ops.toList (fun _ => false) (fun _ => []) (fun _ => false) 0 ops.toList σ fun σ => k .normal σ
    | true => match drawOk (aheadL [] ops.toList) ops.toList (clOf X.cl rid) with
      | true => eO (boxesOf X.narrow (clOf X.cl rid) 0 ops.toList σ.bx) fun bx => opsT X.narrow lo ops.toList (fun i => !freeAt (aheadL [] ops.toList) ops.toList (clOf X.cl rid) i) (ckOf (aheadL [] ops.toList) ops.toList (clOf X.cl rid)) (clOf X.cl rid) 0 ops.toList ⟨σ.s, bx, σ.h⟩ fun σ => match endOk σ.s (aheadL [] ops.toList) ops.toList (clOf X.cl rid) with
        | true => k .normal σ
        | false => none
      | false => none
  | .seq a b, id, σ, k => exec X lo a id σ (kSeq b id (fun σ k => exec X lo b id σ k) k)
  | .cond c a b, id, σ, k => eBv (ev σ.s c) fun t => br t (exec X lo a id σ k) (exec X lo b id σ k)
  | .block j b, _, σ, k => exec X lo b j σ (kBlock j k)
  | .loop b, id, σ, k => lup (loopD b id (fun σ => exec X lo b id σ (kPair X id)) (norm X id σ)) k
  | .exit j, _, σ, k => k (.exit j) σ
  | .ret, _, σ, k => k .ret σ
  | _, _, _, _ => none

def resT1 (X : Ctx) (σ : St) : ResultVar → Option V
  | .tmp t => match okV (look σ.s t) with | true => some (look σ.s t) | false => none
  | .cell a t => match look σ.s a with
    | .lp u j => match lookB σ.bx u with
      | some row => match cut row j (X.ty t).size with
        | some cs => match (X.ty t).known with | true => mkO (X.ty t).agg cs | false => none
        | none => none
      | none => none
    | .ptr p => match (X.ty t).known with | false => none | true => p.bind fun (b, i, j) => (ld σ.h b i j (X.ty t).size).bind fun cs => eCells (X.ty t).agg (X.ty t).sh cs fun v => some v
    | _ => none
def resTs (X : Ctx) (σ : St) : List ResultVar → Option (List V)
  | [] => some []
  | r :: rs => match resT1 X σ r with
    | some v => match resTs X σ rs with
      | some vs => some (v :: vs)
      | none => none
    | none => none
def resT (X : Ctx) (rs : List ResultVar) (σ : St) : Option (V × Heap) := match resTs X σ rs with
  | some vs => match vs with
    | [v] => some (v, σ.h)
    | vs => some (.tup vs, σ.h)
  | none => none

def kTop (X : Ctx) (rs : List ResultVar) : Ex → St → Option (V × Heap)
  | .normal, σ => resT X rs σ
  | .ret, σ => resT X rs σ
  | .exit _, _ => none

def argSlots : Nat → List V → List (Nat × V)
  | _, [] => []
  | i, v :: r => (i, v) :: argSlots (i + 1) r

mutual
/-- no block in it -/
def noId : V → Bool
  | .int _ _ => true
  | .bool _ => true
  | .str _ => true
  | .agg cs => noIds cs
  | .tup cs => noIds cs
  | .nilf => true
  | .nili => true
  | _ => false
def noIds : List V → Bool
  | [] => true
  | v :: r => match noId v with | true => noIds r | false => false
end

/-- What T knows of a program: types, results, and for each function the hints. -/
structure Info where
  ty : TypeId → TI
  cmp : TypeId → Bool
  ret : TypeId → List (Bool × List Sh)
  keep : FuncId → List (Nat × List Nat × List Nat)
  hb : FuncId → List Nat
  cl : FuncId → List (Nat × List Nat)
  drop : FuncId → Bool
  wide : FuncId → Bool

def Info.ctx (I : Info) (call : Nat → FuncId → List V → Heap → Option (V × Heap)) (f : FuncId) : Ctx :=
  ⟨I.ty, I.cmp, I.ret, call, I.keep f, I.hb f, I.cl f, I.wide f⟩

/-- One call, its own calls by 'call'. -/
noncomputable def fnT (I : Info) (fn : Func) (call : Nat → FuncId → List V → Heap → Option (V × Heap)) (lo : Nat) (f : FuncId) (args : List V) (h : Heap) : Option (V × Heap) :=
  match fn.body with
  | none => none
  | some c => exec (I.ctx call f) lo c 0 ⟨argSlots 0 args, [], h⟩ (kTop (I.ctx call f) fn.results.toList)

/-- A function that writes nothing that was there, and whose result bears no block, leaves the memory as it was. -/
def loT (d : Bool) (lo : Nat) (h : Heap) : Nat := match d with
  | false => lo
  | true => h.length
def dropT (d : Bool) (h : Heap) (p : V × Heap) : Option (V × Heap) := match d with
  | false => some p
  | true => match noId p.1 with
    | true => some (p.1, h)
    | false => none

noncomputable def evalN (P : Program) (I : Info) : Nat → Nat → FuncId → List V → Heap → Option (V × Heap)
  | 0, _, _, _, _ => none
  | n + 1, lo, f, args, h => match P.funcs[f]? with
    | none => none
    | some fn => (fnT I fn (evalN P I n) (loT (I.drop f) lo h) f args h).bind (dropT (I.drop f) h)
noncomputable def eval (P : Program) (I : Info) (lo : Nat) (f : FuncId) (args : List V) (h : Heap) : Option (V × Heap) :=
  LimO fun n => evalN P I n lo f args h
end Go.Proofs.YtfbhdjkeofleiaaDoor.T
