/- T's tables, read off a program. Definitions only. -/
import Derived.Test.YtfbhdjkeofleiaaDoorTeeA
namespace Go.Proofs.YtfbhdjkeofleiaaDoor.T
open Go

def shOf (P : Program) : Nat → TypeId → List Sh
  | 0, _ => [.no]
  | n + 1, t => match P.underlying t with
    | some (.int k) => [.int k]
    | some .bool => [.bool]
    | some .string => [.str]
    | some (.pointer _) => [.ptr]
    | some (.slice e) => [.sl (match P.info? e with | some i => i.size | none => 0)]
    | some (.map _ _) => [.map]
    | some (.func _ _ _) => [.fn]
    | some (.interface _) => [.ifc]
    | some (.struct fs) => fs.toList.flatMap fun f => shOf P n f.type
    | some (.array m e) => (List.replicate m (shOf P n e)).flatten
    | _ => [.no]

def aggD : TypeDesc → Bool
  | .struct _ => true
  | .array _ _ => true
  | _ => false

/-- a value of a struct or array is written as its cells -/
def zshape : Bool → Value → Bool
  | true, .agg _ => true
  | true, _ => false
  | false, .agg _ => false
  | false, _ => true

def tyOf (P : Program) (t : TypeId) : TI := match P.info? t with
  | none => TI.none
  | some i => match P.underlying t with
    | none => TI.none
    | some d =>
      { ty := match d with
          | .slice e => .slice e
          | .array n e => .array n e
          | .struct fs => .struct (fs.toList.map fun f => (f.offset, f.type))
          | .pointer e => .pointer e
          | .map k e => .map k e
          | .int _ | .bool | .string | .func _ _ _ | .interface _ => .scalar
          | _ => .no
        agg := aggD d
        size := i.size
        bytes := i.bytes
        zero := match i.zero with | some v => cellsV (ofValue v) | none => []
        hz := match i.zero with | some v => Nat.beq v.cells.size i.size && zshape (aggD d) v | none => false
        sh := shOf P 8 t }

/-- The values that a call of this type gives. -/
def retOf (P : Program) (t : TypeId) : List (Bool × List Sh) := match P.underlying t with
  | some (.tuple ts) => ts.toList.map fun t => ((tyOf P t).agg, (tyOf P t).sh)
  | some _ => [((tyOf P t).agg, (tyOf P t).sh)]
  | none => []

/-- What the hints of a function are. -/
structure Hint where
  keep : List (Nat × List Nat × List Nat) := []
  hb : List Nat := []
  cl : List (Nat × List Nat) := []
  drop : Bool := false
  wide : Bool := false

def hintOf (H : List (Nat × Hint)) (f : Nat) : Hint := match H with
  | [] => {}
  | (u, x) :: r => match Nat.beq u f with | true => x | false => hintOf r f

def infoOf (P : Program) (C : List Nat) (H : List (Nat × Hint)) : Info :=
  { ty := tyOf P, cmp := fun t => C.any (Nat.beq t), ret := retOf P, keep := fun f => (hintOf H f).keep, hb := fun f => (hintOf H f).hb, cl := fun f => (hintOf H f).cl, drop := fun f => (hintOf H f).drop, wide := fun f => (hintOf H f).wide }

/-! ### places in a code -/
def cl : Code → Code | .seq a _ => a | c => c
def cr : Code → Code | .seq _ b => b | c => c
def cb : Code → Code | .block _ b => b | .loop b => b | c => c
def ct : Code → Code | .cond _ a _ => a | c => c
def ce : Code → Code | .cond _ _ b => b | c => c
def code (fn : Func) : Code := match fn.body with | some c => c | none => .skip

/-- One round of a loop. -/
noncomputable def rnd (X : Ctx) (lo : Nat) (c : Code) (id : Nat) : St → Option (Ex × St) := fun σ => exec X lo c id σ (kPair X id)
noncomputable def kS {R : Type} (X : Ctx) (lo : Nat) (c : Code) (id : Nat) (k : Ex → St → Option R) : Ex → St → Option R := kSeq c id (fun σ k => exec X lo c id σ k) k
/-- A loop of a function, its rounds by 'rnd'. -/
noncomputable def lop (X : Ctx) (lo : Nat) (c : Code) (id : Nat) (σ : St) : Option (Ex × St) := loopD c id (rnd X lo c id) σ
end Go.Proofs.YtfbhdjkeofleiaaDoor.T
