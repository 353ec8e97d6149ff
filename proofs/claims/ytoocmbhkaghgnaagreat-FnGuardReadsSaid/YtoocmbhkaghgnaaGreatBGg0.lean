/- Part 0 of what is shown for the law Gg, whatever the input; no condition of its own. -/
import Derived.Below
import Derived.Tactics
import Derived.Orders
import Derived.Laws.Sem
import Derived.Laws.World
import Derived.Laws.Cells
import Derived.Laws.StructEq
import Derived.Laws.Cover3
import Derived.Laws.BitsLemmas
import Derived.Laws.BytesString
import Derived.IntWalk
import Derived.Laws.Append
import Derived.Test.YtoocmbhkaghgnaaGreatProg
import Derived.KernelRfl
import Derived.ProofKit
import Derived.Laws.Strings
import Derived.JoinedOf
import Derived.WalkKit
import Derived.OpenShut
import Derived.ShutString
import Derived.ChangeOld
set_option linter.unusedVariables false
set_option linter.unusedSimpArgs false
set_option linter.unnecessarySimpa false
set_option maxRecDepth 100000
namespace Go.Proofs.YtoocmbhkaghgnaaGreat
abbrev Pq := Option (Nat × Nat)
abbrev Nq := Option Nat
theorem YD:type_of% @Nat.le_trans:=@Nat.le_trans
theorem YE:type_of% @List.getElem?_eq_some_iff:=@List.getElem?_eq_some_iff
theorem YF:type_of% @List.mem_append:=@List.mem_append
theorem YG:type_of% @List.getElem?_set_ne:=@List.getElem?_set_ne
theorem YH:type_of% @Nat.le_refl:=@Nat.le_refl
theorem YI:type_of% @List.getElem?_append_left:=@List.getElem?_append_left
theorem YJ:type_of% @List.getElem_mem:=@List.getElem_mem
theorem YK:type_of% @List.nodup_append:=@List.nodup_append
theorem YL:type_of% @Nat.eq_of_beq_eq_true:=@Nat.eq_of_beq_eq_true
theorem YM:type_of% @List.eq_nil_of_length_eq_zero:=@List.eq_nil_of_length_eq_zero
theorem YN:type_of% @List.drop_eq_getElem_cons:=@List.drop_eq_getElem_cons
theorem YO:type_of% @List.getElem?_set_self:=@List.getElem?_set_self
theorem YP:type_of% @Bool.true_and:=@Bool.true_and
theorem YQ:type_of% @Bool.and_eq_true:=@Bool.and_eq_true
theorem YR:type_of% @List.all_eq_true:=@List.all_eq_true
theorem YS:type_of% @List.mem_of_getElem?:=@List.mem_of_getElem?
theorem YT:type_of% @Nat.lt_of_lt_of_le:=@Nat.lt_of_lt_of_le
theorem YU:type_of% @List.getElem?_eq_getElem:=@List.getElem?_eq_getElem
theorem YV:type_of% @List.append_assoc:=@List.append_assoc
theorem YW:type_of% @List.mem_cons:=@List.mem_cons
theorem YX:type_of% @List.mem_iff_getElem?:=@List.mem_iff_getElem?
theorem YY:type_of% @Array.getD_eq_getD_getElem?:=@Array.getD_eq_getD_getElem?
theorem YZ:type_of% @List.mem_singleton:=@List.mem_singleton
theorem Y0:type_of% @List.drop_eq_nil_of_le:=@List.drop_eq_nil_of_le
theorem Y1:type_of% @List.getElem?_append_right:=@List.getElem?_append_right
theorem Y2:type_of% @List.nodup_cons:=@List.nodup_cons
theorem Y3:type_of% @Nat.zero_le:=@Nat.zero_le
theorem Y4:type_of% @List.mem_or_eq_of_mem_set:=@List.mem_or_eq_of_mem_set
theorem Y5:type_of% @List.flatten_cons:=@List.flatten_cons
theorem Y6:type_of% @List.length_append:=@List.length_append
theorem Y7:type_of% @List.flatten_append:=@List.flatten_append
theorem Y8:type_of% @List.mem_append_left:=@List.mem_append_left
theorem Y9:type_of% @List.nil_append:=@List.nil_append
theorem Za:type_of% @Option.bind_some:=@Option.bind_some
theorem Zb:type_of% @Nat.mul_le_mul_right:=@Nat.mul_le_mul_right
theorem Zc:type_of% @List.getElem?_drop:=@List.getElem?_drop
theorem Zd:type_of% @Option.map_eq_some_iff:=@Option.map_eq_some_iff
theorem Ze:type_of% @Bool.or_eq_true:=@Bool.or_eq_true
theorem Zf:type_of% @Nat.zero_add:=@Nat.zero_add
theorem Zg:type_of% @List.drop_zero:=@List.drop_zero
theorem Zh:type_of% @Bool.false_and:=@Bool.false_and
theorem Zi:type_of% @Bool.false_eq_true:=@Bool.false_eq_true
theorem Zj:type_of% @Bool.false_or:=@Bool.false_or
theorem Zk:type_of% @Bool.not_true:=@Bool.not_true
theorem Zl:type_of% @List.cons_append:=@List.cons_append
theorem Zm:type_of% @List.take_append_drop:=@List.take_append_drop
theorem Zn:type_of% @Array.getElem?_eq_getElem:=@Array.getElem?_eq_getElem
theorem Zo:type_of% @Bool.not_false:=@Bool.not_false
theorem Zp:type_of% @Bool.not_eq_true':=@Bool.not_eq_true'
theorem Zq:type_of% @List.length_set:=@List.length_set
theorem Zr:type_of% @List.length_take:=@List.length_take
theorem Zs:type_of% @List.mem_cons_of_mem:=@List.mem_cons_of_mem
theorem Zt:type_of% @List.mem_iff_getElem:=@List.mem_iff_getElem
theorem Zu:type_of% @Nat.add_mul:=@Nat.add_mul
theorem Zv:type_of% @List.take_of_length_le:=@List.take_of_length_le
theorem Zw:type_of% @List.eq_of_mem_replicate:=@List.eq_of_mem_replicate
theorem Zx:type_of% @Nat.le_of_ble_eq_true:=@Nat.le_of_ble_eq_true
theorem Zy:type_of% @List.foldl_cons:=@List.foldl_cons
theorem Zz:type_of% @List.getElem?_eq_none:=@List.getElem?_eq_none
theorem ZA:type_of% @Nat.le_of_lt:=@Nat.le_of_lt
theorem ZB:type_of% @List.length_singleton:=@List.length_singleton
theorem ZC:type_of% @List.length_cons:=@List.length_cons
theorem ZD:type_of% @List.length_eraseIdx_of_lt:=@List.length_eraseIdx_of_lt
theorem ZE:type_of% @Bool.and_false:=@Bool.and_false
theorem ZF:type_of% @Array.getElem?_setIfInBounds:=@Array.getElem?_setIfInBounds
theorem ZG:type_of% @List.mem_zipIdx_iff_getElem?:=@List.mem_zipIdx_iff_getElem?
theorem ZH:type_of% @List.getElem?_take:=@List.getElem?_take
theorem ZI:type_of% @List.append_nil:=@List.append_nil
theorem ZJ:type_of% @Bool.eq_iff_iff:=@Bool.eq_iff_iff
theorem ZK:type_of% @Nat.add_zero:=@Nat.add_zero
theorem ZL:type_of% @List.length_drop:=@List.length_drop
theorem ZM:type_of% @Array.getElem?_eq_some_iff:=@Array.getElem?_eq_some_iff
theorem ZN:type_of% @Option.map_some:=@Option.map_some
theorem ZO:type_of% @Bool.true_or:=@Bool.true_or
theorem ZP:type_of% @Option.getD_some:=@Option.getD_some
theorem ZQ:type_of% @Bool.and_true:=@Bool.and_true
theorem ZR:type_of% @Bool.or_false:=@Bool.or_false
theorem ZS:type_of% @List.mem_of_mem_eraseIdx:=@List.mem_of_mem_eraseIdx
theorem ZT:type_of% @List.drop_drop:=@List.drop_drop
theorem ZU:type_of% @Option.toList_some:=@Option.toList_some
theorem ZV:type_of% @Array.getElem?_toList:=@Array.getElem?_toList
theorem ZW:type_of% @List.length_nil:=@List.length_nil
theorem ZX:type_of% @List.mem_append_right:=@List.mem_append_right
theorem ZY:type_of% @List.length_replicate:=@List.length_replicate
theorem ZZ:type_of% @List.getElem?_map:=@List.getElem?_map
theorem Z0:type_of% @List.take_add_one:=@List.take_add_one
theorem Z1:type_of% @List.take_zero:=@List.take_zero
theorem Z2:type_of% @Nat.lt_of_not_le:=@Nat.lt_of_not_le
theorem Z3:type_of% @List.mem_flatten:=@List.mem_flatten
theorem Z4:type_of% @ByteArray.toList_eq:=@ByteArray.toList_eq
theorem Z5:type_of% @List.map_cons:=@List.map_cons
theorem Z6:type_of% @List.any_cons:=@List.any_cons
theorem Z7:type_of% @Option.isNone_none:=@Option.isNone_none
theorem Z8:type_of% @List.length_eraseIdx_le:=@List.length_eraseIdx_le
theorem Z9:type_of% @Nat.not_lt:=@Nat.not_lt
theorem zaa:type_of% @Nat.blt_eq:=@Nat.blt_eq
theorem zab:type_of% @List.set_getElem_self:=@List.set_getElem_self
theorem zac:type_of% @List.length_filter_le:=@List.length_filter_le
theorem zad:type_of% @List.prefix_refl:=@List.prefix_refl
theorem zae:type_of% @List.mem_of_mem_take:=@List.mem_of_mem_take
theorem zaf:type_of% @List.length_map:=@List.length_map
theorem zag:type_of% @List.length_zipWith:=@List.length_zipWith
theorem zah:type_of% @List.getD_eq_getElem?_getD:=@List.getD_eq_getElem?_getD
theorem zai:type_of% @Bool.or_true:=@Bool.or_true
theorem zaj:type_of% @List.mem_map:=@List.mem_map
theorem zak:type_of% @List.getElem?_zip_eq_some:=@List.getElem?_zip_eq_some
end Go.Proofs.YtoocmbhkaghgnaaGreat
namespace Go.Proofs.YtoocmbhkaghgnaaGreat.T
open Go
inductive V where
 | int (k:IntKind) (n:Int)
 | bool (b:Bool)
 | str (s:ByteArray)
 | ptr (p:Option (Nat×Nat×Nat))
 | lp (t j:Nat)
 | sl (R:Nat) (a:Option (Nat×Nat)) (len:Nat) (cap:Option Nat)
 | map (r:Option Nat)
 | fn (f:Nat) (cs:List V)
 | nilf
 | ifc (t:Nat) (v:V)
 | nili
 | agg (cs:List V)
 | tup (cs:List V)
 | any
inductive Blk where
 | rows (R:Nat) (elem:TypeId) (ro:Bool) (rs:List (List V))
 | map (t:TypeId) (kv:List (V×V))
 | dead
abbrev Heap:=List Blk
abbrev EG:=Nat->FuncId->List V->Heap->Option (V×Heap)
inductive Sh where
 | int (k:IntKind) | bool | str | ptr | sl (R:Nat) | map | fn | ifc | no
inductive Ty where
 | scalar
 | slice (e:TypeId)
 | array (n:Nat) (e:TypeId)
 | struct (fs:List (Nat×TypeId))
 | pointer (e:TypeId)
 | map (k e:TypeId)
 | no
structure TI where
 ty:Ty
 agg:Bool
 size:Nat
 bytes:Nat
 zero:List V
 hz:Bool
 sh:List Sh
def TI.none:TI:=⟨.no,false,0,0,[],false,[]⟩
def TI.known (i:TI):Bool:=match i.ty with | .no=>false | _=>true
def TI.cell (i:TI):Sh:=match i.agg,i.known,i.sh with
 | false,true,[s]=>s
 | _,_,_ => .no
mutual
def ofValue:Value->V
 | .int k n => .int k n
 | .bool b => .bool b
 | .string s => .str s
 | .pointer .none => .ptr none
 | .slice .none n c=>match n,c with | 0,0 => .sl 0 none 0 (some 0) | _,_ => .any
 | .map .none => .map none
 | .nilFunc => .nilf
 | .nilIface => .nili
 | .agg ⟨cs⟩ => .agg (Gh cs)
 | .tuple ⟨cs⟩ => .tup (Gh cs)
 | _ => .any
def Gh:List Value->List V
 | [] => []
 | v :: r=>ofValue v :: Gh r
end
def AV:V->List V
 | .agg cs=>cs
 | v => [v]
def Cg (s:List (Nat×V)) (t:Nat):V:=match s with
 | [] => .any
 | (u,v) :: r=>match Nat.beq u t with | true=>v | false=>Cg r t
def Ax (s:List (Nat×List V)) (t:Nat):Option (List V):=match s with
 | []=>none
 | (u,v) :: r=>match Nat.beq u t with | true=>some v | false=>Ax r t
def R8 (s:List (Nat×List V)) (t:Nat) (x:List V):List (Nat×List V):=match s with
 | [] => []
 | (u,v) :: r=>match Nat.beq u t with | true=>(u,x) :: r | false=>(u,v) :: R8 r t x
def Ip (ts:List Nat) (s:List (Nat×V)):List (Nat×V):=match ts with
 | [] => []
 | t :: r=>(t,Cg s t) :: Ip r s
def Iz (ts:List Nat) (s:List (Nat×List V)):List (Nat×List V):=match ts with
 | [] => []
 | t :: r=>match Ax s t with | some x=>(t,x) :: Iz r s | none=>Iz r s
def VH (ts:List Nat):V->V
 | .lp u j=>match ts.any (Nat.beq u) with | true => .lp u j | false => .any
 | v=>v
def Mf (ts:List Nat) (s:List (Nat×V)):List (Nat×V):=match s with
 | [] => []
 | (u,v) :: r=>(u,VH ts v) :: Mf ts r
def WQ:V->Bool
 | .lp _ _=>false
 | .any=>false
 | _=>true
def Sn:List V->Bool
 | []=>true
 | v :: r=>match WQ v with | true=>Sn r | false=>false
def Ye:List V->Bool
 | .tup _ :: _=>false
 | _=>true
def Ft (xs:List V) (cs:List V):List V:=match cs with
 | .tup f :: r=>f++(xs++r)
 | _=>xs++cs
def firm:V->Bool
 | .lp _ _=>false
 | .any=>false
 | .agg _=>false
 | .tup _=>false
 | _=>true
def Cm:List V->Bool
 | []=>true
 | v :: r=>match firm v with | true=>Cm r | false=>false
def cut (row:List V) (j n:Nat):Option (List V):=match j with
 | 0=>match n with
  | 0=>some []
  | n+1=>match row with
   | []=>none
   | v :: r=>match cut r 0 n with | some l=>some (v :: l) | none=>none
 | j+1=>match row with
  | []=>none
  | _ :: r=>cut r j n
def paste (row:List V) (j:Nat) (cs:List V):Option (List V):=match j with
 | 0=>match cs with
  | []=>some row
  | c :: cs=>match row with
   | []=>none
   | _ :: r=>match paste r 0 cs with | some l=>some (c :: l) | none=>none
 | j+1=>match row with
  | []=>none
  | v :: r=>match paste r j cs with | some l=>some (v :: l) | none=>none
def Heap.rows? (h:Heap) (b:Nat):Option (List (List V)):=match h[b]? with
 | some (.rows _ _ _ rs)=>some rs
 | _=>none
def Heap.own? (lo:Nat) (e:TypeId) (h:Heap) (b:Nat):Option (List (List V)):=match h[b]? with
 | some (.rows _ el false rs)=>match Nat.ble lo b,Nat.beq el e with | true,true=>some rs | _,_=>none
 | _=>none
def Heap.kv? (h:Heap) (b:Nat):Option (List (V×V)):=match h[b]? with
 | some (.map _ kv)=>some kv
 | _=>none
def NY (s:ByteArray) (q:Int):Option UInt8:=match decide (0<=q) with | true=>s[q.toNat]? | false=>none
def ld (h:Heap) (b i j n:Nat):Option (List V) :=
 (Heap.rows? h b).bind λrs=>(rs[i]?).bind λrow=>cut row j n
def st (lo:Nat) (h:Heap) (b i j:Nat) (cs:List V):Option Heap:=match h[b]? with
 | some (.rows R e false rs)=>match Nat.ble lo b with
  | true=>(rs[i]?).bind λrow=>(paste row j cs).bind λrow'=>some (h.set b (.rows R e false (rs.set i row')))
  | false=>none
 | _=>none
def De (h:Heap) (b i n:Nat):Option (List (List V)) :=
 (Heap.rows? h b).bind λrs=>match Nat.ble (i+n) rs.length with | true=>some ((rs.drop i).take n) | false=>none
def E5 (lo:Nat) (h:Heap) (b i:Nat) (xs:List (List V)):Option Heap:=match h[b]? with
 | some (.rows R e false rs)=>match Nat.ble lo b,Nat.ble (i+xs.length) rs.length with
  | true,true=>some (h.set b (.rows R e false (rs.take i++xs++rs.drop (i+xs.length))))
  | _,_=>none
 | _=>none
section
variable {R:Type}
def br (b:Bool) (x y:Option R):Option R:=match b with | true=>x | false=>y
def X6 (v:V) (f:Int->Option R) (z:(Int->Option R)->Option R):Option R:=match v with
 | .int .u8 n=>f n
 | _=>z f
def eI (k:IntKind) (v:V) (f:Int->Option R):Option R:=match v with
 | .int k' n=>match decide (k'=k) with | true=>f n | false=>none
 | _=>none
def eBv (v:V) (f:Bool->Option R):Option R:=match v with | .bool b=>f b | _=>none
def eB (v:V) (x y:Option R):Option R:=match v with | .bool b=>br b x y | _=>none
def eT (v:V) (f:ByteArray->Option R):Option R:=match v with | .str s=>f s | _=>none
def eS (R':Nat) (v:V) (f:Option (Nat×Nat)->Nat->Option Nat->Option R):Option R:=match v with
 | .sl q a n c=>match a with
  | none=>f none n c
  | some p=>match Nat.beq q R' with | true=>f (some p) n c | false=>none
 | _=>none
def eP (v:V) (f:Option (Nat×Nat×Nat)->Option R):Option R:=match v with | .ptr p=>f p | _=>none
def eM (v:V) (f:Option Nat->Option R):Option R:=match v with | .map p=>f p | _=>none
def eF (v:V) (f:Nat->List V->Option R):Option R:=match v with | .fn g cs=>f g cs | _=>none
def eE (v:V) (f:Nat->V->Option R) (z:Option R):Option R:=match v with | .ifc t x=>f t x | .nili=>z | _=>none
def eA (v:V) (f:List V->Option R):Option R:=match v with | .agg cs=>f cs | _=>none
def eU (v:V) (f:List V->Option R):Option R:=match v with | .tup cs=>f cs | _=>none
def eC (cs:List V) (f:V->List V->Option R):Option R:=match cs with | v :: r=>f v r | []=>none
def eN (cs:List V) (x:Option R):Option R:=match cs with | []=>x | _ :: _=>none
def eO {α:Type} (o:Option α) (f:α->Option R):Option R:=match o with | some x=>f x | none=>none
def UV (o:Option V) (z:V):V:=match o with | some v=>v | none=>z
def eX {α:Type} (o:Option α) (f:α->Option R) (z:Option R):Option R:=match o with | some x=>f x | none=>z
def Al {α:Type} (o:Option (V×α)) (f:V->α->Option R):Option R:=match o with | some (v,h)=>f v h | none=>none
def AM (i:Int) (n:Nat) (f:Option R):Option R:=match decide (0<=i/\i<n) with | true=>f | false=>none
def UC (i:Int) (n:Nat) (f:Option R):Option R:=match decide (0<=i/\i<=n) with | true=>f | false=>none
def A8 (b:Bool) (f:Option R):Option R:=match b with | true=>f | false=>none
theorem Wj:∃ f:ByteArray->ByteArray->(ByteArray->Option R)->Option R,∀ a b k,f a b k=A8 (decide (((a.size+b.size:Nat):Int)<=IntKind.i64.max)) (k (a++b)):=⟨λa b k=>A8 (decide (((a.size+b.size:Nat):Int)<=IntKind.i64.max)) (k (a++b)),λ_ _ _=>rfl⟩
noncomputable def Yr (a b:ByteArray) (f:ByteArray->Option R):Option R:=Classical.choose (Wj (R:=R)) a b f
theorem S1 {a b:ByteArray}{f:ByteArray->Option R}:Yr a b f=A8 (decide (((a.size+b.size:Nat):Int)<=IntKind.i64.max)) (f (a++b)):=Classical.choose_spec (Wj (R:=R)) a b f
def XV (s:Sh) (v:V) (f:V->Option R):Option R:=match s with
 | .int k=>eI k v λn=>f (.int k n)
 | .bool=>eBv v λb=>f (.bool b)
 | .str=>eT v λs=>f (.str s)
 | .ptr=>eP v λp=>f (.ptr p)
 | .sl R'=>eS R' v λa n c=>f (.sl R' a n c)
 | .map=>eM v λp=>f (.map p)
 | .fn=>eF v λg cs=>f (.fn g cs)
 | .ifc=>eE v (λt x=>f (.ifc t x)) (f .nili)
 | .no=>none
def Nr (ss:List Sh) (cs:List V) (f:List V->Option R):Option R:=match ss with
 | []=>eN cs (f [])
 | s :: ss=>eC cs λv r=>XV s v λv=>Nr ss r λl=>f (v :: l)
def No (agg:Bool) (ss:List Sh) (v:V) (f:V->Option R):Option R:=match agg with
 | true=>eA v λcs=>Nr ss cs λl=>f (.agg l)
 | false=>match ss with
  | [.bool]=>eB v (f (.bool true)) (f (.bool false))
  | [s]=>XV s v f
  | _=>none
def Jp (ts:List (Bool×List Sh)) (cs:List V) (f:List V->Option R):Option R:=match ts with
 | []=>eN cs (f [])
 | t :: ts=>eC cs λv r=>No t.1 t.2 v λv=>Jp ts r λl=>f (v :: l)
def UQ (ts:List (Bool×List Sh)) (v:V) (f:V->Option R):Option R:=match ts with
 | [t]=>No t.1 t.2 v f
 | ts=>eU v λcs=>Jp ts cs λl=>f (.tup l)
def FX (agg:Bool) (ss:List Sh) (cs:List V) (f:V->Option R):Option R:=match agg with
 | true=>Nr ss cs λl=>f (.agg l)
 | false=>eC cs λv r=>eN r (No false ss v f)
end
structure St where
 s:List (Nat×V)
 bx:List (Nat×List V)
 h:Heap
structure Ctx where
 ty:TypeId->TI
 cmp:TypeId->Bool
 ret:TypeId->List (Bool×List Sh)
 call:Nat->FuncId->List V->Heap->Option (V×Heap)
 keep:List (Nat×List Nat×List Nat)
 hb:List Nat
 cl:List (Nat×List Nat)
 wide:Bool
def Ctx.narrow (X:Ctx):Ctx:=⟨X.ty,X.cmp,X.ret,X.call,X.keep,X.hb,X.cl,false⟩
def ev (s:List (Nat×V)):Operand->V
 | .tmp t=>Cg s t
 | .const v=>ofValue v
 | .global _ => .any
 | .func f => .fn f []
def JG (s:List (Nat×V)):List Operand->List V
 | [] => []
 | x :: r=>ev s x :: JG s r
def FO:Operand->Bool
 | .const _=>true
 | _=>false
def SP:V->V->Option Bool
 | .int k a,.int k' b=>match decide (k=k') with | true=>some (a==b) | false=>none
 | .bool a,.bool b=>some (a==b)
 | .str a,.str b=>some (a.toList==b.toList)
 | _,_=>none
def DO:List V->List V->Option Bool
 | [],[]=>some true
 | x :: xs,y :: ys=>match SP x y,DO xs ys with
  | some a,some b=>some (a&&b)
  | _,_=>none
 | _,_=>none
def M9:V->V->Option Bool
 | .agg xs,.agg ys=>DO xs ys
 | x,y=>SP x y
def GG:Sh->V->Bool
 | .int k,.int k' _=>decide (k'=k)
 | .bool,.bool _=>true
 | .str,.str _=>true
 | _,_=>false
def Co:List Sh->List V->Bool
 | [],[]=>true
 | s :: ss,v :: vs=>match GG s v with | true=>Co ss vs | false=>false
 | _,_=>false
def TI.one (i:TI) (s:Sh):Bool:=match i.agg,i.known,i.sh with
 | false,true,[s']=>match s,s' with
  | .bool,.bool=>true
  | .sl _,.sl _=>true
  | .ifc,.ifc=>true
  | .str,.str=>true
  | .int k,.int k'=>decide (k=k')
  | _,_=>false
 | _,_,_=>false
section
variable {R:Type}
def eql (X:Ctx) (t:TypeId) (c:Bool) (x y:V) (f:Bool->Option R):Option R:=match x,y with
 | .int a m,.int b n=>A8 (decide (a=b)) (f (m==n))
 | .str s,.str u=>f (s.toList==u.toList)
 | .bool a,.bool b=>A8 ((X.ty t).one .bool) (f (a==b))
 | .sl _ a _ _,.sl _ b _ _=>match b with
  | none=>A8 ((X.ty t).one (.sl 0)) (f a.isNone)
  | some _=>none
 | .ifc _ _,.nili=>A8 ((X.ty t).one .ifc) (f false)
 | .nili,.nili=>A8 ((X.ty t).one .ifc&&c) (f true)
 | .agg xs,.agg ys=>A8 (X.cmp t&&Co (X.ty t).sh xs&&Co (X.ty t).sh ys) (eO (DO xs ys) f)
 | _,_=>none
def Xs (b:Bool) (k:V->Option R):Option R:=br b (k (.bool true)) (k (.bool false))
noncomputable def binOp (X:Ctx) (op:BinOp) (t:TypeId) (c:Bool) (x y:V) (k:V->Option R):Option R:=match op with
 | .eql=>eql X t c x y λb=>Xs b k
 | .neq=>eql X t c x y λb=>br b (k (.bool false)) (k (.bool true))
 | .add=>match x,y with
  | .int a m,.int b n=>A8 (decide (a=b)) (k (.int a (a.wrap (m+n))))
  | .str s,.str t=>Yr s t λr=>k (.str r)
  | _,_=>none
 | .sub=>match x,y with
  | .int a m,.int b n=>A8 (decide (a=b)) (k (.int a (a.wrap (m - n))))
  | _,_=>none
 | .mul=>match x,y with
  | .int a m,.int b n=>A8 (decide (a=b)) (k (.int a (a.wrap (m*n))))
  | _,_=>none
 | .quo=>match x,y with
  | .int a m,.int b n=>A8 (decide (a=b)) (A8 (decide (n≠0)) (k (.int a (a.wrap (m.tdiv n)))))
  | _,_=>none
 | .rem=>match x,y with
  | .int a m,.int b n=>A8 (decide (a=b)) (A8 (decide (n≠0)) (k (.int a (m.tmod n))))
  | _,_=>none
 | .lss=>match x,y with
  | .int a m,.int b n=>A8 (decide (a=b)) (Xs (decide (m<n)) k)
  | _,_=>none
 | .leq=>match x,y with
  | .int a m,.int b n=>A8 (decide (a=b)) (Xs (decide (m<=n)) k)
  | _,_=>none
 | .gtr=>match x,y with
  | .int a m,.int b n=>A8 (decide (a=b)) (Xs (decide (m>n)) k)
  | _,_=>none
 | .geq=>match x,y with
  | .int a m,.int b n=>A8 (decide (a=b)) (Xs (decide (m>=n)) k)
  | _,_=>none
 | .xor=>match x,y with
  | .int a m,.int b n=>A8 (decide (a=b)) (k (.int a (a.wrap (BitVec.ofInt a.bits m ^^^ BitVec.ofInt a.bits n).toNat)))
  | _,_=>none
 | _=>none
def unOp (op:UnOp) (x:V) (k:V->Option R):Option R:=match op with
 | .not=>eBv x λb=>k (.bool (!b))
 | .neg=>match x with | .int a m=>k (.int a (a.wrap (0 - m))) | _=>none
 | _=>none
end
def lay (place:Nat->Option (Nat×Nat)) (cells:List V):List (Nat×V)->Option (List V)
 | []=>some cells
 | (i,v) :: r=>match place i with
  | some (off,size)=>match Nat.beq (AV v).length size with
   | true=>match paste cells off (AV v) with
    | some cells'=>lay place cells' r
    | none=>none
   | false=>none
  | none=>none
def Eh (X:Ctx) (fs:List (Nat×TypeId)) (i:Nat):Option (Nat×Nat):=match fs[i]? with | some f=>some (f.1,(X.ty f.2).size) | none=>none
def FC (X:Ctx):List (Nat×TypeId)->Bool
 | []=>true
 | f :: r=>match (X.ty f.2).known with | true=>FC X r | false=>false
def I9 (size:Nat) (rows:List (List V)):List (Nat×V)->Option (List (List V))
 | []=>some rows
 | (i,v) :: r=>match Nat.blt i rows.length&&Nat.beq (AV v).length size with
  | true=>I9 size (rows.set i (AV v)) r
  | false=>none
def OI (s:List (Nat×V)):List (Nat×Operand)->List (Nat×V)
 | [] => []
 | (i,x) :: r=>(i,ev s x) :: OI s r
def Wv:List (Nat×V)->Bool
 | []=>true
 | (_,v) :: r=>match Cm (AV v) with | true=>Wv r | false=>false
def QR (agg:Bool) (cs:List V):Option V:=match agg with
 | true=>some (.agg cs)
 | false=>match cs with | [v]=>some v | _=>none
def XM (agg:Bool) (cs:List V):V:=match agg with
 | true => .agg cs
 | false=>match cs with | [v]=>v | _ => .any
def L7:Nat:=140737488355328
section
variable {R:Type}
def CJ (lo:Nat) (e:TypeId) (size bytes:Nat) (s:V) (xs:List (List V)) (h:Heap) (k:V->Heap->Option R):Option R:=match s with
 | .sl R' a len cap =>
  match xs with
  | []=>k (.sl R' a len cap) h
  | _ :: _=>A8 (Nat.blt 0 bytes) <| A8 (decide ((len+xs.length)*bytes<=L7)) <| match a with
  | none=>k (.sl size (some (h.length,0)) (len+xs.length) none) (h ++ [.rows size e false xs])
  | some (b,i)=>A8 (Nat.beq R' size) <| match cap with
   | some c=>match Nat.ble (len+xs.length) c with
    | true=>eO (E5 lo h b (i+len) xs) λh'=>k (.sl size a (len+xs.length) cap) h'
    | false=>eO (De h b i len) λold=>k (.sl size (some (h.length,0)) (len+xs.length) none) (h ++ [.rows size e false (old++xs)])
   | none=>eO (Heap.own? lo e h b) λrs=>match Nat.ble (i+len+xs.length) rs.length with
    | true=>eO (E5 lo h b (i+len) xs) λh'=>k (.sl size a (len+xs.length) cap) h'
    | false=>A8 (Nat.beq i 0) <| eO (De h b i len) λold =>
      k (.sl size (some (h.length,0)) (len+xs.length) none) (h.set b .dead ++ [.rows size e false (old++xs)])
 | _=>none
def Eu (s:ByteArray):List (List V):=s.data.toList.map λb => [.int .u8 (b.toNat:Int)]
def Ap (size:Nat) (h:Heap) (v:V) (k:List (List V)->Option R):Option R:=match v with
 | .sl R' a n _=>match a with
  | none=>k []
  | some (b,i)=>A8 (Nat.beq R' size) <| match n with
   | 0=>k []
   | n+1=>eO (De h b i (n+1)) k
 | .str s=>k (Eu s)
 | _=>none
def HD:List (List V)->Option (List Int)
 | []=>some []
 | [.int k n] :: r=>match k with
  | .u8=>match HD r with | some l=>some (n :: l) | none=>none
  | _=>none
 | _=>none
def PN (ns:List Int):ByteArray:=ns.foldl (λr n=>r.push (UInt8.ofNat n.toNat)) ByteArray.empty
def E8 (len:Nat) (cap:Option Nat) (m:Option V) (f:Option Nat->Option R):Option R:=match m with
 | none=>f cap
 | some mv=>eI .i64 mv λn=>match cap with
  | some c=>UC n c (f (some n.toNat))
  | none=>UC n len (f (some n.toNat))
def Ic (noMax:Bool) (len:Nat) (cap:Option Nat) (hi:Option V) (f:Nat->Option R):Option R:=match hi with
 | none=>match noMax with | true=>f len | false=>none
 | some hv=>eI .i64 hv λn=>match cap with
  | some c=>UC n c (f n.toNat)
  | none=>UC n len (f n.toNat)
def Nk (a:Option (Nat×Nat)) (h:Nat) (cap:Option Nat) (n:Nat) (k:Option (Nat×Nat)->Nat->Option Nat->Option R):Option R:=match a with
 | none=>k none 0 (some 0)
 | some (b,i)=>match cap with
  | some c=>br (Nat.beq c n) (k (some (b,i)) (h - n) (some 0)) (k (some (b,i+n)) (h - n) (some (c - n)))
  | none=>k (some (b,i+n)) (h - n) none
def IX (a:Option (Nat×Nat)) (h:Nat) (cap:Option Nat) (l:Option V) (k:Option (Nat×Nat)->Nat->Option Nat->Option R):Option R:=match l with
 | none=>k a h cap
 | some lv=>eI .i64 lv λn=>UC n h <| Nk a h cap n.toNat k
def Ay (a:Option (Nat×Nat)) (len:Nat) (cap:Option Nat) (l hi m:Option V) (k:Option (Nat×Nat)->Nat->Option Nat->Option R):Option R :=
 E8 len cap m λcap'=>Ic m.isNone len cap' hi λh=>IX a h cap' l k
def O4 (h:Heap) (a:Option (Nat×Nat)) (n:Nat) (c:Option Nat):Nat:=match c with
 | some _=>n
 | none=>match a with
  | none=>n
  | some (b,i)=>match Heap.rows? h b with
   | some rs=>Nat.max n (rs.length - i)
   | none=>n
def FI (wide:Bool) (h:Heap) (a:Option (Nat×Nat)) (n:Nat) (c:Option Nat) (hi:Option V):Nat:=match wide with
 | false=>n
 | true=>match hi with
  | none=>n
  | some _=>O4 h a n c
def Qg (s:ByteArray) (h:Nat) (l:Option V) (k:V->Option R):Option R:=match l with
 | none=>k (.str (s.extract 0 h))
 | some lv=>eI .i64 lv λn=>UC n h (k (.str (s.extract n.toNat h)))
def Ga (s:ByteArray) (l hi:Option V) (k:V->Option R):Option R :=
 Ic true s.size (some s.size) hi λh=>Qg s h l k
def Ww (s:List (Nat×V)):Option Operand->Option V
 | none=>none
 | some x=>some (ev s x)
def Io (X:Ctx) (k:TypeId) (v:V):Bool:=match v with
 | .agg cs=>X.cmp k&&Co (X.ty k).sh cs
 | v=>GG (X.ty k).cell v
def EI (key:V):List (V×V)->Option (Option V)
 | []=>some none
 | (x,v) :: r=>match M9 key x with
  | some true=>some (some v)
  | some false=>EI key r
  | none=>none
def Gi (key val:V):List (V×V)->Option (List (V×V))
 | []=>some [(key,val)]
 | (x,v) :: r=>match M9 key x with
  | some true=>some ((key,val) :: r)
  | some false=>match Gi key val r with | some l=>some ((x,v) :: l) | none=>none
  | none=>none
def Sr (xs:List V) (m:Int) (k:V->Option R):Option R:=match xs with
 | []=>k (.int .i64 m)
 | v :: r=>eI .i64 v λn=>Sr r (if n>m then n else m) k
def Sp (xs:List V) (m:Int) (k:V->Option R):Option R:=match xs with
 | []=>k (.int .i64 m)
 | v :: r=>eI .i64 v λn=>Sp r (if n<m then n else m) k
def Ym (lo R' size:Nat) (ok:Bool) (zero:List V) (h:Heap) (a:Option (Nat×Nat)) (n:Nat) (k:Heap->Option R):Option R:=match a with
 | none=>k h
 | some (b,i)=>A8 (Nat.beq R' size&&ok) <| eO (E5 lo h b i (List.replicate n zero)) k
def S4 (X:Ctx) (lo:Nat) (b:Builtin) (ts:List TypeId) (vs:List V) (h:Heap) (k:V->Heap->Option R):Option R:=match b with
 | .len=>match vs,ts with
  | [v],[t]=>match v with
   | .str s=>A8 ((X.ty t).one .str) (k (.int .i64 (s.size:Nat)) h)
   | .sl _ _ n _=>match (X.ty t).ty with
    | .slice _=>k (.int .i64 (n:Nat)) h
    | _=>none
   | .map r=>match (X.ty t).ty with
    | .map _ _=>eO r λb=>eO (Heap.kv? h b) λkv=>k (.int .i64 (kv.length:Nat)) h
    | _=>none
   | _=>match (X.ty t).ty with
    | .array n _=>k (.int .i64 (n:Nat)) h
    | .pointer e=>match (X.ty e).ty with
     | .array n _=>k (.int .i64 (n:Nat)) h
     | _=>none
    | _=>none
  | _,_=>none
 | .cap=>match vs,ts with
  | [.sl _ _ _ c],[t]=>match (X.ty t).ty with
   | .slice _=>eO c λc=>k (.int .i64 (c:Nat)) h
   | _=>none
  | _,_=>none
 | .append=>match vs,ts with
  | [s,x],[t,u]=>match (X.ty t).ty with
   | .slice e=>A8 ((X.ty e).known&&(X.ty e).hz&&Cm (X.ty e).zero) <| match (X.ty u).ty with
    | .slice _=>match x with
     | .sl _ _ _ _=>Ap (X.ty e).size h x λxs=>CJ lo e (X.ty e).size (X.ty e).bytes s xs h λv h=>eS (X.ty e).size v λa n c=>k (.sl (X.ty e).size a n c) h
     | _=>none
    | .scalar=>match x with
     | .str _=>A8 ((X.ty u).one .str&&Nat.beq (X.ty e).size 1) <| Ap (X.ty e).size h x λxs=>CJ lo e (X.ty e).size (X.ty e).bytes s xs h λv h=>eS (X.ty e).size v λa n c=>k (.sl (X.ty e).size a n c) h
     | .int .i64 m=>A8 ((X.ty u).one (.int .i64)&&Nat.blt 0 (X.ty e).bytes) <| A8 (decide (0<=m/\m*((X.ty e).bytes:Nat)<=140737488355328)) <| CJ lo e (X.ty e).size (X.ty e).bytes s (List.replicate m.toNat (X.ty e).zero) h λv h=>eS (X.ty e).size v λa n c=>k (.sl (X.ty e).size a n c) h
     | _=>none
    | _=>none
   | _=>none
  | _,_=>none
 | .max=>match vs with
  | v :: r=>eI .i64 v λm=>Sr r m λv=>k v h
  | _=>none
 | .min=>match vs with
  | v :: r=>eI .i64 v λm=>Sp r m λv=>k v h
  | _=>none
 | .clear=>match vs,ts with
  | [.sl R' a n _],[t]=>match (X.ty t).ty with
   | .slice e=>Ym lo R' (X.ty e).size ((X.ty e).hz&&Cm (X.ty e).zero) (X.ty e).zero h a n λh'=>k (.tup []) h'
   | _=>none
  | _,_=>none
 | _=>none
noncomputable def opT (X:Ctx) (lo:Nat) (d:Option Nat) (ty:TypeId) (o:Op) (σ:St) (k:V->St->Option R):Option R:=match o with
 | .move x=>k (ev σ.s x) σ
 | .assign x=>k (ev σ.s x) σ
 | .pick c a b=>eBv (ev σ.s c) λt=>br t (k (ev σ.s a) σ) (k (ev σ.s b) σ)
 | .alloc e=>match d,(X.ty e).known&&(X.ty e).hz&&Cm (X.ty e).zero with
  | none,_=>none
  | some _,false=>none
  | some t,true=>match X.hb.any (Nat.beq t) with
   | true=>k (.ptr (some (σ.h.length,0,0))) { σ with h:=σ.h ++ [.rows (X.ty e).size e false [(X.ty e).zero]] }
   | false=>match Ax σ.bx t with
    | some _=>none
    | none=>k (.lp t 0) { σ with bx:=(t,(X.ty e).zero) :: σ.bx }
 | .box e x=>match d with
  | none=>none
  | some t=>match Cm (AV (ev σ.s x)) with
   | true=>match Nat.beq (AV (ev σ.s x)).length (X.ty e).size with
    | true=>match X.hb.any (Nat.beq t) with
     | true=>k (.ptr (some (σ.h.length,0,0))) { σ with h:=σ.h ++ [.rows (X.ty e).size e false [AV (ev σ.s x)]] }
     | false=>match Ax σ.bx t with
      | some _=>none
      | none=>k (.lp t 0) { σ with bx:=(t,AV (ev σ.s x)) :: σ.bx }
    | false=>none
   | false=>none
 | .build t ps=>match Wv (OI σ.s ps.toList)&&(X.ty t).hz&&Cm (X.ty t).zero with
  | true=>match (X.ty t).ty with
   | .struct fs=>A8 (FC X fs) <| eO (lay (Eh X fs) (X.ty t).zero (OI σ.s ps.toList)) λcs=>k (.agg cs) σ
   | .array _ e=>A8 (X.ty e).known <| eO (lay (λi=>some (i*(X.ty e).size,(X.ty e).size)) (X.ty t).zero (OI σ.s ps.toList)) λcs=>k (.agg cs) σ
   | _=>none
  | false=>none
 | .buildSlice t n ps=>match Wv (OI σ.s ps.toList) with
  | true=>match (X.ty t).ty with
   | .slice e=>match (X.ty e).known&&(X.ty e).hz&&Cm (X.ty e).zero&&Nat.ble (n*(X.ty e).size) 16777216 with
    | true=>eO (I9 (X.ty e).size (List.replicate n (X.ty e).zero) (OI σ.s ps.toList)) λrows =>
     k (.sl (X.ty e).size (some (σ.h.length,0)) n (some n)) { σ with h:=σ.h ++ [.rows (X.ty e).size e false rows] }
    | false=>none
   | _=>none
  | false=>none
 | .load t a=>match (X.ty t).known with
  | false=>none
  | true=>match ev σ.s a with
  | .lp u j=>match Ax σ.bx u with
   | some row=>eO (cut row j (X.ty t).size) λcs=>eO (QR (X.ty t).agg cs) λv=>k v σ
   | none=>none
  | .ptr p=>eO p λ(b,i,j)=>eO (ld σ.h b i j (X.ty t).size) λcs=>FX (X.ty t).agg (X.ty t).sh cs λv=>k v σ
  | _=>none
 | .store t a x=>match (X.ty t).known&&Cm (AV (ev σ.s x)) with
  | true=>match Nat.beq (AV (ev σ.s x)).length (X.ty t).size with
   | true=>match ev σ.s a with
    | .lp u j=>match Ax σ.bx u with
     | some row=>match paste row j (AV (ev σ.s x)) with
      | some row'=>k (.tup []) { σ with bx:=R8 σ.bx u row' }
      | none=>none
     | none=>none
    | .ptr p=>eO p λ(b,i,j)=>eO (st lo σ.h b i j (AV (ev σ.s x))) λh'=>k (.tup []) { σ with h:=h' }
    | _=>none
   | false=>none
  | false=>none
 | .nilCheck x=>match ev σ.s x with
  | .lp u j=>k (.lp u j) σ
  | .ptr p=>eO p λq=>k (.ptr (some q)) σ
  | .fn f cs=>k (.fn f cs) σ
  | _=>none
 | .binOp op t x y _=>binOp X op t (FO x || FO y) (ev σ.s x) (ev σ.s y) λv=>k v σ
 | .unOp op _ x=>unOp op (ev σ.s x) λv=>k v σ
 | .convert u t x=>match (X.ty u).known with
  | true=>match ev σ.s x with
   | .int _ n=>match (X.ty t).cell with
    | .int a=>k (.int a (a.wrap n)) σ
    | _=>none
   | .str s=>match (X.ty t).cell with
    | .str=>k (.str s) σ
    | _=>none
   | .sl R' a n c=>match (X.ty u).ty,(X.ty t).cell with
    | .slice e,.str=>match (X.ty e).cell with
     | .int .u8=>Ap 1 σ.h (.sl R' a n c) λrows=>eO (HD rows) λns=>k (.str (PN ns)) σ
     | _=>none
    | _,_=>none
   | _=>none
  | false=>none
 | .makeFunc f fst cs=>match f,fst.toList with
  | .func g,[]=>match Sn (JG σ.s cs.toList)&&Ye (JG σ.s cs.toList) with
   | true=>k (.fn g (JG σ.s cs.toList)) σ
   | false=>none
  | .func g,x :: xs=>match Sn (JG σ.s (x :: xs))&&Sn (JG σ.s cs.toList) with
   | true=>k (.fn g (.tup (JG σ.s (x :: xs)) :: JG σ.s cs.toList)) σ
   | false=>none
  | _,_=>none
 | .makeSlice t l c=>match (X.ty t).ty with
  | .slice e=>eI .i64 (ev σ.s l) λn=>eI .i64 (ev σ.s c) λm =>
    A8 ((X.ty e).known&&(X.ty e).hz&&Cm (X.ty e).zero) <|
    A8 (decide (0<=n/\n<=m/\m<=140737488355328/\m*((X.ty e).bytes:Nat)<=281474976710656)) <|
    k (.sl (X.ty e).size (some (σ.h.length,0)) n.toNat (some m.toNat)) { σ with h:=σ.h ++ [.rows (X.ty e).size e false (List.replicate m.toNat (X.ty e).zero)] }
  | _=>none
 | .slice t x l hi m=>match ev σ.s x with
  | .str s=>match m with
   | none=>A8 ((X.ty t).one .str) <| Ga s (Ww σ.s l) (Ww σ.s hi) λv=>eT v λs=>k (.str s) σ
   | some _=>none
  | .sl R' a n c=>match (X.ty t).ty with
   | .slice e=>A8 ((Nat.beq R' (X.ty e).size || a.isNone)&&(X.ty e).known) <| Ay a (FI X.wide σ.h a n c (Ww σ.s hi)) c (Ww σ.s l) (Ww σ.s hi) (Ww σ.s m) λa n c=>k (.sl (X.ty e).size a n c) σ
   | _=>none
  | _=>none
 | .fieldAddr t x f=>match (X.ty t).ty with
  | .struct fs=>match fs[f]? with
   | some g=>match (X.ty g.2).known&&Nat.blt 0 (X.ty g.2).size with
    | true=>match ev σ.s x with
     | .lp u j=>k (.lp u (j+g.1)) σ
     | .ptr p=>eO p λ(b,i,j)=>k (.ptr (some (b,i,j+g.1))) σ
     | _=>none
    | false=>none
   | none=>none
  | _=>none
 | .field t x f=>match (X.ty t).ty with
  | .struct fs=>match fs[f]? with
   | some g=>match (X.ty g.2).known with
    | true=>match ev σ.s x with
     | .agg cs=>eO (cut cs g.1 (X.ty g.2).size) λcs=>eO (QR (X.ty g.2).agg cs) λv=>k v σ
     | _=>none
    | false=>none
   | none=>none
  | _=>none
 | .indexAddr t x i=>match ev σ.s x with
  | .sl R' a n _=>match (X.ty t).ty with
   | .slice e=>eI .i64 (ev σ.s i) λq=>AM q n <| eO a λ(b,r)=>A8 (Nat.beq R' (X.ty e).size&&(X.ty e).known) <| k (.ptr (some (b,r+q.toNat,0))) σ
   | _=>none
  | .lp u j=>match (X.ty t).ty with
   | .array n e=>eI .i64 (ev σ.s i) λq=>AM q n <| A8 (X.ty e).known <| k (.lp u (j+q.toNat*(X.ty e).size)) σ
   | _=>none
  | .ptr p=>match (X.ty t).ty with
   | .array n e=>eO p λ(b,r,j)=>eI .i64 (ev σ.s i) λq=>AM q n <| A8 (X.ty e).known <| k (.ptr (some (b,r,j+q.toNat*(X.ty e).size))) σ
   | _=>none
  | _=>none
 | .index t x i=>match ev σ.s x with
  | .str s=>A8 ((X.ty t).one .str) <| X6 (ev σ.s i) (λq=>eO (NY s q) λc=>k (.int .u8 (c.toNat:Nat)) σ) λf=>eI .i64 (ev σ.s i) f
  | .agg cs=>match (X.ty t).ty with
   | .array n e=>eI .i64 (ev σ.s i) λq=>AM q n <| A8 (X.ty e).known <| eO (cut cs (q.toNat*(X.ty e).size) (X.ty e).size) λcs=>FX (X.ty e).agg (X.ty e).sh cs λv=>k v σ
   | _=>none
  | _=>none
 | .lookup t m i ok=>match (X.ty t).ty with
  | .map q e=>match ev σ.s m,Io X q (ev σ.s i)&&(X.ty e).hz&&(X.ty e).known with
   | .map r,true=>eO r λb=>eO (Heap.kv? σ.h b) λkv=>eO (EI (ev σ.s i) kv) λf=>match ok with
    | true=>eX f (λv=>No (X.ty e).agg (X.ty e).sh v λv=>k (.tup [v,.bool true]) σ) (k (.tup [XM (X.ty e).agg (X.ty e).zero,.bool false]) σ)
    | false=>No (X.ty e).agg (X.ty e).sh (UV f (XM (X.ty e).agg (X.ty e).zero)) λv=>k v σ
   | _,_=>none
  | _=>none
 | .mapUpdate t m i x=>match (X.ty t).ty with
  | .map q _=>match ev σ.s m,WQ (ev σ.s x)&&Io X q (ev σ.s i) with
   | .map r,true=>eO r λb=>eO (Heap.kv? σ.h b) λkv=>A8 (Nat.ble lo b) <| eO (Gi (ev σ.s i) (ev σ.s x) kv) λkv'=>k (.tup []) { σ with h:=σ.h.set b (.map t kv') }
   | _,_=>none
  | _=>none
 | .insert t m i x=>match (X.ty t).ty with
  | .map q _=>match ev σ.s m,WQ (ev σ.s x)&&Io X q (ev σ.s i) with
   | .map r,true=>eO r λb=>eO (Heap.kv? σ.h b) λkv=>A8 (Nat.ble lo b) <| eO (Gi (ev σ.s i) (ev σ.s x) kv) λkv'=>k (.tup []) { σ with h:=σ.h.set b (.map t kv') }
   | _,_=>none
  | _=>none
 | .makeMap t r=>match r with
  | none=>k (.map (some σ.h.length)) { σ with h:=σ.h ++ [.map t []] }
  | some _=>none
 | .extract x i=>match ev σ.s x with
  | .tup cs=>match cs[i]? with
   | some v=>k v σ
   | none=>none
  | _=>none
 | .call c=>match Sn (JG σ.s c.args.toList) with
  | true=>match c.callee with
   | .value f=>match ev σ.s f with
    | .fn g cs=>Al (X.call lo g (Ft (JG σ.s c.args.toList) cs) σ.h) λv h=>UQ (X.ret ty) v λv=>k v { σ with h:=h }
    | _=>none
   | .builtin b=>S4 X lo b c.argTypes.toList (JG σ.s c.args.toList) σ.h λv h=>k v { σ with h:=h }
   | .invoke _ _=>none
  | false=>none
 | _=>none
def putS (σ:St) (d:Option Nat) (v:V):St:=match d with
 | some t=>{ σ with s:=(t,v) :: σ.s }
 | none=>σ
def CU (o:Oper):Bool:=match o.op with
 | .move _ | .assign _ | .pick .. | .fieldAddr .. | .indexAddr .. | .nilCheck _ | .binOp .. | .unOp .. | .extract .. | .build .. | .slice .. | .field .. | .index .. | .makeFunc .. => true
 | .convert .. => false
 | .call c=>match c.callee with
  | .builtin .cap | .builtin .max | .builtin .min=>true
  | _=>false
 | _=>false
def Yu (o:Oper):Bool:=match o.op with | .load .. => true | _=>false
def Dw (o:Oper):Bool:=match o.op with
 | .store .. | .mapUpdate .. | .insert .. => true
 | .call c=>match c.callee with
  | .builtin .clear | .builtin .copy | .builtin .delete=>true
  | _=>false
 | _=>false
def B3 (e:Edge):Bool:=match e.ground with | .textOnly _=>false | .gcOnly _=>false | _=>true
def FT (acc:List Nat):List Edge->Nat
 | []=>0
 | e :: r=>match B3 e with
  | true=>Nat.lor (Nat.lor (Nat.shiftLeft 1 e.on) (acc.getD e.on 0)) (FT acc r)
  | false=>FT acc r
def AN (acc:List Nat):List Oper->List Nat
 | []=>acc
 | o :: r=>AN (acc ++ [FT acc o.after.toList]) r
def EM (M:List Nat) (i j:Nat):Bool:=match (M.getD i 0).testBit j with | true=>true | false=>(M.getD j 0).testBit i
def Ht:List Operand->List Nat
 | [] => []
 | .tmp t :: r=>t :: Ht r
 | _ :: r=>Ht r
def Rb (all:List Oper) (o:Oper):List Nat:=match o.guard with
 | none => []
 | some (j,_)=>match all[j]? with | some g=>g.dst.toList | none => []
def O7 (all:List Oper) (o:Oper):List Nat:=Rb all o++Ht o.op.operands.toList
def CA (all:List Oper) (o:Oper):List Nat:=o.dst.toList++O7 all o
def GV (l:List (Nat×List Nat)) (id i:Nat):Bool:=match l with
 | []=>false
 | (u,xs) :: r=>match Nat.beq u id with | true=>xs.any (Nat.beq i) | false=>GV r id i
def Ci (o:Oper):Option Nat:=match o.op with | .load _ (.tmp a)=>some a | _=>none
def FK (o:Oper):Option (Nat×TypeId):=match o.op with
 | .alloc e=>match o.dst with
  | some t=>some (t,e)
  | none=>none
 | _=>none
def CV (cl:Nat->Bool) (i:Nat) (o:Oper):Option (Nat×TypeId):=match cl i with
 | true=>FK o
 | false=>none
def D9 (X:Ctx) (cl:Nat->Bool):Nat->List Oper->List (Nat×List V)->Option (List (Nat×List V))
 | _,[],bx=>some bx
 | i,o :: r,bx=>match CV cl i o with
  | none=>D9 X cl (i+1) r bx
  | some (t,e)=>match (X.ty e).known&&(X.ty e).hz&&Cm (X.ty e).zero,X.hb.any (Nat.beq t),Ax bx t with
   | true,false,none=>D9 X cl (i+1) r ((t,(X.ty e).zero) :: bx)
   | _,_,_=>none
def Fq (M:List Nat) (all:List Oper) (cl:Nat->Bool) (i:Nat):Bool :=
 (all.zipIdx).all λp=>Nat.beq p.2 i || CU p.1 || EM M i p.2 || cl p.2
def Ep (o:Oper):Bool:=match o.op with | .store .. => true | _=>false
def Yg:V->Bool
 | .lp _ _=>true
 | _=>false
def Hl (all:List Oper) (a n:Nat):Bool:=(all.zipIdx).all λq=>Nat.blt q.2 n || !(q.1.dst.toList.any (Nat.beq a))
def SZ (M:List Nat) (all:List Oper) (i:Nat) (o:Oper):Bool:=match Ci o with
 | some a=>Hl all a i&&(all.zipIdx).all λp => !Ep p.1 || EM M p.2 i || Hl all a p.2
 | none=>match FK o with
  | some _=>Nat.beq (M.getD i 0) 0&&o.guard.isNone
  | none=>false
def TE (M:List Nat) (all:List Oper) (cl:Nat->Bool) (i a:Nat):Bool:=(all.zipIdx).all λp=>CU p.1 || cl p.2 || EM M p.2 i || Hl all a p.2 || !Fq M all cl p.2
def OL (s:List (Nat×V)) (M:List Nat) (all:List Oper) (cl:Nat->Bool):Bool :=
 (all.zipIdx).all λp => !cl p.2 || match Ci p.1 with | some a=>TE M all cl p.2 a || Yg (Cg s a) | none=>(FK p.1).isSome
def DD (M:List Nat) (all:List Oper) (cl:Nat->Bool) (j:Nat):Nat->List Oper->List Oper
 | _,[] => []
 | i,p :: r=>match cl i with
  | false=>DD M all cl j (i+1) r
  | true=>match EM M j i with
   | true=>DD M all cl j (i+1) r
   | false=>match Ci p with
    | none=>match FK p with
     | some _=>p :: DD M all cl j (i+1) r
     | none=>DD M all cl j (i+1) r
    | some a=>match Hl all a j with
     | false=>DD M all cl j (i+1) r
     | true=>p :: DD M all cl j (i+1) r
def PJ (M:List Nat) (all:List Oper) (cl:Nat->Bool) (j:Nat):List Oper:=match all[j]? with
 | none => []
 | some o=>match CU o with
  | true => []
  | false=>match cl j with
   | true => []
   | false=>DD M all cl j 0 all
noncomputable def Tf (a b:Option (List V)):Bool:=open Classical in decide (a=b)
noncomputable def chkT (X:Ctx) (o:Oper) (σ σ':St):List Oper->Option R->Option R
 | [],k=>k
 | p :: r,k=>match p.op with
  | .load t x=>match ev σ.s x with
   | .lp u _=>match o.op with
    | .store _ y _=>match ev σ.s y with
     | .lp u' _=>match Nat.beq u' u with
      | true=>none
      | false=>chkT X o σ σ' r k
     | .ptr _=>chkT X o σ σ' r k
     | _=>none
    | _=>chkT X o σ σ' r k
   | .ptr q=>eO q λ(b,i,j)=>match o.op with
    | .store _ y _=>match ev σ.s y with
     | .lp _ _=>chkT X o σ σ' r k
     | _=>A8 (Tf (ld σ.h b i j (X.ty t).size) (ld σ'.h b i j (X.ty t).size)) (chkT X o σ σ' r k)
    | _=>A8 (Tf (ld σ.h b i j (X.ty t).size) (ld σ'.h b i j (X.ty t).size)) (chkT X o σ σ' r k)
   | _=>none
  | .alloc _=>match p.dst with
   | some t=>match o.op with
    | .store _ y _=>match ev σ.s y with
     | .lp u' _=>match Nat.beq u' t with
      | true=>none
      | false=>chkT X o σ σ' r k
     | .ptr _=>chkT X o σ σ' r k
     | _=>none
    | _=>chkT X o σ σ' r k
   | none=>none
  | _=>none
def Wf (a b:List Nat):Bool:=a.all λx => !(b.any (Nat.beq x))
def PC (M:List Nat) (all:List Oper) (cl:Nat->Bool):Bool :=
 (all.zipIdx).all λp =>
  (!cl p.2 || SZ M all p.2 p.1) &&
  (!Dw p.1 || Fq M all cl p.2) &&
  (p.1.after.toList.all λe => !B3 e || Nat.blt e.on p.2) &&
  (match p.1.guard with | none=>true | some (j,_)=>(M.getD p.2 0).testBit j) &&
  (all.zipIdx).all λq => !Nat.blt p.2 q.2 || EM M p.2 q.2 || (Wf p.1.dst.toList (CA all q.1)&&Wf q.1.dst.toList (CA all p.1))
def EK (all:List Oper) (s:List (Nat×V)) (g:Option (Nat×Bool)) (run skip:Option R):Option R:=match g with
 | none=>run
 | some (j,want)=>match all[j]? with
  | none=>none
  | some g=>match g.dst with
   | none=>none
   | some t=>match Cg s t with
    | .bool b=>match want with
     | true=>br b run skip
     | false=>br b skip run
    | .tup _=>skip
    | _=>none
noncomputable def opsT (X:Ctx) (lo:Nat) (all:List Oper) (calm:Nat->Bool) (ck:Nat->List Oper) (al:Nat->Bool):Nat->List Oper->St->(St->Option R)->Option R
 | _,[],σ,k=>k σ
 | i,o :: r,σ,k=>match CV al i o with
  | some (t,_)=>opsT X lo all calm ck al (i+1) r (putS σ o.dst (.lp t 0)) k
  | none=>EK all σ.s o.guard
   (match calm i with
    | true=>opT X σ.h.length o.dst o.type o.op σ λv σ=>opsT X lo all calm ck al (i+1) r (putS σ o.dst v) k
    | false=>opT X lo o.dst o.type o.op σ λv σ'=>chkT X o σ σ' (ck i) (opsT X lo all calm ck al (i+1) r (putS σ' o.dst v) k))
   (opsT X lo all calm ck al (i+1) r (putS σ o.dst (.tup [])) k)
end
inductive Ex where
 | normal
 | exit (id:Nat)
 | ret
def JX (ks:List (Nat×List Nat×List Nat)) (id:Nat):List Nat×List Nat:=match ks with
 | []=>([],[])
 | (u,x) :: r=>match Nat.beq u id with | true=>x | false=>JX r id
def norm (X:Ctx) (id:Nat) (σ:St):St :=
 ⟨Mf (JX X.keep id).2 (Ip (JX X.keep id).1 σ.s),Iz (JX X.keep id).2 σ.bx,σ.h⟩
noncomputable def Ie {α:Type} (g:Nat->Option α):Option α :=
 open Classical in if h:∃ r,∃ n,∀ m,n<=m->g m=some r then some (Classical.choose h) else none
section
variable {R:Type}
def XS (_c:Code) (_id:Nat) (f:St->(Ex->St->Option R)->Option R) (k:Ex->St->Option R):Ex->St->Option R
 | .normal,σ=>f σ k
 | e,σ=>k e σ
def DY (id:Nat) (k:Ex->St->Option R):Ex->St->Option R
 | .exit j,σ=>match Nat.beq j id with | true=>k .normal σ | false=>k (.exit j) σ
 | e,σ=>k e σ
end
def Fl (X:Ctx) (id:Nat) (e:Ex) (σ:St):Option (Ex×St):=some (e,norm X id σ)
def rounds (body:St->Option (Ex×St)):Nat->St->Option (Ex×St)
 | 0,_=>none
 | n+1,σ=>(body σ).bind λp=>match p.1 with
  | .normal=>rounds body n p.2
  | e=>some (e,p.2)
def XO (o:Option (Ex×St)) {R:Type} (f:Ex->St->Option R):Option R:=match o with | some (e,σ)=>f e σ | none=>none
noncomputable def Dn (_c:Code) (_id:Nat) (body:St->Option (Ex×St)) (σ:St):Option (Ex×St):=Ie λn=>rounds body n σ
noncomputable def exec (X:Ctx) (lo:Nat) {R:Type}:Code->Nat->St->(Ex->St->Option R)->Option R
 | .skip,_,σ,k=>k .normal σ
 | .region rid ops draw,_,σ,k=>match draw with
  | false=>opsT X lo ops.toList (λ_=>false) (λ_ => []) (λ_=>false) 0 ops.toList σ λσ=>k .normal σ
  | true=>match PC (AN [] ops.toList) ops.toList (GV X.cl rid) with
   | true=>eO (D9 X.narrow (GV X.cl rid) 0 ops.toList σ.bx) λbx=>opsT X.narrow lo ops.toList (λi => !Fq (AN [] ops.toList) ops.toList (GV X.cl rid) i) (PJ (AN [] ops.toList) ops.toList (GV X.cl rid)) (GV X.cl rid) 0 ops.toList ⟨σ.s,bx,σ.h⟩ λσ=>match OL σ.s (AN [] ops.toList) ops.toList (GV X.cl rid) with
    | true=>k .normal σ
    | false=>none
   | false=>none
 | .seq a b,id,σ,k=>exec X lo a id σ (XS b id (λσ k=>exec X lo b id σ k) k)
 | .cond c a b,id,σ,k=>eBv (ev σ.s c) λt=>br t (exec X lo a id σ k) (exec X lo b id σ k)
 | .block j b,_,σ,k=>exec X lo b j σ (DY j k)
 | .loop b,id,σ,k=>XO (Dn b id (λσ=>exec X lo b id σ (Fl X id)) (norm X id σ)) k
 | .exit j,_,σ,k=>k (.exit j) σ
 | .ret,_,σ,k=>k .ret σ
 | _,_,_,_=>none
def N8 (X:Ctx) (σ:St):ResultVar->Option V
 | .tmp t=>match WQ (Cg σ.s t) with | true=>some (Cg σ.s t) | false=>none
 | .cell a t=>match Cg σ.s a with
  | .lp u j=>match Ax σ.bx u with
   | some row=>match cut row j (X.ty t).size with
    | some cs=>match (X.ty t).known with | true=>QR (X.ty t).agg cs | false=>none
    | none=>none
   | none=>none
  | .ptr p=>match (X.ty t).known with | false=>none | true=>p.bind λ(b,i,j)=>(ld σ.h b i j (X.ty t).size).bind λcs=>FX (X.ty t).agg (X.ty t).sh cs λv=>some v
  | _=>none
def Kz (X:Ctx) (σ:St):List ResultVar->Option (List V)
 | []=>some []
 | r :: rs=>match N8 X σ r with
  | some v=>match Kz X σ rs with
   | some vs=>some (v :: vs)
   | none=>none
  | none=>none
def Sg (X:Ctx) (rs:List ResultVar) (σ:St):Option (V×Heap):=match Kz X σ rs with
 | some vs=>match vs with
  | [v]=>some (v,σ.h)
  | vs=>some (.tup vs,σ.h)
 | none=>none
def VI (X:Ctx) (rs:List ResultVar):Ex->St->Option (V×Heap)
 | .normal,σ=>Sg X rs σ
 | .ret,σ=>Sg X rs σ
 | .exit _,_=>none
def FA:Nat->List V->List (Nat×V)
 | _,[] => []
 | i,v :: r=>(i,v) :: FA (i+1) r
mutual
def noId:V->Bool
 | .int _ _=>true
 | .bool _=>true
 | .str _=>true
 | .agg cs=>noIds cs
 | .tup cs=>noIds cs
 | .nilf=>true
 | .nili=>true
 | _=>false
def noIds:List V->Bool
 | []=>true
 | v :: r=>match noId v with | true=>noIds r | false=>false
end
structure Info where
 ty:TypeId->TI
 cmp:TypeId->Bool
 ret:TypeId->List (Bool×List Sh)
 keep:FuncId->List (Nat×List Nat×List Nat)
 hb:FuncId->List Nat
 cl:FuncId->List (Nat×List Nat)
 drop:FuncId->Bool
 wide:FuncId->Bool
def Info.ctx (I:Info) (call:Nat->FuncId->List V->Heap->Option (V×Heap)) (f:FuncId):Ctx :=
 ⟨I.ty,I.cmp,I.ret,call,I.keep f,I.hb f,I.cl f,I.wide f⟩
noncomputable def fnT (I:Info) (fn:Func) (call:Nat->FuncId->List V->Heap->Option (V×Heap)) (lo:Nat) (f:FuncId) (args:List V) (h:Heap):Option (V×Heap) :=
 match fn.body with
 | none=>none
 | some c=>exec (I.ctx call f) lo c 0 ⟨FA 0 args,[],h⟩ (VI (I.ctx call f) fn.results.toList)
def Xy (d:Bool) (lo:Nat) (h:Heap):Nat:=match d with
 | false=>lo
 | true=>h.length
def TL (d:Bool) (h:Heap) (p:V×Heap):Option (V×Heap):=match d with
 | false=>some p
 | true=>match noId p.1 with
  | true=>some (p.1,h)
  | false=>none
noncomputable def Hx (P:Program) (I:Info):Nat->Nat->FuncId->List V->Heap->Option (V×Heap)
 | 0,_,_,_,_=>none
 | n+1,lo,f,args,h=>match P.funcs[f]? with
  | none=>none
  | some fn=>(fnT I fn (Hx P I n) (Xy (I.drop f) lo h) f args h).bind (TL (I.drop f) h)
noncomputable def eval (P:Program) (I:Info) (lo:Nat) (f:FuncId) (args:List V) (h:Heap):Option (V×Heap) :=
 Ie λn=>Hx P I n lo f args h
end Go.Proofs.YtoocmbhkaghgnaaGreat.T
namespace Go.Proofs.YtoocmbhkaghgnaaGreat.T
open Go
def C0 (P:Program):Nat->TypeId->List Sh
 | 0,_ => [.no]
 | n+1,t=>match P.underlying t with
  | some (.int k) => [.int k]
  | some .bool => [.bool]
  | some .string => [.str]
  | some (.pointer _) => [.ptr]
  | some (.slice e) => [.sl (match P.info? e with | some i=>i.size | none=>0)]
  | some (.map _ _) => [.map]
  | some (.func _ _ _) => [.fn]
  | some (.interface _) => [.ifc]
  | some (.struct fs)=>fs.toList.flatMap λf=>C0 P n f.type
  | some (.array m e)=>(List.replicate m (C0 P n e)).flatten
  | _ => [.no]
def Ke:TypeDesc->Bool
 | .struct _=>true
 | .array _ _=>true
 | _=>false
def Ly:Bool->Value->Bool
 | true,.agg _=>true
 | true,_=>false
 | false,.agg _=>false
 | false,_=>true
def Az (P:Program) (t:TypeId):TI:=match P.info? t with
 | none=>TI.none
 | some i=>match P.underlying t with
  | none=>TI.none
  | some d =>
   {ty:=match d with
     | .slice e => .slice e
     | .array n e => .array n e
     | .struct fs => .struct (fs.toList.map λf=>(f.offset,f.type))
     | .pointer e => .pointer e
     | .map k e => .map k e
     | .int _ | .bool | .string | .func _ _ _ | .interface _ => .scalar
     | _ => .no
    agg:=Ke d
    size:=i.size
    bytes:=i.bytes
    zero:=match i.zero with | some v=>AV (ofValue v) | none => []
    hz:=match i.zero with | some v=>Nat.beq v.cells.size i.size&&Ly (Ke d) v | none=>false
    sh:=C0 P 8 t }
def Yd (P:Program) (t:TypeId):List (Bool×List Sh):=match P.underlying t with
 | some (.tuple ts)=>ts.toList.map λt=>((Az P t).agg,(Az P t).sh)
 | some _ => [((Az P t).agg,(Az P t).sh)]
 | none => []
structure Hint where
 keep:List (Nat×List Nat×List Nat) := []
 hb:List Nat := []
 cl:List (Nat×List Nat) := []
 drop:Bool:=false
 wide:Bool:=false
def JY (H:List (Nat×Hint)) (f:Nat):Hint:=match H with
 | []=>{}
 | (u,x) :: r=>match Nat.beq u f with | true=>x | false=>JY r f
def Sy (P:Program) (C:List Nat) (H:List (Nat×Hint)):Info :=
 {ty:=Az P,cmp:=λt=>C.any (Nat.beq t),ret:=Yd P,keep:=λf=>(JY H f).keep,hb:=λf=>(JY H f).hb,cl:=λf=>(JY H f).cl,drop:=λf=>(JY H f).drop,wide:=λf=>(JY H f).wide }
def cl:Code->Code | .seq a _=>a | c=>c
def cr:Code->Code | .seq _ b=>b | c=>c
def cb:Code->Code | .block _ b=>b | .loop b=>b | c=>c
def ct:Code->Code | .cond _ a _=>a | c=>c
def ce:Code->Code | .cond _ _ b=>b | c=>c
def code (fn:Func):Code:=match fn.body with | some c=>c | none => .skip
noncomputable def YB (X:Ctx) (lo:Nat) (c:Code) (id:Nat):St->Option (Ex×St):=λσ=>exec X lo c id σ (Fl X id)
noncomputable def kS {R:Type} (X:Ctx) (lo:Nat) (c:Code) (id:Nat) (k:Ex->St->Option R):Ex->St->Option R:=XS c id (λσ k=>exec X lo c id σ k) k
noncomputable def YC (X:Ctx) (lo:Nat) (c:Code) (id:Nat) (σ:St):Option (Ex×St):=Dn c id (YB X lo c id) σ
end Go.Proofs.YtoocmbhkaghgnaaGreat.T
namespace Go.Proofs.YtoocmbhkaghgnaaGreat.T
open Go
variable {x:V}{y:Value}{xs:List V}{ys:List Value}{w w':World}{h:Heap}{bx:List (Nat×List V)}{v:Value}{s:List (Nat×V)}{a:Act}
structure E where
 r:Nat
 o:Nat
 R:Nat
 n:Nat
 m:Nat
abbrev Rho:=Nat->Option E
abbrev Bet:=Nat->Option Nat
def WZ (cs:List V) (fst cps:Array Value) (ys:List Value):Prop:=match cs with
 | .tup _ :: _=>ys = .tuple fst :: cps.toList
 | _=>fst = #[]/\ys=cps.toList
mutual
def VR (ρ:Rho):V->Value->Prop
 | .int k n,v=>v = .int k n
 | .bool b,v=>v = .bool b
 | .str s,v=>v = .string s
 | .ptr p,v=>match p with
  | none=>v = .pointer none
  | some (b,i,j)=>∃ e,ρ b=some e/\v = .pointer (some ⟨e.r,e.o+(i*e.R+j),none⟩)
 | .lp _ _,_=>False
 | .sl R a n c,v=>match a with
  | none=>n=0/\c=some 0/\v = .slice none 0 0
  | some (b,i)=>∃ e x cc,ρ b=some e/\e.R=R/\v = .slice (some x) n cc/\(cc=0\/x=⟨e.r,e.o+i*e.R,none⟩)/\n<=cc/\(∀ y,c=some y->cc=y)/\(c=none->i+cc=e.m/\e.o=0)
 | .map p,v=>match p with
  | none=>v = .map none
  | some b=>∃ e,ρ b=some e/\v = .map (some e.r)
 | .fn f cs,v=>∃ fst cps ys,v = .func (.func f) fst cps/\WZ cs fst cps ys/\VRs ρ cs ys
 | .nilf,v=>v = .nilFunc
 | .ifc t x,v=>∃ y,v = .iface t y/\VR ρ x y
 | .nili,v=>v = .nilIface
 | .agg cs,v=>∃ ys,v = .agg ys/\VRs ρ cs ys.toList
 | .tup cs,v=>∃ ys,v = .tuple ys/\VRs ρ cs ys.toList
 | .any,_=>True
def VRs (ρ:Rho):List V->List Value->Prop
 | [],ys=>ys = []
 | x :: xs,ys=>∃ y r,ys=y :: r/\VR ρ x y/\VRs ρ xs r
end
def Rle (ρ ρ':Rho):Prop:=∀ b e,ρ b=some e->ρ' b=some e
def Ble (β β':Bet):Prop:=∀ b e,β b=some e->β' b=some e
theorem Rle.refl (ρ:Rho):Rle ρ ρ:=λ_ _ h=>h
theorem Rle.trans {a b c:Rho} (h:Rle a b) (k:Rle b c):Rle a c:=λx e hx=>k x e (h x e hx)
theorem Ble.refl (ρ:Bet):Ble ρ ρ:=λ_ _ h=>h
theorem Ble.trans {a b c:Bet} (h:Ble a b) (k:Ble b c):Ble a c:=λx e hx=>k x e (h x e hx)
mutual
theorem VR.mono {ρ ρ':Rho} (hr:Rle ρ ρ'):∀ (x:V) (v:Value),VR ρ x v->VR ρ' x v
 | .int _ _,_,h=>by simpa [VR] using h
 | .bool _,_,h=>by simpa [VR] using h
 | .str _,_,h=>by simpa [VR] using h
 | .ptr none,_,h=>by simpa [VR] using h
 | .ptr (some (b,i,j)),_,h=>by simp only[VR] at h ⊢;obtain ⟨e,he,hv⟩:=h;exact ⟨e,hr _ _ he,hv⟩
 | .lp _ _,_,h=>by simp[VR] at h
 | .sl _ none _ _,_,h=>by simpa [VR] using h
 | .sl _ (some (b,i)) _ _,_,h=>by simp only[VR] at h ⊢;obtain ⟨e,x,cc,he,hv⟩:=h;exact ⟨e,x,cc,hr _ _ he,hv⟩
 | .map none,_,h=>by simpa [VR] using h
 | .map (some b),_,h=>by simp only[VR] at h ⊢;obtain ⟨e,he,hv⟩:=h;exact ⟨e,hr _ _ he,hv⟩
 | .fn _ cs,_,h=>by simp only[VR] at h ⊢;obtain ⟨fst,cps,ys,hv,hi,hc⟩:=h;exact ⟨fst,cps,ys,hv,hi,VRs.mono hr cs _ hc⟩
 | .nilf,_,h=>by simpa [VR] using h
 | .ifc _ x,_,h=>by simp only[VR] at h ⊢;obtain ⟨y,hv,hc⟩:=h;exact ⟨y,hv,VR.mono hr x _ hc⟩
 | .nili,_,h=>by simpa [VR] using h
 | .agg cs,_,h=>by simp only[VR] at h ⊢;obtain ⟨ys,hv,hc⟩:=h;exact ⟨ys,hv,VRs.mono hr cs _ hc⟩
 | .tup cs,_,h=>by simp only[VR] at h ⊢;obtain ⟨ys,hv,hc⟩:=h;exact ⟨ys,hv,VRs.mono hr cs _ hc⟩
 | .any,_,_=>by simp[VR]
theorem VRs.mono {ρ ρ':Rho} (hr:Rle ρ ρ'):∀ (xs:List V) (vs:List Value),VRs ρ xs vs->VRs ρ' xs vs
 | [],_,h=>by simpa [VRs] using h
 | x :: xs,_,h=>by simp only[VRs] at h ⊢;obtain ⟨y,r,hy,h1,h2⟩:=h;exact ⟨y,r,hy,VR.mono hr x _ h1,VRs.mono hr xs _ h2⟩
end
section
variable {ρ:Rho}
theorem VRs.nil:VRs ρ [] []:=by simp[VRs]
theorem VRs.cons (h:VR ρ x y) (k:VRs ρ xs ys):VRs ρ (x :: xs) (y :: ys):=by simp only[VRs];exact ⟨y,ys,rfl,h,k⟩
theorem VRs.uncons (h:VRs ρ (x :: xs) (y :: ys)):VR ρ x y/\VRs ρ xs ys:=by simp only[VRs] at h;obtain ⟨_,_,he,h1,h2⟩:=h;injection he with e1 e2;subst e1;subst e2;exact ⟨h1,h2⟩
theorem VRs.length:∀ {xs:List V}{ys:List Value},VRs ρ xs ys->xs.length=ys.length
 | [],ys,h=>by simp only[VRs] at h;subst h;rfl
 | x :: xs,ys,h=>by simp only[VRs] at h;obtain ⟨_,_,rfl,_,h2⟩:=h;simp[VRs.length h2]
theorem VRs.get:∀ {xs:List V}{ys:List Value},VRs ρ xs ys->∀ (j:Nat) (x:V),xs[j]?=some x->∃ y,ys[j]?=some y/\VR ρ x y
 | [],ys,h,j,x,hx=>by simp at hx
 | x :: xs,ys,h,j,z,hz=>by
  simp only[VRs] at h;obtain ⟨y,r,rfl,h1,h2⟩:=h;cases j with
  | zero=>simp at hz;subst hz;exact ⟨y,by simp,h1⟩
  | succ j=>simpa using VRs.get h2 j z (by simpa using hz)
theorem VRs.of_get:∀ {xs:List V}{ys:List Value},xs.length=ys.length->(∀ (j:Nat) (x:V),xs[j]?=some x->∃ y,ys[j]?=some y/\VR ρ x y)->VRs ρ xs ys
 | [],ys,hl,_=>by have:ys = []:=YM (by simpa using hl.symm);subst this;exact VRs.nil
 | x :: xs,[],hl,_=>by simp at hl
 | x :: xs,y :: ys,hl,h=>by obtain ⟨y',h1,h2⟩:=h 0 x (by simp);simp at h1;subst h1;exact VRs.cons h2 (VRs.of_get (by simpa using hl) λj z hz=>by simpa using h (j+1) z (by simpa using hz))
theorem VRs.append {xs':List V}{ys':List Value} (h:VRs ρ xs ys) (k:VRs ρ xs' ys'):VRs ρ (xs++xs') (ys++ys'):=by
 induction xs generalizing ys with
 | nil=>simp only[VRs] at h;subst h;simpa using k
 | cons x xs ih =>simp only[VRs] at h;obtain ⟨y,r,rfl,h1,h2⟩:=h;exact VRs.cons h1 (ih h2)
theorem VRs.drop {xs:List V}{ys:List Value} (h:VRs ρ xs ys) (n:Nat):VRs ρ (xs.drop n) (ys.drop n):=by refine VRs.of_get (by simp[h.length]) λj x hx=>?_;rw[Zc] at hx ⊢;exact h.get _ x hx
theorem VRs.take {xs:List V}{ys:List Value} (h:VRs ρ xs ys) (n:Nat):VRs ρ (xs.take n) (ys.take n):=by
 refine VRs.of_get (by simp[h.length]) λj x hx=>?_;rw[ZH] at hx ⊢;split at hx
 ·rw[if_pos ‹_›];exact h.get _ x hx
 ·simp at hx
end
theorem HB:∀ {row:List V}{j n:Nat}{cs:List V},cut row j n=some cs->j+n<=row.length/\cs=(row.drop j).take n
 | row,0,0,cs,h=>by simp[cut] at h;subst h;simp
 | [],0,n+1,cs,h=>by simp[cut] at h
 | v :: r,0,n+1,cs,h=>by
  simp only[cut] at h;split at h
  ·rename_i l hl
   injection h with h;subst h;obtain ⟨h1,h2⟩:=HB hl;exact ⟨by simp;omega,by simp[h2]⟩
  ·cases h
 | [],j+1,n,cs,h=>by simp[cut] at h
 | _ :: r,j+1,n,cs,h=>by simp only[cut] at h;obtain ⟨h1,h2⟩:=HB h;exact ⟨by simp;omega,by simp[h2]⟩
theorem Ej:∀ {row:List V}{j:Nat}{cs row':List V},paste row j cs=some row'->j+cs.length<=row.length/\row'=row.take j++cs++row.drop (j+cs.length)
 | row,0,[],row',h=>by simp[paste] at h;subst h;simp
 | [],0,c :: cs,row',h=>by simp[paste] at h
 | v :: r,0,c :: cs,row',h=>by
  simp only[paste] at h;split at h
  ·rename_i l hl
   injection h with h;subst h;obtain ⟨h1,h2⟩:=Ej hl;exact ⟨by simp;omega,by simp[h2]⟩
  ·cases h
 | [],j+1,cs,row',h=>by simp[paste] at h
 | v :: r,j+1,cs,row',h=>by
  simp only[paste] at h;split at h
  ·rename_i l hl
   injection h with h;subst h;obtain ⟨h1,h2⟩:=Ej hl;exact ⟨by simp;omega,by simp[h2,show j+1+cs.length=(j+cs.length)+1 by omega]⟩
  ·cases h
def KVR (ρ:Rho):List (V×V)->List MapEntry->Prop
 | [],es=>es = []
 | (k,v) :: r,es=>∃ e t,es=e :: t/\VR ρ k e.key/\VR ρ v e.val/\KVR ρ r t
theorem KVR.mono {ρ ρ':Rho} (hr:Rle ρ ρ'):∀ (kv:List (V×V)) (es:List MapEntry),KVR ρ kv es->KVR ρ' kv es
 | [],_,h=>by simpa [KVR] using h
 | (k,v) :: r,_,h=>by simp only[KVR] at h ⊢;obtain ⟨e,t,he,h1,h2,h3⟩:=h;exact ⟨e,t,he,VR.mono hr _ _ h1,VR.mono hr _ _ h2,KVR.mono hr r t h3⟩
def RowsR (ρ:Rho) (R o:Nat) (rs:List (List V)) (cs:Array Value):Prop :=
 ∀ i row,rs[i]?=some row->row.length=R/\∀ j v,row[j]?=some v->∃ c,cs[o+(i*R+j)]?=some c/\VR ρ v c
def OneCells (cs:Array Value):Prop:=∀ (j:Nat) (c:Value),cs[j]?=some c->c.oneCell'=true
def Yq (o k:Nat) (cs:Array Value):Prop:=∀ (j:Nat) (c:Value),o<=j->j<o+k->cs[j]?=some c->c.oneCell'=true
def BR (ρ:Rho) (e:E):Blk->World->Prop
 | .rows R el ro rs,w=>∃ cs fr,w.heap[e.r]?=some (.cells cs el fr)/\(ro=false->fr=(0,0)/\e.o=0)/\e.R=R/\e.n=rs.length/\e.n<=e.m/\e.o+e.m*R<=cs.size/\RowsR ρ R e.o rs cs/\(OneCells cs\/(ro=true/\Yq e.o (rs.length*R) cs))
 | .map _ kv,w=>∃ es clock,w.heap[e.r]?=some (.map es clock)/\KVR ρ kv es.toList
 | .dead,_=>True
theorem RowsR.mono {ρ ρ':Rho} (hr:Rle ρ ρ') {R o:Nat}{rs:List (List V)}{cs:Array Value} (h:RowsR ρ R o rs cs):RowsR ρ' R o rs cs:=λi row hi =>
 ⟨(
  h i row hi).1,λj v hv=>by
  obtain ⟨c,h1,h2⟩:=(h i row hi).2 j v hv;exact ⟨c,h1,VR.mono hr _ _ h2⟩⟩
theorem BR.mono {ρ ρ':Rho} (hr:Rle ρ ρ') {e:E}{w w':World} (hw:w'.heap[e.r]?=w.heap[e.r]?):∀ {k:Blk},BR ρ e k w->BR ρ' e k w'
 | .rows R el ro rs,h=>by obtain ⟨cs,fr,h1,h2,h3,h4,h5,h6,h7,h8⟩:=h;exact ⟨cs,fr,hw.trans h1,h2,h3,h4,h5,h6,h7.mono hr,h8⟩
 | .map _ kv,h=>by obtain ⟨es,cl,h1,h2⟩:=h;exact ⟨es,cl,hw.trans h1,KVR.mono hr _ _ h2⟩
 | .dead,_=>trivial
def Bn (h:Heap) (b:Nat):Prop:=h[b]?=some .dead
def Mh (h:Heap) (b:Nat):Prop:=∃ R e rs,h[b]?=some (.rows R e true rs)
structure HRel (ρ:Rho) (h:Heap) (w:World):Prop where
 dom:∀ b e,ρ b=some e->b<h.length/\e.r<w.heap.size
 blk:∀ b e k,ρ b=some e->h[b]?=some k->BR ρ e k w
 inj:∀ b b' e e',ρ b=some e->ρ b'=some e'->e.r=e'.r->b≠b'->Bn h b\/Bn h b'\/(Mh h b/\Mh h b')
structure FRel (ρ:Rho) (β:Bet) (bx:List (Nat×List V)) (w:World):Prop where
 has:∀ t r,β t=some r->∃ row cs el,Ax bx t=some row/\w.heap[r]?=some (.cells cs el (0,0))/\VRs ρ row cs.toList
 lt:∀ t r,β t=some r->r<w.heap.size
 inj:∀ t t' r,β t=some r->β t'=some r->t=t'
 off:∀ t r b e,β t=some r->ρ b=some e->e.r≠r
structure Ext (lo base:Nat) (ρ:Rho) (h:Heap) (w:World) (ρ':Rho) (h':Heap) (w':World):Prop where
 rle:Rle ρ ρ'
 new:∀ b e,ρ b=none->ρ' b=some e->h.length<=b/\(base<=e.r\/∃ b0 e0,ρ b0=some e0/\lo<=b0/\e0.r=e.r)
 frame:∀ r,r<base->(∀ b e,ρ b=some e->lo<=b->e.r≠r)->w'.heap[r]?=w.heap[r]?
 size:w.heap.size<=w'.heap.size
 os:w'.os=w.os
 tape:w'.tape=w.tape
 output:w'.output=w.output
 len:h.length<=h'.length
 pres:∀ b,b<lo->b<h.length->h'[b]?=h[b]?
 tot:∀ b,h.length<=b->b<h'.length->∃ e,ρ' b=some e
theorem Ext.refl (lo base:Nat) (ρ:Rho) (h:Heap) (w:World):Ext lo base ρ h w ρ h w where
 rle:=Rle.refl _
 new:=λb e h1 h2=>by rw[h1] at h2;cases h2
 frame:=λ_ _ _=>rfl
 size:=YH _
 os:=rfl
 tape:=rfl
 output:=rfl
 len:=YH _
 pres:=λ_ _ _=>rfl
 tot:=λb h1 h2=>by omega
theorem Ext.trans {lo base:Nat}{ρ ρ' ρ'':Rho}{h h' h'':Heap}{w w' w'':World} (a:Ext lo base ρ h w ρ' h' w') (b:Ext lo base ρ' h' w' ρ'' h'' w''):Ext lo base ρ h w ρ'' h'' w'' where
 rle:=a.rle.trans b.rle
 new:=λx e h1 h2=>by
  cases hx:ρ' x with
  | some e' =>have:=b.rle x e' hx;rw[this] at h2;injection h2 with h2;subst h2;exact a.new x _ h1 hx
  | none =>
   obtain ⟨h3,h4⟩:=b.new x e hx h2;refine ⟨YD a.len h3,?_⟩;rcases h4 with h4 | ⟨b0,e0,hb0,hlo,hr⟩
   ·exact .inl h4
   ·cases hb:ρ b0 with
    | some e1 =>have:=a.rle b0 e1 hb;rw[this] at hb0;injection hb0 with hb0;subst hb0;exact .inr ⟨b0,_,hb,hlo,hr⟩
    | none =>
     rcases (a.new b0 e0 hb hb0).2 with h5 | ⟨b1,e1,hb1,hlo1,hr1⟩
     ·exact .inl (by omega)
     ·exact .inr ⟨b1,e1,hb1,hlo1,hr1.trans hr⟩
 frame:=λr hr hk=>by
  refine (b.frame r hr λx e hx hlo he=>?_).trans (a.frame r hr hk);cases hb:ρ x with
  | some e1 =>have:=a.rle x e1 hb;rw[this] at hx;injection hx with hx;subst hx;exact hk x _ hb hlo he
  | none =>
   rcases (a.new x e hb hx).2 with h5 | ⟨b1,e1,hb1,hlo1,hr1⟩
   ·omega
   ·exact hk b1 e1 hb1 hlo1 (hr1.trans he)
 size:=YD a.size b.size
 os:=b.os.trans a.os
 tape:=b.tape.trans a.tape
 output:=b.output.trans a.output
 len:=YD a.len b.len
 pres:=λx h1 h2=>(b.pres x h1 (YT h2 a.len)).trans (a.pres x h1 h2)
 tot:=λx h1 h2=>by
  by_cases hx:x<h'.length
  ·obtain ⟨e,he⟩:=a.tot x h1 hx;exact ⟨e,b.rle x e he⟩
  ·exact b.tot x (by omega) h2
theorem Ext.weaken {lo lo' base base':Nat}{ρ ρ':Rho}{h':Heap} (a:Ext lo base ρ h w ρ' h' w') (hl:lo'<=lo) (hb:base'<=base):Ext lo' base' ρ h w ρ' h' w' where
 rle:=a.rle
 new:=λb e h1 h2=>by obtain ⟨h3,h4⟩:=a.new b e h1 h2;exact ⟨h3,h4.imp (YD hb) λ⟨b0,e0,hb,hlo,hr⟩=>⟨b0,e0,hb,YD hl hlo,hr⟩⟩
 frame:=λr hr hk=>a.frame r (YT hr hb) λb e hb hlo=>hk b e hb (YD hl hlo)
 size:=a.size
 os:=a.os
 tape:=a.tape
 output:=a.output
 len:=a.len
 pres:=λb h1 h2=>a.pres b (YT h1 hl) h2
 tot:=a.tot
theorem HRel.drew {ρ:Rho}{h:Heap}{w:World} (a:HRel ρ h w):HRel ρ h w.drew :=
 ⟨a.dom,λb e k h1 h2=>BR.mono (w:=w) (w':=w.drew) (Rle.refl _) rfl (a.blk b e k h1 h2),a.inj⟩
theorem FRel.drew {ρ:Rho}{β:Bet}{bx:List (Nat×List V)}{w:World} (a:FRel ρ β bx w):FRel ρ β bx w.drew:=⟨a.has,a.lt,a.inj,a.off⟩
theorem FRel.ext {lo:Nat}{ρ ρ':Rho}{β:Bet}{h':Heap} (a:FRel ρ β bx w) (x:Ext lo w.heap.size ρ h w ρ' h' w'):FRel ρ' β bx w' where
 has:=λt r h1=>by obtain ⟨row,cs,el,h0,h2,h3⟩:=a.has t r h1;refine ⟨row,cs,el,h0,?_,VRs.mono x.rle _ _ h3⟩;rw[x.frame r (a.lt t r h1) λb e hb _=>a.off t r b e h1 hb];exact h2
 lt:=λt r h1=>YT (a.lt t r h1) x.size
 inj:=a.inj
 off:=λt r b e h1 hb=>by
  cases hx:ρ b with
  | some e1 =>have:=x.rle b e1 hx;rw[this] at hb;injection hb with hb;subst hb;exact a.off t r b _ h1 hx
  | none =>
   have hl:=a.lt t r h1;rcases (x.new b e hx hb).2 with h5 | ⟨b1,e1,hb1,_,hr1⟩
   ·omega
   ·have:=a.off t r b1 e1 h1 hb1;omega
def SV (ρ:Rho) (β:Bet) (x:V) (v:Value):Prop:=match x with
 | .lp t j=>∃ r,β t=some r/\v = .pointer (some ⟨r,j,none⟩)
 | x=>VR ρ x v
theorem SV.of {ρ:Rho}{β:Bet} (h:VR ρ x v):SV ρ β x v:=by cases x<;>first | exact h | simp[VR] at h
theorem SV.ok {ρ:Rho}{β:Bet} (h:SV ρ β x v) (hx:WQ x=true):VR ρ x v:=by cases x<;>first | exact h | simp[WQ] at hx
theorem SV.mono {ρ ρ':Rho}{β β':Bet}{x:V}{v:Value} (hr:Rle ρ ρ') (hb:Ble β β') (h:SV ρ β x v):SV ρ' β' x v:=by cases x<;>first | exact VR.mono hr _ _ h | (obtain ⟨r,h1,h2⟩:=h;exact ⟨r,hb _ _ h1,h2⟩)
def SRel (ρ:Rho) (β:Bet) (s:List (Nat×V)) (a:Act):Prop:=∀ t,SV ρ β (Cg s t) (a.tmps.getD t undef)
theorem SRel.mono {ρ ρ':Rho}{β β':Bet}{s:List (Nat×V)}{a:Act} (h:SRel ρ β s a) (hr:Rle ρ ρ') (hb:Ble β β'):SRel ρ' β' s a:=λt=>(h t).mono hr hb
theorem Em (u:Nat) (v:V) (s:List (Nat×V)) (t:Nat):Cg ((u,v) :: s) t=if u=t then v else Cg s t:=by
 simp only[Cg];by_cases h:u=t
 ·subst h;simp
 ·have:Nat.beq u t=false:=by
   cases hb:Nat.beq u t with
   | false=>rfl
   | true=>exact absurd (YL hb) h
  simp[this,h]
theorem SRel.put {ρ:Rho}{β:Bet}{σ:St}{a:Act}{d:Option Nat}{v:V}{c:Value} (h:SRel ρ β σ.s a) (hv:SV ρ β v c) (hd:∀ t,d=some t->t<a.tmps.size):SRel ρ β (putS σ d v).s (a.put d c):=by
 intro t;cases d with
 | none=>exact h t
 | some u =>
  have hu:=hd u rfl;simp only[putS,Act.put,Em];by_cases e:u=t
  ·subst e;simp[hu,hv]
  ·simp only[e,if_false];have:=h t;simpa [ZF,e] using this
theorem VR.any {ρ:Rho} (c:Value):VR ρ .any c:=by simp[VR]
mutual
theorem Dd (ρ:Rho):∀ v:Value,VR ρ (ofValue v) v
 | .int k n=>by simp[ofValue,VR]
 | .bool b=>by simp[ofValue,VR]
 | .string s=>by simp[ofValue,VR]
 | .pointer none=>by simp[ofValue,VR]
 | .pointer (some _)=>by simp[ofValue,VR]
 | .slice none n c=>by simp only[ofValue];split<;>simp[VR]
 | .slice (some _) _ _=>by simp[ofValue,VR]
 | .map none=>by simp[ofValue,VR]
 | .map (some _)=>by simp[ofValue,VR]
 | .nilFunc=>by simp[ofValue,VR]
 | .nilIface=>by simp[ofValue,VR]
 | .agg ⟨cs⟩=>by simp only[ofValue,VR];exact ⟨⟨cs⟩,rfl,GK ρ cs⟩
 | .tuple ⟨cs⟩=>by simp only[ofValue,VR];exact ⟨⟨cs⟩,rfl,GK ρ cs⟩
 | .float _ _=>by simp[ofValue,VR]
 | .complex _ _ _=>by simp[ofValue,VR]
 | .chan _=>by simp[ofValue,VR]
 | .func _ _ _=>by simp[ofValue,VR]
 | .iface _ _=>by simp[ofValue,VR]
theorem GK (ρ:Rho):∀ vs:List Value,VRs ρ (Gh vs) vs
 | []=>by simp[Gh,VRs]
 | v :: r=>by simp only[Gh];exact VRs.cons (Dd ρ v) (GK ρ r)
end
theorem BH {ρ:Rho}{β:Bet} (h:SRel ρ β s a):∀ x:Operand,SV ρ β (ev s x) (a.eval x)
 | .tmp t=>h t
 | .const v=>SV.of (Dd ρ v)
 | .global _=>SV.of (VR.any _)
 | .func f=>SV.of (by simp only[ev,VR,Act.eval,VRs];exact ⟨#[],#[],[],rfl,⟨rfl,rfl⟩,rfl⟩)
theorem Jo {ρ:Rho}{β:Bet}{s:List (Nat×V)}{a:Act} (h:SRel ρ β s a):∀ xs:List Operand,Sn (JG s xs)=true->VRs ρ (JG s xs) (xs.map a.eval)
 | [],_=>by simp[JG,VRs]
 | x :: r,hk=>by
  simp only[JG,Sn] at hk;split at hk
  ·exact VRs.cons ((BH h x).ok ‹_›) (Jo h r hk)
  ·cases hk
end Go.Proofs.YtoocmbhkaghgnaaGreat.T
namespace Go.Proofs.YtoocmbhkaghgnaaGreat.T
open Go
variable {b:Nat}{v:V}{i n:Nat}{cs':List V}{ss:List Sh}{ts:List (Bool×List Sh)}{t:TypeId}{fs:List (Nat×TypeId)}{c:Value}{h:Heap}{w w':World}{lo:Nat}{o:Obj}{rs xs:List (List V)}{el:TypeId}
section
variable {R α:Type}{r:R}
theorem GW {b:Bool}{x y:Option R} (h:br b x y=some r):(b=true/\x=some r)\/(b=false/\y=some r):=by cases b<;>simp[br] at h<;>simp[h]
theorem At {b:Bool}{x:Option R} (h:A8 b x=some r):b=true/\x=some r:=by cases b<;>simp[A8] at h<;>simp[h]
theorem CH {k:IntKind}{f:Int->Option R} (h:eI k v f=some r):∃ n,v = .int k n/\f n=some r:=by
 unfold eI at h;split at h
 ·rename_i k' n
  by_cases hk:k'=k
  ·subst hk;simp at h;exact ⟨n,rfl,h⟩
  ·simp[hk] at h
 ·cases h
theorem V2 {f:Int->Option R} (h:X6 v f (λf=>eI .i64 v f)=some r):∃ k n,v = .int k n/\f n=some r:=by
 unfold X6 at h;split at h
 ·exact ⟨_,_,rfl,h⟩
 ·obtain ⟨n,h1,h2⟩:=CH h;exact ⟨_,n,h1,h2⟩
theorem Jr {f:Bool->Option R} (h:eBv v f=some r):∃ b,v = .bool b/\f b=some r:=by
 unfold eBv at h;split at h
 ·exact ⟨_,rfl,h⟩
 ·cases h
theorem Xg {x y:Option R} (h:eB v x y=some r):(v = .bool true/\x=some r)\/(v = .bool false/\y=some r):=by
 unfold eB at h;split at h
 ·rename_i b;cases b<;>simp[br] at h<;>simp[h]
 ·cases h
theorem TG {f:ByteArray->Option R} (h:eT v f=some r):∃ s,v = .str s/\f s=some r:=by
 unfold eT at h;split at h
 ·exact ⟨_,rfl,h⟩
 ·cases h
theorem TJ {q:Nat}{f:Option (Nat×Nat)->Nat->Option Nat->Option R} (h:eS q v f=some r):∃ q' a n c,v = .sl q' a n c/\(a=none\/q'=q)/\f a n c=some r:=by
 unfold eS at h;split at h
 ·rename_i q' a n c
  split at h
  ·exact ⟨_,_,_,_,rfl,.inl rfl,h⟩
  ·split at h
   ·rename_i hb;exact ⟨_,_,_,_,rfl,.inr (YL hb),h⟩
   ·cases h
 ·cases h
theorem W7 {f:Option (Nat×Nat×Nat)->Option R} (h:eP v f=some r):∃ p,v = .ptr p/\f p=some r:=by
 unfold eP at h;split at h
 ·exact ⟨_,rfl,h⟩
 ·cases h
theorem Xa {f:Option Nat->Option R} (h:eM v f=some r):∃ p,v = .map p/\f p=some r:=by
 unfold eM at h;split at h
 ·exact ⟨_,rfl,h⟩
 ·cases h
theorem Xc {f:Nat->List V->Option R} (h:eF v f=some r):∃ g cs,v = .fn g cs/\f g cs=some r:=by
 unfold eF at h;split at h
 ·exact ⟨_,_,rfl,h⟩
 ·cases h
theorem Xe {f:Nat->V->Option R}{z:Option R} (h:eE v f z=some r):(∃ t x,v = .ifc t x/\f t x=some r)\/(v = .nili/\z=some r):=by
 unfold eE at h;split at h
 ·exact .inl ⟨_,_,rfl,h⟩
 ·exact .inr ⟨rfl,h⟩
 ·cases h
theorem Xi {f:List V->Option R} (h:eA v f=some r):∃ cs,v = .agg cs/\f cs=some r:=by
 unfold eA at h;split at h
 ·exact ⟨_,rfl,h⟩
 ·cases h
theorem W4 {f:List V->Option R} (h:eU v f=some r):∃ cs,v = .tup cs/\f cs=some r:=by
 unfold eU at h;split at h
 ·exact ⟨_,rfl,h⟩
 ·cases h
theorem PA {cs:List V}{f:V->List V->Option R} (h:eC cs f=some r):∃ v l,cs=v :: l/\f v l=some r:=by
 unfold eC at h;split at h
 ·exact ⟨_,_,rfl,h⟩
 ·cases h
theorem Py {cs:List V}{x:Option R} (h:eN cs x=some r):cs = []/\x=some r:=by
 unfold eN at h;split at h
 ·exact ⟨rfl,h⟩
 ·cases h
theorem AF {o:Option α}{f:α->Option R} (h:eO o f=some r):∃ x,o=some x/\f x=some r:=by
 unfold eO at h;split at h
 ·exact ⟨_,rfl,h⟩
 ·cases h
theorem TF {o:Option α}{f:α->Option R}{z:Option R} (h:eX o f z=some r):(∃ x,o=some x/\f x=some r)\/(o=none/\z=some r):=by
 unfold eX at h;split at h
 ·exact .inl ⟨_,rfl,h⟩
 ·exact .inr ⟨rfl,h⟩
theorem Wm {o:Option (V×α)}{f:V->α->Option R} (h:Al o f=some r):∃ v x,o=some (v,x)/\f v x=some r:=by
 unfold Al at h;split at h
 ·exact ⟨_,_,rfl,h⟩
 ·cases h
theorem Jh {i:Int}{x:Option R} (h:AM i n x=some r):(0<=i/\i<n)/\x=some r:=by
 unfold AM at h;split at h
 ·rename_i hb;exact ⟨of_decide_eq_true hb,h⟩
 ·cases h
theorem Gj {i:Int}{x:Option R} (h:UC i n x=some r):(0<=i/\i<=n)/\x=some r:=by
 unfold UC at h;split at h
 ·rename_i hb;exact ⟨of_decide_eq_true hb,h⟩
 ·cases h
def Le (v v':V):Prop:=∀ ρ c,VR ρ v c->VR ρ v' c
def Les (v v':List V):Prop:=∀ ρ c,VRs ρ v c->VRs ρ v' c
theorem Le.refl (v:V):Le v v:=λ_ _ h=>h
theorem Les.refl (v:List V):Les v v:=λ_ _ h=>h
theorem Le.agg {cs cs':List V} (h:Les cs cs'):Le (.agg cs) (.agg cs'):=λρ c hc=>by simp only[VR] at hc ⊢;obtain ⟨ys,h1,h2⟩:=hc;exact ⟨ys,h1,h ρ _ h2⟩
theorem Le.tup {cs cs':List V} (h:Les cs cs'):Le (.tup cs) (.tup cs'):=λρ c hc=>by simp only[VR] at hc ⊢;obtain ⟨ys,h1,h2⟩:=hc;exact ⟨ys,h1,h ρ _ h2⟩
theorem Les.cons {v':V}{cs:List V} (h:Le v v') (k:Les cs cs'):Les (v :: cs) (v' :: cs'):=λρ c hc=>by simp only[VRs] at hc ⊢;obtain ⟨y,ys,h1,h2,h3⟩:=hc;exact ⟨y,ys,h1,h ρ _ h2,k ρ _ h3⟩
theorem Rs {s:Sh}{f:V->Option R} (h:XV s v f=some r):∃ v',f v'=some r/\Le v v':=by
 cases s<;>simp only[XV] at h
 ·obtain ⟨_,rfl,h'⟩:=CH h;exact ⟨_,h',Le.refl _⟩
 ·obtain ⟨_,rfl,h'⟩:=Jr h;exact ⟨_,h',Le.refl _⟩
 ·obtain ⟨_,rfl,h'⟩:=TG h;exact ⟨_,h',Le.refl _⟩
 ·obtain ⟨_,rfl,h'⟩:=W7 h;exact ⟨_,h',Le.refl _⟩
 ·obtain ⟨q,a,n,c,rfl,hq,h'⟩:=TJ h;refine ⟨_,h',?_⟩;rcases hq with rfl | rfl
  ·intro ρ c hc;simpa [VR] using hc
  ·exact Le.refl _
 ·obtain ⟨_,rfl,h'⟩:=Xa h;exact ⟨_,h',Le.refl _⟩
 ·obtain ⟨_,_,rfl,h'⟩:=Xc h;exact ⟨_,h',Le.refl _⟩
 ·rcases Xe h with ⟨_,_,rfl,h'⟩ | ⟨rfl,h'⟩<;>exact ⟨_,h',Le.refl _⟩
 ·cases h
theorem J7:∀ {ss:List Sh}{cs:List V}{f:List V->Option R},Nr ss cs f=some r->∃ cs',f cs'=some r/\Les cs cs'/\cs'.length=cs.length
 | [],cs,f,h=>by simp only[Nr] at h;obtain ⟨rfl,h'⟩:=Py h;exact ⟨_,h',Les.refl _,rfl⟩
 | s :: ss,cs,f,h=>by simp only[Nr] at h;obtain ⟨v,l,rfl,h'⟩:=PA h;obtain ⟨v',h1,h2⟩:=Rs h';obtain ⟨l',h3,h4,h5⟩:=J7 h1;exact ⟨_,h3,Les.cons h2 h4,by simp[h5]⟩
theorem EY {agg:Bool}{f:V->Option R} (h:No agg ss v f=some r):∃ v',f v'=some r/\Le v v':=by
 unfold No at h;split at h
 ·obtain ⟨cs,rfl,h'⟩:=Xi h;obtain ⟨cs',h1,h2,_⟩:=J7 h';exact ⟨_,h1,Le.agg h2⟩
 ·split at h
  ·rcases Xg h with ⟨rfl,h'⟩ | ⟨rfl,h'⟩<;>exact ⟨_,h',Le.refl _⟩
  ·exact Rs h
  ·cases h
theorem MD:∀ {ts:List (Bool×List Sh)}{cs:List V}{f:List V->Option R},Jp ts cs f=some r->∃ cs',f cs'=some r/\Les cs cs'
 | [],cs,f,h=>by simp only[Jp] at h;obtain ⟨rfl,h'⟩:=Py h;exact ⟨_,h',Les.refl _⟩
 | t :: ts,cs,f,h=>by simp only[Jp] at h;obtain ⟨v,l,rfl,h'⟩:=PA h;obtain ⟨v',h1,h2⟩:=EY h';obtain ⟨l',h3,h4⟩:=MD h1;exact ⟨_,h3,Les.cons h2 h4⟩
theorem UO {f:V->Option R} (h:UQ ts v f=some r):∃ v',f v'=some r/\Le v v':=by
 unfold UQ at h;split at h
 ·exact EY h
 ·obtain ⟨cs,rfl,h'⟩:=W4 h;obtain ⟨cs',h1,h2⟩:=MD h';exact ⟨_,h1,Le.tup h2⟩
theorem Hz {agg:Bool}{cs:List V}{f:V->Option R} (h:FX agg ss cs f=some r):∃ v',f v'=some r/\Le (XM agg cs) v'/\(agg=false->∃ v,cs = [v]):=by
 unfold FX at h;split at h
 ·obtain ⟨cs',h1,h2,_⟩:=J7 h;exact ⟨_,h1,Le.agg h2,λh=>by cases h⟩
 ·obtain ⟨v,l,rfl,h'⟩:=PA h;obtain ⟨rfl,h''⟩:=Py h';obtain ⟨v',h1,h2⟩:=EY h'';exact ⟨_,h1,h2,λ_=>⟨v,rfl⟩⟩
end
section
variable {P:Program}
theorem Ba (h:(Az P t).known=true):∃ i d,P.info? t=some i/\P.underlying t=some d/\(Az P t).size=i.size/\(Az P t).bytes=i.bytes /\
  (Az P t).agg=Ke d/\(Az P t).zero=(match i.zero with | some v=>AV (ofValue v) | none => []) /\
  (Az P t).hz=(match i.zero with | some v=>Nat.beq v.cells.size i.size&&Ly (Ke d) v | none=>false):=by
 unfold Az at h ⊢;cases hi:P.info? t with
 | none=>simp[hi,TI.none,TI.known] at h
 | some i =>
  cases hd:P.underlying t with
  | none=>simp[hi,hd,TI.none,TI.known] at h
  | some d=>exact ⟨i,d,rfl,rfl,rfl,rfl,rfl,rfl,rfl⟩
theorem Dq {e:TypeId} (h:(Az P t).ty = .slice e):P.underlying t=some (.slice e):=by
 unfold Az at h;cases hi:P.info? t with
 | none=>simp[hi,TI.none] at h
 | some i =>
  cases hd:P.underlying t with
  | none=>simp[hi,hd,TI.none] at h
  | some d=>cases d<;>simp[hi,hd] at h;subst h;rfl
theorem JL (h:(Az P t).ty = .struct fs):∃ gs,P.underlying t=some (.struct gs)/\fs=gs.toList.map (λf=>(f.offset,f.type))/\(Az P t).known=true/\(Az P t).agg=true:=by
 unfold Az at h ⊢;cases hi:P.info? t with
 | none=>simp[hi,TI.none] at h
 | some i =>
  cases hd:P.underlying t with
  | none=>simp[hi,hd,TI.none] at h
  | some d=>cases d<;>simp[hi,hd] at h;subst h;exact ⟨_,rfl,rfl,rfl,rfl⟩
theorem Gu {e:TypeId} (h:(Az P t).ty = .array n e):P.underlying t=some (.array n e)/\(Az P t).known=true/\(Az P t).agg=true:=by
 unfold Az at h ⊢;cases hi:P.info? t with
 | none=>simp[hi,TI.none] at h
 | some i =>
  cases hd:P.underlying t with
  | none=>simp[hi,hd,TI.none] at h
  | some d=>cases d<;>simp[hi,hd] at h;obtain ⟨rfl,rfl⟩:=h;exact ⟨rfl,rfl,rfl⟩
theorem Ss {k e:TypeId} (h:(Az P t).ty = .map k e):P.underlying t=some (.map k e):=by
 unfold Az at h;cases hi:P.info? t with
 | none=>simp[hi,TI.none] at h
 | some i =>
  cases hd:P.underlying t with
  | none=>simp[hi,hd,TI.none] at h
  | some d=>cases d<;>simp[hi,hd] at h;obtain ⟨rfl,rfl⟩:=h;rfl
theorem Sk {e:TypeId} (h:(Az P t).ty = .pointer e):P.underlying t=some (.pointer e):=by
 unfold Az at h;cases hi:P.info? t with
 | none=>simp[hi,TI.none] at h
 | some i =>
  cases hd:P.underlying t with
  | none=>simp[hi,hd,TI.none] at h
  | some d=>cases d<;>simp[hi,hd] at h;subst h;rfl
end
theorem Ef (v:Value):(AV (ofValue v)).length=v.cells.size:=by
 have h:=Dd (λ_=>none) v;cases v with
 | agg cs =>simp only[ofValue,VR] at h;obtain ⟨ys,he,hv⟩:=h;injection he with he;subst he;simpa [ofValue,AV,Value.cells] using hv.length
 | slice a n c=>cases a<;>simp only[ofValue]<;>(try split)<;>simp[AV,Value.cells]
 | pointer a=>cases a<;>simp[ofValue,AV,Value.cells]
 | map a=>cases a<;>simp[ofValue,AV,Value.cells]
 | _=>simp[ofValue,AV,Value.cells]
theorem DN {ρ:Rho}{x:V} (h:VR ρ x c) (hx:Cm (AV x)=true):VRs ρ (AV x) c.cells.toList:=by
 cases x with
 | agg cs=>simp only[VR] at h;obtain ⟨ys,rfl,h⟩:=h;simpa [AV,Value.cells] using h
 | any=>simp[AV,Cm,firm] at hx
 | int k n=>simp only[VR] at h;subst h;exact VRs.cons (by simp[VR]) VRs.nil
 | bool n=>simp only[VR] at h;subst h;exact VRs.cons (by simp[VR]) VRs.nil
 | str n=>simp only[VR] at h;subst h;exact VRs.cons (by simp[VR]) VRs.nil
 | lp _ _=>simp[AV,Cm,firm] at hx
 | tup _=>simp[AV,Cm,firm] at hx
 | nilf=>simp only[VR] at h;subst h;exact VRs.cons (by simp[VR]) VRs.nil
 | nili=>simp only[VR] at h;subst h;exact VRs.cons (by simp[VR]) VRs.nil
 | ptr p =>
  have h':=h;have:c.cells = #[c]:=by
   cases p with
   | none=>simp only[VR] at h;subst h;rfl
   | some q=>obtain ⟨b,i,j⟩:=q;simp only[VR] at h;obtain ⟨e,_,rfl⟩:=h;rfl
  rw[this];exact VRs.cons h' VRs.nil
 | map p =>
  have h':=h;have:c.cells = #[c]:=by
   cases p with
   | none=>simp only[VR] at h;subst h;rfl
   | some q=>simp only[VR] at h;obtain ⟨e,_,rfl⟩:=h;rfl
  rw[this];exact VRs.cons h' VRs.nil
 | sl R a n cc =>
  have h':=h;have:c.cells = #[c]:=by
   cases a with
   | none=>simp only[VR] at h;obtain ⟨_,_,rfl⟩:=h;rfl
   | some q=>obtain ⟨b,i⟩:=q;simp only[VR] at h;obtain ⟨e,y,z,_,_,rfl,_⟩:=h;rfl
  rw[this];exact VRs.cons h' VRs.nil
 | fn f cs =>
  have h':=h;have:c.cells = #[c]:=by simp only[VR] at h;obtain ⟨_,_,_,rfl,_⟩:=h;rfl
  rw[this];exact VRs.cons h' VRs.nil
 | ifc t y =>
  have h':=h;have:c.cells = #[c]:=by simp only[VR] at h;obtain ⟨_,rfl,_⟩:=h;rfl
  rw[this];exact VRs.cons h' VRs.nil
def Rho.set (ρ:Rho) (b:Nat) (e:E):Rho:=λx=>if x=b then some e else ρ x
theorem Rho.set_le {ρ:Rho}{e:E} (h:ρ b=none):Rle ρ (ρ.set b e):=λx y hx=>by
 unfold Rho.set;split
 ·rename_i hb;subst hb;rw[h] at hx;cases hx
 ·exact hx
theorem Rho.set_same (ρ:Rho) (b:Nat) (e:E):ρ.set b e b=some e:=by simp[Rho.set]
theorem Rho.set_other {ρ:Rho}{x:Nat}{e:E} (h:x≠b):ρ.set b e x=ρ x:=by simp[Rho.set,h]
theorem Gy (w:World) (o:Obj) {r:Nat} (h:r<w.heap.size):(w.alloc o).heap[r]?=w.heap[r]?:=by show (w.heap.push o)[r]?=_;rw[Array.getElem?_push,if_neg (by omega)]
theorem Gz (w:World) (o:Obj):(w.alloc o).heap[w.heap.size]?=some o:=by show (w.heap.push o)[w.heap.size]?=_;rw[Array.getElem?_push,if_pos rfl]
theorem HRel.fresh {ρ:Rho} (a:HRel ρ h w):ρ h.length=none:=by
 cases e:ρ h.length with
 | none=>rfl
 | some x=>have:=(a.dom _ _ e).1;omega
theorem D3 {α:Type}{h:List α}{k:α} (hb:b<h.length):(h ++ [k])[b]?=h[b]?:=YI hb
theorem Pr {α:Type}{h:List α}{k:α}:(h ++ [k])[h.length]?=some k:=by simp
theorem HRel.adopt {ρ:Rho} (hh:HRel ρ h w) (k:Blk) (e:E)
  (hsize:w.heap.size<=w'.heap.size) (hlt:e.r<w'.heap.size) (hother:∀ r,r<w.heap.size->r≠e.r->w'.heap[r]?=w.heap[r]?)
  (hdead:∀ b e',ρ b=some e'->e'.r=e.r->Bn h b) (hk:BR ρ e k w') :
  HRel (ρ.set h.length e) (h ++ [k]) w' where
 dom:=λb e' hb=>by
  by_cases hx:b=h.length
  ·subst hx;rw[Rho.set_same] at hb;injection hb with hb;subst hb;exact ⟨by simp,hlt⟩
  ·rw[Rho.set_other hx] at hb;have:=hh.dom b e' hb;exact ⟨by simp;omega,by omega⟩
 blk:=λb e' k' hb hk'=>by
  have hle:Rle ρ (ρ.set h.length e):=Rho.set_le hh.fresh;by_cases hx:b=h.length
  ·subst hx;rw[Rho.set_same] at hb;injection hb with hb;subst hb;rw[Pr] at hk';injection hk' with hk';subst hk';exact BR.mono hle rfl hk
  ·rw[Rho.set_other hx] at hb;have hd:=hh.dom b e' hb;rw[D3 hd.1] at hk';by_cases hr:e'.r=e.r
   ·have:=hdead b e' hb hr;rw[Bn,hk'] at this;injection this with this;subst this;trivial
   ·exact BR.mono hle (hother _ hd.2 hr) (hh.blk b e' k' hb hk')
 inj:=λb b' e1 e2 h1 h2 hr hne=>by
  have old:∀ {x:Nat},x<h.length->Bn h x->Bn (h ++ [k]) x:=λhx hd=>by unfold Bn at *;rw[D3 hx];exact hd
  by_cases hx:b=h.length
  ·subst hx;rw[Rho.set_same] at h1;injection h1 with h1;subst h1;rw[Rho.set_other (Ne.symm hne)] at h2;exact .inr (.inl (old (hh.dom b' e2 h2).1 (hdead b' e2 h2 hr.symm)))
  ·rw[Rho.set_other hx] at h1;by_cases hy:b'=h.length
   ·subst hy;rw[Rho.set_same] at h2;injection h2 with h2;subst h2;exact .inl (old (hh.dom b e1 h1).1 (hdead b e1 h1 hr))
   ·rw[Rho.set_other hy] at h2;have d1:=(hh.dom b e1 h1).1;have d2:=(hh.dom b' e2 h2).1;rcases hh.inj b b' e1 e2 h1 h2 hr hne with h3 | h3 | ⟨h3,h4⟩
    ·exact .inl (old d1 h3)
    ·exact .inr (.inl (old d2 h3))
    ·refine .inr (.inr ⟨?_,?_⟩)
     ·obtain ⟨a,b,c,d⟩:=h3;exact ⟨a,b,c,by rw[D3 d1];exact d⟩
     ·obtain ⟨a,b,c,d⟩:=h4;exact ⟨a,b,c,by rw[D3 d2];exact d⟩
theorem HRel.alloc {ρ:Rho}{h:Heap}{w:World} (hh:HRel ρ h w) (k:Blk) (o:Obj) (e:E) (he:e.r=w.heap.size) (hk:BR ρ e k (w.alloc o)) :
  HRel (ρ.set h.length e) (h ++ [k]) (w.alloc o) :=
 hh.adopt k e (by simp) (by simp;omega) (λr hr _=>Gy w o hr) (λb e' hb hr=>by have:=(hh.dom b e' hb).2;omega) hk
theorem Ext.alloc {lo:Nat}{ρ:Rho}{h:Heap}{w:World} (hh:HRel ρ h w) (k:Blk) (o:Obj) (e:E) (he:e.r=w.heap.size) :
  Ext lo w.heap.size ρ h w (ρ.set h.length e) (h ++ [k]) (w.alloc o) where
 rle:=Rho.set_le hh.fresh
 new:=λb e' h1 h2=>by
  by_cases hx:b=h.length
  ·subst hx;rw[Rho.set_same] at h2;injection h2 with h2;subst h2;exact ⟨YH _,.inl (by omega)⟩
  ·rw[Rho.set_other hx,h1] at h2;cases h2
 frame:=λr hr _=>Gy w o hr
 size:=by simp
 os:=rfl
 tape:=rfl
 output:=rfl
 len:=by simp
 pres:=λb _ hb=>D3 hb
 tot:=λb h1 h2=>by
  have:b=h.length:=by simp at h2;omega
  subst this;exact ⟨e,Rho.set_same _ _ _⟩
def Cf (w:World) (r:Nat) (o:Obj):World:={ w with heap:=w.heap.setIfInBounds r o }
theorem DK {r:Nat} (h:r<w.heap.size):(Cf w r o).heap[r]?=some o:=by simp[Cf,h]
theorem Bm {r s:Nat} (h:s≠r):(Cf w r o).heap[s]?=w.heap[s]?:=by simp only[Cf,ZF];rw[if_neg (by omega)]
theorem Br {r:Nat}:(Cf w r o).heap.size=w.heap.size:=by simp[Cf]
theorem Nl {r:Nat}{p:Obj}:Cf (Cf w r o) r p=Cf w r p:=by simp[Cf]
theorem HRel.write {ρ:Rho} (hh:HRel ρ h w) {e:E}{k k':Blk} (hb:ρ b=some e) (hk:h[b]?=some k) (hal:k ≠ .dead) (hro:¬ Mh h b)
  (hro':∀ R t rs,k' ≠ .rows R t true rs)
  (hsize:w'.heap.size=w.heap.size) (hother:∀ r,r≠e.r->w'.heap[r]?=w.heap[r]?) (hk':BR ρ e k' w'):HRel ρ (h.set b k') w' where
 dom:=λb' e' h1=>by have:=hh.dom b' e' h1;simp;omega
 blk:=λb' e' k1 h1 h2=>by
  by_cases hx:b'=b
  ·subst hx;rw[hb] at h1;injection h1 with h1;subst h1;rw[YO (by have:=(hh.dom _ _ hb).1;omega)] at h2;injection h2 with h2;subst h2;exact hk'
  ·rw[YG (Ne.symm hx)] at h2;by_cases hr:e'.r=e.r
   ·rcases hh.inj b' b e' e h1 hb hr hx with h3 | h3 | ⟨_,h3⟩
    ·rw[Bn,h2] at h3;injection h3 with h3;subst h3;trivial
    ·rw[Bn,hk] at h3;injection h3 with h3;exact absurd h3 hal
    ·exact absurd h3 hro
   ·exact BR.mono (Rle.refl _) (hother _ hr) (hh.blk b' e' k1 h1 h2)
 inj:=λb1 b2 e1 e2 h1 h2 hr hne=>by
  have other:∀ {x:Nat},x≠b->Bn h x->Bn (h.set b k') x:=λhx hd=>by unfold Bn at *;rw[YG (Ne.symm hx)];exact hd
  have notb:¬ Bn h b:=λhd=>by rw[Bn,hk] at hd;injection hd with hd;exact hal hd
  rcases hh.inj b1 b2 e1 e2 h1 h2 hr hne with h3 | h3 | ⟨h3,h4⟩
  ·exact .inl (other (λhx=>notb (hx ▸ h3)) h3)
  ·exact .inr (.inl (other (λhx=>notb (hx ▸ h3)) h3))
  ·refine .inr (.inr ⟨?_,?_⟩)
   ·obtain ⟨a,c,d,f⟩:=h3;exact ⟨a,c,d,by rw[YG (λhx=>hro (by subst hx;exact ⟨a,c,d,f⟩))];exact f⟩
   ·obtain ⟨a,c,d,f⟩:=h4;exact ⟨a,c,d,by rw[YG (λhx=>hro (by subst hx;exact ⟨a,c,d,f⟩))];exact f⟩
theorem Ext.write {ρ:Rho}{e:E}{k':Blk} (hb:ρ b=some e) (hlo:lo<=b)
  (hsize:w'.heap.size=w.heap.size) (hother:∀ r,r≠e.r->w'.heap[r]?=w.heap[r]?) (hos:w'.os=w.os) (ht:w'.tape=w.tape) (ho:w'.output=w.output):Ext lo w.heap.size ρ h w ρ (h.set b k') w' where
 rle:=Rle.refl _
 new:=λb e h1 h2=>by rw[h1] at h2;cases h2
 frame:=λr hr hf=>hother r λhx=>hf b e hb hlo hx.symm
 size:=by omega
 os:=hos
 tape:=ht
 output:=ho
 len:=by simp
 pres:=λx h1 _=>YG (by omega)
 tot:=λb h1 h2=>by simp at h2;omega
theorem So {R:Nat} (hk:h[b]?=some (.rows R t false rs)):¬ Mh h b:=λ⟨_,_,_,h1⟩=>by rw[hk] at h1;injection h1 with h1;injection h1 with _ _ h1;cases h1
theorem Tp {j:Nat}{cs:List V} (hl:ld h b i j n=some cs):∃ R e ro rs row,h[b]?=some (.rows R e ro rs)/\rs[i]?=some row/\cut row j n=some cs:=by
 unfold ld Heap.rows? at hl;split at hl
 ·rename_i R e ro rs hb
  simp only[Za] at hl;cases hr:rs[i]? with
  | none=>simp[hr] at hl
  | some row=>simp[hr] at hl;exact ⟨R,e,ro,rs,row,hb,hr,hl⟩
 ·simp at hl
theorem WD {h':Heap}{j:Nat}{cs:List V} (hs:st lo h b i j cs=some h') :
  ∃ R e rs row row',h[b]?=some (.rows R e false rs)/\lo<=b/\rs[i]?=some row/\paste row j cs=some row'/\h'=h.set b (.rows R e false (rs.set i row')):=by
 unfold st at hs;split at hs
 ·rename_i R e rs hb
  split at hs
  ·rename_i hlo
   cases hr:rs[i]? with
   | none=>simp[hr] at hs
   | some row =>
    simp only[hr,Za] at hs;cases hp:paste row j cs with
    | none=>simp[hp] at hs
    | some row'=>simp only[hp,Za,Option.some.injEq] at hs;exact ⟨R,e,rs,row,row',hb,Zx hlo,hr,hp,hs.symm⟩
  ·cases hs
 ·cases hs
theorem FL (hl:De h b i n=some xs):∃ R e ro rs,h[b]?=some (.rows R e ro rs)/\i+n<=rs.length/\xs=(rs.drop i).take n:=by
 unfold De Heap.rows? at hl;split at hl
 ·rename_i R e ro rs hb
  simp only[Za] at hl;split at hl
  ·rename_i hle;injection hl with hl;exact ⟨R,e,ro,rs,hb,Zx hle,hl.symm⟩
  ·cases hl
 ·simp at hl
theorem Kq {h':Heap} (hs:E5 lo h b i xs=some h') :
  ∃ R e rs,h[b]?=some (.rows R e false rs)/\lo<=b/\i+xs.length<=rs.length/\h'=h.set b (.rows R e false (rs.take i++xs++rs.drop (i+xs.length))):=by
 unfold E5 at hs;split at hs
 ·rename_i R e rs hb
  split at hs
  ·rename_i h1 h2;injection hs with hs;exact ⟨R,e,rs,hb,Zx h1,Zx h2,hs.symm⟩
  ·cases hs
 ·cases hs
def EC (cs:Array Value) (o:Nat):List Value->Array Value
 | []=>cs
 | v :: r=>EC (cs.setIfInBounds o v) (o+1) r
theorem Dk:∀ (vs:List Value) (cs:Array Value) (o:Nat),(EC cs o vs).size=cs.size
 | [],cs,o=>rfl
 | v :: r,cs,o=>by simp[EC,Dk r]
theorem CT:∀ (vs:List Value) (cs:Array Value) (o j:Nat),(j<o\/o+vs.length<=j)->(EC cs o vs)[j]?=cs[j]?
 | [],cs,o,j,_=>rfl
 | v :: r,cs,o,j,h=>by simp only[EC];rw[CT r _ _ j (by simp at h;omega),ZF,if_neg (by simp at h;omega)]
theorem HQ:∀ (vs:List Value) (cs:Array Value) (o j:Nat),o+vs.length<=cs.size->j<vs.length->(EC cs o vs)[o+j]?=vs[j]?
 | [],cs,o,j,_,h=>by simp at h
 | v :: r,cs,o,j,hs,h=>by
  simp only[EC];cases j with
  | zero =>rw[CT r _ _ _ (by omega)];simp at hs;simp[show o<cs.size by omega]
  | succ j =>have:=HQ r (cs.setIfInBounds o v) (o+1) j (by simp at hs ⊢;omega) (by simpa using h);rw[show o+(j+1)=o+1+j by omega,this];simp
theorem Hr:∀ {vs:List Value}{cs:Array Value}{o:Nat},OneCells cs->(∀ v∈vs,v.oneCell'=true)->OneCells (EC cs o vs)
 | [],cs,o,h,_=>h
 | v :: vs,cs,o,h,hv=>by
  refine Hr (vs:=vs) (cs:=cs.setIfInBounds o v) (o:=o+1) (λj c hj=>?_) λx hx=>hv x (by simp[hx]);rw[ZF] at hj;split at hj
  ·split at hj
   ·injection hj with hj;subst hj;exact hv v (by simp)
   ·cases hj
  ·exact h j c hj
theorem OneCells.of_list {cs:Array Value} (h:∀ v∈cs.toList,v.oneCell'=true):OneCells cs:=λj c hj=>h c (YS (by simpa using hj))
theorem DF (r o n:Nat):(⟨r,o,none⟩:Addr).add n=⟨r,o+n,none⟩:=by
 unfold Addr.add;split
 ·rename_i h;subst h;rfl
 ·rfl
theorem H8 {r o:Nat}{cs:Array Value}{fr:Nat×Nat} (h:w.heap[r]?=some (.cells cs el fr)):w.cell? ⟨r,o,none⟩=cs[o]?:=by simp[World.cell?,h]
theorem Qz {r:Nat} (h:w.heap[r]?=some o):Cf w r o=w:=by
 have:w.heap.setIfInBounds r o=w.heap:=by
  apply Array.ext_getElem?;intro i;rw[ZF];split
  ·rename_i hi;subst hi
   split
   ·exact h.symm
   ·rename_i h2;simp[Array.getElem?_eq_none (Nat.le_of_not_lt h2)] at h
  ·rfl
 unfold Cf;rw[this]
theorem Qy {r o:Nat}{cs:Array Value}{fr:Nat×Nat} (h:w.heap[r]?=some (.cells cs el fr)) (v:Value) :
  w.setCell ⟨r,o,none⟩ v=Cf w r (.cells (cs.setIfInBounds o v) el fr):=by
 have hr:r<w.heap.size:=(ZM.1 h).1;unfold World.setCell Cf;congr 1;apply Array.ext_getElem?;intro i;rw[Array.getElem?_modify,ZF];split
 ·rename_i hi
  simp only at hi;subst hi;have he:w.heap[r] = .cells cs el fr:=(ZM.1 h).2;simp[hr,he]
 ·rfl
theorem CQ {P:Program}:∀ (vs:List Value) (w:World) (r o i:Nat) (cs:Array Value) (el:TypeId),w.heap[r]?=some (.cells cs el (0,0))->o+i+vs.length<=cs.size->(∀ v∈vs,v.oneCell'=true) ->
  (storeCells ⟨r,o,none⟩ vs i).run P w = .ok () (Cf w r (.cells (EC cs (o+i) vs) el (0,0)))
 | [],w,r,o,i,cs,el,h,_,_=>by rw[EC,Qz h];rfl
 | v :: vs,w,r,o,i,cs,el,h,hs,hv=>by
  have hr:r<w.heap.size:=(ZM.1 h).1;have hc:w.cell? ⟨r,o+i,none⟩=some (cs[o+i]'(by simp at hs;omega)):=by rw[H8 h];simp at hs;simp[show o+i<cs.size by omega]
  have hfr:w.frozen? ⟨r,o+i,none⟩=false:=by simp[World.frozen?,h]
  simp only[storeCells,Sem.run_bind,DF];rw[run_store P w _ v _ (hv v (by simp))];simp only[hc,hfr,Zi,if_false,Result.andThen_ok,Qy h v];rw[CQ vs _ r o (i+1) (cs.setIfInBounds (o+i) v) el (DK hr) (by simp at hs ⊢;omega) (λx hx=>hv x (by simp[hx]))];simp[Nl,EC,Nat.add_assoc]
theorem QL {ρ:Rho}{x:V} (h:VR ρ x c) (hx:firm x=true):c.oneCell'=true:=by
 cases x with
 | ptr p=>cases p with
  | none=>simp only[VR] at h;subst h;rfl
  | some q=>obtain ⟨b,i,j⟩:=q;simp only[VR] at h;obtain ⟨e,_,rfl⟩:=h;rfl
 | sl R a n cc=>cases a with
  | none=>simp only[VR] at h;obtain ⟨_,_,rfl⟩:=h;rfl
  | some q=>obtain ⟨b,i⟩:=q;simp only[VR] at h;obtain ⟨e,y,z,_,_,rfl,_⟩:=h;rfl
 | map p=>cases p with
  | none=>simp only[VR] at h;subst h;rfl
  | some q=>simp only[VR] at h;obtain ⟨e,_,rfl⟩:=h;rfl
 | fn f cs=>simp only[VR] at h;obtain ⟨_,_,_,rfl,_⟩:=h;rfl
 | ifc t y=>simp only[VR] at h;obtain ⟨_,rfl,_⟩:=h;rfl
 | agg _=>simp[firm] at hx
 | tup _=>simp[firm] at hx
 | any=>simp[firm] at hx
 | lp _ _=>simp[firm] at hx
 | int _ _=>simp only[VR] at h;subst h;rfl
 | bool _=>simp only[VR] at h;subst h;rfl
 | str _=>simp only[VR] at h;subst h;rfl
 | nilf=>simp only[VR] at h;subst h;rfl
 | nili=>simp only[VR] at h;subst h;rfl
theorem BV {ρ:Rho}:∀ {xs:List V}{cs:List Value},VRs ρ xs cs->Cm xs=true->∀ c∈cs,c.oneCell'=true
 | [],cs,h,_,c,hc=>by simp only[VRs] at h;subst h;simp at hc
 | x :: xs,cs,h,hx,c,hc=>by
  simp only[VRs] at h;obtain ⟨y,r,rfl,h1,h2⟩:=h;simp only[Cm] at hx;split at hx
  ·rename_i hf
   simp only[YW] at hc;rcases hc with rfl | hc
   ·exact QL h1 hf
   ·exact BV h2 hx c hc
  ·cases hx
theorem L3 {i' R j:Nat} (h:i'<i) (hj:j<R):i'*R+j<i*R:=by have h1:(i'+1)*R<=i*R:=Zb R h;rw[Zu,Nat.one_mul] at h1;omega
theorem R9 {i':Nat} (R:Nat) (h:i<i'):i*R+R<=i'*R:=by have h1:(i+1)*R<=i'*R:=Zb R h;rwa [Zu,Nat.one_mul] at h1
theorem RowsR.paste {ρ:Rho}{R o j:Nat}{cs:Array Value}{row row' xs:List V}{vs:List Value} (h:RowsR ρ R o rs cs) (hr:rs[i]?=some row)
  (hp:paste row j xs=some row') (hv:VRs ρ xs vs) (hs:o+rs.length*R<=cs.size):RowsR ρ R o (rs.set i row') (EC cs (o+(i*R+j)) vs):=by
 obtain ⟨hle,hrow⟩:=Ej hp;have hl:=(h i row hr).1;have hi:i<rs.length:=(YE.1 hr).1;have hbig:i*R+R<=rs.length*R:=by have:=Zb R (show i+1<=rs.length from hi);rw[Zu,Nat.one_mul] at this;exact this
 intro i' r' hr';by_cases e:i'=i
 ·subst e;rw[YO hi] at hr';injection hr' with hr';subst hr';refine ⟨by rw[hrow];simp;omega,λq v hq=>?_⟩;rw[hrow] at hq;by_cases h1:q<j
  ·rw[YV,YI (by simp;omega),ZH,if_pos h1] at hq;obtain ⟨c,h2,h3⟩:=(h i' row hr).2 q v hq;exact ⟨c,by rw[CT _ _ _ _ (by omega)];exact h2,h3⟩
  ·by_cases h2:q<j+xs.length
   ·rw[YV,Y1 (by simp;omega),YI (by simp;omega)] at hq;have hq':xs[q - j]?=some v:=by rw[<- hq];congr 1;simp;omega
    obtain ⟨c,h3,h4⟩:=hv.get _ _ hq';refine ⟨c,?_,h4⟩;have hlen:=hv.length;rw[show o+(i'*R+q)=o+(i'*R+j)+(q - j) by omega,HQ _ _ _ _ (by omega) (by omega)];exact h3
   ·rw[Y1 (by simp;omega),Zc] at hq;have hq':row[q]?=some v:=by rw[<- hq];congr 1;simp;omega
    obtain ⟨c,h3,h4⟩:=(h i' row hr).2 q v hq';have hlen:=hv.length;exact ⟨c,by rw[CT _ _ _ _ (by omega)];exact h3,h4⟩
 ·rw[YG (Ne.symm e)] at hr';refine ⟨(h i' r' hr').1,λq v hq=>?_⟩;obtain ⟨c,h3,h4⟩:=(h i' r' hr').2 q v hq;have hq2:q<R:=by have:=(YE.1 hq).1;rw[(h i' r' hr').1] at this;exact this
  have hlen:=hv.length;refine ⟨c,?_,h4⟩;rw[CT _ _ _ _ ?_]
  ·exact h3
  ·rcases Nat.lt_or_gt_of_ne e with hlt | hgt
   ·have:=L3 hlt hq2;omega
   ·have:=R9 R hgt;omega
end Go.Proofs.YtoocmbhkaghgnaaGreat.T
namespace Go.Proofs.YtoocmbhkaghgnaaGreat.T
open Go
variable {c:Value}{d:TypeDesc}{x:Operand}{h:Heap}{xs:List V}
def Fine (lo base:Nat) (ρ:Rho) (β:Bet) (σ:St) (w:World) (v:V) (σ':St) (c:Value) (w':World):Prop :=
 ∃ ρ' β',σ'.s=σ.s/\SV ρ' β' v c/\HRel ρ' σ'.h w'/\FRel ρ' β' σ'.bx w'/\Ext lo base ρ σ.h w ρ' σ'.h w'/\Ble β β'/\(∀ t r,β t=none->β' t=some r->w.heap.size<=r/\Ax σ.bx t=none) /\
  (∀ t,Ax σ.bx t=none->(Ax σ'.bx t).isSome=true->∃ r,β' t=some r)
section
variable {lo base:Nat}{ρ:Rho}{β:Bet}{σ:St}{w:World}{R:Type}{r:R}
theorem JR {bx:List (Nat×List V)}{β:Bet} (t:Nat) (h1:Ax bx t=none) (h2:(Ax bx t).isSome=true):∃ r,β t=some r:=by rw[h1] at h2;cases h2
theorem Fine.same {v:V} (hh:HRel ρ σ.h w) (hf:FRel ρ β σ.bx w) (hv:SV ρ β v c):Fine lo base ρ β σ w v σ c w :=
 ⟨ρ,β,rfl,hv,hh,hf,Ext.refl _ _ _ _ _,Ble.refl _,λt r h1 h2=>(by rw[h1] at h2;cases h2),λt h1 h2=>(by rw[h1] at h2;cases h2)⟩
def DG (P:Program) (lo base:Nat) (ρ:Rho) (β:Bet) (σ:St) (a:Act) (w:World) (o:Oper) (K:V->St->Option R) (r:R):Prop :=
 ∃ w',(∃ c,(execOp a.eval o).run P w = .ok (.value c) w'/\∃ v σ',K v σ'=some r/\Fine lo base ρ β σ w v σ' c w') \/
  ((execOp a.eval o).run P w = .ok .skip w'/\∃ v σ',K v σ'=some r/\Fine lo base ρ β σ w v σ' undef w')
end
section
variable {P:Program}{lo base:Nat}{ρ:Rho}{β:Bet}{σ:St}{a:Act}{w:World}{R:Type}{r:R}{K:V->St->Option R}{X:Ctx}
variable {dst:Option Nat}{ty:TypeId}{pos:String}{after:Array Edge}{guard:Option (Nat×Bool)}
theorem Bl {t:TypeId}{i:TypeInfo} (h:P.info? t=some i) (w:World):(sizeOf t).run P w = .ok i.size w:=by simp[sizeOf,typeInfo,h]
theorem AL {t:TypeId} (h:P.underlying t=some d) (w:World):(underlying t).run P w = .ok d w:=by simp[underlying,h]
theorem Oo {t:TypeId} (h:P.underlying t=some d) (w:World):(isAgg t).run P w = .ok (Ke d) w:=by simp only[isAgg,Sem.run_bind,AL h,Result.andThen_ok];cases d<;>rfl
theorem AG {o:Oper}{v:V} (hrun:(execOp a.eval o).run P w = .ok (.value c) w) (hh:HRel ρ σ.h w) (hf:FRel ρ β σ.bx w) (hv:SV ρ β v c) (hk:K v σ=some r) :
  DG P lo base ρ β σ a w o K r:=⟨w,.inl ⟨c,hrun,v,σ,hk,Fine.same hh hf hv⟩⟩
theorem Xp (hs:SRel ρ β σ.s a) (hh:HRel ρ σ.h w) (hf:FRel ρ β σ.bx w) (hk:opT X lo dst ty (.move x) σ K=some r) :
  DG P lo base ρ β σ a w ⟨dst,.move x,ty,pos,after,guard⟩ K r:=AG rfl hh hf (BH hs x) hk
theorem UU (hs:SRel ρ β σ.s a) (hh:HRel ρ σ.h w) (hf:FRel ρ β σ.bx w) (hk:opT X lo dst ty (.assign x) σ K=some r) :
  DG P lo base ρ β σ a w ⟨dst,.assign x,ty,pos,after,guard⟩ K r:=AG rfl hh hf (BH hs x) hk
theorem TC (hs:SRel ρ β σ.s a) {b:Bool} (h:ev σ.s x = .bool b):a.eval x = .bool b:=by have:=BH hs x;rw[h] at this;simpa [SV,VR] using this
theorem Hy (hs:SRel ρ β σ.s a) {k:IntKind}{n:Int} (h:ev σ.s x = .int k n):a.eval x = .int k n:=by have:=BH hs x;rw[h] at this;simpa [SV,VR] using this
theorem Yv (hs:SRel ρ β σ.s a) {s:ByteArray} (h:ev σ.s x = .str s):a.eval x = .string s:=by have:=BH hs x;rw[h] at this;simpa [SV,VR] using this
theorem Xo (hs:SRel ρ β σ.s a) (hh:HRel ρ σ.h w) (hf:FRel ρ β σ.bx w) {c y:Operand} (hk:opT X lo dst ty (.pick c x y) σ K=some r) :
  DG P lo base ρ β σ a w ⟨dst,.pick c x y,ty,pos,after,guard⟩ K r:=by
 simp only[opT] at hk;obtain ⟨b,hb,hk⟩:=Jr hk;have hc:=TC hs hb;rcases GW hk with ⟨rfl,hk⟩ | ⟨rfl,hk⟩
 ·exact AG (c:=a.eval x) (by simp[execOp,hc,asBool]) hh hf (BH hs x) hk
 ·exact AG (c:=a.eval y) (by simp[execOp,hc,asBool]) hh hf (BH hs y) hk
theorem AY (u:Nat) (v:List V) (s:List (Nat×List V)) (t:Nat):Ax ((u,v) :: s) t=if u=t then some v else Ax s t:=by
 simp only[Ax];by_cases h:u=t
 ·subst h;simp
 ·have:Nat.beq u t=false:=by
   cases hb:Nat.beq u t with
   | false=>rfl
   | true=>exact absurd (YL hb) h
  simp[this,h]
theorem FRel.alloc {bx:List (Nat×List V)}{h:Heap} (hf:FRel ρ β bx w) (hh:HRel ρ h w) {cells:Array Value}{el:TypeId}{row:List V}{t:Nat} (ht:Ax bx t=none) (hv:VRs ρ row cells.toList) :
  FRel ρ (λu=>if u=t then some w.heap.size else β u) ((t,row) :: bx) (w.alloc (.cells cells el)) where
 has:=λu q hq=>by
  rw[AY];by_cases e:t=u
  ·subst e;simp at hq;subst hq;exact ⟨row,cells,el,by simp,Gz _ _,hv⟩
  ·simp only[Ne.symm e,if_false] at hq;obtain ⟨x,cs,el',h1,h2,h3⟩:=hf.has u q hq;exact ⟨x,cs,el',by simp[e,h1],by rw[Gy _ _ (hf.lt u q hq)];exact h2,h3⟩
 lt:=λu q hq=>by
  by_cases e:u=t
  ·simp[e] at hq;simp;omega
  ·simp[e] at hq;have:=hf.lt u q hq;simp;omega
 inj:=λu u' q h1 h2=>by
  by_cases e:u=t<;>by_cases e':u'=t
  ·rw[e,e']
  ·simp[e] at h1;simp[e'] at h2;have:=hf.lt u' q h2;omega
  ·simp[e] at h1;simp[e'] at h2;have:=hf.lt u q h1;omega
  ·simp[e] at h1;simp[e'] at h2;exact hf.inj u u' q h1 h2
 off:=λu q b e h1 h2=>by
  have:=(hh.dom b e h2).2;by_cases e':u=t
  ·simp[e'] at h1;omega
  ·simp[e'] at h1;exact hf.off u q b e h1 h2
theorem HRel.allocW (hh:HRel ρ h w) (o:Obj):HRel ρ h (w.alloc o) where
 dom:=λb e hb=>by have:=hh.dom b e hb;simp;omega
 blk:=λb e k hb hk=>BR.mono (Rle.refl _) (Gy w o (hh.dom b e hb).2) (hh.blk b e k hb hk)
 inj:=hh.inj
theorem Ext.allocW (o:Obj):Ext lo w.heap.size ρ h w ρ h (w.alloc o) where
 rle:=Rle.refl _
 new:=λb e h1 h2=>by rw[h1] at h2;cases h2
 frame:=λr hr _=>Gy w o hr
 size:=by simp
 os:=rfl
 tape:=rfl
 output:=rfl
 len:=YH _
 pres:=λ_ _ _=>rfl
 tot:=λb h1 h2=>by omega
theorem V8 (hB:base<=w.heap.size) (hh:HRel ρ σ.h w) (hf:FRel ρ β σ.bx w) {o:Oper}{t:Nat}{e:TypeId}{row:List V}{cells:Array Value} (size:Nat)
  (hrun:(execOp a.eval o).run P w = .ok (.value (.pointer (some ⟨w.heap.size,0,none⟩))) (w.alloc (.cells cells e))) (hv:VRs ρ row cells.toList) (hone:OneCells cells) (hsz:row.length=size)
  (hk:(match X.hb.any (Nat.beq t) with
   | true=>K (.ptr (some (σ.h.length,0,0))) { σ with h:=σ.h ++ [.rows size e false [row]] }
   | false=>match Ax σ.bx t with
    | some _=>none
    | none=>K (.lp t 0) { σ with bx:=(t,row) :: σ.bx })=some r):DG P lo base ρ β σ a w o K r:=by
 have hlen:=hv.length;refine ⟨w.alloc (.cells cells e),.inl ⟨_,hrun,?_⟩⟩;split at hk
 ·have hx:Ext lo w.heap.size ρ σ.h w (ρ.set σ.h.length ⟨w.heap.size,0,size,1,1⟩) (σ.h ++ [.rows size e false [row]]) (w.alloc (.cells cells e)):=Ext.alloc hh _ _ _ rfl;refine ⟨_,_,hk,ρ.set σ.h.length ⟨w.heap.size,0,size,1,1⟩,β,rfl,?_,?_,hf.ext hx,hx.weaken (YH _) hB,Ble.refl _,λt r h1 h2=>(by rw[h1] at h2;cases h2),JR⟩
  ·simp only[SV,VR,Rho.set_same];exact ⟨_,rfl,by simp⟩
  ·refine hh.alloc _ _ _ rfl ?_;refine ⟨cells,(0,0),Gz _ _,λ_=>⟨rfl,rfl⟩,rfl,rfl,YH _,by simp;simp at hlen;omega,λi row' hi=>?_,.inl hone⟩;cases i with
   | zero =>simp at hi;subst hi;refine ⟨hsz,λj v hj=>?_⟩;obtain ⟨c,h1,h2⟩:=hv.get j v hj;exact ⟨c,by simpa using h1,h2⟩
   | succ i=>simp at hi
 ·split at hk
  ·cases hk
  ·rename_i hl
   have hb:β t=none:=by
    cases hb:β t with
    | none=>rfl
    | some q=>obtain ⟨x,_,_,hx,_⟩:=hf.has t q hb;rw[hl] at hx;cases hx
   refine ⟨_,_,hk,ρ,λu=>if u=t then some w.heap.size else β u,rfl,?_,hh.allocW _,hf.alloc hh hl hv,(Ext.allocW _).weaken (YH _) hB,λu q hq=>?_,λu q h1 h2=>?_,λu h1 h2=>?_⟩
   ·exact ⟨w.heap.size,by simp,rfl⟩
   ·by_cases e:u=t
    ·subst e;rw[hb] at hq;cases hq
    ·simp[e,hq]
   ·by_cases e:u=t
    ·subst e;simp at h2;exact ⟨by omega,hl⟩
    ·simp[e,h1] at h2
   ·rw[AY] at h2;by_cases e:t=u
    ·exact ⟨w.heap.size,by simp[e]⟩
    ·rw[if_neg e,h1] at h2;cases h2
theorem We (hB:base<=w.heap.size) (hX:X.ty=Az P) (hs:SRel ρ β σ.s a) (hh:HRel ρ σ.h w) (hf:FRel ρ β σ.bx w) {e:TypeId} (hk:opT X lo dst ty (.alloc e) σ K=some r) :
  DG P lo base ρ β σ a w ⟨dst,.alloc e,ty,pos,after,guard⟩ K r:=by
 simp only[opT] at hk;split at hk
 ·cases hk
 ·cases hk
 ·rename_i t hz
  rw[hX] at hk hz;simp only[YQ] at hz;obtain ⟨⟨hkn,hz⟩,hfm⟩:=hz;obtain ⟨i,d,hi,hd,h1,h2,h3,h4,h5⟩:=Ba hkn;rw[h5] at hz;cases hzz:i.zero with
  | none=>simp[hzz] at hz
  | some z =>
   simp only[hzz,YQ] at hz h4;have hsz:=YL hz.1;refine V8 (X:=X) hB hh hf (cells:=z.cells) (row:=AV (ofValue z)) (e:=e) (t:=t) (Az P e).size ?_ ?_ ?_ ?_ (by rw[h4] at hk;exact hk)
   ·simp[execOp,Instr.alloc,zeroValue,typeInfo,hi,hzz,newVar,newRow]
   ·exact DN (Dd ρ z) (by rw[<- h4];exact hfm)
   ·rw[h4] at hfm;exact OneCells.of_list (BV (DN (Dd ρ z) hfm) hfm)
   ·rw[Ef,hsz,h1]
theorem XW (hB:base<=w.heap.size) (hX:X.ty=Az P) (hs:SRel ρ β σ.s a) (hh:HRel ρ σ.h w) (hf:FRel ρ β σ.bx w) {e:TypeId} (hk:opT X lo dst ty (.box e x) σ K=some r) :
  DG P lo base ρ β σ a w ⟨dst,.box e x,ty,pos,after,guard⟩ K r:=by
 simp only[opT] at hk;split at hk
 ·cases hk
 ·rename_i t
  split at hk
  ·rename_i hfm
   split at hk
   ·rename_i hl
    have hv:VR ρ (ev σ.s x) (a.eval x):=(BH hs x).ok (by
     cases hx:ev σ.s x<;>simp[hx,AV,Cm,firm] at hfm<;>rfl)
    refine V8 (X:=X) hB hh hf (cells:=(a.eval x).cells) (row:=AV (ev σ.s x)) (e:=e) (t:=t) (X.ty e).size ?_ (DN hv hfm) (OneCells.of_list (BV (DN hv hfm) hfm)) (YL hl) hk;simp[execOp,Instr.box,newVar,newRow]
   ·cases hk
  ·cases hk
theorem PL {rho:Rho}{R' o i j n:Nat}{rs:List (List V)}{cs:Array Value}{row:List V} (h:RowsR rho R' o rs cs) (hr:rs[i]?=some row) (hc:cut row j n=some xs) :
  ∃ ys:List Value,VRs rho xs ys/\ys.length=n/\∀ q y,ys[q]?=some y->cs[o+(i*R'+j)+q]?=some y:=by
 obtain ⟨hle,hxs⟩:=HB hc;obtain ⟨hl,hcell⟩:=h i row hr;have hn:xs.length=n:=by rw[hxs];simp;omega
 have key:∀ q,q<n->∃ y,cs[o+(i*R'+j)+q]?=some y/\∀ v,xs[q]?=some v->VR rho v y:=by intro q hq;have hrow:row[j+q]?=some (row[j+q]'(by omega)):=YU _;obtain ⟨c,h1,h2⟩:=hcell (j+q) _ hrow;refine ⟨c,by rw[<- h1];congr 1;omega,λv hv=>?_⟩;rw[hxs,ZH,if_pos hq,Zc,hrow] at hv;injection hv with hv;subst hv;exact h2
 refine ⟨(List.range n).map λq=>(cs[o+(i*R'+j)+q]?).getD undef,?_,by simp,?_⟩
 ·refine VRs.of_get (by simp[hn]) λq v hv=>?_;have hq:q<n:=by have:=(YE.1 hv).1;omega
  obtain ⟨y,h1,h2⟩:=key q hq;exact ⟨y,by simp[hq,h1],h2 v hv⟩
 ·intro q y hy;have hq:q<n:=by have:=(YE.1 hy).1;simpa using this
  obtain ⟨z,h1,_⟩:=key q hq;simp[hq,h1] at hy;rw[h1,hy]
theorem VD (hh:HRel ρ h w) {b i j n:Nat}{e:E} (hb:ρ b=some e) (hl:ld h b i j n=some xs) :
  ∃ ys:List Value,VRs ρ xs ys/\ys.length=n/\∀ q y,ys[q]?=some y->w.cell? ((⟨e.r,e.o+(i*e.R+j),none⟩:Addr).add q)=some y:=by
 obtain ⟨R',el,ro,rs,row,hk,hr,hc⟩:=Tp hl;obtain ⟨cs,fr,h1,h2,h3,h4,h5,h6,h7,_⟩:=hh.blk b e _ hb hk;obtain ⟨ys,g1,g2,g3⟩:=PL h7 hr hc;refine ⟨ys,g1,g2,λq y hy=>?_⟩;rw[DF,H8 h1,h3];exact g3 q y hy
theorem TQ {bx:List (Nat×List V)} (hf:FRel ρ β bx w) {u j n q:Nat}{row:List V} (hb:β u=some q) (hl:Ax bx u=some row) (hc:cut row j n=some xs) :
  ∃ ys:List Value,VRs ρ xs ys/\ys.length=n/\∀ p y,ys[p]?=some y->w.cell? ((⟨q,j,none⟩:Addr).add p)=some y:=by
 obtain ⟨row',cs,el,h1,h2,h3⟩:=hf.has u q hb;rw[hl] at h1;injection h1 with h1;subst h1;obtain ⟨hle,hxs⟩:=HB hc;have hlen:=h3.length;refine ⟨(cs.toList.drop j).take n,?_,by simp at hlen hle ⊢;omega,λp y hy=>?_⟩
 ·rw[hxs];exact (h3.drop j).take n
 ·rw[DF,H8 h2];rw[ZH] at hy;split at hy
  ·rw[Zc] at hy;simpa using hy
  ·cases hy
theorem DS {t:TypeId} (hkn:(Az P t).known=true) {x:Addr}{ys:List Value} (hv:VRs ρ xs ys) (hn:ys.length=(Az P t).size)
  (hc:∀ q y,ys[q]?=some y->w.cell? (x.add q)=some y) {v:V} (hm:QR (Az P t).agg xs=some v):∃ c,(loadVar t x).run P w = .ok c w/\VR ρ v c:=by
 obtain ⟨i,d,hi,hd,h1,h2,h3,h4,h5⟩:=Ba hkn;have hag:=Oo hd w;rw[<- h3] at hag;simp only[loadVar,Sem.run_bind,hag,Result.andThen_ok];cases hA:(Az P t).agg with
 | true =>
  rw[hA] at hm;simp only[QR] at hm;injection hm with hm;subst hm;have hlc:=run_loadCells_list (P:=P) w x ys hc;rw[hn,h1] at hlc;refine ⟨.agg ys.toArray,?_,?_⟩
  ·simp[Bl hi,hlc]
  ·simp only[VR];exact ⟨_,rfl,by simpa using hv⟩
 | false =>
  rw[hA] at hm;simp only[QR] at hm;split at hm
  ·injection hm with hm;subst hm;cases ys with
   | nil=>have:=hv.length;simp at this
   | cons y ys =>obtain ⟨g1,g2⟩:=hv.uncons;have:=hc 0 y (by simp);rw[show x.add 0=x by simp[Addr.add]] at this;exact ⟨y,by simp[run_load,this],g1⟩
  ·cases hm
theorem Ff {agg:Bool}{cs:List V} (h:agg=false->∃ v,cs = [v]):QR agg cs=some (XM agg cs):=by
 cases agg with
 | true=>rfl
 | false=>obtain ⟨v,rfl⟩:=h rfl;rfl
theorem Pw (hs:SRel ρ β σ.s a) {b i j:Nat} (h:ev σ.s x = .ptr (some (b,i,j))):∃ e,ρ b=some e/\a.eval x = .pointer (some ⟨e.r,e.o+(i*e.R+j),none⟩):=by have:=BH hs x;rw[h] at this;simpa [SV,VR] using this
theorem TB (hs:SRel ρ β σ.s a) {u j:Nat} (h:ev σ.s x = .lp u j):∃ q,β u=some q/\a.eval x = .pointer (some ⟨q,j,none⟩):=by have:=BH hs x;rw[h] at this;exact this
theorem Xq (hX:X.ty=Az P) (hs:SRel ρ β σ.s a) (hh:HRel ρ σ.h w) (hf:FRel ρ β σ.bx w) {t:TypeId} (hk:opT X lo dst ty (.load t x) σ K=some r) :
  DG P lo base ρ β σ a w ⟨dst,.load t x,ty,pos,after,guard⟩ K r:=by
 simp only[opT] at hk;rw[hX] at hk;split at hk
 ·cases hk
 ·rename_i hkn
  split at hk
  ·rename_i u j hx
   obtain ⟨q,hq,hax⟩:=TB hs hx;split at hk
   ·rename_i row hrow
    obtain ⟨cs,hcs,hk⟩:=AF hk;obtain ⟨v,hv,hk⟩:=AF hk;obtain ⟨ys,g1,g2,g3⟩:=TQ hf hq hrow hcs;obtain ⟨c,h1,h2⟩:=DS hkn g1 g2 g3 hv;exact AG (c:=c) (by simp[execOp,Instr.loadAt,Instr.sureAddr,hax,h1]) hh hf (SV.of h2) hk
   ·cases hk
  ·rename_i p hx
   obtain ⟨⟨b,i,j⟩,rfl,hk1⟩:=AF hk;obtain ⟨e,hb,hax⟩:=Pw hs hx;obtain ⟨cs,hcs,hk2⟩:=AF hk1;obtain ⟨v',hk3,hle,hone⟩:=Hz hk2;obtain ⟨ys,g1,g2,g3⟩:=VD hh hb hcs;obtain ⟨c,h1,h2⟩:=DS hkn g1 g2 g3 (Ff hone);exact AG (c:=c) (by simp[execOp,Instr.loadAt,Instr.sureAddr,hax,h1]) hh hf (SV.of (hle ρ c h2)) hk3
  ·cases hk
theorem I3 {x:V} (hfm:Cm (AV x)=true):WQ x=true:=by cases x<;>simp[AV,Cm,firm] at hfm<;>rfl
theorem Fh (s:List (Nat×List V)) (t u:Nat) (x:List V):Ax (R8 s t x) u=if t=u then (Ax s u).map λ_=>x else Ax s u:=by
 induction s with
 | nil=>simp[R8,Ax]
 | cons p s ih =>
  obtain ⟨q,y⟩:=p;simp only[R8];have beq:∀ a b:Nat,Nat.beq a b=decide (a=b):=λa b=>by
   by_cases h:a=b
   ·subst h;simp
   ·cases hb:Nat.beq a b with
    | false=>simp[h]
    | true=>exact absurd (YL hb) h
  by_cases h:q=t
  ·subst h;simp only[beq,decide_true];rw[AY,AY];by_cases e:q=u<;>simp[e]
  ·simp only[beq,h,decide_false];rw[AY,AY,ih];by_cases e:q=u
   ·subst e;simp[Ne.symm h]
   ·simp[e]
theorem V6 (hB:base<=w.heap.size) (hown:∀ t r,β t=some r->base<=r) (hX:X.ty=Az P) (hs:SRel ρ β σ.s a) (hh:HRel ρ σ.h w) (hf:FRel ρ β σ.bx w) {t:TypeId}{y:Operand} (hk:opT X lo dst ty (.store t x y) σ K=some r) :
  DG P lo base ρ β σ a w ⟨dst,.store t x y,ty,pos,after,guard⟩ K r:=by
 simp only[opT] at hk;rw[hX] at hk;split at hk
 ·rename_i hkf
  simp only[YQ] at hkf;obtain ⟨hkn,hfm⟩:=hkf;split at hk
  ·rename_i hl
   have hl:=YL hl;obtain ⟨i0,d,hi,hd,h1,h2,h3,h4,h5⟩:=Ba hkn;have hv:VR ρ (ev σ.s y) (a.eval y):=(BH hs y).ok (I3 hfm);have hcv:=DN hv hfm;have hlen:=hcv.length;have hone:=BV hcv hfm;have hsz:(a.eval y).cells.size=i0.size:=by rw[<- h1,<- hl];simpa using hlen.symm
   split at hk
   ·rename_i u j hx
    obtain ⟨q,hq,hax⟩:=TB hs hx;split at hk
    ·rename_i row hrow
     split at hk
     ·rename_i row' hp
      obtain ⟨row0,cs,el,g1,g2,g3⟩:=hf.has u q hq;rw[hrow] at g1;injection g1 with g1;subst g1;obtain ⟨hle,hr'⟩:=Ej hp;have hcl:=g3.length;have hrun:=CQ (P:=P) (a.eval y).cells.toList w q j 0 cs el g2 (by simp at hlen hcl ⊢;omega) hone;have hqlt:q<w.heap.size:=(ZM.1 g2).1;refine ⟨Cf w q (.cells (EC cs (j+0) (a.eval y).cells.toList) el (0,0)),.inr ⟨?_,_,_,hk,ρ,β,rfl,?_,?_,?_,?_,Ble.refl _,λt r h1 h2=>(by rw[h1] at h2;cases h2),λt h1 h2=>(by simp only[Fh,h1] at h2;split at h2<;>cases h2)⟩⟩
      ·simp[execOp,Instr.storeAt,Instr.sureAddr,hax,storeVar,Bl hi,hsz,hrun]
      ·exact SV.of (by simp[VR,VRs,undef])
      ·refine ⟨λb e hb=>?_,λb e k hb hk=>?_,hh.inj⟩
       ·have:=hh.dom b e hb;rw[Br];exact this
       ·exact BR.mono (Rle.refl _) (Bm (hf.off u q b e hq hb)) (hh.blk b e k hb hk)
      ·refine ⟨λt' r2 ht=>?_,λt' r' ht=>by rw[Br];exact hf.lt t' r' ht,hf.inj,hf.off⟩
       ·rw[Fh];by_cases e:u=t'
        ·subst e;rw[hq] at ht;injection ht with ht;subst ht;refine ⟨row',_,el,by simp[hrow],DK hqlt,?_⟩;refine VRs.of_get (by rw[hr'];simp[Dk] at hcl hle ⊢;omega) λp v hpv=>?_;rw[hr'] at hpv;simp at hcl hlen;simp only[ZK,ZV];by_cases c1:p<j
         ·rw[YV,YI (by simp;omega),ZH,if_pos c1] at hpv;obtain ⟨z,e1,e2⟩:=g3.get p v hpv;exact ⟨z,by rw[CT _ _ _ _ (.inl c1)];simpa using e1,e2⟩
         ·by_cases c2:p<j+(AV (ev σ.s y)).length
          ·rw[YV,Y1 (by simp;omega),YI (by simp;omega)] at hpv;have hpv':(AV (ev σ.s y))[p - j]?=some v:=by rw[<- hpv];congr 1;simp;omega
           obtain ⟨z,e1,e2⟩:=hcv.get _ v hpv';refine ⟨z,?_,e2⟩;rw[show p=j+(p - j) by omega,HQ _ _ _ _ (by simp;omega) (by simp;omega)];exact e1
          ·rw[Y1 (by simp;omega),Zc] at hpv;have hpv':row[p]?=some v:=by rw[<- hpv];congr 1;simp;omega
           obtain ⟨z,e1,e2⟩:=g3.get p v hpv';exact ⟨z,by rw[CT _ _ _ _ (.inr (by simp;omega))];simpa using e1,e2⟩
        ·simp only[e,if_false];obtain ⟨row2,cs2,el2,k1,k2,k3⟩:=hf.has t' r2 ht;refine ⟨row2,cs2,el2,k1,?_,k3⟩;have hne:r2≠q:=λhqq=>by subst hqq;exact e (hf.inj u t' r2 hq ht)
         rw[Bm hne];exact k2
      ·refine ⟨Rle.refl _,λb e h1 h2=>(by rw[h1] at h2;cases h2),λr' hr' hfr=>?_,(by rw[Br];exact YH _),rfl,rfl,rfl,YH _,λ_ _ _=>rfl,λb h1 h2=>absurd h2 (Z9.2 h1)⟩;exact Bm (by have:=hown u q hq;omega)
     ·cases hk
    ·cases hk
   ·rename_i p hx
    obtain ⟨⟨b,i,j⟩,rfl,hk1⟩:=AF hk;obtain ⟨e,hb,hax⟩:=Pw hs hx;obtain ⟨h',hst,hk2⟩:=AF hk1;obtain ⟨R',el,rs,row,row',hkb,hlo,hr,hp,rfl⟩:=WD hst;obtain ⟨cs,fr,g1,g2,g3,g4,g5,g6,g7,g8⟩:=hh.blk b e _ hb hkb;obtain ⟨rfl,ho⟩:=g2 rfl;obtain ⟨hle,hr'⟩:=Ej hp;have hrl:=(g7 i row hr).1;have hil:i<rs.length:=(YE.1 hr).1;have hbig:i*R'+R'<=rs.length*R':=by have:=Zb R' (show i+1<=rs.length from hil);rw[Zu,Nat.one_mul] at this;exact this
    have hbig2:rs.length*R'<=e.m*R':=Zb R' (by omega);simp at hlen;have hrun:=CQ (P:=P) (a.eval y).cells.toList w e.r (e.o+(i*e.R+j)) 0 cs el g1 (by simp only[Array.length_toList];rw[g3];simp only at hle hrl ⊢;omega) hone;have hqlt:e.r<w.heap.size:=(hh.dom b e hb).2;refine ⟨Cf w e.r (.cells (EC cs (e.o+(i*e.R+j)+0) (a.eval y).cells.toList) el (0,0)),.inr ⟨?_,_,_,hk2,ρ,β,rfl,SV.of (by simp[VR,VRs,undef]),?_,?_,?_,Ble.refl _,λt r h1 h2=>(by rw[h1] at h2;cases h2),JR⟩⟩
    ·simp[execOp,Instr.storeAt,Instr.sureAddr,hax,storeVar,Bl hi,hsz,hrun]
    ·refine hh.write hb hkb (by simp) (So hkb) (λ_ _ _ h=>by cases h) Br (λr' hr'=>Bm hr') ?_;refine ⟨_,(0,0),DK hqlt,λ_=>⟨rfl,ho⟩,g3,by simpa using g4,g5,by rw[Dk];exact g6,?_,.inl (Hr (g8.resolve_right λh=>by cases h.1) hone)⟩;rw[g3,ZK];exact g7.paste hr hp hcv (by omega)
    ·exact hf.ext (lo:=lo) (h:=σ.h) (h':=σ.h.set b (.rows R' el false (rs.set i row'))) (Ext.write (h:=σ.h) (k' := .rows R' el false (rs.set i row')) hb hlo Br (λr' hr'=>Bm hr') rfl rfl rfl)
    ·exact (Ext.write hb hlo Br (λr' hr'=>Bm hr') rfl rfl rfl).weaken (YH _) hB
   ·cases hk
  ·cases hk
 ·cases hk
end
end Go.Proofs.YtoocmbhkaghgnaaGreat.T
namespace Go.Proofs.YtoocmbhkaghgnaaGreat.T
open Go
variable {k:IntKind}{c:Value}{b:ByteArray}{x:Operand}{xs:List V}{xo yo:Operand}{cx cy:Value}{op:BinOp}
structure EqOk (P:Program) (t:TypeId):Prop where
 eq:∀ (ρ:Rho) (w:World) (xs ys:List V) (ca cb:Array Value) (r:Bool),Co (Az P t).sh xs=true->Co (Az P t).sh ys=true->VRs ρ xs ca.toList->VRs ρ ys cb.toList ->
  DO xs ys=some r->(Op.equal t (.agg ca) (.agg cb)).run P w = .ok r w
 guard:P.eqGuardType P.depth t=false
 key:∀ (ρ:Rho) (w:World) (xs:List V) (ca:Array Value) (b:Bool),Co (Az P t).sh xs=true->VRs ρ xs ca.toList->(Instr.checkKey b 10000 t (.agg ca)).run P w = .ok () w
 kind:∃ fs,P.underlying t=some (.struct fs)
section
variable {P:Program}
theorem Fe {t:TypeId}{s:Sh} (h:(Az P t).one s=true):∃ d,P.underlying t=some d/\match s with
  | .bool=>d = .bool | .str=>d = .string | .sl _=>∃ e,d = .slice e | .ifc=>∃ m,d = .interface m | .int k=>d = .int k | _=>False:=by
 unfold TI.one at h;split at h
 ·rename_i s' hag hkn hsh
  obtain ⟨i,d,hi,hd,h1,h2,h3,h4,h5⟩:=Ba hkn;refine ⟨d,hd,?_⟩;have hs:(Az P t).sh=C0 P 8 t:=by unfold Az;simp[hi,hd]
  rw[hs] at hsh;rw[h3] at hag;simp only[C0,hd] at hsh;cases d<;>simp[Ke] at hag<;>simp at hsh<;>subst hsh<;>cases s<;>simp at h ⊢ <;> exact h.symm
 ·cases h
end
section
variable {P:Program}{lo base:Nat}{ρ:Rho}{β:Bet}{σ:St}{a:Act}{w:World}{R:Type}{r:R}{K:V->St->Option R}{X:Ctx}
variable {dst:Option Nat}{ty:TypeId}{pos:String}{after:Array Edge}{guard:Option (Nat×Bool)}
theorem SV.int {k:IntKind}{n:Int}{c:Value} (h:SV ρ β (.int k n) c):c = .int k n:=by simpa [SV,VR] using h
theorem SV.bool {b:Bool}{c:Value} (h:SV ρ β (.bool b) c):c = .bool b:=by simpa [SV,VR] using h
theorem SV.str (h:SV ρ β (.str b) c):c = .string b:=by simpa [SV,VR] using h
theorem SV.nili (h:SV ρ β .nili c):c = .nilIface:=by simpa [SV,VR] using h
theorem SV.ifc {t:Nat}{x:V} (h:SV ρ β (.ifc t x) c):∃ y,c = .iface t y/\VR ρ x y:=by simpa [SV,VR] using h
theorem SV.agg {xs:List V}{c:Value} (h:SV ρ β (.agg xs) c):∃ ys,c = .agg ys/\VRs ρ xs ys.toList:=by simpa [SV,VR] using h
theorem SV.tup (h:SV ρ β (.tup xs) c):∃ ys,c = .tuple ys/\VRs ρ xs ys.toList:=by simpa [SV,VR] using h
theorem SV.fn {f:Nat} (h:SV ρ β (.fn f xs) c):∃ fst cps ys,c = .func (.func f) fst cps/\WZ xs fst cps ys/\VRs ρ xs ys:=by simpa [SV,VR] using h
theorem SV.slNil {R' n:Nat}{cc:Option Nat} (h:SV ρ β (.sl R' none n cc) c):n=0/\cc=some 0/\c = .slice none 0 0:=by simpa [SV,VR] using h
theorem SV.sl {R' b i n:Nat}{c:Option Nat}{v:Value} (h:SV ρ β (.sl R' (some (b,i)) n c) v):∃ e x cc,ρ b=some e/\e.R=R'/\v = .slice (some x) n cc/\(cc=0\/x=⟨e.r,e.o+i*e.R,none⟩)/\n<=cc/\(∀ y,c=some y->cc=y)/\(c=none->i+cc=e.m/\e.o=0):=by simpa only [SV,VR] using h
theorem SV.ptr {b i j:Nat} (h:SV ρ β (.ptr (some (b,i,j))) c):∃ e,ρ b=some e/\c = .pointer (some ⟨e.r,e.o+(i*e.R+j),none⟩):=by simpa [SV,VR] using h
theorem SV.map {b:Nat}{c:Value} (h:SV ρ β (.map (some b)) c):∃ e,ρ b=some e/\c = .map (some e.r):=by simpa [SV,VR] using h
theorem VR.int' {n:Int}:VR ρ (.int k n) (.int k n):=by simp[VR]
theorem VR.bool' {b:Bool}:VR ρ (.bool b) (.bool b):=by simp[VR]
theorem VR.str':VR ρ (.str b) (.string b):=by simp[VR]
theorem Rr (d:Nat) {t:TypeId}{ms:Array (String×TypeId)} (hd:P.underlying t=some (.interface ms)) (t1:TypeId) (y1:Value):(Op.equalIn (d+1) t (.iface t1 y1) .nilIface).run P w = .ok false w:=by simp[Op.equalIn,run_underlying hd]
theorem Rq (d:Nat) {t:TypeId}{ms:Array (String×TypeId)} (hd:P.underlying t=some (.interface ms)):(Op.equalIn (d+1) t .nilIface .nilIface).run P w = .ok true w:=by simp[Op.equalIn,run_underlying hd]
theorem HE {b:Bool}{k:V->Option R} (h:Xs b k=some r):k (.bool b)=some r:=by cases b<;>simpa [Xs,br] using h
theorem Rv (hs:SRel ρ β σ.s a) (hh:HRel ρ σ.h w) (hf:FRel ρ β σ.bx w) (hk:opT X lo dst ty (.nilCheck x) σ K=some r) :
  DG P lo base ρ β σ a w ⟨dst,.nilCheck x,ty,pos,after,guard⟩ K r:=by
 have hx:=BH hs x;simp only[opT] at hk;split at hk
 ·rename_i u j he
  rw[he] at hx;have hx':=hx;obtain ⟨q,h1,h2⟩:=hx;exact AG (c:=a.eval x) (by simp[execOp,h2]) hh hf hx' hk
 ·rename_i p he
  obtain ⟨⟨b,i,j⟩,rfl,hk1⟩:=AF hk;rw[he] at hx;obtain ⟨e,h1,h2⟩:=hx.ptr;exact AG (c:=a.eval x) (by simp[execOp,h2]) hh hf hx hk1
 ·rename_i f cs he
  rw[he] at hx;obtain ⟨fst,cps,ys,h1,h2⟩:=hx.fn;exact AG (c:=a.eval x) (by simp[execOp,h1]) hh hf hx hk
 ·cases hk
theorem TD (hX:X.ty=Az P) (hE:∀ t,X.cmp t=true->EqOk P t) {t:TypeId}{x y:V} (hx:SV ρ β x cx) (hy:SV ρ β y cy) {f:Bool->Option R}
  (hk:eql X t (FO xo || FO yo) x y f=some r):∃ b,f b=some r/\(∀ op,(eqGuard op t xo yo cx cy).run P w = .ok () w) /\
   (Go.binOp .eql t cx cy).run P w = .ok (.bool b) w/\(Go.binOp .neq t cx cy).run P w = .ok (.bool !b) w:=by
 unfold eql at hk;split at hk
 ·rename_i a1 m b1 n
  obtain ⟨h1,h2⟩:=At hk;have h1:=of_decide_eq_true h1;subst h1;cases hx.int;cases hy.int;exact ⟨_,h2,λop=>by cases op<;>simp[eqGuard],by simp[Go.binOp,Op.intCmp],by simp[Go.binOp,Op.intCmp,bne]⟩
 ·rename_i s u
  cases hx.str;cases hy.str;exact ⟨_,hk,λop=>by cases op<;>simp[eqGuard],by simp[Go.binOp,Op.stringOp],by simp[Go.binOp,Op.stringOp]⟩
 ·rename_i b1 b2
  obtain ⟨h1,h2⟩:=At hk;rw[hX] at h1;obtain ⟨d,hd,rfl⟩:=Fe h1;cases hx.bool;cases hy.bool;exact ⟨_,h2,λop=>by cases op<;>simp[eqGuard],by simp[Go.binOp,run_equal_bool w t _ _ hd],by simp[Go.binOp,run_equal_bool w t _ _ hd]⟩
 ·rename_i R1 a1 n1 c1 R2 b1 n2 c2
  split at hk
  ·obtain ⟨h1,h2⟩:=At hk;rw[hX] at h1;obtain ⟨d,hd,e,rfl⟩:=Fe h1;obtain ⟨rfl,rfl,rfl⟩:=hy.slNil;have:∃ p l k,cx = .slice p l k/\p.isNone=a1.isNone:=by
    cases a1 with
    | none=>obtain ⟨_,_,rfl⟩:=hx.slNil;exact ⟨_,_,_,rfl,rfl⟩
    | some q=>obtain ⟨b,i⟩:=q;obtain ⟨_,_,_,_,_,rfl,_⟩:=hx.sl;exact ⟨_,_,_,rfl,rfl⟩
   obtain ⟨p,l,k,rfl,hp⟩:=this;exact ⟨_,h2,λop=>by cases op<;>simp[eqGuard],by simp[Go.binOp,run_equal_slice_nil w t e p l k hd,hp],by simp[Go.binOp,run_equal_slice_nil w t e p l k hd,hp]⟩
  ·cases hk
 ·rename_i t1 x1
  obtain ⟨h1,h2⟩:=At hk;rw[hX] at h1;obtain ⟨d,hd,ms,rfl⟩:=Fe h1;obtain ⟨y1,rfl,_⟩:=hx.ifc;cases hy.nili;have he:(Op.equal t (.iface t1 y1) .nilIface).run P w = .ok false w:=Rr 9999 hd t1 y1;exact ⟨_,h2,λop=>by cases op<;>simp[eqGuard],by simp[Go.binOp,he],by simp[Go.binOp,he]⟩
 ·obtain ⟨h1,h2⟩:=At hk;simp only[YQ] at h1;obtain ⟨h1,hc⟩:=h1;rw[hX] at h1;obtain ⟨d,hd,ms,rfl⟩:=Fe h1;cases hx.nili;cases hy.nili;have he:(Op.equal t .nilIface .nilIface).run P w = .ok true w:=Rq 9999 hd;refine ⟨_,h2,λop=>?_,by simp[Go.binOp,he],by simp[Go.binOp,he]⟩;simp only[Ze] at hc;rcases hc with hc | hc
  ·cases xo<;>simp[FO] at hc
   cases op<;>simp[eqGuard]
  ·cases yo<;>simp[FO] at hc
   cases op<;>simp[eqGuard]
 ·rename_i xs ys
  obtain ⟨h1,h2⟩:=At hk;simp only[YQ] at h1;obtain ⟨⟨hcmp,hs1⟩,hs2⟩:=h1;obtain ⟨b,hb,h3⟩:=AF h2;rw[hX] at hs1 hs2;obtain ⟨ca,rfl,hva⟩:=hx.agg;obtain ⟨cb,rfl,hvb⟩:=hy.agg;have hq:=hE t hcmp;have he:=hq.eq ρ w xs ys ca cb b hs1 hs2 hva hvb hb;refine ⟨_,h3,λop=>run_eqGuard_agg w op t xo yo ca cb hq.guard,by simp[Go.binOp,he],by simp[Go.binOp,he]⟩
 ·cases hk
theorem DW {t:TypeId} (h:op ≠ .eql) (h':op ≠ .neq):(eqGuard op t xo yo cx cy).run P w = .ok () w:=by cases op<;>simp[eqGuard] at h h' ⊢
theorem UZ (hX:X.ty=Az P) (hE:∀ t,X.cmp t=true->EqOk P t) {t:TypeId}{x y:V} (hx:SV ρ β x cx) (hy:SV ρ β y cy) {k:V->Option R}
  (hk:binOp X op t (FO xo || FO yo) x y k=some r):∃ v cv,k v=some r/\VR ρ v cv/\(eqGuard op t xo yo cx cy).run P w = .ok () w/\(Go.binOp op t cx cy).run P w = .ok cv w:=by
 unfold binOp at hk;split at hk
 ·obtain ⟨b,h1,h2,h3,h4⟩:=TD (w:=w) hX hE hx hy hk;exact ⟨_,_,HE h1,VR.bool',h2 _,h3⟩
 ·obtain ⟨b,h1,h2,h3,h4⟩:=TD (w:=w) hX hE hx hy hk;refine ⟨.bool !b,_,?_,VR.bool',h2 _,h4⟩;cases b<;>simpa [br] using h1
 ·split at hk
  ·obtain ⟨h1,h2⟩:=At hk;have h1:=of_decide_eq_true h1;subst h1;cases hx.int;cases hy.int;exact ⟨_,_,h2,VR.int',DW (by simp) (by simp),by simp[Go.binOp,Op.intArith]⟩
  ·rw[S1] at hk;obtain ⟨h1,h2⟩:=At hk;have h1:=of_decide_eq_true h1;cases hx.str;cases hy.str;refine ⟨_,_,h2,VR.str',DW (by simp) (by simp),?_⟩;simp only[Go.binOp,Op.stringOp];rw[if_neg (by omega)];rfl
  ·cases hk
 ·split at hk
  ·obtain ⟨h1,h2⟩:=At hk;have h1:=of_decide_eq_true h1;subst h1;cases hx.int;cases hy.int;exact ⟨_,_,h2,VR.int',DW (by simp) (by simp),by simp[Go.binOp,Op.intArith]⟩
  ·cases hk
 ·split at hk
  ·obtain ⟨h1,h2⟩:=At hk;have h1:=of_decide_eq_true h1;subst h1;cases hx.int;cases hy.int;exact ⟨_,_,h2,VR.int',DW (by simp) (by simp),by simp[Go.binOp,Op.intArith]⟩
  ·cases hk
 ·split at hk
  ·obtain ⟨h1,h2⟩:=At hk;have h1:=of_decide_eq_true h1;subst h1;obtain ⟨h3,h4⟩:=At h2;have h3:=of_decide_eq_true h3;cases hx.int;cases hy.int;exact ⟨_,_,h4,VR.int',DW (by simp) (by simp),by simp[Go.binOp,Op.intDiv,h3]⟩
  ·cases hk
 ·split at hk
  ·obtain ⟨h1,h2⟩:=At hk;have h1:=of_decide_eq_true h1;subst h1;obtain ⟨h3,h4⟩:=At h2;have h3:=of_decide_eq_true h3;cases hx.int;cases hy.int;exact ⟨_,_,h4,VR.int',DW (by simp) (by simp),by simp[Go.binOp,Op.intDiv,h3]⟩
  ·cases hk
 ·split at hk
  ·obtain ⟨h1,h2⟩:=At hk;have h1:=of_decide_eq_true h1;subst h1;cases hx.int;cases hy.int;exact ⟨_,_,HE h2,VR.bool',DW (by simp) (by simp),by simp[Go.binOp,Op.intCmp]⟩
  ·cases hk
 ·split at hk
  ·obtain ⟨h1,h2⟩:=At hk;have h1:=of_decide_eq_true h1;subst h1;cases hx.int;cases hy.int;exact ⟨_,_,HE h2,VR.bool',DW (by simp) (by simp),by simp[Go.binOp,Op.intCmp]⟩
  ·cases hk
 ·split at hk
  ·obtain ⟨h1,h2⟩:=At hk;have h1:=of_decide_eq_true h1;subst h1;cases hx.int;cases hy.int;exact ⟨_,_,HE h2,VR.bool',DW (by simp) (by simp),by simp[Go.binOp,Op.intCmp]⟩
  ·cases hk
 ·split at hk
  ·obtain ⟨h1,h2⟩:=At hk;have h1:=of_decide_eq_true h1;subst h1;cases hx.int;cases hy.int;exact ⟨_,_,HE h2,VR.bool',DW (by simp) (by simp),by simp[Go.binOp,Op.intCmp]⟩
  ·cases hk
 ·split at hk
  ·obtain ⟨h1,h2⟩:=At hk;have h1:=of_decide_eq_true h1;subst h1;cases hx.int;cases hy.int;exact ⟨_,_,h2,VR.int',DW (by simp) (by simp),by simp[Go.binOp,Op.intBits]⟩
  ·cases hk
 ·cases hk
theorem Wc (hX:X.ty=Az P) (hE:∀ t,X.cmp t=true->EqOk P t) (hs:SRel ρ β σ.s a) (hh:HRel ρ σ.h w) (hf:FRel ρ β σ.bx w) {t:TypeId}{y:Operand}{u:TypeId}
  (hk:opT X lo dst ty (.binOp op t x y u) σ K=some r):DG P lo base ρ β σ a w ⟨dst,.binOp op t x y u,ty,pos,after,guard⟩ K r:=by
 simp only[opT] at hk;obtain ⟨v,cv,h1,h2,h3,h4⟩:=UZ (w:=w) hX hE (BH hs x) (BH hs y) hk;exact AG (c:=cv) (by simp[execOp,h3,h4]) hh hf (SV.of h2) h1
theorem Xm (hs:SRel ρ β σ.s a) (hh:HRel ρ σ.h w) (hf:FRel ρ β σ.bx w) {op:UnOp}{t:TypeId}
  (hk:opT X lo dst ty (.unOp op t x) σ K=some r):DG P lo base ρ β σ a w ⟨dst,.unOp op t x,ty,pos,after,guard⟩ K r:=by
 have hx:=BH hs x;simp only[opT] at hk;unfold unOp at hk;split at hk
 ·obtain ⟨b,hb,hk1⟩:=Jr hk;rw[hb] at hx;exact AG (c := .bool !b) (by simp[execOp,hx.bool,Op.unary]) hh hf (SV.of (by simp[VR])) hk1
 ·split at hk
  ·rename_i k m he
   rw[he] at hx;exact AG (c := .int k (k.wrap (0 - m))) (by simp[execOp,hx.int,Op.unary,Op.intArith]) hh hf (SV.of (by simp[VR])) hk
  ·cases hk
 ·cases hk
theorem Yz {t:TypeId} (h:(Az P t).sh ≠ []):∃ i d,P.info? t=some i/\P.underlying t=some d/\(Az P t).sh=C0 P 8 t:=by
 unfold Az at h ⊢;cases hi:P.info? t with
 | none=>simp[hi,TI.none] at h
 | some i =>
  cases hd:P.underlying t with
  | none=>simp[hi,hd,TI.none] at h
  | some d=>exact ⟨i,d,rfl,rfl,rfl⟩
theorem Rw (hs:SRel ρ β σ.s a) (hh:HRel ρ σ.h w) (hf:FRel ρ β σ.bx w) {f:Fn}{fst cs:Array Operand}
  (hk:opT X lo dst ty (.makeFunc f fst cs) σ K=some r):DG P lo base ρ β σ a w ⟨dst,.makeFunc f fst cs,ty,pos,after,guard⟩ K r:=by
 simp only[opT] at hk;split at hk
 ·rename_i g hfst
  split at hk
  ·rename_i hok
   rw[YQ] at hok;have hv:=Jo hs cs.toList hok.1;have:fst = #[]:=by cases fst;simp at hfst;subst hfst;rfl
   subst this;refine AG (c := .func (.func g) #[] (cs.map a.eval)) (by simp[execOp,Instr.makeFunc]) hh hf (SV.of ?_) hk;simp only[VR];refine ⟨#[],cs.map a.eval,(cs.map a.eval).toList,rfl,?_,by simpa using hv⟩;have hnt:=hok.2;unfold WZ;split
   ·rename_i he;rw[he] at hnt;cases hnt
   ·exact ⟨rfl,rfl⟩
  ·cases hk
 ·rename_i g x xs hfst
  split at hk
  ·rename_i hok
   rw[YQ] at hok;have hv:=Jo hs cs.toList hok.2;have hv1:=Jo hs (x :: xs) hok.1;refine AG (c := .func (.func g) (fst.map a.eval) (cs.map a.eval)) (by simp[execOp,Instr.makeFunc]) hh hf (SV.of ?_) hk;simp only[VR];refine ⟨fst.map a.eval,cs.map a.eval,.tuple (fst.map a.eval) ::(cs.map a.eval).toList,rfl,rfl,?_⟩;simp only[VRs];refine ⟨_,_,rfl,?_,by simpa using hv⟩;simp only[VR];exact ⟨_,rfl,by simpa [hfst] using hv1⟩
  ·cases hk
 ·cases hk
theorem ST (hs:SRel ρ β σ.s a) (hh:HRel ρ σ.h w) (hf:FRel ρ β σ.bx w) {i:Nat}
  (hk:opT X lo dst ty (.extract x i) σ K=some r):DG P lo base ρ β σ a w ⟨dst,.extract x i,ty,pos,after,guard⟩ K r:=by
 have hx:=BH hs x;simp only[opT] at hk;split at hk
 ·rename_i cs he
  rw[he] at hx;obtain ⟨ys,h1,h2⟩:=hx.tup;split at hk
  ·rename_i v hv
   obtain ⟨y,h3,h4⟩:=h2.get i v hv;exact AG (c:=y) (by simp at h3;simp[execOp,h1,Instr.extract,h3]) hh hf (SV.of h4) hk
  ·cases hk
 ·cases hk
end
end Go.Proofs.YtoocmbhkaghgnaaGreat.T
namespace Go.Proofs.YtoocmbhkaghgnaaGreat.T
open Go
variable {i:TypeInfo}{z:Value}
section
variable {P:Program}
def Kn (P:Program) (t:TypeId):Sh->Prop
 | .bool=>P.underlying t=some .bool
 | .str=>P.underlying t=some .string
 | .int k=>P.underlying t=some (.int k)
 | _=>True
theorem H5 {t:TypeId}{s:Sh} (h:(Az P t).cell=s):Kn P t s:=by
 unfold TI.cell at h;split at h
 ·rename_i s' hag hkn hsh
  obtain ⟨i,d,hi,hd,h1,h2,h3,h4,h5⟩:=Ba hkn;have hs:(Az P t).sh=C0 P 8 t:=by unfold Az;simp[hi,hd]
  rw[hs] at hsh;rw[h3] at hag;simp only[C0,hd] at hsh;subst h;cases d<;>simp[Ke] at hag<;>simp at hsh<;>subst hsh<;>simp[hd,Kn]
 ·subst h;trivial
theorem Mt {ρ:Rho}{place:Nat->Option (Nat×Nat)}:∀ (ps:List (Nat×V)) (qs:List (Nat×Value)) (cells out:List V) (cs:Array Value),
  Wv ps=true->ps.length=qs.length->(∀ (i:Nat) (p:Nat×V),ps[i]?=some p->∃ q:Nat×Value,qs[i]?=some q/\q.1=p.1/\VR ρ p.2 q.2)->VRs ρ cells cs.toList->lay place cells ps=some out ->
  ∃ co,Instr.fill place cs qs=some co/\VRs ρ out co.toList/\co.size=cs.size
 | [],qs,cells,out,cs,_,hl,_,hv,h=>by have:qs = []:=YM (by simpa using hl.symm);subst this;simp only[lay,Option.some.injEq] at h;subst h;exact ⟨cs,rfl,hv,rfl⟩
 | (i,v) :: ps,[],cells,out,cs,_,hl,_,hv,h=>by simp at hl
 | (i,v) :: ps,(i',c) :: qs,cells,out,cs,hok,hl,hq,hv,h=>by
  simp only[Wv] at hok;split at hok
  ·rename_i hfm
   obtain ⟨q0,e1,e2,e3⟩:=hq 0 (i,v) (by simp);simp at e1;subst e1;simp only at e2 e3;subst e2;have hcv:=DN e3 hfm;have hlen:=hcv.length;simp only[lay] at h;split at h
   ·rename_i off size hp
    split at h
    ·rename_i hb
     have hb:=YL hb;split at h
     ·rename_i cells' hpa
      obtain ⟨g1,g2⟩:=Ej hpa;have hcl:=hv.length;simp at hlen hcl;have hf:∀ (l:List Value) (j:Nat) (cs:Array Value),(l.zipIdx j).foldl (λcs p=>cs.setIfInBounds (off+p.2) p.1) cs=EC cs (off+j) l:=by
       intro l;induction l with
       | nil=>intro j cs;rfl
       | cons x l ih=>intro j cs;simp only[List.zipIdx_cons,Zy,EC];rw[ih];rfl
      have hrel:VRs ρ cells' (EC cs off c.cells.toList).toList:=by
       refine VRs.of_get (by rw[g2];simp[Dk];omega) λp x hpx=>?_;rw[g2] at hpx;simp only[ZV];by_cases c1:p<off
       ·rw[YV,YI (by simp;omega),ZH,if_pos c1] at hpx;obtain ⟨z,k1,k2⟩:=hv.get p x hpx;exact ⟨z,by rw[CT _ _ _ _ (.inl c1)];simpa using k1,k2⟩
       ·by_cases c2:p<off+(AV v).length
        ·rw[YV,Y1 (by simp;omega),YI (by simp;omega)] at hpx;have hpx':(AV v)[p - off]?=some x:=by rw[<- hpx];congr 1;simp;omega
         obtain ⟨z,k1,k2⟩:=hcv.get _ x hpx';refine ⟨z,?_,k2⟩;rw[show p=off+(p - off) by omega,HQ _ _ _ _ (by simp;omega) (by simp;omega)];exact k1
        ·rw[Y1 (by simp;omega),Zc] at hpx;have hpx':cells[p]?=some x:=by rw[<- hpx];congr 1;simp;omega
         obtain ⟨z,k1,k2⟩:=hv.get p x hpx';exact ⟨z,by rw[CT _ _ _ _ (.inr (by simp;omega))];simpa using k1,k2⟩
      obtain ⟨co,k1,k2,k3⟩:=Mt ps qs cells' out (EC cs off c.cells.toList) hok (by simpa using hl) (λj p hj=>by simpa using hq (j+1) p (by simpa using hj)) hrel h;refine ⟨co,?_,k2,by rw[k3,Dk]⟩;simp only[Instr.fill,hp];rw[if_neg (by simp;omega)];have:=hf c.cells.toList 0 cs;rw[ZK] at this;rw[<- this] at k1;rw[<- k1];congr 1;rw[<- Array.foldl_toList];simp
     ·cases h
    ·cases h
   ·cases h
  ·cases hok
end
section
variable {P:Program}{lo base:Nat}{ρ:Rho}{β:Bet}{σ:St}{a:Act}{w:World}{R:Type}{r:R}{K:V->St->Option R}{X:Ctx}
variable {dst:Option Nat}{ty:TypeId}{pos:String}{after:Array Edge}{guard:Option (Nat×Bool)}
theorem Tz {s:List (Nat×V)}:∀ (ps:List (Nat×Operand)) (i:Nat) (p:Nat×V),(OI s ps)[i]?=some p->∃ x,ps[i]?=some (p.1,x)/\p.2=ev s x
 | [],i,p,h=>by simp[OI] at h
 | (j,x) :: ps,0,p,h=>by simp[OI] at h;subst h;exact ⟨x,by simp,rfl⟩
 | (j,x) :: ps,i+1,p,h=>by simpa [OI] using Tz ps i p (by simpa [OI] using h)
theorem IA {s:List (Nat×V)}:∀ (ps:List (Nat×Operand)),(OI s ps).length=ps.length
 | []=>rfl
 | (j,x) :: ps=>by simp[OI,IA ps]
theorem Tj:∀ {ps:List (Nat×V)},Wv ps=true->∀ (i:Nat) (p:Nat×V),ps[i]?=some p->Cm (AV p.2)=true
 | [],_,i,p,h=>by simp at h
 | (j,v) :: ps,hok,i,p,h=>by
  simp only[Wv] at hok;split at hok
  ·cases i with
   | zero=>simp at h;subst h;assumption
   | succ i=>exact Tj hok i p (by simpa using h)
  ·cases hok
theorem Tx (hs:SRel ρ β σ.s a) {ps:Array (Nat×Operand)} (hok:Wv (OI σ.s ps.toList)=true):∀ (i:Nat) (p:Nat×V),(OI σ.s ps.toList)[i]?=some p->∃ q:Nat×Value,(ps.map λ(i,x)=>(i,a.eval x)).toList[i]?=some q/\q.1=p.1/\VR ρ p.2 q.2:=by intro i p hp;have hfm:=Tj hok i p hp;obtain ⟨x,h1,h2⟩:=Tz _ i p hp;simp at h1;refine ⟨(p.1,a.eval x),by simp[h1],rfl,?_⟩;rw[h2] at hfm ⊢;exact (BH hs x).ok (I3 hfm)
theorem IK {t:TypeId} (hz:(Az P t).hz=true) (hfm:Cm (Az P t).zero=true):∃ i z,P.info? t=some i/\i.zero=some z/\z.cells.size=i.size/\(Az P t).size=i.size/\(Az P t).zero.length=i.size/\∀ ρ,VRs ρ (Az P t).zero z.cells.toList:=by
 have hkn:(Az P t).known=true\/P.info? t=none\/P.underlying t=none\/True := .inr (.inr (.inr trivial));cases hi:P.info? t with
 | none=>unfold Az at hz;simp[hi,TI.none] at hz
 | some i =>
  cases hd:P.underlying t with
  | none=>unfold Az at hz;simp[hi,hd,TI.none] at hz
  | some d =>
   have e1:(Az P t).hz=(match i.zero with | some v=>Nat.beq v.cells.size i.size&&Ly (Ke d) v | none=>false):=by unfold Az;simp only[hi,hd]<;>rfl
   have e2:(Az P t).zero=(match i.zero with | some v=>AV (ofValue v) | none => []):=by unfold Az;simp only[hi,hd]<;>rfl
   have e3:(Az P t).size=i.size:=by unfold Az;simp[hi,hd]
   rw[e1] at hz;cases hzz:i.zero with
   | none=>simp[hzz] at hz
   | some z =>simp only[hzz,YQ] at hz e2;have hsz:=YL hz.1;refine ⟨i,z,rfl,hzz,hsz,e3,by rw[e2,Ef,hsz],λρ=>?_⟩;rw[e2] at hfm ⊢;exact DN (Dd ρ z) hfm
theorem Vy {t:TypeId} (hkn:(Az P t).known=true) (hz:(Az P t).hz=true) (hi:P.info? t=some i) (hzz:i.zero=some z):VR ρ (XM (Az P t).agg (Az P t).zero) z:=by
 obtain ⟨i',d,hi',hd,s1,s2,s3,s4,s5⟩:=Ba hkn;rw[hi] at hi';injection hi' with hi';subst hi';rw[s5] at hz;simp only[hzz,YQ] at hz s4;rw[s3,s4];have hv:=Dd ρ z;cases hA:Ke d with
 | true =>
  rw[hA] at hz;cases z<;>simp[Ly] at hz
  simpa [XM,AV,ofValue] using hv
 | false =>
  rw[hA] at hz;have h1:AV (ofValue z) = [ofValue z]:=by
   cases z with
   | agg _=>simp[Ly] at hz
   | slice a n c=>cases a<;>simp only[ofValue]<;>(try split)<;>rfl
   | pointer a=>cases a<;>rfl
   | map a=>cases a<;>rfl
   | _=>rfl
  rw[h1];exact hv
theorem CX {t:TypeId} (hi:P.info? t=some i) (hz:i.zero=some z):(zeroValue t).run P w = .ok z w:=by simp[zeroValue,typeInfo,hi,hz]
theorem KE (hX:X.ty=Az P):∀ (fs:List Field),FC X (fs.map λf=>(f.offset,f.type))=true ->
  (fs.mapM λf=>(do pure (f.offset,<- sizeOf f.type):Sem (Nat×Nat))).run P w = .ok (fs.map λf=>(f.offset,(X.ty f.type).size)) w
 | [],_=>by simp
 | f :: fs,h=>by
  simp only[Z5,FC] at h;split at h
  ·rename_i hkn
   rw[hX] at hkn;obtain ⟨i,d,hi,hd,h1,_⟩:=Ba hkn;have ih:=KE hX fs h;simp only[List.mapM_cons,Sem.run_bind,Bl hi,Result.andThen_ok,Sem.run_pure,ih,Z5,hX,h1]
  ·cases h
theorem Wb (hX:X.ty=Az P) (hs:SRel ρ β σ.s a) (hh:HRel ρ σ.h w) (hf:FRel ρ β σ.bx w) {t:TypeId}{ps:Array (Nat×Operand)}
  (hk:opT X lo dst ty (.build t ps) σ K=some r):DG P lo base ρ β σ a w ⟨dst,.build t ps,ty,pos,after,guard⟩ K r:=by
 simp only[opT] at hk;split at hk
 ·rename_i hz
  simp only[YQ] at hz;obtain ⟨⟨hok,hz⟩,hfm⟩:=hz;rw[hX] at hz hfm;obtain ⟨i,z,hi,hzz,hsz,e1,e2,e3⟩:=IK hz hfm;have hrel:=Tx hs hok;have hlen:(OI σ.s ps.toList).length=(ps.map λ(i,x)=>(i,a.eval x)).toList.length:=by simp[IA]
  split at hk
  ·rename_i fs hty
   rw[hX] at hty;obtain ⟨gs,hu,hfs,hkn,_⟩:=JL hty;obtain ⟨hall,hk1⟩:=At hk;obtain ⟨cs,hlay,hk2⟩:=AF hk1;rw[hX] at hlay;obtain ⟨co,k1,k2,k3⟩:=Mt _ _ _ _ z.cells hok hlen hrel (e3 ρ) hlay;refine AG (c := .agg co) ?_ hh hf (SV.of (by simp only[VR];exact ⟨co,rfl,k2⟩)) hk2;have hm:=KE (P:=P) (w:=w) (X:=X) hX gs.toList (by rw[<- hfs];exact hall);have hplace:(λi=>(gs.toList.map λf=>(f.offset,(X.ty f.type).size))[i]?)=Eh X fs:=by funext i;simp only[Eh,hfs,ZZ];cases gs.toList[i]?<;>rfl
   simp only[execOp,Instr.build,Sem.run_bind,CX hi hzz,Result.andThen_ok,AL hu,Array.mapM_eq_mapM_toList,Sem.run_map,hm];have k1':Instr.fill (Eh X fs) z.cells (ps.map λx=>(x.fst,a.eval x.snd)).toList=some co:=k1;have hp2:(λx=>(List.map (λf=>(f.offset,(X.ty f.type).size)) gs.toList).toArray[x]?)=Eh X fs:=by rw[<- hplace];funext i;rw[List.getElem?_toArray]
   rw[hp2,k1'];rfl
  ·rename_i n e hty
   rw[hX] at hty;obtain ⟨hu,hkn,_⟩:=Gu hty;obtain ⟨hall,hk1⟩:=At hk;obtain ⟨cs,hlay,hk2⟩:=AF hk1;rw[hX] at hall;obtain ⟨i',d',hi',hd',h1',_⟩:=Ba hall;rw[hX] at hlay;obtain ⟨co,k1,k2,k3⟩:=Mt _ _ _ _ z.cells hok hlen hrel (e3 ρ) hlay;refine AG (c := .agg co) ?_ hh hf (SV.of (by simp only[VR];exact ⟨co,rfl,k2⟩)) hk2;simp only[h1'] at k1;have k1':Instr.fill (λi=>some (i*i'.size,i'.size)) z.cells (ps.map λx=>(x.fst,a.eval x.snd)).toList=some co:=k1;simp only[execOp,Instr.build,Sem.run_bind,CX hi hzz,Result.andThen_ok,AL hu,Bl hi',k1',Sem.run_pure]
  ·cases hk
 ·cases hk
end
end Go.Proofs.YtoocmbhkaghgnaaGreat.T
namespace Go.Proofs.YtoocmbhkaghgnaaGreat.T
open Go
variable {rs:List (List V)}
section
variable {P:Program}{ρ:Rho}
theorem Mr:∀ {rs:List (List V)}{R i j:Nat}{row:List V}{v:V},(∀ row∈rs,row.length=R)->rs[i]?=some row->row[j]?=some v->rs.flatten[i*R+j]?=some v
 | [],R,i,j,row,v,_,h,_=>by simp at h
 | r :: rs,R,0,j,row,v,hl,h,hv=>by simp at h;subst h;have hj:j<r.length:=(YE.1 hv).1;rw[Y5,Nat.zero_mul,Zf,YI hj,hv]
 | r :: rs,R,i+1,j,row,v,hl,h,hv=>by have hr:=hl r (by simp);rw[Y5,Y1 (by rw[hr,Zu];omega),hr];have:=Mr (rs:=rs) (R:=R) (i:=i) (λx hx=>hl x (by simp[hx])) (by simpa using h) hv;rw[<- this];congr 1;rw[Zu];omega
theorem BX:∀ {rs:List (List V)}{R:Nat},(∀ row∈rs,row.length=R)->rs.flatten.length=rs.length*R
 | [],R,_=>by simp
 | r :: rs,R,hl=>by rw[Y5,Y6,hl r (by simp),BX (λx hx=>hl x (by simp[hx])),ZC,Zu];omega
theorem RowsR.flat {R o:Nat}{cs:Array Value} (hl:∀ row∈rs,row.length=R) (h:∀ j v,rs.flatten[j]?=some v->∃ c,cs[o+j]?=some c/\VR ρ v c):RowsR ρ R o rs cs :=
 λi row hi=>⟨hl row (YS hi),λj v hj=>h _ v (Mr hl hi hj)⟩
theorem RowsR.lens {R o:Nat}{cs:Array Value} (h:RowsR ρ R o rs cs):∀ row∈rs,row.length=R:=λrow hr=>by obtain ⟨i,hi⟩:=YX.1 hr;exact (h i row hi).1
theorem FR:∀ {rs:List (List V)}{R q:Nat}{v:V},(∀ row∈rs,row.length=R)->rs.flatten[q]?=some v->∃ i j row,rs[i]?=some row/\row[j]?=some v/\q=i*R+j
 | [],R,q,v,_,h=>by simp at h
 | r :: rs,R,q,v,hl,h=>by
  have hr:=hl r (by simp);rw[Y5] at h;by_cases hq:q<r.length
  ·rw[YI hq] at h;exact ⟨0,q,r,by simp,h,by simp⟩
  ·rw[Y1 (by omega)] at h;obtain ⟨i,j,row,h1,h2,h3⟩:=FR (λx hx=>hl x (by simp[hx])) h;refine ⟨i+1,j,row,by simpa using h1,h2,?_⟩;rw[Zu];omega
theorem RowsR.read {R o i n:Nat}{cs:Array Value} (h:RowsR ρ R o rs cs) (hn:i+n<=rs.length):∃ ys:List Value,VRs ρ ((rs.drop i).take n).flatten ys/\ys.length=n*R /\
  ∀ q y,ys[q]?=some y->cs[o+i*R+q]?=some y:=by
 have hl:∀ row∈(rs.drop i).take n,row.length=R:=λrow hr=>h.lens row (List.mem_of_mem_drop (zae hr));have hlen:((rs.drop i).take n).length=n:=by simp;omega
 have hfl:=BX hl;rw[hlen] at hfl;have key:∀ q v,((rs.drop i).take n).flatten[q]?=some v->∃ c,cs[o+i*R+q]?=some c/\VR ρ v c:=by
  intro q v hv;obtain ⟨i',j,row,h1,h2,h3⟩:=FR hl hv;rw[ZH] at h1;split at h1
  ·rw[Zc] at h1;obtain ⟨c,h4,h5⟩:=(h _ row h1).2 j v h2;refine ⟨c,?_,h5⟩;rw[<- h4,h3];congr 1;rw[Zu];omega
  ·cases h1
 refine ⟨(List.range (n*R)).map λq=>(cs[o+i*R+q]?).getD undef,VRs.of_get (by simp[hfl]) λq v hv=>?_,by simp,λq y hy=>?_⟩
 ·obtain ⟨c,h1,h2⟩:=key q v hv;have hq:q<n*R:=by have:=(YE.1 hv).1;omega
  exact ⟨c,by simp[hq,h1],h2⟩
 ·have hq:q<n*R:=by have:=(YE.1 hy).1;simpa using this
  obtain ⟨c,h1,_⟩:=key q _ (YU (by omega));simp[hq,h1] at hy;rw[h1,hy]
theorem KC:∀ {row cs:List V},cs.length=row.length->paste row 0 cs=some cs
 | row,[],h=>by have:row = []:=YM (by simpa using h.symm);subst this;rfl
 | [],c :: cs,h=>by simp at h
 | v :: row,c :: cs,h=>by simp only[paste];rw[KC (by simpa using h)]
theorem OG {size:Nat}:∀ (ps:List (Nat×V)) (qs:List (Nat×Value)) (rows out:List (List V)) (cs:Array Value),
  Wv ps=true->ps.length=qs.length->(∀ (i:Nat) (p:Nat×V),ps[i]?=some p->∃ q:Nat×Value,qs[i]?=some q/\q.1=p.1/\VR ρ p.2 q.2)->RowsR ρ size 0 rows cs->OneCells cs->cs.size=rows.length*size->I9 size rows ps=some out ->
  ∃ co,Instr.fill (λi=>some (i*size,size)) cs qs=some co/\RowsR ρ size 0 out co/\OneCells co/\co.size=cs.size/\out.length=rows.length
 | [],qs,rows,out,cs,_,hl,_,hv,ho,hz,h=>by have:qs = []:=YM (by simpa using hl.symm);subst this;simp only[I9,Option.some.injEq] at h;subst h;exact ⟨cs,rfl,hv,ho,rfl,rfl⟩
 | (i,v) :: ps,[],rows,out,cs,_,hl,_,hv,ho,hz,h=>by simp at hl
 | (i,v) :: ps,(i',c) :: qs,rows,out,cs,hok,hl,hq,hv,ho,hz,h=>by
  simp only[Wv] at hok;split at hok
  ·rename_i hfm
   obtain ⟨q0,e1,e2,e3⟩:=hq 0 (i,v) (by simp);simp at e1;subst e1;simp only at e2 e3;subst e2;have hcv:=DN e3 hfm;have hlen:=hcv.length;simp only[I9] at h;split at h
   ·rename_i hb
    simp only[YQ] at hb;obtain ⟨hb1,hb2⟩:=hb;have hb1:i'<rows.length:=by simpa [zaa] using hb1
    have hb2:=YL hb2;simp at hlen;have hrow:rows[i']?=some rows[i']:=YU hb1;have hpa:paste rows[i'] 0 (AV v)=some (AV v):=KC (by rw[(hv i' _ hrow).1];omega);have hrel:=hv.paste hrow hpa hcv (by omega);have hbig:=R9 size hb1;obtain ⟨co,k1,k2,k5,k3,k4⟩:=OG ps qs (rows.set i' (AV v)) out _ hok (by simpa using hl) (λj p hj=>by simpa using hq (j+1) p (by simpa using hj)) hrel (Hr ho (BV hcv hfm)) (by simp[Dk,hz]) h;refine ⟨co,?_,k2,k5,by rw[k3,Dk],by simpa using k4⟩;have hf:∀ (l:List Value) (j:Nat) (cs:Array Value),(l.zipIdx j).foldl (λcs p=>cs.setIfInBounds (i'*size+p.2) p.1) cs=EC cs (i'*size+j) l:=by
     intro l;induction l with
     | nil=>intro j cs;rfl
     | cons x l ih=>intro j cs;simp only[List.zipIdx_cons,Zy,EC];rw[ih];rfl
    simp only[Instr.fill];rw[if_neg (by simp;omega)];have:=hf c.cells.toList 0 cs;simp only[Zf,ZK] at this k1;rw[<- this] at k1;rw[<- k1];congr 1;rw[<- Array.foldl_toList];simp
   ·cases h
  ·cases hok
end
section
variable {P:Program}{lo base:Nat}{ρ:Rho}{β:Bet}{σ:St}{a:Act}{w:World}{R:Type}{r:R}{K:V->St->Option R}{X:Ctx}
variable {dst:Option Nat}{ty:TypeId}{pos:String}{after:Array Edge}{guard:Option (Nat×Bool)}
theorem RowsR.zeros {zv:List V}{z:Array Value} (n m:Nat) (hz:VRs ρ zv z.toList) (hm:n<=m):RowsR ρ z.size 0 (List.replicate n zv) ((Array.range (m*z.size)).map (z[· % z.size]!)):=by
 intro i row hi;have hlen:=hz.length;simp at hlen;have hi':i<n:=by have:=(YE.1 hi).1;simpa using this
 simp[List.getElem?_replicate,hi'] at hi;subst hi;refine ⟨by simpa using hlen,λj v hj=>?_⟩;obtain ⟨c,h1,h2⟩:=hz.get j v hj;have hj':j<z.size:=by have:=(YE.1 hj).1;omega
 have hlt:i*z.size+j<m*z.size:=by have:=R9 z.size (show i<m by omega);omega
 refine ⟨c,?_,h2⟩;simp only[Zf];rw[Array.getElem?_map,Array.getElem?_range,if_pos hlt];simp only[ZN];rw[Nat.mul_comm,Nat.mul_add_mod,Nat.mod_eq_of_lt hj'];simp at h1;rw[getElem!_def,h1]
theorem OneCells.zeros {z:Array Value} (k n:Nat) (hz:OneCells z) (hk:z.size=0->k=0):OneCells ((Array.range k).map (z[· % z.size]!)):=by
 intro j c hj;rw[Array.getElem?_map] at hj;obtain ⟨q,h1,rfl⟩:=Zd.1 hj;have hq:j<k:=by have:=(ZM.1 h1).1;simpa using this
 have hpos:0<z.size:=Nat.pos_of_ne_zero λh=>by have:=hk h;omega
 have hlt:q % z.size<z.size:=Nat.mod_lt _ hpos;exact hz (q % z.size) _ (by rw[getElem!_def,Zn hlt])
theorem MF (hB:base<=w.heap.size) (hh:HRel ρ σ.h w) (hf:FRel ρ β σ.bx w) {o:Oper}{e:TypeId}{rows:List (List V)}{cells:Array Value}{size n m:Nat}
  (hrun:(execOp a.eval o).run P w = .ok (.value (.slice (some ⟨w.heap.size,0,none⟩) n m)) (w.alloc (.cells cells e))) (hv:RowsR ρ size 0 rows cells) (hone:OneCells cells) (hsz:m*size<=cells.size) (hn:n<=m) (hm:rows.length=m)
  (hk:K (.sl size (some (σ.h.length,0)) n (some m)) { σ with h:=σ.h ++ [.rows size e false rows] }=some r):DG P lo base ρ β σ a w o K r:=by
 refine ⟨w.alloc (.cells cells e),.inl ⟨_,hrun,?_⟩⟩;have hx:Ext lo w.heap.size ρ σ.h w (ρ.set σ.h.length ⟨w.heap.size,0,size,rows.length,m⟩) (σ.h ++ [.rows size e false rows]) (w.alloc (.cells cells e)):=Ext.alloc hh _ _ _ rfl;refine ⟨_,_,hk,ρ.set σ.h.length ⟨w.heap.size,0,size,rows.length,m⟩,β,rfl,?_,?_,hf.ext hx,hx.weaken (YH _) hB,Ble.refl _,λt r h1 h2=>(by rw[h1] at h2;cases h2),JR⟩
 ·refine SV.of ?_;simp only[VR,Rho.set_same];exact ⟨_,_,m,rfl,rfl,rfl,.inr (by simp),hn,λy hy=>by injection hy,λh=>by cases h⟩
 ·refine hh.alloc _ _ _ rfl ?_;exact ⟨cells,(0,0),Gz _ _,λ_=>⟨rfl,rfl⟩,rfl,rfl,(show rows.length<=m by omega),(show 0+m*size<=cells.size by omega),hv.mono (Rle.refl _),.inl hone⟩
theorem Ns (hB:base<=w.heap.size) (hX:X.ty=Az P) (hs:SRel ρ β σ.s a) (hh:HRel ρ σ.h w) (hf:FRel ρ β σ.bx w) {t:TypeId}{n:Nat}{ps:Array (Nat×Operand)}
  (hk:opT X lo dst ty (.buildSlice t n ps) σ K=some r):DG P lo base ρ β σ a w ⟨dst,.buildSlice t n ps,ty,pos,after,guard⟩ K r:=by
 simp only[opT] at hk;split at hk
 ·rename_i hok
  split at hk
  ·rename_i e hty
   rw[hX] at hty hk;have hu:=Dq hty;split at hk
   ·rename_i hz
    simp only[YQ] at hz;obtain ⟨⟨⟨hkn,hz⟩,hfm⟩,hle⟩:=hz;have hle:=Zx hle;obtain ⟨rows,hlay,hk1⟩:=AF hk;obtain ⟨i,z,hi,hzz,hsz,e1,e2,e3⟩:=IK hz hfm;have hrel:=Tx hs hok;have hlen:(OI σ.s ps.toList).length=(ps.map λ(i,x)=>(i,a.eval x)).toList.length:=by simp[IA]
    rw[e1] at hlay hk1 hle;have h0:RowsR ρ i.size 0 (List.replicate n (Az P e).zero) ((Array.range (n*i.size)).map ((if n*i.size=0 then #[] else z.cells)[· % (if n*i.size=0 then #[] else z.cells).size]!)):=by
     by_cases h:n*i.size=0
     ·simp only[h,if_true];refine RowsR.flat (λrow hr=>by rw[Zw hr,e2]) λj v hj=>?_;have hfl:=BX (R:=i.size) (rs:=List.replicate n (Az P e).zero) (λrow hr=>by rw[Zw hr,e2]);simp[h] at hfl;have:=(YE.1 hj).1;have hl:(List.replicate n (Az P e).zero).flatten.length=0:=by simp[e2,h]
      omega
     ·simp only[h,if_false];have:=RowsR.zeros (ρ:=ρ) n n (e3 ρ) (YH _);rw[hsz] at this;rw[hsz];exact this
    have hzone:OneCells z.cells:=OneCells.of_list (BV (e3 ρ) hfm);have h0one:OneCells ((Array.range (n*i.size)).map ((if n*i.size=0 then #[] else z.cells)[· % (if n*i.size=0 then #[] else z.cells).size]!)):=by
     by_cases h:n*i.size=0
     ·rw[h];intro j c hj;simp at hj
     ·simp only[h,if_false];exact OneCells.zeros _ n hzone (λhh=>by rw[hsz] at hh;rw[hh];rfl)
    obtain ⟨co,k1,k2,k5,k3,k4⟩:=OG _ _ _ _ _ hok hlen hrel h0 h0one (by simp) hlay;refine MF hB hh hf (cells:=co) (e:=e) ?_ k2 k5 (by rw[k3];simp) (YH _) (by simpa using k4) hk1;have k1':Instr.fill (λj=>some (j*i.size,i.size)) ((Array.range (n*i.size)).map ((if n*i.size=0 then #[] else z.cells)[· % (if n*i.size=0 then #[] else z.cells).size]!)) (ps.map λx=>(x.fst,a.eval x.snd)).toList=some co:=k1;simp only[execOp,Instr.buildSlice,Sem.run_bind,AL hu,Result.andThen_ok,Bl hi];rw[if_neg (by omega)];by_cases h:n*i.size=0
    ·simp only[h,if_true] at k1' ⊢;simp only[Sem.run_pure,Result.andThen_ok,k1',Sem.run_bind,newRow,run_newObj];rfl
    ·simp only[h,if_false] at k1' ⊢;simp only[Sem.run_pure,Result.andThen_ok,Sem.run_bind,CX hi hzz,k1',newRow,run_newObj];rfl
   ·cases hk
  ·cases hk
 ·cases hk
theorem PE (hB:base<=w.heap.size) (hX:X.ty=Az P) (hs:SRel ρ β σ.s a) (hh:HRel ρ σ.h w) (hf:FRel ρ β σ.bx w) {t:TypeId}{l c:Operand}
  (hk:opT X lo dst ty (.makeSlice t l c) σ K=some r):DG P lo base ρ β σ a w ⟨dst,.makeSlice t l c,ty,pos,after,guard⟩ K r:=by
 simp only[opT] at hk;split at hk
 ·rename_i e hty
  rw[hX] at hty hk;have hu:=Dq hty;obtain ⟨n,hn,hk1⟩:=CH hk;obtain ⟨m,hm,hk2⟩:=CH hk1;obtain ⟨hz,hk3⟩:=At hk2;obtain ⟨hb,hk4⟩:=At hk3;obtain ⟨hb1,hb2,hb3,hb4⟩:=of_decide_eq_true hb;simp only[YQ] at hz;obtain ⟨⟨hkn,hz⟩,hfm⟩:=hz;obtain ⟨i,z,hi,hzz,hsz,e1,e2,e3⟩:=IK hz hfm;obtain ⟨i',d',hi',hd',_,hbytes,_⟩:=Ba hkn;rw[hi] at hi';injection hi' with hi';subst hi';rw[hbytes] at hb4;have hl:=Hy hs hn;have hc:=Hy hs hm;have w1:IntKind.i64.wrap n=n:=by rw[IntKind.wrap_i64];omega
  have w2:IntKind.i64.wrap m=m:=by rw[IntKind.wrap_i64];omega
  rw[e1] at hk4;have hmz:∀ z':Array Value,z'=(if m.toNat*i.size=0 then #[] else z.cells)->RowsR ρ i.size 0 (List.replicate m.toNat (Az P e).zero) ((Array.range (m.toNat*i.size)).map (z'[· % z'.size]!)):=by
   intro z' hz';by_cases h:m.toNat*i.size=0
   ·refine RowsR.flat (λrow hr=>by rw[Zw hr,e2]) λj v hj=>?_;have:=(YE.1 hj).1;have hl:(List.replicate m.toNat (Az P e).zero).flatten.length=0:=by simp[e2];simpa using h
    omega
   ·rw[if_neg h] at hz';subst hz';have:=RowsR.zeros (ρ:=ρ) m.toNat m.toNat (e3 ρ) (YH _);rw[hsz] at this;rw[hsz];exact this
  have hzone:OneCells z.cells:=OneCells.of_list (BV (e3 ρ) hfm);have hmone:OneCells ((Array.range (m.toNat*i.size)).map ((if m.toNat*i.size=0 then #[] else z.cells)[· % (if m.toNat*i.size=0 then #[] else z.cells).size]!)):=by
   by_cases h:m.toNat*i.size=0
   ·rw[h];intro j c hj;simp at hj
   ·simp only[h,if_false];exact OneCells.zeros _ 0 hzone (λhh=>by rw[hsz] at hh;rw[hh];rfl)
  refine MF hB hh hf (cells:=(Array.range (m.toNat*i.size)).map ((if m.toNat*i.size=0 then #[] else z.cells)[· % (if m.toNat*i.size=0 then #[] else z.cells).size]!)) (e:=e) ?_ (hmz _ rfl) hmone (by simp) (by omega) (by simp) hk4;have t1:¬ ((decide (m<0) || decide ((i.bytes:Int)*m>2 ^ 48))=true):=by rw[Int.mul_comm] at hb4;simp only[Ze,decide_eq_true_eq];omega
  have hti:(typeInfo e).run P w = .ok i w:=by simp[typeInfo,hi]
  simp only[execOp,Instr.makeSlice,Sem.run_bind,AL hu,Result.andThen_ok,hl,hc,asInt,asIntOf,Sem.run_pure,hti,w1,w2];rw[if_neg (by
   simp only[Ze,decide_eq_true_eq] at t1 ⊢;omega)]
  simp only[Sem.run_pure,Result.andThen_ok,run_askRoom,Sem.run_bind,Bl hi];by_cases h:m.toNat*i.size=0
  ·simp only[h,if_true,Sem.run_pure,Result.andThen_ok,Sem.run_bind,newRow,run_newObj];rfl
  ·simp only[h,if_false,Sem.run_pure,Result.andThen_ok,Sem.run_bind,CX hi hzz,newRow,run_newObj];rfl
 ·cases hk
end
end Go.Proofs.YtoocmbhkaghgnaaGreat.T
namespace Go.Proofs.YtoocmbhkaghgnaaGreat.T
open Go
variable {h:Heap}{x:Operand}
section
variable {P:Program}{lo base:Nat}{ρ:Rho}{β:Bet}{σ:St}{a:Act}{w:World}{R:Type}{r:R}{K:V->St->Option R}{X:Ctx}
variable {dst:Option Nat}{ty:TypeId}{pos:String}{after:Array Edge}{guard:Option (Nat×Bool)}
theorem Da {n:Int}{y:Nat}{c:BoundsCode} (h:0<=n/\n<=y):(Instr.sliceBound (.int .i64 n) y c).run P w = .ok n.toNat w:=by simp[Instr.sliceBound,asIntOf,h]
def OV:Option V->Option Value->Prop
 | none,v=>v=none
 | some x,v=>∃ c,v=some c/\∀ n,x = .int .i64 n->c = .int .i64 n
theorem FS (hs:SRel ρ β σ.s a) (x:Option Operand):OV (Ww σ.s x) (x.map a.eval):=by
 cases x with
 | none=>rfl
 | some x=>exact ⟨_,rfl,λn h=>Hy hs h⟩
theorem N3 {len M:Nat}{cap':Option Nat}{hi:Option V}{hi' m':Option Value}{f:Nat->Option R} (b:Bool) (hk:Ic m'.isNone len cap' hi f=some r) (oh:OV hi hi')
  (c1:∀ y,cap'=some y->M=y) (c2:cap'=none->len<=M) (c3:m'.isNone=true->len<=M) :
  ∃ H,(match hi',m' with
   | some v,some _=>Instr.sliceBound v M .slice3B
   | some v,none=>Instr.sliceBound v M (if b then .sliceAcap else .sliceAlen)
   | none,none=>pure len
   | none, some _ => stuck "Slice: max without high" : Sem Nat).run P w = .ok H w /\ H <= M /\ f H = some r := by
 unfold Ic at hk;cases hi with
 | none =>
  simp only[OV] at oh;subst oh;cases m' with
  | none=>exact ⟨len,rfl,c3 rfl,hk⟩
  | some mv=>simp at hk
 | some hv =>
  obtain ⟨c,rfl,hc⟩:=oh;simp only at hk;obtain ⟨n,hn,hk1⟩:=CH hk;have:=hc n hn;subst this;have hb:(0<=n/\n<=M)/\f n.toNat=some r:=by
   cases cap' with
   | none =>simp only at hk1;obtain ⟨hb,hk2⟩:=Gj hk1;have:=c2 rfl;exact ⟨⟨hb.1,by omega⟩,hk2⟩
   | some y =>simp only at hk1;have:=c1 y rfl;subst this;exact Gj hk1
  obtain ⟨hb,hk2⟩:=hb;refine ⟨n.toNat,?_,by omega,hk2⟩;cases m'<;>exact Da hb
theorem R5 {len cc:Nat}{cap:Option Nat}{m:Option V}{m':Option Value}{f:Option Nat->Option R} (b:Bool) (hk:E8 len cap m f=some r) (h1:len<=cc) (h2:∀ y,cap=some y->cc=y) (om:OV m m') :
  ∃ M cap',(match m' with | some v=>Instr.sliceBound v cc (if b then .slice3Acap else .slice3Alen) | none=>pure cc:Sem Nat).run P w = .ok M w/\M<=cc/\(∀ y,cap'=some y->M=y)/\(cap'=none->M=cc/\cap=none) /\
   (m'.isNone=true->M=cc)/\m.isNone=m'.isNone/\f cap'=some r:=by
 unfold E8 at hk;cases m with
 | none =>simp only[OV] at om;subst om;exact ⟨cc,cap,rfl,YH _,h2,λh=>⟨rfl,h⟩,λ_=>rfl,rfl,hk⟩
 | some mv =>
  obtain ⟨c,rfl,hc⟩:=om;simp only at hk;obtain ⟨n,hn,hk1⟩:=CH hk;have:=hc n hn;subst this;cases cap with
  | none =>simp only at hk1;obtain ⟨hb,hk2⟩:=Gj hk1;exact ⟨n.toNat,some n.toNat,Da (by omega),by omega,(λy hy=>by injection hy),(λh=>by cases h),(λh=>by cases h),rfl,hk2⟩
  | some y =>simp only at hk1;have:=h2 y rfl;subst this;obtain ⟨hb,hk2⟩:=Gj hk1;exact ⟨n.toNat,some n.toNat,Da hb,by omega,(λy hy=>by injection hy),(λh=>by cases h),(λh=>by cases h),rfl,hk2⟩
theorem IY {a:Option (Nat×Nat)}{len cc:Nat}{cap:Option Nat}{l hi m:Option V}{l' hi' m':Option Value}{k:Option (Nat×Nat)->Nat->Option Nat->Option R} (b:Bool) (hk:Ay a len cap l hi m k=some r)
  (h1:len<=cc) (h2:∀ y,cap=some y->cc=y) (ol:OV l l') (oh:OV hi hi') (om:OV m m') :
  ∃ L H M cap',(Instr.sliceBounds b len cc l' hi' m').run P w = .ok (L,H,M) w/\L<=H/\H<=M/\M<=cc/\(∀ y,cap'=some y->M=y)/\(cap'=none->M=cc/\cap=none) /\
   ((L=0/\k a H cap'=some r)\/Nk a H cap' L k=some r):=by
 unfold Ay at hk;obtain ⟨M,cap',r1,hM,c1,c2,hmm,hiso,hk1⟩:=R5 (P:=P) (w:=w) b hk h1 h2 om;rw[hiso] at hk1;obtain ⟨H,r2,hH,hk2⟩:=N3 (P:=P) (w:=w) b hk1 oh c1 (λh=>by have:=(c2 h).1;omega) (λh=>by have:=hmm h;omega);have done:∀ L,(match l' with
   | some v=>Instr.sliceBound v H (if m'.isSome then .slice3C else .sliceB)
   | none=>pure 0:Sem Nat).run P w = .ok L w->(Instr.sliceBounds b len cc l' hi' m').run P w = .ok (L,H,M) w:=by
  intro L h3;revert r1 r2 h3;cases m'<;>cases hi'<;>cases l'<;>intro r1 r2 h3<;>simp only[Instr.sliceBounds,Sem.run_bind,r1,r2,h3,Result.andThen_ok,Sem.run_pure]<;>simp_all
 unfold IX at hk2;cases l with
 | none =>simp only[OV] at ol;subst ol;exact ⟨0,H,M,cap',done 0 rfl,Y3 _,hH,hM,c1,c2,.inl ⟨rfl,hk2⟩⟩
 | some lv =>obtain ⟨c,rfl,hc⟩:=ol;simp only at hk2;obtain ⟨n,hn,hk3⟩:=CH hk2;have:=hc n hn;subst this;obtain ⟨hb,hk4⟩:=Gj hk3;exact ⟨n.toNat,H,M,cap',done _ (Da hb),by omega,hH,hM,c1,c2,.inr hk4⟩
theorem Nb {s:ByteArray}{l hi:Option V}{l' hi':Option Value}{k:V->Option R} (b:Bool) (hk:Ga s l hi k=some r) (ol:OV l l') (oh:OV hi hi') :
  ∃ L H,(Instr.sliceBounds b s.size s.size l' hi' none).run P w = .ok (L,H,s.size) w/\k (.str (s.extract L H))=some r:=by
 unfold Ga at hk;obtain ⟨H,r2,hH,hk2⟩:=N3 (P:=P) (w:=w) (m':=none) b hk oh (M:=s.size) (λy hy=>by injection hy) (λh=>by cases h) (λ_=>YH _);have done:∀ L,(match l' with
   | some v=>Instr.sliceBound v H (if (none:Option Value).isSome then .slice3C else .sliceB)
   | none=>pure 0:Sem Nat).run P w = .ok L w->(Instr.sliceBounds b s.size s.size l' hi' none).run P w = .ok (L,H,s.size) w:=by
  intro L h3;revert r2 h3;cases hi'<;>cases l'<;>intro r2 h3<;>simp only[Instr.sliceBounds,Sem.run_bind,r2,h3,Result.andThen_ok,Sem.run_pure]<;>simp_all
 unfold Qg at hk2;cases l with
 | none =>simp only[OV] at ol;subst ol;exact ⟨0,H,done 0 rfl,hk2⟩
 | some lv =>obtain ⟨c,rfl,hc⟩:=ol;simp only at hk2;obtain ⟨n,hn,hk3⟩:=CH hk2;have:=hc n hn;subst this;obtain ⟨hb,hk4⟩:=Gj hk3;exact ⟨n.toNat,H,done _ (Da hb),hk4⟩
theorem S3 {b:Bool}{n m cc:Nat}{l' hi' m':Option Value} (h:hi'=none->n=m):Instr.sliceBounds b n cc l' hi' m'=Instr.sliceBounds b m cc l' hi' m':=by
 cases hi' with
 | none=>rw[h rfl]
 | some v=>cases m'<;>rfl
theorem rows?_some {b:Nat}{rs:List (List V)} (hr:Heap.rows? h b=some rs):∃ R el ro,h[b]?=some (.rows R el ro rs):=by
 unfold Heap.rows? at hr;split at hr
 ·rename_i R el ro rs' hb
  injection hr with hr;subst hr;exact ⟨R,el,ro,hb⟩
 ·cases hr
theorem WI (hh:HRel ρ h w) {b i n cc:Nat}{c:Option Nat}{e:E} (hb:ρ b=some e) (hn:n<=cc) (hc:c=none->i+cc=e.m/\e.o=0):O4 h (some (b,i)) n c<=cc:=by
 unfold O4;cases c with
 | some _=>exact hn
 | none =>
  simp only;split
  ·rename_i rs hr
   obtain ⟨R,el,ro,hk⟩:=rows?_some hr;obtain ⟨_,_,_,_,_,h4,h5,_⟩:=hh.blk b e _ hb hk;have:=(hc rfl).1;exact Nat.max_le.2 ⟨hn,by omega⟩
  ·exact hn
theorem Sf (hh:HRel ρ h w) {b i n cc:Nat}{c:Option Nat}{e:E}{wide:Bool}{hi:Option V} (hb:ρ b=some e) (hn:n<=cc) (hc:c=none->i+cc=e.m/\e.o=0):FI wide h (some (b,i)) n c hi<=cc:=by
 unfold FI;cases wide with
 | false=>exact hn
 | true =>
  cases hi with
  | none=>exact hn
  | some _=>exact WI hh hb hn hc
theorem QD {n:Nat}{c:Option Nat}{wide:Bool}{hi:Option V}:FI wide h none n c hi=n:=by unfold FI O4;cases wide<;>cases hi<;>cases c<;>rfl
theorem O5 {a:Option (Nat×Nat)}{n:Nat}{c:Option Nat}{wide:Bool}:FI wide h a n c none=n:=by unfold FI;cases wide<;>rfl
theorem V7 (hX:X.ty=Az P) (hs:SRel ρ β σ.s a) (hh:HRel ρ σ.h w) (hf:FRel ρ β σ.bx w) {t:TypeId}{l hi m:Option Operand}
  (hk:opT X lo dst ty (.slice t x l hi m) σ K=some r):DG P lo base ρ β σ a w ⟨dst,.slice t x l hi m,ty,pos,after,guard⟩ K r:=by
 have hx:=BH hs x;simp only[opT] at hk;rw[hX] at hk;split at hk
 ·rename_i s he
  rw[he] at hx;have hx:=hx.str;cases m with
  | some _=>simp at hk
  | none =>simp only at hk;obtain ⟨h1,hk1⟩:=At hk;obtain ⟨d,hd,rfl⟩:=Fe h1;obtain ⟨L,H,h2,hk2⟩:=Nb (P:=P) (w:=w) false hk1 (FS hs l) (FS hs hi);obtain ⟨s',h3,hk3⟩:=TG hk2;injection h3 with h3;subst h3;refine AG (c := .string (s.extract L H)) ?_ hh hf (SV.of VR.str') hk3;simp[execOp,Instr.sliceAt,AL hd,Instr.slice,hx,h2]
 ·rename_i R' a1 n c he
  rw[he] at hx;split at hk
  ·rename_i e hty
   have hu:=Dq hty;obtain ⟨hr,hk1⟩:=At hk;simp only[YQ,Ze] at hr;obtain ⟨hr,hkn⟩:=hr;obtain ⟨i0,d,hi0,hd,hsz,_⟩:=Ba hkn;have hrun:∀ p cc L H M,a.eval x = .slice p n cc->(Instr.sliceBounds true n cc (l.map a.eval) (hi.map a.eval) (m.map a.eval)).run P w = .ok (L,H,M) w ->
     (execOp a.eval ⟨dst,.slice t x l hi m,ty,pos,after,guard⟩).run P w = .ok (.value (.slice (if M=L then p else p.map (·.add (L*i0.size))) (H - L) (M - L))) w:=by
    intro p cc L H M hax r1;simp only[execOp,Instr.sliceAt,Sem.run_bind,AL hu,Result.andThen_ok,Instr.slice,hax,r1,Bl hi0,Sem.run_pure]
   cases a1 with
   | none =>
    obtain ⟨rfl,rfl,hax⟩:=hx.slNil;rw[QD] at hk1;obtain ⟨L,H,M,cap',r1,g1,g2,g3,g4,g5,g6⟩:=IY (P:=P) (w:=w) (cc:=0) true hk1 (YH _) (λy hy=>by injection hy) (FS hs l) (FS hs hi) (FS hs m);have h1:M=0:=by omega
    have h2:H=0:=by omega
    have h3:L=0:=by omega
    subst h1;subst h2;subst h3;have h4:cap'=some 0:=by
     cases cap' with
     | none=>have:=(g5 rfl).2;cases this
     | some y=>rw[<- g4 y rfl]
    subst h4;refine AG (hrun _ _ _ _ _ hax r1) hh hf (SV.of ?_) (v := .sl (Az P e).size none 0 (some 0)) ?_
    ·simp[VR]
    ·rcases g6 with ⟨_,g6⟩ | g6
     ·exact g6
     ·exact g6
   | some q =>
    obtain ⟨b1,i1⟩:=q;simp only[Option.isNone_some,Zi,or_false] at hr;have hr:=YL hr;obtain ⟨e1,x1,cc,k1,k2,hax,k3,k4,k5,k6⟩:=hx.sl;obtain ⟨L,H,M,cap',r1,g1,g2,g3,g4,g5,g6⟩:=IY (P:=P) (w:=w) true hk1 (Sf hh k1 k4 k6) k5 (FS hs l) (FS hs hi) (FS hs m);rw[S3 (m:=n) (λhq=>by
     cases hi with
     | none=>exact O5
     | some x=>cases hq)] at r1
    have hrun:=hrun _ _ _ _ _ hax r1;rcases g6 with ⟨rfl,g6⟩ | g6
    ·refine AG hrun hh hf (SV.of ?_) g6;have ha:∀ y:Addr,y.add 0=y:=λy=>by simp[Addr.add]
     have:(if M=0 then some x1 else (some x1).map (·.add (0*i0.size)))=some x1:=by split<;>simp[ha]
     rw[this];simp only[VR];exact ⟨e1,x1,M,k1,by omega,rfl,k3.elim (λk3 => .inl (by omega)) .inr,g2,g4,λh=>by have:=g5 h;have:=k6 this.2;omega⟩
    ·unfold Nk at g6;simp only at g6;have hcc:∀ (q:M≠L),x1=⟨e1.r,e1.o+i1*e1.R,none⟩:=λq=>k3.elim (λk3=>absurd k3 (by omega)) id;have hadd:∀ (q:M≠L),x1.add (L*i0.size)=⟨e1.r,e1.o+(i1+L)*e1.R,none⟩:=λq=>by
      rw[hcc q,DF];have:e1.R=i0.size:=by omega
      rw[<- this,Zu];congr 1;omega
     have hlast:M=L->VR ρ (.sl (Az P e).size (some (b1,i1)) (H - L) (some 0)) (.slice (if M=L then some x1 else (some x1).map (·.add (L*i0.size))) (H - L) (M - L)):=λq=>by rw[if_pos q];simp only[VR];exact ⟨e1,x1,M - L,k1,by omega,rfl,.inl (by omega),by omega,λy hy=>by injection hy;omega,λh=>by cases h⟩
     split at g6
     ·rename_i y
      have hy:=g4 _ rfl;rcases GW g6 with ⟨h3,g6⟩ | ⟨h3,g6⟩
      ·have h3:=YL h3;exact AG hrun hh hf (SV.of (hlast (by omega))) g6
      ·have h3:M≠L:=λh=>by subst hy;rw[h] at h3;simp at h3
       refine AG hrun hh hf (SV.of ?_) g6;rw[if_neg h3];simp only[VR,ZN];exact ⟨e1,_,M - L,k1,by omega,rfl,.inr (hadd h3),by omega,λz hz=>by injection hz;omega,λh=>by cases h⟩
     ·have hy:=g5 rfl;have k7:=k6 hy.2;by_cases h3:M=L
      ·refine AG hrun hh hf (SV.of ?_) g6;rw[if_pos h3];simp only[VR];exact ⟨e1,x1,M - L,k1,by omega,rfl,.inl (by omega),by omega,(λy hy=>by cases hy),λh=>⟨by omega,k7.2⟩⟩
      ·refine AG hrun hh hf (SV.of ?_) g6;rw[if_neg h3];simp only[VR,ZN];exact ⟨e1,_,M - L,k1,by omega,rfl,.inr (hadd h3),by omega,(λy hy=>by cases hy),λh=>⟨by omega,k7.2⟩⟩
  ·cases hk
 ·cases hk
theorem PG (hX:X.ty=Az P) (hs:SRel ρ β σ.s a) (hh:HRel ρ σ.h w) (hf:FRel ρ β σ.bx w) {t:TypeId}{f:Nat}
  (hk:opT X lo dst ty (.fieldAddr t x f) σ K=some r):DG P lo base ρ β σ a w ⟨dst,.fieldAddr t x f,ty,pos,after,guard⟩ K r:=by
 simp only[opT] at hk;rw[hX] at hk;split at hk
 ·rename_i fs hty
  obtain ⟨gs,hu,hfs,hkn,_⟩:=JL hty;split at hk
  ·rename_i g hg
   split at hk
   ·rename_i hz
    simp only[YQ] at hz;obtain ⟨hz1,hz2⟩:=hz;obtain ⟨i0,d,hi0,hd,hsz,_⟩:=Ba hz1;have hz2:0<(Az P g.2).size:=by simpa [zaa] using hz2
    rw[hfs,ZZ] at hg;obtain ⟨g',hg1,hg2⟩:=Zd.1 hg;have hg1':gs[f]?=some g':=by simpa using hg1
    have hrun:∀ p,a.eval x = .pointer (some p)->(execOp a.eval ⟨dst,.fieldAddr t x f,ty,pos,after,guard⟩).run P w = .ok (.value (.pointer (some (p.add g.1)))) w:=by intro p hax;subst hg2;simp only[execOp,Instr.fieldAt,Sem.run_bind,AL hu,Result.andThen_ok,hg1',hax,Instr.sureAddr,Sem.run_pure,fieldPlace,Bl hi0];rw[if_neg (by simp only at hsz hz2;omega)];rfl
    split at hk
    ·rename_i u j he
     obtain ⟨q,h1,h2⟩:=TB hs he;exact AG (hrun _ h2) hh hf (show SV ρ β (.lp u (j+g.1)) _ from ⟨q,h1,by rw[DF]⟩) hk
    ·rename_i p he
     obtain ⟨⟨b,i,j⟩,rfl,hk1⟩:=AF hk;obtain ⟨e,h1,h2⟩:=Pw hs he;exact AG (hrun _ h2) hh hf (SV.of (by simp only[VR];exact ⟨e,h1,by rw[DF];congr 3;omega⟩)) hk1
    ·cases hk
   ·cases hk
  ·cases hk
 ·cases hk
theorem Hs {t:TypeId} (hkn:(Az P t).known=true) {xs ys:List V}{cs:Array Value}{off:Nat} (hv:VRs ρ xs cs.toList) (hc:cut xs off (Az P t).size=some ys) {v:V} (hm:QR (Az P t).agg ys=some v) :
  ∃ c,(part t cs off).run P w = .ok c w/\VR ρ v c:=by
 obtain ⟨i,d,hi,hd,h1,h2,h3,h4,h5⟩:=Ba hkn;obtain ⟨g1,g2⟩:=HB hc;have hag:=Oo hd w;rw[<- h3] at hag;simp only[part,Sem.run_bind,hag,Result.andThen_ok];have hlen:=hv.length;simp at hlen;cases hA:(Az P t).agg with
 | true =>rw[hA] at hm;simp only[QR] at hm;injection hm with hm;subst hm;refine ⟨.agg (cs.extract off (off+i.size)),by simp[Bl hi],?_⟩;simp only[VR];refine ⟨_,rfl,?_⟩;rw[g2,h1,Array.toList_extract];have:=(hv.drop off).take i.size;simpa [List.extract] using this
 | false =>
  rw[hA] at hm;simp only[QR] at hm;split at hm
  ·rename_i v0
   injection hm with hm;subst hm;have hget:xs[off]?=some v0:=by
    have:(((xs.drop off).take (Az P t).size))[0]?=some v0:=by rw[<- g2];rfl
    rw[ZH] at this;split at this
    ·rw[Zc] at this;simpa using this
    ·cases this
   obtain ⟨c,k1,k2⟩:=hv.get _ _ hget;exact ⟨c,by simp at k1;simp[k1],k2⟩
  ·cases hm
theorem Wa (hX:X.ty=Az P) (hs:SRel ρ β σ.s a) (hh:HRel ρ σ.h w) (hf:FRel ρ β σ.bx w) {t:TypeId}{f:Nat}
  (hk:opT X lo dst ty (.field t x f) σ K=some r):DG P lo base ρ β σ a w ⟨dst,.field t x f,ty,pos,after,guard⟩ K r:=by
 have hx:=BH hs x;simp only[opT] at hk;rw[hX] at hk;split at hk
 ·rename_i fs hty
  obtain ⟨gs,hu,hfs,hkn,_⟩:=JL hty;split at hk
  ·rename_i g hg
   split at hk
   ·rename_i hz
    rw[hfs,ZZ] at hg;obtain ⟨g',hg1,hg2⟩:=Zd.1 hg;have hg1':gs[f]?=some g':=by simpa using hg1
    subst hg2;split at hk
    ·rename_i cs he
     rw[he] at hx;obtain ⟨ys,h1,h2⟩:=hx.agg;obtain ⟨zs,h3,hk1⟩:=AF hk;obtain ⟨v,h4,hk2⟩:=AF hk1;obtain ⟨c,h5,h6⟩:=Hs (w:=w) hz h2 h3 h4;refine AG (c:=c) ?_ hh hf (SV.of h6) hk2;simp only[execOp,Instr.field,Sem.run_bind,AL hu,Result.andThen_ok,hg1',h1,asAgg,Sem.run_pure,h5]
    ·cases hk
   ·cases hk
  ·cases hk
 ·cases hk
theorem PF (hX:X.ty=Az P) (hs:SRel ρ β σ.s a) (hh:HRel ρ σ.h w) (hf:FRel ρ β σ.bx w) {t:TypeId}{i:Operand}
  (hk:opT X lo dst ty (.indexAddr t x i) σ K=some r):DG P lo base ρ β σ a w ⟨dst,.indexAddr t x i,ty,pos,after,guard⟩ K r:=by
 have hx:=BH hs x;simp only[opT] at hk;rw[hX] at hk;have harr:∀ (n:Nat) (e:TypeId) (p:Addr) (q:Int) (i0:TypeInfo),P.underlying t=some (.array n e)->a.eval x = .pointer (some p)->a.eval i = .int .i64 q->(0<=q/\q<n)->P.info? e=some i0 ->
   (execOp a.eval ⟨dst,.indexAddr t x i,ty,pos,after,guard⟩).run P w = .ok (.value (.pointer (some (p.add (q.toNat*i0.size))))) w:=by
  intro n e p q i0 hu hax hai hb hi0;simp only[execOp,Instr.indexAt,Sem.run_bind,hai,asIntOf,Sem.run_pure,Result.andThen_ok,AL hu,hax,Instr.sureAddr,if_pos hb,Bl hi0]
 split at hk
 ·rename_i R' a1 n c he
  rw[he] at hx;split at hk
  ·rename_i e hty
   have hu:=Dq hty;obtain ⟨q,hq,hk1⟩:=CH hk;obtain ⟨hb,hk2⟩:=Jh hk1;obtain ⟨⟨b,r'⟩,rfl,hk3⟩:=AF hk2;obtain ⟨hr,hk4⟩:=At hk3;simp only[YQ] at hr;obtain ⟨hr,hkn⟩:=hr;have hr:=YL hr;obtain ⟨i0,d,hi0,hd,hsz,_⟩:=Ba hkn;obtain ⟨e1,x1,cc,k1,k2,hax,k3,k4,k5,k6⟩:=hx.sl;have hai:=Hy hs hq;have hx1:x1=⟨e1.r,e1.o+r'*e1.R,none⟩:=k3.elim (λk3=>absurd k3 (by omega)) id;refine AG (c := .pointer (some (x1.add (q.toNat*i0.size)))) ?_ hh hf (SV.of ?_) hk4
   ·simp only[execOp,Instr.indexAt,Sem.run_bind,hai,asIntOf,Sem.run_pure,Result.andThen_ok,AL hu,hax,if_pos hb,Bl hi0]
   ·simp only[VR];refine ⟨e1,k1,?_⟩;rw[hx1,DF];have:e1.R=i0.size:=by omega
    rw[<- this,Zu];congr 3;omega
  ·cases hk
 ·rename_i u j he
  split at hk
  ·rename_i n e hty
   obtain ⟨hu,_,_⟩:=Gu hty;obtain ⟨q,hq,hk1⟩:=CH hk;obtain ⟨hb,hk2⟩:=Jh hk1;obtain ⟨hkn,hk3⟩:=At hk2;obtain ⟨i0,d,hi0,hd,hsz,_⟩:=Ba hkn;obtain ⟨q',h1,h2⟩:=TB hs he;exact AG (harr n e _ q i0 hu h2 (Hy hs hq) hb hi0) hh hf (show SV ρ β (.lp u (j+q.toNat*(Az P e).size)) _ from ⟨q',h1,by rw[DF,hsz]⟩) hk3
  ·cases hk
 ·rename_i p he
  split at hk
  ·rename_i n e hty
   obtain ⟨hu,_,_⟩:=Gu hty;obtain ⟨⟨b,r',j⟩,rfl,hk0⟩:=AF hk;obtain ⟨q,hq,hk1⟩:=CH hk0;obtain ⟨hb,hk2⟩:=Jh hk1;obtain ⟨hkn,hk3⟩:=At hk2;obtain ⟨i0,d,hi0,hd,hsz,_⟩:=Ba hkn;obtain ⟨e1,h1,h2⟩:=Pw hs he;exact AG (harr n e _ q i0 hu h2 (Hy hs hq) hb hi0) hh hf (SV.of (by simp only[VR];exact ⟨e1,h1,by rw[DF,hsz];congr 3;omega⟩)) hk3
  ·cases hk
 ·cases hk
theorem V9 (hX:X.ty=Az P) (hs:SRel ρ β σ.s a) (hh:HRel ρ σ.h w) (hf:FRel ρ β σ.bx w) {t:TypeId}{i:Operand}
  (hk:opT X lo dst ty (.index t x i) σ K=some r):DG P lo base ρ β σ a w ⟨dst,.index t x i,ty,pos,after,guard⟩ K r:=by
 have hx:=BH hs x;simp only[opT] at hk;rw[hX] at hk;split at hk
 ·rename_i s he
  rw[he] at hx;have hx:=hx.str;obtain ⟨h1,hk1⟩:=At hk;obtain ⟨d,hd,rfl⟩:=Fe h1;obtain ⟨kq,q,hq,hk2⟩:=V2 hk1;obtain ⟨c,hc,hk3⟩:=AF hk2;have hai:=Hy hs hq;refine AG (c := .int .u8 c.toNat) ?_ hh hf (SV.of VR.int') hk3;have:(if 0<=q then s[q.toNat]? else none)=some c:=by
   unfold NY at hc;split at hc
   ·rename_i h;rw[if_pos (of_decide_eq_true h)];exact hc
   ·cases hc
  simp only[execOp,Instr.index,Sem.run_bind,hai,asIntOf,Sem.run_pure,Result.andThen_ok,AL hd,hx,this]
 ·rename_i cs he
  rw[he] at hx;obtain ⟨ys,g1,g2⟩:=hx.agg;split at hk
  ·rename_i n e hty
   obtain ⟨hu,_,_⟩:=Gu hty;obtain ⟨q,hq,hk1⟩:=CH hk;obtain ⟨hb,hk2⟩:=Jh hk1;obtain ⟨hkn,hk3⟩:=At hk2;obtain ⟨zs,h3,hk4⟩:=AF hk3;obtain ⟨v',hk5,hle,hone⟩:=Hz hk4;obtain ⟨i0,d,hi0,hd,hsz,_⟩:=Ba hkn;obtain ⟨c,h5,h6⟩:=Hs (w:=w) hkn g2 h3 (Ff hone);have hai:=Hy hs hq;refine AG (c:=c) ?_ hh hf (SV.of (hle ρ c h6)) hk5;rw[hsz] at h5;simp only[execOp,Instr.index,Sem.run_bind,hai,asIntOf,Sem.run_pure,Result.andThen_ok,AL hu,g1,if_pos hb,Bl hi0,h5]
  ·cases hk
 ·cases hk
end
end Go.Proofs.YtoocmbhkaghgnaaGreat.T
namespace Go.Proofs.YtoocmbhkaghgnaaGreat.T
open Go
variable {x:V}{c:Value}{kv:List (V×V)}{m i:Operand}
def Hb (key:V):List (V×V)->Option (Option Nat)
 | []=>some none
 | (x,v) :: r=>match M9 key x with
  | some true=>some (some 0)
  | some false=>match Hb key r with | some p=>some (p.map (· + 1)) | none=>none
  | none=>none
theorem Me {key:V}:∀ {kv:List (V×V)}{f:Option V},EI key kv=some f->∃ p,Hb key kv=some p/\(match p with | none=>f=none | some i=>∃ x v,kv[i]?=some (x,v)/\f=some v)
 | [],f,h=>by simp[EI] at h;subst h;exact ⟨none,rfl,rfl⟩
 | (x,v) :: r,f,h=>by
  simp only[EI] at h;simp only[Hb];cases hq:M9 key x with
  | none=>simp[hq] at h
  | some b =>
   cases b with
   | true=>simp[hq] at h;exact ⟨some 0,rfl,x,v,by simp,h.symm⟩
   | false =>
    simp[hq] at h;obtain ⟨p,h1,h2⟩:=Me h;refine ⟨p.map (· + 1),by simp[h1],?_⟩;cases p with
    | none=>exact h2
    | some i=>simpa using h2
theorem Ol {key val:V}:∀ {kv kv':List (V×V)},Gi key val kv=some kv'->∃ p,Hb key kv=some p/\(match p with | none=>kv'=kv ++ [(key,val)] | some i=>(∃ x v,kv[i]?=some (x,v)/\M9 key x=some true)/\kv'=kv.set i (key,val))
 | [],kv',h=>by simp[Gi] at h;subst h;exact ⟨none,rfl,rfl⟩
 | (x,v) :: r,kv',h=>by
  simp only[Gi] at h;simp only[Hb];cases hq:M9 key x with
  | none=>simp[hq] at h
  | some b =>
   cases b with
   | true=>simp[hq] at h;exact ⟨some 0,rfl,⟨x,v,by simp,hq⟩,by simp[h]⟩
   | false =>
    simp only[hq] at h;split at h
    ·rename_i l hl
     injection h with h;subst h;obtain ⟨p,h1,h2⟩:=Ol hl;refine ⟨p.map (· + 1),by simp[h1],?_⟩;cases p with
     | none=>simp only at h2 ⊢;rw[h2];rfl
     | some i=>simp only[ZN] at h2 ⊢;exact ⟨by simpa using h2.1,by rw[h2.2];rfl⟩
    ·cases h
section
variable {P:Program}{ρ:Rho}
theorem KVR.get:∀ {kv:List (V×V)}{es:List MapEntry},KVR ρ kv es->∀ (i:Nat) (p:V×V),kv[i]?=some p->∃ e,es[i]?=some e/\VR ρ p.1 e.key/\VR ρ p.2 e.val
 | [],es,h,i,p,hp=>by simp at hp
 | (k,v) :: r,es,h,i,p,hp=>by
  simp only[KVR] at h;obtain ⟨e,t,rfl,h1,h2,h3⟩:=h;cases i with
  | zero=>simp at hp;subst hp;exact ⟨e,by simp,h1,h2⟩
  | succ i=>simpa using KVR.get h3 i p (by simpa using hp)
theorem KVR.length:∀ {kv:List (V×V)}{es:List MapEntry},KVR ρ kv es->kv.length=es.length
 | [],es,h=>by simp only[KVR] at h;subst h;rfl
 | (k,v) :: r,es,h=>by simp only[KVR] at h;obtain ⟨e,t,rfl,h1,h2,h3⟩:=h;simp[KVR.length h3]
theorem KVR.of_get:∀ {kv:List (V×V)}{es:List MapEntry},kv.length=es.length->(∀ (i:Nat) (p:V×V),kv[i]?=some p->∃ e,es[i]?=some e/\VR ρ p.1 e.key/\VR ρ p.2 e.val)->KVR ρ kv es
 | [],es,hl,_=>by have:es = []:=YM (by simpa using hl.symm);subst this;simp[KVR]
 | (k,v) :: r,[],hl,_=>by simp at hl
 | (k,v) :: r,e :: es,hl,h=>by obtain ⟨e',h1,h2,h3⟩:=h 0 (k,v) (by simp);simp at h1;subst h1;simp only[KVR];exact ⟨_,_,rfl,h2,h3,KVR.of_get (by simpa using hl) λi p hp=>by simpa using h (i+1) p (by simpa using hp)⟩
theorem MA {y:V} (h:SP x y=some true) {d:Value} (hx:VR ρ x c) (hy:VR ρ y d):c=d/\∀ n,Instr.sameBits n d c=true:=by
 unfold SP at h;split at h
 ·rename_i k a k' b
  split at h
  ·rename_i hk
   have hk:=of_decide_eq_true hk;subst hk;simp at h;subst h;simp only[VR] at hx hy;subst hx;subst hy;exact ⟨rfl,λn=>by cases n<;>simp[Instr.sameBits]⟩
  ·cases h
 ·simp at h;subst h;simp only[VR] at hx hy;subst hx;subst hy;exact ⟨rfl,λn=>by cases n<;>simp[Instr.sameBits]⟩
 ·rename_i a b
  simp at h;have:a=b:=by rw[Z4,Z4] at h;obtain ⟨⟨a⟩⟩:=a;obtain ⟨⟨b⟩⟩:=b;simp at h;rw[h]
  subst this;simp only[VR] at hx hy;subst hx;subst hy;exact ⟨rfl,λn=>by cases n<;>simp[Instr.sameBits,beq_toListBytes]⟩
 ·cases h
theorem OK:∀ {xs ys:List V},DO xs ys=some true->∀ {cs ds:List Value},VRs ρ xs cs->VRs ρ ys ds->cs=ds/\∀ n,((ds.zip cs).all λ(x,y)=>Instr.sameBits n x y)=true
 | [],[],h,cs,ds,hx,hy=>by simp only[VRs] at hx hy;subst hx;subst hy;exact ⟨rfl,λn=>rfl⟩
 | x :: xs,y :: ys,h,cs,ds,hx,hy=>by
  simp only[DO] at h;split at h
  ·rename_i a b h1 h2
   simp only[Option.some.injEq,YQ] at h;obtain ⟨rfl,rfl⟩:=h;simp only[VRs] at hx hy;obtain ⟨c,cs',rfl,k1,k2⟩:=hx;obtain ⟨d,ds',rfl,k3,k4⟩:=hy;obtain ⟨g1,g2⟩:=MA h1 k1 k3;obtain ⟨g3,g4⟩:=OK h2 k2 k4;exact ⟨by rw[g1,g3],λn=>by simp[g2 n];simpa using g4 n⟩
  ·cases h
 | [],y :: ys,h,_,_,_,_=>by simp[DO] at h
 | x :: xs,[],h,_,_,_,_=>by simp[DO] at h
theorem VY {y:V} (h:M9 x y=some true) {d:Value} (hx:VR ρ x c) (hy:VR ρ y d):c=d/\Instr.sameBits 10000 d c=true:=by
 unfold M9 at h;split at h
 ·simp only[VR] at hx hy;obtain ⟨cs,rfl,k1⟩:=hx;obtain ⟨ds,rfl,k2⟩:=hy;obtain ⟨g1,g2⟩:=OK h k1 k2;have:cs=ds:=by cases cs;cases ds;simpa using g1
  refine ⟨by rw[this],?_⟩;subst this;show (cs.size==cs.size&&(cs.toList.zip cs.toList).all λ(x,y)=>Instr.sameBits 9999 x y)=true;rw[g2 9999];simp
 ·exact ⟨(MA h hx hy).1,(MA h hx hy).2 10000⟩
theorem LQ {s:Sh} (h:GG s x=true):(∃ k n,s = .int k/\x = .int k n)\/(s = .bool/\∃ b,x = .bool b)\/(s = .str/\∃ b,x = .str b):=by
 unfold GG at h;split at h
 ·have h:=of_decide_eq_true h;subst h;exact .inl ⟨_,_,rfl,rfl⟩
 ·exact .inr (.inl ⟨rfl,_,rfl⟩)
 ·exact .inr (.inr ⟨rfl,_,rfl⟩)
 ·cases h
theorem MJ (n:Nat) (b:Bool) {q:TypeId}{d:TypeDesc} (hu:P.underlying q=some d) (c:Value) (hd:match d with | .int _=>True | .bool=>True | .string=>True | _=>False) (w:World):(Instr.checkKey b (n+1) q c).run P w = .ok () w:=by simp only[Instr.checkKey,Sem.run_bind,run_underlying hu,Result.andThen_ok];cases d<;>simp at hd<;>cases c<;>rfl
theorem Jv {X:Ctx} (hX:X.ty=Az P) (hE:∀ t,X.cmp t=true->EqOk P t) {q:TypeId} (hk:Io X q x=true) (hx:VR ρ x c) (b:Bool) (w:World):(Instr.checkKey b 10000 q c).run P w = .ok () w:=by
 unfold Io at hk;split at hk
 ·simp only[YQ] at hk;simp only[VR] at hx;obtain ⟨cs,rfl,hx⟩:=hx;rw[hX] at hk;exact (hE q hk.1).key ρ w _ cs b hk.2 hx
 ·rw[hX] at hk;have hc:=H5 (P:=P) (t:=q) rfl;rcases LQ hk with ⟨k,n,hs,rfl⟩ | ⟨hs,n,rfl⟩ | ⟨hs,n,rfl⟩<;>rw[hs] at hc<;>exact MJ 9999 b hc _ trivial w
theorem KK {kind:TypeDesc}{x:V}{c:Value} (hsame:∀ y d b,VR ρ y d->M9 x y=some b->Instr.sameNow kind c d=some b):∀ {kv:List (V×V)}{es:List MapEntry}{p:Option Nat} (i0:Nat),Hb x kv=some p->KVR ρ kv es ->
  Instr.findNow kind c es i0=some (p.bind λi=>es[i]?.map λe=>(i0+i,e.val))
 | [],es,p,i0,h,hk=>by simp only[KVR] at hk;subst hk;simp[Hb] at h;subst h;rfl
 | (y,v) :: kv,es,p,i0,h,hk=>by
  simp only[KVR] at hk;obtain ⟨e,t,rfl,h1,h2,h3⟩:=hk;simp only[Hb] at h;split at h
  ·rename_i hq
   injection h with h;subst h;simp[Instr.findNow,hsame _ _ _ h1 hq]
  ·rename_i hq
   split at h
   ·rename_i p' hp
    injection h with h;subst h;simp only[Instr.findNow,hsame _ _ _ h1 hq];rw[KK hsame (i0+1) hp h3];cases p' with
    | none=>rfl
    | some i=>simp[Nat.add_assoc,Nat.add_comm 1 i]
   ·cases h
  ·cases h
theorem Fu {q:TypeId}{x:V}{c:Value} (w:World) (hsame:∀ y d b,VR ρ y d->M9 x y=some b->(Op.equal q c d).run P w = .ok b w):∀ {kv:List (V×V)}{es:List MapEntry}{p:Option Nat} (i0:Nat),Hb x kv=some p->KVR ρ kv es ->
  (Instr.findAsking q c es i0).run P w = .ok (p.bind λi=>es[i]?.map λe=>(i0+i,e.val)) w
 | [],es,p,i0,h,hk=>by simp only[KVR] at hk;subst hk;simp[Hb] at h;subst h;rfl
 | (y,v) :: kv,es,p,i0,h,hk=>by
  simp only[KVR] at hk;obtain ⟨e,t,rfl,h1,h2,h3⟩:=hk;simp only[Hb] at h;split at h
  ·rename_i hq
   injection h with h;subst h;simp[Instr.findAsking,hsame _ _ _ h1 hq]
  ·rename_i hq
   split at h
   ·rename_i p' hp
    injection h with h;subst h;simp only[Instr.findAsking,Sem.run_bind,hsame _ _ _ h1 hq,Result.andThen_ok,Zi,if_false];rw[Fu w hsame (i0+1) hp h3];cases p' with
    | none=>rfl
    | some i=>simp[Nat.add_assoc,Nat.add_comm 1 i]
   ·cases h
  ·cases h
theorem Mz:∀ {ss:List Sh}{xs ys:List V}{b:Bool},Co ss xs=true->DO xs ys=some b->Co ss ys=true
 | [],[],[],b,h,hq=>rfl
 | [],[],y :: ys,b,h,hq=>by simp[DO] at hq
 | [],x :: xs,ys,b,h,hq=>by simp[Co] at h
 | s :: ss,[],ys,b,h,hq=>by simp[Co] at h
 | s :: ss,x :: xs,[],b,h,hq=>by simp[DO] at hq
 | s :: ss,x :: xs,y :: ys,b,h,hq=>by
  simp only[Co] at h ⊢;split at h
  ·rename_i h1
   simp only[DO] at hq;split at hq
   ·rename_i b1 b2 q1 q2
    rw[Mz h q2];have:GG s y=true:=by
     unfold SP at q1;split at q1
     ·split at q1
      ·rename_i hk
       have hk:=of_decide_eq_true hk;subst hk;cases s<;>simp[GG] at h1 ⊢ <;> exact h1
      ·cases q1
     ·cases s<;>simp[GG] at h1 ⊢
     ·cases s<;>simp[GG] at h1 ⊢
     ·cases q1
    rw[this]
   ·cases hq
  ·cases h
theorem KL {X:Ctx} (hX:X.ty=Az P) (hE:∀ t,X.cmp t=true->EqOk P t) {q:TypeId} (hk:Io X q x=true) (hx:VR ρ x c) (w:World) {es:List MapEntry}{p:Option Nat} (hp:Hb x kv=some p) (hkv:KVR ρ kv es) :
  (Instr.findKey q c es).run P w = .ok (p.bind λi=>es[i]?.map λe=>(i,e.val)) w:=by
 have hz:∀ p:Option Nat,(p.bind λi=>es[i]?.map λe=>(0+i,e.val))=p.bind λi=>es[i]?.map λe=>(i,e.val):=λp=>by simp
 unfold Io at hk;split at hk
 ·rename_i xs
  simp only[YQ] at hk;simp only[VR] at hx;obtain ⟨cs,rfl,hx⟩:=hx;rw[hX] at hk;have hq:=hE q hk.1;obtain ⟨fs,hu⟩:=hq.kind;have hsame:∀ y d b,VR ρ y d->M9 (.agg xs) y=some b->(Op.equal q (.agg cs) d).run P w = .ok b w:=by
   intro y d b hy he;cases y<;>simp only[M9,SP] at he<;>(try cases he)
   rename_i ys
   simp only[VR] at hy;obtain ⟨ds,rfl,hy⟩:=hy;exact hq.eq ρ w xs ys cs ds b hk.2 (Mz hk.2 he) hx hy he
  simp only[Instr.findKey,Sem.run_bind,run_underlying hu,Result.andThen_ok];cases es with
  | nil =>have:=Fu w hsame 0 hp hkv;rw[hz] at this;rw[<- this];rfl
  | cons e es =>have h0:Instr.findNow (.struct fs) (.agg cs) (e :: es) 0=none:=rfl;have:=Fu w hsame 0 hp hkv;rw[hz] at this;rw[h0];exact this
 ·rename_i hna
  rw[hX] at hk;have hc:=H5 (P:=P) (t:=q) rfl;have key:∀ kind,P.underlying q=some kind->(∀ y d b,VR ρ y d->M9 x y=some b->Instr.sameNow kind c d=some b)->(Instr.findKey q c es).run P w = .ok (p.bind λi=>es[i]?.map λe=>(i,e.val)) w:=by intro kind hu hsame;have:=KK hsame 0 hp hkv;rw[hz] at this;simp only[Instr.findKey,Sem.run_bind,run_underlying hu,Result.andThen_ok,this,Sem.run_pure]
  rcases LQ hk with ⟨k,n,hs,rfl⟩ | ⟨hs,n,rfl⟩ | ⟨hs,n,rfl⟩<;>rw[hs] at hc<;>simp only[VR] at hx<;>subst hx<;>refine key _ hc λy d b hy he=>?_<;>cases y<;>simp only[M9,SP] at he<;>(try cases he) <;>
   simp only[VR] at hy<;>subst hy
  ·split at he
   ·rename_i hk
    have hk:=of_decide_eq_true hk;subst hk;simpa [Instr.sameNow] using he
   ·cases he
  ·rfl
  ·simp[Instr.sameNow,beq_toListBytes]
end
section
variable {P:Program}{lo base:Nat}{ρ:Rho}{β:Bet}{σ:St}{a:Act}{w:World}{R:Type}{r:R}{K:V->St->Option R}{X:Ctx}
variable {dst:Option Nat}{ty:TypeId}{pos:String}{after:Array Edge}{guard:Option (Nat×Bool)}
theorem Pg {h:Heap}{b:Nat} (hk:Heap.kv? h b=some kv):∃ t,h[b]?=some (.map t kv):=by
 unfold Heap.kv? at hk;split at hk
 ·rename_i t kv' he;injection hk with hk;subst hk;exact ⟨_,he⟩
 ·cases hk
theorem L0 {q:TypeId} (h:Io X q x=true):WQ x=true:=by
 unfold Io at h;split at h
 ·rfl
 ·unfold GG at h;split at h<;>(try cases h)<;>rfl
theorem Fp {q:Nat}{es:Array MapEntry}{clock:Nat} (h:w.heap[q]?=some (.map es clock)):(getObj q).run P w = .ok (.map es clock) w:=by simp[getObj,Sem.run,h]
theorem LR {q:Nat}{es:Array MapEntry}{clock:Nat} (h:w.heap[q]?=some (.map es clock)) (o:Obj):(setObj q o).run P w = .ok () (Cf w q o):=by simp[setObj,Sem.run,h,Cf]
theorem SS (hB:base<=w.heap.size) (hs:SRel ρ β σ.s a) (hh:HRel ρ σ.h w) (hf:FRel ρ β σ.bx w) {t:TypeId}{x:Option Operand}
  (hk:opT X lo dst ty (.makeMap t x) σ K=some r):DG P lo base ρ β σ a w ⟨dst,.makeMap t x,ty,pos,after,guard⟩ K r:=by
 simp only[opT] at hk;split at hk
 ·refine ⟨w.alloc (.map #[] 0),.inl ⟨.map (some w.heap.size),?_,?_⟩⟩
  ·simp[execOp,Instr.makeMap]
  ·have hx:Ext lo w.heap.size ρ σ.h w (ρ.set σ.h.length ⟨w.heap.size,0,0,0,0⟩) (σ.h ++ [.map t []]) (w.alloc (.map #[] 0)):=Ext.alloc hh _ _ _ rfl;refine ⟨_,_,hk,ρ.set σ.h.length ⟨w.heap.size,0,0,0,0⟩,β,rfl,?_,?_,hf.ext hx,hx.weaken (YH _) hB,Ble.refl _,λt r h1 h2=>(by rw[h1] at h2;cases h2),JR⟩
   ·exact SV.of (by simp only[VR,Rho.set_same];exact ⟨_,rfl,rfl⟩)
   ·refine hh.alloc _ _ _ rfl ?_;exact ⟨#[],0,Gz _ _,by simp[KVR]⟩
 ·cases hk
theorem US (hX:X.ty=Az P) (hE:∀ t,X.cmp t=true->EqOk P t) (hs:SRel ρ β σ.s a) (hh:HRel ρ σ.h w) (hf:FRel ρ β σ.bx w) {t:TypeId}{ok:Bool}
  (hk:opT X lo dst ty (.lookup t m i ok) σ K=some r):DG P lo base ρ β σ a w ⟨dst,.lookup t m i ok,ty,pos,after,guard⟩ K r:=by
 have hm:=BH hs m;simp only[opT] at hk;split at hk
 ·rename_i q e hty
  rw[hX] at hty;have hu:=Ss hty;split at hk
  ·rename_i m0 r0 he hok
   simp only[YQ] at hok;obtain ⟨⟨hok,hz⟩,hkn⟩:=hok;rw[hX] at hz hkn;obtain ⟨b,rfl,hk1⟩:=AF hk;obtain ⟨kv,hkv,hk2⟩:=AF hk1;obtain ⟨f,hfnd,hk3⟩:=AF hk2;rw[he] at hm;obtain ⟨e1,k1,hax⟩:=hm.map;obtain ⟨t',hkv⟩:=Pg hkv;obtain ⟨es,clock,g1,g2⟩:=hh.blk b e1 _ k1 hkv;have hvi:VR ρ (ev σ.s i) (a.eval i):=(BH hs i).ok (L0 hok);obtain ⟨p,p1,p2⟩:=Me hfnd;obtain ⟨ii,dd,hii,hdd,s1,s2,s3,s4,s5⟩:=Ba hkn;cases hzz:ii.zero with
   | none=>rw[s5] at hz;simp[hzz] at hz
   | some z =>
    have hfk:=KL hX hE hok hvi w p1 g2;have hck:=Jv hX hE hok hvi es.isEmpty w;have hzv:VR ρ (XM (X.ty e).agg (X.ty e).zero) z:=by rw[hX];exact Vy hkn hz hii hzz
    cases p with
    | none =>
     simp only at p2;subst p2;have hrun:(execOp a.eval ⟨dst,.lookup t m i ok,ty,pos,after,guard⟩).run P w = .ok (.value (if ok then .tuple #[z,.bool false] else z)) w:=by simp only[execOp,Instr.lookup,Sem.run_bind,run_underlying hu,Result.andThen_ok,hax,Fp g1,Sem.run_pure,hck,hfk,Option.bind_none,CX hii hzz]
     cases ok with
     | true =>
      simp only at hk3;rcases TF hk3 with ⟨_,h,_⟩ | ⟨_,hk4⟩
      ·cases h
      ·refine AG hrun hh hf (SV.of ?_) hk4;simp only[VR,if_true];exact ⟨_,rfl,VRs.cons hzv (VRs.cons VR.bool' VRs.nil)⟩
     | false =>simp only at hk3;obtain ⟨v',hk4,hle⟩:=EY hk3;exact AG hrun hh hf (SV.of (hle ρ _ hzv)) hk4
    | some i1 =>
     obtain ⟨x1,v1,q1,rfl⟩:=p2;obtain ⟨e2,q2,q3,q4⟩:=g2.get _ _ q1;have hrun:(execOp a.eval ⟨dst,.lookup t m i ok,ty,pos,after,guard⟩).run P w = .ok (.value (if ok then .tuple #[e2.val,.bool true] else e2.val)) w:=by simp only[execOp,Instr.lookup,Sem.run_bind,run_underlying hu,Result.andThen_ok,hax,Fp g1,Sem.run_pure,hck,hfk,Za,q2,ZN]
     cases ok with
     | true =>
      simp only at hk3;rcases TF hk3 with ⟨x,h,hk4⟩ | ⟨h,_⟩
      ·injection h with h;subst h;obtain ⟨v',hk5,hle⟩:=EY hk4;refine AG hrun hh hf (SV.of ?_) hk5;simp only[VR,if_true];exact ⟨_,rfl,VRs.cons (hle ρ _ q4) (VRs.cons VR.bool' VRs.nil)⟩
      ·cases h
     | false =>simp only at hk3;obtain ⟨v',hk4,hle⟩:=EY hk3;exact AG hrun hh hf (SV.of (hle ρ _ q4)) hk4
  ·cases hk
 ·cases hk
theorem map_set (hB:base<=w.heap.size) (hX:X.ty=Az P) (hE:∀ t,X.cmp t=true->EqOk P t) (hs:SRel ρ β σ.s a) (hh:HRel ρ σ.h w) (hf:FRel ρ β σ.bx w) {t:TypeId}{x:Operand}{o:Oper}
  (ho:execOp a.eval o=do Instr.mapUpdate t (a.eval m) (a.eval i) (a.eval x);pure .skip)
  (hk:(match (X.ty t).ty with
   | .map q _=>match ev σ.s m,WQ (ev σ.s x)&&Io X q (ev σ.s i) with
    | .map r,true=>eO r λb=>eO (Heap.kv? σ.h b) λkv=>A8 (Nat.ble lo b) <| eO (Gi (ev σ.s i) (ev σ.s x) kv) λkv'=>K (.tup []) { σ with h:=σ.h.set b (.map t kv') }
    | _,_=>none
   | _=>none)=some r):DG P lo base ρ β σ a w o K r:=by
 have hm:=BH hs m;split at hk
 ·rename_i q e hty
  rw[hX] at hty;have hu:=Ss hty;split at hk
  ·rename_i m0 r0 he hok
   simp only[YQ] at hok;obtain ⟨hox,hok⟩:=hok;obtain ⟨b,rfl,hk1⟩:=AF hk;obtain ⟨kv,hkv,hk2⟩:=AF hk1;obtain ⟨hlo,hk3⟩:=At hk2;have hlo:=Zx hlo;obtain ⟨kv',hset,hk4⟩:=AF hk3;rw[he] at hm;obtain ⟨e1,k1,hax⟩:=hm.map;obtain ⟨t',hkv⟩:=Pg hkv;obtain ⟨es,clock,g1,g2⟩:=hh.blk b e1 _ k1 hkv;have hvi:VR ρ (ev σ.s i) (a.eval i):=(BH hs i).ok (L0 hok);have hvx:VR ρ (ev σ.s x) (a.eval x):=(BH hs x).ok hox;obtain ⟨p,p1,p2⟩:=Ol hset;have hfk:=KL hX hE hok hvi w p1 g2;have hck:=Jv hX hE hok hvi false w;have hlt:e1.r<w.heap.size:=(hh.dom b e1 k1).2;have fin:∀ es' clock',(execOp a.eval o).run P w = .ok .skip (Cf w e1.r (.map es' clock'))->KVR ρ kv' es'.toList->DG P lo base ρ β σ a w o K r:=by
    intro es' clock' hrun hkv';refine ⟨_,.inr ⟨hrun,_,_,hk4,ρ,β,rfl,SV.of (by simp[VR,VRs,undef]),?_,?_,?_,Ble.refl _,λt r h1 h2=>(by rw[h1] at h2;cases h2),JR⟩⟩
    ·exact hh.write k1 hkv (by simp) (λ⟨_,_,_,h⟩=>by rw[hkv] at h;cases h) (λ_ _ _ h=>by cases h) Br (λr' hr'=>Bm hr') ⟨es',clock',DK hlt,hkv'⟩
    ·exact hf.ext (lo:=lo) (h:=σ.h) (h':=σ.h.set b (.map t kv')) (Ext.write k1 hlo Br (λr' hr'=>Bm hr') rfl rfl rfl)
    ·exact (Ext.write k1 hlo Br (λr' hr'=>Bm hr') rfl rfl rfl).weaken (YH _) hB
   cases p with
   | none =>
    simp only at p2;refine fin (es.push { key:=a.eval i,val:=a.eval x,born:=clock }) (clock+1) ?_ ?_
    ·rw[ho];simp only[Instr.mapUpdate,Sem.run_bind,run_underlying hu,Result.andThen_ok,hax,Fp g1,hck,hfk,Option.bind_none,LR g1,Sem.run_pure]
    ·rw[p2];refine KVR.of_get (by simp[g2.length]) λj y hy=>?_;have hl:=g2.length;by_cases hj:j<kv.length
     ·rw[YI hj] at hy;obtain ⟨e3,z1,z2,z3⟩:=g2.get j y hy;refine ⟨e3,?_,z2,z3⟩;rw[Array.toList_push,YI (by omega)];exact z1
     ·have:j=kv.length:=by have:=(YE.1 hy).1;simp at this;omega
      subst this;simp at hy;subst hy;refine ⟨{ key:=a.eval i,val:=a.eval x,born:=clock },?_,hvi,hvx⟩;rw[hl];simp
   | some i1 =>
    obtain ⟨⟨x1,v1,q1,hq⟩,p2⟩:=p2;obtain ⟨e2,q2,q3,q4⟩:=g2.get _ _ q1;obtain ⟨_,hsb⟩:=VY hq hvi q3;have hsb:Instr.sameBits 10000 (((es[i1]?).map (·.key)).getD (a.eval i)) (a.eval i)=true:=by simp at q2;simp only[q2,ZN,ZP];exact hsb
    refine fin (es.modify i1 λe=>{ e with key:=a.eval i,val:=a.eval x }) clock ?_ ?_
    ·rw[ho];simp only[Instr.mapUpdate,Sem.run_bind,run_underlying hu,Result.andThen_ok,hax,Fp g1,hck,hfk,Za,q2,ZN,Instr.keyThatStays,hsb,if_true,LR g1,Sem.run_pure]
    ·rw[p2];refine KVR.of_get (by simp[g2.length]) λj y hy=>?_;rw[List.getElem?_set] at hy;by_cases hj:i1=j
     ·subst hj;rw[if_pos rfl] at hy;split at hy
      ·injection hy with hy;subst hy;refine ⟨{ e2 with key:=a.eval i,val:=a.eval x },?_,hvi,hvx⟩;simp at q2;simp[Array.getElem?_modify,q2]
      ·cases hy
     ·rw[if_neg hj] at hy;obtain ⟨e3,z1,z2,z3⟩:=g2.get j y hy;refine ⟨e3,?_,z2,z3⟩;simp at z1;simp[Array.getElem?_modify,hj,z1]
  ·cases hk
 ·cases hk
theorem PD (hB:base<=w.heap.size) (hX:X.ty=Az P) (hE:∀ t,X.cmp t=true->EqOk P t) (hs:SRel ρ β σ.s a) (hh:HRel ρ σ.h w) (hf:FRel ρ β σ.bx w) {t:TypeId}{x:Operand}
  (hk:opT X lo dst ty (.mapUpdate t m i x) σ K=some r):DG P lo base ρ β σ a w ⟨dst,.mapUpdate t m i x,ty,pos,after,guard⟩ K r:=map_set hB hX hE hs hh hf rfl hk
theorem UT (hB:base<=w.heap.size) (hX:X.ty=Az P) (hE:∀ t,X.cmp t=true->EqOk P t) (hs:SRel ρ β σ.s a) (hh:HRel ρ σ.h w) (hf:FRel ρ β σ.bx w) {t:TypeId}{x:Operand}
  (hk:opT X lo dst ty (.insert t m i x) σ K=some r):DG P lo base ρ β σ a w ⟨dst,.insert t m i x,ty,pos,after,guard⟩ K r:=map_set hB hX hE hs hh hf rfl hk
end
end Go.Proofs.YtoocmbhkaghgnaaGreat.T
namespace Go.Proofs.YtoocmbhkaghgnaaGreat.T
open Go
variable {h:Heap}{rs xs:List (List V)}{vs:List Value}{z:Value}{i:TypeInfo}{news:List Value}{du:TypeDesc}
section
variable {P:Program}{lo base:Nat}{ρ:Rho}{β:Bet}{σ:St}{w:World}
theorem HRel.kill (hh:HRel ρ h w) {b:Nat}{R:Nat}{t:TypeId} (hk:h[b]?=some (.rows R t false rs)):HRel ρ (h.set b .dead) w where
 dom:=λb' e' h1=>by have:=hh.dom b' e' h1;simp;omega
 blk:=λb' e' k1 h1 h2=>by
  by_cases hx:b'=b
  ·subst hx;rw[YO (by have:=(hh.dom _ _ h1).1;omega)] at h2;injection h2 with h2;subst h2;trivial
  ·rw[YG (Ne.symm hx)] at h2;exact hh.blk b' e' k1 h1 h2
 inj:=λb1 b2 e1 e2 h1 h2 hr hne=>by
  have dead:∀ {x:Nat},x<h.length->(x=b\/Bn h x)->Bn (h.set b .dead) x:=λhx hd=>by
   unfold Bn at *
   rcases hd with rfl | hd
   ·rw[YO hx]
   ·rw[List.getElem?_set];split
    ·rename_i q;subst q;rw[if_pos hx]
    ·exact hd
  have ro:∀ {x:Nat},x≠b->Mh h x->Mh (h.set b .dead) x:=λhx ⟨a,c,d,f⟩=>⟨a,c,d,by rw[YG (Ne.symm hx)];exact f⟩
  have d1:=(hh.dom _ _ h1).1;have d2:=(hh.dom _ _ h2).1;by_cases e1':b1=b
  ·exact .inl (dead d1 (.inl e1'))
  ·by_cases e2':b2=b
   ·exact .inr (.inl (dead d2 (.inl e2')))
   ·rcases hh.inj b1 b2 e1 e2 h1 h2 hr hne with h3 | h3 | ⟨h3,h4⟩
    ·exact .inl (dead d1 (.inr h3))
    ·exact .inr (.inl (dead d2 (.inr h3)))
    ·exact .inr (.inr ⟨ro e1' h3,ro e2' h4⟩)
theorem Ext.kill {b:Nat} (k:Blk) (hlo:lo<=b):Ext lo w.heap.size ρ h w ρ (h.set b k) w where
 rle:=Rle.refl _
 new:=λb e h1 h2=>by rw[h1] at h2;cases h2
 frame:=λr hr hf=>rfl
 size:=YH _
 os:=rfl
 tape:=rfl
 output:=rfl
 len:=by simp
 pres:=λx h1 _=>YG (by omega)
 tot:=λb h1 h2=>by simp at h2;omega
theorem Ext.drew {h:Heap}:Ext lo w.heap.size ρ h w ρ h w.drew where
 rle:=Rle.refl _
 new:=λb e h1 h2=>by rw[h1] at h2;cases h2
 frame:=λr hr hf=>rfl
 size:=YH _
 os:=rfl
 tape:=rfl
 output:=rfl
 len:=YH _
 pres:=λx h1 _=>rfl
 tot:=λb h1 h2=>by omega
theorem VU {h0:Heap} (hB:base<=w.heap.size) (hh:HRel ρ h0 w) (hf:FRel ρ β σ.bx w) (hx0:Ext lo w.heap.size ρ σ.h w ρ h0 w) {e:TypeId}{rows:List (List V)}{cells:Array Value}{size m:Nat}
  (hv:RowsR ρ size 0 rows cells) (hone:OneCells cells) (hsz:m*size<=cells.size) (hm:rows.length<=m) :
  Fine lo base ρ β σ w (.sl size (some (h0.length,0)) rows.length none) { σ with h:=h0 ++ [.rows size e false rows] } (.slice (some ⟨w.heap.size,0,none⟩) rows.length m) (w.drew.alloc (.cells cells e)):=by
 have hh':HRel ρ h0 w.drew:=hh.drew;have hx1:Ext lo w.heap.size ρ h0 w.drew (ρ.set h0.length ⟨w.heap.size,0,size,rows.length,m⟩) (h0 ++ [.rows size e false rows]) (w.drew.alloc (.cells cells e)):=Ext.alloc hh' _ _ _ rfl;have hx:=(hx0.trans Ext.drew).trans hx1;refine ⟨ρ.set h0.length ⟨w.heap.size,0,size,rows.length,m⟩,β,rfl,?_,?_,hf.ext hx,hx.weaken (YH _) hB,Ble.refl _,λt r h1 h2=>(by rw[h1] at h2;cases h2),JR⟩
 ·refine SV.of ?_;simp only[VR,Rho.set_same];exact ⟨_,_,m,rfl,rfl,rfl,.inr (by simp),hm,(λy hy=>by cases hy),λ_=>⟨by simp,rfl⟩⟩
 ·refine hh'.alloc _ _ _ rfl ?_;exact ⟨cells,(0,0),Gz _ _,λ_=>⟨rfl,rfl⟩,rfl,rfl,hm,(show 0+m*size<=cells.size by omega),hv.mono (Rle.refl _),.inl hone⟩
theorem RowsR.pasteRows {R o i:Nat}{cs:Array Value} (h:RowsR ρ R o rs cs) (hl:∀ row∈xs,row.length=R) (hi:i+xs.length<=rs.length) (hv:VRs ρ xs.flatten vs) (hs:o+rs.length*R<=cs.size) :
  RowsR ρ R o (rs.take i++xs++rs.drop (i+xs.length)) (EC cs (o+i*R) vs):=by
 have hfl:=BX hl;have hvl:=hv.length;have hbig:(i+xs.length)*R<=rs.length*R:=Zb R hi;rw[Zu] at hbig;intro q row hq;by_cases h1:q<i
 ·have hq':rs[q]?=some row:=by rw[YV,YI (by simp;omega),ZH,if_pos h1] at hq;exact hq
  refine ⟨(h q row hq').1,λj v hj=>?_⟩;obtain ⟨c,g1,g2⟩:=(h q row hq').2 j v hj;refine ⟨c,?_,g2⟩;have hj':j<R:=by have:=(YE.1 hj).1;rw[(h q row hq').1] at this;exact this
  have:=L3 h1 hj';rw[CT _ _ _ _ (.inl (by omega))];exact g1
 ·by_cases h2:q<i+xs.length
  ·have hq':xs[q - i]?=some row:=by rw[YV,Y1 (by simp;omega),YI (by simp;omega)] at hq;rw[<- hq];congr 1;simp;omega
   refine ⟨hl row (YS hq'),λj v hj=>?_⟩;have hj':j<R:=by have:=(YE.1 hj).1;rw[hl row (YS hq')] at this;exact this
   obtain ⟨c,g1,g2⟩:=hv.get _ v (Mr hl hq' hj);refine ⟨c,?_,g2⟩;have e1:o+(q*R+j)=o+i*R+((q - i)*R+j):=by
    have:q*R=i*R+(q - i)*R:=by rw[<- Zu];congr 1;omega
    omega
   have hlt:(q - i)*R+j<vs.length:=(YE.1 g1).1;rw[e1,HQ _ _ _ _ (by omega) hlt];exact g1
  ·have hq':rs[q]?=some row:=by rw[Y1 (by simp;omega),Zc] at hq;rw[<- hq];congr 1;simp;omega
   refine ⟨(h q row hq').1,λj v hj=>?_⟩;obtain ⟨c,g1,g2⟩:=(h q row hq').2 j v hj;refine ⟨c,?_,g2⟩;have:(i+xs.length)*R<=q*R:=Zb R (by omega);rw[Zu] at this;rw[CT _ _ _ _ (.inr (by omega))];exact g1
theorem LI {h':Heap} (hh:HRel ρ h w) {b i:Nat}{e:E} (hb:ρ b=some e) (hst:E5 lo h b i xs=some h') (hl:∀ row∈xs,row.length=e.R) (hv:VRs ρ xs.flatten vs) (hone:∀ v∈vs,v.oneCell'=true) :
  ∃ w',(storeCells ⟨e.r,e.o+i*e.R,none⟩ vs).run P w = .ok () w'/\HRel ρ h' w'/\Ext lo w.heap.size ρ h w ρ h' w':=by
 obtain ⟨R',el,rs,hkb,hlo,hi,rfl⟩:=Kq hst;obtain ⟨cs,fr,g1,g2,g3,g4,g5,g6,g7,g8⟩:=hh.blk b e _ hb hkb;obtain ⟨rfl,ho⟩:=g2 rfl;have hqlt:e.r<w.heap.size:=(hh.dom b e hb).2;have hfl:=BX hl;have hvl:=hv.length;have hbig:(i+xs.length)*R'<=rs.length*R':=Zb R' hi;have hbig2:rs.length*R'<=e.m*R':=Zb R' (by omega);rw[Zu] at hbig;rw[g3] at hfl;have hrun:=CQ (P:=P) vs w e.r (e.o+i*e.R) 0 cs el g1 (by rw[g3];omega) hone;refine ⟨_,hrun,?_,Ext.write hb hlo Br (λr' hr'=>Bm hr') rfl rfl rfl⟩;refine hh.write hb hkb (by simp) (So hkb) (λ_ _ _ h=>by cases h) Br (λr' hr'=>Bm hr') ?_;refine ⟨_,(0,0),DK hqlt,λ_=>⟨rfl,ho⟩,g3,by rw[g4];simp;omega,g5,by rw[Dk];exact g6,?_,.inl (Hr (g8.resolve_right λh=>by cases h.1) hone)⟩;rw[g3,ZK];rw[g3] at hl;exact g7.pasteRows hl hi hv (by omega)
section
variable {P:Program}{lo base:Nat}{ρ:Rho}{β:Bet}{σ:St}{a:Act}{w:World}{R:Type}{r:R}{K:V->St->Option R}{X:Ctx}
theorem Vp {b:Nat}{e:TypeId} (hk:Heap.own? lo e h b=some rs):∃ R,h[b]?=some (.rows R e false rs)/\lo<=b:=by
 unfold Heap.own? at hk;split at hk
 ·rename_i R e rs' he
  split at hk
  ·rename_i hle hee;injection hk with hk;subst hk
   have:=YL hee;subst this;exact ⟨_,he,Zx hle⟩
  ·cases hk
 ·cases hk
theorem OR:∀ (l:List UInt8),VRs ρ (l.map λb => [V.int .u8 (b.toNat:Int)]).flatten (l.map λb=>Value.int .u8 b.toNat)
 | []=>VRs.nil
 | b :: l=>by simpa using VRs.cons VR.int' (OR l)
theorem LU (hh:HRel ρ h w) {size:Nat}{x:V}{c:Value}{k:List (List V)->Option R} (hk:Ap size h x k=some r) (hx:VR ρ x c) (hstr:∀ s,x = .str s->size=1) :
  ∃ (xs:List (List V)) (news:List Value),k xs=some r/\(Builtin.lenOf c).run P w = .ok xs.length w/\(∀ w2:World,w2.heap=w.heap->(Builtin.firstCells size xs.length c).run P w2 = .ok news.toArray w2)/\VRs ρ xs.flatten news/\(∀ row∈xs,row.length=size)/\(∀ v∈news,v.oneCell'=true):=by
 unfold Ap at hk;split at hk
 ·rename_i R' a n cc
  split at hk
  ·simp only[VR] at hx;obtain ⟨rfl,_,rfl⟩:=hx;exact ⟨[],[],hk,rfl,λ_ _=>rfl,VRs.nil,by simp,by simp⟩
  ·rename_i b i
   simp only[VR] at hx;obtain ⟨e,x,cc',k1,k2,rfl,k3,k4,k5,k6⟩:=hx;obtain ⟨hr,hk1⟩:=At hk;have hr:=YL hr;cases n with
   | zero =>refine ⟨[],[],hk1,rfl,λw2 _=>?_,VRs.nil,by simp,by simp⟩;simp[Builtin.firstCells,loadCells,loadCellsFrom]
   | succ n =>
    simp only at hk1;obtain ⟨xs,hxs,hk2⟩:=AF hk1;obtain ⟨R1,el,ro,rs,hkb,hle,rfl⟩:=FL hxs;obtain ⟨cs,fr,g1,g2,g3,g4,g5,g6,g7,g8⟩:=hh.blk b e _ k1 hkb;have hx:x=⟨e.r,e.o+i*e.R,none⟩:=k3.elim (λh=>absurd h (by omega)) id;obtain ⟨ys,h1,h2,h3⟩:=g7.read hle;have hlen:((rs.drop i).take (n+1)).length=n+1:=by simp;omega
    refine ⟨_,ys,hk2,by rw[hlen];rfl,λw2 hw2=>?_,h1,λrow hrow=>?_,λv hv=>?_⟩
    ·rw[hlen];refine run_firstCells_some w2 size (n+1) x _ _ ys (by rw[h2];congr 1;omega) λj v hv=>?_;rw[hx,DF,H8 (w:=w2) (by rw[hw2];exact g1),g3];exact h3 j v hv
    ·have:=g7.lens row (List.mem_of_mem_drop (zae hrow));omega
    ·obtain ⟨j,hj⟩:=YX.1 hv;rcases g8 with g8 | ⟨_,g8⟩
     ·exact g8 _ _ (h3 j v hj)
     ·have hjl:=(YE.1 hj).1;have hb1:(i+(n+1))*R1<=rs.length*R1:=Zb _ hle;rw[Zu] at hb1;exact g8 _ _ (by omega) (by omega) (h3 j v hj)
 ·rename_i s
  simp only[VR] at hx;subst hx;have:=hstr s rfl;subst this;refine ⟨Eu s,s.data.toList.map λb=>Value.int .u8 b.toNat,hk,?_,λw2 _=>?_,OR _,λrow hrow=>?_,λv hv=>?_⟩
  ·simp only[Builtin.lenOf,Sem.run_pure,Eu];simp
  ·simp only[Builtin.firstCells,Sem.run_pure];have:s.extract 0 (Eu s).length=s:=by
    have:(Eu s).length=s.size:=by simp[Eu]
    rw[this];exact ByteArray.extract_zero_size
   rw[this];congr 1;apply Array.ext';simp
  ·simp[Eu] at hrow;obtain ⟨b,_,rfl⟩:=hrow;rfl
  ·simp at hv;obtain ⟨b,_,rfl⟩:=hv;rfl
 ·cases hk
def X7 (P:Program) (w:World) (i:TypeInfo) (z:Value) (du:TypeDesc) (x:Value) (n:Nat) (news:List Value):Prop :=
 (((∃ e',du = .slice e')\/du = .string)/\(Builtin.lenOf x).run P w = .ok n w/\∀ w2:World,w2.heap=w.heap->(Builtin.firstCells i.size n x).run P w2 = .ok news.toArray w2) \/
 (∃ k,du = .int k/\x = .int .i64 (n:Int)/\(n:Int)*i.bytes<=140737488355328/\0<i.bytes/\z.cells.size=i.size/\news=(Builtin.zeroCells z.cells n).toList)
theorem Lz {n size:Nat} (hz:z.cells.size=size) (h:n*size=0):Builtin.zeroCells z.cells n = #[]:=by unfold Builtin.zeroCells;rw[hz,h];simp
theorem GZ {t u ty e:TypeId}{x:Value}{p:Option Addr}{len cc n:Nat} (ht:P.underlying t=some (.slice e)) (hu:P.underlying u=some du) (hi:P.info? e=some i) (hz:i.zero=some z)
  (hsrc:X7 P w i z du x n news) (hle:len+n<=cc) {w':World}
  (hst:(match p with | some a=>storeCells (a.add (len*i.size)) news | none=>pure ():Sem Unit).run P w = .ok () w') :
  (Builtin.append_ #[t,u] ty #[.slice p len cc,x]).run P w = .ok (.slice p (len+n) cc) w':=by
 rcases hsrc with ⟨hdu,hlen,hfc⟩ | ⟨k,rfl,rfl,hb,hb0,hzs,rfl⟩
 ·have hfc:=hfc w rfl;cases p with
  | none =>
   have hst:w=w':=by simpa using hst
   subst hst;rcases hdu with ⟨e',rfl⟩ | rfl<;>simp[Builtin.append_,run_underlying ht,run_underlying hu,sizeOf,typeInfo,hi,hlen,hle,hfc]
  | some p =>simp only at hst;rcases hdu with ⟨e',rfl⟩ | rfl<;>simp[Builtin.append_,run_underlying ht,run_underlying hu,sizeOf,typeInfo,hi,hlen,hle,hfc,hst]
 ·have hn1:(n:Int)<=(n:Int)*i.bytes:=by
   have:n*1<=n*i.bytes:=Nat.mul_le_mul_left n hb0;have h2:((n*i.bytes:Nat):Int)=(n:Int)*i.bytes:=by push_cast;rfl
   omega
  have hwr:IntKind.i64.wrap (n:Int)=n:=IntWalk.i64_in _ ⟨by omega,by omega⟩;have h48:¬ (281474976710656<(n:Int)*i.bytes):=by omega
  have hn0:¬ ((n:Int)<0):=by omega
  cases p with
  | none =>
   have hst:w=w':=by simpa using hst
   subst hst;by_cases h0:n*i.size=0
   ·simp[Builtin.append_,run_underlying ht,run_underlying hu,sizeOf,typeInfo,zeroValue,hi,hz,hle,asInt,asIntOf,hwr,h48,hn0,h0]
   ·simp[Builtin.append_,run_underlying ht,run_underlying hu,sizeOf,typeInfo,zeroValue,hi,hz,hle,asInt,asIntOf,hwr,h48,hn0,h0]
  | some p =>
   simp only at hst;by_cases h0:n*i.size=0
   ·rw[Lz hzs h0] at hst;simp[Builtin.append_,run_underlying ht,run_underlying hu,sizeOf,typeInfo,zeroValue,hi,hz,hle,asInt,asIntOf,hwr,h48,hn0,h0,hst]
   ·simp[Builtin.append_,run_underlying ht,run_underlying hu,sizeOf,typeInfo,zeroValue,hi,hz,hle,asInt,asIntOf,hwr,h48,hn0,h0,hst]
theorem RE {t u ty e:TypeId}{x:Value}{p:Option Addr}{len cc n:Nat}{olds:List Value} (ht:P.underlying t=some (.slice e)) (hu:P.underlying u=some du) (hi:P.info? e=some i) (hz:i.zero=some z)
  (hsrc:X7 P w i z du x n news) (hfo:(Builtin.firstCells i.size len (.slice p len cc)).run P w.drew = .ok olds.toArray w.drew) (hg:cc<len+n) (hb:0<i.bytes) (hfit:(len+n)*i.bytes<=140737488355328) :
  (Builtin.append_ #[t,u] ty #[.slice p len cc,x]).run P w = .ok (.slice (some ⟨w.heap.size,0,none⟩) (len+n) (grownCap w (len+n) cc e))
    (w.drew.alloc (.cells (olds.toArray++news.toArray++Builtin.zeroCells z.cells (grownCap w (len+n) cc e - (len+n))) e)):=by
 have hn:¬ (len+n<=cc):=by omega
 have h48:=growslice_fits hg hfit;have h48':¬ (281474976710656<Builtin.nextslicecap (len+n) cc*i.bytes):=by omega
 have hb0:i.bytes≠0:=by omega
 rcases hsrc with ⟨hdu,hlen,hfc⟩ | ⟨k,rfl,rfl,hb1,_,hzs,rfl⟩
 ·have hfc:=hfc w.drew rfl;rcases hdu with ⟨e',rfl⟩ | rfl <;>
   simp[Builtin.append_,run_underlying ht,run_underlying hu,sizeOf,typeInfo,zeroValue,hi,hz,hlen,hn,hb0,h48',Question.forced,hfc,hfo,newRow,grownCap] <;>
   (congr 2;apply Array.ext';simp[YV])
 ·have hn1:(n:Int)<=(n:Int)*i.bytes:=by
   have:n*1<=n*i.bytes:=Nat.mul_le_mul_left n hb;have h2:((n*i.bytes:Nat):Int)=(n:Int)*i.bytes:=by push_cast;rfl
   omega
  have hwr:IntKind.i64.wrap (n:Int)=n:=IntWalk.i64_in _ ⟨by omega,by omega⟩;have h482:¬ (281474976710656<(n:Int)*i.bytes):=by omega
  have hn0:¬ ((n:Int)<0):=by omega
  have hmax:¬ ((9223372036854775807:Int)<((len+n:Nat):Int)):=by have:(len+n)*1<=(len+n)*i.bytes:=Nat.mul_le_mul_left _ hb;omega
  by_cases h0:n*i.size=0
  ·rw[Lz hzs h0];simp[Builtin.append_,run_underlying ht,run_underlying hu,sizeOf,typeInfo,zeroValue,hi,hz,asInt,asIntOf,hwr,h482,hn0,h0,hn,hb0,h48',Question.forced,hfo,newRow,grownCap,-Int.natCast_add,hmax]
  ·simp[Builtin.append_,run_underlying ht,run_underlying hu,sizeOf,typeInfo,zeroValue,hi,hz,asInt,asIntOf,hwr,h482,hn0,h0,hn,hb0,h48',Question.forced,hfo,newRow,grownCap,-Int.natCast_add,hmax]
theorem Re {w:World}{A8 old:Nat}{e:TypeId}:A8<=grownCap w A8 old e:=by simp[grownCap,Question.cut]
def TU (P:Program) (lo base:Nat) (ρ:Rho) (β:Bet) (σ:St) (w:World) (run:Sem Value) (k:V->Heap->Option R) (r:R):Prop :=
 ∃ c w' v h',run.run P w = .ok c w'/\k v h'=some r/\Fine lo base ρ β σ w v { σ with h:=h' } c w'
theorem TS (hB:base<=w.heap.size) (hh:HRel ρ σ.h w) (hf:FRel ρ β σ.bx w) {t u ty e:TypeId}{x sv:Value}{s:V}{k:V->Heap->Option R}
  (hk:CJ lo e i.size i.bytes s xs σ.h k=some r) (hs:VR ρ s sv)
  (ht:P.underlying t=some (.slice e)) (hu:P.underlying u=some du) (hi:P.info? e=some i) (hz:i.zero=some z) (hzs:z.cells.size=i.size) (hzo:OneCells z.cells)
  (hsrc:X7 P w i z du x xs.length news) (hv:VRs ρ xs.flatten news) (hl:∀ row∈xs,row.length=i.size) (hone:∀ v∈news,v.oneCell'=true) :
  TU P lo base ρ β σ w (Builtin.append_ #[t,u] ty #[sv,x]) k r:=by
 unfold CJ at hk;split at hk
 ·rename_i R' a len cap
  split at hk
  ·-- nothing to append
   have hn:news = []:=by simpa [VRs] using hv
   subst hn;have:∃ p l c,sv = .slice p l c/\l<=c:=by
    cases a with
    | none=>simp only[VR] at hs;obtain ⟨_,_,rfl⟩:=hs;exact ⟨_,_,_,rfl,YH _⟩
    | some q=>obtain ⟨b,j⟩:=q;simp only[VR] at hs;obtain ⟨_,_,_,_,_,rfl,_,h4,_⟩:=hs;exact ⟨_,_,_,rfl,h4⟩
   obtain ⟨p,l,c,rfl,hle⟩:=this;refine ⟨_,w,_,_,GZ (w':=w) ht hu hi hz hsrc (by simpa using hle) ?_,hk,Fine.same hh hf (SV.of hs)⟩;cases p<;>rfl
  ·rename_i x0 xs0
   obtain ⟨hb0,hk1⟩:=At hk;obtain ⟨hfit,hk2⟩:=At hk1;have hb0:0<i.bytes:=by simpa [zaa] using hb0
   have hfit:=of_decide_eq_true hfit;unfold L7 at hfit;have hpos:0<(x0 :: xs0).length:=by simp
   generalize x0 :: xs0=xs at hk2 hfit hpos hsrc hv hl;have CK:∀ (h0:Heap) (p:Option Addr) (cc len:Nat) (old:List (List V)) (olds:List Value),sv = .slice p len cc->HRel ρ h0 w->Ext lo w.heap.size ρ σ.h w ρ h0 w->(len+xs.length)*i.bytes<=140737488355328 ->
     (Builtin.firstCells i.size len (.slice p len cc)).run P w.drew = .ok olds.toArray w.drew->VRs ρ old.flatten olds->(∀ row∈old,row.length=i.size)->(∀ v∈olds,v.oneCell'=true)->old.length=len->cc<len+xs.length ->
     k (.sl i.size (some (h0.length,0)) (len+xs.length) none) (h0 ++ [.rows i.size e false (old++xs)])=some r->TU P lo base ρ β σ w (Builtin.append_ #[t,u] ty #[sv,x]) k r:=by
    intro h0 p cc len old olds hsv hh0 hx0 hfit hfo hov hol hoo hoL hg hk;subst hsv;have hrun:=RE (ty:=ty) ht hu hi hz hsrc hfo hg hb0 hfit;have hfl:=BX hol;have hfl2:=BX hl;have e1:=hov.length;have e2:=hv.length;have hcap:=Re (w:=w) (A8:=len+xs.length) (old:=cc) (e:=e);generalize hC:grownCap w (len+xs.length) cc e=C at hrun hcap;have hrl:(old++xs).length=len+xs.length:=by simp[hoL]
    have hzl:(Builtin.zeroCells z.cells (C - (len+xs.length))).size=(C - (len+xs.length))*i.size:=by simp[Builtin.zeroCells,hzs]
    have hcs:(olds.toArray++news.toArray++Builtin.zeroCells z.cells (C - (len+xs.length))).size=C*i.size:=by simp only[Array.size_append,List.size_toArray,hzl,<- e1,<- e2,hfl,hfl2,hoL];rw[<- Zu,<- Zu];congr 1;omega
    have hfine:=VU (base:=base) (lo:=lo) (σ:=σ) hB hh0 hf hx0 (e:=e) (rows:=old++xs) (cells:=olds.toArray++news.toArray++Builtin.zeroCells z.cells (C - (len+xs.length))) (size:=i.size) (m:=C)
     (RowsR.flat (λrow hr=>by
       rcases YF.1 hr with h | h
       ·exact hol row h
       ·exact hl row h) λj v hj=>by
      rw[Y7] at hj;obtain ⟨y,h1,h2⟩:=(hov.append hv).get j v hj;refine ⟨y,?_,h2⟩;have hj2:j<(olds++news).length:=(YE.1 h1).1;have hsz:j<(olds.toArray++news.toArray).size:=by simpa using hj2
      rw[Zf,Array.getElem?_append_left hsz];have h3:(olds.toArray++news.toArray)[j]?=(olds++news)[j]?:=by simp
      rw[h3];exact h1)
     (OneCells.of_list λv hv'=>by
      simp only[Array.toList_append,YF] at hv';rcases hv' with (h | h) | h
      ·exact hoo v h
      ·exact hone v h
      ·simp only[Builtin.zeroCells,Array.mem_toList_iff,Array.mem_map] at h;obtain ⟨q,h1,rfl⟩:=h;have hq:q<(C - (len+xs.length))*z.cells.size:=by simpa using h1
       have hp:0<z.cells.size:=Nat.pos_of_ne_zero λh=>by rw[h] at hq;simp at hq
       have hlt:q % z.cells.size<z.cells.size:=Nat.mod_lt _ hp;exact hzo (q % z.cells.size) _ (by rw[getElem!_def,Zn hlt]))
     (by rw[hcs];exact YH _) (by rw[hrl];exact hcap)
    rw[hrl] at hfine;exact ⟨_,_,_,_,hrun,hk,hfine⟩
   cases a with
   | none =>simp only[VR] at hs;obtain ⟨rfl,_,hsv⟩:=hs;refine CK σ.h none 0 0 [] [] hsv hh (Ext.refl _ _ _ _ _) hfit rfl VRs.nil (by simp) (by simp) rfl (by omega) ?_;simp only at hk2;simpa using hk2
   | some q =>
    obtain ⟨b,j⟩:=q;simp only at hk2;obtain ⟨hr,hk3⟩:=At hk2;have hr:=YL hr;simp only[VR] at hs;obtain ⟨e1,p1,cc,k1,k2,hsv,k3,k4,k5,k6⟩:=hs;have heR:e1.R=i.size:=by omega
    have old:∀ xs',De σ.h b j len=some xs'->∃ olds:List Value,(Builtin.firstCells i.size len (.slice (some p1) len cc)).run P w.drew = .ok olds.toArray w.drew/\VRs ρ xs'.flatten olds/\(∀ row∈xs',row.length=i.size)/\(∀ v∈olds,v.oneCell'=true)/\xs'.length=len:=by
     intro xs' hld;obtain ⟨R1,el,ro,rs,hkb,hle,rfl⟩:=FL hld;obtain ⟨cs,fr,g1,g2,g3,g4,g5,g6,g7,g8⟩:=hh.blk b e1 _ k1 hkb;obtain ⟨ys,h1,h2,h3⟩:=g7.read hle;refine ⟨ys,?_,h1,λrow hrow=>?_,λv hv=>?_,by simp;omega⟩
     ·by_cases hl0:len=0
      ·subst hl0;have:ys = []:=by
        have:ys.length=0:=by simpa using h2
        exact YM this
       subst this;simp[Builtin.firstCells,loadCells,loadCellsFrom]
      ·have hx:p1=⟨e1.r,e1.o+j*e1.R,none⟩:=k3.elim (λh=>absurd h (by omega)) id;refine run_firstCells_some w.drew i.size len p1 _ _ ys (by rw[h2];congr 1;omega) λq v hv=>?_;rw[hx,DF,H8 (w:=w.drew) g1,g3];exact h3 q v hv
     ·have:=g7.lens row (List.mem_of_mem_drop (zae hrow));omega
     ·obtain ⟨q,hq⟩:=YX.1 hv;rcases g8 with g8 | ⟨_,g8⟩
      ·exact g8 _ _ (h3 q v hq)
      ·have hjl:=(YE.1 hq).1;have hb1:(j+len)*R1<=rs.length*R1:=Zb _ hle;rw[Zu] at hb1;exact g8 _ _ (by omega) (by omega) (h3 q v hq)
    have place:∀ h',E5 lo σ.h b (j+len) xs=some h'->len+xs.length<=cc->k (.sl i.size (some (b,j)) (len+xs.length) cap) h'=some r->TU P lo base ρ β σ w (Builtin.append_ #[t,u] ty #[sv,x]) k r:=by
     intro h' hst hle hk;have hx:p1=⟨e1.r,e1.o+j*e1.R,none⟩:=k3.elim (λh=>absurd h (by omega)) id;obtain ⟨w',s1,s2,s3⟩:=LI (P:=P) hh k1 hst (λrow hrow=>by rw[heR];exact hl row hrow) hv hone;subst hsv;refine ⟨_,w',_,_,GZ (w':=w') ht hu hi hz hsrc hle ?_,hk,ρ,β,rfl,SV.of ?_,s2,hf.ext s3,s3.weaken (YH _) hB,Ble.refl _,λt r h1 h2=>(by rw[h1] at h2;cases h2),JR⟩
     ·simp only;rw[hx,DF,<- heR];rw[show e1.o+j*e1.R+len*e1.R=e1.o+(j+len)*e1.R by rw[Zu];omega];exact s1
     ·simp only[VR];exact ⟨e1,p1,cc,k1,heR,rfl,.inr hx,hle,k5,k6⟩
    cases cap with
    | some c =>
     simp only at hk3;have:=k5 c rfl;subst this;split at hk3
     ·rename_i hle
      obtain ⟨h',hst,hk4⟩:=AF hk3;exact place h' hst (Zx hle) hk4
     ·rename_i hle
      obtain ⟨xs',hld,hk4⟩:=AF hk3;obtain ⟨olds,o1,o2,o3,o4,o5⟩:=old xs' hld;exact CK σ.h (some p1) cc len xs' olds hsv hh (Ext.refl _ _ _ _ _) hfit o1 o2 o3 o4 o5 (Z2 λh=>by rw[Nat.ble_eq_true_of_le h] at hle;cases hle) hk4
    | none =>
     simp only at hk3;obtain ⟨rs,hown,hk4⟩:=AF hk3;obtain ⟨R1,hkb,hlo⟩:=Vp hown;obtain ⟨cs,fr,g1,g2,g3,g4,g5,g6,g7,g8⟩:=hh.blk b e1 _ k1 hkb;obtain ⟨m1,m2⟩:=k6 rfl;split at hk4
     ·rename_i hle
      have hle:=Zx hle;obtain ⟨h',hst,hk5⟩:=AF hk4;exact place h' hst (by omega) hk5
     ·obtain ⟨hj,hk5⟩:=At hk4;have hj:=YL hj;subst hj;obtain ⟨xs',hld,hk6⟩:=AF hk5;obtain ⟨olds,o1,o2,o3,o4,o5⟩:=old xs' hld;have hkill:=hh.kill hkb;by_cases hg:cc<len+xs.length
      ·refine CK (σ.h.set b .dead) (some p1) cc len xs' olds hsv hkill (Ext.kill _ hlo) hfit o1 o2 o3 o4 o5 hg ?_;simpa using hk6
      ·have hle:len+xs.length<=cc:=by omega
       have hx:p1=⟨e1.r,0,none⟩:=k3.elim (λh=>absurd h (by omega)) (λh=>by rw[h,m2];simp);obtain ⟨rfl,ho⟩:=g2 rfl;have hqlt:e1.r<w.heap.size:=(hh.dom b e1 k1).2;obtain ⟨ys,h1,h2,h3⟩:=g7.read (i:=0) (n:=len) (by
        obtain ⟨R2,el2,ro2,rs2,hkb2,hle2,_⟩:=FL hld;rw[hkb] at hkb2;injection hkb2 with hkb2;injection hkb2 with _ _ _ h4;subst h4;exact hle2)
       have hxs':xs'=(rs.drop 0).take len:=by obtain ⟨R2,el2,ro2,rs2,hkb2,hle2,h5⟩:=FL hld;rw[hkb] at hkb2;injection hkb2 with hkb2;injection hkb2 with _ _ _ h4;subst h4;exact h5
       rw[<- hxs'] at h1;have hfl2:=BX hl;have e2:=hv.length;have hR1:R1=i.size:=by omega
       have hbig:(len+xs.length)*i.size<=e1.m*R1:=by rw[hR1];exact Zb _ (by omega)
       rw[Zu] at hbig;have hrun:=CQ (P:=P) news w e1.r (len*i.size) 0 cs e g1 (by omega) hone;have s1:(storeCells (p1.add (len*i.size)) news).run P w = .ok () (Cf w e1.r (.cells (EC cs (len*i.size) news) e (0,0))):=by rw[hx,DF,Zf];exact hrun
       subst hsv;have hadopt:HRel (ρ.set (σ.h.set b .dead).length ⟨e1.r,0,i.size,len+xs.length,e1.m⟩) (σ.h.set b .dead ++ [.rows i.size e false (xs'++xs)]) (Cf w e1.r (.cells (EC cs (len*i.size) news) e (0,0))):=by
        refine hkill.adopt _ ⟨e1.r,0,i.size,len+xs.length,e1.m⟩ (by rw[Br];exact YH _) (by rw[Br];exact hqlt) (λr' _ hr'=>Bm hr') (λb' e' hb' he'=>?_) ?_
        ·have d1:=(hh.dom b' e' hb').1;by_cases hbb:b'=b
         ·subst hbb;unfold Bn;rw[YO d1]
         ·have:Bn σ.h b':=by
           rcases hh.inj b b' e1 e' k1 hb' he'.symm (Ne.symm hbb) with h | h | ⟨h,_⟩
           ·rw[Bn,hkb] at h;cases h
           ·exact h
           ·exact absurd h (So hkb)
          unfold Bn at *;rw[YG (Ne.symm hbb)];exact this
        ·refine ⟨EC cs (len*i.size) news,(0,0),DK hqlt,λ_=>⟨rfl,rfl⟩,rfl,by simp[o5],(show len+xs.length<=e1.m by omega),(show 0+e1.m*i.size<=_ by rw[Dk];rw[hR1] at g6;omega),?_,.inl (Hr (g8.resolve_right λh=>by cases h.1) hone)⟩;have hsub:Rle ρ (ρ.set (σ.h.set b .dead).length ⟨e1.r,0,i.size,len+xs.length,e1.m⟩):=Rho.set_le hkill.fresh;refine RowsR.flat (λrow hrow=>?_) λq v hq=>?_
         ·rcases YF.1 hrow with h | h
          ·exact o3 row h
          ·exact hl row h
         ·rw[Y7] at hq;have hol:=BX o3;rw[o5] at hol;by_cases hq1:q<len*i.size
          ·rw[YI (by omega)] at hq;obtain ⟨y,z1,z2⟩:=h1.get q v hq;refine ⟨y,?_,z2⟩;rw[Zf,CT _ _ _ _ (.inl hq1)];have:=h3 q y z1;rw[ho] at this;simpa using this
          ·rw[Y1 (by omega)] at hq;obtain ⟨y,z1,z2⟩:=hv.get _ v hq;refine ⟨y,?_,z2⟩;have hlt:q - xs'.flatten.length<news.length:=(YE.1 z1).1;rw[Zf,show q=len*i.size+(q - xs'.flatten.length) by omega,HQ _ _ _ _ (by omega) (by omega)];exact z1
       have hext:Ext lo w.heap.size ρ σ.h w (ρ.set (σ.h.set b .dead).length ⟨e1.r,0,i.size,len+xs.length,e1.m⟩) (σ.h.set b .dead ++ [.rows i.size e false (xs'++xs)]) (Cf w e1.r (.cells (EC cs (len*i.size) news) e (0,0))):=by
        refine ⟨Rho.set_le hkill.fresh,λb' e' n1 n2=>?_,λr' hr' hfr=>Bm (λh=>hfr b e1 k1 hlo h.symm),by rw[Br];exact YH _,rfl,rfl,rfl,by simp,λx hx1 hx2=>?_,λx hx1 hx2=>?_⟩
        ·by_cases hx:b'=(σ.h.set b .dead).length
         ·subst hx;rw[Rho.set_same] at n2;injection n2 with n2;subst n2;exact ⟨by simp,.inr ⟨b,e1,k1,hlo,rfl⟩⟩
         ·rw[Rho.set_other hx,n1] at n2;cases n2
        ·rw[YI (by simpa using hx2),YG (by omega)]
        ·have:x=(σ.h.set b .dead).length:=by simp at hx2 ⊢;omega
         subst this;exact ⟨_,Rho.set_same _ _ _⟩
       refine ⟨_,_,_,_,GZ (w':=Cf w e1.r (.cells (EC cs (len*i.size) news) e (0,0))) ht hu hi hz hsrc hle s1,hk6,_,β,rfl,SV.of ?_,hadopt,hf.ext hext,hext.weaken (YH _) hB,Ble.refl _,λt r h1 h2=>(by rw[h1] at h2;cases h2),JR⟩;simp only[VR];refine ⟨⟨e1.r,0,i.size,len+xs.length,e1.m⟩,p1,cc,?_,rfl,rfl,.inr (by rw[hx];simp),hle,(λy hy=>by cases hy),λ_=>⟨by simp;omega,rfl⟩⟩;have:σ.h.length=(σ.h.set b .dead).length:=by simp
       rw[this];exact Rho.set_same _ _ _
 ·cases hk
theorem QT:∀ (vs:List V) (m:Int) (cs:List Value) (kk:V->Option R),VRs ρ vs cs->Sr vs m kk=some r->∃ M,(cs.foldlM Builtin.max2 (.int .i64 m)).run P w = .ok (.int .i64 M) w/\kk (.int .i64 M)=some r
 | [],m,cs,kk,h,hk=>by simp only[VRs] at h;subst h;exact ⟨m,rfl,hk⟩
 | v :: vs,m,cs,kk,h,hk=>by simp only[Sr] at hk;obtain ⟨n,rfl,hk1⟩:=CH hk;simp only[VRs] at h;obtain ⟨y,r',rfl,h1,h2⟩:=h;simp only[VR] at h1;subst h1;obtain ⟨M,q1,q2⟩:=QT vs _ r' kk h2 hk1;exact ⟨M,by simp[List.foldlM_cons,Builtin.max2,q1],q2⟩
theorem QS:∀ (vs:List V) (m:Int) (cs:List Value) (kk:V->Option R),VRs ρ vs cs->Sp vs m kk=some r->∃ M,(cs.foldlM Builtin.min2 (.int .i64 m)).run P w = .ok (.int .i64 M) w/\kk (.int .i64 M)=some r
 | [],m,cs,kk,h,hk=>by simp only[VRs] at h;subst h;exact ⟨m,rfl,hk⟩
 | v :: vs,m,cs,kk,h,hk=>by simp only[Sp] at hk;obtain ⟨n,rfl,hk1⟩:=CH hk;simp only[VRs] at h;obtain ⟨y,r',rfl,h1,h2⟩:=h;simp only[VR] at h1;subst h1;obtain ⟨M,q1,q2⟩:=QS vs _ r' kk h2 hk1;exact ⟨M,by simp[List.foldlM_cons,Builtin.min2,q1],q2⟩
theorem SW (hB:base<=w.heap.size) (hX:X.ty=Az P) (hs:SRel ρ β σ.s a) (hh:HRel ρ σ.h w) (hf:FRel ρ β σ.bx w) {b:Builtin}{ts:Array TypeId}{ty:TypeId}{cts:Array Bool}{vs:List V}{args:Array Value} (hv:VRs ρ vs args.toList) {k:V->Heap->Option R} (hk:S4 X lo b ts.toList vs σ.h k=some r):∃ c w' v h',(builtin b ts ty cts args).run P w = .ok (.value c) w'/\k v h'=some r/\Fine lo base ρ β σ w v { σ with h:=h' } c w':=by
 obtain ⟨args⟩:=args;obtain ⟨ts⟩:=ts;simp only at hv hk;have pure1:∀ {v:V}{c:Value}{s:Sem Value},s.run P w = .ok c w->VR ρ v c->k v σ.h=some r->(builtin b ⟨ts⟩ ty cts ⟨args⟩).run P w = .ok (.value c) w->∃ c w' v h',(builtin b ⟨ts⟩ ty cts ⟨args⟩).run P w = .ok (.value c) w'/\k v h'=some r/\Fine lo base ρ β σ w v { σ with h:=h' } c w' :=
  λh1 h2 h3 h4=>⟨_,w,_,_,h4,h3,Fine.same hh hf (SV.of h2)⟩
 have one:∀ {v:V},VRs ρ [v] args->∃ c,args = [c]/\VR ρ v c:=λh=>by simp only[VRs] at h;obtain ⟨y,r',rfl,h1,rfl⟩:=h;exact ⟨y,rfl,h1⟩
 unfold S4 at hk;rw[hX] at hk;split at hk
 ·-- len
  split at hk
  ·rename_i v t
   obtain ⟨c,rfl,hc⟩:=one hv;split at hk
   ·rename_i s
    obtain ⟨h1,hk1⟩:=At hk;obtain ⟨d,hd,rfl⟩:=Fe h1;simp only[VR] at hc;subst hc;exact pure1 (s:=pure (goInt s.size)) rfl VR.int' hk1 (by simp[builtin,Builtin.len_,run_underlying hd])
   ·rename_i R' p n cc
    split at hk
    ·rename_i e hty
     have hu:=Dq hty;have:∃ q k,c = .slice q n k:=by
      cases p with
      | none=>simp only[VR] at hc;obtain ⟨rfl,_,rfl⟩:=hc;exact ⟨_,_,rfl⟩
      | some q=>obtain ⟨b,j⟩:=q;simp only[VR] at hc;obtain ⟨_,_,_,_,_,rfl,_⟩:=hc;exact ⟨_,_,rfl⟩
     obtain ⟨q,k',rfl⟩:=this;exact pure1 (s:=pure (goInt n)) rfl VR.int' hk (by simp[builtin,Builtin.len_,run_underlying hu])
    ·cases hk
   ·rename_i m
    split at hk
    ·rename_i q e hty
     have hu:=Ss hty;obtain ⟨b',rfl,hk1⟩:=AF hk;obtain ⟨kv,hkv,hk2⟩:=AF hk1;obtain ⟨t',hkv⟩:=Pg hkv;simp only[VR] at hc;obtain ⟨e1,k1,rfl⟩:=hc;obtain ⟨es,clock,g1,g2⟩:=hh.blk b' e1 _ k1 hkv;have hl:=g2.length;simp at hl;exact pure1 (s:=pure (goInt kv.length)) rfl VR.int' hk2 (by simp[builtin,Builtin.len_,run_underlying hu,Fp g1,hl])
    ·cases hk
   ·split at hk
    ·rename_i n e hty
     obtain ⟨hu,_,_⟩:=Gu hty;exact pure1 (s:=pure (goInt n)) rfl VR.int' hk (by simp[builtin,Builtin.len_,run_underlying hu])
    ·rename_i e hty
     have hu:=Sk hty;split at hk
     ·rename_i n e' hty'
      obtain ⟨hu',_,_⟩:=Gu hty';exact pure1 (s:=pure (goInt n)) rfl VR.int' hk (by simp[builtin,Builtin.len_,run_underlying hu,run_underlying hu'])
     ·cases hk
    ·cases hk
  ·cases hk
 ·-- cap
  split at hk
  ·rename_i R' p n cc0 t
   obtain ⟨c,rfl,hc⟩:=one hv;split at hk
   ·rename_i e hty
    have hu:=Dq hty;obtain ⟨cc,rfl,hk⟩:=AF hk;have:∃ q,c = .slice q n cc:=by
     cases p with
     | none=>simp only[VR] at hc;obtain ⟨rfl,h,rfl⟩:=hc;injection h with h;subst h;exact ⟨_,rfl⟩
     | some q=>obtain ⟨b,j⟩:=q;simp only[VR] at hc;obtain ⟨_,_,_,_,_,rfl,_,_,h,_⟩:=hc;have:=h _ rfl;subst this;exact ⟨_,rfl⟩
    obtain ⟨q,rfl⟩:=this;exact pure1 (s:=pure (goInt cc)) rfl VR.int' hk (by simp[builtin,Builtin.cap_,run_underlying hu])
   ·cases hk
  ·cases hk
 ·-- append
  split at hk
  ·rename_i s x t u
   simp only[VRs] at hv;obtain ⟨cs,r1,rfl,h1,cx,r2,rfl,h2,rfl⟩:=hv;split at hk
   ·rename_i e hty
    have hu:=Dq hty;obtain ⟨hz,hk1⟩:=At hk;simp only[YQ] at hz;obtain ⟨⟨hkn,hz⟩,hfm⟩:=hz;obtain ⟨i,z,hi,hzz,hsz,e1,e2,e3⟩:=IK hz hfm;obtain ⟨i',d',hi',hd',_,hby,_⟩:=Ba hkn;rw[hi] at hi';injection hi' with hi';subst hi';have hzone:OneCells z.cells:=OneCells.of_list (BV (e3 ρ) hfm);have fin:TU P lo base ρ β σ w (Builtin.append_ #[t,u] ty #[cs,cx]) (λv h=>eS i.size v λa n c=>k (.sl i.size a n c) h) r ->
      ∃ c w' v h',(builtin .append ⟨[t,u]⟩ ty cts ⟨[cs,cx]⟩).run P w = .ok (.value c) w'/\k v h'=some r/\Fine lo base ρ β σ w v { σ with h:=h' } c w':=by
     rintro ⟨c,w',v,h',q1,q2,q3⟩
     obtain ⟨q',a',n',c',rfl,hq,hk3⟩:=TJ q2;refine ⟨c,w',_,h',?_,hk3,?_⟩
     ·show (Sem.run P (do pure (Next.value (<- Builtin.append_ #[t,u] ty #[cs,cx]))) w)=_;simp only[Sem.run_bind,q1,Result.andThen_ok,Sem.run_pure]
     ·obtain ⟨ρ',β',z1,z2,z3⟩:=q3;refine ⟨ρ',β',z1,?_,z3⟩;rcases hq with rfl | rfl
      ·exact SV.of (by have:=z2.ok rfl;simpa [VR] using this)
      ·exact z2
    have go:∀ {du:TypeDesc},P.underlying u=some du->((∃ e',du = .slice e')\/du = .string)->(∀ s,x = .str s->(Az P e).size=1) ->
      (Ap (Az P e).size σ.h x λxs=>CJ lo e (Az P e).size (Az P e).bytes s xs σ.h λv h=>eS (Az P e).size v λa n c=>k (.sl (Az P e).size a n c) h)=some r ->
      ∃ c w' v h',(builtin .append ⟨[t,u]⟩ ty cts ⟨[cs,cx]⟩).run P w = .ok (.value c) w'/\k v h'=some r/\Fine lo base ρ β σ w v { σ with h:=h' } c w':=by
     intro du hdu hkind hstr hk;obtain ⟨xs,news,hk2,o1,o2,o3,o4,o5⟩:=LU (P:=P) hh hk h2 hstr;rw[e1] at o2 o4;rw[e1,hby] at hk2;refine fin ?_;exact TS (ty:=ty) hB hh hf hk2 h1 hu hdu hi hzz hsz hzone (.inl ⟨hkind,o1,o2⟩) o3 o4 o5
    split at hk1
    ·rename_i e' hty'
     split at hk1
     ·exact go (Dq hty') (.inl ⟨_,rfl⟩) (λs hs=>by cases hs) hk1
     ·cases hk1
    ·split at hk1
     ·rename_i s'
      obtain ⟨hb,hk2⟩:=At hk1;simp only[YQ] at hb;obtain ⟨d,hd,rfl⟩:=Fe hb.1;exact go hd (.inr rfl) (λ_ _=>YL hb.2) hk2
     ·rename_i m
      obtain ⟨hb,hk2⟩:=At hk1;obtain ⟨hm,hk3⟩:=At hk2;have hm:=of_decide_eq_true hm;simp only[YQ] at hb;obtain ⟨d,hd,rfl⟩:=Fe hb.1;simp only[VR] at h2;subst h2;rw[hby] at hm;have hb0:0<i.bytes:=by have:=hb.2;rw[hby] at this;simpa [zaa] using this
      obtain ⟨n,rfl⟩:∃ n:Nat,m=n:=⟨m.toNat,by omega⟩;rw[e1,hby,Int.toNat_natCast] at hk3;refine fin ?_;have hfl:=BX (R:=z.cells.size) (rs:=List.replicate n (Az P e).zero) (λrow hr=>by rw[Zw hr,e2,hsz]);have hvz:VRs ρ (List.replicate n (Az P e).zero).flatten (Builtin.zeroCells z.cells n).toList:=by refine VRs.of_get (by rw[hfl];simp[Builtin.zeroCells]) λq v hq=>?_;obtain ⟨i',j',row,h1,h2,h3⟩:=FR (R:=z.cells.size) (λrow hr=>by rw[Zw hr,e2,hsz]) hq;have:=RowsR.zeros (ρ:=ρ) n n (e3 ρ) (YH _);obtain ⟨c',h4,h5⟩:=(this i' row h1).2 j' v h2;refine ⟨c',?_,h5⟩;rw[h3,<- h4,Zf,ZV];rfl
      have hone:∀ v∈(Builtin.zeroCells z.cells n).toList,v.oneCell'=true:=λv hv=>by have:=OneCells.zeros (n*z.cells.size) 0 hzone (λh=>by rw[h];simp);obtain ⟨j,hj⟩:=YX.1 hv;exact this j v (by rw[ZV] at hj;exact hj)
      exact TS (ty:=ty) hB hh hf hk3 h1 hu hd hi hzz hsz hzone (.inr ⟨_,rfl,by simp,by simpa using hm.2,hb0,hsz,by simp⟩) hvz (λrow hr=>by rw[Zw hr,e2]) hone
     ·cases hk1
    ·cases hk1
   ·cases hk
  ·cases hk
 ·-- max
  split at hk
  ·rename_i v vs'
   obtain ⟨m,rfl,hk1⟩:=CH hk;simp only[VRs] at hv;obtain ⟨y,r',rfl,h1,h2⟩:=hv;simp only[VR] at h1;subst h1;obtain ⟨M,q1,q2⟩:=QT (P:=P) (w:=w) vs' m r' _ h2 hk1;exact pure1 (s:=pure (.int .i64 M)) rfl VR.int' q2 (by simp[builtin,Builtin.max_,q1])
  ·cases hk
 ·split at hk
  ·rename_i v vs'
   obtain ⟨m,rfl,hk1⟩:=CH hk;simp only[VRs] at hv;obtain ⟨y,r',rfl,h1,h2⟩:=hv;simp only[VR] at h1;subst h1;obtain ⟨M,q1,q2⟩:=QS (P:=P) (w:=w) vs' m r' _ h2 hk1;exact pure1 (s:=pure (.int .i64 M)) rfl VR.int' q2 (by simp[builtin,Builtin.min_,q1])
  ·cases hk
 ·-- clear
  split at hk
  ·rename_i R' p n cc t
   obtain ⟨c,rfl,hc⟩:=one hv;split at hk
   ·rename_i e hty
    have hu:=Dq hty;have fin:∀ w' h',(builtin .clear ⟨[t]⟩ ty cts ⟨[c]⟩).run P w = .ok (.value (.tuple #[])) w'->k (.tup []) h'=some r->HRel ρ h' w'->Ext lo w.heap.size ρ σ.h w ρ h' w' ->
      ∃ c' w' v h',(builtin .clear ⟨[t]⟩ ty cts ⟨[c]⟩).run P w = .ok (.value c') w'/\k v h'=some r/\Fine lo base ρ β σ w v { σ with h:=h' } c' w' :=
     λw' h' q1 q2 q3 q4=>⟨_,w',_,h',q1,q2,ρ,β,rfl,SV.of (by simp[VR,VRs]),q3,hf.ext q4,q4.weaken (YH _) hB,Ble.refl _,λt r h1 h2=>(by rw[h1] at h2;cases h2),JR⟩
    unfold Ym at hk;split at hk
    ·simp only[VR] at hc;obtain ⟨rfl,_,rfl⟩:=hc;exact fin w σ.h (by simp[builtin,Builtin.clear_,run_underlying hu]) hk hh (Ext.refl _ _ _ _ _)
    ·rename_i b i
     obtain ⟨hz,hk1⟩:=At hk;simp only[YQ] at hz;obtain ⟨hR,hz,hfm⟩:=hz;have hR:=YL hR;obtain ⟨h',hst,hk2⟩:=AF hk1;obtain ⟨i0,z,hi,hzz,hsz,e1,e2,e3⟩:=IK hz hfm;simp only[VR] at hc;obtain ⟨e4,x4,cc',k1,k2,rfl,k3,k4,k5,k6⟩:=hc;have hzone:=BV (e3 ρ) hfm;cases n with
     | zero =>
      obtain ⟨R1,el,rs,hkb,hlo,hle,rfl⟩:=Kq hst;have hsame:σ.h.set b (.rows R1 el false (rs.take i++List.replicate 0 (Az P e).zero++rs.drop (i+(List.replicate 0 (Az P e).zero).length)))=σ.h:=by have hb:b<σ.h.length:=(hh.dom _ _ k1).1;have:σ.h[b] = .rows R1 el false rs:=(YE.1 hkb).2;simp only[List.replicate_zero,ZI,ZW,ZK,Zm];rw[<- this];simp
      rw[hsame] at hk2;exact fin w σ.h (by simp[builtin,Builtin.clear_,run_underlying hu]) hk2 hh (Ext.refl _ _ _ _ _)
     | succ n =>
      have hx:x4=⟨e4.r,e4.o+i*e4.R,none⟩:=k3.elim (λh=>absurd h (by omega)) id;have hvz:VRs ρ (List.replicate (n+1) (Az P e).zero).flatten (Builtin.zeroCells z.cells (n+1)).toList:=by have hfl:=BX (R:=z.cells.size) (rs:=List.replicate (n+1) (Az P e).zero) (λrow hr=>by rw[Zw hr,e2,hsz]);refine VRs.of_get (by rw[hfl];simp[Builtin.zeroCells]) λq v hq=>?_;obtain ⟨i',j',row,h1,h2,h3⟩:=FR (R:=z.cells.size) (λrow hr=>by rw[Zw hr,e2,hsz]) hq;have:=RowsR.zeros (ρ:=ρ) (n+1) (n+1) (e3 ρ) (YH _);obtain ⟨c',h4,h5⟩:=(this i' row h1).2 j' v h2;refine ⟨c',?_,h5⟩;rw[h3,<- h4,Zf,ZV];rfl
      have hone:∀ v∈(Builtin.zeroCells z.cells (n+1)).toList,v.oneCell'=true:=λv hv=>by have:=OneCells.zeros ((n+1)*z.cells.size) 0 (OneCells.of_list hzone) (λh=>by rw[h];rfl);obtain ⟨j,hj⟩:=YX.1 hv;exact this j v (by rw[ZV] at hj;exact hj)
      obtain ⟨w',s1,s2,s3⟩:=LI (P:=P) hh k1 hst (λrow hrow=>by rw[Zw hrow,e2];omega) hvz hone;refine fin w' h' ?_ hk2 s2 s3;simp[builtin,Builtin.clear_,run_underlying hu,CX hi hzz,hx,s1]
   ·cases hk
  ·cases hk
 ·cases hk
end
theorem Jw {ρ:Rho}:∀ {rows:List (List V)}{ns:List Int}{vs:List Value},HD rows=some ns->VRs ρ rows.flatten vs->vs=ns.map (Value.int .u8)
 | [],ns,vs,h,hv=>by simp only[HD,Option.some.injEq] at h;subst h;simpa [VRs] using hv
 | row :: r,ns,vs,h,hv=>by
  unfold HD at h;split at h
  ·rename_i he;cases he
  ·rename_i k n r' he
   injection he with e1 e2;subst e1;subst e2;split at h
   ·split at h
    ·rename_i l hl
     injection h with h;subst h;simp only[Y5,List.singleton_append,VRs] at hv;obtain ⟨y,q,rfl,h1,h2⟩:=hv;simp only[VR] at h1;subst h1;rw[Z5,Jw hl h2]
    ·cases h
   ·cases h
  ·cases h
section
variable {P:Program}{lo base:Nat}{ρ:Rho}{β:Bet}{σ:St}{a:Act}{w:World}{R:Type}{r:R}{K:V->St->Option R}{X:Ctx}
variable {dst:Option Nat}{ty:TypeId}{pos:String}{after:Array Edge}{guard:Option (Nat×Bool)}
theorem SU (hX:X.ty=Az P) (hs:SRel ρ β σ.s a) (hh:HRel ρ σ.h w) (hf:FRel ρ β σ.bx w) {u t:TypeId}{x:Operand}
  (hk:opT X lo dst ty (.convert u t x) σ K=some r):DG P lo base ρ β σ a w ⟨dst,.convert u t x,ty,pos,after,guard⟩ K r:=by
 have hx:=BH hs x;simp only[opT] at hk;rw[hX] at hk;split at hk
 ·rename_i hkn
  obtain ⟨i,d,hi,hd,_⟩:=Ba hkn;split at hk
  ·rename_i k n he
   rw[he] at hx;have hx:=hx.int;split at hk
   ·rename_i b hc
    have:=H5 hc;simp only[Kn] at this;exact AG (c := .int b (b.wrap n)) (by simp[execOp,convert,hx,AL hd,AL this,Conv.intToInt]) hh hf (SV.of VR.int') hk
   ·cases hk
  ·rename_i s he
   rw[he] at hx;have hx:=hx.str;split at hk
   ·rename_i hc
    have:=H5 hc;simp only[Kn] at this;exact AG (c := .string s) (by simp[execOp,convert,hx,AL hd,AL this]) hh hf (SV.of VR.str') hk
   ·cases hk
  ·rename_i R' p n c he
   rw[he] at hx;have hx:VR ρ (.sl R' p n c) (a.eval x):=hx;split at hk
   ·rename_i e ht hc
    have h8:=H5 hc;simp only[Kn] at h8;split at hk
    ·rename_i h9
     have h9:=H5 h9;simp only[Kn] at h9;have hu:=Dq ht;obtain ⟨xs,news,k1,k2,k3,k4,_,_⟩:=LU (P:=P) hh hk hx (λs hs=>by cases hs);obtain ⟨ns,k5,k6⟩:=AF k1;have hn:=Jw k5 k4;have hsl:∃ p' l' c',a.eval x = .slice p' l' c':=by
      cases p with
      | none=>simp only[VR] at hx;exact ⟨_,_,_,hx.2.2⟩
      | some q =>obtain ⟨b,i⟩:=q;simp only[VR] at hx;obtain ⟨_,x',cc,_,_,hv,_⟩:=hx;exact ⟨_,_,_,hv⟩
     obtain ⟨p',l',c',hv⟩:=hsl;rw[hv] at k2 k3;have hlen:l'=xs.length:=by
      cases p' with
      | none=>simpa [Builtin.lenOf] using k2
      | some q=>simpa [Builtin.lenOf] using k2
     refine AG (c := .string (PN ns)) ?_ hh hf (SV.of VR.str') k6;simp only[execOp,hv];cases p' with
     | none =>
      have h1:ns = []:=by have h2:=k3 w rfl;simp[Builtin.firstCells] at h2;rw[hn] at h2;have:=congrArg List.length h2;simpa using this
      subst h1;simp only[Sem.run_bind,run_convert_bytes_string w u t e none l' c' hu h9 h8];simp[Conv.bytesToString,PN]
     | some q =>
      have h3:=run_bytesToString w q l' c' ns (by
       have h2:=k3 w rfl;simp only[Builtin.firstCells,Nat.mul_one] at h2;rw[hlen,h2,hn])
      simp only[Sem.run_bind,run_convert_bytes_string w u t e (some q) l' c' hu h9 h8,h3,Result.andThen_ok,Sem.run_pure];rfl
    ·cases hk
   ·cases hk
  ·cases hk
 ·cases hk
end
end
end Go.Proofs.YtoocmbhkaghgnaaGreat.T
namespace Go.Proofs.YtoocmbhkaghgnaaGreat.T
open Go
variable {o:Oper}{f:FuncId}{c:Value}{w':World}
structure SC (P:Program) (call:EG):Prop where
 enter : ∀ {lo f args h p}, call lo f args h = some p -> ∃ fn, P.funcs[f]? = some fn /\ fn.body.isNone = false /\ (fn.name == "runtime.NumGoroutine") = false
 calls:∀ {lo f args h v h'},call lo f args h=some (v,h')->lo<=h.length->∀ {ρ:Rho}{w:World}{cargs:Array Value},VRs ρ args cargs.toList->HRel ρ h w ->
  Calls P f cargs w λe w'=>∃ c,e = .returned c/\∃ ρ',VR ρ' v c/\HRel ρ' h' w'/\Ext lo w.heap.size ρ h w ρ' h' w'
structure Ok (lo base nt:Nat) (ρ:Rho) (β:Bet) (σ:St) (a:Act) (w:World):Prop where
 s:SRel ρ β σ.s a
 h:HRel ρ σ.h w
 f:FRel ρ β σ.bx w
 own:∀ t r,β t=some r->base<=r
 hB:base<=w.heap.size
 hlo:lo<=σ.h.length
 nt:a.tmps.size=nt
 df:a.defers = []
section
variable {P:Program}{lo base nt:Nat}{ρ:Rho}{β:Bet}{σ:St}{a:Act}{w:World}{R:Type}{r:R}{K:V->St->Option R}{X:Ctx}{Q:Exit->Act->World->Prop}{next:Act->World->Prop}
theorem AK (hd:DG P lo base ρ β σ a w o K r) (hn:∀ v σ' c w',K v σ'=some r->Fine lo base ρ β σ w v σ' c w'->next (a.put o.dst c) w'):o.wp P a w next Q:=by
 obtain ⟨w',h⟩:=hd;rcases h with ⟨c,h1,v,σ',h2,h3⟩ | ⟨h1,v,σ',h2,h3⟩
 ·unfold Oper.wp;rw[h1,Oper.upon_value];exact hn v σ' c w' h2 h3
 ·unfold Oper.wp;rw[h1,Oper.upon_skip];exact hn v σ' undef w' h2 h3
theorem Qb {args:Array Value} (h1:(execOp a.eval o).run P w = .ok (.enter f args) w)
  (hc:Calls P f args w λe w'=>∃ c,e = .returned c/\next (a.put o.dst c) w'):o.wp P a w next Q:=by
 unfold Oper.wp;rw[h1,Oper.upon_enter];exact Calls.mono hc λe w' ⟨c,he,hn⟩=>by subst he;exact hn
theorem PM {fn:Func} (hf : P.funcs[f]? = some fn) (hb : fn.body.isNone = false) (hn : (fn.name == "runtime.NumGoroutine") = false) (args : Array Value) : (callFunc f args).run P w = .ok (.enter f args) w := by simp only[callFunc,Sem.run_bind,run_program,Result.andThen_ok,hf,hn,hb,Zi,if_false,Sem.run_pure]
theorem Fb (hX:X.ty=Az P) (hE:∀ t,X.cmp t=true->EqOk P t) (hC:SC P X.call) (hk:opT X lo o.dst o.type o.op σ K=some r) (hs:SRel ρ β σ.s a) (hh:HRel ρ σ.h w) (hf:FRel ρ β σ.bx w) (hB:base<=w.heap.size) (hlo:lo<=σ.h.length)
  (hown:Dw o=true->∀ t r,β t=some r->base<=r)
  (hn:∀ v σ' c w',K v σ'=some r->Fine lo base ρ β σ w v σ' c w'->next (a.put o.dst c) w'):o.wp P a w next Q:=by
 obtain ⟨dst,op,ty,pos,after,guard⟩:=o;cases op with
 | move x=>exact AK (Xp hs hh hf hk) hn
 | assign x=>exact AK (UU hs hh hf hk) hn
 | pick c x y=>exact AK (Xo hs hh hf hk) hn
 | alloc e=>exact AK (We hB hX hs hh hf hk) hn
 | box e x=>exact AK (XW hB hX hs hh hf hk) hn
 | build t ps=>exact AK (Wb hX hs hh hf hk) hn
 | buildSlice t n ps=>exact AK (Ns hB hX hs hh hf hk) hn
 | load t x=>exact AK (Xq hX hs hh hf hk) hn
 | store t x y=>exact AK (V6 hB (hown rfl) hX hs hh hf hk) hn
 | nilCheck x=>exact AK (Rv hs hh hf hk) hn
 | binOp op t x y u=>exact AK (Wc hX hE hs hh hf hk) hn
 | unOp op t x=>exact AK (Xm hs hh hf hk) hn
 | convert u t x=>exact AK (SU hX hs hh hf hk) hn
 | makeFunc f fs cs=>exact AK (Rw hs hh hf hk) hn
 | makeSlice t l c=>exact AK (PE hB hX hs hh hf hk) hn
 | slice t x l h m=>exact AK (V7 hX hs hh hf hk) hn
 | fieldAddr t x f=>exact AK (PG hX hs hh hf hk) hn
 | field t x f=>exact AK (Wa hX hs hh hf hk) hn
 | indexAddr t x i=>exact AK (PF hX hs hh hf hk) hn
 | index t x i=>exact AK (V9 hX hs hh hf hk) hn
 | lookup t m i ok=>exact AK (US hX hE hs hh hf hk) hn
 | mapUpdate t m i x=>exact AK (PD hB hX hE hs hh hf hk) hn
 | insert t m i x=>exact AK (UT hB hX hE hs hh hf hk) hn
 | makeMap t x=>exact AK (SS hB hs hh hf hk) hn
 | extract x i=>exact AK (ST hs hh hf hk) hn
 | call c =>
  simp only[opT] at hk;split at hk
  ·rename_i hok
   have hv:=Jo hs c.args.toList hok;have hv':VRs ρ (JG σ.s c.args.toList) (c.args.map a.eval).toList:=by simpa using hv
   split at hk
   ·rename_i f hcal
    split at hk
    ·rename_i g cs he
     obtain ⟨v,h',hcall,hk1⟩:=Wm hk;obtain ⟨v',hk2,hle⟩:=UO hk1;have hx:=BH hs f;rw[he] at hx;obtain ⟨fst,cps,ys,h1,hi,h2⟩:=hx.fn;obtain ⟨fn,e1,e2,e3⟩:=hC.enter hcall;have hrun:(execOp a.eval ⟨dst,.call c,ty,pos,after,guard⟩).run P w = .ok (.enter g (fst++c.args.map a.eval++cps)) w:=by simp[execOp,resolve,hcal,Deferred.ofValue,h1,invoke,PM e1 e2 e3]
     have hargs:VRs ρ (Ft (JG σ.s c.args.toList) cs) (fst++c.args.map a.eval++cps).toList:=by
      unfold WZ at hi;unfold Ft;split at hi
      ·subst hi;simp only[VRs] at h2;obtain ⟨y,r,he2,hy,hr⟩:=h2;injection he2 with he3 he4;subst he3;subst he4;simp only[VR] at hy;obtain ⟨zs,hz,hzs⟩:=hy;injection hz with hz;subst hz;simpa using hzs.append (hv'.append hr)
      ·rename_i hne
       obtain ⟨rfl,rfl⟩:=hi;first
       | (
         split
         ·rename_i f r _;exact (hne _ _ rfl).elim
         ·simpa using hv'.append h2)
       | simpa using hv'.append h2
     refine Qb hrun (Calls.mono (hC.calls hcall hlo hargs hh) ?_)
     rintro e w' ⟨c',rfl,ρ',r1,r2,r3⟩
     exact ⟨c',rfl,hn v' _ c' w' hk2 ⟨ρ',β,rfl,SV.of (hle ρ' c' r1),r2,hf.ext r3,r3.weaken (YH _) hB,Ble.refl _,λt r h1 h2=>(by rw[h1] at h2;cases h2),JR⟩⟩
    ·cases hk
   ·rename_i b hcal
    obtain ⟨c',w',v,h',q1,q2,q3⟩:=SW (ty:=ty) (cts:=c.args.map λ| .const _=>true | _=>false) hB hX hs hh hf (b:=b) (ts:=c.argTypes) hv' hk;refine AK ⟨w',.inl ⟨c',?_,v,_,q2,q3⟩⟩ hn;simp only[execOp,resolve,hcal,Sem.run_bind,Sem.run_pure,Result.andThen_ok,invoke];exact q1
   ·cases hk
  ·cases hk
 | _=>simp[opT] at hk
theorem Fine.len {v:V}{σ':St}{c:Value}{w':World} (h:Fine lo base ρ β σ w v σ' c w'):σ.h.length<=σ'.h.length:=by obtain ⟨ρ',β',_,_,_,_,h,_⟩:=h;exact h.len
theorem Ok.step (hk:Ok lo base nt ρ β σ a w) {v:V}{σ':St} (hf:Fine lo base ρ β σ w v σ' c w') {d:Option Nat} (hd:∀ t,d=some t->t<nt) :
  ∃ ρ' β',Ok lo base nt ρ' β' (putS σ' d v) (a.put d c) w'/\Ext lo base ρ σ.h w ρ' (putS σ' d v).h w':=by
 obtain ⟨ρ',β',h1,h2,h3,h4,h5,h6,h7,h8⟩:=hf;refine ⟨ρ',β',⟨?_,?_,?_,?_,YD hk.hB h5.size,?_,?_,?_⟩,?_⟩
 ·refine SRel.put ?_ h2 (λt ht=>by rw[hk.nt];exact hd t ht);rw[h1];exact hk.s.mono h5.rle h6
 ·cases d<;>exact h3
 ·cases d<;>exact h4
 ·intro t r hr;cases hb:β t with
  | some r0 =>have:=h6 t r0 hb;rw[hr] at this;injection this with this;subst this;exact hk.own t _ hb
  | none=>exact YD hk.hB (h7 t r hb hr).1
 ·have:=h5.len;cases d<;>exact YD hk.hlo this
 ·cases d<;>simp[Act.put,hk.nt]
 ·cases d<;>simp[Act.put,hk.df]
 ·cases d<;>exact h5
theorem Ok.skip (hk:Ok lo base nt ρ β σ a w) {d:Option Nat} (hd:∀ t,d=some t->t<nt):Ok lo base nt ρ β (putS σ d (.tup [])) (a.put d undef) w:=by
 refine ⟨SRel.put hk.s (SV.of (by simp[VR,VRs,undef])) (λt ht=>by rw[hk.nt];exact hd t ht),?_,?_,hk.own,hk.hB,?_,?_,?_⟩
 ·cases d<;>exact hk.h
 ·cases d<;>exact hk.f
 ·cases d<;>exact hk.hlo
 ·cases d<;>simp[Act.put,hk.nt]
 ·cases d<;>simp[Act.put,hk.df]
theorem Jl {ops:Array Oper}{s:List (Nat×V)} (hs:∀ (j:Nat) (want:Bool) (g:Oper) (t:Nat),o.guard=some (j,want)->ops[j]?=some g->g.dst=some t->SV ρ β (Cg s t) (a.tmps.getD t undef)) {run skip:Option R} (hk:EK ops.toList s o.guard run skip=some r) :
  (Region.wanted o (yielded ops a.tmps)=true/\run=some r)\/(Region.wanted o (yielded ops a.tmps)=false/\skip=some r):=by
 unfold EK at hk;unfold Region.wanted;split at hk
 ·rename_i hg;rw[hg];exact .inl ⟨rfl,hk⟩
 ·rename_i j want hg
  rw[hg];split at hk
  ·cases hk
  ·rename_i g hj
   have hj':ops[j]?=some g:=by simpa using hj
   split at hk
   ·cases hk
   ·rename_i t ht
    have hsv:=hs j want g t hg hj' ht;have hy:∀ x,yielded ops a.tmps j=x<->(match a.tmps[t]? with | some (.bool b)=>some b | _=>none)=x:=by intro x;unfold yielded;simp[hj',ht];rfl
    split at hk
    ·rename_i b hb
     rw[hb] at hsv;have hv:=hsv.bool;have hv':a.tmps[t]?=some (.bool b):=by
      cases h:a.tmps[t]? with
      | none=>rw[YY,h] at hv;simp[undef] at hv
      | some y=>rw[YY,h] at hv;simp at hv;rw[hv]
     have hyy:yielded ops a.tmps j=some b:=(hy _).2 (by rw[hv']);simp only[hyy];cases want<;>simp only at hk<;>rcases GW hk with ⟨rfl,h⟩ | ⟨rfl,h⟩<;>simp[h]
    ·rename_i cs hb
     rw[hb] at hsv;obtain ⟨ys,hv,_⟩:=hsv.tup;have hyy:yielded ops a.tmps j=none:=(hy _).2 (by
      cases h:a.tmps[t]? with
      | none=>rfl
      | some y=>rw[YY,h] at hv;simp at hv;rw[hv])
     simp only[hyy];exact .inr ⟨by cases want<;>rfl,hk⟩
    ·cases hk
end
end Go.Proofs.YtoocmbhkaghgnaaGreat.T
namespace Go.Proofs.YtoocmbhkaghgnaaGreat.T
open Go
variable {body:St->Option (Ex×St)}
def V5 (m:Nat) (ops:List Oper):Bool:=ops.all λo=>match o.dst with | none=>true | some t=>Nat.blt t m
def Fv (m:Nat):Code->Bool
 | .region _ ops _=>V5 m ops.toList
 | .seq a b=>Fv m a&&Fv m b
 | .cond _ a b=>Fv m a&&Fv m b
 | .block _ b=>Fv m b
 | .loop b=>Fv m b
 | _=>true
theorem KN {m nt:Nat}{ops:List Oper} (h:V5 m ops=true) (hm:m<=nt):∀ o∈ops,∀ t,o.dst=some t->t<nt:=λo ho t ht=>by
 have:=YR.1 h o ho;rw[ht] at this;have h2:t<m:=by simpa [zaa] using this
 exact YT h2 hm
def Pv:Ex->Exit
 | .normal => .normal
 | .exit id => .exit id
 | .ret => .ret
section
variable {P:Program}{lo base nt m:Nat}{ρ:Rho}{β:Bet}{σ:St}{a:Act}{w:World}{R:Type}{r:R}{X:Ctx}{Q:Exit->Act->World->Prop}
theorem List.drop_cons' {α:Type}{l:List α}{i:Nat}{x:α}{r:List α} (h:l.drop i=x :: r):l[i]?=some x/\l.drop (i+1)=r:=by
 have h1:l[i]?=(l.drop i)[0]?:=by rw[Zc];simp
 refine ⟨by rw[h1,h];rfl,?_⟩;rw[<- ZT,h];rfl
theorem Pa (hX:X.ty=Az P) (hE:∀ t,X.cmp t=true->EqOk P t) (hC:SC P X.call) {ops:Array Oper} (hd:∀ o∈ops.toList,∀ t,o.dst=some t->t<nt) {k:St->Option R} :
  ∀ (rest:List Oper) (i:Nat) (σ:St) (ρ:Rho) (β:Bet) (a:Act) (w:World),ops.toList.drop i=rest->opsT X lo ops.toList (λ_=>false) (λ_ => []) (λ_=>false) i rest σ k=some r->Ok lo base nt ρ β σ a w ->
   (∀ σ' ρ' β' a' w',k σ'=some r->Ok lo base nt ρ' β' σ' a' w'->Ext lo base ρ σ.h w ρ' σ'.h w'->Q .normal a' w')->wpOps P ops Q (List.range' i rest.length) a w
 | [],i,σ,ρ,β,a,w,hr,hk,ho,hQ=>hQ σ ρ β a w hk ho (Ext.refl _ _ _ _ _)
 | o :: rest,i,σ,ρ,β,a,w,hr,hk,ho,hQ=>by
  obtain ⟨hi,hr'⟩:=List.drop_cons' hr;have hi':ops[i]?=some o:=by simpa using hi
  have hdo:=hd o (YS hi);rw[ZC,List.range'_succ];simp only[wpOps,hi'];simp only[opsT,CV] at hk;rcases Jl (a:=a) (ρ:=ρ) (β:=β) (λj want g t _ _ _=>ho.s t) hk with ⟨hw,hk1⟩ | ⟨hw,hk1⟩
  ·rw[hw];simp only[if_true];refine .inl (Fb hX hE hC hk1 ho.s ho.h ho.f ho.hB ho.hlo (λ_=>ho.own) λv σ' c w' h1 h2=>?_);obtain ⟨ρ',β',ho',hx⟩:=ho.step h2 hdo;exact Pa hX hE hC hd rest (i+1) _ ρ' β' _ w' hr' h1 ho' λσ'' ρ'' β'' a'' w'' g1 g2 g3=>hQ σ'' ρ'' β'' a'' w'' g1 g2 (hx.trans g3)
  ·rw[hw];simp only[Zi,if_false];refine Pa hX hE hC hd rest (i+1) _ ρ β _ w hr' hk1 (ho.skip hdo) λσ'' ρ'' β'' a'' w'' g1 g2 g3=>hQ σ'' ρ'' β'' a'' w'' g1 g2 ?_;have:(putS σ o.dst (.tup [])).h=σ.h:=by cases o.dst<;>rfl
   rw[this] at g3;exact g3
def X1 (lo base nt:Nat) (k:Ex->St->Option R) (r:R) (ρ:Rho) (h:Heap) (w:World):Exit->Act->World->Prop:=λe a' w' =>
 ∃ e' σ' ρ' β',k e' σ'=some r/\Pv e'=e/\Ok lo base nt ρ' β' σ' a' w'/\Ext lo base ρ h w ρ' σ'.h w'
def P8 (P:Program) (X:Ctx):Prop:=∀ {lo base nt:Nat}{R:Type}{r:R}{ρ:Rho}{β:Bet}{σ:St}{bx:List (Nat×List V)}{a:Act}{w:World}{id:Nat}{ops:Array Oper}{k:St->Option R}{Q:Exit->Act->World->Prop},
 (∀ o∈ops.toList,∀ t,o.dst=some t->t<nt)->PC (AN [] ops.toList) ops.toList (GV X.cl id)=true->D9 X (GV X.cl id) 0 ops.toList σ.bx=some bx->opsT X lo ops.toList (λi => !Fq (AN [] ops.toList) ops.toList (GV X.cl id) i) (PJ (AN [] ops.toList) ops.toList (GV X.cl id)) (GV X.cl id) 0 ops.toList ⟨σ.s,bx,σ.h⟩ (λσ=>match OL σ.s (AN [] ops.toList) ops.toList (GV X.cl id) with | true=>k σ | false=>none)=some r->Ok lo base nt ρ β σ a w ->
 (∀ σ' ρ' β' a' w',k σ'=some r->Ok lo base nt ρ' β' σ' a' w'->Ext lo base ρ σ.h w ρ' σ'.h w'->Q .normal a' w')->(Code.region id ops true).wp P Q a w
theorem L9:∀ (ts:List Nat) (s:List (Nat×V)) (t:Nat),Cg (Ip ts s) t=Cg s t\/Cg (Ip ts s) t = .any
 | [],s,t => .inr rfl
 | u :: ts,s,t=>by
  simp only[Ip,Em];by_cases h:u=t
  ·subst h;simp
  ·simp only[h,if_false];exact L9 ts s t
theorem KF:∀ (ts:List Nat) (s:List (Nat×V)) (t:Nat),Cg (Mf ts s) t=VH ts (Cg s t)
 | ts,[],t=>rfl
 | ts,(u,v) :: s,t=>by
  simp only[Mf,Em];by_cases h:u=t
  ·simp[h]
  ·simp only[h,if_false];exact KF ts s t
theorem I8:∀ (ts:List Nat) (s:List (Nat×List V)) (t:Nat),Ax (Iz ts s) t=if ts.any (Nat.beq t) then Ax s t else none
 | [],s,t=>by simp[Iz,Ax]
 | u :: ts,s,t=>by
  simp only[Iz];have ih:=I8 ts s t;split
  ·rename_i x hx
   rw[AY];by_cases h:u=t
   ·subst h;simp[hx]
   ·simp only[h,if_false,ih];have:Nat.beq t u=false:=by
     cases hb:Nat.beq t u with
     | false=>rfl
     | true=>exact absurd (YL hb).symm h
    simp[this]
  ·rename_i hx
   rw[ih];by_cases h:u=t
   ·subst h;simp[hx]
   ·have:Nat.beq t u=false:=by
     cases hb:Nat.beq t u with
     | false=>rfl
     | true=>exact absurd (YL hb).symm h
    simp[this]
theorem Ok.norm (ho:Ok lo base nt ρ β σ a w) (id:Nat):∃ β',Ok lo base nt ρ β' (norm X id σ) a w:=by
 refine ⟨λt=>if (JX X.keep id).2.any (Nat.beq t) then β t else none,?_,ho.h,?_,?_,ho.hB,ho.hlo,ho.nt,ho.df⟩
 ·intro t;show SV _ _ (Cg (Mf _ (Ip _ σ.s)) t) _;rw[KF];rcases L9 (JX X.keep id).1 σ.s t with h | h
  ·rw[h];have hs:=ho.s t;cases hv:Cg σ.s t with
   | lp u j =>
    rw[hv] at hs;have hbeq:∀ a b:Nat,Nat.beq a b=Nat.beq b a:=λa b=>by cases h1:Nat.beq a b<;>cases h2:Nat.beq b a<;>first | rfl | (exfalso;have:=YL ‹_›;subst this;simp_all)
    simp only[VH];split
    ·rename_i hk
     obtain ⟨q,h1,h2⟩:=hs;exact ⟨q,by simp only[hk,if_true];exact h1,h2⟩
    ·exact SV.of (VR.any _)
   | _=>rw[hv] at hs;exact hs
  ·rw[h];exact SV.of (VR.any _)
 ·refine ⟨λt q hq=>?_,λt q hq=>?_,λt t' q h1 h2=>?_,λt q b e h1 h2=>?_⟩
  ·split at hq
   ·rename_i hk
    obtain ⟨row,cs,el,g1,g2,g3⟩:=ho.f.has t q hq;refine ⟨row,cs,el,?_,g2,g3⟩;show Ax (Iz _ σ.bx) t=_;rw[I8,if_pos hk,g1]
   ·cases hq
  ·split at hq
   ·exact ho.f.lt t q hq
   ·cases hq
  ·split at h1
   ·split at h2
    ·exact ho.f.inj t t' q h1 h2
    ·cases h2
   ·cases h1
  ·split at h1
   ·exact ho.f.off t q b e h1 h2
   ·cases h1
 ·intro t q hq;split at hq
  ·exact ho.own t q hq
  ·cases hq
theorem QB {σ:St}{p:Ex×St}{c:Code}{id:Nat} (h:Dn c id body σ=some p):∃ n,rounds body n σ=some p:=by
 unfold Dn Ie at h;split at h
 ·rename_i hx
  injection h with h;obtain ⟨n,hn⟩:=Classical.choose_spec hx;exact ⟨n,by have:=hn n (YH _);rw[<- h];exact this⟩
 ·cases h
theorem DC (hX:X.ty=Az P) (hE:∀ t,X.cmp t=true->EqOk P t) (hC:SC P X.call) (hD:P8 P X.narrow) (hm:m<=nt):∀ (c:Code) {R:Type}{r:R} (id:Nat) (σ:St) (k:Ex->St->Option R) (ρ:Rho) (β:Bet) (a:Act) (w:World),
  Fv m c=true->exec X lo c id σ k=some r->Ok lo base nt ρ β σ a w->c.wp P (X1 lo base nt k r ρ σ.h w) a w
 | .skip,R,r,id,σ,k,ρ,β,a,w,hd,hk,ho=>wp_skip ⟨.normal,σ,ρ,β,hk,rfl,ho,Ext.refl _ _ _ _ _⟩
 | .region rid ops draw,R,r,id,σ,k,ρ,β,a,w,hd,hk,ho=>by
  simp only[exec] at hk;simp only[Fv] at hd;split at hk
  ·refine wp_region ?_;have:=Pa (Q:=X1 lo base nt k r ρ σ.h w) hX hE hC (KN hd hm) ops.toList 0 σ ρ β a w rfl hk ho λσ' ρ' β' a' w' h1 h2 h3=>⟨.normal,σ',ρ',β',h1,rfl,h2,h3⟩
   rw[List.range_eq_range'];simpa using this
  ·split at hk
   ·rename_i hdo
    obtain ⟨bx,hbx,hk⟩:=AF hk;exact hD (KN hd hm) hdo hbx hk ho λσ' ρ' β' a' w' h1 h2 h3=>⟨.normal,σ',ρ',β',h1,rfl,h2,h3⟩
   ·cases hk
 | .seq x y,R,r,id,σ,k,ρ,β,a,w,hd,hk,ho=>by
  simp only[exec] at hk;simp only[Fv,YQ] at hd;refine wp_seq (wp_mono (DC hX hE hC hD hm x id σ _ ρ β a w hd.1 hk ho) ?_)
  rintro e a' w' ⟨e',σ',ρ',β',h1,rfl,h3,h4⟩
  cases e' with
  | normal =>
   simp only[XS] at h1;refine wp_mono (DC hX hE hC hD hm y id σ' k ρ' β' a' w' hd.2 h1 h3) ?_
   rintro e a'' w'' ⟨e',σ'',ρ'',β'',g1,g2,g3,g4⟩
   exact ⟨e',σ'',ρ'',β'',g1,g2,g3,h4.trans g4⟩
  | exit j=>exact ⟨_,σ',ρ',β',h1,rfl,h3,h4⟩
  | ret=>exact ⟨_,σ',ρ',β',h1,rfl,h3,h4⟩
 | .cond c x y,R,r,id,σ,k,ρ,β,a,w,hd,hk,ho=>by
  simp only[exec] at hk;simp only[Fv,YQ] at hd;obtain ⟨b,hb,hk1⟩:=Jr hk;have hc:=TC ho.s hb;rcases GW hk1 with ⟨rfl,hk2⟩ | ⟨rfl,hk2⟩
  ·exact wp_cond_true hc (DC hX hE hC hD hm x id σ k ρ β a w hd.1 hk2 ho)
  ·exact wp_cond_false hc (DC hX hE hC hD hm y id σ k ρ β a w hd.2 hk2 ho)
 | .block j x,R,r,id,σ,k,ρ,β,a,w,hd,hk,ho=>by
  simp only[exec] at hk;simp only[Fv] at hd;refine wp_block (wp_mono (DC hX hE hC hD hm x j σ _ ρ β a w hd hk ho) ?_)
  rintro e a' w' ⟨e',σ',ρ',β',h1,rfl,h3,h4⟩
  cases e' with
  | normal=>exact ⟨.normal,σ',ρ',β',h1,rfl,h3,h4⟩
  | exit i =>
   simp only[DY] at h1;simp only[Pv,Exit.inBlock];split at h1
   ·rename_i hb
    have hb:=YL hb;rw[if_pos hb];exact ⟨.normal,σ',ρ',β',h1,rfl,h3,h4⟩
   ·rename_i hb
    rw[if_neg (λh=>by subst h;simp at hb)];exact ⟨.exit i,σ',ρ',β',h1,rfl,h3,h4⟩
  | ret=>exact ⟨.ret,σ',ρ',β',h1,rfl,h3,h4⟩
 | .loop x,R,r,id,σ,k,ρ,β,a,w,hd,hk,ho=>by
  simp only[exec] at hk;simp only[Fv] at hd;unfold XO at hk;split at hk
  ·rename_i e σ' hl
   obtain ⟨n,hn⟩:=QB hl;obtain ⟨β0,ho0⟩:=ho.norm (X:=X) id;intro b kk cs;have key:∀ (n:Nat) (σ0:St) (ρ0:Rho) (β0:Bet) (a0:Act) (w0:World),rounds (λσ=>exec X lo x id σ (Fl X id)) n σ0=some (e,σ')->Ok lo base nt ρ0 β0 σ0 a0 w0->Ext lo base ρ σ.h w ρ0 σ0.h w0 ->
     ∃ e' a' w',X1 lo base nt k r ρ σ.h w e' a' w'/\Arrives P (lone (b.at a0 (.code x :: .inLoop x :: kk)) cs w0) b kk cs e' a' w':=by
    intro n;induction n with
    | zero=>intro σ0 ρ0 β0 a0 w0 hn;cases hn
    | succ n ih =>
     intro σ0 ρ0 β0 a0 w0 hn ho hx;simp only[rounds] at hn;cases hb:exec X lo x id σ0 (Fl X id) with
     | none=>rw[hb] at hn;cases hn
     | some p =>
      rw[hb] at hn;simp only[Za] at hn;obtain ⟨e1,a1,w1,hq,harr⟩:=DC hX hE hC hD hm x id σ0 (Fl X id) ρ0 β0 a0 w0 hd hb ho b (.inLoop x :: kk) cs;obtain ⟨e',σ1,ρ1,β1,h1,h2,h3,h4⟩:=hq;simp only[Fl,Option.some.injEq] at h1;obtain ⟨β1',h3'⟩:=h3.norm (X:=X) id;have hx1:Ext lo base ρ σ.h w ρ1 (norm X id σ1).h w1:=hx.trans h4;subst h1;subst h2;cases e' with
      | normal =>simp only at hn;obtain ⟨e2,a2,w2,g1,g2⟩:=ih _ _ _ _ _ hn h3' hx1;exact ⟨e2,a2,w2,g1,.of_steps (Steps.trans harr (.one step_inLoop)) g2⟩
      | exit j =>simp only[Option.some.injEq,Prod.mk.injEq] at hn;obtain ⟨rfl,rfl⟩:=hn;exact ⟨_,a1,w1,⟨_,_,ρ1,β1',hk,rfl,h3',hx1⟩,.pass (x := .inLoop x) rfl (λ_ _ => .inl (by simp[Pv])) harr⟩
      | ret =>simp only[Option.some.injEq,Prod.mk.injEq] at hn;obtain ⟨rfl,rfl⟩:=hn;exact ⟨_,a1,w1,⟨_,_,ρ1,β1',hk,rfl,h3',hx1⟩,.pass (x := .inLoop x) rfl (λ_ _ => .inl (by simp[Pv])) harr⟩
   obtain ⟨e',a',w',hq,harr⟩:=key n _ ρ β0 a w hn ho0 (Ext.refl _ _ _ _ _);exact ⟨e',a',w',hq,.of_steps (.one step_loop) harr⟩
  ·cases hk
 | .exit j,R,r,id,σ,k,ρ,β,a,w,hd,hk,ho=>wp_exit ⟨.exit j,σ,ρ,β,hk,rfl,ho,Ext.refl _ _ _ _ _⟩
 | .ret,R,r,id,σ,k,ρ,β,a,w,hd,hk,ho=>wp_ret ⟨.ret,σ,ρ,β,hk,rfl,ho,Ext.refl _ _ _ _ _⟩
 | .rangeFunc ..,R,r,id,σ,k,ρ,β,a,w,hd,hk,ho=>by simp[exec] at hk
 | .scope ..,R,r,id,σ,k,ρ,β,a,w,hd,hk,ho=>by simp[exec] at hk
 | .label ..,R,r,id,σ,k,ρ,β,a,w,hd,hk,ho=>by simp[exec] at hk
 | .goto ..,R,r,id,σ,k,ρ,β,a,w,hd,hk,ho=>by simp[exec] at hk
 | .refuse ..,R,r,id,σ,k,ρ,β,a,w,hd,hk,ho=>by simp[exec] at hk
end
end Go.Proofs.YtoocmbhkaghgnaaGreat.T
namespace Go.Proofs.YtoocmbhkaghgnaaGreat.T
open Go
variable {f:FuncId}{args:List V}{cargs:Array Value}
section
variable {P:Program}{lo base nt m:Nat}{ρ:Rho}{β:Bet}{σ:St}{a:Act}{w:World}{X:Ctx}
theorem Uf (hX:X.ty=Az P) (ho:Ok lo base nt ρ β σ a w) {rv:ResultVar}{v:V} (h:N8 X σ rv=some v) :
  ∃ c,(match rv with | .tmp t=>pure (a.tmps.getD t undef) | .cell s t=>do loadVar t (<- asAddr (a.tmps.getD s undef)):Sem Value).run P w = .ok c w/\VR ρ v c:=by
 cases rv with
 | tmp t =>
  simp only[N8] at h;split at h
  ·rename_i hok
   injection h with h;subst h;exact ⟨_,rfl,(ho.s t).ok hok⟩
  ·cases h
 | cell s t =>
  simp only[N8] at h;rw[hX] at h;have hs:=ho.s s;split at h
  ·rename_i u j he
   rw[he] at hs;obtain ⟨q,h1,h2⟩:=hs;split at h
   ·rename_i row hrow
    split at h
    ·rename_i cs hcs
     split at h
     ·rename_i hkn
      obtain ⟨ys,g1,g2,g3⟩:=TQ ho.f h1 hrow hcs;obtain ⟨c,k1,k2⟩:=DS (w:=w) hkn g1 g2 g3 h;exact ⟨c,by simp only[h2,asAddr,Sem.run_bind,Sem.run_pure,Result.andThen_ok,k1],k2⟩
     ·cases h
    ·cases h
   ·cases h
  ·rename_i p he
   rw[he] at hs;split at h
   ·cases h
   ·rename_i hkn
    cases p with
    | none=>simp at h
    | some q =>
     obtain ⟨b,i,j⟩:=q;simp only[Za] at h;obtain ⟨e,h1,h2⟩:=hs.ptr;cases hl:ld σ.h b i j (Az P t).size with
     | none=>rw[hl] at h;cases h
     | some cs =>rw[hl] at h;simp only[Za] at h;obtain ⟨v',hv,hle,hone⟩:=Hz h;injection hv with hv;subst hv;obtain ⟨ys,g1,g2,g3⟩:=VD ho.h h1 hl;obtain ⟨c,k1,k2⟩:=DS (w:=w) hkn g1 g2 g3 (Ff hone);exact ⟨c,by simp only[h2,asAddr,Sem.run_bind,Sem.run_pure,Result.andThen_ok,k1],hle ρ c k2⟩
  ·cases h
theorem N7 (hX:X.ty=Az P) (ho:Ok lo base nt ρ β σ a w):∀ {rs:List ResultVar}{vs:List V},Kz X σ rs=some vs ->
  ∃ cs,(rs.mapM λrv=>(match rv with | .tmp t=>pure (a.tmps.getD t undef) | .cell s t=>do loadVar t (<- asAddr (a.tmps.getD s undef)):Sem Value)).run P w = .ok cs w/\VRs ρ vs cs
 | [],vs,h=>by simp[Kz] at h;subst h;exact ⟨[],rfl,VRs.nil⟩
 | rv :: rs,vs,h=>by
  simp only[Kz] at h;split at h
  ·rename_i v hv
   split at h
   ·rename_i vs' hvs
    injection h with h;subst h;obtain ⟨c,h1,h2⟩:=Uf hX ho hv;obtain ⟨cs,h3,h4⟩:=N7 hX ho hvs;refine ⟨c :: cs,?_,VRs.cons h2 h4⟩;simp only[List.mapM_cons,Sem.run_bind,h1,Result.andThen_ok,h3,Sem.run_pure]
   ·cases h
  ·cases h
theorem QF (hX:X.ty=Az P) (ho:Ok lo base nt ρ β σ a w) {fn:Func}{v:V}{h':Heap} (h:Sg X fn.results.toList σ=some (v,h')):h'=σ.h/\∃ c,(results fn a.tmps).run P w = .ok c w/\VR ρ v c:=by
 unfold Sg at h;split at h
 ·rename_i vs hvs
  obtain ⟨cs,h1,h2⟩:=N7 hX ho hvs;have hrun:∀ c,(if hh:cs.toArray.size=1 then cs.toArray[0] else Value.tuple cs.toArray)=c->(results fn a.tmps).run P w = .ok c w:=by
   intro c hc;unfold results;rw[Array.mapM_eq_mapM_toList];simp only[Sem.run_bind,Sem.run_map,Sem.run_pure]
   erw [h1]
   simp only[Result.andThen_ok];rw[hc]
  split at h
  ·rename_i v0
   simp only[Option.some.injEq,Prod.mk.injEq] at h;obtain ⟨rfl,rfl⟩:=h;simp only[VRs] at h2;obtain ⟨y,r,rfl,h3,rfl⟩:=h2;exact ⟨rfl,y,hrun y (by simp),h3⟩
  ·rename_i hne
   simp only[Option.some.injEq,Prod.mk.injEq] at h;obtain ⟨rfl,rfl⟩:=h;refine ⟨rfl,.tuple cs.toArray,hrun _ ?_,?_⟩
   ·have hl:=h2.length;rw[dif_neg];intro h1;have:vs.length=1:=by rw[hl];simpa using h1
    match vs,this with
    | [x],_=>exact hne x rfl
   ·simp only[VR];exact ⟨_,rfl,by simpa using h2⟩
 ·cases h
theorem In:∀ (args:List V) (i t:Nat),Cg (FA i args) t=if i<=t then (args[t - i]?).getD .any else .any
 | [],i,t=>by simp[FA,Cg]
 | v :: args,i,t=>by
  simp only[FA,Em];by_cases h:i=t
  ·subst h;simp
  ·simp only[h,if_false];rw[In args (i+1) t];by_cases h1:i<=t
   ·have h2:i+1<=t:=by omega
    simp only[h1,h2,if_true];rw[show t - i=(t - (i+1))+1 by omega];simp
   ·have h2:¬ (i+1<=t):=by omega
    simp[h1,h2]
theorem VS {I:Info}{call:EG} (hX:I.ty=Az P) (hE:∀ t,I.cmp t=true->EqOk P t) (hC:SC P call) (hD:∀ f,P8 P (I.ctx call f).narrow) {fn:Func}{c:Code} (hf:P.funcs[f]?=some fn) (hb:fn.body=some c) (hd:Fv fn.ntmps c=true) {h h':Heap}{v:V} (hk:fnT I fn call lo f args h=some (v,h')) (hlo:lo<=h.length) (hv:VRs ρ args cargs.toList) (hh:HRel ρ h w) :
  Calls P f cargs w λe w'=>∃ c,e = .returned c/\∃ ρ',VR ρ' v c/\HRel ρ' h' w'/\Ext lo w.heap.size ρ h w ρ' h' w':=by
 unfold fnT at hk;rw[hb] at hk;simp only at hk;refine calls_of_wp hf hb ?_;have hlen:=hv.length;simp at hlen;have ho:Ok lo w.heap.size (cargs++Array.replicate (fn.ntmps - cargs.size) undef).size ρ (λ_=>none) ⟨FA 0 args,[],h⟩ { tmps:=cargs++Array.replicate (fn.ntmps - cargs.size) undef,defers := [] } w:=by
  refine ⟨λt=>?_,hh,⟨λt r h=>(by cases h),λt r h=>(by cases h),λt t' r h=>(by cases h),λt r b e h=>(by cases h)⟩,λt r h=>(by cases h),YH _,hlo,rfl,rfl⟩;show SV ρ _ (Cg (FA 0 args) t) _;rw[In];simp only[Y3,if_true,Nat.sub_zero];cases hx:args[t]? with
  | none=>exact SV.of (VR.any _)
  | some x =>
   obtain ⟨y,h1,h2⟩:=hv.get t x hx;have ht:t<cargs.size:=by have:=(YE.1 h1).1;simpa using this
   have:(cargs++Array.replicate (fn.ntmps - cargs.size) undef).getD t undef=y:=by rw[YY,Array.getElem?_append_left ht];simp at h1;simp[h1]
   rw[this];exact SV.of h2
 refine wp_mono (DC (X:=I.ctx call f) hX hE hC (hD f) (by simp;omega) c 0 _ _ ρ _ _ w hd hk ho) ?_
 rintro e a' w' ⟨e',σ',ρ',β',h1,rfl,h3,h4⟩
 cases e' with
 | normal =>obtain ⟨rfl,c',g1,g2⟩:=QF (X:=I.ctx call f) hX h3 h1;exact ⟨h3.df,c',g1,c',rfl,ρ',g2,h3.h,h4⟩
 | ret =>obtain ⟨rfl,c',g1,g2⟩:=QF (X:=I.ctx call f) hX h3 h1;exact ⟨h3.df,c',g1,c',rfl,ρ',g2,h3.h,h4⟩
 | exit j=>cases h1
mutual
theorem VR.noId {ρ ρ':Rho}:∀ (x:V) (c:Value),noId x=true->VR ρ x c->VR ρ' x c
 | .int _ _,_,_,h=>by simpa [VR] using h
 | .bool _,_,_,h=>by simpa [VR] using h
 | .str _,_,_,h=>by simpa [VR] using h
 | .nilf,_,_,h=>by simpa [VR] using h
 | .nili,_,_,h=>by simpa [VR] using h
 | .agg cs,_,hn,h=>by simp only[T.noId] at hn;simp only[VR] at h ⊢;obtain ⟨ys,hv,hc⟩:=h;exact ⟨ys,hv,VRs.noId cs _ hn hc⟩
 | .tup cs,_,hn,h=>by simp only[T.noId] at hn;simp only[VR] at h ⊢;obtain ⟨ys,hv,hc⟩:=h;exact ⟨ys,hv,VRs.noId cs _ hn hc⟩
 | .ptr _,_,hn,_=>by simp[T.noId] at hn
 | .lp _ _,_,hn,_=>by simp[T.noId] at hn
 | .sl _ _ _ _,_,hn,_=>by simp[T.noId] at hn
 | .map _,_,hn,_=>by simp[T.noId] at hn
 | .fn _ _,_,hn,_=>by simp[T.noId] at hn
 | .ifc _ _,_,hn,_=>by simp[T.noId] at hn
 | .any,_,hn,_=>by simp[T.noId] at hn
theorem VRs.noId {ρ ρ':Rho}:∀ (xs:List V) (cs:List Value),noIds xs=true->VRs ρ xs cs->VRs ρ' xs cs
 | [],_,_,h=>by simpa [VRs] using h
 | x :: xs,_,hn,h=>by
  simp only[T.noIds] at hn;split at hn
  ·rename_i hx
   simp only[VRs] at h ⊢;obtain ⟨y,r,hy,h1,h2⟩:=h;exact ⟨y,r,hy,VR.noId x _ hx h1,VRs.noId xs _ hn h2⟩
  ·cases hn
end
theorem SC.none:SC P (λ_ _ _ _=>none):=⟨λh=>(by cases h),λh=>(by cases h)⟩
structure Sound (P:Program) (I:Info):Prop where
 ty:I.ty=Az P
 cmp:∀ t,I.cmp t=true->EqOk P t
 fns : ∀ (f : FuncId) (fn : Func) (c : Code), P.funcs[f]? = some fn -> fn.body = some c -> Fv fn.ntmps c = true /\ (fn.name == "runtime.NumGoroutine") = false
 draw:∀ (call:EG) (f:FuncId),SC P call->P8 P (I.ctx call f).narrow
theorem Hw {I:Info} (hS:Sound P I):∀ n,SC P (Hx P I n)
 | 0=>⟨λh=>(by cases h),λh=>(by cases h)⟩
 | n+1=>by
  have ih:=Hw hS n;have inv:∀ {lo f args h v h'},Hx P I (n+1) lo f args h=some (v,h')->∃ fn c h2,P.funcs[f]?=some fn/\fn.body=some c/\fnT I fn (Hx P I n) (Xy (I.drop f) lo h) f args h=some (v,h2) /\
    ((I.drop f=false/\h'=h2)\/(I.drop f=true/\noId v=true/\h'=h)):=by
   intro lo f args h v h' hk;simp only[Hx] at hk;split at hk
   ·cases hk
   ·rename_i fn hf
    cases hp:fnT I fn (Hx P I n) (Xy (I.drop f) lo h) f args h with
    | none=>rw[hp] at hk;cases hk
    | some p =>
     rw[hp] at hk;simp only[Za] at hk;have hb:∃ c,fn.body=some c:=by
      unfold fnT at hp;cases hb:fn.body with
      | none=>rw[hb] at hp;cases hp
      | some c=>exact ⟨c,rfl⟩
     obtain ⟨c,hb⟩:=hb;unfold TL at hk;split at hk
     ·injection hk with hk;subst hk;exact ⟨fn,c,h',hf,hb,hp,.inl ⟨‹_›,rfl⟩⟩
     ·split at hk
      ·rename_i hn
       simp only[Option.some.injEq,Prod.mk.injEq] at hk;obtain ⟨rfl,rfl⟩:=hk;exact ⟨fn,c,p.2,hf,hb,hp,.inr ⟨‹_›,hn,rfl⟩⟩
      ·cases hk
  refine ⟨λ{lo f args h p} hk=>?_,λ{lo f args h v h'} hk hlo {ρ w cargs} hv hh=>?_⟩
  ·obtain ⟨v,h'⟩:=p;obtain ⟨fn,c,h2,hf,hb,hp,_⟩:=inv hk;exact ⟨fn,hf,by rw[hb];rfl,(hS.fns f fn c hf hb).2⟩
  ·obtain ⟨fn,c,h2,hf,hb,hp,hd⟩:=inv hk;have hlo2:Xy (I.drop f) lo h<=h.length:=by unfold Xy;split<;>omega
   have hc:=VS hS.ty hS.cmp ih (λf=>hS.draw _ f ih) hf hb (hS.fns f fn c hf hb).1 hp hlo2 hv hh;rcases hd with ⟨hd,rfl⟩ | ⟨hd,hn,rfl⟩
   ·rw[hd] at hc;exact hc
   ·rw[hd] at hc;simp only[Xy] at hc;refine Calls.mono hc ?_
    rintro e w' ⟨c',he,ρ',h1,h2,h3⟩
    have hfr:∀ r,r<w.heap.size->w'.heap[r]?=w.heap[r]?:=λr hr=>h3.frame r hr λb e hb hle=>by have:=(hh.dom b e hb).1;omega
    refine ⟨c',he,ρ,VR.noId _ _ hn h1,⟨λb e hb=>?_,λb e k hb hk=>?_,hh.inj⟩,⟨Rle.refl _,λb e h1 h2=>(by rw[h1] at h2;cases h2),λr hr _=>hfr r hr,h3.size,h3.os,h3.tape,h3.output,YH _,λ_ _ _=>rfl,λb h1 h2=>absurd h2 (Z9.2 h1)⟩⟩
    ·have:=hh.dom b e hb;exact ⟨this.1,YT this.2 h3.size⟩
    ·exact BR.mono (Rle.refl _) (hfr _ (hh.dom b e hb).2) (hh.blk b e k hb hk)
theorem OJ {I:Info}{h:Heap}{p:V×Heap} (hk:eval P I lo f args h=some p):∃ n,∀ m,n<=m->Hx P I m lo f args h=some p:=by
 unfold eval Ie at hk;split at hk
 ·rename_i hx
  injection hk with hk;obtain ⟨n,hn⟩:=Classical.choose_spec hx;exact ⟨n,λm hm=>by have:=hn m hm;rw[<- hk];exact this⟩
 ·cases hk
theorem SO {I:Info} (hS:Sound P I):SC P (eval P I) :=
 ⟨λhk=>by obtain ⟨n,hn⟩:=OJ hk;exact (Hw hS n).enter (hn n (YH _)),
  λhk=>by obtain ⟨n,hn⟩:=OJ hk;exact (Hw hS n).calls (hn n (YH _))⟩
end
end Go.Proofs.YtoocmbhkaghgnaaGreat.T
namespace Go.Proofs.YtoocmbhkaghgnaaGreat.T
open Go
variable {b:Bool}{v:V}{n:Nat}{s:ByteArray}{ss:List Sh}{ts:List (Bool×List Sh)}{t:TypeId}{lo size:Nat}{h:Heap}{o:Op}{σ:St}{ty:TypeId}
section
variable {R S α:Type}{g:R->Option S}
theorem Dz:(none:Option R).bind g=none:=rfl
theorem GX {x y:Option R}:(br b x y).bind g=br b (x.bind g) (y.bind g):=by cases b<;>rfl
theorem BZ {x:Option R}:(A8 b x).bind g=A8 b (x.bind g):=by cases b<;>rfl
theorem Wk {a b:ByteArray}{f:ByteArray->Option R}:(Yr a b f).bind g=Yr a b λr=>(f r).bind g:=by rw[S1,S1,BZ]
theorem D4 {k:IntKind}{f:Int->Option R}:(eI k v f).bind g=eI k v λn=>(f n).bind g:=by unfold eI;split<;>(try split)<;>rfl
theorem V3 {f:Int->Option R}:(X6 v f λf=>eI .i64 v f).bind g=X6 v (λn=>(f n).bind g) λf=>eI .i64 v f:=by
 unfold X6;split
 ·rfl
 ·exact D4
theorem Js {f:Bool->Option R}:(eBv v f).bind g=eBv v λn=>(f n).bind g:=by unfold eBv;split<;>rfl
theorem Xh {x y:Option R}:(eB v x y).bind g=eB v (x.bind g) (y.bind g):=by unfold eB;split<;>first | exact GX | rfl
theorem TH {f:ByteArray->Option R}:(eT v f).bind g=eT v λn=>(f n).bind g:=by unfold eT;split<;>rfl
theorem Px {q:Nat}{f:Option (Nat×Nat)->Nat->Option Nat->Option R}:(eS q v f).bind g=eS q v λa n c=>(f a n c).bind g:=by unfold eS;split<;>(try split)<;>(try split)<;>rfl
theorem TK {f:Option (Nat×Nat×Nat)->Option R}:(eP v f).bind g=eP v λn=>(f n).bind g:=by unfold eP;split<;>rfl
theorem Xb {f:Option Nat->Option R}:(eM v f).bind g=eM v λn=>(f n).bind g:=by unfold eM;split<;>rfl
theorem Xd {f:Nat->List V->Option R}:(eF v f).bind g=eF v λn l=>(f n l).bind g:=by unfold eF;split<;>rfl
theorem Xf {f:Nat->V->Option R}{z:Option R}:(eE v f z).bind g=eE v (λn l=>(f n l).bind g) (z.bind g):=by unfold eE;split<;>rfl
theorem Xj {f:List V->Option R}:(eA v f).bind g=eA v λn=>(f n).bind g:=by unfold eA;split<;>rfl
theorem W5 {f:List V->Option R}:(eU v f).bind g=eU v λn=>(f n).bind g:=by unfold eU;split<;>rfl
theorem PB {v:List V}{f:V->List V->Option R}:(eC v f).bind g=eC v λn l=>(f n l).bind g:=by unfold eC;split<;>rfl
theorem Pz {v:List V}{x:Option R}:(eN v x).bind g=eN v (x.bind g):=by unfold eN;split<;>rfl
theorem Dx {o:Option α}{f:α->Option R}:(eO o f).bind g=eO o λn=>(f n).bind g:=by cases o<;>rfl
theorem W3 {o:Option α}{f:α->Option R}{z:Option R}:(eX o f z).bind g=eX o (λn=>(f n).bind g) (z.bind g):=by cases o<;>rfl
theorem Wn {o:Option (V×α)}{f:V->α->Option R}:(Al o f).bind g=Al o λn l=>(f n l).bind g:=by unfold Al;split<;>rfl
theorem VN {i:Int}{x:Option R}:(AM i n x).bind g=AM i n (x.bind g):=by unfold AM;split<;>rfl
theorem Jf {i:Int}{x:Option R}:(UC i n x).bind g=UC i n (x.bind g):=by unfold UC;split<;>rfl
theorem Rt {s:Sh}{f:V->Option R}:(XV s v f).bind g=XV s v λn=>(f n).bind g:=by cases s<;>simp only[XV,D4,Js,TH,TK,Px,Xb,Xd,Xf,Dz]
theorem J8:∀ {ss:List Sh}{cs:List V}{f:List V->Option R},(Nr ss cs f).bind g=Nr ss cs λn=>(f n).bind g
 | [],cs,f=>by simp only[Nr,Pz]
 | s :: ss,cs,f=>by simp only[Nr,PB,Rt];congr 1;funext v r;congr 1;funext v';exact J8 (ss:=ss)
theorem H0 {agg:Bool}{f:V->Option R}:(No agg ss v f).bind g=No agg ss v λn=>(f n).bind g:=by
 unfold No;split
 ·rw[Xj];congr 1;funext cs;exact J8
 ·split
  ·exact Xh
  ·exact Rt
  ·rfl
theorem ME:∀ {ss:List (Bool×List Sh)}{cs:List V}{f:List V->Option R},(Jp ss cs f).bind g=Jp ss cs λn=>(f n).bind g
 | [],cs,f=>by simp only[Jp,Pz]
 | s :: ss,cs,f=>by simp only[Jp,PB,H0];congr 1;funext v r;congr 1;funext v';exact ME (ss:=ss)
theorem UP {f:V->Option R}:(UQ ts v f).bind g=UQ ts v λn=>(f n).bind g:=by
 unfold UQ;split
 ·exact H0
 ·rw[W5];congr 1;funext cs;exact ME
theorem KM {agg:Bool}{cs:List V}{f:V->Option R}:(FX agg ss cs f).bind g=FX agg ss cs λn=>(f n).bind g:=by
 unfold FX;split
 ·exact J8
 ·rw[PB];congr 1;funext v r;rw[Pz,H0]
theorem Wo {k:V->Option R}:(Xs b k).bind g=Xs b λv=>(k v).bind g:=GX
theorem VX {X:Ctx}{c:Bool}{x y:V}{f:Bool->Option R}:(eql X t c x y f).bind g=eql X t c x y λb=>(f b).bind g:=by unfold eql;split<;>(try split)<;>simp only[BZ,Dx,Dz]
theorem S5 {X:Ctx}{op:BinOp}{c:Bool}{x y:V}{k:V->Option R}:(binOp X op t c x y k).bind g=binOp X op t c x y λv=>(k v).bind g:=by unfold binOp;split<;>(try split)<;>simp only[VX,Wo,GX,BZ,Wk,Dz]
theorem TZ {op:UnOp}{x:V}{k:V->Option R}:(unOp op x k).bind g=unOp op x λv=>(k v).bind g:=by unfold unOp;split<;>(try split)<;>simp only[Js,Dz]
theorem RF {e:TypeId}{bytes:Nat}{s:V}{xs:List (List V)}{k:V->Heap->Option R}:(CJ lo e size bytes s xs h k).bind g=CJ lo e size bytes s xs h λv h=>(k v h).bind g:=by
 unfold CJ;split
 ·split
  ·rfl
  ·rw[BZ,BZ];congr 2;split
   ·rfl
   ·rw[BZ];congr 1;split
    ·split<;>rw[Dx]
    ·rw[Dx];congr 1;funext rs;split
     ·rw[Dx]
     ·rw[BZ,Dx]
 ·rfl
theorem Hp {k:List (List V)->Option R}:(Ap size h v k).bind g=Ap size h v λl=>(k l).bind g:=by
 unfold Ap;split
 ·split
  ·rfl
  ·rw[BZ];congr 1;split
   ·rfl
   ·rw[Dx]
 ·rfl
 ·rfl
theorem R6 {len:Nat}{cap:Option Nat}{m:Option V}{f:Option Nat->Option R}:(E8 len cap m f).bind g=E8 len cap m λc=>(f c).bind g:=by
 unfold E8;split
 ·rfl
 ·rw[D4];congr 1;funext n;split<;>rw[Jf]
theorem N4 {len:Nat}{cap:Option Nat}{m:Option V}{f:Nat->Option R}:(Ic b len cap m f).bind g=Ic b len cap m λc=>(f c).bind g:=by
 unfold Ic;split
 ·split<;>rfl
 ·rw[D4];congr 1;funext n;split<;>rw[Jf]
theorem Uc {a:Option (Nat×Nat)}{h:Nat}{cap:Option Nat}{k:Option (Nat×Nat)->Nat->Option Nat->Option R}:(Nk a h cap n k).bind g=Nk a h cap n λa n c=>(k a n c).bind g:=by
 unfold Nk;split
 ·rfl
 ·split
  ·rw[GX]
  ·rfl
theorem Ub {a:Option (Nat×Nat)}{h:Nat}{cap:Option Nat}{l:Option V}{k:Option (Nat×Nat)->Nat->Option Nat->Option R}:(IX a h cap l k).bind g=IX a h cap l λa n c=>(k a n c).bind g:=by
 unfold IX;split
 ·rfl
 ·rw[D4];congr 1;funext n;rw[Jf,Uc]
theorem O6 {a:Option (Nat×Nat)}{len:Nat}{cap:Option Nat}{l hi m:Option V}{k:Option (Nat×Nat)->Nat->Option Nat->Option R}:(Ay a len cap l hi m k).bind g=Ay a len cap l hi m λa n c=>(k a n c).bind g:=by unfold Ay;simp only[R6,N4,Ub]
theorem RR {h:Nat}{l:Option V}{k:V->Option R}:(Qg s h l k).bind g=Qg s h l λv=>(k v).bind g:=by
 unfold Qg;split
 ·rfl
 ·rw[D4];congr 1;funext n;rw[Jf]
theorem Nc {l hi:Option V}{k:V->Option R}:(Ga s l hi k).bind g=Ga s l hi λv=>(k v).bind g:=by unfold Ga;simp only[N4,RR]
theorem JU:∀ {xs:List V}{m:Int}{k:V->Option R},(Sr xs m k).bind g=Sr xs m λv=>(k v).bind g
 | [],m,k=>rfl
 | v :: xs,m,k=>by simp only[Sr,D4];congr 1;funext n;exact JU (xs:=xs)
theorem JT:∀ {xs:List V}{m:Int}{k:V->Option R},(Sp xs m k).bind g=Sp xs m λv=>(k v).bind g
 | [],m,k=>rfl
 | v :: xs,m,k=>by simp only[Sp,D4];congr 1;funext n;exact JT (xs:=xs)
theorem RA {R':Nat}{ok:Bool}{zero:List V}{a:Option (Nat×Nat)}{k:Heap->Option R}:(Ym lo R' size ok zero h a n k).bind g=Ym lo R' size ok zero h a n λh=>(k h).bind g:=by
 unfold Ym;split
 ·rfl
 ·rw[BZ,Dx]
theorem UY {X:Ctx}{b:Builtin}{ts:List TypeId}{vs:List V}{k:V->Heap->Option R}:(S4 X lo b ts vs h k).bind g=S4 X lo b ts vs h λv h=>(k v h).bind g:=by
 unfold S4
 repeat' split
 all_goals simp only[BZ,Dx,Hp,RF,Px,D4,JU,JT,RA,Dz]
 all_goals (try (repeat' split)<;>simp only[BZ,Dx,Hp,RF,Px,D4,JU,JT,RA,Dz])
theorem Kb {X:Ctx}{o:Oper}{σ σ':St}:∀ {l:List Oper}{k:Option R},(chkT X o σ σ' l k).bind g=chkT X o σ σ' l (k.bind g)
 | [],k=>rfl
 | p :: l,k=>by
  simp only[chkT];have ih:∀ k:Option R,(chkT X o σ σ' l k).bind g=chkT X o σ σ' l (k.bind g):=λk=>Kb;split
  ·split
   ·split
    ·split
     ·split
      ·rfl
      ·exact ih k
     ·exact ih k
     ·rfl
    ·exact ih k
   ·rw[Dx];congr 1;funext q;split
    ·split
     ·exact ih k
     ·rw[BZ,ih k]
    ·rw[BZ,ih k]
   ·rfl
  ·split
   ·split
    ·split
     ·split
      ·rfl
      ·exact ih k
     ·exact ih k
     ·rfl
    ·exact ih k
   ·rfl
  ·rfl
noncomputable def AD (X:Ctx) (lo:Nat) (d:Option Nat) (ty:TypeId) (o:Op) (σ:St):Option (V×St):=opT X lo d ty o σ λv σ=>some (v,σ)
theorem LY {X:Ctx}{d:Option Nat}{k:V->St->Option R}:(opT X lo d ty o σ k).bind g=opT X lo d ty o σ λv σ=>(k v σ).bind g:=by
 cases o<;>simp only[opT]
 all_goals (try rfl)
 all_goals (repeat' split)
 all_goals simp only[GX,Js,BZ,Dx,KM,S5,TZ,V3,D4,VN,TK,TH,O6,Nc,W3,H0,Wn,UP,UY,Hp,Dz]
 all_goals (try rfl)
theorem Fd {X:Ctx}{d:Option Nat}{K:V->St->Option R}:opT X lo d ty o σ K=(AD X lo d ty o σ).bind λp=>K p.1 p.2:=by unfold AD;rw[LY];rfl
theorem QK {X:Ctx}{d:Option Nat}{K:V->St->Option R}{r:R} (h:opT X lo d ty o σ K=some r):∃ v σ',AD X lo d ty o σ=some (v,σ')/\K v σ'=some r:=by
 rw[Fd] at h;cases hs:AD X lo d ty o σ with
 | none=>rw[hs] at h;cases h
 | some p=>rw[hs] at h;exact ⟨p.1,p.2,rfl,h⟩
end
end Go.Proofs.YtoocmbhkaghgnaaGreat.T
