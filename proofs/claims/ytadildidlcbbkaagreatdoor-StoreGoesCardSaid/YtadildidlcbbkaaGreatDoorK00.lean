/- A part of the proof of StoreGoesCardSaid. -/
import Derived.KernelRfl
import Derived.WalkKit
import Derived.WalkSpells
import Derived.WalkLawsBesides
import Derived.Deep.Quiet
import Derived.MapKept
import Derived.Laws.BytesString
import Derived.Laws.Cells
import Derived.Maps.AppendAt
set_option linter.all false
namespace Go
theorem ae {p:Prop}(h:p:=by exact fun i hi => Nat.lt_of_lt_of_le hi (Nat.le_of_ble_eq_true rfl)):p:=h
theorem ah.{u} {α:Type u}{a b:α}(h:a=b:=by kernel_rfl):some a=some b:=congrArg some h
theorem ai {p:Prop}[Decidable p](h:¬p:=by omega):decide p=false:=decide_eq_false h
theorem aj {p:Prop}[Decidable p](h:p:=by omega):decide p=true:=decide_eq_true h
theorem ak {p:Prop}(h:p:=by intro _ _ h; exact h):p:=h
theorem an {p:Prop}(h:p:=by simp only; omega):p:=h
theorem aq {p:Prop}(h:p:=by simp; omega):p:=h
theorem au {p:Prop}(h:p:=by kernel_rfl):p:=h
theorem ax {p:Prop}(h:p:=by decide):p:=h
theorem az {p:Prop}(h:p:=by omega):p:=h
theorem aA {p:Prop}(h:p:=by simp):p:=h
abbrev aB:=@List.length_cons
abbrev aC:=@List.getElem?_eq_getElem
abbrev aD:=@List.length_map
abbrev aE:=@List.mem_append
abbrev aF:=@List.mem_cons
abbrev aG:=@Bool.and_eq_true
abbrev aH:=@List.mem_singleton
abbrev aI:=@List.length_append
abbrev aJ:=@ByteArray.size_append
abbrev aK:=@List.mem_cons_of_mem
abbrev aL:=@Nat.le_refl
abbrev aM:=@List.length_nil
abbrev aN:=@Int.natCast_nonneg
abbrev aO:=@List.getElem?_eq_some_iff
abbrev aP:=@List.map_append
abbrev aQ:=@Nat.zero_le
abbrev aR:=@List.getElem_mem
abbrev aS:=@List.append_assoc
abbrev aT:=@List.take_length
abbrev aU:=@List.getElem?_append_right
abbrev aV:=@Option.some.injEq
abbrev aW:=@Array.getElem?_eq_some_iff
abbrev aX:=@List.mem_flatMap
abbrev aY:=@List.length_take
abbrev aZ:=@List.append_nil
abbrev a6:=@List.take_succ_eq_append_getElem
abbrev a7:=@Bool.false_eq_true
abbrev a8:=@List.nodup_append
abbrev a_:=@Nat.lt_of_lt_of_le
abbrev ba:=@List.mem_map
abbrev bb:=@List.map_cons
abbrev bc:=@List.getElem?_append_left
abbrev bf:=@List.mem_cons_self
abbrev bg:=@List.getElem?_map
abbrev bh:=@List.pairwise_cons
abbrev bj:=@Int.toNat_natCast
abbrev bn:=@Array.getD_eq_getD_getElem?
abbrev bo:=@List.getElem?_drop
abbrev bp:=@List.mem_of_getElem?
abbrev bq:=@Int.ofNat_lt
abbrev br:=@Option.some.inj
abbrev bu:=@Array.length_toList
abbrev bw:=@List.length_drop
abbrev bx:=@List.take_add_one
abbrev bz:=@List.getElem_of_mem
abbrev bA:=@Nat.le_of_ble_eq_true
abbrev bB:=@ByteArray.append_assoc
abbrev bC:=@List.foldl_cons
abbrev bD:=@List.getElem?_take
abbrev bE:=@Nat.le_trans
abbrev bF:=@List.mem_filter
abbrev bG:=@Bool.not_eq_true'
abbrev bH:=@Nat.mul_le_mul_right
abbrev bI:=@List.getElem?_eq_none
abbrev bJ:=@List.nodup_cons
abbrev bK:=@Prod.mk.injEq
abbrev bM:=@Bool.false_ne_true
abbrev bN:=@List.foldl_append
abbrev bO:=@Bool.or_eq_false_iff
abbrev bP:=@Nat.zero_lt_succ
abbrev bQ:=@ByteArray.data_append
abbrev bR:=@List.map_map
abbrev bT:=@List.pairwise_iff_getElem
abbrev bU:=@List.eq_nil_of_length_eq_zero
abbrev bV:=@List.filter_cons
abbrev bX:=@Nat.lt_succ_iff_lt_or_eq
abbrev bY:=@Int.le_refl
abbrev bZ:=@List.length_filter_le
abbrev b8:=@Nat.add_zero
abbrev b9:=@List.mem_of_mem_take
abbrev b_:=@List.cons_append
abbrev ca:=@List.length_eq_zero_iff
abbrev cc:=@List.mem_map_of_mem
abbrev cd:=@List.map_congr_left
abbrev cf:=@Nat.not_lt_zero
abbrev cg:=@Nat.add_mul
abbrev cj:=@List.take_append_drop
abbrev ck:=@List.findIdx?_eq_some_iff_getElem
abbrev cm:=@List.length_pos_iff
abbrev cn:=@List.drop_eq_getElem_cons
abbrev cp:=@Bool.eq_iff_iff
abbrev cq:=@Nat.min_eq_left
abbrev cr:=@List.size_toArray
abbrev cu:=@Option.map_eq_some_iff
abbrev cv:=@List.take_of_length_le
abbrev cw:=@ByteArray.data_extract
abbrev cy:=@Nat.zero_add
abbrev cz:=@Array.getElem?_modify
abbrev cA:=@List.getElem?_of_mem
abbrev cB:=@Nat.shiftRight_eq_div_pow
abbrev cC:=@Option.map_some
abbrev cD:=@List.filter_eq_self
abbrev cE:=@ByteArray.ext
abbrev cF:=@List.mem_of_mem_drop
abbrev cG:=@List.pairwise_append
abbrev cH:=@List.filter_append
abbrev cI:=@Nat.mod_eq_of_lt
abbrev cJ:=@ByteArray.size_extract
abbrev cK:=@List.sum_cons
abbrev cL:=@Option.isSome_iff_exists
abbrev cM:=@Nat.le_of_eq
abbrev cN:=@List.map_nil
abbrev cO:=@UInt8.toNat_ofNat'
abbrev cP:=@Nat.add_sub_cancel
abbrev cQ:=@BitVec.ofInt_natCast
abbrev cR:=@List.getD_eq_getElem?_getD
abbrev cT:=@List.ext_getElem?
abbrev cU:=@Option.toList_some
abbrev cV:=@BitVec.toNat_ofNat
abbrev cW:=@List.all_eq_true
abbrev cX:=@Nat.mul_one
abbrev cY:=@Bool.true_and
abbrev cZ:=@List.getElem?_modify
abbrev c_:=@List.map_eq_cons_iff
abbrev dd:=@List.filter_cons_of_pos
abbrev de:=@List.filter_cons_of_neg
abbrev df:=@List.filterMap_cons
abbrev dh:=@Nat.sub_self
abbrev di:=@ByteArray.empty_append
abbrev dj:=@List.filter_eq_nil_iff
abbrev dm:=@List.not_mem_nil
abbrev dp:=@List.any_eq_true
abbrev dq:=@Array.getElem?_toList
abbrev dt:=@List.perm_append_comm
abbrev du:=@Bool.and_false
abbrev dv:=@Bool.not_eq_false'
abbrev dw:=@Array.getElem?_eq_getElem
abbrev dx:=@Nat.blt_eq
abbrev dy:=@List.nil_append
abbrev dz:=@Array.toList_extract
abbrev dA:=@List.forall_mem_cons
abbrev dB:=@List.flatMap_cons
abbrev dC:=@List.drop_append_of_le_length
abbrev dD:=@List.prefix_iff_eq_take
abbrev dE:=@List.pairwise_singleton
abbrev dF:=@List.drop_length
abbrev dG:=@Option.map_none
abbrev dH:=@List.filterMap_append
abbrev dI:=@Bool.and_self
abbrev dJ:=@Int.fdiv_eq_ediv_of_nonneg
abbrev dK:=@List.isPrefixOf_iff_prefix
abbrev dL:=@List.any_eq_false
abbrev dM:=@List.getLast?_eq_none_iff
abbrev dN:=@List.findIdx?_eq_none_iff
abbrev dO:=@List.drop_drop
abbrev dP:=@Option.getD_some
abbrev dQ:=@List.perm_middle
abbrev dR:=@Array.toList_append
abbrev dS:=@Array.getElem?_setIfInBounds_ne
abbrev dU:=@Bool.not_true
abbrev dV:=@Array.eq_empty_of_size_eq_zero
abbrev dW:=@Array.ext
abbrev dX:=@List.findIdx?_cons
abbrev dY:=@List.filterMap_nil
abbrev dZ:=@List.getElem?_set_self
abbrev d_:=@List.getElem_cons_zero
abbrev ee:=@List.map_eq_append_iff
abbrev eu:=@List.take_append_of_le_length
abbrev ez:=@List.filter_congr
abbrev eB:=@List.getElem_take
abbrev eC:=@List.foldl_nil
abbrev eD:=@Bool.not_false
abbrev eE:=@List.mem_range
abbrev eF:=@List.take_zero
abbrev eH:=@UInt8.lt_iff_toNat_lt
abbrev eI:=@Nat.two_pow_add_eq_or_of_lt
abbrev eJ:=@Nat.lt_succ_self
abbrev eK:=@Nat.mod_lt
abbrev eM:=@List.getElem?_set_ne
abbrev eN:=@Array.getElem_toList
abbrev eO:=@List.mem_append_left
abbrev eP:=@Nat.pow_le_pow_right
abbrev eQ:=@Array.getElem?_append_left
abbrev eS:=@Nat.mod_two_eq_zero_or_one
abbrev eT:=@Array.toList_setIfInBounds
abbrev eU:=@Int.tdiv_eq_ediv_of_nonneg
abbrev eV:=@List.map_eq_nil_iff
abbrev eW:=@List.flatten_append
abbrev eX:=@List.length_set
abbrev eY:=@UInt8.toNat_inj
abbrev eZ:=@List.take_left'
abbrev e_:=@List.filter_nil
abbrev fa:=@List.getLast?_eq_some_iff
abbrev fb:=@Nat.mul_comm
abbrev fc:=@Array.ext_getElem?
abbrev fe:=@List.mem_filterMap
abbrev ff:=@Bool.or_true
abbrev fg:=@Nat.lt_of_le_of_lt
abbrev fh:=@List.take_take
abbrev fi:=@Bool.false_and
abbrev fj:=@Option.map_eq_map
abbrev fk:=@Array.findIdx?_eq_some_iff_getElem
abbrev fm:=@Array.size_append
abbrev fq:=@List.pairwise_map
abbrev ft:=@Array.getElem?_eq_none
abbrev fu:=@List.drop_of_length_le
abbrev fw:=@List.drop_eq_nil_of_le
abbrev fA:=@List.takeWhile_sublist
abbrev fB:=@Nat.add_assoc
abbrev fC:=@List.mem_reverse
abbrev fD:=@Nat.testBit_eq_decide_div_mod_eq
abbrev fE:=@ByteArray.extract_append_extract
abbrev fF:=@Nat.min_eq_right
abbrev fG:=@Nat.eq_of_beq_eq_true
abbrev fH:=@Bool.and_eq_false_iff
abbrev fI:=@BitVec.toNat_or
abbrev fJ:=@Nat.pow_succ
abbrev fK:=@List.range_succ
abbrev fL:=@List.mem_iff_getElem
abbrev fM:=@List.map_set
abbrev fO:=@List.getElem?_range
abbrev fP:=@List.take_succ_cons
abbrev fQ:=@List.nodup_nil
abbrev fR:=@List.Perm.refl
abbrev fS:=@Nat.sub_mul
abbrev fT:=@Nat.one_mul
abbrev fU:=@Prod.mk.inj
abbrev fV:=@Array.getElem?_map
abbrev fW:=@ByteArray.extract_zero_size
abbrev fX:=@List.mem_mergeSort
abbrev fY:=@Bool.or_false
abbrev fZ:=@List.map_take
abbrev f_:=@Nat.lt_trichotomy
abbrev gf:=@Nat.or_lt_two_pow
abbrev gh:=@List.Sublist.refl
abbrev gj:=@Classical.not_not
abbrev gk:=@List.mem_of_find?_eq_some
abbrev gp:=@Array.mapM_eq_mapM_toList
abbrev gq:=@List.getLast?_eq_getElem?
abbrev gw:=@Array.getElem_mem_toList
abbrev gz:=@List.map_toArray
abbrev gA:=@List.getElem_map
abbrev gB:=@Nat.beq_refl
abbrev gC:=@BitVec.toNat_and
abbrev gD:=@List.flatMap_nil
abbrev gE:=@List.take_append_getElem
abbrev gF:=@Nat.le_mul_of_pos_right
abbrev gG:=@List.eraseIdx_cons_zero
abbrev gH:=@List.eraseIdx_cons_succ
abbrev gI:=@List.getElem?_cons_succ
abbrev gJ:=@List.Perm.flatMap_right
abbrev gK:=@Nat.add_sub_cancel_left
abbrev gL:=@List.pairwise_mergeSort
abbrev gM:=@List.find?_some
abbrev gN:=@List.any_append
abbrev gO:=@List.cons.injEq
abbrev gP:=@Nat.min_def
abbrev gQ:=@Nat.le_succ
abbrev gR:=@List.take_left
abbrev gS:=@List.any_cons
abbrev gT:=@Bool.and_true
abbrev gU:=@List.map_drop
theorem A0z {p:Prop}(h:p:=by repeat' (first|exact rfl|exact trivial|constructor)):p:=h
theorem m9 {p:Prop}(h:p:=by simp<;>omega):p:=h
theorem m8 {p:Prop}(h:p:=by dsimp only;omega):p:=h
theorem m7 {p:Prop}(h:p:=by decide+kernel):p:=h
theorem m6 {p:Prop}(h:p:=by rfl):p:=h
end Go
namespace Go.GK
open Go Go.RowKit IntKind
inductive GV where
 |v (x:Value)
 |b (c:Bool)
 |p (id off:Nat)
 |e (id sz i off:Nat)
 |o (id:Nat)
 |r (cs:List GV)
 |sl (sz:Nat) (rows:List (List GV))
 |agg (cs:List GV)
 |tup (xs:List GV)
 |fn (f:Fn) (first caps:List GV)
 |ifc (t:TypeId) (x:GV)
 deriving Inhabited
abbrev Env:=List (Nat×GV)
def look:Env->Nat->Option GV
 | [],_=>none
 | (s,g)::r,t=>bif Nat.beq s t then some g else look r t
structure wk where
 P:(Nat->Option Obj)->Nat->Value->World->Prop
 fp:List Nat
 ex:∀ro b v w,P ro b v w->∀c∈fp,c<w.heap.size
 congr:∀ro b v w w',(∀c∈fp,w'.heap[c]? =w.heap[c]?)->P ro b v w->P ro b v w'
 mono:∀ro ro' b v w,(∀c o,ro c=some o->ro' c=some o)->P ro b v w->P ro' b v w
inductive hY where
 |hZ (ty:TypeId) (cs:List GV)
 |row (ty sz:Nat) (rows:List (List GV))
 |ob (o:Obj)
 |ln (sz n:Nat)
 |sub (id sz lo n:Nat)
 |mp (kd:Option IntKind) (es:List (Value×GV))
 |mr (kd:Option IntKind) (es:List (Value×GV)) (left:List Value) (cur:Option Value)
 |itr (it:Nat)
 |me (kd:Option IntKind) (es:List (Value×GV)) (k:Value) (st:Nat)
 |mre (kd:Option IntKind) (es:List (Value×GV)) (left:List Value) (cur:Option Value) (k:Value) (st:Nat)
 |ab (A:wk)
 deriving Inhabited
abbrev Heap:=List (Nat×hY)
def gW:Heap->Nat->Option hY
 | [],_=>none
 | (s,g)::r,t=>bif Nat.beq s t then some g else gW r t
def jh:Heap->Nat->hY->Heap
 | [],_,_=>[]
 | (s,g)::r,t,x=>bif Nat.beq s t then (s,x)::r else (s,g)::jh r t x
def jQ:Heap->Nat->Heap
 | [],_=>[]
 | (s,g)::r,t=>bif Nat.beq s t then r else (s,g)::jQ r t
structure St where
 ρ:Env
 σ:Heap
 n:Nat
inductive TD where
 |int (k:IntKind)|bool|str
 |struct (fs:List (Nat×Nat×Bool))
 |slice (e:TypeId)
 |array (len:Nat) (e:TypeId)
 |iface (m:Bool)
 |map (k e:TypeId)
 |ptr|other
inductive MN where
 |int|str|bool
structure TI where
 sz:Nat
 by_:Nat
 ag:Bool
 zero:List Value
 d:TD
 eqk:Option (List MN):=none
abbrev TT:=List (Nat×TI)
def jv:TT->Nat->Option TI
 | [],_=>none
 | (s,g)::r,t=>bif Nat.beq s t then some g else jv r t
structure Pg where
 P:Program
 tt:TT
 gl:Env
def ev(p:Pg)(ρ:Env):Operand->Option GV
 | .tmp t=>look ρ t
 | .const v=>some (.v v)
 | .global g=>look p.gl g
 | .func f=>some (.fn (.func f) [] [])
def qR(p:Pg)(ρ:Env):List Operand->Option (List GV)
 | []=>some []
 |x::r=>match ev p ρ x,qR p ρ r with
  |some g,some gs=>some (g::gs)
  |_,_=>none
mutual
def iy(n:Nat):GV->Bool
 | .p id _=>Nat.blt id n
 | .e id _ _ _=>Nat.blt id n
 | .o id=>Nat.blt id n
 | .agg cs=>im n cs
 | .tup cs=>im n cs
 | .fn _ aas cs=>im n aas&&im n cs
 | .ifc _ x=>iy n x
 | .v _=>true
 | .b _=>true
 | .r _=>true
 | .sl _ _=>true
def im(n:Nat):List GV->Bool
 | []=>true
 |g::r=>iy n g&&im n r
end
def vN(x:Option GV)(K:GV->Prop):Prop:=match x with|some g=>K g|none=>False
def one:GV->Bool
 | .v x=>x.oneCell'
 | .agg _| .tup _=>false
 |_=>true
def cellsOf:GV->List GV
 | .agg cs=>cs
 | .v (.agg cs)=>cs.toList.map .v
 |g=>[g]
def pS:List GV->Bool
 | []=>true
 |g::r=>bif one g then pS r else false
def kh(op:BinOp)(k:IntKind)(x y:Int):Int:=
 let a:=BitVec.ofInt k.bits x
 let b:=BitVec.ofInt k.bits y
 match op with
 | .and=>k.wrap (a&&& b).toNat
 | .or=>k.wrap (a|||b).toNat
 | .xor=>k.wrap (a^^^b).toNat
 |_=>k.wrap (a&&& ~~~b).toNat
def arith(op:BinOp)(k:IntKind)(m n:Int)(K:GV->Prop):Prop:=
 match op with
 | .add=>K (.v (.int k (k.wrap (m+n))))
 | .sub=>K (.v (.int k (k.wrap (m-n))))
 | .mul=>K (.v (.int k (k.wrap (m*n))))
 | .quo=>n≠0/\K (.v (.int k (k.wrap (m.tdiv n))))
 | .rem=>n≠0/\K (.v (.int k (m.tmod n)))
 | .and=>K (.v (.int k (kh .and k m n)))
 | .or=>K (.v (.int k (kh .or k m n)))
 | .xor=>K (.v (.int k (kh .xor k m n)))
 | .andNot=>K (.v (.int k (kh .andNot k m n)))
 | .eql=>K (.b (m==n))
 | .neq=>K (.b (m != n))
 | .lss=>K (.b (decide (m<n)))
 | .leq=>K (.b (decide (m<=n)))
 | .gtr=>K (.b (decide (m>n)))
 | .geq=>K (.b (decide (m>=n)))
 |_=>False
def K4(op:BinOp)(x y:ByteArray)(K:GV->Prop):Prop:=
 match op with
 | .add=>x.size+y.size<=4611686018427387904/\K (.v (.string (x++y)))
 | .eql=>K (.b (x.toList==y.toList))
 | .neq=>K (.b (!(x.toList==y.toList)))
 | .lss=>K (.b (Op.bytesLess x.toList y.toList))
 | .leq=>K (.b (Op.bytesLess x.toList y.toList||x.toList==y.toList))
 | .gtr=>K (.b (!(Op.bytesLess x.toList y.toList||x.toList==y.toList)))
 | .geq=>K (.b (!Op.bytesLess x.toList y.toList))
 |_=>False
def sn:IntKind->Nat
 | .i8=>0| .i16=>1| .i32=>2| .i64=>3| .u8=>4| .u16=>5| .u32=>6| .u64=>7
def FJ(op:BinOp)(x y:GV)(K:GV->Prop):Prop:=
 match x,y with
 | .v (.int k m),.v (.int j n)=>
  match op with
  | .shl=>0<=n/\K (.v (.int k (k.wrap (m*2^ (min n.toNat k.bits)))))
  | .shr=>0<=n/\K (.v (.int k (m.fdiv (2^ (min n.toNat k.bits)))))
  |op=>bif Nat.beq (sn k) (sn j) then arith op k m n K else False
 | .v (.string a),.v (.string b)=>K4 op a b K
 |_,_=>False
def pw(op:BinOp)(c:Bool)(K:GV->Prop):Prop:=
 match op with
 | .eql=>K (.b c)
 | .neq=>K (.b (!c))
 |_=>False
def xA:List MN->List GV->List GV->Option Bool
 | [],_,_=>some true
 | .int::ks,.v (.int k a)::xs,.v (.int j b)::ys=>bif Nat.beq (sn k) (sn j) then (match xA ks xs ys with|some r=>some ((a==b)&&r)|none=>none) else none
 | .str::ks,.v (.string a)::xs,.v (.string b)::ys=>(match xA ks xs ys with|some r=>some ((a.toList==b.toList)&&r)|none=>none)
 | .bool::ks,.b a::xs,.b b::ys=>(match xA ks xs ys with|some r=>some ((a==b)&&r)|none=>none)
 |_,_,_=>none
def G2:Operand->Bool
 | .const _=>true
 |_=>false
def O4(p:Pg)(σ:Heap)(op:BinOp)(t:TypeId)(c:Bool)(x y:GV)(K:GV->Prop):Prop:=
 match jv p.tt t with
 |some ti=>match ti.d,x,y with
  | .iface _,.ifc _ _,.v .nilIface=>pw op false K
  | .iface _,.v .nilIface,.ifc _ _=>pw op false K
  | .iface _,.v .nilIface,.v .nilIface=>bif c then pw op true K else False
  | .ptr,.v (.pointer none),.v (.pointer none)=>pw op true K
  | .ptr,.p _ _,.v (.pointer none)=>pw op false K
  | .ptr,.v (.pointer none),.p _ _=>pw op false K
  | .ptr,.v (.pointer none),.r _=>pw op false K
  | .map _ _,.v (.map none),.v (.map none)=>pw op true K
  | .map _ _,.o id,.v (.map none)=>(match gW σ id with
   |some (.mp _ _)=>pw op false K
   |some (.itr _)=>pw op false K
   |_=>False)
  | .ptr,.r _,.v (.pointer none)=>pw op false K
  | .bool,.b a,.b b=>pw op (a==b) K
  | .bool,.b a,.v (.bool b)=>pw op (a==b) K
  | .bool,.v (.bool a),.b b=>pw op (a==b) K
  | .bool,.v (.bool a),.v (.bool b)=>pw op (a==b) K
  | .struct _,.agg xs,.agg ys=>(match ti.eqk with
   |some ks=>(match xA ks xs ys with
    |some r=>pw op r K
    |none=>False)
   |none=>False)
  |_,_,_=>False
 |none=>False
def vo(p:Pg)(ρ:Env)(dflt:Int):Option Operand->Option Int
 |none=>some dflt
 |some x=>match ev p ρ x with
  |some (.v (.int _ n))=>some n
  |_=>none
def jX(b:UInt8):List GV:=[.v (.int .u8 (b.toNat:Int))]
def y9(tt:TT)(t:TypeId):Bool:=match jv tt t with
 |some {d:=.slice e,.. }=>(match jv tt e with
  |some {d:=.int .u8,.. }=>true
  |_=>false)
 |_=>false
def iA:Value->Value->Bool
 | .int _ a,.int _ b=>a==b
 | .string a,.string b=>a==b
 |_,_=>false
def iq:Option IntKind->Value->Bool
 |some k,.int j _=>Nat.beq (sn k) (sn j)
 |none,.string _=>true
 |_,_=>false
def BD:TD->Option (Option IntKind)
 | .int k=>some (some k)
 | .str=>some none
 |_=>none
def qT:Option IntKind->Option IntKind->Bool
 |none,none=>true
 |some a,some b=>Nat.beq (sn a) (sn b)
 |_,_=>false
def jl(k:Value):List (Value×GV)->Option GV
 | []=>none
 | (k',g)::r=>if iA k k'=true then some g else jl k r
def jB(k:Value)(g:GV):List (Value×GV)->List (Value×GV)
 | []=>[(k,g)]
 | (k',g')::r=>if iA k k'=true then (k,g)::r else (k',g')::jB k g r
def nM(k:Value):List (Value×GV)->List (Value×GV)
 | []=>[]
 | (k',g')::r=>if iA k k'=true then r else (k',g')::nM k r
def sS(k:Value):List Value->List Value
 | []=>[]
 |k'::r=>if iA k k'=true then r else k'::sS k r
def mapOf(σ:Heap):GV->Option (Option IntKind×List (Value×GV))
 | .o id=>match gW σ id with
  |some (.mp kd es)=>some (kd,es)
  |some (.itr m)=>(match gW σ m with
   |some (.mr kd es _ _)=>some (kd,es)
   |_=>none)
  |_=>none
 |_=>none
def FF(ti:TI):Option GV:=bif ti.ag then some (.agg (ti.zero.map .v)) else match ti.zero with| [z]=>some (.v z)|_=>none
def QA(c:Bool)(g:GV)(b:Bool):GV:=bif c then .tup [g,.v (.bool b)] else g
def pv(p:Pg)(ρ:Env)(σ:Heap)(o:Op)(K:GV->Prop):Prop:=
 match o with
 | .move x| .assign x=>vN (ev p ρ x) K
 | .pick c a b=>match ev p ρ c with
  |some (.v (.bool t))=>vN ((bif t then ev p ρ a else ev p ρ b)) K
  |some (.b t)=>(t=true->vN (ev p ρ a) K)/\(t=false->vN (ev p ρ b) K)
  |_=>False
 | .binOp op t x y _=>match ev p ρ x,ev p ρ y with
  |some (.v (.int k m)),some (.v (.int j n))=>FJ op (.v (.int k m)) (.v (.int j n)) K
  |some (.v (.string a)),some (.v (.string b))=>FJ op (.v (.string a)) (.v (.string b)) K
  |some gx,some gy=>O4 p σ op t (G2 x||G2 y) gx gy K
  |_,_=>False
 | .unOp op _ x=>match op,ev p ρ x with
  | .not,some (.b t)=>K (.b (!t))
  | .not,some (.v (.bool t))=>K (.v (.bool (!t)))
  | .neg,some (.v (.int k n))=>K (.v (.int k (k.wrap (0-n))))
  |_,_=>False
 | .extract x i=>match ev p ρ x with
  |some (.tup xs)=>vN (xs[i]?) K
  |_=>False
 | .fieldAddr s x f=>match jv p.tt s with
  |some {d:=.struct fs,.. }=>(match fs[f]? with
   |some (off,sz,_)=>bif Nat.beq sz 0 then False else (match ev p ρ x with
    |some (.p id o)=>K (.p id (o+off))
    |some (.e id z i o)=>K (.e id z i (o+off))
    |some (.r cs)=>K (.r (cs.drop off))
    |_=>False)
   |none=>False)
  |_=>False
 | .field s x f=>match jv p.tt s with
  |some {d:=.struct fs,.. }=>(match fs[f]?,ev p ρ x with
   |some (off,sz,ag),some (.agg cs)=>bif ag then (bif Nat.ble (off+sz) cs.length then K (.agg ((cs.drop off).take sz)) else False) else vN (cs[off]?) K
   |_,_=>False)
  |_=>False
 | .indexAddr t x ix=>match jv p.tt t with
  |some {d:=.slice e,.. }=>(match jv p.tt e with
   |some ti=>(match ev p ρ x,ev p ρ ix with
    |some (.sl z rows),some (.v (.int _ i))=>bif Nat.beq z ti.sz then (∃row,0<=i/\rows[i.toNat]? =some row/\K (.r row)) else False
    |some (.o id),some (.v (.int _ i))=>(match gW σ id with
     |some (.row _ z rows)=>bif Nat.beq z ti.sz then (0<=i/\i<rows.length/\K (.e id z i.toNat 0)) else False
     |some (.ln z n)=>bif Nat.beq z ti.sz then (0<=i/\i<n/\K (.e id z i.toNat 0)) else False
     |_=>False)
    |_,_=>False)
   |none=>False)
  |some {d:=.array len e,.. }=>(match jv p.tt e with
   |some ti=>(match ev p ρ x,ev p ρ ix with
    |some (.p id off),some (.v (.int _ i))=>0<=i/\i<len/\K (.p id (off+i.toNat*ti.sz))
    |some (.r cs),some (.v (.int _ i))=>0<=i/\i<len/\K (.r (cs.drop (i.toNat*ti.sz)))
    |_,_=>False)
   |none=>False)
  |_=>False
 | .index t x ix=>match jv p.tt t with
  |some {d:=.str,.. }=>(match ev p ρ x,ev p ρ ix with
   |some (.v (.string s)),some (.v (.int _ i))=>∃b,0<=i/\s[i.toNat]? =some b/\K (.v (.int .u8 (b.toNat:Int)))
   |_,_=>False)
  |some {d:=.array len e,.. }=>(match jv p.tt e with
   |some ti=>bif Nat.beq ti.sz 1&& !ti.ag then (match ev p ρ x,ev p ρ ix with
    |some (.agg cs),some (.v (.int _ i))=>∃g,0<=i/\i<len/\cs[i.toNat]? =some g/\K g
    |_,_=>False) else False
   |none=>False)
  |_=>False
 | .slice t x lo hi none=>match jv p.tt t with
  |some {d:=.str,.. }=>(match ev p ρ x with
   |some (.v (.string s))=>(match vo p ρ 0 lo,vo p ρ s.size hi with
    |some l,some h=>0<=l/\l<=h/\h<=s.size/\K (.v (.string (s.extract l.toNat h.toNat)))
    |_,_=>False)
   |_=>False)
  |some {d:=.slice e,.. }=>(match jv p.tt e with
   |some ti=>(match ev p ρ x with
    |some (.sl z rows)=>bif Nat.beq z ti.sz then (match vo p ρ 0 lo,vo p ρ rows.length hi with
     |some l,some h=>0<=l/\l<=h/\h<=rows.length/\K (.sl z ((rows.take h.toNat).drop l.toNat))
     |_,_=>False) else False
    |some (.v (.slice none 0 0))=>(match vo p ρ 0 lo,vo p ρ 0 hi with
     |some l,some h=>l=0/\h=0/\K (.v (.slice none 0 0))
     |_,_=>False)
    |_=>False)
   |none=>False)
  |_=>False
 | .convert t u x=>match jv p.tt u,ev p ρ x with
  |some {d:=.int k,.. },some (.v (.int _ n))=>(match jv p.tt t with
   |some {d:=.int _,.. }=>K (.v (.int k (k.wrap n)))
   |_=>False)
  |some {d:=.str,.. },some (.v (.string s))=>(match jv p.tt t with
   |some {d:=.str,.. }=>K (.v (.string s))
   |_=>False)
  |some {d:=.str,.. },some (.o id)=>(bif y9 p.tt t then (match gW σ id with
   |some (.row _ z rows)=>bif Nat.beq z 1 then (∃s:List UInt8,rows=s.map jX/\K (.v (.string ⟨s.toArray⟩))) else False
   |_=>False) else False)
  |some {d:=.str,.. },some (.sl z rows)=>(bif y9 p.tt t then (bif Nat.beq z 1 then (∃s:List UInt8,rows=s.map jX/\K (.v (.string ⟨s.toArray⟩))) else False) else False)
  |some {d:=.str,.. },some (.v (.slice none 0 0))=>(bif y9 p.tt t then K (.v (.string ⟨#[]⟩)) else False)
  |_,_=>False
 | .lookup t x ix c=>match jv p.tt t with
  |some {d:=.map kt et,.. }=>(match jv p.tt kt,jv p.tt et with
   |some kti,some eti=>(match BD kti.d,FF eti,ev p ρ x,ev p ρ ix with
    |some kd,some z,some (.v (.map none)),some (.v kv)=>bif iq kd kv then K (QA c z false) else False
    |some kd,some z,some gm,some (.v kv)=>bif iq kd kv then (match mapOf σ gm with
     |some (kd',es)=>bif qT kd kd' then ((∀g,jl kv es=some g->K (QA c g true))/\(jl kv es=none->K (QA c z false))) else False
     |none=>False) else False
    |_,_,_,_=>False)
   |_,_=>False)
  |_=>False
 | .entry x=>match ev p ρ x with
  |some (.p it 0)=>(match gW σ it with
   |some (.mr _ es _ (some k))=>∃g,jl k es=some g/\K (.tup [.v k,g])
   |_=>False)
  |_=>False
 | .makeFunc fn first caps=>match qR p ρ first.toList,qR p ρ caps.toList with
  |some aas,some cs=>K (.fn fn aas cs)
  |_,_=>False
 | .nilCheck x=>match ev p ρ x with
  |some (.p id off)=>K (.p id off)
  |some (.e id sz i off)=>K (.e id sz i off)
  |some (.r cs)=>K (.r cs)
  |_=>False
 | .load t x=>match jv p.tt t,ev p ρ x with
  |some ti,some (.p id off)=>(match gW σ id with
   |some (.hZ _ cs)=>bif ti.ag then (bif Nat.ble (off+ti.sz) cs.length then K (.agg ((cs.drop off).take ti.sz)) else False) else vN (cs[off]?) K
   |_=>False)
  |some ti,some (.e id sz i off)=>(match gW σ id with
   |some (.row _ z rows)=>bif Nat.beq z sz then (∃row,rows[i]? =some row/\(bif ti.ag then (bif Nat.ble (off+ti.sz) sz then K (.agg ((row.drop off).take ti.sz)) else False) else vN (row[off]?) K)) else False
   |_=>False)
  |some ti,some (.r cs)=>bif ti.ag then (bif Nat.ble ti.sz cs.length then K (.agg (cs.take ti.sz)) else False) else vN (cs[0]?) K
  |_,_=>False
 | .makeInterface t x=>match jv p.tt t,ev p ρ x with
  |some {d:=.iface _,.. },_=>False
  |some _,some g=>K (.ifc t g)
  |_,_=>False
 | .call {callee:=.builtin .len,args:=args,argTypes:=ts}=>match (match ts.toList with| [t]=>jv p.tt t|_=>none),qR p ρ args.toList with
  |some {d:=.str,.. },some [.v (.string s)]=>K (.v (.int .i64 s.size))
  |some {d:=.slice _,.. },some [.sl _ rows]=>K (.v (.int .i64 rows.length))
  |some {d:=.slice _,.. },some [.v (.slice _ n _)]=>K (.v (.int .i64 n))
  |some {d:=.slice _,.. },some [.o id]=>(match gW σ id with
   |some (.row _ _ rows)=>K (.v (.int .i64 rows.length))
   |some (.ln _ n)=>K (.v (.int .i64 n))
   |some (.sub _ _ _ n)=>K (.v (.int .i64 n))
   |_=>False)
  |some {d:=.map _ _,.. },some [.v (.map none)]=>K (.v (.int .i64 0))
  |some {d:=.map _ _,.. },some [.o id]=>(match mapOf σ (.o id) with
   |some (_,es)=>K (.v (.int .i64 es.length))
   |none=>False)
  |_,_=>False
 | .call {callee:=.builtin .min,args:=args,.. }=>match qR p ρ args.toList with
  |some [.v (.int k x),.v (.int _ y)]=>K (.v (.int k (if y<x then y else x)))
  |_=>False
 | .call {callee:=.builtin .max,args:=args,.. }=>match qR p ρ args.toList with
  |some [.v (.int k x),.v (.int _ y)]=>K (.v (.int k (if y>x then y else x)))
  |_=>False
 |_=>False
inductive It where
 |code (c:Code)
 |hZ (id:Nat)
 |ops (q:Bool) (all:List Oper) (rest:List Oper)
abbrev jz:=Exit->St->Prop
def exitTo:Nat->List It->Option (List It)
 |_,[]=>none
 |id,.hZ j::k=>bif Nat.beq id j then some k else exitTo id k
 |id,_::k=>exitTo id k
def oG:Op->Bool
 | .alloc _| .box .. | .store .. | .buildSlice .. | .build .. =>false
 | .makeMap .. | .mapUpdate .. | .range .. | .next .. | .mapEntry .. | .entryStore .. | .insert .. | .makeSlice .. =>false
 | .call {callee:=.builtin .append,.. }=>false
 | .call {callee:=.builtin .delete,.. }=>false
 | .call {callee:=.value _,.. }=>false
 |_=>true
def DS:List Oper->Bool
 | []=>true
 |o::r=>bif oG o.op then DS r else false
structure Hid where
 ro:Nat->Option Obj
 bl:Nat->Nat
 sv:Nat->Value
 n:Nat
def pn(ro:Nat->Option Obj)(a:Addr):Option Value:=
 match ro a.block with
 |some (.cells c _ _)=>if a.spot.isSome then none else c[a.off]?
 |_=>none
inductive jM (ro:Nat->Option Obj):GV->Value->Prop
 |v (x:Value):jM ro (.v x) x
 |b (c:Bool):jM ro (.b c) (.bool c)
 |r {cs:List GV} {ad:Addr} (us:Nat->Value) (h1:∀j g,cs[j]? =some g->pn ro (ad.add j)=some (us j)) (h2:∀j g,cs[j]? =some g->jM ro g (us j)):jM ro (.r cs) (.pointer (some ad))
 |slnil {sz:Nat}:jM ro (.sl sz []) (.slice none 0 0)
 |sl {sz:Nat} {rows:List (List GV)} {ad:Addr} {c:Nat} (us:Nat->Nat->Value) (h0:∀row∈rows,row.length=sz) (hc:rows.length<=c) (hm:c<=maxLen)
   (h1:∀(i:Nat) (row:List GV),rows[i]? =some row->∀(j:Nat) (g:GV),row[j]? =some g->pn ro (ad.add (i*sz+j))=some (us i j))
   (h2:∀(i:Nat) (row:List GV),rows[i]? =some row->∀(j:Nat) (g:GV),row[j]? =some g->jM ro g (us i j)) (h3:∀i j,(us i j).oneCell'=true):jM ro (.sl sz rows) (.slice (some ad) rows.length c)
 |agg {cs:List GV} {us:Array Value} (hl:cs.length=us.size) (h:∀j g,cs[j]? =some g->jM ro g (us.getD j undef)):jM ro (.agg cs) (.agg us)
 |tup {cs:List GV} {us:Array Value} (hl:cs.length=us.size) (h:∀j g,cs[j]? =some g->jM ro g (us.getD j undef)):jM ro (.tup cs) (.tuple us)
 |fn {f:Fn} {aas cs:List GV} {us vs:Array Value} (hl:aas.length=us.size) (h:∀j g,aas[j]? =some g->jM ro g (us.getD j undef)) (hl':cs.length=vs.size) (h':∀j g,cs[j]? =some g->jM ro g (vs.getD j undef)):jM ro (.fn f aas cs) (.func f us vs)
 |ifc {t:TypeId} {x:GV} {u:Value} (h:jM ro x u):jM ro (.ifc t x) (.iface t u)
def ow:Value->Bool
 | .slice _ _ _=>true
 | .map (some _)=>true
 | .int _ _=>true
 |_=>false
inductive Is (H:Hid):GV->Value->Prop
 |ro {g:GV} {u:Value} (h:jM H.ro g u):Is H g u
 |p {id off:Nat} (h:id<H.n):Is H (.p id off) (.pointer (some ⟨H.bl id,off,none⟩))
 |e {id sz i off g n c:Nat} (h:id<H.n) (hs:H.sv id=.slice (some ⟨g,0,none⟩) n c):Is H (.e id sz i off) (.pointer (some ⟨g,i*sz+off,none⟩))
 |o {id:Nat} {u:Value} (h:id<H.n) (hs:H.sv id=u) (h1:ow u=true):Is H (.o id) u
 |agg {cs:List GV} {us:Array Value} (hl:cs.length=us.size) (h:∀j g,cs[j]? =some g->Is H g (us.getD j undef)):Is H (.agg cs) (.agg us)
 |tup {cs:List GV} {us:Array Value} (hl:cs.length=us.size) (h:∀j g,cs[j]? =some g->Is H g (us.getD j undef)):Is H (.tup cs) (.tuple us)
 |fn {f:Fn} {aas cs:List GV} {us vs:Array Value} (hl:aas.length=us.size) (h:∀j g,aas[j]? =some g->Is H g (us.getD j undef)) (hl':cs.length=vs.size) (h':∀j g,cs[j]? =some g->Is H g (vs.getD j undef)):Is H (.fn f aas cs) (.func f us vs)
 |ifc {t:TypeId} {x:GV} {u:Value} (h:Is H x u):Is H (.ifc t x) (.iface t u)
structure Hid.le(H H':Hid):Prop where
 n:H.n<=H'.n
 ro:∀b o,H.ro b=some o->H'.ro b=some o
 bl:∀i,i<H.n->H'.bl i=H.bl i
 sv:∀i,i<H.n->H'.sv i=H.sv i
structure kJ(ro:Nat->Option Obj)(sz:Nat)(rows:List (List GV))(xs:List Value):Prop where
 len:xs.length=rows.length*sz
 each:∀row∈rows,row.length=sz
 is:∀(i:Nat) (row:List GV),rows[i]? =some row->∀(j:Nat) (g:GV),row[j]? =some g->∃u,xs[i*sz+j]? =some u/\jM ro g u
 one:∀u∈xs,u.oneCell'=true
def mT(H:Hid):List (Value×GV)->List MapEntry->Prop
 | [],[]=>True
 | (k,g)::r,e::s=>e.key=k/\Is H g e.val/\mT H r s
 |_,_=>False
structure kB(H:Hid)(kd:Option IntKind)(es:List (Value×GV))(arr:Array MapEntry)(clock:Nat):Prop where
 is:mT H es arr.toList
 sorts:∀e∈arr.toList,iq kd e.key=true
 st:MapKept.Stamped arr clock
def ju:Value->List Nat
 | .map (some b)=>[b]
 |_=>[]
def holds(H:Hid)(w:World):Nat×hY->Prop
 | (id,.hZ ty cs)=>∃us:Array Value,w.heap[H.bl id]? =some (.cells us ty (0,0))/\cs.length=us.size/\∀j g,cs[j]? =some g->Is H g (us.getD j undef)
 | (id,.row ty sz rows)=>∃xs,w.ownsRow 0 ty sz (H.sv id) rows.length xs/\kJ H.ro sz rows xs
 | (id,.ob o)=>w.heap[H.bl id]? =some o
 | (id,.ln _ n)=>∃A c,H.sv id=.slice A n c/\(0<n->∃g,A=some ⟨g,0,none⟩)
 | (id,.mp kd es)=>∃b arr clock,H.sv id=.map (some b)/\w.heap[b]? =some (.map arr clock)/\kB H kd es arr clock
 | (id,.mr kd es left cur)=>∃b arr clock seen,H.sv id=.map (some b)/\H.bl id≠b/\w.heap[b]? =some (.map arr clock)/\kB H kd es arr clock/\w.heap[H.bl id]? =some (.mapIter (some b) clock seen clock)/\
   left=((arr.filter λe=> !seen.contains e.born).toList.map (·.key))/\∀k,cur=some k->iq kd k=true/\∃stamp,seen.back? =some stamp/\∀e∈arr.toList,e.born=stamp↔iA k e.key=true
 | (id,.itr m)=>m<H.n/\H.sv id=H.sv m/\∃b,H.sv m=.map (some b)
 | (id,.me kd es k m)=>m<H.n/\∃b arr clock,H.sv id=.map (some b)/\w.heap[b]? =some (.map arr clock)/\kB H kd es arr clock/\iq kd k=true/\∃e∈arr.toList,e.key=k/\H.sv m=.int .i64 (e.born:Int)
 | (id,.mre kd es left cur k m)=>m<H.n/\∃b arr clock seen,H.sv id=.map (some b)/\H.bl id≠b/\w.heap[b]? =some (.map arr clock)/\kB H kd es arr clock/\w.heap[H.bl id]? =some (.mapIter (some b) clock seen clock)/\
   left=((arr.filter λe=> !seen.contains e.born).toList.map (·.key))/\(∀k,cur=some k->iq kd k=true/\∃stamp,seen.back? =some stamp/\∀e∈arr.toList,e.born=stamp↔iA k e.key=true)/\iq kd k=true/\∃e∈arr.toList,e.key=k/\H.sv m=.int .i64 (e.born:Int)
 | (id,.ab A)=>A.P H.ro (H.bl id) (H.sv id) w
 | (m,.sub id sz lo n)=>id<H.n/\∃A c,H.sv m=.slice A n c/\n<=c/\c<=maxLen/\(A=none->c=0)/\(0<n->∃g l' c',H.sv id=.slice (some ⟨g,0,none⟩) l' c'/\lo+n<=l'/\A=some ⟨g,lo*sz,none⟩)
def blocks(H:Hid):Nat×hY->List Nat
 | (id,.row _ _ _)=>(H.sv id).ownBlock.toList
 | (_,.ln _ _)=>[]
 | (_,.sub _ _ _ _)=>[]
 | (_,.itr _)=>[]
 | (id,.mp _ _)=>ju (H.sv id)
 | (id,.mr _ _ _ _)=>ju (H.sv id)++[H.bl id]
 | (id,.me _ _ _ _)=>ju (H.sv id)
 | (id,.mre _ _ _ _ _ _)=>ju (H.sv id)++[H.bl id]
 | (_,.ab A)=>A.fp
 | (id,_)=>[H.bl id]
def g_(H:Hid)(σ:Heap):List Nat:=σ.flatMap (blocks H)
structure Sat(H:Hid)(σ:Heap)(w:World):Prop where
 ro:∀b o,H.ro b=some o->w.heap[b]? =some o
 holds:∀x∈σ,holds H w x
 nodup:(g_ H σ).Nodup
 free:∀b∈g_ H σ,H.ro b=none
 ids:∀x∈σ,x.1<H.n
structure Fr(H0:Hid)(S0:List Nat)(w0:World)(H:Hid)(S:List Nat)(w:World):Prop where
 os:w.os=w0.os
 tape:w.tape=w0.tape
 output:w.output=w0.output
 size:w0.heap.size<=w.heap.size
 keep:∀b,b<w0.heap.size->b∉S0->w.heap[b]? =w0.heap[b]?
 own:∀b∈S,b∈S0\/w0.heap.size<=b
 fro:∀b,H0.ro b=none->H.ro b≠none->b∈S0\/w0.heap.size<=b
 le:H0.le H
structure iX(p:Pg)(H:Hid):Prop where
 gl:∀g gv,look p.gl g=some gv->jM H.ro gv (.pointer (some ⟨g,0,none⟩))
 ex:∀g cs,look p.gl g=some (.r cs)->∃c ty fz,H.ro g=some (.cells c ty fz)/\c.size=cs.length
instance (p:Pg)(H:Hid):CoeFun (iX p H) λ_=>∀g gv,look p.gl g=some gv->jM H.ro gv (.pointer (some ⟨g,0,none⟩)):=⟨iX.gl⟩
structure Cx where
 pg:Pg
 N:Nat
 n0:Nat
 H0:Hid
 S0:List Nat
 w0:World
 h0:H0.n=n0
 g0:iX pg H0
def jH(H:Hid)(ρ:Env)(a:Act):Prop:=∀t g,look ρ t=some g->Is H g (a.tmps.getD t undef)
structure kr(cx:Cx)(H:Hid)(ρ:Env)(a:Act):Prop where
 env:jH H ρ a
 size:a.tmps.size=cx.N
 defers:a.defers=[]
structure iQ(cx:Cx)(H:Hid)(s:St)(w:World):Prop where
 n:H.n=s.n
 sat:Sat H s.σ w
 fr:Fr cx.H0 cx.S0 cx.w0 H (g_ H s.σ) w
def post(cx:Cx)(T:jz):Exit->Act->World->Prop:=λe a w=>∃H s,iQ cx H s w/\kr cx H s.ρ a/\T e s
def cont(P:Program)(Q:Exit->Act->World->Prop):List It->Exit->Act->World->Prop
 | [],e,a,w=>Q e a w
 | .code c::k,.normal,a,w=>c.wp P (cont P Q k) a w
 | .hZ _::k,.normal,a,w=>cont P Q k .normal a w
 | .ops false all rest::k,.normal,a,w=>wpList P all.toArray (cont P Q k) rest a w
 | .ops true all rest::k,.normal,a,w=>wpQuiet P all.toArray (λw'=>Below w.heap.size w w') (λa'=>∀w',Below w.heap.size w w'->cont P Q k .normal a' w') rest a
 | .hZ id::k,.exit j,a,w=>if j=id then cont P Q k .normal a w else cont P Q k (.exit j) a w
 |_::k,e,a,w=>cont P Q k e a w
def Cells(H:Hid)(cs:List GV)(us:Array Value):Prop:=cs.length=us.size/\∀(j:Nat) (g:GV),cs[j]? =some g->Is H g (us.getD j undef)
def Ct(p:Pg)(f:FuncId)(n0:Nat)(args:List GV)(σ:Heap)(Q:GV->Heap->Nat->Prop):Prop:=
 ∀H us w,H.n=n0->iX p H->Cells H args us->Sat H σ w->Calls p.P f us w λe w'=>
  ∃u g H' σ',e=.returned u/\Is H' g u/\Sat H' σ' w'/\Fr H (g_ H σ) w H' (g_ H' σ') w'/\Q g σ' H'.n
def JK(cx:Cx)(T:jz)(k:List It)(s:St):Prop:=
 ∀H a w,iX cx.pg H->iQ cx H s w->kr cx H s.ρ a->cont cx.pg.P (post cx T) k .normal a w
def KN:List Nat->Nat->(Nat->Prop)->Prop
 | [],n,K=>K n
 |i::r,n,K=>bif Nat.beq n i then K i else KN r n K
def kW(n:Nat)(K:Nat->Prop):Prop:=
 KN [0,1,2,3,4,5,6,7,8,9,10,11,12,13,14,15,16,17,18,19,20,21,22,23,24,25,26,27,28,29,30,31,32,33,34,35,36,37,38,39,40] n K
mutual
def nf:GV->(GV->Prop)->Prop
 | .v x,K=>K (.v x)
 | .b c,K=>K (.b c)
 | .p id off,K=>kW id λid=>kW off λoff=>K (.p id off)
 | .e id sz i off,K=>kW id λid=>kW off λoff=>K (.e id sz i off)
 | .o id,K=>kW id λid=>K (.o id)
 | .r cs,K=>K (.r cs)
 | .sl sz rows,K=>K (.sl sz rows)
 | .agg cs,K=>A9 cs λcs=>K (.agg cs)
 | .tup cs,K=>A9 cs λcs=>K (.tup cs)
 | .fn f aas cs,K=>K (.fn f aas cs)
 | .ifc t x,K=>nf x λx=>K (.ifc t x)
def A9:List GV->(List GV->Prop)->Prop
 | [],K=>K []
 |g::r,K=>nf g λg=>A9 r λr=>K (g::r)
end
def p9:Env->(Env->Prop)->Prop
 | [],K=>K []
 | (s,g)::r,K=>p9 r λr=>K ((s,g)::r)
def xa:hY->(hY->Prop)->Prop
 | .hZ ty cs,K=>A9 cs λcs=>K (.hZ ty cs)
 | .row ty sz rows,K=>K (.row ty sz rows)
 | .ob o,K=>K (.ob o)
 | .ln sz n,K=>K (.ln sz n)
 | .sub id sz lo n,K=>kW id λid=>K (.sub id sz lo n)
 | .mp kd es,K=>K (.mp kd es)
 | .mr kd es left cur,K=>K (.mr kd es left cur)
 | .itr id,K=>kW id λid=>K (.itr id)
 | .me kd es k st,K=>kW st λst=>K (.me kd es k st)
 | .mre kd es left cur k st,K=>kW st λst=>K (.mre kd es left cur k st)
 | .ab A,K=>K (.ab A)
def kG:Heap->(Heap->Prop)->Prop
 | [],K=>K []
 | (id,x)::r,K=>kW id λid=>xa x λx=>kG r λr=>K ((id,x)::r)
def I2(K:Nat->Prop)(n:Nat):∀l:List Nat,KN l n K=K n
 | []=>rfl
 |i::r=>by
  unfold KN;cases h:Nat.beq n i with
  |true=>rw[fG h];rfl
  |false=>exact I2 K n r
def j9(n:Nat)(K:Nat->Prop):kW n K=K n:=I2 K n _
mutual
def nc:∀(g:GV) (K:GV->Prop),nf g K=K g
 | .v x,K=>by simp only[nf]
 | .b c,K=>by simp only[nf]
 | .p id off,K=>by simp only[nf,j9]
 | .e id sz i off,K=>by simp only[nf,j9]
 | .o id,K=>by simp only[nf,j9]
 | .r cs,K=>by simp only[nf]
 | .sl sz rows,K=>by simp only[nf]
 | .agg cs,K=>by simp only[nf,zd cs]
 | .tup cs,K=>by simp only[nf,zd cs]
 | .fn f aas cs,K=>by simp only[nf]
 | .ifc t x,K=>by simp only[nf,nc x]
def zd:∀(l:List GV) (K:List GV->Prop),A9 l K=K l
 | [],K=>by simp only[A9]
 |g::r,K=>by simp only[A9,nc g,zd r]
end
def oE:∀(l:Env) (K:Env->Prop),p9 l K=K l
 | [],K=>by simp only[p9]
 | (s,g)::r,K=>by simp only[p9,oE r]
def T7:∀(x:hY) (K:hY->Prop),xa x K=K x
 | .hZ ty cs,K=>by simp only[xa,zd]
 | .row ty sz rows,K=>by simp only[xa]
 | .ob o,K=>by simp only[xa]
 | .ln sz n,K=>by simp only[xa]
 | .sub id sz lo n,K=>by simp only[xa,j9]
 | .mp kd es,K=>by simp only[xa]
 | .mr kd es left cur,K=>by simp only[xa]
 | .itr id,K=>by simp only[xa,j9]
 | .me kd es k st,K=>by simp only[xa,j9]
 | .mre kd es left cur k st,K=>by simp only[xa,j9]
 | .ab A,K=>by simp only[xa]
def jy:∀(l:Heap) (K:Heap->Prop),kG l K=K l
 | [],K=>by simp only[kG]
 | (id,x)::r,K=>by simp only[kG,j9,T7,jy r]
def iO(N:Nat)(ρ:Env):Option Nat->GV->(Env->Prop)->Prop
 |some d,g,K=>bif Nat.blt d N then nf g λg=>K ((d,g)::ρ) else False
 |none,_,K=>K ρ
def wo(places:List (Nat×Nat×Bool)):List (Nat×GV)->List GV->Option (List GV)
 | [],cs=>some cs
 | (i,g)::rest,cs=>match places[i]? with
  |some (off,sz,_)=>bif Nat.beq (cellsOf g).length sz&&Nat.ble (off+sz) cs.length then wo places rest (cs.take off++cellsOf g++cs.drop (off+sz)) else none
  |none=>none
def wq:Nat->Nat->Nat->List (Nat×Nat×Bool)
 |0,_,_=>[]
 |n+1,sz,off=>(off,sz,false)::wq n sz (off+sz)
def Jd(p:Pg)(ρ:Env):List (Nat×Operand)->Option (List (Nat×GV))
 | []=>some []
 | (i,x)::r=>match ev p ρ x,Jd p ρ r with
  |some g,some gs=>some ((i,g)::gs)
  |_,_=>none
def DD(sz:Nat):Nat->List (Nat×GV)->Bool
 |_,[]=>true
 |k,(i,g)::r=>Nat.beq k i&&Nat.beq (cellsOf g).length sz&&pS (cellsOf g)&&im 0 (cellsOf g)&&DD sz (k+1) r
def AK(σ:Heap)(ty sz:Nat):GV->Option (List (List GV))
 | .v (.slice none 0 0)=>some []
 | .sl z rows=>bif Nat.beq z sz then some rows else none
 | .o id=>match gW σ id with
  |some (.row t z rows)=>bif Nat.beq t ty&&Nat.beq z sz then some rows else none
  |_=>none
 |_=>none
def xq(σ:Heap)(ty sz:Nat):GV->Option (List (List GV)×Heap)
 | .v (.slice none 0 0)=>some ([],σ)
 | .o id=>match gW σ id with
  |some (.row t z rows)=>bif Nat.beq t ty&&Nat.beq z sz then some (rows,jQ σ id) else none
  |_=>none
 |_=>none
def Ke(p:Pg)(ρ:Env):Op->Bool
 | .slice _ x _ _ none=>(match ev p ρ x with
  |some (.o _)=>true
  |_=>false)
 | .typeAssert _ _ _ true=>true
 | .call {callee:=.invoke _ _,.. }=>true
 |_=>false
def ub(cx:Cx)(q:Bool)(s:St)(o:Oper)(next:St->Prop)(leaf:Env->Prop)(ρ:Env):Prop:=
 match s with
 |⟨_,σ,m⟩=>
 bif Ke cx.pg ρ o.op then leaf ρ else
 bif oG o.op then pv cx.pg ρ σ o.op λg=>iO cx.N ρ o.dst g λρ'=>next ⟨ρ',σ,m⟩
 else bif q then leaf ρ
 else match o.op with
 | .alloc t=>(match jv cx.pg.tt t with
  |some ti=>A9 (ti.zero.map .v) λz=>iO cx.N ρ o.dst (.p m 0) λρ'=>kW (m+1) λm'=>next ⟨ρ',(m,.hZ t z)::σ,m'⟩
  |none=>False)
 | .box t x=>vN (ev cx.pg ρ x) λg=>A9 (cellsOf g) λz=>iO cx.N ρ o.dst (.p m 0) λρ'=>kW (m+1) λm'=>next ⟨ρ',(m,.hZ t z)::σ,m'⟩
 | .store t a x=>(match jv cx.pg.tt t,ev cx.pg ρ a,ev cx.pg ρ x with
  |some ti,some (.p id off),some g=>(match gW σ id with
   |some (.hZ ty cs)=>bif pS (cellsOf g)&&Nat.beq (cellsOf g).length ti.sz&&Nat.ble (off+ti.sz) cs.length then A9 (cs.take off++cellsOf g++cs.drop (off+ti.sz)) λz=>iO cx.N ρ o.dst (.v undef) λρ'=>kG (jh σ id (.hZ ty z)) λσ'=>next ⟨ρ',σ',m⟩ else False
   |_=>False)
  |some ti,some (.e id sz i off),some g=>(match gW σ id with
   |some (.row ty z rows)=>bif Nat.beq z sz&&pS (cellsOf g)&&im 0 (cellsOf g)&&Nat.beq (cellsOf g).length ti.sz&&Nat.ble (off+ti.sz) sz then∃row,rows[i]? =some row/\iO cx.N ρ o.dst (.v undef) λρ'=>kG (jh σ id (.row ty z (rows.set i (row.take off++cellsOf g++row.drop (off+ti.sz))))) λσ'=>next ⟨ρ',σ',m⟩ else False
   |_=>False)
  |_,_,_=>False)
 | .buildSlice t len parts=>(match jv cx.pg.tt t,Jd cx.pg ρ parts.toList with
  |some {d:=.slice e,.. },some gs=>(match jv cx.pg.tt e with
   |some ti=>bif DD ti.sz 0 gs&&Nat.beq gs.length len&&Nat.ble (len*ti.sz) 16777216&&Nat.blt 0 ti.sz then iO cx.N ρ o.dst (.o m) λρ'=>kW (m+1) λm'=>next ⟨ρ',(m,.row e ti.sz (gs.map λx=>cellsOf x.2))::σ,m'⟩ else False
   |none=>False)
  |_,_=>False)
 | .call {callee:=.builtin .append,args:=args,argTypes:=ts}=>(match (match ts.toList with| [t,t']=>bif Nat.beq t t' then jv cx.pg.tt t else none|_=>none),qR cx.pg ρ args.toList with
  |some {d:=.slice e,.. },some [gd,gx]=>(match jv cx.pg.tt e with
   |some ti=>bif Nat.blt 0 ti.sz&&Nat.blt 0 ti.by_ then (match xq σ e ti.sz gd,AK σ e ti.sz gx with
    |some (rows,σ'),some news=>(rows.length+news.length)*ti.by_<=140737488355328/\iO cx.N ρ o.dst (.o m) λρ'=>kW (m+1) λm'=>kG σ' λσ'=>next ⟨ρ',(m,.row e ti.sz (rows++news))::σ',m'⟩
    |_,_=>False) else False
   |none=>False)
  |_,_=>False)
 | .build t parts=>(match jv cx.pg.tt t,Jd cx.pg ρ parts.toList with
  |some {d:=.struct fs,zero:=z,.. },some gs=>(match wo fs gs (z.map .v) with
   |some cs=>iO cx.N ρ o.dst (.agg cs) λρ'=>next ⟨ρ',σ,m⟩
   |none=>False)
  |some {d:=.array len e,zero:=z,.. },some gs=>(match jv cx.pg.tt e with
   |some te=>(match wo (wq len te.sz 0) gs (z.map .v) with
    |some cs=>iO cx.N ρ o.dst (.agg cs) λρ'=>next ⟨ρ',σ,m⟩
    |none=>False)
   |none=>False)
  |_,_=>False)
 | .makeMap t none=>(match jv cx.pg.tt t with
  |some {d:=.map kt _,.. }=>(match jv cx.pg.tt kt with
   |some kti=>(match BD kti.d with
    |some kd=>iO cx.N ρ o.dst (.o m) λρ'=>kW (m+1) λm'=>next ⟨ρ',(m,.mp kd [])::σ,m'⟩
    |none=>False)
   |none=>False)
  |_=>False)
 | .mapUpdate t x k v=>(match jv cx.pg.tt t with
  |some {d:=.map kt _,.. }=>(match jv cx.pg.tt kt with
   |some kti=>(match BD kti.d,ev cx.pg ρ x,ev cx.pg ρ k,ev cx.pg ρ v with
    |some kd,some (.o id),some (.v kv),some g=>bif iq kd kv then (match gW σ id with
     |some (.mp kd' es)=>bif qT kd kd' then iO cx.N ρ o.dst (.v undef) λρ'=>kG (jh σ id (.mp kd' (jB kv g es))) λσ'=>next ⟨ρ',σ',m⟩ else False
     |some (.itr q)=>(match gW σ q with
      |some (.mr kd' es left cur)=>bif qT kd kd' then (jl kv es).isSome=true/\iO cx.N ρ o.dst (.v undef) λρ'=>kG (jh σ q (.mr kd' (jB kv g es) left cur)) λσ'=>next ⟨ρ',σ',m⟩ else False
      |_=>False)
     |_=>False) else False
    |_,_,_,_=>False)
   |none=>False)
  |_=>False)
 | .mapEntry t x k=>(match jv cx.pg.tt t with
  |some {d:=.map kt et,.. }=>(match jv cx.pg.tt kt,jv cx.pg.tt et with
   |some kti,some eti=>(match BD kti.d,FF eti,ev cx.pg ρ x,ev cx.pg ρ k with
    |some kd,some z,some (.o id),some (.v kv)=>bif iq kd kv then (match gW σ id with
     |some (.mp kd' es)=>bif qT kd kd' then
       ((∀g,jl kv es=some g->iO cx.N ρ o.dst (.tup [g,.o m]) λρ'=>kW (m+1) λm'=>kG (jh σ id (.me kd' (jB kv g es) kv m)) λσ'=>next ⟨ρ',σ',m'⟩)/\
       (jl kv es=none->iO cx.N ρ o.dst (.tup [z,.o m]) λρ'=>kW (m+1) λm'=>kG (jh σ id (.me kd' (jB kv z es) kv m)) λσ'=>next ⟨ρ',σ',m'⟩)) else False
     |some (.itr q)=>(match gW σ q with
      |some (.mr kd' es left cur)=>bif qT kd kd' then∃g,jl kv es=some g/\iO cx.N ρ o.dst (.tup [g,.o m]) λρ'=>kW (m+1) λm'=>kG (jh σ q (.mre kd' (jB kv g es) left cur kv m)) λσ'=>next ⟨ρ',σ',m'⟩ else False
      |_=>False)
     |_=>False) else False
    |_,_,_,_=>False)
   |_,_=>False)
  |_=>False)
 | .entryStore _ x st v=>(match ev cx.pg ρ x,ev cx.pg ρ st,ev cx.pg ρ v with
  |some (.o id),some (.o q),some g=>(match gW σ id with
   |some (.me kd es kv q')=>bif Nat.beq q q' then iO cx.N ρ o.dst (.v undef) λρ'=>kG (jh σ id (.mp kd (jB kv g es))) λσ'=>next ⟨ρ',σ',m⟩ else False
   |some (.itr it)=>(match gW σ it with
    |some (.mre kd es left cur kv q')=>bif Nat.beq q q' then iO cx.N ρ o.dst (.v undef) λρ'=>kG (jh σ it (.mr kd (jB kv g es) left cur)) λσ'=>next ⟨ρ',σ',m⟩ else False
    |_=>False)
   |_=>False)
  |_,_,_=>False)
 | .call {callee:=.builtin .delete,args:=args,argTypes:=ts}=>(match (match ts.toList with|t::_=>jv cx.pg.tt t|_=>none),qR cx.pg ρ args.toList with
  |some {d:=.map kt _,.. },some [.o id,.v kv]=>(match jv cx.pg.tt kt with
   |some kti=>(match BD kti.d with
    |some kd=>bif iq kd kv then (match gW σ id with
     |some (.mp kd' es)=>bif qT kd kd' then iO cx.N ρ o.dst (.v (.tuple #[])) λρ'=>kG (jh σ id (.mp kd' (nM kv es))) λσ'=>next ⟨ρ',σ',m⟩ else False
     |some (.itr q)=>(match gW σ q with
      |some (.mr kd' es left cur)=>bif qT kd kd' then iO cx.N ρ o.dst (.v (.tuple #[])) λρ'=>kG (jh σ q (.mr kd' (nM kv es) (sS kv left) cur)) λσ'=>next ⟨ρ',σ',m⟩ else False
      |_=>False)
     |_=>False) else False
    |none=>False)
   |none=>False)
  |_,_=>False)
 | .range t x=>(match jv cx.pg.tt t with
  |some {d:=.map _ _,.. }=>(match ev cx.pg ρ x with
   |some (.o id)=>(match gW σ id with
    |some (.mp kd es)=>iO cx.N ρ o.dst (.p m 0) λρ'=>kW (m+1) λm'=>kG ((m,.mr kd es (es.map (·.1)) none)::jh σ id (.itr m)) λσ'=>next ⟨ρ',σ',m'⟩
    |_=>False)
   |some (.v (.map none))=>iO cx.N ρ o.dst (.p m 0) λρ'=>kW (m+1) λm'=>next ⟨ρ',(m,.ob (.mapIter none 0 #[] 0))::σ,m'⟩
   |_=>False)
  |_=>False)
 | .next x false=>(match ev cx.pg ρ x with
  |some (.p it 0)=>(match gW σ it with
   |some (.ob (.mapIter none _ _ _))=>iO cx.N ρ o.dst (.tup [.v (.bool false)]) λρ'=>next ⟨ρ',σ,m⟩
   |some (.mr kd es left _)=>
      (left=[]->iO cx.N ρ o.dst (.tup [.v (.bool false)]) λρ'=>next ⟨ρ',σ,m⟩)/\
      (∀l1 k l2 g,left=l1++k::l2->jl k es=some g->iO cx.N ρ o.dst (.tup [.v (.bool true),.v k,g]) λρ'=>kG (jh σ it (.mr kd es (l1++l2) (some k))) λσ'=>next ⟨ρ',σ',m⟩)
   |_=>False)
  |_=>False)
 |_=>leaf ρ
def wZ(all:List Oper)(ρ:Env)(gd:Option (Nat×Bool))(go skip:Env->Prop):Prop:=
 match gd with
 |none=>go ρ
 |some (j,want)=>match all[j]? with
  |some oj=>(match oj.dst with
   |some d=>(match look ρ d with
    |some (.v (.bool t))=>bif t==want then go ρ else skip ρ
    |some (.b t)=>(t=want->go ((d,.v (.bool want))::ρ))/\(t= !want->skip ((d,.v (.bool !want))::ρ))
    |some (.v (.tuple _))=>skip ρ
    |_=>False)
   |none=>False)
  |none=>False
def vc(cx:Cx)(T:jz):Nat->List It->St->Prop
 |0,k,s=>JK cx T k s
 |_+1,[],s=>T .normal s
 |n+1,.hZ _::k,s=>vc cx T n k s
 |n+1,.code c::k,s=>match c with
  | .skip=>vc cx T n k s
  | .seq a b=>vc cx T n (.code a:: .code b::k) s
  | .region _ ops false=>vc cx T n (.ops false ops.toList ops.toList::k) s
  | .region i ops true=>bif DS ops.toList then (Region.lexB .any ops=true/\vc cx T n (.ops true ops.toList ops.toList::k) s) else JK cx T (.code (.region i ops true)::k) s
  | .cond c a b=>match ev cx.pg s.ρ c with
   |some (.v (.bool t))=>(match t with|true=>vc cx T n (.code a::k) s|false=>vc cx T n (.code b::k) s)
   |some (.b t)=>(t=true->vc cx T n (.code a::k) s)/\(t=false->vc cx T n (.code b::k) s)
   |_=>False
  | .block id c=>vc cx T n (.code c:: .hZ id::k) s
  | .exit id=>(match exitTo id k with|some k'=>vc cx T n k' s|none=>T (.exit id) s)
  | .ret=>T .ret s
  |c=>JK cx T (.code c::k) s
 |n+1,.ops _ _ [] ::k,s=>vc cx T n k s
 |n+1,.ops q all (o::rest)::k,s=>match s with
  |⟨ρ,σ,m⟩=>wZ all ρ o.guard
   (ub cx q ⟨ρ,σ,m⟩ o (λs'=>vc cx T n (.ops q all rest::k) s') (λρ=>JK cx T (.ops q all (o::rest)::k) ⟨ρ,σ,m⟩))
   (λρ=>iO cx.N ρ o.dst (.v undef) λρ'=>vc cx T n (.ops q all rest::k) ⟨ρ',σ,m⟩)
mutual
def jW(f:Nat->Nat):GV->GV
 | .p id off=>.p (f id) off
 | .e id sz i off=>.e (f id) sz i off
 | .o id=>.o (f id)
 | .agg cs=>.agg (j4 f cs)
 | .tup cs=>.tup (j4 f cs)
 | .fn g aas cs=>.fn g (j4 f aas) (j4 f cs)
 | .ifc t x=>.ifc t (jW f x)
 | .v x=>.v x
 | .b c=>.b c
 | .r cs=>.r cs
 | .sl sz rows=>.sl sz rows
def j4(f:Nat->Nat):List GV->List GV
 | []=>[]
 |g::r=>jW f g::j4 f r
end
def jS(f:Nat->Nat)(es:List (Value×GV)):List (Value×GV):=es.map λx=>(x.1,jW f x.2)
def B4(f:Nat->Nat):hY->hY
 | .hZ ty cs=>.hZ ty (j4 f cs)
 | .row ty sz rows=>.row ty sz rows
 | .ob o=>.ob o
 | .ln sz n=>.ln sz n
 | .sub id sz lo n=>.sub (f id) sz lo n
 | .mp kd es=>.mp kd (jS f es)
 | .mr kd es left cur=>.mr kd (jS f es) left cur
 | .itr id=>.itr (f id)
 | .me kd es k st=>.me kd (jS f es) k (f st)
 | .mre kd es left cur k st=>.mre kd (jS f es) left cur k (f st)
 | .ab A=>.ab A
def mm(f:Nat->Nat):Heap->Heap
 | []=>[]
 | (id,x)::r=>(f id,B4 f x)::mm f r
def mM(n:Nat):List (Value×GV)->Bool
 | []=>true
 | (_,g)::r=>iy n g&&mM n r
def jm(n:Nat):hY->Bool
 | .hZ _ cs=>im n cs
 | .sub id _ _ _=>Nat.blt id n
 | .mp _ es=>mM n es
 | .mr _ es _ _=>mM n es
 | .itr id=>Nat.blt id n
 | .me _ es _ st=>Nat.blt st n&&mM n es
 | .mre _ es _ _ _ st=>Nat.blt st n&&mM n es
 |_=>true
def jt(n:Nat):Env->Bool
 | []=>true
 | (_,g)::r=>iy n g&&jt n r
def iL(n:Nat):Heap->Bool
 | []=>true
 | (id,x)::r=>Nat.blt id n&&jm n x&&iL n r
def Qy(f:Nat->Nat):Env->Env->Prop
 | [],_=>True
 | (s,g)::r,ρ=>look ρ s=some (jW f g)/\Qy f r ρ
def o7(f:Nat->Nat):Heap->Heap->Prop
 | [],_=>True
 | (id,x)::r,σ=>gW σ (f id)=some (B4 f x)/\o7 f r σ
def je(x:Nat):List Nat->Bool
 | []=>false
 |y::r=>Nat.beq x y||je x r
def iu:List Nat->Bool
 | []=>true
 |x::r=> !je x r&&iu r
def jf(f:Nat->Nat):Nat->Bool
 |0=>true
 |n+1=>Nat.beq (f n) n&&jf f n
def iv(f:Nat->Nat):Heap->List Nat
 | []=>[]
 | (id,_)::r=>f id::iv f r
structure Le(n0:Nat)(f:Nat->Nat)(I s:St):Prop where
 ρ:Qy f I.ρ s.ρ
 σ:o7 f I.σ s.σ
 chk:(jt I.n I.ρ&&iL I.n I.σ&&iu (iv f I.σ)&&jf f n0&&Nat.ble n0 I.n)=true
def Hw(p:Pg)(s:St):ResultVar->Option GV
 | .tmp t=>look s.ρ t
 | .cell t ty=>match look s.ρ t,jv p.tt ty with
  |some (.p id off),some ti=>(match gW s.σ id with
   |some (.hZ _ cs)=>bif ti.ag then (bif Nat.ble (off+ti.sz) cs.length then some (.agg ((cs.drop off).take ti.sz)) else none) else cs[off]?
   |_=>none)
  |_,_=>none
def q8(p:Pg)(s:St):List ResultVar->Option (List GV)
 | []=>some []
 |x::r=>match Hw p s x,q8 p s r with
  |some g,some gs=>some (g::gs)
  |_,_=>none
def wG:List GV->GV
 | [g]=>g
 |gs=>.tup gs
def DC(p:Pg)(rs:List ResultVar)(Q:GV->Heap->Nat->Prop):jz:=λe s=>
 match e with
 | .ret| .normal=>(match q8 p s rs with|some gs=>Q (wG gs) s.σ s.n|none=>False)
 |_=>False
def qp:Nat->List GV->Env
 |_,[]=>[]
 |i,g::r=>(i,g)::qp (i+1) r
def mS(all:List Oper)(ρ:Env):Option (Nat×Bool)->Bool
 |none=>true
 |some (j,want)=>match all[j]? with
  |some oj=>(match oj.dst with
   |some d=>(match look ρ d with
    |some (.v (.bool t))=>t==want
    |some (.b t)=>t==want
    |_=>false)
   |none=>false)
  |none=>false
def B8(all:List Oper)(ρ:Env):Option (Nat×Bool)->Bool
 |none=>false
 |some (j,want)=>match all[j]? with
  |some oj=>(match oj.dst with
   |some d=>(match look ρ d with
    |some (.v (.bool t))=>t== !want
    |some (.b t)=>t== !want
    |some (.v (.tuple _))=>true
    |_=>false)
   |none=>false)
  |none=>false
def sh(r:Nat->Nat)(n0 n:Nat)(i:Nat):Nat:=bif Nat.blt i n0 then r i else n+(i-n0)
def jr(is:List Nat):Heap->Heap
 | []=>[]
 | (id,x)::r=>bif je id is then jr is r else (id,x)::jr is r
def beq_eq{a b:Nat}(h:Nat.beq a b=true):a=b:=fG h
def jD{a b:Nat}(h:Nat.beq a b=false):a≠b:=λe=>by subst e;simp at h
def ib:∀{σ:Heap} {id:Nat} {x:hY},gW σ id=some x->(id,x)∈σ
 | [],_,_,h=>by simp[gW]at h
 | (s,g)::r,id,x,h=>by
  unfold gW at h;cases hb:Nat.beq s id with
  |true=>rw[hb]at h;have:=beq_eq hb;subst this;simp at h;subst h;exact bf
  |false=>rw[hb]at h;exact aK _ (ib (by simpa using h))
def r8(a:Addr)(i j:Nat):(a.add i).add j=a.add (i+j):=by
 unfold Addr.add;by_cases hi:i=0<;>by_cases hj:j=0<;>simp[hi,hj,fB]
def Dz(a:Addr)(n:Nat):(a.add n).block=a.block:=by unfold Addr.add;split<;>rfl
def j5(b o n:Nat):(⟨b,o,none⟩:Addr).add n=⟨b,o+n,none⟩:=by
 unfold Addr.add;split<;>simp_all
def Ba{ro ro':Nat->Option Obj}(h:∀b o,ro b=some o->ro' b=some o){a:Addr}{v:Value}(hc:pn ro a=some v):pn ro' a=some v:=by
 unfold pn at*;cases hb:ro a.block with
 |none=>rw[hb]at hc;cases hc
 |some o=>rw[hb]at hc;rw[h _ _ hb];exact hc
def jM.mono{ro ro':Nat->Option Obj}(h:∀b o,ro b=some o->ro' b=some o){g:GV}{u:Value}(hi:jM ro g u):jM ro' g u:=by
 induction hi with
 |v x=>exact .v x
 |b c=>exact .b c
 |r us h1 _ ih=>exact .r us (λj g hg=>Ba h (h1 j g hg)) ih
 |slnil=>exact .slnil
 |sl us h0 hc hm h1 _ h3 ih=>exact .sl us h0 hc hm (λi row hr j g hg=>Ba h (h1 i row hr j g hg)) ih h3
 |agg hl _ ih=>exact .agg hl ih
 |tup hl _ ih=>exact .tup hl ih
 |fn hl _ hl' _ ih ih'=>exact .fn hl ih hl' ih'
 |ifc _ ih=>exact .ifc ih
def Hid.le.refl(H:Hid):H.le H:=⟨aL _,λ_ _ h=>h,λ_ _=>rfl,λ_ _=>rfl⟩
def Hid.le.trans{A B C:Hid}(h:A.le B)(k:B.le C):A.le C:=
 ⟨bE h.n k.n,λb o x=>k.ro b o (h.ro b o x),λi hi=>(k.bl i (a_ hi h.n)).trans (h.bl i hi),λi hi=>(k.sv i (a_ hi h.n)).trans (h.sv i hi)⟩
def Is.mono{H H':Hid}(h:H.le H'){g:GV}{u:Value}(hi:Is H g u):Is H' g u:=by
 induction hi with
 |ro hr=>exact .ro (hr.mono h.ro)
 |p hid=>rw[<-h.bl _ hid];exact .p (a_ hid h.n)
 |e hid hs=>exact .e (a_ hid h.n) ((h.sv _ hid).trans hs)
 |o hid hs h1=>exact .o (a_ hid h.n) ((h.sv _ hid).trans hs) h1
 |agg hl _ ih=>exact .agg hl ih
 |tup hl _ ih=>exact .tup hl ih
 |fn hl _ hl' _ ih ih'=>exact .fn hl ih hl' ih'
 |ifc _ ih=>exact .ifc ih
section
variable {H:Hid}{u:Value}
def Is.iH{x:Value}(h:Is H (.v x) u):u=x:=by cases h with|ro h=>cases h;rfl
def Is.nF{c:Bool}(h:Is H (.b c) u):u=.bool c:=by cases h with|ro h=>cases h;rfl
def Is.qf{id off:Nat}(h:Is H (.p id off) u):u=.pointer (some ⟨H.bl id,off,none⟩)/\id<H.n:=by
 cases h with
 |ro h=>cases h
 |p h=>exact⟨rfl,h⟩
def Is.AE{id sz i off:Nat}(h:Is H (.e id sz i off) u):∃g n c,u=.pointer (some ⟨g,i*sz+off,none⟩)/\H.sv id=.slice (some ⟨g,0,none⟩) n c/\id<H.n:=by
 cases h with
 |ro h=>cases h
 |e h hs=>exact⟨_,_,_,rfl,hs,h⟩
def Nd{u:Value}(h:ow u=true):u.cells=#[u]/\u.oneCell'=true/\∀cs,u≠ .agg cs:=by
 cases u<;>simp only[ow,a7]at h
 case slice=>exact⟨rfl,rfl,λcs e=>by cases e⟩
 case map r=>exact⟨rfl,rfl,λcs e=>by cases e⟩
 case int=>exact⟨rfl,rfl,λcs e=>by cases e⟩
def Is.mh{id:Nat}(h:Is H (.o id) u):u=H.sv id/\id<H.n:=by
 cases h with
 |ro h=>cases h
 |o h hs _=>exact⟨hs.symm,h⟩
def Is.x5{cs:List GV}(h:Is H (.r cs) u):∃(ad:Addr) (us:Nat->Value),u=.pointer (some ad)/\(∀j g,cs[j]? =some g->pn H.ro (ad.add j)=some (us j))/\(∀j g,cs[j]? =some g->jM H.ro g (us j)):=by
 cases h with
 |ro h=>cases h with|r us h1 h2=>exact⟨_,us,rfl,h1,h2⟩
def jM.ny{ro:Nat->Option Obj}{sz:Nat}{rows:List (List GV)}(h:jM ro (.sl sz rows) u):∃(A:Option Addr) (c:Nat) (us:Nat->Nat->Value),u=.slice A rows.length c/\rows.length<=c/\c<=maxLen/\(∀row∈rows,row.length=sz)/\
  (rows≠ []->∃ad,A=some ad/\(∀(i:Nat) (row:List GV),rows[i]? =some row->∀(j:Nat) (g:GV),row[j]? =some g->pn ro (ad.add (i*sz+j))=some (us i j))/\
   (∀(i:Nat) (row:List GV),rows[i]? =some row->∀(j:Nat) (g:GV),row[j]? =some g->jM ro g (us i j))/\∀i j,(us i j).oneCell'=true):=by
 cases h with
 |slnil=>exact⟨none,0,λ_ _=>undef,rfl,aA,by simp[maxLen],aA,aA⟩
 |sl us h0 hc hm h1 h2 h3=>exact⟨_,_,us,rfl,hc,hm,h0,λ_=>⟨_,rfl,h1,h2,h3⟩⟩
def Is.ny{sz:Nat}{rows:List (List GV)}(h:Is H (.sl sz rows) u):jM H.ro (.sl sz rows) u:=by
 cases h with|ro h=>exact h
def Is.rN{cs:List GV}(h:Is H (.agg cs) u):∃us:Array Value,u=.agg us/\cs.length=us.size/\∀j g,cs[j]? =some g->Is H g (us.getD j undef):=by
 cases h with
 |ro h=>cases h with|agg hl h=>exact⟨_,rfl,hl,λj g hg=>.ro (h j g hg)⟩
 |agg hl h=>exact⟨_,rfl,hl,h⟩
def Is.uW{cs:List GV}(h:Is H (.tup cs) u):∃us:Array Value,u=.tuple us/\cs.length=us.size/\∀j g,cs[j]? =some g->Is H g (us.getD j undef):=by
 cases h with
 |ro h=>cases h with|tup hl h=>exact⟨_,rfl,hl,λj g hg=>.ro (h j g hg)⟩
 |tup hl h=>exact⟨_,rfl,hl,h⟩
def Is.w_{f:Fn}{aas cs:List GV}(h:Is H (.fn f aas cs) u):∃us vs:Array Value,u=.func f us vs/\aas.length=us.size/\(∀j g,aas[j]? =some g->Is H g (us.getD j undef))/\cs.length=vs.size/\∀j g,cs[j]? =some g->Is H g (vs.getD j undef):=by
 cases h with
 |ro h=>cases h with|fn hl h hl' h'=>exact⟨_,_,rfl,hl,λj g hg=>.ro (h j g hg),hl',λj g hg=>.ro (h' j g hg)⟩
 |fn hl h hl' h'=>exact⟨_,_,rfl,hl,h,hl',h'⟩
def Is.rQ{t:TypeId}{x:GV}(h:Is H (.ifc t x) u):∃v,u=.iface t v/\Is H x v:=by
 cases h with
 |ro h=>cases h with|ifc h=>exact⟨_,rfl,.ro h⟩
 |ifc h=>exact⟨_,rfl,h⟩
end
def jM.one{ro:Nat->Option Obj}{g:GV}{u:Value}(h:jM ro g u)(h1:one g=true):u.oneCell'=true:=by
 cases h<;>first|exact h1|rfl| (simp[GK.one]at h1)
def jH.put{H:Hid}{ρ:Env}{a:Act}(h:jH H ρ a){d:Nat}(hd:d<a.tmps.size){g:GV}{u:Value}(hg:Is H g u):jH H ((d,g)::ρ) (a.put (some d) u):=by
 intro t g' hl;unfold look at hl;cases hb:Nat.beq d t with
 |true=>
  rw[hb]at hl;have:=beq_eq hb;subst this;simp at hl;subst hl;simp[Act.put,Array.getD,hd,hg]
 |false=>
  rw[hb]at hl;have hne:=jD hb;have:=h t g' (by simpa using hl);simp only[Act.put,bn]at this|-;rw[dS hne];exact this
def kr.iO{cx:Cx}{H:Hid}{ρ:Env}{a:Act}(h:kr cx H ρ a){dst:Option Nat}{g:GV}{u:Value}(hg:Is H g u){K:Env->Prop}(hk:iO cx.N ρ dst g K):∃ρ',kr cx H ρ' (a.put dst u)/\K ρ':=by
 cases dst with
 |none=>exact⟨ρ,h,hk⟩
 |some d=>
  simp only[GK.iO,nc]at hk;cases hb:Nat.blt d cx.N with
  |false=>rw[hb]at hk;exact hk.elim
  |true=>
   rw[hb]at hk;have hlt:d<cx.N:=by rw[dx]at hb;exact hb
   exact⟨_,⟨h.env.put (by rw[h.size];exact hlt) hg,by simp[Act.put,h.size],by simp[Act.put,h.defers]⟩,hk⟩
def kr.mono{cx:Cx}{H H':Hid}{ρ:Env}{a:Act}(h:kr cx H ρ a)(hl:H.le H'):kr cx H' ρ a:=
 ⟨λt g hg=>(h.env t g hg).mono hl,h.size,h.defers⟩
def iE{p:Pg}{H:Hid}(hg:iX p H){ρ:Env}{a:Act}(h:jH H ρ a){x:Operand}{g:GV}(he:ev p ρ x=some g):Is H g (a.eval x):=by
 cases x with
 |tmp t=>exact h t g he
 |const v=>simp only[ev,aV]at he;subst he;exact .ro (.v v)
 |global k=>exact .ro (hg k g he)
 |func f=>simp only[ev,aV]at he;subst he;exact .ro (.fn rfl aA rfl aA)
def xh{p:Pg}{H:Hid}(hg:iX p H){ρ:Env}{a:Act}(h:jH H ρ a):∀{xs:List Operand} {gs:List GV},qR p ρ xs=some gs->gs.length=xs.length/\∀(j:Nat) (g:GV),gs[j]? =some g->∃x,xs[j]? =some x/\Is H g (a.eval x)
 | [],gs,he=>by simp only[qR,aV]at he;subst he;simp
 |x::r,gs,he=>by
  unfold qR at he;split at he
  ·rename_i g gs' h1 h2
   simp only[aV]at he;subst he;obtain⟨hl,hi⟩:=xh hg h h2;refine⟨by simp[hl],λj g' hj=>?_⟩;cases j with
   |zero=>simp at hj;subst hj;exact⟨x,rfl,iE hg h h1⟩
   |succ j=>obtain⟨x',hx,hi'⟩:=hi j g' (by simpa using hj);exact⟨x',by simpa using hx,hi'⟩
  cases he
def Ge{H:Hid}{w:World}{x:Nat×hY}(hh:holds H w x):∀b∈blocks H x,b<w.heap.size:=by
 intro b hbx;obtain⟨id,r⟩:=x;cases r with
 |hZ ty cs=>
  simp only[blocks,aH]at hbx;subst hbx;obtain⟨us,hw,_⟩:=hh;exact (aW.1 hw).1
 |row ty sz rows=>
  obtain⟨xs,ho,_⟩:=hh;simp only[blocks,Option.mem_toList]at hbx;exact (ho.lt b hbx).2
 |ob o=>
  simp only[blocks,aH]at hbx;subst hbx;exact (aW.1 hh).1
 |ln sz n=>simp[blocks]at hbx
 |sub i sz lo n=>simp[blocks]at hbx
 |itr i=>simp[blocks]at hbx
 |me kd es k st=>
  obtain⟨_,b',arr,clock,hv,hw,_⟩:=hh;simp only[blocks,hv,ju,aH]at hbx;subst hbx;exact (aW.1 hw).1
 |ab A=>exact A.ex _ _ _ _ hh b hbx
 |mre kd es left cur k st=>
  obtain⟨_,b',arr,clock,seen,hv,_,hw,_,hi,_⟩:=hh;simp only[blocks,hv,ju,aE,aH]at hbx;rcases hbx with rfl|rfl
  ·exact (aW.1 hw).1
  exact (aW.1 hi).1
 |mp kd es=>
  obtain⟨b',arr,clock,hv,hw,_⟩:=hh;simp only[blocks,hv,ju,aH]at hbx;subst hbx;exact (aW.1 hw).1
 |mr kd es left cur=>
  obtain⟨b',arr,clock,seen,hv,_,hw,_,hi,_⟩:=hh;simp only[blocks,hv,ju,aE,aH]at hbx;rcases hbx with rfl|rfl
  ·exact (aW.1 hw).1
  exact (aW.1 hi).1
def Sat.lt{H:Hid}{σ:Heap}{w:World}(h:Sat H σ w):∀b∈g_ H σ,b<w.heap.size:=by
 intro b hb;obtain⟨x,hx,hbx⟩:=aX.1 hb;exact Ge (h.holds x hx) b hbx
def lu{H:Hid}{w w':World}{x:Nat×hY}(hb:∀b∈blocks H x,w'.heap[b]? =w.heap[b]?)(h:holds H w x):holds H w' x:=by
 obtain⟨id,r⟩:=x;cases r with
 |hZ ty cs=>obtain⟨us,hw,r⟩:=h;exact⟨us,by rw[hb _ (by simp[blocks])];exact hw,r⟩
 |row ty sz rows=>
  obtain⟨xs,⟨ho1,ho2⟩,r⟩:=h;refine⟨xs,⟨ho1,?_⟩,r⟩;rcases ho2 with h2|⟨g,cap,cur,hv,h0,hh,r2⟩
  ·exact .inl h2
  refine .inr ⟨g,cap,cur,hv,h0,?_,r2⟩;rw[hb g (by simp[blocks,hv,Value.ownBlock])];exact hh
 |ob o=>exact (hb _ (by simp[blocks])).trans h
 |ln sz n=>exact h
 |sub i sz lo n=>exact h
 |itr i=>exact h
 |me kd es k st=>
  obtain⟨hst,b',arr,clock,hv,hw,r⟩:=h;exact⟨hst,b',arr,clock,hv,by rw[hb b' (by simp[blocks,hv,ju])];exact hw,r⟩
 |ab A=>exact A.congr _ _ _ _ _ hb h
 |mre kd es left cur k st=>
  obtain⟨hst,b',arr,clock,seen,hv,hne,hw,hm,hi,r⟩:=h;exact⟨hst,b',arr,clock,seen,hv,hne,by rw[hb b' (by simp[blocks,hv,ju])];exact hw,hm,by rw[hb _ (by simp[blocks])];exact hi,r⟩
 |mp kd es=>
  obtain⟨b',arr,clock,hv,hw,r⟩:=h;exact⟨b',arr,clock,hv,by rw[hb b' (by simp[blocks,hv,ju])];exact hw,r⟩
 |mr kd es left cur=>
  obtain⟨b',arr,clock,seen,hv,hne,hw,hm,hi,r⟩:=h;exact⟨b',arr,clock,seen,hv,hne,by rw[hb b' (by simp[blocks,hv,ju])];exact hw,hm,by rw[hb _ (by simp[blocks])];exact hi,r⟩
def Sat.below{H:Hid}{σ:Heap}{w w':World}(h:Sat H σ w)(hb:Below w.heap.size w w'):Sat H σ w':=
 ⟨λb o hr=>by
  have:=h.ro b o hr;rw[hb.block b (aW.1 this).1];exact this,
 λx hx=>lu (λb hbx=>hb.block b (h.lt b (aX.2 ⟨x,hx,hbx⟩))) (h.holds x hx),h.nodup,h.free,h.ids⟩
def Fr.below{H0:Hid}{S0:List Nat}{w0:World}{H:Hid}{S:List Nat}{w w':World}(h:Fr H0 S0 w0 H S w)(hb:Below w.heap.size w w'):Fr H0 S0 w0 H S w':=
 ⟨hb.os.trans h.os,hb.tape.trans h.tape,hb.output.trans h.output,bE h.size hb.size,λb h1 h2=>(hb.block b (a_ h1 h.size)).trans (h.keep b h1 h2),h.own,h.fro,h.le⟩
def iQ.below{cx:Cx}{H:Hid}{s:St}{w w':World}(h:iQ cx H s w)(hb:Below w.heap.size w w'):iQ cx H s w':=
 ⟨h.n,h.sat.below hb,h.fr.below hb⟩
def iQ.ρ{cx:Cx}{H:Hid}{s:St}{w:World}(h:iQ cx H s w)(ρ:Env):iQ cx H {s with ρ:=ρ} w:=⟨h.n,h.sat,h.fr⟩
def yw(w:World):Below w.heap.size w w.drew:=(Below.refl _ _).drew
def pU{ro:Nat->Option Obj}{w:World}(h:∀b o,ro b=some o->w.heap[b]? =some o){a:Addr}{v:Value}(hc:pn ro a=some v):w.cell? a=some v:=by
 unfold pn at hc;unfold World.cell?;cases hb:ro a.block with
 |none=>rw[hb]at hc;cases hc
 |some o=>rw[hb]at hc;rw[h _ _ hb];exact hc
def HI{w:World}{base e sz n c g:Nat}{xs:List Value}(h:w.ownsRow base e sz (.slice (some ⟨g,0,none⟩) n c) n xs){j:Nat}{u:Value}(hj:xs[j]? =some u):w.cell? ⟨g,j,none⟩=some u:=by
 have:=h.cells (g:=g) rfl j u hj
 rwa [j5,cy]at this
def J6:Value->Bool
 | .agg _=>true
 |_=>false
structure pk(P:Program)(t:Nat)(ti:TI):Prop where
 info:∃i z,P.info? t=some i/\i.size=ti.sz/\i.bytes=ti.by_/\i.zero=some z/\z.cells.toList=ti.zero/\ti.zero.length=ti.sz
 zag:∃i z,P.info? t=some i/\i.zero=some z/\J6 z=ti.ag
 ag:∃d,P.underlying t=some d/\ti.ag=(match d with| .struct _| .array _ _=>true|_=>false)
 d:match ti.d with
  | .int k=>P.underlying t=some (.int k)
  | .bool=>P.underlying t=some .bool
  | .str=>P.underlying t=some .string
  | .struct fs=>∃fields:Array Field,P.underlying t=some (.struct fields)/\(∀f:Nat,fs[f]? =(fields[f]?).map (λx=>(x.offset,P.cellsOf x.type,(match P.underlying x.type with|some (.struct _)|some (.array _ _)=>true|_=>false))))/\∀f∈fields.toList,(P.info? f.type).isSome=true/\(P.underlying f.type).isSome=true
  | .slice e=>P.underlying t=some (.slice e)
  | .array n e=>P.underlying t=some (.array n e)
  | .iface m=>∃ms,P.underlying t=some (.interface ms)/\m= !ms.isEmpty
  | .map k e=>P.underlying t=some (.map k e)
  | .ptr=>∃e,P.underlying t=some (.pointer e)
  | .other=>∀ms,P.underlying t≠some (.interface ms)
 eqk:∀ks,ti.eqk=some ks->P.eqGuardType P.depth t=false/\P.stoodInHeld t=false/\∃fields:Array Field,P.underlying t=some (.struct fields)/\fields.size=ks.length/\
  ∀(i:Nat) (f:Field),fields[i]? =some f->f.name≠ "_" /\f.offset=i/\∃k,ks[i]? =some k/\(match k with| .int=>∃j,P.underlying f.type=some (.int j)| .str=>P.underlying f.type=some .string| .bool=>P.underlying f.type=some .bool)
structure Pg.Ok(p:Pg):Prop where
 tt:∀t ti,jv p.tt t=some ti->pk p.P t ti
 mixed:p.P.follows .mixedOrders=true
def pk.RR{P:Program}{t:Nat}{ti:TI}(h:pk P t ti)(hd:∀m,ti.d≠ .iface m):∃d,P.underlying t=some d/\∀ms,d≠ .interface ms:=by
 obtain⟨d,hu,_⟩:=h.ag;refine⟨d,hu,λms e=>?_⟩;have:=h.d;subst e
 revert this
 cases hdd:ti.d<;>simp[hu]
 case iface m=>exact (hd m hdd).elim
section
variable {p:Pg}{H:Hid}{ρ:Env}{σ:Heap}{a:Act}{w:World}
structure rU(H:Hid)(σ:Heap)(w w':World):Prop where
 ro:∀b o,H.ro b=some o->w'.heap[b]? =some o
 own:∀b∈g_ H σ,w'.heap[b]? =w.heap[b]?
def rU.refl(hs:Sat H σ w):rU H σ w w:=⟨hs.ro,λ_ _=>rfl⟩
def rU.below(hs:Sat H σ w){w':World}(hb:Below w.heap.size w w'):rU H σ w w':=
 ⟨(hs.below hb).ro,λb hm=>hb.block b (hs.lt b hm)⟩
def rU.hZ{id ty:Nat}{cs:List GV}{w':World}(h:rU H σ w w')(hl:gW σ id=some (.hZ ty cs)):w'.heap[H.bl id]? =w.heap[H.bl id]? :=
 h.own _ (aX.2 ⟨_,ib hl,by simp[blocks]⟩)
def rU.row{id ty sz n:Nat}{rows:List (List GV)}{w':World}{xs:List Value}(h:rU H σ w w')(hl:gW σ id=some (.row ty sz rows))(ho:w.ownsRow 0 ty sz (H.sv id) n xs):w'.ownsRow 0 ty sz (H.sv id) n xs:=by
 refine⟨ho.1,?_⟩;rcases ho.2 with h1|⟨g,cap,cur,hv,hb,hh,r⟩
 ·exact .inl h1
 refine .inr ⟨g,cap,cur,hv,hb,?_,r⟩;rw[h.own g (aX.2 ⟨_,ib hl,by simp[blocks,hv,Value.ownBlock]⟩)];exact hh
def Aq(p:Pg)(H:Hid)(σ:Heap)(a:Act)(w:World)(o:Op)(K:GV->Prop):Prop:=
 ∃u g,(∀w',rU H σ w w'->∀o':Oper,o'.op=o->(execOp a.eval o').run p.P w'=.ok (.value u) w')/\Is H g u/\K g
def H5{op:BinOp}{k:IntKind}{m n:Int}{K:GV->Prop}(h:arith op k m n K):
  ∃u g,(∀t w',(binOp op t (.int k m) (.int k n)).run p.P w'=.ok u w')/\Is H g u/\K g:=by
 cases op<;>simp only[arith]at h<;> (try exact h.elim)
 case add=>exact⟨.int k (k.wrap (m+n)),_,λt w'=>by simp[binOp,Op.intArith],.ro (.v _),h⟩
 case sub=>exact⟨.int k (k.wrap (m-n)),_,λt w'=>by simp[binOp,Op.intArith],.ro (.v _),h⟩
 case mul=>exact⟨.int k (k.wrap (m*n)),_,λt w'=>by simp[binOp,Op.intArith],.ro (.v _),h⟩
 case quo=>exact⟨.int k (k.wrap (m.tdiv n)),_,λt w'=>by simp[binOp,Op.intDiv,h.1],.ro (.v _),h.2⟩
 case rem=>exact⟨.int k (m.tmod n),_,λt w'=>by simp[binOp,Op.intDiv,h.1],.ro (.v _),h.2⟩
 case and=>
  refine⟨.int k (kh .and k m n),_,λt w'=>?_,.ro (.v _),h⟩;have e:binOp .and t (.int k m) (.int k n)=Op.intBits .and k m n:=by simp[binOp]
  rw[e];rfl
 case or=>
  refine⟨.int k (kh .or k m n),_,λt w'=>?_,.ro (.v _),h⟩;have e:binOp .or t (.int k m) (.int k n)=Op.intBits .or k m n:=by simp[binOp]
  rw[e];rfl
 case xor=>
  refine⟨.int k (kh .xor k m n),_,λt w'=>?_,.ro (.v _),h⟩;have e:binOp .xor t (.int k m) (.int k n)=Op.intBits .xor k m n:=by simp[binOp]
  rw[e];rfl
 case andNot=>
  refine⟨.int k (kh .andNot k m n),_,λt w'=>?_,.ro (.v _),h⟩;have e:binOp .andNot t (.int k m) (.int k n)=Op.intBits .andNot k m n:=by simp[binOp]
  rw[e];rfl
 case eql=>exact⟨.bool (m==n),_,λt w'=>by simp[binOp,Op.intCmp],.ro (.b _),h⟩
 case neq=>exact⟨.bool (m != n),_,λt w'=>by simp[binOp,Op.intCmp],.ro (.b _),h⟩
 case lss=>exact⟨.bool (decide (m<n)),_,λt w'=>by simp[binOp,Op.intCmp],.ro (.b _),h⟩
 case leq=>exact⟨.bool (decide (m<=n)),_,λt w'=>by simp[binOp,Op.intCmp],.ro (.b _),h⟩
 case gtr=>exact⟨.bool (decide (m>n)),_,λt w'=>by simp[binOp,Op.intCmp],.ro (.b _),h⟩
 case geq=>exact⟨.bool (decide (m>=n)),_,λt w'=>by simp[binOp,Op.intCmp],.ro (.b _),h⟩
def NK{op:BinOp}{x y:ByteArray}{K:GV->Prop}(h:K4 op x y K):
  ∃u g,(∀t w',(binOp op t (.string x) (.string y)).run p.P w'=.ok u w')/\Is H g u/\K g:=by
 cases op<;>simp only[K4]at h<;> (try exact h.elim)
 case add=>
  refine⟨.string (x++y),_,λt w'=>?_,.ro (.v _),h.2⟩;have hle:¬((x.size+y.size:Nat):Int) >IntKind.i64.max:=by
   have:=h.1;have e:IntKind.i64.max=9223372036854775807:=ax
   rw[e];omega
  have e:binOp .add t (.string x) (.string y)=Op.stringOp .add x y:=rfl;rw[e];unfold Op.stringOp;simp only[];rw[if_neg hle];rfl
 case eql=>exact⟨.bool (x.toList==y.toList),_,λt w'=>rfl,.ro (.b _),h⟩
 case neq=>exact⟨.bool (!(x.toList==y.toList)),_,λt w'=>rfl,.ro (.b _),h⟩
 case lss=>exact⟨.bool (Op.bytesLess x.toList y.toList),_,λt w'=>rfl,.ro (.b _),h⟩
 case leq=>exact⟨.bool (Op.bytesLess x.toList y.toList||x.toList==y.toList),_,λt w'=>rfl,.ro (.b _),h⟩
 case gtr=>exact⟨.bool (!(Op.bytesLess x.toList y.toList||x.toList==y.toList)),_,λt w'=>rfl,.ro (.b _),h⟩
 case geq=>exact⟨.bool (!Op.bytesLess x.toList y.toList),_,λt w'=>rfl,.ro (.b _),h⟩
def qy{k j:IntKind}(h:sn k=sn j):k=j:=by cases k<;>cases j<;>first|rfl| (simp[sn]at h)
def D6{op:BinOp}{gx gy:GV}{ux uy:Value}{K:GV->Prop}(hx:Is H gx ux)(hy:Is H gy uy)(h:FJ op gx gy K)(x y:Operand)(ex:a.eval x=ux)(ey:a.eval y=uy):
  ∃u g,(∀t w',(do eqGuard op t x y ux uy;binOp op t ux uy:Sem Value).run p.P w'=.ok u w')/\Is H g u/\K g:=by
 unfold FJ at h;split at h
 ·rename_i k m j n
  have:=hx.iH;subst this;have:=hy.iH;subst this;have hgd:∀t w',(eqGuard op t x y (.int k m) (.int j n)).run p.P w'=.ok () w':=λt w'=>by
   unfold eqGuard;cases op<;>simp
  split at h
  ·refine⟨_,_,λt w'=>?_,.ro (.v _),h.2⟩;have:¬n<0:=az
   simp[hgd,binOp,Op.shift,this]
  ·refine⟨_,_,λt w'=>?_,.ro (.v _),h.2⟩;have:¬n<0:=az
   simp[hgd,binOp,Op.shift,this]
  cases hb:Nat.beq (sn k) (sn j) with
  |false=>rw[hb]at h;exact h.elim
  |true=>
   rw[hb]at h;have:=qy (beq_eq hb);subst this;obtain⟨u,g,hr,hi,hk⟩:=H5 (p:=p) (H:=H) h;exact⟨u,g,λt w'=>by simp[hgd,hr],hi,hk⟩
 ·rename_i s t
  have:=hx.iH;subst this;have:=hy.iH;subst this;obtain⟨u,g,hr,hi,hk⟩:=NK (p:=p) (H:=H) h;have hgd:∀ty w',(eqGuard op ty x y (.string s) (.string t)).run p.P w'=.ok () w':=λty w'=>by
   unfold eqGuard;cases op<;>simp
  exact⟨u,g,λt w'=>by simp[hgd,hr],hi,hk⟩
 exact h.elim
def ik{P:Program}{t:TypeId}{d:TypeDesc}(h:P.underlying t=some d)(w:World):(underlying t).run P w=.ok d w:=by
 simp[underlying,h]
def tQ{P:Program}{t:TypeId}{i:TypeInfo}(h:P.info? t=some i)(w:World):(typeInfo t).run P w=.ok i w:=by
 simp[typeInfo,h]
def BX{P:Program}{t:TypeId}{i:TypeInfo}(h:P.info? t=some i)(w:World):(sizeOf t).run P w=.ok i.size w:=by
 simp[sizeOf,tQ h]
def M7{P:Program}{t:TypeId}{ti:TI}(h:pk P t ti)(w:World):(isAgg t).run P w=.ok ti.ag w:=by
 obtain⟨d,hu,ha⟩:=h.ag;simp only[isAgg,Sem.run_bind,ik hu,Result.andThen_ok];rw[ha];cases d<;>rfl
def pk.size{P:Program}{t:Nat}{ti:TI}(h:pk P t ti)(w:World):(sizeOf t).run P w=.ok ti.sz w:=by
 obtain⟨i,z,hi,hs,_⟩:=h.info;rw[BX hi,hs]
def xd{P:Program}{t:Nat}{ti:TI}(h:pk P t ti){w:World}{ad:Addr}(us:Nat->Value)(hc:ti.ag=true->∀j,j<ti.sz->w.cell? (ad.add j)=some (us j))(h1:ti.ag=false->w.cell? ad=some (us 0)):
  (loadVar t ad).run P w=.ok (if ti.ag then .agg ((List.range ti.sz).map us).toArray else us 0) w:=by
 simp only[loadVar,Sem.run_bind,M7 h,Result.andThen_ok];cases ha:ti.ag with
 |false=>simp[h1 ha]
 |true=>
  simp only[↓reduceIte,Sem.run_bind,h.size,Result.andThen_ok];rw[run_loadCells w ad ti.sz us (hc ha)];rfl
def qw{x:Option GV}{K:GV->Prop}(h:vN x K):∃g,x=some g/\K g:=by
 cases x with
 |none=>exact h.elim
 |some g=>exact⟨g,rfl,h⟩
def M1{cs:List GV}{us:Nat->Value}(h:∀j g,cs[j]? =some g->Is H g (us j)):Is H (.agg cs) (.agg ((List.range cs.length).map us).toArray):=by
 refine .agg aA λj g hj=>?_;have hlt:=(aO.1 hj).1;have:((List.range cs.length).map us).toArray.getD j undef=us j:=by simp[hlt]
 rw[this];exact h j g hj
def IN(a b:Nat)(P:Prop):(bif Nat.ble a b then P else False)=(a<=b/\P):=by
 cases h:Nat.ble a b with
 |true=>have:=bA h;simp[this]
 |false=>
   have:¬a<=b:=λhc=>by rw[Nat.ble_eq_true_of_le hc]at h;cases h
   simp[this]
def uM {t:Nat} {ti:TI} (hti:pk p.P t ti) {x:Operand} {ad:Addr} (hx:a.eval x=.pointer (some ad)) {cs:List GV} {us:Nat->Value}
  (hcell:∀w',rU H σ w w'->∀(j:Nat) (g:GV),cs[j]? =some g->w'.cell? (ad.add j)=some (us j)) (his:∀j g,cs[j]? =some g->Is H g (us j)) {K:GV->Prop}
  (h:bif ti.ag then (ti.sz<=cs.length/\K (.agg (cs.take ti.sz))) else vN (cs[0]?) K):Aq p H σ a w (.load t x) K:=by
 cases ha:ti.ag with
 |true=>
  rw[ha]at h;obtain⟨hl,hk⟩:=h;have hlen:(cs.take ti.sz).length=ti.sz:=aq
  have hs:∀j g,(cs.take ti.sz)[j]? =some g->cs[j]? =some g:=λj g hj=>by
   rw[bD]at hj;split at hj
   ·exact hj
   cases hj
  refine⟨.agg ((List.range ti.sz).map us).toArray,_,λw' hb o' ho=>?_,?_,hk⟩
  ·simp only[execOp,ho,hx,Instr.loadAt,Instr.sureAddr,Sem.run_bind,Sem.run_pure,Result.andThen_ok];rw[xd hti us (λ_ j hj=>hcell w' hb j _ (aC az)) (λhf=>by rw[ha]at hf;cases hf)];simp[ha]
  have:=M1 (H:=H) (cs:=cs.take ti.sz) (us:=us) (λj g hj=>his j g (hs j g hj))
  rwa [hlen]at this
 |false=>
  rw[ha]at h;simp only[cond_false]at h;obtain⟨g,hc,h⟩:=qw h
  refine⟨us 0,g,λw' hb o' ho=>?_,his 0 g hc,h⟩;simp only[execOp,ho,hx,Instr.loadAt,Instr.sureAddr,Sem.run_bind,Sem.run_pure,Result.andThen_ok];have h0:=hcell w' hb 0 g hc;have ea:ad.add 0=ad:=by simp[Addr.add]
  rw[ea]at h0;rw[xd hti us (λhf=>by rw[ha]at hf;cases hf) (λ_=>h0)];simp[ha]
def Hs{b ty off:Nat}{us:Array Value}(hw:w.heap[b]? =some (.cells us ty (0,0))){j:Nat}(hj:off+j<us.size):w.cell? ((⟨b,off,none⟩:Addr).add j)=some (us.getD (off+j) undef):=by
 rw[j5];simp[World.cell?,hw,Array.getD,hj]
def r9{s:TypeId}{x:Operand}{f:Nat}{ti:TI}(hti:pk p.P s ti){fs:List (Nat×Nat×Bool)}(hd:ti.d=.struct fs){off sz:Nat}{ag:Bool}(hf:fs[f]? =some (off,sz,ag))(hsz:sz≠0){ad:Addr}(hx:a.eval x=.pointer (some ad))(w':World)(o':Oper)(ho:o'.op=.fieldAddr s x f):
  (execOp a.eval o').run p.P w'=.ok (.value (.pointer (some (ad.add off)))) w':=by
 have hd':=hti.d;rw[hd]at hd';obtain⟨fields,hu,hfs,hin⟩:=hd';have h1:=hfs f;rw[hf]at h1;cases hff:fields[f]? with
 |none=>rw[hff]at h1;cases h1
 |some fl=>
  rw[hff]at h1;simp only[cC,aV,bK]at h1;obtain⟨e1,e2,_⟩:=h1;have hmem:fl∈fields.toList:=by
   have:=(aW.1 hff);obtain⟨hlt,he⟩:=this;rw[<-he];exact gw _
  have hsome:=(hin fl hmem).1;obtain⟨i,hi⟩:=cL.1 hsome;have hsz':i.size=sz:=by
   rw[e2];simp[Program.cellsOf,hi]
  simp only[execOp,ho,hx,Instr.fieldAt,Sem.run_bind,ik hu,Result.andThen_ok];simp only[hff,Instr.sureAddr,Sem.run_pure,Sem.run_bind,Result.andThen_ok,fieldPlace,BX hi];rw[if_neg az,e1];rfl
def Ol {op:BinOp} {c:Bool} {K:GV->Prop} (h:pw op c K) {t:TypeId} {x y:Operand} {ux uy:Value}
  (hg:∀w',(eqGuard op t x y ux uy).run p.P w'=.ok () w') (h1:op=.eql->∀w',(binOp .eql t ux uy).run p.P w'=.ok (.bool c) w') (h2:op=.neq->∀w',(binOp .neq t ux uy).run p.P w'=.ok (.bool (!c)) w'):
  ∃u g,(∀w',(do eqGuard op t x y ux uy;binOp op t ux uy:Sem Value).run p.P w'=.ok u w')/\Is H g u/\K g:=by
 cases op<;>simp only[pw]at h<;> (try exact h.elim)
 case eql=>exact⟨.bool c,_,λw'=>by rw[Sem.run_bind,hg];exact h1 rfl w',.ro (.b _),h⟩
 case neq=>exact⟨.bool (!c),_,λw'=>by rw[Sem.run_bind,hg];exact h2 rfl w',.ro (.b _),h⟩
def ky {op:BinOp} {c:Bool} {K:GV->Prop} (h:pw op c K) {t:TypeId} {x y:Operand} {ux uy:Value}
  (hg:∀w',(eqGuard op t x y ux uy).run p.P w'=.ok () w') (hb:∀w',(binOp .eql t ux uy).run p.P w'=((Op.equalIn 10000 t ux uy).run p.P w').andThen λb w'=>.ok (.bool b) w')
  (hb':∀w',(binOp .neq t ux uy).run p.P w'=((Op.equalIn 10000 t ux uy).run p.P w').andThen λb w'=>.ok (.bool (!b)) w') (he:∀w',(Op.equalIn 10000 t ux uy).run p.P w'=.ok c w'):
  ∃u g,(∀w',(do eqGuard op t x y ux uy;binOp op t ux uy:Sem Value).run p.P w'=.ok u w')/\Is H g u/\K g:=
 Ol h hg (λ_ w'=>by rw[hb,he];rfl) (λ_ w'=>by rw[hb',he];rfl)
def Ll{t:TypeId}{ms:Array (String×TypeId)}(hu:p.P.underlying t=some (.interface ms))(d:Nat)(t':TypeId)(v:Value)(w':World):(Op.equalIn (d+1) t (.iface t' v) .nilIface).run p.P w'=.ok false w':=by simp[Op.equalIn,ik hu]
def Lh{t:TypeId}{ms:Array (String×TypeId)}(hu:p.P.underlying t=some (.interface ms))(d:Nat)(t':TypeId)(v:Value)(w':World):(Op.equalIn (d+1) t .nilIface (.iface t' v)).run p.P w'=.ok false w':=by simp[Op.equalIn,ik hu]
def Ld{t:TypeId}{ms:Array (String×TypeId)}(hu:p.P.underlying t=some (.interface ms))(d:Nat)(w':World):(Op.equalIn (d+1) t .nilIface .nilIface).run p.P w'=.ok true w':=by simp[Op.equalIn,ik hu]
def C_{t e:TypeId}(hu:p.P.underlying t=some (.pointer e))(d:Nat)(ad:Addr)(w':World):(Op.equalIn (d+1) t (.pointer (some ad)) (.pointer none)).run p.P w'=.ok false w':=by simp[Op.equalIn,ik hu]
def C6{t e:TypeId}(hu:p.P.underlying t=some (.pointer e))(d:Nat)(ad:Addr)(w':World):(Op.equalIn (d+1) t (.pointer none) (.pointer (some ad))).run p.P w'=.ok false w':=by simp[Op.equalIn,ik hu]
def Iq{t k e:TypeId}(hu:p.P.underlying t=some (.map k e))(d:Nat)(w':World):(Op.equalIn (d+1) t (.map none) (.map none)).run p.P w'=.ok true w':=by simp[Op.equalIn,ik hu]
def Lr{t k e:TypeId}(hu:p.P.underlying t=some (.map k e))(d b:Nat)(w':World):(Op.equalIn (d+1) t (.map (some b)) (.map none)).run p.P w'=.ok false w':=by simp[Op.equalIn,ik hu]
def Ih{t e:TypeId}(hu:p.P.underlying t=some (.pointer e))(d:Nat)(w':World):(Op.equalIn (d+1) t (.pointer none) (.pointer none)).run p.P w'=.ok true w':=by simp[Op.equalIn,ik hu]
def OD{ks:List MN}:∀{xs ys:List GV} {us vs:Array Value} {r:Bool} {fs:List Field} {i:Nat},(∀(j:Nat) (g:GV),xs[j]? =some g->Is H g (us.getD (i+j) undef)/\i+j<us.size)->(∀(j:Nat) (g:GV),ys[j]? =some g->Is H g (vs.getD (i+j) undef)/\i+j<vs.size)->
  fs.length=ks.length->(∀(j:Nat) (f:Field),fs[j]? =some f->f.name≠ "_" /\f.offset=i+j/\∃k,ks[j]? =some k/\(match k with| .int=>∃j,p.P.underlying f.type=some (.int j)| .str=>p.P.underlying f.type=some .string| .bool=>p.P.underlying f.type=some .bool))->
  xA ks xs ys=some r->∀w',(Op.eqFields 9999 us vs fs).run p.P w'=.ok r w':=by
 induction ks with
 |nil=>
  intro xs ys us vs r fs i _ _ hl _ h w';have:fs=[]:=bU hl;subst this;simp[xA]at h;subst h;rfl
 |cons k ks ih=>
  intro xs ys us vs r fs i hx hy hl hf h w'
  match fs,hl with
  |f::fs,hl=>
   obtain⟨hn,ho,k',hk',hu⟩:=hf 0 f rfl;simp at hk' ho;subst hk';have hstep:∀(c:Bool) (xs' ys':List GV) (gx gy:GV),xs=gx::xs'->ys=gy::ys'->(∀w',(Op.equalIn 9999 f.type (us.getD i undef) (vs.getD i undef)).run p.P w'=.ok c w')->(∀w',(isAgg f.type).run p.P w'=.ok false w')->
     (match xA ks xs' ys' with|some r=>some (c&&r)|none=>none)=some r->(Op.eqFields 9999 us vs (f::fs)).run p.P w'=.ok r w':=by
    intro c xs' ys' gx gy ex ey he hag hr;subst ex;subst ey;have hpx:∀w',(part f.type us f.offset).run p.P w'=.ok (us.getD i undef) w':=λw'=>by
     have hlt:=(hx 0 gx rfl).2;simp only[b8]at hlt;have e:us[i]? =some (us.getD i undef):=by simp[Array.getD,hlt]
     simp only[part,Sem.run_bind,hag,Result.andThen_ok,ho];simp only[a7,if_false,e];rfl
    have hpy:∀w',(part f.type vs f.offset).run p.P w'=.ok (vs.getD i undef) w':=λw'=>by
     have hlt:=(hy 0 gy rfl).2;simp only[b8]at hlt;have e:vs[i]? =some (vs.getD i undef):=by simp[Array.getD,hlt]
     simp only[part,Sem.run_bind,hag,Result.andThen_ok,ho];simp only[a7,if_false,e];rfl
    simp only[Op.eqFields];rw[if_pos hn];simp only[Sem.run_bind,hpx,hpy,he,Result.andThen_ok];cases hg:xA ks xs' ys' with
    |none=>rw[hg]at hr;cases hr
    |some r'=>
     rw[hg]at hr;simp only[aV]at hr;subst hr;have:=ih (xs:=xs') (ys:=ys') (us:=us) (vs:=vs) (i:=i+1) (fs:=fs) (λj g hj=>by have:=hx (j+1) g (by simpa using hj);rwa [show i+(j+1)=i+1+j by omega]at this)
      (λj g hj=>by have:=hy (j+1) g (by simpa using hj);rwa [show i+(j+1)=i+1+j by omega]at this) (by simpa using hl)
      (λj f' hj=>by have:=hf (j+1) f' (by simpa using hj);rw[show i+(j+1)=i+1+j by omega]at this;simpa using this) hg w'
     cases c with
     |true=>simp[this]
     |false=>simp
   unfold xA at h;split at h
   ·rename_i e;cases e
   ·rename_i ks0 k1 a xs' k2 b ys' e
    simp at e;obtain⟨rfl,rfl⟩:=e;obtain⟨jj,hu⟩:=hu;cases hb:Nat.beq (sn k1) (sn k2) with
    |false=>rw[hb]at h;cases h
    |true=>
     rw[hb]at h;have:=qy (beq_eq hb);subst this;have h1:=(hx 0 _ rfl).1.iH;have h2:=(hy 0 _ rfl).1.iH;simp only[b8]at h1 h2;exact hstep (a==b) xs' ys' _ _ rfl rfl (λw'=>by rw[h1,h2];exact run_equalIn_int w' 9998 f.type k1 jj a b hu) (λw'=>by simp[isAgg,ik hu]) h
   ·rename_i ks0 a xs' b ys' e
    simp at e;obtain⟨rfl,rfl⟩:=e;have h1:=(hx 0 _ rfl).1.iH;have h2:=(hy 0 _ rfl).1.iH;simp only[b8]at h1 h2;exact hstep (a.toList==b.toList) xs' ys' _ _ rfl rfl (λw'=>by rw[h1,h2];exact run_equalIn_string w' 9998 f.type a b hu) (λw'=>by simp[isAgg,ik hu]) h
   ·rename_i ks0 a xs' b ys' e
    simp at e;obtain⟨rfl,rfl⟩:=e;have h1:=(hx 0 _ rfl).1.nF;have h2:=(hy 0 _ rfl).1.nF;simp only[b8]at h1 h2;exact hstep (a==b) xs' ys' _ _ rfl rfl (λw'=>by rw[h1,h2];exact run_equalIn_bool' w' 9998 f.type a b hu) (λw'=>by simp[isAgg,ik hu]) h
   cases h
def Ls(hp:p.Ok)(hs:Sat H σ w){op:BinOp}{t:TypeId}{gx gy:GV}{K:GV->Prop}{x y:Operand}{ux uy:Value}(hx:Is H gx ux)(hy:Is H gy uy)(h:O4 p σ op t (G2 x||G2 y) gx gy K):
  ∃u g,(∀w',(do eqGuard op t x y ux uy;binOp op t ux uy:Sem Value).run p.P w'=.ok u w')/\Is H g u/\K g:=by
 unfold O4 at h;cases hti:jv p.tt t with
 |none=>rw[hti]at h;exact h.elim
 |some ti=>
  rw[hti]at h;have hok:=hp.tt _ _ hti;have hd:=hok.d;simp only at h;split at h
  ·rename_i m ti' g' e
   rw[e]at hd;obtain⟨ms,hu,_⟩:=hd;obtain⟨v,rfl,_⟩:=hx.rQ;have:=hy.iH;subst this;exact ky h (λw'=>by cases op<;>simp[eqGuard]) (λw'=>by simp[binOp,Op.equal,Op.maxDepth]) (λw'=>by simp[binOp,Op.equal,Op.maxDepth]) (Ll hu 9999 _ v)
  ·rename_i m ti' g' e
   rw[e]at hd;obtain⟨ms,hu,_⟩:=hd;obtain⟨v,rfl,_⟩:=hy.rQ;have:=hx.iH;subst this;exact ky h (λw'=>by cases op<;>simp[eqGuard]) (λw'=>by simp[binOp,Op.equal,Op.maxDepth]) (λw'=>by simp[binOp,Op.equal,Op.maxDepth]) (Lh hu 9999 _ v)
  ·rename_i m e
   rw[e]at hd;obtain⟨ms,hu,_⟩:=hd;have:=hx.iH;subst this;have:=hy.iH;subst this;cases hc:(G2 x||G2 y) with
   |false=>rw[hc]at h;exact h.elim
   |true=>
    rw[hc]at h;refine ky h (λw'=>?_) (λw'=>by simp[binOp,Op.equal,Op.maxDepth]) (λw'=>by simp[binOp,Op.equal,Op.maxDepth]) (Ld hu 9999);cases x<;>cases y<;>first| (simp[G2]at hc;done)| (cases op<;>simp[eqGuard])
  ·rename_i e
   rw[e]at hd;obtain⟨el,hu⟩:=hd;have:=hx.iH;subst this;have:=hy.iH;subst this;exact ky h (λw'=>by cases op<;>simp[eqGuard]) (λw'=>by simp[binOp,Op.equal,Op.maxDepth]) (λw'=>by simp[binOp,Op.equal,Op.maxDepth]) (Ih hu 9999)
  ·rename_i id off e
   rw[e]at hd;obtain⟨el,hu⟩:=hd;obtain⟨rfl,_⟩:=hx.qf;have:=hy.iH;subst this;exact ky h (λw'=>by cases op<;>simp[eqGuard]) (λw'=>by simp[binOp,Op.equal,Op.maxDepth]) (λw'=>by simp[binOp,Op.equal,Op.maxDepth]) (C_ hu 9999 _)
  ·rename_i id off e
   rw[e]at hd;obtain⟨el,hu⟩:=hd;obtain⟨rfl,_⟩:=hy.qf;have:=hx.iH;subst this;exact ky h (λw'=>by cases op<;>simp[eqGuard]) (λw'=>by simp[binOp,Op.equal,Op.maxDepth]) (λw'=>by simp[binOp,Op.equal,Op.maxDepth]) (C6 hu 9999 _)
  ·rename_i cs e
   rw[e]at hd;obtain⟨el,hu⟩:=hd;obtain⟨ad,us,rfl,_⟩:=hy.x5;have:=hx.iH;subst this;exact ky h (λw'=>by cases op<;>simp[eqGuard]) (λw'=>by simp[binOp,Op.equal,Op.maxDepth]) (λw'=>by simp[binOp,Op.equal,Op.maxDepth]) (C6 hu 9999 ad)
  ·rename_i k' e' e
   rw[e]at hd;have:=hx.iH;subst this;have:=hy.iH;subst this;exact ky h (λw'=>by cases op<;>simp[eqGuard]) (λw'=>by simp[binOp,Op.equal,Op.maxDepth]) (λw'=>by simp[binOp,Op.equal,Op.maxDepth]) (Iq hd 9999)
  ·rename_i k' e' id e
   rw[e]at hd;have hyv:=hy.iH;subst hyv;obtain⟨hv,_⟩:=hx.mh;have key:∀b,H.sv id=.map (some b)->pw op false K->∃u g,(∀w',(do eqGuard op t x y ux (.map none);binOp op t ux (.map none):Sem Value).run p.P w'=.ok u w')/\Is H g u/\K g:=λb hb h=>by
    rw[hb]at hv;subst hv;exact ky h (λw'=>by cases op<;>simp[eqGuard]) (λw'=>by simp[binOp,Op.equal,Op.maxDepth]) (λw'=>by simp[binOp,Op.equal,Op.maxDepth]) (Lr hd 9999 b)
   split at h
   ·rename_i kd es hl
    obtain⟨b,_,_,hb,_⟩:=hs.holds _ (ib hl);exact key b hb h
   ·rename_i m hl
    obtain⟨_,he,b,hb⟩:=hs.holds _ (ib hl);exact key b (he.trans hb) h
   exact h.elim
  ·rename_i cs e
   rw[e]at hd;obtain⟨el,hu⟩:=hd;obtain⟨ad,us,rfl,_⟩:=hx.x5;have:=hy.iH;subst this;exact ky h (λw'=>by cases op<;>simp[eqGuard]) (λw'=>by simp[binOp,Op.equal,Op.maxDepth]) (λw'=>by simp[binOp,Op.equal,Op.maxDepth]) (C_ hu 9999 ad)
  ·rename_i a b e
   rw[e]at hd;have:=hx.nF;subst this;have:=hy.nF;subst this;exact ky h (λw'=>by cases op<;>simp[eqGuard]) (λw'=>by simp[binOp,Op.equal,Op.maxDepth]) (λw'=>by simp[binOp,Op.equal,Op.maxDepth]) (λw'=>run_equalIn_bool' w' 9999 t a b hd)
  ·rename_i a b e
   rw[e]at hd;have:=hx.nF;subst this;have:=hy.iH;subst this;exact ky h (λw'=>by cases op<;>simp[eqGuard]) (λw'=>by simp[binOp,Op.equal,Op.maxDepth]) (λw'=>by simp[binOp,Op.equal,Op.maxDepth]) (λw'=>run_equalIn_bool' w' 9999 t a b hd)
  ·rename_i a b e
   rw[e]at hd;have:=hx.iH;subst this;have:=hy.nF;subst this;exact ky h (λw'=>by cases op<;>simp[eqGuard]) (λw'=>by simp[binOp,Op.equal,Op.maxDepth]) (λw'=>by simp[binOp,Op.equal,Op.maxDepth]) (λw'=>run_equalIn_bool' w' 9999 t a b hd)
  ·rename_i a b e
   rw[e]at hd;have:=hx.iH;subst this;have:=hy.iH;subst this;exact ky h (λw'=>by cases op<;>simp[eqGuard]) (λw'=>by simp[binOp,Op.equal,Op.maxDepth]) (λw'=>by simp[binOp,Op.equal,Op.maxDepth]) (λw'=>run_equalIn_bool' w' 9999 t a b hd)
  ·rename_i fs xs ys e
   split at h
   ·rename_i ks hk
    split at h
    ·rename_i r hr
     obtain⟨hgt,hst,fields,hu,hfl,hff⟩:=hok.eqk ks hk;obtain⟨us,rfl,hl,hi⟩:=hx.rN;obtain⟨vs,rfl,hl',hi'⟩:=hy.rN;have hfo:p.P.fieldsOf t=fields:=by simp[Program.fieldsOf,hu]
     refine ky h (λw'=>run_eqGuard_agg w' op t x y us vs hgt) (λw'=>run_eql_struct w' t us vs) (λw'=>run_neq_struct w' t us vs) (λw'=>?_);rw[run_equalIn_struct w' 9999 t us vs (by rw[hfo];exact hu) hst,hfo];refine OD (H:=H) (i:=0) (xs:=xs) (ys:=ys) (ks:=ks) (λj g hj=>?_) (λj g hj=>?_) (by simpa using hfl) (λj f hj=>?_) hr w'
     ·simp only[cy];exact⟨hi j g hj,by rw[<-hl];exact (aO.1 hj).1⟩
     ·simp only[cy];exact⟨hi' j g hj,by rw[<-hl'];exact (aO.1 hj).1⟩
     simp only[cy];exact hff j f (by simpa using hj)
    exact h.elim
   exact h.elim
  exact h.elim
def u0(hg:iX p H)(hρ:jH H ρ a){args:Array Operand}{g:GV}(h:qR p ρ args.toList=some [g]):∃x,args=#[x]/\Is H g (a.eval x):=by
 obtain⟨hl,hi⟩:=xh hg hρ h;obtain⟨x,hx,his⟩:=hi 0 g rfl;obtain⟨l⟩:=args
 match l,hl with
 | [y],_=>simp at hx;subst hx;exact⟨_,rfl,his⟩
def AL(hg:iX p H)(hρ:jH H ρ a){args:Array Operand}{g g':GV}(h:qR p ρ args.toList=some [g,g']):∃x y,args=#[x,y]/\Is H g (a.eval x)/\Is H g' (a.eval y):=by
 obtain⟨hl,hi⟩:=xh hg hρ h;obtain⟨x,hx,his⟩:=hi 0 g rfl;obtain⟨y,hy,hjs⟩:=hi 1 g' rfl;obtain⟨l⟩:=args
 match l,hl with
 | [_,_],_=>simp at hx hy;subst hx;subst hy;exact⟨_,_,rfl,his,hjs⟩
def HM{H:Hid}:∀{es:List (Value×GV)} {arr:List MapEntry},mT H es arr->es.length=arr.length
 | [],[],_=>rfl
 | (k,g)::r,e::s,h=>by simp[HM h.2.2]
 | [],_::_,h=>h.elim
 |_::_,[],h=>h.elim
def Up{a b:ByteArray}(h:(a==b)=true):a=b:=(MapKept.bytes_beq a b).1 h
def kH{kd:Option IntKind}{a b:Value}(ha:iq kd a=true)(hb:iq kd b=true)(h:iA a b=true):a=b:=by
 cases kd with
 |none=>
  cases a<;>simp only[iq,a7]at ha;cases b<;>simp only[iq,a7]at hb;rw[Up h]
 |some k=>
  cases a<;>simp only[iq,a7]at ha;cases b<;>simp only[iq,a7]at hb;simp only[iA,beq_iff_eq]at h;rw[<-qy (beq_eq ha),<-qy (beq_eq hb),h]
def lG(k:Value):List MapEntry->Nat->Option (Nat×Value)
 | [],_=>none
 |e::r,i=>if iA k e.key=true then some (i,e.val) else lG k r (i+1)
def so:Option IntKind->TypeDesc
 |some k=>.int k
 |none=>.string
def CI{kd:Option IntKind}{k:Value}(hk:iq kd k=true):∀(l:List MapEntry) (i:Nat),(∀e∈l,iq kd e.key=true)->Instr.findNow (so kd) k l i=some (lG k l i)
 | [],i,_=>rfl
 |e::r,i,h=>by
  have he:=h e bf;have ih:=CI hk r (i+1) (λx hx=>h x (aK _ hx));have hs:Instr.sameNow (so kd) k e.key=some (iA k e.key):=by
   revert hk he
   generalize e.key=b;intro hk he;cases kd with
   |none=>
    cases k<;>simp only[iq,a7]at hk;cases b<;>simp only[iq,a7]at he;rfl
   |some q=>
    cases k<;>simp only[iq,a7]at hk;cases b<;>simp only[iq,a7]at he;simp[Instr.sameNow,so,iA,<-qy (beq_eq hk),<-qy (beq_eq he)]
  unfold Instr.findNow lG;rw[hs];cases hv:iA k e.key with
  |true=>simp
  |false=>simpa using ih
def qj{H:Hid}{k:Value}:∀{es:List (Value×GV)} {l:List MapEntry} {i:Nat},mT H es l->∀g,jl k es=some g->∃j e,lG k l i=some (i+j,e.val)/\l[j]? =some e/\iA k e.key=true/\Is H g e.val
 | [],[],i,_,g,h=>by simp[jl]at h
 | (k',g')::r,e::s,i,hh,g,h=>by
  obtain⟨h1,h2,h3⟩:=hh;unfold jl at h;unfold lG;rw[h1];by_cases hv:iA k k'=true
  ·rw[if_pos hv]at h|-;cases h;exact⟨0,e,rfl,rfl,by rw[h1];exact hv,h2⟩
  rw[if_neg hv]at h|-;obtain⟨j,x,e1,e2,e3⟩:=qj (i:=i+1) h3 g h;exact⟨j+1,x,by rw[e1];congr 2;omega,by simpa using e2,e3⟩
 | [],_::_,_,h,_,_=>h.elim
 |_::_,[],_,h,_,_=>h.elim
def vH{H:Hid}{k:Value}:∀{es:List (Value×GV)} {l:List MapEntry} {i:Nat},mT H es l->jl k es=none->lG k l i=none
 | [],[],i,_,h=>rfl
 | (k',g')::r,e::s,i,hh,h=>by
  obtain⟨h1,h2,h3⟩:=hh;unfold jl at h;unfold lG;rw[h1];by_cases hv:iA k k'=true
  ·rw[if_pos hv]at h;cases h
  rw[if_neg hv]at h|-;exact vH h3 h
 | [],_::_,_,h,_=>h.elim
 |_::_,[],_,h,_=>h.elim
def Aa{H:Hid}:∀{es:List (Value×GV)} {l:List MapEntry},mT H es l->l.map (·.key)=es.map (·.1)
 | [],[],_=>rfl
 | (k',g')::r,e::s,hh=>by simp[hh.1,Aa hh.2.2]
 | [],_::_,h=>h.elim
 |_::_,[],h=>h.elim
def tH{α β:Type}{f:α->β}:∀{l:List α},(l.map f).Nodup->∀{x y:α},x∈l->y∈l->f x=f y->x=y
 | [],_,x,y,hx,_,_=>by cases hx
 |a::r,h,x,y,hx,hy,e=>by
  simp only[bb,bJ]at h;rcases aF.1 hx with hx'|hx'
  ·rcases aF.1 hy with hy'|hy'
   ·exact hx'.trans hy'.symm
   subst hx';exact (h.1 (by rw[e];exact cc hy')).elim
  rcases aF.1 hy with hy'|hy'
  ·subst hy';exact (h.1 (by rw[<-e];exact cc hx')).elim
  exact tH h.2 hx' hy' e
def tD{P:Program}{t:Nat}{ti:TI}(h:pk P t ti){kd:Option IntKind}(hk:BD ti.d=some kd):P.underlying t=some (so kd):=by
 have hd:=h.d;cases hti:ti.d<;>rw[hti]at hk hd<;>simp only[BD,aV]at hk<;> (try (cases hk;done))
 ·subst hk;exact hd
 subst hk;exact hd
def sL{a b:Option IntKind}(h:qT a b=true):a=b:=by
 cases a<;>cases b<;>simp only[qT,a7]at h
 ·rfl
 rw[qy (beq_eq h)]
def run_checkKey{P:Program}{t:TypeId}{kd:Option IntKind}(hu:P.underlying t=some (so kd))(b:Bool)(n:Nat)(v:Value)(w:World):(Instr.checkKey b (n+1) t v).run P w=.ok () w:=by
 cases kd<;>simp[Instr.checkKey,ik hu,so]
def run_findKey{P:Program}{t:TypeId}{kd:Option IntKind}(hu:P.underlying t=some (so kd)){k:Value}(hk:iq kd k=true){l:List MapEntry}(hl:∀e∈l,iq kd e.key=true)(w:World):(Instr.findKey t k l).run P w=.ok (lG k l 0) w:=by
 simp[Instr.findKey,ik hu,CI hk l 0 hl]
def BJ{P:Program}{t:Nat}{ti:TI}(h:pk P t ti){z:GV}(hz:FF ti=some z):∃v,(∀w,(zeroValue t).run P w=.ok v w)/\∀H:Hid,Is H z v:=by
 obtain⟨i,v,hi,_,_,hiz,hc,hl⟩:=h.info;obtain⟨d,hu,hag⟩:=h.ag;refine⟨v,λw=>by simp[zeroValue,tQ hi,hiz],λH=>?_⟩;obtain⟨i',v',hi',hz',hza⟩:=h.zag;rw[hi]at hi';cases hi';rw[hiz]at hz';cases hz';unfold FF at hz;rw[<-hza]at hz;cases v with
 |agg us=>
  simp only[J6,cond_true,aV]at hz;subst hz;have hus:us.toList=ti.zero:=hc;refine .agg (by simp[<-hus]) (λj g hj=>?_);rw[<-hus]at hj;simp only[bg,cu]at hj;obtain⟨x,hx,rfl⟩:=hj;have:us.getD j undef=x:=by
   rw[bn];have:us[j]? =some x:=by simpa using hx
   rw[this];rfl
  rw[this];exact .ro (.v x)
 |_=>
  simp only[J6,cond_false,<-hc,Value.cells,aV]at hz;subst hz;exact .ro (.v _)
def F3{H:Hid}{c:Bool}{g:GV}{v:Value}(h:Is H g v)(b:Bool):Is H (QA c g b) (if c then .tuple #[v,.bool b] else v):=by
 cases c with
 |false=>exact h
 |true=>
  refine .tup rfl (λj g' hj=>?_)
  match j with
  |0=>simp at hj;subst hj;exact h
  |1=>simp at hj;subst hj;exact .ro (.v _)
  |j+2=>simp at hj
def Du{P:Program}{t kt et:TypeId}(hu:P.underlying t=some (.map kt et)){kd:Option IntKind}(hk:P.underlying kt=some (so kd))(kv:Value){z:Value}(hz:∀w,(zeroValue et).run P w=.ok z w)(c:Bool)(w:World):
  (Instr.lookup t (.map none) kv c).run P w=.ok (if c then .tuple #[z,.bool false] else z) w:=by
 have h1:=run_checkKey hk true 9999 kv w;cases c<;>cases kd<;>simp[Instr.lookup,ik hu,h1,Instr.findKey,ik hk,so,Instr.findNow,hz]
def w7 {P:Program} {t kt et:TypeId} (hu:P.underlying t=some (.map kt et)) {kd:Option IntKind} (hk:P.underlying kt=some (so kd)) {c:Bool} {kv:Value} (hs:iq kd kv=true) {b clock:Nat} {arr:Array MapEntry} {w:World} (hw:w.heap[b]? =some (.map arr clock))
  (hl:∀e∈arr.toList,iq kd e.key=true) {z:Value} (hz:∀w,(zeroValue et).run P w=.ok z w) (r:Option (Nat×Value)) (hr:lG kv arr.toList 0=r):
  (Instr.lookup t (.map (some b)) kv c).run P w=.ok (match r with|some (_,v)=>if c then .tuple #[v,.bool true] else v|none=>if c then .tuple #[z,.bool false] else z) w:=by
 have h1:=run_checkKey hk arr.isEmpty 9999 kv w;have h2:=run_findKey hk hs hl w;rw[hr]at h2;cases c<;>cases r<;>simp[Instr.lookup,ik hu,getObj,Sem.run,hw,h1,h2,hz]
def CC{H:Hid}{σ:Heap}{w:World}(hs:Sat H σ w){g:GV}{kd:Option IntKind}{es:List (Value×GV)}(h:mapOf σ g=some (kd,es)):
  ∃id b arr clock,g=.o id/\H.sv id=.map (some b)/\b∈g_ H σ/\w.heap[b]? =some (.map arr clock)/\kB H kd es arr clock:=by
 cases g with
 |o id=>
  simp only[mapOf]at h;split at h
  ·rename_i kd' es' hl
   simp only[aV,bK]at h;obtain⟨rfl,rfl⟩:=h;obtain⟨b,arr,clock,hb,hw,hm⟩:=hs.holds _ (ib hl);exact⟨id,b,arr,clock,rfl,hb,aX.2 ⟨_,ib hl,by simp[blocks,hb,ju]⟩,hw,hm⟩
  ·rename_i m hl
   split at h
   ·rename_i kd' es' left cur hl2
    simp only[aV,bK]at h;obtain⟨rfl,rfl⟩:=h;obtain⟨_,he,_⟩:=hs.holds _ (ib hl);obtain⟨b,arr,clock,seen,hb,_,hw,hm,_⟩:=hs.holds _ (ib hl2);exact⟨id,b,arr,clock,rfl,he.trans hb,aX.2 ⟨_,ib hl2,by simp[blocks,hb,ju]⟩,hw,hm⟩
   cases h
  cases h
 |_=>simp[mapOf]at h
def nh{c:Call}{b:Builtin}(hc:c.callee=.builtin b)(o':Oper)(ho:o'.op=.call c)(w':World):
  ∃k,(execOp a.eval o').run p.P w'=(builtin b c.argTypes o'.type k (c.args.map a.eval)).run p.P w':=by
 simp only[execOp,ho,resolve,hc];simp only[Sem.run_bind,Sem.run_pure,Result.andThen_ok,invoke];exact⟨_,rfl⟩
def Q3(hp:p.Ok)(hg:iX p H)(hρ:jH H ρ a)(hs:Sat H σ w){c:Call}{K:GV->Prop}(h:pv p ρ σ (.call c) K):Aq p H σ a w (.call c) K:=by
 obtain⟨callee,args,ts⟩:=c;cases callee with
 |value f=>exact h.elim
 |invoke r m=>exact h.elim
 |builtin b=>
  cases b<;>simp only[pv]at h<;> (try exact h.elim)
  case len=>
   have tok:∀ti,(match ts.toList with| [t]=>jv p.tt t|_=>none)=some ti->∃t,ts=#[t]/\pk p.P t ti:=by
    intro ti he;obtain⟨l⟩:=ts
    match l,he with
    | [t],he=>exact⟨t,rfl,hp.tt _ _ he⟩
   have len1:∀(x:Operand) (t:TypeId) (d:TypeDesc) (v:Value),args=#[x]->ts=#[t]->p.P.underlying t=some d->
     (∀w' ty,rU H σ w w'->(Builtin.len_ #[t] ty #[a.eval x]).run p.P w'=.ok v w')->
     ∀w',rU H σ w w'->∀o':Oper,o'.op=.call {callee:=.builtin .len,args:=args,argTypes:=ts}->(execOp a.eval o').run p.P w'=.ok (.value v) w':=by
    intro x t d v hx ht hu hr w' hb o' ho;obtain⟨k,hk⟩:=nh (p:=p) (a:=a) rfl o' ho w';rw[hk];subst hx;subst ht;have h1:=hr w' o'.type hb;simp[builtin,h1]
   split at h
   ·rename_i sz by_ ag _z _q s hti hx
    obtain⟨x,hx,hi⟩:=u0 hg hρ hx;obtain⟨t,ht,hok⟩:=tok _ hti;exact⟨_,_,len1 x t _ (.int .i64 s.size) hx ht hok.d (λw' ty hb=>by simp[Builtin.len_,ik hok.d,hi.iH,goInt]),.ro (.v _),h⟩
   ·rename_i sz by_ ag _z e _q z rows hti hx
    obtain⟨x,hx,hi⟩:=u0 hg hρ hx;obtain⟨t,ht,hok⟩:=tok _ hti;obtain⟨A,c,us,hv,_⟩:=hi.ny.ny;exact⟨_,_,len1 x t _ (.int .i64 rows.length) hx ht hok.d (λw' ty hb=>by simp[Builtin.len_,ik hok.d,hv,goInt]),.ro (.v _),h⟩
   ·rename_i sz by_ ag _z e _q A n c hti hx
    obtain⟨x,hx,hi⟩:=u0 hg hρ hx;obtain⟨t,ht,hok⟩:=tok _ hti;exact⟨_,_,len1 x t _ (.int .i64 n) hx ht hok.d (λw' ty hb=>by simp[Builtin.len_,ik hok.d,hi.iH,goInt]),.ro (.v _),h⟩
   ·rename_i sz by_ ag _z e _q id hti hx
    obtain⟨x,hx,hi⟩:=u0 hg hρ hx;obtain⟨t,ht,hok⟩:=tok _ hti;obtain⟨hv,hid⟩:=hi.mh;split at h
    ·rename_i ty z rows hl
     obtain⟨xs,hown,_⟩:=hs.holds _ (ib hl);refine⟨_,_,len1 x t _ (.int .i64 rows.length) hx ht hok.d (λw' ty' hb=>?_),.ro (.v _),h⟩;rcases hown.2 with ⟨he,hn⟩|⟨g,cap,cur,he,_⟩
     ·simp[Builtin.len_,ik hok.d,hv,he,hn,goInt]
     simp[Builtin.len_,ik hok.d,hv,he,goInt]
    ·rename_i z n hl
     obtain⟨A,c,he,_⟩:=hs.holds _ (ib hl);exact⟨_,_,len1 x t _ (.int .i64 n) hx ht hok.d (λw' ty' hb=>by simp[Builtin.len_,ik hok.d,hv,he,goInt]),.ro (.v _),h⟩
    ·rename_i i z lo n hl
     obtain⟨_,A,c,he,_⟩:=hs.holds _ (ib hl);exact⟨_,_,len1 x t _ (.int .i64 n) hx ht hok.d (λw' ty' hb=>by simp[Builtin.len_,ik hok.d,hv,he,goInt]),.ro (.v _),h⟩
    exact h.elim
   ·rename_i sz by_ ag _z k e _q hti hx
    obtain⟨x,hx,hi⟩:=u0 hg hρ hx;obtain⟨t,ht,hok⟩:=tok _ hti;exact⟨_,_,len1 x t _ (.int .i64 0) hx ht hok.d (λw' ty hb=>by simp[Builtin.len_,ik hok.d,hi.iH,goInt]),.ro (.v _),h⟩
   ·rename_i sz by_ ag _z k e _q id hti hx
    obtain⟨x,hx,hi⟩:=u0 hg hρ hx;obtain⟨t,ht,hok⟩:=tok _ hti;obtain⟨hv,hid⟩:=hi.mh;have key:∀(es:List (Value×GV)) b arr clock kd,H.sv id=.map (some b)->w.heap[b]? =some (.map arr clock)->kB H kd es arr clock->b∈g_ H σ->K (.v (.int .i64 es.length))->Aq p H σ a w (.call ⟨.builtin .len,args,ts⟩) K:=λes b arr clock kd hb hw hm hbm h=>by
     refine⟨_,_,len1 x t _ (.int .i64 es.length) hx ht hok.d (λw' ty hag=>?_),.ro (.v _),h⟩;have hw':w'.heap[b]? =some (.map arr clock):=(hag.own b hbm).trans hw;simp[Builtin.len_,ik hok.d,hv,hb,getObj,Sem.run,hw',goInt,HM hm.is]
    split at h
    ·rename_i kd es hl
     obtain⟨id',b,arr,clock,e,hb,hbm,hw,hm⟩:=CC hs hl;injection e with e;subst e;exact key es b arr clock kd hb hw hm hbm h
    exact h.elim
   exact h.elim
  case min=>
   split at h
   ·rename_i k x j y hx
    obtain⟨x',y',he,hi,hj⟩:=AL hg hρ hx;refine⟨.int k (if y<x then y else x),_,λw' hb o' ho=>?_,.ro (.v _),h⟩;obtain⟨q,hq⟩:=nh (p:=p) (a:=a) rfl o' ho w';rw[hq];subst he;simp[builtin,Builtin.min_,Builtin.min2,hi.iH,hj.iH]
   exact h.elim
  case max=>
   split at h
   ·rename_i k x j y hx
    obtain⟨x',y',he,hi,hj⟩:=AL hg hρ hx;refine⟨.int k (if y>x then y else x),_,λw' hb o' ho=>?_,.ro (.v _),h⟩;obtain⟨q,hq⟩:=nh (p:=p) (a:=a) rfl o' ho w';rw[hq];subst he;simp[builtin,Builtin.max_,Builtin.max2,hi.iH,hj.iH]
   exact h.elim
def Bp(hg:iX p H)(hρ:jH H ρ a){d n:Int}{x:Option Operand}(h:vo p ρ d x=some n):(x=none/\n=d)\/∃k y,x=some y/\a.eval y=.int k n:=by
 cases x with
 |none=>simp[vo]at h;exact .inl ⟨rfl,h.symm⟩
 |some y=>
  simp only[vo]at h;split at h
  ·rename_i k m hy
   simp at h;subst h;exact .inr ⟨k,y,rfl,(iE hg hρ hy).iH⟩
  cases h
def run_sliceBound{k:IntKind}{i:Int}{y:Nat}{c:BoundsCode}(h0:0<=i)(h1:i<=y)(w':World):(Instr.sliceBound (.int k i) y c).run p.P w'=.ok i.toNat w':=by
 simp[Instr.sliceBound,asIntOf,h0,h1]
def qI(hg:iX p H)(hρ:jH H ρ a){lo hi:Option Operand}{isS:Bool}{len cap:Nat}{l h:Int}(hl:vo p ρ 0 lo=some l)(hh:vo p ρ len hi=some h)(h0:0<=l)(h1:l<=h)(h2:h<=len)(hc:len<=cap)(w':World):
  (Instr.sliceBounds isS len cap (lo.map a.eval) (hi.map a.eval) none).run p.P w'=.ok (l.toNat,h.toNat,cap) w':=by
 have hb:∀c,(∀k,(Instr.sliceBound (.int k h) cap c).run p.P w'=.ok h.toNat w'):=λc k=>run_sliceBound az az w';have ha:∀c,(∀k,(Instr.sliceBound (.int k l) h.toNat c).run p.P w'=.ok l.toNat w'):=λc k=>run_sliceBound h0 az w';unfold Instr.sliceBounds;rcases Bp hg hρ hh with ⟨rfl,rfl⟩|⟨k,y,rfl,hv⟩
 ·rcases Bp hg hρ hl with ⟨rfl,rfl⟩|⟨k',y',rfl,hv'⟩
  ·simp
  simp only[bj]at ha;simp[hv',ha]
 rcases Bp hg hρ hl with ⟨rfl,rfl⟩|⟨k',y',rfl,hv'⟩
 ·simp[hv,hb]
 simp[hv,hb,hv',ha]
def Ag(hp:p.Ok){t:TypeId}(h:y9 p.tt t=true):∃e,p.P.underlying t=some (.slice e)/\p.P.underlying e=some (.int .u8):=by
 unfold y9 at h;split at h
 ·rename_i e _ hti
  split at h
  ·rename_i _ he
   exact⟨e,(hp.tt _ _ hti).d,(hp.tt _ _ he).d⟩
  cases h
 cases h
def foldl_push(s:List UInt8):∀(b:ByteArray),(s.map λx:UInt8=>(x.toNat:Int)).foldl (λr n=>r.push (UInt8.ofNat n.toNat)) b=⟨b.data++s.toArray⟩:=by
 induction s with
 |nil=>intro b;simp
 |cons x s ih=>
  intro b;simp only[bb,bC,ih,bj];rw[show UInt8.ofNat x.toNat=x by simp];simp[ByteArray.push]
def Ew(w':World)(A:Option Addr)(c:Nat)(s:List UInt8)(h:s≠ []->∃ad,A=some ad/\∀(j:Nat) (b:UInt8),s[j]? =some b->w'.cell? (ad.add j)=some (.int .u8 (b.toNat:Int))):(Conv.bytesToString (.slice A s.length c)).run p.P w'=.ok (.string ⟨s.toArray⟩) w':=by
 have fin:∀ad:Addr,(∀(j:Nat) (b:UInt8),s[j]? =some b->w'.cell? (ad.add j)=some (.int .u8 (b.toNat:Int)))->(Conv.bytesToString (.slice (some ad) s.length c)).run p.P w'=.ok (.string ⟨s.toArray⟩) w':=λad hj=>by
  have hl:=run_loadCells_list (P:=p.P) (w:=w') ad (s.map λb=>Value.int .u8 (b.toNat:Int)) (λj v hv=>by
   rw[bg]at hv;cases hs:s[j]? with
   |none=>rw[hs]at hv;cases hv
   |some b=>rw[hs]at hv;simp at hv;subst hv;exact hj j b hs)
  rw[aD]at hl;have:=run_bytesToString (P:=p.P) w' ad s.length c (s.map λb=>(b.toNat:Int)) (by rw[hl,bR];rfl);rw[this,foldl_push];simp
 cases A with
 |none=>
  cases s with
  |nil=>rfl
  |cons x s=>obtain⟨ad,e,_⟩:=h aA;cases e
 |some ad=>
  cases s with
  |nil=>exact fin ad aA
  |cons x s=>
   obtain⟨ad',e,hj⟩:=h aA;cases e;exact fin ad hj
def xI(hp:p.Ok)(hg:iX p H)(hρ:jH H ρ a)(hs:Sat H σ w){o:Op}{K:GV->Prop}(h:pv p ρ σ o K):Aq p H σ a w o K:=by
 cases o
 case call c=>exact Q3 hp hg hρ hs h
 all_goals (simp only[pv]at h;try exact h.elim)
 case move x=>
  obtain⟨g,hx,h⟩:=qw h;exact⟨a.eval x,g,λw' _ o' ho=>by simp[execOp,ho],iE hg hρ hx,h⟩
 case assign x=>
  obtain⟨g,hx,h⟩:=qw h;exact⟨a.eval x,g,λw' _ o' ho=>by simp[execOp,ho],iE hg hρ hx,h⟩
 case pick c x y=>
  have key:∀(t:Bool),a.eval c=.bool t->vN ((bif t then ev p ρ x else ev p ρ y)) K->Aq p H σ a w (.pick c x y) K:=by
   intro t hc hk;cases t with
   |true=>
    simp only[cond_true]at hk;obtain⟨g,hx,hk⟩:=qw hk;exact⟨a.eval x,g,λw' _ o' ho=>by simp[execOp,ho,hc,asBool],iE hg hρ hx,hk⟩
   |false=>
    simp only[cond_false]at hk;obtain⟨g,hx,hk⟩:=qw hk;exact⟨a.eval y,g,λw' _ o' ho=>by simp[execOp,ho,hc,asBool],iE hg hρ hx,hk⟩
  split at h
  ·rename_i t hc
   exact key t (iE hg hρ hc).iH h
  ·rename_i t hc
   have hcv:=(iE hg hρ hc).nF;cases t with
   |true=>exact key true hcv (by simpa using h.1 rfl)
   |false=>exact key false hcv (by simpa using h.2 rfl)
  exact h.elim
 case binOp op t x y ty=>
  have fin:∀{gx gy:GV},(∃u g,(∀t w',(do eqGuard op t x y (a.eval x) (a.eval y);binOp op t (a.eval x) (a.eval y):Sem Value).run p.P w'=.ok u w')/\Is H g u/\K g)->Aq p H σ a w (.binOp op t x y ty) K:=by
   rintro _ _ ⟨u,g,hr,hi,hk⟩;refine⟨u,g,λw' _ o' ho=>?_,hi,hk⟩;have:=hr t w';simp only[execOp,ho];rw[Sem.run_bind,this];rfl
  split at h
  ·rename_i k m j n hx hy
   exact fin (gx:=.b true) (gy:=.b true) (D6 (p:=p) (a:=a) (iE hg hρ hx) (iE hg hρ hy) h x y rfl rfl)
  ·rename_i s1 s2 hx hy
   exact fin (gx:=.b true) (gy:=.b true) (D6 (p:=p) (a:=a) (iE hg hρ hx) (iE hg hρ hy) h x y rfl rfl)
  ·rename_i gx gy _ _ hx hy
   obtain⟨u,g,hr,hi,hk⟩:=Ls (x:=x) (y:=y) hp hs (iE hg hρ hx) (iE hg hρ hy) h;refine⟨u,g,λw' _ o' ho=>?_,hi,hk⟩;have:=hr w';simp only[execOp,ho];rw[Sem.run_bind,this];rfl
  exact h.elim
 case unOp op t x=>
  split at h
  ·rename_i t hx
   exact⟨.bool (!t),_,λw' _ o' ho=>by simp[execOp,ho,(iE hg hρ hx).nF,Op.unary],.ro (.b _),h⟩
  ·rename_i t hx
   exact⟨.bool (!t),_,λw' _ o' ho=>by simp[execOp,ho,(iE hg hρ hx).iH,Op.unary],.ro (.v _),h⟩
  ·rename_i k n hx
   exact⟨.int k (k.wrap (0-n)),_,λw' _ o' ho=>by simp[execOp,ho,(iE hg hρ hx).iH,Op.unary,Op.intArith],.ro (.v _),h⟩
  exact h.elim
 case makeInterface t x=>
  split at h
  ·exact h.elim
  ·rename_i ti g hne hti hx
   obtain⟨d,hu,hnd⟩:=(hp.tt _ _ hti).RR (λm e=>hne ti.sz ti.by_ ti.ag ti.zero m ti.eqk (by rw[<-e]));refine⟨.iface t (a.eval x),_,λw' _ o' ho=>?_,.ifc (iE hg hρ hx),h⟩;simp only[execOp,ho,Instr.makeInterface,Sem.run_bind,ik hu,Result.andThen_ok];cases d<;>first|rfl|exact (hnd _ rfl).elim
  exact h.elim
 case load t x=>
  simp only[IN]at h;split at h
  ·rename_i ti id off hti hx
   obtain⟨hv,hid⟩:=(iE hg hρ hx).qf;split at h
   ·rename_i ty cs hl
    obtain⟨us,hw,hlen,his⟩:=hs.holds _ (ib hl);have e:∀j g,(cs.drop off)[j]? =some g->cs[off+j]? =some g:=λj g hj=>by rwa [bo]at hj
    refine uM (cs:=cs.drop off) (us:=λj=>us.getD (off+j) undef) (hp.tt _ _ hti) hv (λw' hb j g hj=>?_) (λj g hj=>his _ _ (e j g hj)) ?_
    ·have hlt:=(aO.1 (e j g hj)).1;exact Hs ((hb.hZ hl).trans hw) az
    cases ha:ti.ag with
    |true=>rw[ha]at h;exact⟨by have:=h.1;simp;omega,h.2⟩
    |false=>rw[ha]at h;simpa[bo]using h
   exact h.elim
  ·rename_i ti id sz i off hti hx
   obtain⟨g0,n0,c0,hv,hsv,hid⟩:=(iE hg hρ hx).AE;split at h
   ·rename_i ty z rows hl
    cases hz:Nat.beq z sz with
    |false=>rw[hz]at h;exact h.elim
    |true=>
     rw[hz]at h;have:=beq_eq hz;subst this;obtain⟨row,hrow,hk⟩:=h;obtain⟨xs,hown,hrow'⟩:=hs.holds _ (ib hl);have hown':∀w',rU H σ w w'->w'.ownsRow 0 ty z (H.sv id) rows.length xs:=λw' hb=>hb.row hl hown;rw[hsv]at hown hown';have hrl:=hrow'.each;have hxs:=hrow'.is;have hrlen:=hrl row (bp hrow);have hn:n0=rows.length:=by
      rcases hown.2 with ⟨he,_⟩|⟨_,_,_,he,_⟩
      ·cases he
      injection he
     subst hn;have e:∀j g,(row.drop off)[j]? =some g->row[off+j]? =some g:=λj g hj=>by rwa [bo]at hj
     have hcell:∀j g,(row.drop off)[j]? =some g->∃u,xs[i*z+off+j]? =some u/\jM H.ro g u:=λj g hj=>by
      have:=hxs i row hrow _ _ (e j g hj)
      rwa [<-fB]at this
     refine uM (cs:=row.drop off) (us:=λj=>xs.getD (i*z+off+j) undef) (hp.tt _ _ hti) hv (λw' hb j g hj=>?_) (λj g hj=>?_) ?_
     ·obtain⟨u,hu,_⟩:=hcell j g hj;rw[j5];have:=HI (hown' w' hb) hu;rw[this];simp[List.getD,hu]
     ·obtain⟨u,hu,hi⟩:=hcell j g hj;simp only[List.getD,hu,dP];exact .ro hi
     cases ha:ti.ag with
     |true=>rw[ha]at hk;exact⟨by have:=hk.1;simp;omega,hk.2⟩
     |false=>rw[ha]at hk;simpa[bo]using hk
   exact h.elim
  ·rename_i ti cs hti hx
   obtain⟨ad,us,hv,h1,h2⟩:=(iE hg hρ hx).x5;exact uM (hp.tt _ _ hti) hv (λw' hb j g hj=>pU hb.ro (h1 j g hj)) (λj g hj=>.ro (h2 j g hj)) h
  exact h.elim
 case fieldAddr s x f=>
  split at h
  ·rename_i fs _q hti
   split at h
   ·rename_i off sz ag hf
    cases hz:Nat.beq sz 0 with
    |true=>rw[hz]at h;exact h.elim
    |false=>
     rw[hz]at h;have hne:=jD hz;simp only[cond_false]at h;split at h
     ·rename_i id o hx
      obtain⟨hv,hid⟩:=(iE hg hρ hx).qf;refine⟨_,_,λw' _ o' ho=>r9 (hp.tt _ _ hti) rfl hf hne hv w' o' ho,?_,h⟩;rw[j5];exact .p hid
     ·rename_i id z i o hx
      obtain⟨g0,n0,c0,hv,hsv,hid⟩:=(iE hg hρ hx).AE;refine⟨_,_,λw' _ o' ho=>r9 (hp.tt _ _ hti) rfl hf hne hv w' o' ho,?_,h⟩;rw[j5,fB];exact .e hid hsv
     ·rename_i cs hx
      obtain⟨ad,us,hv,h1,h2⟩:=(iE hg hρ hx).x5;refine⟨_,_,λw' _ o' ho=>r9 (hp.tt _ _ hti) rfl hf hne hv w' o' ho,(.ro (.r (λj=>us (off+j)) (λj g hj=>?_) (λj g hj=>?_))),h⟩
      ·rw[bo]at hj;rw[r8];exact h1 _ _ hj
      rw[bo]at hj;exact h2 _ _ hj
     exact h.elim
   exact h.elim
  exact h.elim
 case field s x f=>
  split at h
  ·rename_i fs _q hti
   obtain⟨fields,hu,hfs,hin⟩:=(hp.tt _ _ hti).d;split at h
   ·rename_i off sz ag cs hf hx
    obtain⟨us,hv,hl,his⟩:=(iE hg hρ hx).rN;have h1:=hfs f;rw[hf]at h1;cases hff:fields[f]? with
    |none=>rw[hff]at h1;cases h1
    |some fl=>
     rw[hff]at h1;simp only[cC,aV,bK]at h1;obtain⟨e1,e2,e3⟩:=h1;have hmem:fl∈fields.toList:=by
      obtain⟨hlt,he⟩:=aW.1 hff;rw[<-he];exact gw _
     obtain⟨hi1,hi2⟩:=hin fl hmem;obtain⟨it,hit⟩:=cL.1 hi1;obtain⟨d,hd⟩:=cL.1 hi2;have hsz':it.size=sz:=by
      rw[e2];simp[Program.cellsOf,hit]
     have hag:∀w':World,(isAgg fl.type).run p.P w'=.ok ag w':=λw'=>by
      simp only[isAgg,Sem.run_bind,ik hd,Result.andThen_ok];rw[e3,hd];cases d<;>rfl
     cases ag with
     |false=>
      simp only[cond_false]at h;obtain⟨g,hgo,hk⟩:=qw h;have hlt:off<us.size:=by rw[<-hl];exact (aO.1 hgo).1
      have hgu:us[off]? =some (us.getD off undef):=by simp[Array.getD,hlt]
      refine⟨us.getD off undef,g,λw' _ o' ho=>?_,his _ _ hgo,hk⟩;simp only[execOp,ho,Instr.field,hv,asAgg,Sem.run_bind,Sem.run_pure,ik hu,Result.andThen_ok,hff,part,hag,<-e1,a7,if_false,hgu]
     |true=>
      simp only[cond_true]at h;rw[IN]at h;obtain⟨hle,hk⟩:=h;refine⟨.agg (us.extract off (off+sz)),_,λw' _ o' ho=>?_,.agg ?_ (λj g hj=>?_),hk⟩
      ·simp only[execOp,ho,Instr.field,hv,asAgg,Sem.run_bind,Sem.run_pure,ik hu,Result.andThen_ok,hff,part,hag,<-e1,if_true,BX hit,hsz']
      ·simp;omega
      rw[bD]at hj;split at hj
      ·rename_i hjs
       rw[bo]at hj;have:=his _ _ hj;have hlt:off+j<us.size:=by rw[<-hl];exact (aO.1 hj).1
       have e:(us.extract off (off+sz)).getD j undef=us.getD (off+j) undef:=by
        rw[bn,bn,Array.getElem?_extract];rw[if_pos az]
       rw[e];exact this
      cases hj
   exact h.elim
  exact h.elim
 case indexAddr t x ix=>
  split at h
  ·rename_i e _q hti
   have hu:p.P.underlying t=some (.slice e):=(hp.tt _ _ hti).d;split at h
   ·rename_i ei hei
    have hsz:=(hp.tt _ _ hei).size;split at h
    ·rename_i z rows k i hx hi
     cases hz:Nat.beq z ei.sz with
     |false=>rw[hz]at h;exact h.elim
     |true=>
      rw[hz]at h;have hze:=beq_eq hz;obtain⟨row,h0,hrow,hk⟩:=h;have hiv:=(iE hg hρ hi).iH;obtain⟨A,c,us,hv,hc,hm,hrl,hne⟩:=(iE hg hρ hx).ny.ny;obtain⟨ad,rfl,h1,h2,_⟩:=hne (by rintro rfl;simp at hrow);have hlt:i.toNat<rows.length:=(aO.1 hrow).1;refine⟨.pointer (some (ad.add (i.toNat*ei.sz))),_,λw' _ o' ho=>?_,.ro (.r (λj=>us i.toNat j) (λj g hj=>?_) (λj g hj=>h2 _ _ hrow j g hj)),hk⟩
      ·have hb:0<=i/\i<(rows.length:Int):=az
       simp[execOp,ho,Instr.indexAt,hv,hiv,asIntOf,ik hu,hb,hsz]
      rw[r8,<-hze];exact h1 _ _ hrow j g hj
    ·rename_i id k i hx hi
     split at h
     ·rename_i ty z rows hl
      cases hz:Nat.beq z ei.sz with
      |false=>rw[hz]at h;exact h.elim
      |true=>
       rw[hz]at h;have hze:=beq_eq hz;obtain⟨h0,hlt,hk⟩:=h;have hiv:=(iE hg hρ hi).iH;obtain⟨hv,hid⟩:=(iE hg hρ hx).mh;obtain⟨xs,hown,hrow'⟩:=hs.holds _ (ib hl);rcases hown.2 with ⟨_,hn⟩|⟨g0,cap,cur,hsv,_⟩
       ·omega
       refine⟨.pointer (some ⟨g0,i.toNat*z+0,none⟩),_,λw' _ o' ho=>?_,.e hid hsv,hk⟩;simp[execOp,ho,Instr.indexAt,hv,hsv,hiv,asIntOf,ik hu,h0,hlt,hsz,j5,hze]
     ·rename_i z n hl
      cases hz:Nat.beq z ei.sz with
      |false=>rw[hz]at h;exact h.elim
      |true=>
       rw[hz]at h;have hze:=beq_eq hz;obtain⟨h0,hlt,hk⟩:=h;have hiv:=(iE hg hρ hi).iH;obtain⟨hv,hid⟩:=(iE hg hρ hx).mh;obtain⟨A,c,hsv,hA⟩:=hs.holds _ (ib hl);obtain⟨g0,rfl⟩:=hA az;refine⟨.pointer (some ⟨g0,i.toNat*z+0,none⟩),_,λw' _ o' ho=>?_,.e hid hsv,hk⟩;simp[execOp,ho,Instr.indexAt,hv,hsv,hiv,asIntOf,ik hu,h0,hlt,hsz,j5,hze]
     exact h.elim
    exact h.elim
   exact h.elim
  ·rename_i len e _q hti
   have hu:p.P.underlying t=some (.array len e):=(hp.tt _ _ hti).d;split at h
   ·rename_i ei hei
    have hsz:=(hp.tt _ _ hei).size;split at h
    ·rename_i id off k i hx hi
     obtain⟨h0,hlt,hk⟩:=h;have hiv:=(iE hg hρ hi).iH;obtain⟨hv,hid⟩:=(iE hg hρ hx).qf;refine⟨.pointer (some ⟨H.bl id,off+i.toNat*ei.sz,none⟩),_,λw' _ o' ho=>?_,.p hid,hk⟩;simp[execOp,ho,Instr.indexAt,Instr.sureAddr,hv,hiv,asIntOf,ik hu,h0,hlt,hsz,j5]
    ·rename_i cs k i hx hi
     obtain⟨h0,hlt,hk⟩:=h;have hiv:=(iE hg hρ hi).iH;obtain⟨ad,us,hv,h1,h2⟩:=(iE hg hρ hx).x5;refine⟨.pointer (some (ad.add (i.toNat*ei.sz))),_,λw' _ o' ho=>?_,.ro (.r (λj=>us (i.toNat*ei.sz+j)) (λj g hj=>?_) (λj g hj=>?_)),hk⟩
     ·simp[execOp,ho,Instr.indexAt,Instr.sureAddr,hv,hiv,asIntOf,ik hu,h0,hlt,hsz]
     ·rw[bo]at hj;rw[r8];exact h1 _ _ hj
     rw[bo]at hj;exact h2 _ _ hj
    exact h.elim
   exact h.elim
  exact h.elim
 case index t x ix=>
  split at h
  ·rename_i hti
   have hu:=(hp.tt _ _ hti).d;split at h
   ·rename_i s k i hx hi
    obtain⟨b,h0,hb,hk⟩:=h;have hv:=(iE hg hρ hx).iH;have hiv:=(iE hg hρ hi).iH;refine⟨.int .u8 (b.toNat:Int),_,λw' _ o' ho=>?_,.ro (.v _),hk⟩;simp[execOp,ho,Instr.index,hv,hiv,asIntOf,ik hu,h0,hb]
   exact h.elim
  ·rename_i len e _q hti
   have hu:=(hp.tt _ _ hti).d;split at h
   ·rename_i ti hte
    have hto:=hp.tt _ _ hte;cases hb:Nat.beq ti.sz 1&& !ti.ag with
    |false=>rw[hb]at h;exact h.elim
    |true=>
     rw[hb]at h;simp only[aG,bG]at hb;split at h
     ·rename_i cs k i hx hi
      obtain⟨g,h0,hlt,hgi,hk⟩:=h;have hiv:=(iE hg hρ hi).iH;obtain⟨us,hv,hl,his⟩:=(iE hg hρ hx).rN;have hlu:i.toNat<us.size:=by rw[<-hl];exact (aO.1 hgi).1
      have hag:∀w':World,(isAgg e).run p.P w'=.ok false w':=λw'=>by rw[M7 hto,hb.2]
      have hgu:us[i.toNat]? =some (us.getD i.toNat undef):=by simp[Array.getD,hlu]
      have hszz:∀w':World,(sizeOf e).run p.P w'=.ok 1 w':=λw'=>by rw[hto.size,beq_eq hb.1]
      refine⟨us.getD i.toNat undef,_,λw' _ o' ho=>?_,his _ _ hgi,hk⟩;simp only[execOp,ho,Instr.index,hv,hiv,asIntOf,Sem.run_bind,Sem.run_pure,ik hu,Result.andThen_ok];rw[if_pos ⟨h0,hlt⟩];simp only[Sem.run_bind,hszz,Result.andThen_ok,cX,part,hag,a7,if_false,hgu];rfl
     exact h.elim
   exact h.elim
  exact h.elim
 case slice t x lo hi mx=>
  cases mx with
  |some m=>exact h.elim
  |none=>
   simp only at h;split at h
   ·rename_i hti
    have hu:=(hp.tt _ _ hti).d;split at h
    ·rename_i s hx
     split at h
     ·rename_i l hh hl hhi
      obtain⟨h0,h1,h2,hk⟩:=h;have hv:=(iE hg hρ hx).iH;refine⟨.string (s.extract l.toNat hh.toNat),_,λw' _ o' ho=>?_,.ro (.v _),hk⟩;have hb:=qI (p:=p) (isS:=false) hg hρ hl hhi h0 h1 h2 (aL _) w';simp only[execOp,ho,Instr.sliceAt,Sem.run_bind,ik hu,Result.andThen_ok,Instr.slice,hv,dG,Option.isSome_none,a7,if_false,hb];rfl
     exact h.elim
    exact h.elim
   ·rename_i e _q hti
    have hu:=(hp.tt _ _ hti).d;split at h
    ·rename_i ei hei
     have hsz:=(hp.tt _ _ hei).size;split at h
     ·rename_i z rows hx
      cases hz:Nat.beq z ei.sz with
      |false=>rw[hz]at h;exact h.elim
      |true=>
       rw[hz]at h;have hze:=beq_eq hz;simp only[cond_true]at h;split at h
       ·rename_i l hh hl hhi
        obtain⟨h0,h1,h2,hk⟩:=h;obtain⟨A,c,us,hv,hc,hm,hrl,hne⟩:=(iE hg hρ hx).ny.ny;have hlen:((rows.take hh.toNat).drop l.toNat).length=hh.toNat-l.toNat:=aq
        refine⟨.slice (if c=l.toNat then A else A.map (·.add (l.toNat*ei.sz))) (hh.toNat-l.toNat) (c-l.toNat),_,λw' _ o' ho=>?_,.ro ?_,hk⟩
        ·have hb:=qI (p:=p) (isS:=true) hg hρ hl hhi h0 h1 h2 hc w';simp only[execOp,ho,Instr.sliceAt,Sem.run_bind,ik hu,Result.andThen_ok,Instr.slice,hv,dG,hb,hsz];rfl
        rw[<-hlen];by_cases hr0:rows=[]
        ·subst hr0;simp at h2 hc hlen|-;have hl0:l.toNat=0:=az
         rw[hl0];have e0:(if c=0 then A else A.map λx=>x.add (0*ei.sz))=A:=by
          cases A<;>simp[Addr.add]
         rw[e0];have:=(iE hg hρ hx).ny;rw[hv]at this;cases this with
         |slnil=>exact .slnil
         |sl us' g0 gc gm g1 g2 g3=>exact .sl us' g0 gc gm g1 g2 g3
        obtain⟨ad,rfl,h3,h4,h5⟩:=hne hr0;have eA:(if c=l.toNat then some ad else (some ad).map λx=>x.add (l.toNat*ei.sz))=some (if c=l.toNat then ad else ad.add (l.toNat*ei.sz)):=by split<;>rfl
        rw[eA];have hrow:∀i row,((rows.take hh.toNat).drop l.toNat)[i]? =some row->rows[l.toNat+i]? =some row:=λi row hr=>by
         rw[bo,bD]at hr;split at hr
         ·exact hr
         cases hr
        refine .sl (λi j=>us (l.toNat+i) j) (λrow hr=>hrl row (b9 (cF hr))) (by rw[hlen];omega) az (λi row hr j g hj=>?_) (λi row hr j g hj=>h4 _ _ (hrow i row hr) j g hj) (λi j=>h5 _ _);have hilt:=(aO.1 hr).1;rw[hlen]at hilt;have hcl:c≠l.toNat:=az
        rw[if_neg hcl,r8];have:=h3 _ _ (hrow i row hr) j g hj;rw[cg,fB]at this;rw[<-hze];exact this
       exact h.elim
     ·rename_i hx
      split at h
      ·rename_i l hh hl hhi
       obtain⟨h0,h1,hk⟩:=h;subst h0;subst h1;have hv:=(iE hg hρ hx).iH;refine⟨.slice none 0 0,_,λw' _ o' ho=>?_,.ro (.v _),hk⟩;have hb:=qI (p:=p) (isS:=true) (len:=0) (cap:=0) hg hρ hl hhi az az az (aL _) w';simp only[execOp,ho,Instr.sliceAt,Sem.run_bind,ik hu,Result.andThen_ok,Instr.slice,hv,dG,hb,hsz];rfl
      exact h.elim
     exact h.elim
    exact h.elim
   exact h.elim
 case convert t u x=>
  split at h
  ·rename_i k _q j n hti hx
   split at h
   ·rename_i j' _q' htt
    have hu:=(hp.tt _ _ hti).d;have hu':=(hp.tt _ _ htt).d;have hv:=(iE hg hρ hx).iH;refine⟨.int k (k.wrap n),_,λw' _ o' ho=>?_,.ro (.v _),h⟩;simp[execOp,ho,convert,ik hu,ik hu',hv,Conv.intToInt]
   exact h.elim
  ·rename_i s hti hx
   split at h
   ·rename_i htt
    have hu:=(hp.tt _ _ hti).d;have hu':=(hp.tt _ _ htt).d;have hv:=(iE hg hρ hx).iH;refine⟨.string s,_,λw' _ o' ho=>?_,.ro (.v _),h⟩;simp[execOp,ho,convert,ik hu,ik hu',hv]
   exact h.elim
  ·rename_i id hti hx
   cases hu8:y9 p.tt t with
   |false=>rw[hu8]at h;exact h.elim
   |true=>
    rw[hu8]at h;simp only[cond_true]at h;split at h
    ·rename_i ty z rows hl
     cases hz:Nat.beq z 1 with
     |false=>rw[hz]at h;exact h.elim
     |true=>
      rw[hz]at h;have:=beq_eq hz;subst this;obtain⟨s,rfl,hk⟩:=h;obtain⟨e,hu,he⟩:=Ag hp hu8;have hd:=(hp.tt _ _ hti).d;obtain⟨hv,hid⟩:=(iE hg hρ hx).mh;obtain⟨xs,hown,hrow⟩:=hs.holds _ (ib hl);have hown':∀w',rU H σ w w'->w'.ownsRow 0 ty 1 (H.sv id) (s.map jX).length xs:=λw' hb=>hb.row hl hown;rcases hown.2 with ⟨hsv,hn⟩|⟨g0,cap,cur,hsv,_⟩
      ·have:s=[]:=by simpa using hn
       subst this;refine⟨.string ⟨#[]⟩,_,λw' _ o' ho=>?_,.ro (.v _),hk⟩;simp[execOp,ho,convert,ik hu,ik hd,ik he,hv,hsv,Conv.bytesToString];rfl
      refine⟨.string ⟨s.toArray⟩,_,λw' hw' o' ho=>?_,.ro (.v _),hk⟩;have hcells:=hown' w' hw';rw[hsv]at hcells;have hb:=Ew (p:=p) w' (some ⟨g0,0,none⟩) cap s (λ_=>⟨_,rfl,λj b hj=>by
       obtain⟨u,hu',hi'⟩:=hrow.is j (jX b) (by rw[bg,hj];rfl) 0 _ rfl;have:=(Is.ro (H:=H) hi').iH;subst this;rw[j5,cy];exact HI hcells (by simpa using hu')⟩)
      rw[aD]at hsv;simp only[execOp,ho,hv,hsv,run_convert_bytes_string w' _ _ e _ _ _ hu he hd,Sem.run_bind,hb];rfl
    exact h.elim
  ·rename_i z rows hti hx
   cases hu8:y9 p.tt t with
   |false=>rw[hu8]at h;exact h.elim
   |true=>
    rw[hu8]at h;simp only[cond_true]at h;cases hz:Nat.beq z 1 with
    |false=>rw[hz]at h;exact h.elim
    |true=>
     rw[hz]at h;have:=beq_eq hz;subst this;obtain⟨s,rfl,hk⟩:=h;obtain⟨e,hu,he⟩:=Ag hp hu8;have hd:=(hp.tt _ _ hti).d;obtain⟨A,c,us,hv,hc,hm,hrl,hne⟩:=(iE hg hρ hx).ny.ny;refine⟨.string ⟨s.toArray⟩,_,λw' hw' o' ho=>?_,.ro (.v _),hk⟩;have hb:=Ew (p:=p) w' A c s (λhne'=>by
      obtain⟨ad,rfl,h1,h2,_⟩:=hne (by simpa using hne');refine⟨ad,rfl,λj b hj=>?_⟩;have hj':(s.map jX)[j]? =some (jX b):=by rw[bg,hj];rfl
      have e1:=h1 j _ hj' 0 _ rfl;have e2:=(Is.ro (H:=H) (h2 j _ hj' 0 _ rfl)).iH;rw[e2]at e1;exact pU hw'.ro (by simpa using e1))
     rw[aD]at hv;simp only[execOp,ho,hv,run_convert_bytes_string w' _ _ e _ _ _ hu he hd,Sem.run_bind,hb];rfl
  ·rename_i hti hx
   cases hu8:y9 p.tt t with
   |false=>rw[hu8]at h;exact h.elim
   |true=>
    rw[hu8]at h;simp only[cond_true]at h;obtain⟨e,hu,he⟩:=Ag hp hu8;have hd:=(hp.tt _ _ hti).d;have hv:=(iE hg hρ hx).iH;refine⟨.string ⟨#[]⟩,_,λw' _ o' ho=>?_,.ro (.v _),h⟩;simp[execOp,ho,convert,ik hu,ik hd,ik he,hv,Conv.bytesToString];rfl
  exact h.elim
 case nilCheck x=>
  split at h
  ·rename_i id off hx
   obtain⟨hv,hid⟩:=(iE hg hρ hx).qf;exact⟨a.eval x,_,λw' _ o' ho=>by simp only[execOp,ho,hv];rfl,iE hg hρ hx,h⟩
  ·rename_i id sz i off hx
   obtain⟨g0,n0,c0,hv,_,_⟩:=(iE hg hρ hx).AE;exact⟨a.eval x,_,λw' _ o' ho=>by simp only[execOp,ho,hv];rfl,iE hg hρ hx,h⟩
  ·rename_i cs hx
   obtain⟨ad,us,hv,_,_⟩:=(iE hg hρ hx).x5;exact⟨a.eval x,_,λw' _ o' ho=>by simp only[execOp,ho,hv];rfl,iE hg hρ hx,h⟩
  exact h.elim
 case makeFunc fn first caps=>
  split at h
  ·rename_i aas cs h1 h2
   obtain⟨l1,i1⟩:=xh hg hρ h1;obtain⟨l2,i2⟩:=xh hg hρ h2;refine⟨.func fn (first.map a.eval) (caps.map a.eval),_,λw' _ o' ho=>by simp[execOp,ho,Instr.makeFunc],.fn (by simpa using l1) (λj g hj=>?_) (by simpa using l2) (λj g hj=>?_),h⟩
   ·obtain⟨x,hx,his⟩:=i1 j g hj;have hx':first[j]? =some x:=by simpa using hx
    rw[bn,fV,hx'];exact his
   obtain⟨x,hx,his⟩:=i2 j g hj;have hx':caps[j]? =some x:=by simpa using hx
   rw[bn,fV,hx'];exact his
  exact h.elim
 case lookup t x ix c=>
  split at h
  ·rename_i sz by_ ag z kt et eqk hti
   have hu:=(hp.tt _ _ hti).d;split at h
   ·rename_i kti eti hkt het
    split at h
    ·rename_i kd z' kv hkd hz hx hix
     cases hsb:iq kd kv with
     |false=>rw[hsb]at h;exact h.elim
     |true=>
      rw[hsb]at h;obtain⟨zv,hzr,hzi⟩:=BJ (hp.tt _ _ het) hz;have hku:=tD (hp.tt _ _ hkt) hkd;have hkv:=(iE hg hρ hix).iH;have hxv:=(iE hg hρ hx).iH;refine⟨if c then .tuple #[zv,.bool false] else zv,_,λw' _ o' ho=>?_,F3 (hzi H) false,h⟩;simp only[execOp,ho,hxv,hkv];have:=Du (t:=t) hu hku kv hzr c w';rw[Sem.run_bind,this];rfl
    ·rename_i kd z' gm kv hnn hkd hz hx hix
     cases hsb:iq kd kv with
     |false=>rw[hsb]at h;exact h.elim
     |true=>
      rw[hsb]at h;simp only[cond_true]at h;obtain⟨zv,hzr,hzi⟩:=BJ (hp.tt _ _ het) hz;have hku:=tD (hp.tt _ _ hkt) hkd;have hkv:=(iE hg hρ hix).iH;split at h
      ·rename_i kd' es hm
       cases hkk:qT kd kd' with
       |false=>rw[hkk]at h;exact h.elim
       |true=>
        rw[hkk]at h;obtain⟨id,b,arr,clock,rfl,hb,hbm,hw,hmo⟩:=CC hs hm;obtain⟨hv,hid⟩:=(iE hg hρ hx).mh;have hkk':=sL hkk;subst hkk';cases hf:jl kv es with
        |some g=>
         obtain⟨j,e,e1,e2,e3,e4⟩:=qj (i:=0) hmo.is g hf;refine⟨if c then .tuple #[e.val,.bool true] else e.val,_,λw' hag o' ho=>?_,F3 e4 true,h.1 g hf⟩;simp only[execOp,ho,hv,hb,hkv];have:=w7 (t:=t) hu hku (c:=c) hsb ((hag.own b hbm).trans hw) hmo.sorts hzr (some (0+j,e.val)) e1;rw[Sem.run_bind,this];rfl
        |none=>
         refine⟨if c then .tuple #[zv,.bool false] else zv,_,λw' hag o' ho=>?_,F3 (hzi H) false,h.2 hf⟩;simp only[execOp,ho,hv,hb,hkv];have:=w7 (t:=t) hu hku (c:=c) hsb ((hag.own b hbm).trans hw) hmo.sorts hzr none (vH hmo.is hf);rw[Sem.run_bind,this];rfl
      exact h.elim
    exact h.elim
   exact h.elim
  exact h.elim
 case entry x=>
  split at h
  ·rename_i it hx
   split at h
   ·rename_i kd es left k hl
    obtain⟨g,hf,hk⟩:=h;obtain⟨hv,hid⟩:=(iE hg hρ hx).qf;obtain⟨b,arr,clock,seen,hsv,hne,hw,hmo,hi,hleft,hcur⟩:=hs.holds _ (ib hl);obtain⟨hsk2,stamp,hback,hst⟩:=hcur k rfl;obtain⟨j,e,e1,e2,e3,e4⟩:=qj (i:=0) hmo.is g hf;have hmemb:∀x∈blocks H (it,.mr kd es left (some k)),x∈g_ H σ:=λx hx=>aX.2 ⟨_,ib hl,hx⟩;have hemem:e∈arr.toList:=bp e2;have hfind:arr.find? (λx=>x.born==stamp)=some e:=by
     rw[<-Array.find?_toList];have hone:∀x∈arr.toList,x.born=stamp->x=e:=λx hx hxb=>by
      have h1:=(hst e hemem).2 e3;exact tH hmo.st.2.1 hx hemem (hxb.trans h1.symm)
     cases hff:arr.toList.find? (λx=>x.born==stamp) with
     |none=>
      rw[List.find?_eq_none]at hff;have:=hff e hemem;rw[(hst e hemem).2 e3]at this;simp at this
     |some y=>
      have h1:=gM hff;rw[hone y (gk hff) (by simpa using h1)]
    have hkey:e.key=k:=(kH hsk2 (hmo.sorts e hemem) e3).symm;refine⟨.tuple #[k,e.val],_,λw' hag o' ho=>?_,.tup rfl (λj g' hj=>?_),hk⟩
    ·have hw':=(hag.own b (hmemb b (by simp[blocks,hsv,ju]))).trans hw;have hi':=(hag.own _ (hmemb (H.bl it) (by simp[blocks]))).trans hi;simp only[execOp,ho,hv];simp[Instr.entry,getObj,Sem.run,hw',hi',hback,hfind,hkey]
    match j with
    |0=>simp at hj;subst hj;exact .ro (.v _)
    |1=>simp at hj;subst hj;exact e4
    |j+2=>simp at hj
   exact h.elim
  exact h.elim
 case extract x i=>
  split at h
  ·rename_i xs hx
   obtain⟨us,hv,hl,hi⟩:=(iE hg hρ hx).uW;obtain⟨g,hgx,hk⟩:=qw h;have hlt:=(aO.1 hgx).1;refine⟨us.getD i undef,g,λw' _ o' ho=>?_,hi _ _ hgx,hk⟩;have:us[i]? =some (us.getD i undef):=by
    have h':i<us.size:=az
    simp[Array.getD,h']
   simp only[execOp,ho,Instr.extract,hv];rw[this];rfl
  exact h.elim
end
section
variable {p:Pg}{H:Hid}{ρ:Env}{σ:Heap}{a:Act}{w:World}
def rC{g:GV}{u:Value}(h:Is H g u):Cells H (cellsOf g) u.cells:=by
 have key:∀{g:GV} {u:Value},Is H g u->cellsOf g=[g]->u.cells=#[u]->Cells H (cellsOf g) u.cells:=by
  intro g u h e1 e2;rw[e1,e2];refine⟨rfl,λj g' hj=>?_⟩;cases j with
  |zero=>simp at hj;subst hj;exact h
  |succ j=>simp at hj
 cases h with
 |ro hr=>
  cases hr with
  |v=>
   cases u<;>try (exact key (.ro (.v _)) rfl rfl)
   case agg cs=>
    refine⟨by simp[cellsOf,Value.cells],λj g' hj=>?_⟩;simp only[cellsOf,bg,cu]at hj;obtain⟨v,hv,rfl⟩:=hj;have:(Value.agg cs).cells.getD j undef=v:=by
     have:=(aO.1 hv);obtain⟨hlt,he⟩:=this;simp at hlt;simp[Value.cells,Array.getD,hlt];simpa using he
    rw[this];exact .ro (.v v)
  |b c=>exact key (.ro (.b _)) rfl rfl
  |r us h1 h2=>exact key (.ro (.r us h1 h2)) rfl rfl
  |slnil=>exact key (.ro .slnil) rfl rfl
  |sl us h0 hc hm h1 h2 h3=>exact key (.ro (.sl us h0 hc hm h1 h2 h3)) rfl rfl
  |agg hl h=>exact⟨hl,λj g hj=>.ro (h j g hj)⟩
  |tup hl h=>exact key (.ro (.tup hl h)) rfl rfl
  |fn hl h hl' h'=>exact key (.ro (.fn hl h hl' h')) rfl rfl
  |ifc h=>exact key (.ro (.ifc h)) rfl rfl
 |p h=>exact key (.p h) rfl rfl
 |e h hs=>exact key (.e h hs) rfl rfl
 |o hid hs h1=>exact key (.o hid hs h1) rfl (Nd h1).1
 |agg hl h=>exact⟨hl,h⟩
 |tup hl h=>exact key (.tup hl h) rfl rfl
 |fn hl h hl' h'=>exact key (.fn hl h hl' h') rfl rfl
 |ifc h=>exact key (.ifc h) rfl rfl
def kJ.mono{ro ro':Nat->Option Obj}(h:∀b o,ro b=some o->ro' b=some o){sz:Nat}{rows:List (List GV)}{xs:List Value}(hr:kJ ro sz rows xs):kJ ro' sz rows xs:=
 ⟨hr.len,hr.each,λi row hi j g hj=>by obtain⟨u,hu,his⟩:=hr.is i row hi j g hj;exact⟨u,hu,his.mono h⟩,hr.one⟩
def kU:∀{σ:Heap} {id:Nat} {x:hY},gW σ id=some x->∃l1 l2,σ=l1++(id,x)::l2/\jQ σ id=l1++l2/\∀y,jh σ id y=l1++(id,y)::l2
 | [],_,_,h=>by simp[gW]at h
 | (s,g)::r,id,x,h=>by
  unfold gW at h;cases hb:Nat.beq s id with
  |true=>
   rw[hb]at h;have:=beq_eq hb;subst this;simp at h;subst h;exact⟨[],r,rfl,by simp[jQ],λy=>by simp[jh]⟩
  |false=>
   rw[hb]at h;obtain⟨l1,l2,e,e2,e3⟩:=kU (σ:=r) (id:=id) (x:=x) (by simpa using h);exact⟨(s,g)::l1,l2,by rw[e];rfl,by simp[jQ,hb,e2],λy=>by simp[jh,hb,e3]⟩
def il(H:Hid)(l1 l2:Heap):g_ H (l1++l2)=g_ H l1++g_ H l2:=by simp[g_]
def iD(H:Hid)(x:Nat×hY)(l:Heap):g_ H (x::l)=blocks H x++g_ H l:=by simp[g_]
def pF{H H':Hid}(h:H.le H'){x:Nat×hY}(hx:x.1<H.n):blocks H' x=blocks H x:=by
 obtain⟨id,r⟩:=x;cases r<;>simp[blocks,h.bl id hx,h.sv id hx]
def nD{H H':Hid}(h:H.le H'):∀{σ:Heap},(∀x∈σ,x.1<H.n)->g_ H' σ=g_ H σ
 | [],_=>rfl
 |x::r,hi=>by
  rw[iD,iD,pF h (hi x bf),nD h (λy hy=>hi y (aK _ hy))]
def Fm{H H':Hid}(h:∀g u,Is H g u->Is H' g u):∀{es:List (Value×GV)} {l:List MapEntry},mT H es l->mT H' es l
 | [],[],_=>trivial
 | (_,_)::_,_::_,hh=>⟨hh.1,h _ _ hh.2.1,Fm h hh.2.2⟩
 | [],_::_,h=>h.elim
 |_::_,[],h=>h.elim
def kB.le{H H':Hid}{kd:Option IntKind}{es:List (Value×GV)}{arr:Array MapEntry}{clock:Nat}(h:kB H kd es arr clock)(hl:H.le H'):kB H' kd es arr clock:=
 ⟨Fm (λ_ _ hi=>hi.mono hl) h.is,h.sorts,h.st⟩
def nO{H H':Hid}(h:H.le H'){x:Nat×hY}(hx:x.1<H.n)(hh:holds H w x):holds H' w x:=by
 obtain⟨id,r⟩:=x;cases r with
 |hZ ty cs=>obtain⟨us,h1,h2,h3⟩:=hh;exact⟨us,by rw[h.bl id hx];exact h1,h2,λj g hj=>(h3 j g hj).mono h⟩
 |row ty sz rows=>
  obtain⟨xs,h1,h2⟩:=hh;exact⟨xs,by rw[h.sv id hx];exact h1,h2.mono h.ro⟩
 |ob o=>exact (by show w.heap[H'.bl id]? =some o;rw[h.bl id hx];exact hh)
 |ln sz n=>obtain⟨A,c,h1,h2⟩:=hh;exact⟨A,c,by rw[h.sv id hx];exact h1,h2⟩
 |sub i sz lo n=>
  obtain⟨hi,A,c,h1,h2,h3,hz,h4⟩:=hh;refine⟨a_ hi h.n,A,c,by rw[h.sv id hx];exact h1,h2,h3,hz,λh0=>?_⟩;obtain⟨g,l',c',h5,h6⟩:=h4 h0;exact⟨g,l',c',by rw[h.sv i hi];exact h5,h6⟩
 |mp kd es=>
  obtain⟨b,arr,clock,h1,h2,h3⟩:=hh;exact⟨b,arr,clock,by rw[h.sv id hx];exact h1,h2,h3.le h⟩
 |mr kd es left cur=>
  obtain⟨b,arr,clock,seen,h1,hne,h2,h3,h4,h5⟩:=hh;exact⟨b,arr,clock,seen,by rw[h.sv id hx];exact h1,by rw[h.bl id hx];exact hne,h2,h3.le h,by rw[h.bl id hx];exact h4,h5⟩
 |me kd es k st=>
  obtain⟨hst,b,arr,clock,h1,h2,h3,h4,e,he,h5,h6⟩:=hh;exact⟨a_ hst h.n,b,arr,clock,by rw[h.sv id hx];exact h1,h2,h3.le h,h4,e,he,h5,by rw[h.sv st hst];exact h6⟩
 |ab A=>
  show A.P _ (H'.bl id) (H'.sv id) w;rw[h.bl id hx,h.sv id hx];exact A.mono _ _ _ _ _ h.ro hh
 |mre kd es left cur k st=>
  obtain⟨hst,b,arr,clock,seen,h1,hne,h2,h3,h4,h5,h6,h7,e,he,h8,h9⟩:=hh;exact⟨a_ hst h.n,b,arr,clock,seen,by rw[h.sv id hx];exact h1,by rw[h.bl id hx];exact hne,h2,h3.le h,by rw[h.bl id hx];exact h4,h5,h6,h7,e,he,h8,by rw[h.sv st hst];exact h9⟩
 |itr m=>
  obtain⟨h1,h2,h3⟩:=hh;exact⟨a_ h1 h.n,by rw[h.sv id hx,h.sv m h1];exact h2,by rw[h.sv m h1];exact h3⟩
def Hid.more(H:Hid)(b:Nat)(v:Value):Hid:={H with bl:=λi=>if i=H.n then b else H.bl i,sv:=λi=>if i=H.n then v else H.sv i,n:=H.n+1}
def Hid.km(H:Hid)(b:Nat)(v:Value):H.le (H.more b v):=
 ⟨by simp[Hid.more],λ_ _ h=>h,λi hi=>by simp[Hid.more];omega,λi hi=>by simp[Hid.more];omega⟩
def Sat.rW(h:Sat H σ w):∀b,w.heap.size<=b->H.ro b=none:=by
 intro b hb;cases hr:H.ro b with
 |none=>rfl
 |some o=>
  have:=(aW.1 (h.ro b o hr)).1;omega
def Sat.grow {H':Hid} {w':World} (h:Sat H σ w) (hl:H.le H') (hro:H'.ro=H.ro) (hb:∀b,b<w.heap.size->w'.heap[b]? =w.heap[b]?) {x:Nat×hY} (hid:x.1<H'.n) (hh:GK.holds H' w' x) (hnd:(blocks H' x).Nodup)
  (hf:∀b∈blocks H' x,w.heap.size<=b):Sat H' (x::σ) w':=by
 have hbl:g_ H' σ=g_ H σ:=nD hl h.ids;refine⟨λb o hr=>?_,λy hy=>?_,?_,λb hbm=>?_,λy hy=>?_⟩
 ·rw[hro]at hr;have:=h.ro b o hr;rw[hb b (aW.1 this).1];exact this
 ·rcases aF.1 hy with rfl|hy
  ·exact hh
  refine lu (w:=w) (λb hbm=>?_) (nO hl (h.ids y hy) (h.holds y hy));rw[pF hl (h.ids y hy)]at hbm;exact hb b (h.lt b (aX.2 ⟨y,hy,hbm⟩))
 ·rw[iD,hbl];refine a8.2 ⟨hnd,h.nodup,λb hb1 c hb2 e=>?_⟩;subst e;have h1:=hf b hb1;have h2:=h.lt b hb2;omega
 ·rw[hro];rw[iD,hbl]at hbm;rcases aE.1 hbm with h1|h1
  ·exact h.rW b (hf b h1)
  exact h.free b h1
 rcases aF.1 hy with rfl|hy
 ·exact hid
 exact a_ (h.ids y hy) hl.n
def iQ.grow {cx:Cx} {s:St} {H':Hid} {w':World} (h:iQ cx H s w) (hl:H.le H') (hro:H'.ro=H.ro) (hn:H'.n=s.n+1) (hb:Below w.heap.size w w') {r:hY} (hh:GK.holds H' w' (s.n,r)) (hnd:(blocks H' (s.n,r)).Nodup)
  (hf:∀b∈blocks H' (s.n,r),w.heap.size<=b) (ρ:Env):iQ cx H' {ρ:=ρ,σ:=(s.n,r)::s.σ,n:=s.n+1} w':=by
 refine⟨hn,h.sat.grow hl hro hb.block (by rw[hn];exact eJ _) hh hnd hf,?_⟩;have hfr:=h.fr;refine⟨hb.os.trans hfr.os,hb.tape.trans hfr.tape,hb.output.trans hfr.output,bE hfr.size hb.size,λb h1 h2=>(hb.block b (a_ h1 hfr.size)).trans (hfr.keep b h1 h2),λb hbm=>?_,λb h1 h2=>hfr.fro b h1 (by rwa [hro]at h2),hfr.le.trans hl⟩;have e:g_ H' s.σ=g_ H s.σ:=nD hl h.sat.ids;simp only at hbm;rw[iD,e]at hbm;rcases aE.1 hbm with h1|h1
 ·exact .inr (bE hfr.size (hf b h1))
 exact hfr.own b h1
def iQ.alloc{cx:Cx}{s:St}(h:iQ cx H s w){cs:List GV}{us:Array Value}(hc:Cells H cs us)(ty:TypeId)(ρ:Env):
  iQ cx (H.more w.heap.size undef) {ρ:=ρ,σ:=(s.n,.hZ ty cs)::s.σ,n:=s.n+1} (w.alloc (.cells us ty))/\Is (H.more w.heap.size undef) (.p s.n 0) (.pointer (some ⟨w.heap.size,0,none⟩)):=by
 have hle:=H.km w.heap.size undef;have e:(H.more w.heap.size undef).bl s.n=w.heap.size:=by simp[Hid.more,h.n]
 refine⟨h.grow hle rfl (by simp[Hid.more,h.n]) ((Below.refl _ _).alloc (aL _) _) ?_ (by simp[blocks]) (by simp[blocks,e]) ρ,?_⟩
 ·refine⟨us,?_,hc.1,λj g hj=>(hc.2 j g hj).mono hle⟩;rw[e];exact heap_alloc_new w _
 have:=Is.p (H:=H.more w.heap.size undef) (id:=s.n) (off:=0) (by simp[Hid.more,h.n])
 rwa [e]at this
def zj{cs gs:List GV}{us vs:Array Value}(hc:Cells H cs us)(hg:Cells H gs vs){off:Nat}(hl:off+gs.length<=cs.length):
  Cells H (cs.take off++gs++cs.drop (off+gs.length)) (us.toList.take off++vs.toList++us.toList.drop (off+vs.toList.length)).toArray:=by
 have h1:=hc.1;have h2:=hg.1;have hv:vs.toList.length=gs.length:=by simp[h2]
 refine⟨aq,λj g hj=>?_⟩;have e:∀(l:List Value) (k:Nat),l.toArray.getD k undef=l.getD k undef:=λl k=>by simp[List.getD]
 rw[e];by_cases hj1:j<off
 ·have a1:(cs.take off++gs++cs.drop (off+gs.length))[j]? =cs[j]? :=by
   rw[aS,bc aq,bD,if_pos hj1]
  have a2:(us.toList.take off++vs.toList++us.toList.drop (off+vs.toList.length)).getD j undef=us.getD j undef:=by
   simp only[List.getD,bn];rw[aS,bc aq,bD,if_pos hj1];simp
  rw[a2];exact hc.2 j g (a1 ▸ hj)
 by_cases hj2:j<off+gs.length
 ·have a1:(cs.take off++gs++cs.drop (off+gs.length))[j]? =gs[j-off]? :=by
   rw[aS,aU aq,bc aq]
   congr 1
   simp;omega
  have a2:(us.toList.take off++vs.toList++us.toList.drop (off+vs.toList.length)).getD j undef=vs.getD (j-off) undef:=by
   simp only[List.getD,bn];rw[aS,aU aq,bc aq];have:j- (List.take off us.toList).length=j-off:=aq
   rw[this];simp
  rw[a2];exact hg.2 _ g (a1 ▸ hj)
 have a1:(cs.take off++gs++cs.drop (off+gs.length))[j]? =cs[j]? :=by
  rw[aU aq,bo]
  congr 1
  simp;omega
 have a2:(us.toList.take off++vs.toList++us.toList.drop (off+vs.toList.length)).getD j undef=us.getD j undef:=by
  simp only[List.getD,bn];rw[aU aq,bo];have:off+vs.toList.length+(j- (List.take off us.toList++vs.toList).length)=j:=aq
  rw[this];simp
 rw[a2];exact hc.2 j g (a1 ▸ hj)
def uo:∀{cs:List GV} {us:Array Value},Cells H cs us->pS cs=true->∀v∈us.toList,v.oneCell'=true:=by
 intro cs us hc h1 v hv;obtain⟨j,hj⟩:=cA hv;have hlt:=(aO.1 hj).1;have hcj:cs[j]? =some (cs[j]'(by have:=hc.1;simp at hlt;omega)):=aC _;have his:=hc.2 j _ hcj;have hone:∀(l:List GV),pS l=true->∀g∈l,one g=true:=by
  intro l;induction l with
  |nil=>simp
  |cons g r ih=>
   intro h g' hg';unfold pS at h;cases hb:one g with
   |false=>rw[hb]at h;cases h
   |true=>
    rw[hb]at h;rcases aF.1 hg' with rfl|hm
    ·exact hb
    exact ih (by simpa using h) g' hm
 have ho:=hone cs h1 _ (bp hcj);have hvv:us.getD j undef=v:=by
  simp at hlt hj;simp[Array.getD,hlt];obtain⟨_,he⟩:=aW.1 hj;exact he
 rw[hvv]at his;clear hcj;generalize cs[j]'(by have:=hc.1;simp at hlt;omega)=gg at his ho;cases his with
 |ro hr=>exact hr.one ho
 |p _=>rfl
 |e _ _=>rfl
 |o _ _ h1=>exact (Nd h1).2.1
 |agg _ _=>cases ho
 |tup _ _=>cases ho
 |fn _ _ _ _=>rfl
 |ifc _=>rfl
def iQ.put {cx:Cx} {s:St} (h:iQ cx H s w) {id:Nat} {x y:hY} (hl:gW s.σ id=some x) (hb:blocks H (id,y)=blocks H (id,x)) {w':World} (hos:w'.os=w.os) (htape:w'.tape=w.tape) (hout:w'.output=w.output) (hsize:w.heap.size<=w'.heap.size)
  (hk:∀b,b<w.heap.size->b∉blocks H (id,x)->w'.heap[b]? =w.heap[b]?) (hh:GK.holds H w' (id,y)) (ρ:Env):iQ cx H {s with ρ:=ρ,σ:=jh s.σ id y} w':=by
 obtain⟨l1,l2,e1,_,e3⟩:=kU hl;have hs:=h.sat;have hfr:=h.fr;have ebl:g_ H (jh s.σ id y)=g_ H s.σ:=by rw[e3,e1,il,il,iD,iD,hb]
 have hin:∀b∈blocks H (id,x),b∈g_ H s.σ:=λb hb'=>by rw[e1,il,iD];simp[hb']
 have hnd:=hs.nodup;rw[e1,il,iD]at hnd;have hother:∀z∈l1++l2,∀b∈blocks H z,b∉blocks H (id,x):=by
  intro z hz b hbz hbx;have n1:=a8.1 hnd;have n2:=a8.1 n1.2.1;rcases aE.1 hz with h1|h1
  ·exact n1.2.2 b (aX.2 ⟨z,h1,hbz⟩) b (by simp[hbx]) rfl
  exact n2.2.2 b hbx b (aX.2 ⟨z,h1,hbz⟩) rfl
 refine⟨h.n,⟨λb o hr=>?_,λz hz=>?_,by rw[ebl];exact hs.nodup,λb hbm=>hs.free b (by rwa [ebl]at hbm),λz hz=>?_⟩,?_⟩
 ·have h1:=hs.ro b o hr;rw[hk b (aW.1 h1).1 (λhbx=>by have:=hs.free b (hin b hbx);rw[this]at hr;cases hr)];exact h1
 ·simp only[e3]at hz;have hz':z=(id,y)\/z∈l1++l2:=by
   rcases aE.1 hz with h1|h1
   ·exact .inr (aE.2 (.inl h1))
   rcases aF.1 h1 with h2|h2
   ·exact .inl h2
   exact .inr (aE.2 (.inr h2))
  rcases hz' with rfl|hz'
  ·exact hh
  have hmem:z∈s.σ:=by
   rw[e1];rcases aE.1 hz' with h1|h1
   ·exact aE.2 (.inl h1)
   exact aE.2 (.inr (aK _ h1))
  exact lu (λb hbz=>hk b (hs.lt b (aX.2 ⟨z,hmem,hbz⟩)) (hother z hz' b hbz)) (hs.holds z hmem)
 ·simp only[e3]at hz;rcases aE.1 hz with h1|h1
  ·exact hs.ids z (by rw[e1];exact aE.2 (.inl h1))
  rcases aF.1 h1 with rfl|h2
  ·exact hs.ids (id,x) (by rw[e1];simp)
  exact hs.ids z (by rw[e1];exact aE.2 (.inr (aK _ h2)))
 refine⟨hos.trans hfr.os,htape.trans hfr.tape,hout.trans hfr.output,bE hfr.size hsize,λb h1 h2=>?_,λb hbm=>hfr.own b (by simp only at hbm;rwa [ebl]at hbm),hfr.fro,hfr.le⟩;rw[hk b (a_ h1 hfr.size) (λhbx=>?_)]
 ·exact hfr.keep b h1 h2
 rcases hfr.own b (hin b hbx) with h3|h3
 ·exact h2 h3
 omega
def iQ.store{cx:Cx}{s:St}(h:iQ cx H s w){id ty off:Nat}{cs gs:List GV}{vs:Array Value}(hl:gW s.σ id=some (.hZ ty cs))(hg:Cells H gs vs)(hle:off+gs.length<=cs.length)(h1:pS gs=true)(ρ:Env):
  ∃w',(∀P:Program,(storeCells ⟨H.bl id,off,none⟩ vs.toList).run P w=.ok () w')/\iQ cx H {s with ρ:=ρ,σ:=jh s.σ id (.hZ ty (cs.take off++gs++cs.drop (off+gs.length)))} w':=by
 obtain⟨us,hw,hlen,his⟩:=h.sat.holds _ (ib hl);have hvl:vs.toList.length=gs.length:=by simp[hg.1]
 refine⟨w.setRow (H.bl id) (us.toList.take off++vs.toList++us.toList.drop (off+vs.toList.length)).toArray,λP=>?_,?_⟩
 ·exact run_storeCells_at P (H.bl id) off ty vs.toList 0 us w hw (by have:=hg.1;simp only[bu]at*;omega) (uo hg h1)
 refine h.put (y:=.hZ ty (cs.take off++gs++cs.drop (off+gs.length))) (w':=w.setRow (H.bl id) (us.toList.take off++vs.toList++us.toList.drop (off+vs.toList.length)).toArray) hl rfl rfl rfl rfl aA (λb hb hn=>?_) ?_ ρ
 ·exact setRow_other w _ b _ (λe=>hn (by simp[blocks,e]))
 exact⟨_,setRow_heap w _ us _ ty (0,0) hw,(zj (H:=H) ⟨hlen,his⟩ hg hle)⟩
def zC:∀(l:List Value) (k off:Nat) (cells:Array Value),
  (((l.zipIdx k).foldl (λcs (x:Value×Nat)=>cs.setIfInBounds (off+x.2) x.1) cells).size=cells.size)/\
  ∀i,i<cells.size->((l.zipIdx k).foldl (λcs (x:Value×Nat)=>cs.setIfInBounds (off+x.2) x.1) cells).getD i undef=if off+k<=i/\i<off+k+l.length then l.getD (i- (off+k)) undef else cells.getD i undef
 | [],k,off,cells=>by
  refine⟨rfl,λi _=>?_⟩;simp only[List.zipIdx_nil,eC,aM,b8];rw[if_neg az]
 |v::l,k,off,cells=>by
  obtain⟨h1,h2⟩:=zC l (k+1) off (cells.setIfInBounds (off+k) v);simp only[List.zipIdx_cons,bC];refine⟨by rw[h1];simp,λi hi=>?_⟩;rw[h2 i (by simpa using hi)];by_cases e:i=off+k
  ·subst e;rw[if_neg az,if_pos aA];simp[Array.getD,hi]
  by_cases h3:off+(k+1)<=i/\i<off+(k+1)+l.length
  ·rw[if_pos h3,if_pos aq];have:i- (off+k)=(i- (off+(k+1)))+1:=az
   rw[this];rfl
  rw[if_neg h3,if_neg aq];simp only[bn];rw[dS az]
def DW{place:Nat->Option (Nat×Nat)}{places:List (Nat×Nat×Bool)}(hp:∀i off sz ag,places[i]? =some (off,sz,ag)->place i=some (off,sz)):∀{gs:List (Nat×GV)} {vs:List (Nat×Value)} {cs:List GV} {us:Array Value} {cs':List GV},
  gs.length=vs.length->(∀(j:Nat) i g,gs[j]? =some (i,g)->∃v,vs[j]? =some (i,v)/\Is H g v)->Cells H cs us->wo places gs cs=some cs'->∃us',Instr.fill place us vs=some us'/\Cells H cs' us'
 | [],[],cs,us,cs',_,_,hc,hf=>by simp only[wo,aV]at hf;subst hf;exact⟨us,rfl,hc⟩
 | (i,g)::gs,(i',v)::vs,cs,us,cs',hl,hi,hc,hf=>by
  obtain⟨v0,hv',hisv⟩:=hi 0 i g rfl;simp only[List.getElem?_cons_zero,aV,bK]at hv';obtain⟨e1,e2⟩:=hv';subst e1;subst e2;unfold wo at hf;cases hpl:places[i']? with
  |none=>rw[hpl]at hf;cases hf
  |some x=>
   obtain⟨off,sz,ag⟩:=x;rw[hpl]at hf;simp only at hf;cases hb:Nat.beq (cellsOf g).length sz with
   |false=>rw[hb]at hf;cases hf
   |true=>
    rw[hb]at hf;have hsz:=beq_eq hb;simp only[cY]at hf;cases hfb:Nat.ble (off+sz) cs.length with
    |false=>rw[hfb]at hf;cases hf
    |true=>
    rw[hfb]at hf;have hfit:=bA hfb;simp only[cond_true]at hf;have hcg:=rC hisv;have hvs:v.cells.size=sz:=by rw[<-hcg.1];exact hsz
    have hfit':off+v.cells.size<=us.size:=by rw[hvs,<-hc.1];exact hfit
    obtain⟨f1,f2⟩:=zC v.cells.toList 0 off us;have hnew:Cells H (cs.take off++cellsOf g++cs.drop (off+sz)) (v.cells.zipIdx.foldl (λcs (c,j)=>cs.setIfInBounds (off+j) c) us):=by
     have e:v.cells.zipIdx.foldl (λcs (c,j)=>cs.setIfInBounds (off+j) c) us=(v.cells.toList.zipIdx 0).foldl (λcs (x:Value×Nat)=>cs.setIfInBounds (off+x.2) x.1) us:=by
      rw[<-Array.foldl_toList,Array.toList_zipIdx]
     rw[e];have hsp:=zj hc hcg (off:=off) (by rw[hsz];exact hfit);rw[hsz]at hsp;refine⟨by rw[f1,hsp.1];have:=hc.1;have:=hcg.1;simp;omega,λj g' hj=>?_⟩;have hlt:j<us.size:=by
      have:=(aO.1 hj).1;have h0:=hc.1;simp at this;omega
     have:=hsp.2 j g' hj;rw[f2 j hlt];have e2:(List.take off us.toList++v.cells.toList++List.drop (off+v.cells.toList.length) us.toList).toArray.getD j undef=if off+0<=j/\j<off+0+v.cells.toList.length then v.cells.toList.getD (j- (off+0)) undef else us.getD j undef:=by
      simp only[b8,bn,List.getElem?_toArray,List.getD];by_cases h1:j<off
      ·rw[if_neg az,aS,bc aq,bD,if_pos h1];simp
      by_cases h2:j<off+v.cells.toList.length
      ·rw[if_pos ⟨az,h2⟩,aS,aU aq,bc (by simp at*;omega)]
       congr 2
       simp;omega
      rw[if_neg az,aU (by simp at*;omega),bo];have:off+v.cells.toList.length+(j- (List.take off us.toList++v.cells.toList).length)=j:=by simp at*;omega
      rw[this];simp
     rw[<-e2];exact this
    obtain⟨us',hu',hcu⟩:=DW hp (gs:=gs) (vs:=vs) (by simpa using hl) (λj i g hj=>hi (j+1) i g (by simpa using hj)) hnew hf;refine⟨us',?_,hcu⟩;unfold Instr.fill;rw[hp i' off sz ag hpl];simp only;rw[if_neg (by simp[hvs];omega)];exact hu'
 | [],_::_,_,_,_,hl,_,_,_=>by simp at hl
 |_::_,[],_,_,_,hl,_,_,_=>by simp at hl
end
section
variable {p:Pg}{H:Hid}{ρ:Env}{σ:Heap}{a:Act}{w:World}
mutual
def Is.Qx:∀{g:GV} {u:Value},Is H g u->iy 0 g=true->jM H.ro g u
 | .v x,u,h,_=>by have:=h.iH;subst this;exact .v _
 | .b c,u,h,_=>by have:=h.nF;subst this;exact .b _
 | .p id off,u,_,hb=>by simp[iy]at hb
 | .e id sz i off,u,_,hb=>by simp[iy]at hb
 | .o id,u,_,hb=>by simp[iy]at hb
 | .r cs,u,h,_=>by cases h with|ro h=>exact h
 | .sl sz rows,u,h,_=>by cases h with|ro h=>exact h
 | .agg cs,u,h,hb=>by
  simp only[iy]at hb;obtain⟨us,rfl,hl,hi⟩:=h.rN;exact .agg hl (Is.Dw cs hi hb)
 | .tup cs,u,h,hb=>by
  simp only[iy]at hb;obtain⟨us,rfl,hl,hi⟩:=h.uW;exact .tup hl (Is.Dw cs hi hb)
 | .fn f aas cs,u,h,hb=>by
  simp only[iy,aG]at hb;obtain⟨us,vs,rfl,hl,hi,hl',hi'⟩:=h.w_;exact .fn hl (Is.Dw aas hi hb.1) hl' (Is.Dw cs hi' hb.2)
 | .ifc t x,u,h,hb=>by
  simp only[iy]at hb;obtain⟨v,rfl,hi⟩:=h.rQ;exact .ifc (Is.Qx hi hb)
def Is.Dw{F:Nat->Value}:∀(l:List GV),(∀(j:Nat) (g:GV),l[j]? =some g->Is H g (F j))->im 0 l=true->∀(j:Nat) (g:GV),l[j]? =some g->jM H.ro g (F j)
 | [],_,_,j,g,hj=>by simp at hj
 |x::r,h,hb,0,g,hj=>by
  simp[im]at hb;simp at hj;subst hj;exact Is.Qx (h 0 _ rfl) hb.1
 |x::r,h,hb,j+1,g,hj=>by
  simp[im]at hb;exact Is.Dw (F:=λj=>F (j+1)) r (λj g hj=>h (j+1) g (by simpa using hj)) hb.2 j g (by simpa using hj)
end
def F7(sz:Nat):∀(vs:List (Nat×Value)) (k:Nat) (us:Array Value),(∀(m:Nat) (x:Nat×Value),vs[m]? =some x->x.1=k+m/\x.2.cells.size=sz)->(k+vs.length)*sz<=us.size->
  ∃us',Instr.fill (λi=>some (i*sz,sz)) us vs=some us'/\us'.size=us.size/\(∀i,i<k*sz->us'.getD i undef=us.getD i undef)/\
   ∀(m:Nat) (x:Nat×Value),vs[m]? =some x->∀j,j<sz->us'.getD ((k+m)*sz+j) undef=x.2.cells.getD j undef
 | [],k,us,_,_=>⟨us,rfl,rfl,λ_ _=>rfl,by simp⟩
 | (i,v)::vs,k,us,hv,hl=>by
  obtain⟨hi,hs⟩:=hv 0 (i,v) rfl;simp only[b8]at hi hs;subst hi;obtain⟨f1,f2⟩:=zC v.cells.toList 0 (i*sz) us;have hlen:v.cells.toList.length=sz:=by simpa using hs
  simp only[aB]at hl;have hmul:(i+(vs.length+1))*sz=i*sz+sz+vs.length*sz:=by rw[cg,cg];omega
  have hone:(i+1)*sz=i*sz+sz:=by rw[cg];omega
  have e:v.cells.zipIdx.foldl (λcs (c,j)=>cs.setIfInBounds (i*sz+j) c) us=(v.cells.toList.zipIdx 0).foldl (λcs (x:Value×Nat)=>cs.setIfInBounds (i*sz+x.2) x.1) us:=by
   rw[<-Array.foldl_toList,Array.toList_zipIdx]
  obtain⟨us',h1,h2,h3,h4⟩:=F7 sz vs (i+1) ((v.cells.toList.zipIdx 0).foldl (λcs (x:Value×Nat)=>cs.setIfInBounds (i*sz+x.2) x.1) us)
   (λm x hm=>by have:=hv (m+1) x (by simpa using hm);exact⟨by omega,this.2⟩) (by rw[f1,cg,hone];omega)
  refine⟨us',?_,by rw[h2,f1],λj hj=>?_,λm x hm j hj=>?_⟩
  ·unfold Instr.fill;simp only;rw[if_neg (by simp[hs];omega),e];exact h1
  ·rw[h3 j az,f2 j az,if_neg az]
  cases m with
  |zero=>
   simp at hm;subst hm;simp only[b8];rw[h3 _ az,f2 _ az,if_pos az];have:i*sz+j- (i*sz+0)=j:=by omega
   rw[this];simp[List.getD,bn]
  |succ m=>
   have:=h4 m x (by simpa using hm) j hj
   rwa [show i+1+m=i+(m+1) by omega]at this
def EO{sz:Nat}:∀{k:Nat} {gs:List (Nat×GV)},DD sz k gs=true->∀(m i:Nat) (g:GV),gs[m]? =some (i,g)->i=k+m/\(cellsOf g).length=sz/\pS (cellsOf g)=true/\im 0 (cellsOf g)=true
 |_,[],_,m,i,g,hm=>by simp at hm
 |k,(i0,g0)::r,h,m,i,g,hm=>by
  simp only[DD,aG]at h;obtain⟨⟨⟨⟨h1,h2⟩,h3⟩,h4⟩,h5⟩:=h;cases m with
  |zero=>simp at hm;obtain⟨rfl,rfl⟩:=hm;exact⟨by simpa using (beq_eq h1).symm,beq_eq h2,h3,h4⟩
  |succ m=>have:=EO h5 m i g (by simpa using hm);exact⟨az,this.2⟩
def iQ.newRow{cx:Cx}{s:St}(h:iQ cx H s w){ty sz:Nat}{rows:List (List GV)}{us:Array Value}(hr:kJ H.ro sz rows us.toList)(hm:rows.length<=maxLen)(ρ:Env):
  iQ cx (H.more w.heap.size (.slice (some ⟨w.heap.size,0,none⟩) rows.length rows.length)) {ρ:=ρ,σ:=(s.n,.row ty sz rows)::s.σ,n:=s.n+1} (w.alloc (.cells us ty))/\
   Is (H.more w.heap.size (.slice (some ⟨w.heap.size,0,none⟩) rows.length rows.length)) (.o s.n) (.slice (some ⟨w.heap.size,0,none⟩) rows.length rows.length):=by
 have hle:=H.km w.heap.size (.slice (some ⟨w.heap.size,0,none⟩) rows.length rows.length);have e:(H.more w.heap.size (.slice (some ⟨w.heap.size,0,none⟩) rows.length rows.length)).sv s.n=.slice (some ⟨w.heap.size,0,none⟩) rows.length rows.length:=by simp[Hid.more,h.n]
 refine⟨h.grow hle rfl (by simp[Hid.more,h.n]) ((Below.refl _ _).alloc (aL _) _) ?_ (by simp[blocks,e,Value.ownBlock]) (by simp[blocks,e,Value.ownBlock]) ρ,.o (by simp[Hid.more,h.n]) e rfl⟩;refine⟨us.toList,?_,hr.mono hle.ro⟩;rw[e];refine⟨by simpa using hr.len,.inr ⟨w.heap.size,rows.length,us,rfl,aQ _,heap_alloc_new w _,aL _,hm,by simpa using hr.len,?_⟩⟩;rw[<-hr.len];exact cv aA
def AU {t e:Nat} {ti:TI} (hu:p.P.underlying t=some (.slice e)) (hti:pk p.P e ti) {gs:List (Nat×GV)} {vs:Array (Nat×Value)} {len:Nat} (hl:gs.length=vs.size)
  (hi:∀(j:Nat) i g,gs[j]? =some (i,g)->∃v,vs.toList[j]? =some (i,v)/\Is H g v) (hq:DD ti.sz 0 gs=true) (hlen:gs.length=len) (hbig:len*ti.sz<=16777216) (hsz:0<ti.sz):
  ∃us:Array Value,(Instr.buildSlice t len vs).run p.P w=.ok (.slice (some ⟨w.heap.size,0,none⟩) len len) (w.alloc (.cells us e))/\kJ H.ro ti.sz (gs.map λx=>cellsOf x.2) us.toList:=by
 obtain⟨it,z,hit,hsi,_,hz,hzc,hzl⟩:=hti.info;have hspec:=EO hq;have hvs:∀(m:Nat) (x:Nat×Value),vs.toList[m]? =some x->∃g,gs[m]? =some (x.1,g)/\Is H g x.2:=by
  intro m x hm;have hlt:m<gs.length:=by have:=(aO.1 hm).1;simp at this;omega
  have hgm:gs[m]? =some ((gs[m]'hlt).1,(gs[m]'hlt).2):=by rw[aC hlt]
  obtain⟨v,hv,his⟩:=hi m _ _ hgm;rw[hv]at hm;simp at hm;subst hm;exact⟨_,hgm,his⟩
 let zs:Array Value:=if len*ti.sz=0 then #[] else z.cells
 have hinit:((Array.range (len*ti.sz)).map (zs[· % zs.size]!)).size=len*ti.sz:=by simp
 obtain⟨us,h1,h2,_,h4⟩:=F7 ti.sz vs.toList 0 ((Array.range (len*ti.sz)).map (zs[· % zs.size]!)) (λm x hm=>by
  obtain⟨g,hg,his⟩:=hvs m x hm;obtain⟨a1,a2,_⟩:=hspec m _ _ hg;exact⟨a1,by rw[<- (rC his).1];exact a2⟩) (by rw[hinit];simp;rw[<-hl,hlen];exact aL _)
 refine⟨us,?_,?_⟩
 ·have hnb:¬len*ti.sz>2^24:=by omega
  simp only[Instr.buildSlice,Sem.run_bind,ik hu,Result.andThen_ok,hti.size];rw[if_neg hnb];by_cases h0:len*ti.sz=0
  ·have hz0:zs=#[]:=by simp[zs,h0]
   rw[hz0]at h1;simp only[h0,↓reduceIte,Sem.run_bind,Sem.run_pure,Result.andThen_ok]at h1|-;rw[h1];simp[newRow]
  have hz0:zs=z.cells:=by simp[zs,h0]
  rw[hz0]at h1;simp only[h0,↓reduceIte,Sem.run_bind,Sem.run_pure,Result.andThen_ok,zeroValue,tQ hit,hz];rw[h1];simp[newRow]
 refine⟨by simp[h2,hlen],λrow hr=>?_,λi row hr j g hj=>?_,λu hu=>?_⟩
 ·obtain⟨x,hx,rfl⟩:=ba.1 hr;obtain⟨m,hm⟩:=cA hx;exact (hspec m x.1 x.2 hm).2.1
 ·simp only[bg,cu]at hr;obtain⟨x,hx,rfl⟩:=hr;obtain⟨v,hv,his⟩:=hi i x.1 x.2 hx;obtain⟨_,a2,_,a4⟩:=hspec i x.1 x.2 hx;have hjlt:j<ti.sz:=by rw[<-a2];exact (aO.1 hj).1
  have:=h4 i (x.1,v) hv j hjlt;simp only[cy]at this;have hilt:i<len:=by rw[<-hlen];exact (aO.1 hx).1
  have hlt:i*ti.sz+j<us.size:=by
   rw[h2,hinit];have:=bH ti.sz (show i+1<=len by omega);rw[cg]at this;omega
  have hc:=rC his;refine⟨us.getD (i*ti.sz+j) undef,by simp[Array.getD,hlt],?_⟩;rw[this];exact Is.Dw (F:=λj=>v.cells.getD j undef) _ hc.2 a4 j g hj
 obtain⟨k,hk⟩:=cA hu;have hkl:k<us.size:=by have:=(aO.1 hk).1;simpa using this
 have hdiv:k=k/ti.sz*ti.sz+k % ti.sz:=by rw[fb];exact (Nat.div_add_mod _ _).symm
 have hmod:=eK k hsz;have hdl:k/ti.sz<len:=by
  rw[Nat.div_lt_iff_lt_mul hsz];rw[h2,hinit]at hkl;exact hkl
 have hx:gs[k/ti.sz]? =some ((gs[k/ti.sz]'az).1,(gs[k/ti.sz]'az).2):=by rw[aC az]
 obtain⟨v,hv,his⟩:=hi _ _ _ hx;obtain⟨_,a2,a3,_⟩:=hspec _ _ _ hx;have hc:=rC his;have:=h4 _ _ hv (k % ti.sz) hmod;simp only[cy]at this;rw[<-hdiv]at this;have hcl:k % ti.sz<v.cells.size:=by rw[<-hc.1,a2];exact hmod
 have hu':u=us.getD k undef:=by
  simp at hk;obtain⟨hh,he⟩:=aW.1 hk;simp[Array.getD,hkl,he]
 rw[hu',this];refine uo hc a3 _ ?_;simp[Array.getD,hcl]
def kJ.append{ro:Nat->Option Obj}{sz:Nat}{r1 r2:List (List GV)}{x1 x2:List Value}(h:kJ ro sz r1 x1)(k:kJ ro sz r2 x2):kJ ro sz (r1++r2) (x1++x2):=by
 refine⟨by simp[h.len,k.len,cg],λrow hr=>?_,λi row hr j g hj=>?_,λu hu=>?_⟩
 ·rcases aE.1 hr with h1|h1
  ·exact h.each row h1
  exact k.each row h1
 ·by_cases hlt:i<r1.length
  ·rw[bc hlt]at hr;obtain⟨u,hu,his⟩:=h.is i row hr j g hj;exact⟨u,by rw[bc (aO.1 hu).1];exact hu,his⟩
  rw[aU az]at hr;obtain⟨u,hu,his⟩:=k.is _ row hr j g hj;refine⟨u,?_,his⟩;have e:i*sz+j=x1.length+((i-r1.length)*sz+j):=by
   rw[h.len,fS];have:=bH sz (show r1.length<=i by omega);omega
  rw[e,aU az];rw[show x1.length+((i-r1.length)*sz+j) -x1.length=(i-r1.length)*sz+j by omega];exact hu
 rcases aE.1 hu with h1|h1
 ·exact h.one u h1
 exact k.one u h1
def kJ.nil{ro:Nat->Option Obj}{sz:Nat}:kJ ro sz [] []:=⟨aA,aA,aA,aA⟩
def Gt(hs:Sat H σ w){ty sz:Nat}{g:GV}{u:Value}(h:Is H g u){rows:List (List GV)}(hr:AK σ ty sz g=some rows)(hsz:0<sz):
  ∃(A:Option Addr) (c:Nat) (xs:List Value),u=.slice A rows.length c/\kJ H.ro sz rows xs/\(A=none->rows=[])/\∀ad,A=some ad->∀j v,xs[j]? =some v->w.cell? (ad.add j)=some v:=by
 unfold AK at hr;split at hr
 ·simp at hr;subst hr;exact⟨none,0,[],h.iH,.nil,λ_=>rfl,by simp⟩
 ·rename_i z rows'
  cases hb:Nat.beq z sz with
  |false=>rw[hb]at hr;cases hr
  |true=>
   rw[hb]at hr;simp at hr;subst hr;have:=beq_eq hb;subst this;obtain⟨A,c,us,rfl,hc,hm,he,hne⟩:=h.ny.ny;by_cases h0:rows'=[]
   ·subst h0;exact⟨A,c,[],rfl,.nil,λ_=>rfl,by simp⟩
   obtain⟨ad,rfl,h1,h2,h3⟩:=hne h0;have hget:∀k,k<rows'.length*z->((List.range (rows'.length*z)).map λk=>us (k/z) (k % z))[k]? =some (us (k/z) (k % z)):=λk hk=>by simp[hk]
   have hkk:∀i j,j<z->(i*z+j) /z=i/\(i*z+j) % z=j:=λi j hj=>by
    rw[fb];exact⟨by rw[Nat.mul_add_div hsz];simp[Nat.div_eq_of_lt hj],by rw[Nat.mul_add_mod];exact cI hj⟩
   have hbound:∀i j,i<rows'.length->j<z->i*z+j<rows'.length*z:=λi j hi hj=>by
    have:=bH z (show i+1<=rows'.length by omega);rw[cg]at this;omega
   refine⟨some ad,c,(List.range (rows'.length*z)).map λk=>us (k/z) (k % z),rfl,⟨by simp,he,λi row hr j g hj=>?_,λv hv=>?_⟩,by simp,λad' e j v hj=>?_⟩
   ·have hi:=(aO.1 hr).1;have hj':j<z:=by rw[<-he row (bp hr)];exact (aO.1 hj).1
    obtain⟨e1,e2⟩:=hkk i j hj';refine⟨us i j,?_,h2 i row hr j g hj⟩;rw[hget _ (hbound i j hi hj'),e1,e2]
   ·obtain⟨k,_,rfl⟩:=ba.1 hv;exact h3 _ _
   injection e with e;subst e;have hjl:=(aO.1 hj).1;simp at hjl;rw[hget j hjl]at hj;injection hj with hj;subst hj;have hdiv:j=j/z*z+j % z:=by rw[fb];exact (Nat.div_add_mod _ _).symm
   have hmod:=eK j hsz;have hdl:j/z<rows'.length:=by rw[Nat.div_lt_iff_lt_mul hsz];exact hjl
   have hrow:rows'[j/z]? =some (rows'[j/z]'hdl):=aC hdl;have hrl:=he _ (bp hrow);have hcl:(rows'[j/z]'hdl)[j % z]? =some ((rows'[j/z]'hdl)[j % z]'az):=aC _;have:=h1 _ _ hrow _ _ hcl;rw[<-hdiv]at this;exact pU hs.ro this
 ·rename_i id
  split at hr
  ·rename_i t z rows' hl
   cases hb:Nat.beq t ty with
   |false=>rw[hb]at hr;cases hr
   |true=>
    cases hb2:Nat.beq z sz with
    |false=>rw[hb,hb2]at hr;cases hr
    |true=>
     rw[hb,hb2]at hr;simp at hr;subst hr;have:=beq_eq hb2;subst this;obtain⟨hv,hid⟩:=h.mh;obtain⟨xs,hown,hrow⟩:=hs.holds _ (ib hl);rcases hown.2 with ⟨e,hn⟩|⟨g,cap,cur,e,_,hh,hnc,hcm,hcs,htake⟩
     ·have hr0:rows'=[]:=bU hn;subst hr0;have hx0:xs=[]:=bU (by simpa using hown.1);subst hx0;exact⟨none,0,[],by rw[hv,e];rfl,.nil,λ_=>rfl,by simp⟩
     refine⟨some ⟨g,0,none⟩,cap,xs,by rw[hv,e],hrow,by simp,λad ea j v hj=>?_⟩;injection ea with ea;subst ea;exact hown.cells (g:=g) (by rw[e];rfl) j v hj
  cases hr
 cases hr
def zF(hs:Sat H σ w){ty sz:Nat}{g:GV}{u:Value}(h:Is H g u){rows:List (List GV)}{σ':Heap}(hr:xq σ ty sz g=some (rows,σ')):
  ∃xs,w.ownsRow 0 ty sz u rows.length xs/\kJ H.ro sz rows xs/\(∀b∈u.ownBlock.toList,b∈g_ H σ)/\(∀x∈σ',x∈σ)/\(g_ H σ').Nodup/\∀b∈u.ownBlock.toList,b∉g_ H σ':=by
 unfold xq at hr;split at hr
 ·simp at hr;obtain⟨rfl,rfl⟩:=hr;have:=h.iH;subst this;exact⟨[],World.ownsRow_nil w 0 ty sz,.nil,by simp[Value.ownBlock],λx hx=>hx,hs.nodup,by simp[Value.ownBlock]⟩
 ·rename_i id
  split at hr
  ·rename_i t z rows' hl
   cases hb:Nat.beq t ty with
   |false=>rw[hb]at hr;cases hr
   |true=>
    cases hb2:Nat.beq z sz with
    |false=>rw[hb,hb2]at hr;cases hr
    |true=>
     rw[hb,hb2]at hr;simp at hr;obtain⟨rfl,rfl⟩:=hr;have e1:=beq_eq hb;have e2:=beq_eq hb2;subst e1;subst e2;obtain⟨hv,hid⟩:=h.mh;obtain⟨xs,hown,hrow⟩:=hs.holds _ (ib hl);rw[<-hv]at hown;obtain⟨l1,l2,es,ed,_⟩:=kU hl;have hnd:=hs.nodup;rw[es,il,iD]at hnd;have n1:=a8.1 hnd;have n2:=a8.1 n1.2.1;have hblk:blocks H (id,hY.row t z rows')=u.ownBlock.toList:=by simp[blocks,hv]
     refine⟨xs,hown,hrow,λb hb=>?_,λx hx=>?_,?_,λb hb hc=>?_⟩
     ·rw[es,il,iD,hblk];simp only[aE];exact .inr (.inl hb)
     ·rw[ed]at hx;rw[es];rcases aE.1 hx with h1|h1
      ·exact aE.2 (.inl h1)
      exact aE.2 (.inr (aK _ h1))
     ·rw[ed,il];exact a8.2 ⟨n1.1,n2.2.1,λb hb c hc=>n1.2.2 b hb c (aE.2 (.inr hc))⟩
     rw[ed,il]at hc;rw[hblk]at n1 n2;rcases aE.1 hc with h1|h1
     ·exact n1.2.2 b h1 b (aE.2 (.inl hb)) rfl
     exact n2.2.2 b hb b h1 rfl
  cases hr
 cases hr
def iQ.append {cx:Cx} {s:St} (hs:iQ cx H s w) {t e:Nat} {ti:TI} (hu:p.P.underlying t=some (.slice e)) (hti:pk p.P e ti) (hsz:0<ti.sz) (hby:0<ti.by_) {gd gx:GV} {ud ux:Value} (hd:Is H gd ud) (hx:Is H gx ux)
  {rows news:List (List GV)} {σ':Heap} (hdr:xq s.σ e ti.sz gd=some (rows,σ')) (hxr:AK s.σ e ti.sz gx=some news) (hb:(rows.length+news.length)*ti.by_<=140737488355328) (ρ:Env):
  ∃H' u w',H.le H'/\(Builtin.append_ #[t,t] 0 #[ud,ux]).run p.P w=.ok u w'/\Is H' (.o s.n) u/\iQ cx H' {ρ:=ρ,σ:=(s.n,.row e ti.sz (rows++news))::σ',n:=s.n+1} w':=by
 obtain⟨xs,hown,hrow,hin,hsub,hnd,hout⟩:=zF hs.sat hd hdr;obtain⟨A,c,ys,rfl,hyr,hA,hcell⟩:=Gt hs.sat hx hxr hsz;obtain⟨it,z,hit,hsi,hbi,hz,hzc,hzl⟩:=hti.info;have h63:rows.length+news.length<=maxLen:=by
  have:rows.length+news.length<=(rows.length+news.length)*ti.by_:=gF _ hby
  simp only[maxLen];omega
 have hzs:z.cells.size=ti.sz:=by rw[<-hzl,<-hzc];simp
 have happ:∃u w',(Builtin.append_ #[t,t] 0 #[ud,.slice A news.length c]).run p.P w=.ok u w'/\w'.ownsRow 0 e ti.sz u (rows.length+news.length) (xs++ys)/\w.grownBy w' ud.ownBlock/\(u.ownBlock=ud.ownBlock\/u.ownBlock=some w.heap.size):=by
  cases A with
  |none=>
   have h0:=hA rfl;subst h0;have hy0:ys=[]:=bU (by simpa using hyr.len);subst hy0;refine⟨ud,w,?_,by simpa using hown,⟨rfl,rfl,rfl,aL _,λ_ _ _=>rfl⟩,.inl rfl⟩;rcases hown.2 with ⟨rfl,hn⟩|⟨g,cap,cur,rfl,_,_,hnc,_⟩
   ·simp[Builtin.append_,ik hu,sizeOf,typeInfo,hit,Builtin.lenOf,Builtin.firstCells]
   simp[Builtin.append_,ik hu,sizeOf,typeInfo,hit,Builtin.lenOf,Builtin.firstCells,hnc,storeCells]
  |some ad=>
   obtain⟨v',w',hr,h1,h2,_,h4⟩:=run_append_own_at (P:=p.P) w 0 t 0 e it z ti.sz ti.by_ hu hit hz hsi hbi hzs hsz ud rows.length xs hown ad news.length c ys hyr.len (hcell ad rfl) hyr.one h63 hb (aQ _);exact⟨v',w',hr,h1,h2,h4⟩
 obtain⟨u,w',hr,hown',hgr,hblk⟩:=happ;have hsl:∃A' c',u=.slice A' (rows.length+news.length) c':=by
  rcases hown'.2 with ⟨rfl,hn⟩|⟨g,cap,cur,rfl,_⟩
  ·exact⟨none,0,by rw[hn]⟩
  exact⟨_,_,rfl⟩
 obtain⟨A',c',hue⟩:=hsl;have hle:=H.km w.heap.size u;have esv:(H.more w.heap.size u).sv s.n=u:=by simp[Hid.more,hs.n]
 have hn:s.n<(H.more w.heap.size u).n:=by simp[Hid.more,hs.n]
 have hlt:∀b∈g_ H s.σ,b<w.heap.size:=hs.sat.lt;have hblkin:∀b∈u.ownBlock.toList,b∈ud.ownBlock.toList\/b=w.heap.size:=λb hb=>by
  rcases hblk with h|h
  ·rw[h]at hb;exact .inl hb
  rw[h]at hb;simp at hb;exact .inr hb
 have hsubB:∀b∈g_ H σ',b∈g_ H s.σ:=λb hb=>by
  obtain⟨x,hx,hbx⟩:=aX.1 hb;exact aX.2 ⟨x,hsub x hx,hbx⟩
 have hbl:g_ (H.more w.heap.size u) σ'=g_ H σ':=nD hle (λx hx=>hs.sat.ids x (hsub x hx));have hkeep:∀b,b<w.heap.size->b∉ud.ownBlock.toList->w'.heap[b]? =w.heap[b]? :=λb h1 h2=>hgr.block b h1 (λe=>h2 (by rw[<-e];simp));have hblocks:blocks (H.more w.heap.size u) (s.n,hY.row e ti.sz (rows++news))=u.ownBlock.toList:=by simp[blocks,esv]
 refine⟨H.more w.heap.size u,u,w',hle,hr,?_,?_⟩
 ·rw[hue]at esv|-;exact .o hn esv rfl
 have hfr:=hs.fr;refine⟨by simp[Hid.more,hs.n],⟨λb o ho=>?_,λx hx=>?_,?_,λb hbm=>?_,λx hx=>?_⟩,?_⟩
 ·have h1:=hs.sat.ro b o ho;rw[hkeep b (aW.1 h1).1 (λhbx=>by have h2:=hs.sat.free b (hin b hbx);have h3:H.ro b=some o:=ho;rw[h2]at h3;cases h3)];exact h1
 ·rcases aF.1 hx with rfl|hx
  ·refine⟨xs++ys,?_,(hrow.append hyr).mono hle.ro⟩;rw[esv];simpa using hown'
  refine lu (w:=w) (λb hb=>?_) (nO hle (hs.sat.ids x (hsub x hx)) (hs.sat.holds x (hsub x hx)));rw[pF hle (hs.sat.ids x (hsub x hx))]at hb;have hbm:b∈g_ H σ':=aX.2 ⟨x,hx,hb⟩;exact hkeep b (hlt b (hsubB b hbm)) (λhc=>hout b hc hbm)
 ·rw[iD,hbl,hblocks];refine a8.2 ⟨by cases u.ownBlock<;>simp,hnd,λb hb c hc e=>?_⟩;subst e;rcases hblkin b hb with h|h
  ·exact hout b h hc
  have:=hlt b (hsubB b hc);omega
 ·show H.ro b=none;rw[iD,hbl,hblocks]at hbm;rcases aE.1 hbm with h|h
  ·rcases hblkin b h with h|h
   ·exact hs.sat.free b (hin b h)
   exact hs.sat.rW b az
  exact hs.sat.free b (hsubB b h)
 ·rcases aF.1 hx with rfl|hx
  ·exact hn
  exact a_ (hs.sat.ids x (hsub x hx)) hle.n
 refine⟨hgr.os.trans hfr.os,hgr.tape.trans hfr.tape,hgr.output.trans hfr.output,bE hfr.size hgr.size,λb h1 h2=>?_,λb hbm=>?_,hfr.fro,hfr.le.trans hle⟩
 ·rw[hkeep b (a_ h1 hfr.size) (λhbx=>?_)]
  ·exact hfr.keep b h1 h2
  rcases hfr.own b (hin b hbx) with h|h
  ·exact h2 h
  omega
 simp only at hbm;rw[iD,hbl,hblocks]at hbm;rcases aE.1 hbm with h|h
 ·rcases hblkin b h with h|h
  ·exact hfr.own b (hin b h)
  exact .inr (by have:=hfr.size;omega)
 exact hfr.own b (hsubB b h)
end
end Go.GK
