/-
  The ghost machine: operations that only reckon and read.
-/
import Derived.Test.YtkoalgjlkcaonaaGreatDoorK01
import Derived.Laws.BytesString
import Derived.Laws.Cells
import Derived.MapKept
set_option linter.unusedSimpArgs false
namespace Go.GK
open Go.RowKit

def aggB : Value→Bool
 | .agg _=>true
 | _=>false

structure TyOk (P : Program) (t : Nat) (ti : TI) : Prop where
 info : ∃ i z,P.info? t=some i∧i.size=ti.sz∧i.bytes=ti.by_∧i.zero=some z∧z.cells.toList=ti.zero∧ti.zero.length=ti.sz
 zag : ∃ i z,P.info? t=some i∧i.zero=some z∧aggB z=ti.ag
 ag : ∃ d,P.underlying t=some d∧ti.ag=(match d with | .struct _ | .array _ _=>true | _=>false)
 d : match ti.d with
  | .int k=>P.underlying t=some (.int k)
  | .bool=>P.underlying t=some .bool
  | .str=>P.underlying t=some .string
  | .struct fs=>∃ fields : Array Field,P.underlying t=some (.struct fields)∧(∀ f : Nat,fs[f]?=(fields[f]?).map (fun x=>(x.offset,P.cellsOf x.type,(match P.underlying x.type with | some (.struct _) | some (.array _ _)=>true | _=>false))))∧∀ f ∈ fields.toList,(P.info? f.type).isSome=true∧(P.underlying f.type).isSome=true
  | .slice e=>P.underlying t=some (.slice e)
  | .array n e=>P.underlying t=some (.array n e)
  | .iface m=>∃ ms,P.underlying t=some (.interface ms)∧m=!ms.isEmpty
  | .map k e=>P.underlying t=some (.map k e)
  | .ptr=>∃ e,P.underlying t=some (.pointer e)
  | .other=>∀ ms,P.underlying t ≠ some (.interface ms)
 eqk : ∀ ks,ti.eqk=some ks→P.eqGuardType P.depth t=false∧P.stoodInHeld t=false∧∃ fields : Array Field,P.underlying t=some (.struct fields)∧fields.size=ks.length ∧
  ∀ (i : Nat) (f : Field), fields[i]? = some f → f.name ≠ "_" ∧ f.offset = i ∧ ∃ k, ks[i]? = some k ∧ (match k with | .int => ∃ j, P.underlying f.type = some (.int j) | .str => P.underlying f.type = some .string | .bool => P.underlying f.type = some .bool)

structure Pg.Ok (p : Pg) : Prop where
 tt : ∀ t ti,tget p.tt t=some ti→TyOk p.P t ti
 mixed : p.P.follows .mixedOrders=true

theorem TyOk.noIface {P : Program} {t : Nat} {ti : TI} (h : TyOk P t ti) (hd : ∀ m,ti.d ≠ .iface m) : ∃ d,P.underlying t=some d∧∀ ms,d ≠ .interface ms:=by
 obtain ⟨d,hu,_⟩:=h.ag
 refine ⟨d,hu,fun ms e=>?_⟩
 have:=h.d
 subst e
 revert this
 cases hdd : ti.d <;> simp [hu]
 case iface m=>exact (hd m hdd).elim

section
variable {p : Pg} {H : Hid} {ρ : Env} {σ : Heap} {a : Act} {w : World}

structure Agr (H : Hid) (σ : Heap) (w w' : World) : Prop where
 ro : ∀ b o,H.ro b=some o→w'.heap[b]?=some o
 own : ∀ b ∈ blks H σ,w'.heap[b]?=w.heap[b]?

theorem Agr.refl (hs : Sat H σ w) : Agr H σ w w:=⟨hs.ro,fun _ _=>rfl⟩
theorem Agr.below (hs : Sat H σ w) {w' : World} (hb : Below w.heap.size w w') : Agr H σ w w' :=
 ⟨(hs.below hb).ro,fun b hm=>hb.block b (hs.lt b hm)⟩
theorem Agr.blk {id ty : Nat} {cs : List GV} {w' : World} (h : Agr H σ w w') (hl : hlook σ id=some (.blk ty cs)) : w'.heap[H.bl id]?=w.heap[H.bl id]? :=
 h.own _ (List.mem_flatMap.2 ⟨_,hlook_mem hl,by simp [blocks]⟩)
theorem Agr.row {id ty sz n : Nat} {rows : List (List GV)} {w' : World} {xs : List Value} (h : Agr H σ w w') (hl : hlook σ id=some (.row ty sz rows)) (ho : w.ownsRow 0 ty sz (H.sv id) n xs) : w'.ownsRow 0 ty sz (H.sv id) n xs:=by
 refine ⟨ho.1,?_⟩
 rcases ho.2 with h1 | ⟨g,cap,cur,hv,hb,hh,r⟩
 ·exact .inl h1
 ·refine .inr ⟨g,cap,cur,hv,hb,?_,r⟩
  rw [h.own g (List.mem_flatMap.2 ⟨_,hlook_mem hl,by simp [blocks,hv,Value.ownBlock]⟩)]
  exact hh

def Gives (p : Pg) (H : Hid) (σ : Heap) (a : Act) (w : World) (o : Op) (K : GV→Prop) : Prop :=
 ∃ u g,(∀ w',Agr H σ w w'→∀ o' : Oper,o'.op=o→(execOp a.eval o').run p.P w'=.ok (.value u) w')∧Is H g u∧K g

theorem gives_arith {op : BinOp} {k : IntKind} {m n : Int} {K : GV→Prop} (h : arith op k m n K) :
  ∃ u g,(∀ t w',(binOp op t (.int k m) (.int k n)).run p.P w'=.ok u w')∧Is H g u∧K g:=by
 cases op <;> simp only [arith] at h <;> (try exact h.elim)
 case add=>exact ⟨.int k (k.wrap (m + n)),_,fun t w'=>by simp [binOp,Op.intArith],.ro (.v _),h⟩
 case sub=>exact ⟨.int k (k.wrap (m - n)),_,fun t w'=>by simp [binOp,Op.intArith],.ro (.v _),h⟩
 case mul=>exact ⟨.int k (k.wrap (m * n)),_,fun t w'=>by simp [binOp,Op.intArith],.ro (.v _),h⟩
 case quo=>exact ⟨.int k (k.wrap (m.tdiv n)),_,fun t w'=>by simp [binOp,Op.intDiv,h.1],.ro (.v _),h.2⟩
 case rem=>exact ⟨.int k (m.tmod n),_,fun t w'=>by simp [binOp,Op.intDiv,h.1],.ro (.v _),h.2⟩
 case and =>
  refine ⟨.int k (bitsV .and k m n),_,fun t w'=>?_,.ro (.v _),h⟩
  have e : binOp .and t (.int k m) (.int k n)=Op.intBits .and k m n:=by simp [binOp]
  rw [e]
  rfl
 case or =>
  refine ⟨.int k (bitsV .or k m n),_,fun t w'=>?_,.ro (.v _),h⟩
  have e : binOp .or t (.int k m) (.int k n)=Op.intBits .or k m n:=by simp [binOp]
  rw [e]
  rfl
 case xor =>
  refine ⟨.int k (bitsV .xor k m n),_,fun t w'=>?_,.ro (.v _),h⟩
  have e : binOp .xor t (.int k m) (.int k n)=Op.intBits .xor k m n:=by simp [binOp]
  rw [e]
  rfl
 case andNot =>
  refine ⟨.int k (bitsV .andNot k m n),_,fun t w'=>?_,.ro (.v _),h⟩
  have e : binOp .andNot t (.int k m) (.int k n)=Op.intBits .andNot k m n:=by simp [binOp]
  rw [e]
  rfl
 case eql=>exact ⟨.bool (m == n),_,fun t w'=>by simp [binOp,Op.intCmp],.ro (.b _),h⟩
 case neq=>exact ⟨.bool (m != n),_,fun t w'=>by simp [binOp,Op.intCmp],.ro (.b _),h⟩
 case lss=>exact ⟨.bool (decide (m < n)),_,fun t w'=>by simp [binOp,Op.intCmp],.ro (.b _),h⟩
 case leq=>exact ⟨.bool (decide (m≤n)),_,fun t w'=>by simp [binOp,Op.intCmp],.ro (.b _),h⟩
 case gtr=>exact ⟨.bool (decide (m > n)),_,fun t w'=>by simp [binOp,Op.intCmp],.ro (.b _),h⟩
 case geq=>exact ⟨.bool (decide (m ≥ n)),_,fun t w'=>by simp [binOp,Op.intCmp],.ro (.b _),h⟩

theorem gives_str {op : BinOp} {x y : ByteArray} {K : GV→Prop} (h : strOp op x y K) :
  ∃ u g,(∀ t w',(binOp op t (.string x) (.string y)).run p.P w'=.ok u w')∧Is H g u∧K g:=by
 cases op <;> simp only [strOp] at h <;> (try exact h.elim)
 case add =>
  refine ⟨.string (x++y),_,fun t w'=>?_,.ro (.v _),h.2⟩
  have hle : ¬ ((x.size + y.size : Nat) : Int) > IntKind.i64.max:=by
   have:=h.1
   have e : IntKind.i64.max=9223372036854775807:=by decide
   rw [e]; omega
  have e : binOp .add t (.string x) (.string y)=Op.stringOp .add x y:=rfl
  rw [e]
  unfold Op.stringOp
  simp only []
  rw [if_neg hle]
  rfl
 case eql=>exact ⟨.bool (x.toList == y.toList),_,fun t w'=>rfl,.ro (.b _),h⟩
 case neq=>exact ⟨.bool (!(x.toList == y.toList)),_,fun t w'=>rfl,.ro (.b _),h⟩
 case lss=>exact ⟨.bool (Op.bytesLess x.toList y.toList),_,fun t w'=>rfl,.ro (.b _),h⟩
 case leq=>exact ⟨.bool (Op.bytesLess x.toList y.toList || x.toList == y.toList),_,fun t w'=>rfl,.ro (.b _),h⟩
 case gtr=>exact ⟨.bool (!(Op.bytesLess x.toList y.toList || x.toList == y.toList)),_,fun t w'=>rfl,.ro (.b _),h⟩
 case geq=>exact ⟨.bool (!Op.bytesLess x.toList y.toList),_,fun t w'=>rfl,.ro (.b _),h⟩

theorem kno_inj {k j : IntKind} (h : kno k=kno j) : k=j:=by cases k <;> cases j <;> first | rfl | (simp [kno] at h)

theorem gives_bin {op : BinOp} {gx gy : GV} {ux uy : Value} {K : GV→Prop} (hx : Is H gx ux) (hy : Is H gy uy) (h : binVC op gx gy K) (x y : Operand) (ex : a.eval x=ux) (ey : a.eval y=uy) :
  ∃ u g,(∀ t w',(do eqGuard op t x y ux uy; binOp op t ux uy : Sem Value).run p.P w'=.ok u w')∧Is H g u∧K g:=by
 unfold binVC at h
 split at h
 ·rename_i k m j n
  have:=hx.inv_v; subst this
  have:=hy.inv_v; subst this
  have hgd : ∀ t w',(eqGuard op t x y (.int k m) (.int j n)).run p.P w'=.ok () w':=fun t w'=>by
   unfold eqGuard; cases op <;> simp
  split at h
  ·refine ⟨_,_,fun t w'=>?_,.ro (.v _),h.2⟩
   have : ¬ n < 0:=by omega
   simp [hgd,binOp,Op.shift,this]
  ·refine ⟨_,_,fun t w'=>?_,.ro (.v _),h.2⟩
   have : ¬ n < 0:=by omega
   simp [hgd,binOp,Op.shift,this]
  ·cases hb : Nat.beq (kno k) (kno j) with
   | false=>rw [hb] at h; exact h.elim
   | true =>
    rw [hb] at h
    have:=kno_inj (beq_eq hb)
    subst this
    obtain ⟨u,g,hr,hi,hk⟩:=gives_arith (p:=p) (H:=H) h
    exact ⟨u,g,fun t w'=>by simp [hgd,hr],hi,hk⟩
 ·rename_i s t
  have:=hx.inv_v; subst this
  have:=hy.inv_v; subst this
  obtain ⟨u,g,hr,hi,hk⟩:=gives_str (p:=p) (H:=H) h
  have hgd : ∀ ty w',(eqGuard op ty x y (.string s) (.string t)).run p.P w'=.ok () w':=fun ty w'=>by
   unfold eqGuard; cases op <;> simp
  exact ⟨u,g,fun t w'=>by simp [hgd,hr],hi,hk⟩
 ·exact h.elim

theorem run_under {P : Program} {t : TypeId} {d : TypeDesc} (h : P.underlying t=some d) (w : World) : (underlying t).run P w=.ok d w:=by
 simp [underlying,h]
theorem run_tinfo {P : Program} {t : TypeId} {i : TypeInfo} (h : P.info? t=some i) (w : World) : (typeInfo t).run P w=.ok i w:=by
 simp [typeInfo,h]
theorem run_size {P : Program} {t : TypeId} {i : TypeInfo} (h : P.info? t=some i) (w : World) : (sizeOf t).run P w=.ok i.size w:=by
 simp [sizeOf,run_tinfo h]
theorem run_ag {P : Program} {t : TypeId} {ti : TI} (h : TyOk P t ti) (w : World) : (isAgg t).run P w=.ok ti.ag w:=by
 obtain ⟨d,hu,ha⟩:=h.ag
 simp only [isAgg,Sem.run_bind,run_under hu,Result.andThen_ok]
 rw [ha]
 cases d <;> rfl
theorem TyOk.size {P : Program} {t : Nat} {ti : TI} (h : TyOk P t ti) (w : World) : (sizeOf t).run P w=.ok ti.sz w:=by
 obtain ⟨i,z,hi,hs,_⟩:=h.info
 rw [run_size hi,hs]

theorem run_loadVar_of {P : Program} {t : Nat} {ti : TI} (h : TyOk P t ti) {w : World} {ad : Addr} (us : Nat→Value) (hc : ti.ag=true→∀ j,j < ti.sz→w.cell? (ad.add j)=some (us j)) (h1 : ti.ag=false→w.cell? ad=some (us 0)) :
  (loadVar t ad).run P w=.ok (if ti.ag then .agg ((List.range ti.sz).map us).toArray else us 0) w:=by
 simp only [loadVar,Sem.run_bind,run_ag h,Result.andThen_ok]
 cases ha : ti.ag with
 | false=>simp [h1 ha]
 | true =>
  simp only [↓reduceIte,Sem.run_bind,h.size,Result.andThen_ok]
  rw [run_loadCells w ad ti.sz us (hc ha)]
  rfl

theorem ons_some {x : Option GV} {K : GV→Prop} (h : ons x K) : ∃ g,x=some g∧K g:=by
 cases x with
 | none=>exact h.elim
 | some g=>exact ⟨g,rfl,h⟩

theorem range_agg {cs : List GV} {us : Nat→Value} (h : ∀ j g,cs[j]?=some g→Is H g (us j)) : Is H (.agg cs) (.agg ((List.range cs.length).map us).toArray):=by
 refine .agg (by simp) fun j g hj=>?_
 have hlt:=(List.getElem?_eq_some_iff.1 hj).1
 have : ((List.range cs.length).map us).toArray.getD j undef=us j:=by simp [hlt]
 rw [this]
 exact h j g hj

theorem ble_and (a b : Nat) (P : Prop) : (bif Nat.ble a b then P else False)=(a≤b∧P):=by
 cases h : Nat.ble a b with
 | true=>have:=Nat.le_of_ble_eq_true h; simp [this]
 | false =>
   have : ¬ a≤b:=fun hc=>by rw [Nat.ble_eq_true_of_le hc] at h; cases h
   simp [this]

theorem gives_load {t : Nat} {ti : TI} (hti : TyOk p.P t ti) {x : Operand} {ad : Addr} (hx : a.eval x=.pointer (some ad)) {cs : List GV} {us : Nat→Value}
  (hcell : ∀ w',Agr H σ w w'→∀ (j : Nat) (g : GV),cs[j]?=some g→w'.cell? (ad.add j)=some (us j)) (his : ∀ j g,cs[j]?=some g→Is H g (us j)) {K : GV→Prop}
  (h : bif ti.ag then (ti.sz≤cs.length∧K (.agg (cs.take ti.sz))) else ons (cs[0]?) K) : Gives p H σ a w (.load t x) K:=by
 cases ha : ti.ag with
 | true =>
  rw [ha] at h
  obtain ⟨hl,hk⟩:=h
  have hlen : (cs.take ti.sz).length=ti.sz:=by simp; omega
  have hs : ∀ j g,(cs.take ti.sz)[j]?=some g→cs[j]?=some g:=fun j g hj=>by
   rw [List.getElem?_take] at hj
   split at hj
   ·exact hj
   ·cases hj
  refine ⟨.agg ((List.range ti.sz).map us).toArray,_,fun w' hb o' ho=>?_,?_,hk⟩
  ·simp only [execOp,ho,hx,Instr.loadAt,Instr.sureAddr,Sem.run_bind,Sem.run_pure,Result.andThen_ok]
   rw [run_loadVar_of hti us (fun _ j hj=>hcell w' hb j _ (List.getElem?_eq_getElem (by omega))) (fun hf=>by rw [ha] at hf; cases hf)]
   simp [ha]
  ·have:=range_agg (H:=H) (cs:=cs.take ti.sz) (us:=us) (fun j g hj=>his j g (hs j g hj))
   rwa [hlen] at this
 | false =>
  rw [ha] at h
  simp only [cond_false] at h
  obtain ⟨g,hc,h⟩:=ons_some h
  ·refine ⟨us 0,g,fun w' hb o' ho=>?_,his 0 g hc,h⟩
   simp only [execOp,ho,hx,Instr.loadAt,Instr.sureAddr,Sem.run_bind,Sem.run_pure,Result.andThen_ok]
   have h0:=hcell w' hb 0 g hc
   have ea : ad.add 0=ad:=by simp [Addr.add]
   rw [ea] at h0
   rw [run_loadVar_of hti us (fun hf=>by rw [ha] at hf; cases hf) (fun _=>h0)]
   simp [ha]

theorem blk_cell {b ty off : Nat} {us : Array Value} (hw : w.heap[b]?=some (.cells us ty (0,0))) {j : Nat} (hj : off + j < us.size) : w.cell? ((⟨b,off,none⟩ : Addr).add j)=some (us.getD (off + j) undef):=by
 rw [addr_add_none]
 simp [World.cell?,hw,Array.getD,hj]

theorem gives_fieldAddr {s : TypeId} {x : Operand} {f : Nat} {ti : TI} (hti : TyOk p.P s ti) {fs : List (Nat × Nat × Bool)} (hd : ti.d=.struct fs) {off sz : Nat} {ag : Bool} (hf : fs[f]?=some (off,sz,ag)) (hsz : sz ≠ 0) {ad : Addr} (hx : a.eval x=.pointer (some ad)) (w' : World) (o' : Oper) (ho : o'.op=.fieldAddr s x f) :
  (execOp a.eval o').run p.P w'=.ok (.value (.pointer (some (ad.add off)))) w':=by
 have hd':=hti.d
 rw [hd] at hd'
 obtain ⟨fields,hu,hfs,hin⟩:=hd'
 have h1:=hfs f
 rw [hf] at h1
 cases hff : fields[f]? with
 | none=>rw [hff] at h1; cases h1
 | some fl =>
  rw [hff] at h1
  simp only [Option.map_some,Option.some.injEq,Prod.mk.injEq] at h1
  obtain ⟨e1,e2,_⟩:=h1
  have hmem : fl ∈ fields.toList:=by
   have:=(Array.getElem?_eq_some_iff.1 hff)
   obtain ⟨hlt,he⟩:=this
   rw [← he]
   exact Array.getElem_mem_toList _
  have hsome:=(hin fl hmem).1
  obtain ⟨i,hi⟩:=Option.isSome_iff_exists.1 hsome
  have hsz' : i.size=sz:=by
   rw [e2]
   simp [Program.cellsOf,hi]
  simp only [execOp,ho,hx,Instr.fieldAt,Sem.run_bind,run_under hu,Result.andThen_ok]
  simp only [hff,Instr.sureAddr,Sem.run_pure,Sem.run_bind,Result.andThen_ok,fieldPlace,run_size hi]
  rw [if_neg (by omega),e1]
  rfl

theorem gives_eq {op : BinOp} {c : Bool} {K : GV→Prop} (h : eqOp op c K) {t : TypeId} {x y : Operand} {ux uy : Value}
  (hg : ∀ w',(eqGuard op t x y ux uy).run p.P w'=.ok () w') (h1 : op=.eql→∀ w',(binOp .eql t ux uy).run p.P w'=.ok (.bool c) w') (h2 : op=.neq→∀ w',(binOp .neq t ux uy).run p.P w'=.ok (.bool (!c)) w') :
  ∃ u g,(∀ w',(do eqGuard op t x y ux uy; binOp op t ux uy : Sem Value).run p.P w'=.ok u w')∧Is H g u∧K g:=by
 cases op <;> simp only [eqOp] at h <;> (try exact h.elim)
 case eql=>exact ⟨.bool c,_,fun w'=>by rw [Sem.run_bind,hg]; exact h1 rfl w',.ro (.b _),h⟩
 case neq=>exact ⟨.bool (!c),_,fun w'=>by rw [Sem.run_bind,hg]; exact h2 rfl w',.ro (.b _),h⟩

theorem gives_equal {op : BinOp} {c : Bool} {K : GV→Prop} (h : eqOp op c K) {t : TypeId} {x y : Operand} {ux uy : Value}
  (hg : ∀ w',(eqGuard op t x y ux uy).run p.P w'=.ok () w') (hb : ∀ w',(binOp .eql t ux uy).run p.P w'=((Op.equalIn 10000 t ux uy).run p.P w').andThen fun b w'=>.ok (.bool b) w')
  (hb' : ∀ w',(binOp .neq t ux uy).run p.P w'=((Op.equalIn 10000 t ux uy).run p.P w').andThen fun b w'=>.ok (.bool (!b)) w') (he : ∀ w',(Op.equalIn 10000 t ux uy).run p.P w'=.ok c w') :
  ∃ u g,(∀ w',(do eqGuard op t x y ux uy; binOp op t ux uy : Sem Value).run p.P w'=.ok u w')∧Is H g u∧K g :=
 gives_eq h hg (fun _ w'=>by rw [hb,he]; rfl) (fun _ w'=>by rw [hb',he]; rfl)

theorem eq_ifc_nil {t : TypeId} {ms : Array (String × TypeId)} (hu : p.P.underlying t=some (.interface ms)) (d : Nat) (t' : TypeId) (v : Value) (w' : World) : (Op.equalIn (d + 1) t (.iface t' v) .nilIface).run p.P w'=.ok false w':=by simp [Op.equalIn,run_under hu]
theorem eq_nil_ifc {t : TypeId} {ms : Array (String × TypeId)} (hu : p.P.underlying t=some (.interface ms)) (d : Nat) (t' : TypeId) (v : Value) (w' : World) : (Op.equalIn (d + 1) t .nilIface (.iface t' v)).run p.P w'=.ok false w':=by simp [Op.equalIn,run_under hu]
theorem eq_nil_nil {t : TypeId} {ms : Array (String × TypeId)} (hu : p.P.underlying t=some (.interface ms)) (d : Nat) (w' : World) : (Op.equalIn (d + 1) t .nilIface .nilIface).run p.P w'=.ok true w':=by simp [Op.equalIn,run_under hu]
theorem eq_ptr_nil {t e : TypeId} (hu : p.P.underlying t=some (.pointer e)) (d : Nat) (ad : Addr) (w' : World) : (Op.equalIn (d + 1) t (.pointer (some ad)) (.pointer none)).run p.P w'=.ok false w':=by simp [Op.equalIn,run_under hu]
theorem eq_nil_ptr {t e : TypeId} (hu : p.P.underlying t=some (.pointer e)) (d : Nat) (ad : Addr) (w' : World) : (Op.equalIn (d + 1) t (.pointer none) (.pointer (some ad))).run p.P w'=.ok false w':=by simp [Op.equalIn,run_under hu]
theorem eq_nilm_nil {t k e : TypeId} (hu : p.P.underlying t=some (.map k e)) (d : Nat) (w' : World) : (Op.equalIn (d + 1) t (.map none) (.map none)).run p.P w'=.ok true w':=by simp [Op.equalIn,run_under hu]
theorem eq_map_nil {t k e : TypeId} (hu : p.P.underlying t=some (.map k e)) (d b : Nat) (w' : World) : (Op.equalIn (d + 1) t (.map (some b)) (.map none)).run p.P w'=.ok false w':=by simp [Op.equalIn,run_under hu]
theorem eq_nilp_nil {t e : TypeId} (hu : p.P.underlying t=some (.pointer e)) (d : Nat) (w' : World) : (Op.equalIn (d + 1) t (.pointer none) (.pointer none)).run p.P w'=.ok true w':=by simp [Op.equalIn,run_under hu]

theorem geqs_run {ks : List EqK} : ∀ {xs ys : List GV} {us vs : Array Value} {r : Bool} {fs : List Field} {i : Nat},(∀ (j : Nat) (g : GV),xs[j]?=some g→Is H g (us.getD (i + j) undef)∧i + j < us.size)→(∀ (j : Nat) (g : GV),ys[j]?=some g→Is H g (vs.getD (i + j) undef)∧i + j < vs.size) →
  fs.length = ks.length → (∀ (j : Nat) (f : Field), fs[j]? = some f → f.name ≠ "_" ∧ f.offset = i + j ∧ ∃ k, ks[j]? = some k ∧ (match k with | .int => ∃ j, p.P.underlying f.type = some (.int j) | .str => p.P.underlying f.type = some .string | .bool => p.P.underlying f.type = some .bool)) →
  geqs ks xs ys=some r→∀ w',(Op.eqFields 9999 us vs fs).run p.P w'=.ok r w':=by
 induction ks with
 | nil =>
  intro xs ys us vs r fs i _ _ hl _ h w'
  have : fs=[]:=List.eq_nil_of_length_eq_zero hl
  subst this
  simp [geqs] at h
  subst h
  rfl
 | cons k ks ih =>
  intro xs ys us vs r fs i hx hy hl hf h w'
  match fs,hl with
  | f :: fs,hl =>
   obtain ⟨hn,ho,k',hk',hu⟩:=hf 0 f rfl
   simp at hk' ho
   subst hk'
   have hstep : ∀ (c : Bool) (xs' ys' : List GV) (gx gy : GV),xs=gx :: xs'→ys=gy :: ys'→(∀ w',(Op.equalIn 9999 f.type (us.getD i undef) (vs.getD i undef)).run p.P w'=.ok c w')→(∀ w',(isAgg f.type).run p.P w'=.ok false w') →
     (match geqs ks xs' ys' with | some r=>some (c && r) | none=>none)=some r→(Op.eqFields 9999 us vs (f :: fs)).run p.P w'=.ok r w':=by
    intro c xs' ys' gx gy ex ey he hag hr
    subst ex
    subst ey
    have hpx : ∀ w',(part f.type us f.offset).run p.P w'=.ok (us.getD i undef) w':=fun w'=>by
     have hlt:=(hx 0 gx rfl).2
     simp only [Nat.add_zero] at hlt
     have e : us[i]?=some (us.getD i undef):=by simp [Array.getD,hlt]
     simp only [part,Sem.run_bind,hag,Result.andThen_ok,ho]
     simp only [Bool.false_eq_true,if_false,e]
     rfl
    have hpy : ∀ w',(part f.type vs f.offset).run p.P w'=.ok (vs.getD i undef) w':=fun w'=>by
     have hlt:=(hy 0 gy rfl).2
     simp only [Nat.add_zero] at hlt
     have e : vs[i]?=some (vs.getD i undef):=by simp [Array.getD,hlt]
     simp only [part,Sem.run_bind,hag,Result.andThen_ok,ho]
     simp only [Bool.false_eq_true,if_false,e]
     rfl
    simp only [Op.eqFields]
    rw [if_pos hn]
    simp only [Sem.run_bind,hpx,hpy,he,Result.andThen_ok]
    cases hg : geqs ks xs' ys' with
    | none=>rw [hg] at hr; cases hr
    | some r' =>
     rw [hg] at hr
     simp only [Option.some.injEq] at hr
     subst hr
     have:=ih (xs:=xs') (ys:=ys') (us:=us) (vs:=vs) (i:=i + 1) (fs:=fs) (fun j g hj=>by have:=hx (j + 1) g (by simpa using hj); rwa [show i + (j + 1)=i + 1 + j by omega] at this)
      (fun j g hj=>by have:=hy (j + 1) g (by simpa using hj); rwa [show i + (j + 1)=i + 1 + j by omega] at this) (by simpa using hl)
      (fun j f' hj=>by have:=hf (j + 1) f' (by simpa using hj); rw [show i + (j + 1)=i + 1 + j by omega] at this; simpa using this) hg w'
     cases c with
     | true=>simp [this]
     | false=>simp
   unfold geqs at h
   split at h
   ·rename_i e; cases e
   ·rename_i ks0 k1 a xs' k2 b ys' e
    simp at e
    obtain ⟨rfl,rfl⟩:=e
    obtain ⟨jj,hu⟩:=hu
    cases hb : Nat.beq (kno k1) (kno k2) with
    | false=>rw [hb] at h; cases h
    | true =>
     rw [hb] at h
     have:=kno_inj (beq_eq hb)
     subst this
     have h1:=(hx 0 _ rfl).1.inv_v
     have h2:=(hy 0 _ rfl).1.inv_v
     simp only [Nat.add_zero] at h1 h2
     exact hstep (a == b) xs' ys' _ _ rfl rfl (fun w'=>by rw [h1,h2]; exact run_equalIn_int w' 9998 f.type k1 jj a b hu) (fun w'=>by simp [isAgg,run_under hu]) h
   ·rename_i ks0 a xs' b ys' e
    simp at e
    obtain ⟨rfl,rfl⟩:=e
    have h1:=(hx 0 _ rfl).1.inv_v
    have h2:=(hy 0 _ rfl).1.inv_v
    simp only [Nat.add_zero] at h1 h2
    exact hstep (a.toList == b.toList) xs' ys' _ _ rfl rfl (fun w'=>by rw [h1,h2]; exact run_equalIn_string w' 9998 f.type a b hu) (fun w'=>by simp [isAgg,run_under hu]) h
   ·rename_i ks0 a xs' b ys' e
    simp at e
    obtain ⟨rfl,rfl⟩:=e
    have h1:=(hx 0 _ rfl).1.inv_b
    have h2:=(hy 0 _ rfl).1.inv_b
    simp only [Nat.add_zero] at h1 h2
    exact hstep (a == b) xs' ys' _ _ rfl rfl (fun w'=>by rw [h1,h2]; exact run_equalIn_bool' w' 9998 f.type a b hu) (fun w'=>by simp [isAgg,run_under hu]) h
   ·cases h

theorem eqVC_sound (hp : p.Ok) (hs : Sat H σ w) {op : BinOp} {t : TypeId} {gx gy : GV} {K : GV→Prop} {x y : Operand} {ux uy : Value} (hx : Is H gx ux) (hy : Is H gy uy) (h : eqVC p σ op t (isC x || isC y) gx gy K) :
  ∃ u g,(∀ w',(do eqGuard op t x y ux uy; binOp op t ux uy : Sem Value).run p.P w'=.ok u w')∧Is H g u∧K g:=by
 unfold eqVC at h
 cases hti : tget p.tt t with
 | none=>rw [hti] at h; exact h.elim
 | some ti =>
  rw [hti] at h
  have hok:=hp.tt _ _ hti
  have hd:=hok.d
  simp only at h
  split at h
  ·rename_i m ti' g' e
   rw [e] at hd
   obtain ⟨ms,hu,_⟩:=hd
   obtain ⟨v,rfl,_⟩:=hx.inv_ifc
   have:=hy.inv_v
   subst this
   exact gives_equal h (fun w'=>by cases op <;> simp [eqGuard]) (fun w'=>by simp [binOp,Op.equal,Op.maxDepth]) (fun w'=>by simp [binOp,Op.equal,Op.maxDepth]) (eq_ifc_nil hu 9999 _ v)
  ·rename_i m ti' g' e
   rw [e] at hd
   obtain ⟨ms,hu,_⟩:=hd
   obtain ⟨v,rfl,_⟩:=hy.inv_ifc
   have:=hx.inv_v
   subst this
   exact gives_equal h (fun w'=>by cases op <;> simp [eqGuard]) (fun w'=>by simp [binOp,Op.equal,Op.maxDepth]) (fun w'=>by simp [binOp,Op.equal,Op.maxDepth]) (eq_nil_ifc hu 9999 _ v)
  ·rename_i m e
   rw [e] at hd
   obtain ⟨ms,hu,_⟩:=hd
   have:=hx.inv_v
   subst this
   have:=hy.inv_v
   subst this
   cases hc : (isC x || isC y) with
   | false=>rw [hc] at h; exact h.elim
   | true =>
    rw [hc] at h
    refine gives_equal h (fun w'=>?_) (fun w'=>by simp [binOp,Op.equal,Op.maxDepth]) (fun w'=>by simp [binOp,Op.equal,Op.maxDepth]) (eq_nil_nil hu 9999)
    cases x <;> cases y <;> first | (simp [isC] at hc; done) | (cases op <;> simp [eqGuard])
  ·rename_i e
   rw [e] at hd
   obtain ⟨el,hu⟩:=hd
   have:=hx.inv_v
   subst this
   have:=hy.inv_v
   subst this
   exact gives_equal h (fun w'=>by cases op <;> simp [eqGuard]) (fun w'=>by simp [binOp,Op.equal,Op.maxDepth]) (fun w'=>by simp [binOp,Op.equal,Op.maxDepth]) (eq_nilp_nil hu 9999)
  ·rename_i id off e
   rw [e] at hd
   obtain ⟨el,hu⟩:=hd
   obtain ⟨rfl,_⟩:=hx.inv_p
   have:=hy.inv_v
   subst this
   exact gives_equal h (fun w'=>by cases op <;> simp [eqGuard]) (fun w'=>by simp [binOp,Op.equal,Op.maxDepth]) (fun w'=>by simp [binOp,Op.equal,Op.maxDepth]) (eq_ptr_nil hu 9999 _)
  ·rename_i id off e
   rw [e] at hd
   obtain ⟨el,hu⟩:=hd
   obtain ⟨rfl,_⟩:=hy.inv_p
   have:=hx.inv_v
   subst this
   exact gives_equal h (fun w'=>by cases op <;> simp [eqGuard]) (fun w'=>by simp [binOp,Op.equal,Op.maxDepth]) (fun w'=>by simp [binOp,Op.equal,Op.maxDepth]) (eq_nil_ptr hu 9999 _)
  ·rename_i cs e
   rw [e] at hd
   obtain ⟨el,hu⟩:=hd
   obtain ⟨ad,us,rfl,_⟩:=hy.inv_r
   have:=hx.inv_v
   subst this
   exact gives_equal h (fun w'=>by cases op <;> simp [eqGuard]) (fun w'=>by simp [binOp,Op.equal,Op.maxDepth]) (fun w'=>by simp [binOp,Op.equal,Op.maxDepth]) (eq_nil_ptr hu 9999 ad)
  ·rename_i k' e' e
   rw [e] at hd
   have:=hx.inv_v
   subst this
   have:=hy.inv_v
   subst this
   exact gives_equal h (fun w'=>by cases op <;> simp [eqGuard]) (fun w'=>by simp [binOp,Op.equal,Op.maxDepth]) (fun w'=>by simp [binOp,Op.equal,Op.maxDepth]) (eq_nilm_nil hd 9999)
  ·rename_i k' e' id e
   rw [e] at hd
   have hyv:=hy.inv_v
   subst hyv
   obtain ⟨hv,_⟩:=hx.inv_o
   have key : ∀ b,H.sv id=.map (some b)→eqOp op false K→∃ u g,(∀ w',(do eqGuard op t x y ux (.map none); binOp op t ux (.map none) : Sem Value).run p.P w'=.ok u w')∧Is H g u∧K g:=fun b hb h=>by
    rw [hb] at hv
    subst hv
    exact gives_equal h (fun w'=>by cases op <;> simp [eqGuard]) (fun w'=>by simp [binOp,Op.equal,Op.maxDepth]) (fun w'=>by simp [binOp,Op.equal,Op.maxDepth]) (eq_map_nil hd 9999 b)
   split at h
   ·rename_i kd es hl
    obtain ⟨b,_,_,hb,_⟩:=hs.holds _ (hlook_mem hl)
    exact key b hb h
   ·rename_i m hl
    obtain ⟨_,he,b,hb⟩:=hs.holds _ (hlook_mem hl)
    exact key b (he.trans hb) h
   ·exact h.elim
  ·rename_i cs e
   rw [e] at hd
   obtain ⟨el,hu⟩:=hd
   obtain ⟨ad,us,rfl,_⟩:=hx.inv_r
   have:=hy.inv_v
   subst this
   exact gives_equal h (fun w'=>by cases op <;> simp [eqGuard]) (fun w'=>by simp [binOp,Op.equal,Op.maxDepth]) (fun w'=>by simp [binOp,Op.equal,Op.maxDepth]) (eq_ptr_nil hu 9999 ad)
  ·rename_i a b e
   rw [e] at hd
   have:=hx.inv_b
   subst this
   have:=hy.inv_b
   subst this
   exact gives_equal h (fun w'=>by cases op <;> simp [eqGuard]) (fun w'=>by simp [binOp,Op.equal,Op.maxDepth]) (fun w'=>by simp [binOp,Op.equal,Op.maxDepth]) (fun w'=>run_equalIn_bool' w' 9999 t a b hd)
  ·rename_i a b e
   rw [e] at hd
   have:=hx.inv_b
   subst this
   have:=hy.inv_v
   subst this
   exact gives_equal h (fun w'=>by cases op <;> simp [eqGuard]) (fun w'=>by simp [binOp,Op.equal,Op.maxDepth]) (fun w'=>by simp [binOp,Op.equal,Op.maxDepth]) (fun w'=>run_equalIn_bool' w' 9999 t a b hd)
  ·rename_i a b e
   rw [e] at hd
   have:=hx.inv_v
   subst this
   have:=hy.inv_b
   subst this
   exact gives_equal h (fun w'=>by cases op <;> simp [eqGuard]) (fun w'=>by simp [binOp,Op.equal,Op.maxDepth]) (fun w'=>by simp [binOp,Op.equal,Op.maxDepth]) (fun w'=>run_equalIn_bool' w' 9999 t a b hd)
  ·rename_i a b e
   rw [e] at hd
   have:=hx.inv_v
   subst this
   have:=hy.inv_v
   subst this
   exact gives_equal h (fun w'=>by cases op <;> simp [eqGuard]) (fun w'=>by simp [binOp,Op.equal,Op.maxDepth]) (fun w'=>by simp [binOp,Op.equal,Op.maxDepth]) (fun w'=>run_equalIn_bool' w' 9999 t a b hd)
  ·rename_i fs xs ys e
   split at h
   ·rename_i ks hk
    split at h
    ·rename_i r hr
     obtain ⟨hgt,hst,fields,hu,hfl,hff⟩:=hok.eqk ks hk
     obtain ⟨us,rfl,hl,hi⟩:=hx.inv_agg
     obtain ⟨vs,rfl,hl',hi'⟩:=hy.inv_agg
     have hfo : p.P.fieldsOf t=fields:=by simp [Program.fieldsOf,hu]
     refine gives_equal h (fun w'=>run_eqGuard_agg w' op t x y us vs hgt) (fun w'=>run_eql_struct w' t us vs) (fun w'=>run_neq_struct w' t us vs) (fun w'=>?_)
     rw [run_equalIn_struct w' 9999 t us vs (by rw [hfo]; exact hu) hst,hfo]
     refine geqs_run (H:=H) (i:=0) (xs:=xs) (ys:=ys) (ks:=ks) (fun j g hj=>?_) (fun j g hj=>?_) (by simpa using hfl) (fun j f hj=>?_) hr w'
     ·simp only [Nat.zero_add]
      exact ⟨hi j g hj,by rw [← hl]; exact (List.getElem?_eq_some_iff.1 hj).1⟩
     ·simp only [Nat.zero_add]
      exact ⟨hi' j g hj,by rw [← hl']; exact (List.getElem?_eq_some_iff.1 hj).1⟩
     ·simp only [Nat.zero_add]
      exact hff j f (by simpa using hj)
    ·exact h.elim
   ·exact h.elim
  ·exact h.elim

theorem evs_one (hg : GlOk p H) (hρ : EnvOk H ρ a) {args : Array Operand} {g : GV} (h : evs p ρ args.toList=some [g]) : ∃ x,args=#[x]∧Is H g (a.eval x):=by
 obtain ⟨hl,hi⟩:=evs_is hg hρ h
 obtain ⟨x,hx,his⟩:=hi 0 g rfl
 obtain ⟨l⟩:=args
 match l,hl with
 | [y],_=>simp at hx; subst hx; exact ⟨_,rfl,his⟩

theorem evs_two (hg : GlOk p H) (hρ : EnvOk H ρ a) {args : Array Operand} {g g' : GV} (h : evs p ρ args.toList=some [g,g']) : ∃ x y,args=#[x,y]∧Is H g (a.eval x)∧Is H g' (a.eval y):=by
 obtain ⟨hl,hi⟩:=evs_is hg hρ h
 obtain ⟨x,hx,his⟩:=hi 0 g rfl
 obtain ⟨y,hy,hjs⟩:=hi 1 g' rfl
 obtain ⟨l⟩:=args
 match l,hl with
 | [_,_],_=>simp at hx hy; subst hx; subst hy; exact ⟨_,_,rfl,his,hjs⟩

theorem esIs_len {H : Hid} : ∀ {es : List (Value × GV)} {arr : List MapEntry},esIs H es arr→es.length=arr.length
 | [],[],_=>rfl
 | (k,g) :: r,e :: s,h=>by simp [esIs_len h.2.2]
 | [],_ :: _,h=>h.elim
 | _ :: _,[],h=>h.elim

theorem ba_eq {a b : ByteArray} (h : (a == b)=true) : a=b:=(MapKept.bytes_beq a b).1 h

theorem vkey_eq {kd : Option IntKind} {a b : Value} (ha : sortB kd a=true) (hb : sortB kd b=true) (h : vkey a b=true) : a=b:=by
 cases kd with
 | none =>
  cases a <;> simp only [sortB,Bool.false_eq_true] at ha
  cases b <;> simp only [sortB,Bool.false_eq_true] at hb
  rw [ba_eq h]
 | some k =>
  cases a <;> simp only [sortB,Bool.false_eq_true] at ha
  cases b <;> simp only [sortB,Bool.false_eq_true] at hb
  simp only [vkey,beq_iff_eq] at h
  rw [← kno_inj (beq_eq ha),← kno_inj (beq_eq hb),h]

def fidx (k : Value) : List MapEntry→Nat→Option (Nat × Value)
 | [],_=>none
 | e :: r,i=>if vkey k e.key=true then some (i,e.val) else fidx k r (i + 1)

def kdD : Option IntKind→TypeDesc
 | some k=>.int k
 | none=>.string

theorem findNow_eq {kd : Option IntKind} {k : Value} (hk : sortB kd k=true) : ∀ (l : List MapEntry) (i : Nat),(∀ e ∈ l,sortB kd e.key=true)→Instr.findNow (kdD kd) k l i=some (fidx k l i)
 | [],i,_=>rfl
 | e :: r,i,h=>by
  have he:=h e List.mem_cons_self
  have ih:=findNow_eq hk r (i + 1) (fun x hx=>h x (List.mem_cons_of_mem _ hx))
  have hs : Instr.sameNow (kdD kd) k e.key=some (vkey k e.key):=by
   revert hk he
   generalize e.key=b
   intro hk he
   cases kd with
   | none =>
    cases k <;> simp only [sortB,Bool.false_eq_true] at hk
    cases b <;> simp only [sortB,Bool.false_eq_true] at he
    rfl
   | some q =>
    cases k <;> simp only [sortB,Bool.false_eq_true] at hk
    cases b <;> simp only [sortB,Bool.false_eq_true] at he
    simp [Instr.sameNow,kdD,vkey,← kno_inj (beq_eq hk),← kno_inj (beq_eq he)]
  unfold Instr.findNow fidx
  rw [hs]
  cases hv : vkey k e.key with
  | true=>simp
  | false=>simpa using ih

theorem fidx_some {H : Hid} {k : Value} : ∀ {es : List (Value × GV)} {l : List MapEntry} {i : Nat},esIs H es l→∀ g,mfind k es=some g→∃ j e,fidx k l i=some (i + j,e.val)∧l[j]?=some e∧vkey k e.key=true∧Is H g e.val
 | [],[],i,_,g,h=>by simp [mfind] at h
 | (k',g') :: r,e :: s,i,hh,g,h=>by
  obtain ⟨h1,h2,h3⟩:=hh
  unfold mfind at h
  unfold fidx
  rw [h1]
  by_cases hv : vkey k k'=true
  ·rw [if_pos hv] at h ⊢
   cases h
   exact ⟨0,e,rfl,rfl,by rw [h1]; exact hv,h2⟩
  ·rw [if_neg hv] at h ⊢
   obtain ⟨j,x,e1,e2,e3⟩:=fidx_some (i:=i + 1) h3 g h
   exact ⟨j + 1,x,by rw [e1]; congr 2; omega,by simpa using e2,e3⟩
 | [],_ :: _,_,h,_,_=>h.elim
 | _ :: _,[],_,h,_,_=>h.elim

theorem fidx_none {H : Hid} {k : Value} : ∀ {es : List (Value × GV)} {l : List MapEntry} {i : Nat},esIs H es l→mfind k es=none→fidx k l i=none
 | [],[],i,_,h=>rfl
 | (k',g') :: r,e :: s,i,hh,h=>by
  obtain ⟨h1,h2,h3⟩:=hh
  unfold mfind at h
  unfold fidx
  rw [h1]
  by_cases hv : vkey k k'=true
  ·rw [if_pos hv] at h; cases h
  ·rw [if_neg hv] at h ⊢
   exact fidx_none h3 h
 | [],_ :: _,_,h,_=>h.elim
 | _ :: _,[],_,h,_=>h.elim

theorem esIs_keys {H : Hid} : ∀ {es : List (Value × GV)} {l : List MapEntry},esIs H es l→l.map (·.key)=es.map (·.1)
 | [],[],_=>rfl
 | (k',g') :: r,e :: s,hh=>by simp [hh.1,esIs_keys hh.2.2]
 | [],_ :: _,h=>h.elim
 | _ :: _,[],h=>h.elim

theorem nodup_inj {α β : Type} {f : α→β} : ∀ {l : List α},(l.map f).Nodup→∀ {x y : α},x ∈ l→y ∈ l→f x=f y→x=y
 | [],_,x,y,hx,_,_=>by cases hx
 | a :: r,h,x,y,hx,hy,e=>by
  simp only [List.map_cons,List.nodup_cons] at h
  rcases List.mem_cons.1 hx with hx' | hx'
  ·rcases List.mem_cons.1 hy with hy' | hy'
   ·exact hx'.trans hy'.symm
   ·subst hx'; exact (h.1 (by rw [e]; exact List.mem_map_of_mem hy')).elim
  ·rcases List.mem_cons.1 hy with hy' | hy'
   ·subst hy'; exact (h.1 (by rw [← e]; exact List.mem_map_of_mem hx')).elim
   ·exact nodup_inj h.2 hx' hy' e

theorem kdOf_spec {P : Program} {t : Nat} {ti : TI} (h : TyOk P t ti) {kd : Option IntKind} (hk : kdOf ti.d=some kd) : P.underlying t=some (kdD kd):=by
 have hd:=h.d
 cases hti : ti.d <;> rw [hti] at hk hd <;> simp only [kdOf,Option.some.injEq] at hk <;> (try (cases hk; done))
 ·subst hk; exact hd
 ·subst hk; exact hd

theorem kdEq_eq {a b : Option IntKind} (h : kdEq a b=true) : a=b:=by
 cases a <;> cases b <;> simp only [kdEq,Bool.false_eq_true] at h
 ·rfl
 ·rw [kno_inj (beq_eq h)]

theorem run_checkKey {P : Program} {t : TypeId} {kd : Option IntKind} (hu : P.underlying t=some (kdD kd)) (b : Bool) (n : Nat) (v : Value) (w : World) : (Instr.checkKey b (n + 1) t v).run P w=.ok () w:=by
 cases kd <;> simp [Instr.checkKey,run_under hu,kdD]

theorem run_findKey {P : Program} {t : TypeId} {kd : Option IntKind} (hu : P.underlying t=some (kdD kd)) {k : Value} (hk : sortB kd k=true) {l : List MapEntry} (hl : ∀ e ∈ l,sortB kd e.key=true) (w : World) : (Instr.findKey t k l).run P w=.ok (fidx k l 0) w:=by
 simp [Instr.findKey,run_under hu,findNow_eq hk l 0 hl]

theorem run_zero {P : Program} {t : Nat} {ti : TI} (h : TyOk P t ti) {z : GV} (hz : zeroG ti=some z) : ∃ v,(∀ w,(zeroValue t).run P w=.ok v w)∧∀ H : Hid,Is H z v:=by
 obtain ⟨i,v,hi,_,_,hiz,hc,hl⟩:=h.info
 obtain ⟨d,hu,hag⟩:=h.ag
 refine ⟨v,fun w=>by simp [zeroValue,run_tinfo hi,hiz],fun H=>?_⟩
 obtain ⟨i',v',hi',hz',hza⟩:=h.zag
 rw [hi] at hi'
 cases hi'
 rw [hiz] at hz'
 cases hz'
 unfold zeroG at hz
 rw [← hza] at hz
 cases v with
 | agg us =>
  simp only [aggB,cond_true,Option.some.injEq] at hz
  subst hz
  have hus : us.toList=ti.zero:=hc
  refine .agg (by simp [← hus]) (fun j g hj=>?_)
  rw [← hus] at hj
  simp only [List.getElem?_map,Option.map_eq_some_iff] at hj
  obtain ⟨x,hx,rfl⟩:=hj
  have : us.getD j undef=x:=by
   rw [Array.getD_eq_getD_getElem?]
   have : us[j]?=some x:=by simpa using hx
   rw [this]; rfl
  rw [this]
  exact .ro (.v x)
 | _ =>
  simp only [aggB,cond_false,← hc,Value.cells,Option.some.injEq] at hz
  subst hz
  exact .ro (.v _)

theorem okG_is {H : Hid} {c : Bool} {g : GV} {v : Value} (h : Is H g v) (b : Bool) : Is H (okG c g b) (if c then .tuple #[v,.bool b] else v):=by
 cases c with
 | false=>exact h
 | true =>
  refine .tup rfl (fun j g' hj=>?_)
  match j with
  | 0=>simp at hj; subst hj; exact h
  | 1=>simp at hj; subst hj; exact .ro (.v _)
  | j + 2=>simp at hj

theorem run_lookup_nil {P : Program} {t kt et : TypeId} (hu : P.underlying t=some (.map kt et)) {kd : Option IntKind} (hk : P.underlying kt=some (kdD kd)) (kv : Value) {z : Value} (hz : ∀ w,(zeroValue et).run P w=.ok z w) (c : Bool) (w : World) :
  (Instr.lookup t (.map none) kv c).run P w=.ok (if c then .tuple #[z,.bool false] else z) w:=by
 have h1:=run_checkKey hk true 9999 kv w
 cases c <;> cases kd <;> simp [Instr.lookup,run_under hu,h1,Instr.findKey,run_under hk,kdD,Instr.findNow,hz]

theorem run_lookup_map {P : Program} {t kt et : TypeId} (hu : P.underlying t=some (.map kt et)) {kd : Option IntKind} (hk : P.underlying kt=some (kdD kd)) {c : Bool} {kv : Value} (hs : sortB kd kv=true) {b clock : Nat} {arr : Array MapEntry} {w : World} (hw : w.heap[b]?=some (.map arr clock))
  (hl : ∀ e ∈ arr.toList,sortB kd e.key=true) {z : Value} (hz : ∀ w,(zeroValue et).run P w=.ok z w) (r : Option (Nat × Value)) (hr : fidx kv arr.toList 0=r) :
  (Instr.lookup t (.map (some b)) kv c).run P w=.ok (match r with | some (_,v)=>if c then .tuple #[v,.bool true] else v | none=>if c then .tuple #[z,.bool false] else z) w:=by
 have h1:=run_checkKey hk arr.isEmpty 9999 kv w
 have h2:=run_findKey hk hs hl w
 rw [hr] at h2
 cases c <;> cases r <;> simp [Instr.lookup,run_under hu,getObj,Sem.run,hw,h1,h2,hz]

theorem mapOf_spec {H : Hid} {σ : Heap} {w : World} (hs : Sat H σ w) {g : GV} {kd : Option IntKind} {es : List (Value × GV)} (h : mapOf σ g=some (kd,es)) :
  ∃ id b arr clock,g=.o id∧H.sv id=.map (some b)∧b ∈ blks H σ∧w.heap[b]?=some (.map arr clock)∧MapOk H kd es arr clock:=by
 cases g with
 | o id =>
  simp only [mapOf] at h
  split at h
  ·rename_i kd' es' hl
   simp only [Option.some.injEq,Prod.mk.injEq] at h
   obtain ⟨rfl,rfl⟩:=h
   obtain ⟨b,arr,clock,hb,hw,hm⟩:=hs.holds _ (hlook_mem hl)
   exact ⟨id,b,arr,clock,rfl,hb,List.mem_flatMap.2 ⟨_,hlook_mem hl,by simp [blocks,hb,mapBlk]⟩,hw,hm⟩
  ·rename_i m hl
   split at h
   ·rename_i kd' es' left cur hl2
    simp only [Option.some.injEq,Prod.mk.injEq] at h
    obtain ⟨rfl,rfl⟩:=h
    obtain ⟨_,he,_⟩:=hs.holds _ (hlook_mem hl)
    obtain ⟨b,arr,clock,seen,hb,_,hw,hm,_⟩:=hs.holds _ (hlook_mem hl2)
    exact ⟨id,b,arr,clock,rfl,he.trans hb,List.mem_flatMap.2 ⟨_,hlook_mem hl2,by simp [blocks,hb,mapBlk]⟩,hw,hm⟩
   ·cases h
  ·cases h
 | _=>simp [mapOf] at h

theorem run_builtin {c : Call} {b : Builtin} (hc : c.callee=.builtin b) (o' : Oper) (ho : o'.op=.call c) (w' : World) :
  ∃ k,(execOp a.eval o').run p.P w'=(builtin b c.argTypes o'.type k (c.args.map a.eval)).run p.P w':=by
 simp only [execOp,ho,resolve,hc]
 simp only [Sem.run_bind,Sem.run_pure,Result.andThen_ok,invoke]
 exact ⟨_,rfl⟩

theorem pv_call (hp : p.Ok) (hg : GlOk p H) (hρ : EnvOk H ρ a) (hs : Sat H σ w) {c : Call} {K : GV→Prop} (h : pv p ρ σ (.call c) K) : Gives p H σ a w (.call c) K:=by
 obtain ⟨callee,args,ts⟩:=c
 cases callee with
 | value f=>exact h.elim
 | invoke r m=>exact h.elim
 | builtin b =>
  cases b <;> simp only [pv] at h <;> (try exact h.elim)
  case len =>
   have tok : ∀ ti,(match ts.toList with | [t]=>tget p.tt t | _=>none)=some ti→∃ t,ts=#[t]∧TyOk p.P t ti:=by
    intro ti he
    obtain ⟨l⟩:=ts
    match l,he with
    | [t],he=>exact ⟨t,rfl,hp.tt _ _ he⟩
   have len1 : ∀ (x : Operand) (t : TypeId) (d : TypeDesc) (v : Value),args=#[x]→ts=#[t]→p.P.underlying t=some d →
     (∀ w' ty,Agr H σ w w'→(Builtin.len_ #[t] ty #[a.eval x]).run p.P w'=.ok v w') →
     ∀ w',Agr H σ w w'→∀ o' : Oper,o'.op=.call { callee:=.builtin .len,args:=args,argTypes:=ts }→(execOp a.eval o').run p.P w'=.ok (.value v) w':=by
    intro x t d v hx ht hu hr w' hb o' ho
    obtain ⟨k,hk⟩:=run_builtin (p:=p) (a:=a) rfl o' ho w'
    rw [hk]
    subst hx
    subst ht
    have h1:=hr w' o'.type hb
    simp [builtin,h1]
   split at h
   ·rename_i sz by_ ag _z _q s hti hx
    obtain ⟨x,hx,hi⟩:=evs_one hg hρ hx
    obtain ⟨t,ht,hok⟩:=tok _ hti
    exact ⟨_,_,len1 x t _ (.int .i64 s.size) hx ht hok.d (fun w' ty hb=>by simp [Builtin.len_,run_under hok.d,hi.inv_v,goInt]),.ro (.v _),h⟩
   ·rename_i sz by_ ag _z e _q z rows hti hx
    obtain ⟨x,hx,hi⟩:=evs_one hg hρ hx
    obtain ⟨t,ht,hok⟩:=tok _ hti
    obtain ⟨A,c,us,hv,_⟩:=hi.inv_sl.inv_sl
    exact ⟨_,_,len1 x t _ (.int .i64 rows.length) hx ht hok.d (fun w' ty hb=>by simp [Builtin.len_,run_under hok.d,hv,goInt]),.ro (.v _),h⟩
   ·rename_i sz by_ ag _z e _q A n c hti hx
    obtain ⟨x,hx,hi⟩:=evs_one hg hρ hx
    obtain ⟨t,ht,hok⟩:=tok _ hti
    exact ⟨_,_,len1 x t _ (.int .i64 n) hx ht hok.d (fun w' ty hb=>by simp [Builtin.len_,run_under hok.d,hi.inv_v,goInt]),.ro (.v _),h⟩
   ·rename_i sz by_ ag _z e _q id hti hx
    obtain ⟨x,hx,hi⟩:=evs_one hg hρ hx
    obtain ⟨t,ht,hok⟩:=tok _ hti
    obtain ⟨hv,hid⟩:=hi.inv_o
    split at h
    ·rename_i ty z rows hl
     obtain ⟨xs,hown,_⟩:=hs.holds _ (hlook_mem hl)
     refine ⟨_,_,len1 x t _ (.int .i64 rows.length) hx ht hok.d (fun w' ty' hb=>?_),.ro (.v _),h⟩
     rcases hown.2 with ⟨he,hn⟩ | ⟨g,cap,cur,he,_⟩
     ·simp [Builtin.len_,run_under hok.d,hv,he,hn,goInt]
     ·simp [Builtin.len_,run_under hok.d,hv,he,goInt]
    ·rename_i z n hl
     obtain ⟨A,c,he,_⟩:=hs.holds _ (hlook_mem hl)
     exact ⟨_,_,len1 x t _ (.int .i64 n) hx ht hok.d (fun w' ty' hb=>by simp [Builtin.len_,run_under hok.d,hv,he,goInt]),.ro (.v _),h⟩
    ·rename_i i z lo n hl
     obtain ⟨_,A,c,he,_⟩:=hs.holds _ (hlook_mem hl)
     exact ⟨_,_,len1 x t _ (.int .i64 n) hx ht hok.d (fun w' ty' hb=>by simp [Builtin.len_,run_under hok.d,hv,he,goInt]),.ro (.v _),h⟩
    ·exact h.elim
   ·rename_i sz by_ ag _z k e _q hti hx
    obtain ⟨x,hx,hi⟩:=evs_one hg hρ hx
    obtain ⟨t,ht,hok⟩:=tok _ hti
    exact ⟨_,_,len1 x t _ (.int .i64 0) hx ht hok.d (fun w' ty hb=>by simp [Builtin.len_,run_under hok.d,hi.inv_v,goInt]),.ro (.v _),h⟩
   ·rename_i sz by_ ag _z k e _q id hti hx
    obtain ⟨x,hx,hi⟩:=evs_one hg hρ hx
    obtain ⟨t,ht,hok⟩:=tok _ hti
    obtain ⟨hv,hid⟩:=hi.inv_o
    have key : ∀ (es : List (Value × GV)) b arr clock kd,H.sv id=.map (some b)→w.heap[b]?=some (.map arr clock)→MapOk H kd es arr clock→b ∈ blks H σ→K (.v (.int .i64 es.length))→Gives p H σ a w (.call ⟨.builtin .len,args,ts⟩) K:=fun es b arr clock kd hb hw hm hbm h=>by
     refine ⟨_,_,len1 x t _ (.int .i64 es.length) hx ht hok.d (fun w' ty hag=>?_),.ro (.v _),h⟩
     have hw' : w'.heap[b]?=some (.map arr clock):=(hag.own b hbm).trans hw
     simp [Builtin.len_,run_under hok.d,hv,hb,getObj,Sem.run,hw',goInt,esIs_len hm.is]
    split at h
    ·rename_i kd es hl
     obtain ⟨id',b,arr,clock,e,hb,hbm,hw,hm⟩:=mapOf_spec hs hl
     injection e with e
     subst e
     exact key es b arr clock kd hb hw hm hbm h
    ·exact h.elim
   ·exact h.elim
  case min =>
   split at h
   ·rename_i k x j y hx
    obtain ⟨x',y',he,hi,hj⟩:=evs_two hg hρ hx
    refine ⟨.int k (if y < x then y else x),_,fun w' hb o' ho=>?_,.ro (.v _),h⟩
    obtain ⟨q,hq⟩:=run_builtin (p:=p) (a:=a) rfl o' ho w'
    rw [hq]
    subst he
    simp [builtin,Builtin.min_,Builtin.min2,hi.inv_v,hj.inv_v]
   ·exact h.elim
  case max =>
   split at h
   ·rename_i k x j y hx
    obtain ⟨x',y',he,hi,hj⟩:=evs_two hg hρ hx
    refine ⟨.int k (if y > x then y else x),_,fun w' hb o' ho=>?_,.ro (.v _),h⟩
    obtain ⟨q,hq⟩:=run_builtin (p:=p) (a:=a) rfl o' ho w'
    rw [hq]
    subst he
    simp [builtin,Builtin.max_,Builtin.max2,hi.inv_v,hj.inv_v]
   ·exact h.elim

theorem bnd_spec (hg : GlOk p H) (hρ : EnvOk H ρ a) {d n : Int} {x : Option Operand} (h : bnd p ρ d x=some n) : (x=none∧n=d)∨∃ k y,x=some y∧a.eval y=.int k n:=by
 cases x with
 | none=>simp [bnd] at h; exact .inl ⟨rfl,h.symm⟩
 | some y =>
  simp only [bnd] at h
  split at h
  ·rename_i k m hy
   simp at h
   subst h
   exact .inr ⟨k,y,rfl,(ev_is hg hρ hy).inv_v⟩
  ·cases h

theorem run_sliceBound {k : IntKind} {i : Int} {y : Nat} {c : BoundsCode} (h0 : 0≤i) (h1 : i≤y) (w' : World) : (Instr.sliceBound (.int k i) y c).run p.P w'=.ok i.toNat w':=by
 simp [Instr.sliceBound,asIntOf,h0,h1]

theorem run_bounds (hg : GlOk p H) (hρ : EnvOk H ρ a) {lo hi : Option Operand} {isS : Bool} {len cap : Nat} {l h : Int} (hl : bnd p ρ 0 lo=some l) (hh : bnd p ρ len hi=some h) (h0 : 0≤l) (h1 : l≤h) (h2 : h≤len) (hc : len≤cap) (w' : World) :
  (Instr.sliceBounds isS len cap (lo.map a.eval) (hi.map a.eval) none).run p.P w'=.ok (l.toNat,h.toNat,cap) w':=by
 have hb : ∀ c,(∀ k,(Instr.sliceBound (.int k h) cap c).run p.P w'=.ok h.toNat w'):=fun c k=>run_sliceBound (by omega) (by omega) w'
 have ha : ∀ c,(∀ k,(Instr.sliceBound (.int k l) h.toNat c).run p.P w'=.ok l.toNat w'):=fun c k=>run_sliceBound h0 (by omega) w'
 unfold Instr.sliceBounds
 rcases bnd_spec hg hρ hh with ⟨rfl,rfl⟩ | ⟨k,y,rfl,hv⟩
 ·rcases bnd_spec hg hρ hl with ⟨rfl,rfl⟩ | ⟨k',y',rfl,hv'⟩
  ·simp
  ·simp only [Int.toNat_natCast] at ha
   simp [hv',ha]
 ·rcases bnd_spec hg hρ hl with ⟨rfl,rfl⟩ | ⟨k',y',rfl,hv'⟩
  ·simp [hv,hb]
  ·simp [hv,hb,hv',ha]

theorem isU8_spec (hp : p.Ok) {t : TypeId} (h : isU8 p.tt t=true) : ∃ e,p.P.underlying t=some (.slice e)∧p.P.underlying e=some (.int .u8):=by
 unfold isU8 at h
 split at h
 ·rename_i e _ hti
  split at h
  ·rename_i _ he
   exact ⟨e,(hp.tt _ _ hti).d,(hp.tt _ _ he).d⟩
  ·cases h
 ·cases h

theorem foldl_push (s : List UInt8) : ∀ (b : ByteArray),(s.map fun x : UInt8=>(x.toNat : Int)).foldl (fun r n=>r.push (UInt8.ofNat n.toNat)) b=⟨b.data++s.toArray⟩:=by
 induction s with
 | nil=>intro b; simp
 | cons x s ih =>
  intro b
  simp only [List.map_cons,List.foldl_cons,ih,Int.toNat_natCast]
  rw [show UInt8.ofNat x.toNat=x by simp]
  simp [ByteArray.push]

theorem run_bytes (w' : World) (A : Option Addr) (c : Nat) (s : List UInt8) (h : s ≠ []→∃ ad,A=some ad∧∀ (j : Nat) (b : UInt8),s[j]?=some b→w'.cell? (ad.add j)=some (.int .u8 (b.toNat : Int))) : (Conv.bytesToString (.slice A s.length c)).run p.P w'=.ok (.string ⟨s.toArray⟩) w':=by
 have fin : ∀ ad : Addr,(∀ (j : Nat) (b : UInt8),s[j]?=some b→w'.cell? (ad.add j)=some (.int .u8 (b.toNat : Int)))→(Conv.bytesToString (.slice (some ad) s.length c)).run p.P w'=.ok (.string ⟨s.toArray⟩) w':=fun ad hj=>by
  have hl:=run_loadCells_list (P:=p.P) (w:=w') ad (s.map fun b=>Value.int .u8 (b.toNat : Int)) (fun j v hv=>by
   rw [List.getElem?_map] at hv
   cases hs : s[j]? with
   | none=>rw [hs] at hv; cases hv
   | some b=>rw [hs] at hv; simp at hv; subst hv; exact hj j b hs)
  rw [List.length_map] at hl
  have:=run_bytesToString (P:=p.P) w' ad s.length c (s.map fun b=>(b.toNat : Int)) (by rw [hl,List.map_map]; rfl)
  rw [this,foldl_push]
  simp
 cases A with
 | none =>
  cases s with
  | nil=>rfl
  | cons x s=>obtain ⟨ad,e,_⟩:=h (by simp); cases e
 | some ad =>
  cases s with
  | nil=>exact fin ad (by simp)
  | cons x s =>
   obtain ⟨ad',e,hj⟩:=h (by simp)
   cases e
   exact fin ad hj

theorem pv_sound (hp : p.Ok) (hg : GlOk p H) (hρ : EnvOk H ρ a) (hs : Sat H σ w) {o : Op} {K : GV→Prop} (h : pv p ρ σ o K) : Gives p H σ a w o K:=by
 cases o
 case call c=>exact pv_call hp hg hρ hs h
 all_goals (simp only [pv] at h; try exact h.elim)
 case move x =>
  obtain ⟨g,hx,h⟩:=ons_some h
  exact ⟨a.eval x,g,fun w' _ o' ho=>by simp [execOp,ho],ev_is hg hρ hx,h⟩
 case assign x =>
  obtain ⟨g,hx,h⟩:=ons_some h
  exact ⟨a.eval x,g,fun w' _ o' ho=>by simp [execOp,ho],ev_is hg hρ hx,h⟩
 case pick c x y =>
  have key : ∀ (t : Bool),a.eval c=.bool t→ons ((bif t then ev p ρ x else ev p ρ y)) K→Gives p H σ a w (.pick c x y) K:=by
   intro t hc hk
   cases t with
   | true =>
    simp only [cond_true] at hk
    obtain ⟨g,hx,hk⟩:=ons_some hk
    exact ⟨a.eval x,g,fun w' _ o' ho=>by simp [execOp,ho,hc,asBool],ev_is hg hρ hx,hk⟩
   | false =>
    simp only [cond_false] at hk
    obtain ⟨g,hx,hk⟩:=ons_some hk
    exact ⟨a.eval y,g,fun w' _ o' ho=>by simp [execOp,ho,hc,asBool],ev_is hg hρ hx,hk⟩
  split at h
  ·rename_i t hc
   exact key t (ev_is hg hρ hc).inv_v h
  ·rename_i t hc
   have hcv:=(ev_is hg hρ hc).inv_b
   cases t with
   | true=>exact key true hcv (by simpa using h.1 rfl)
   | false=>exact key false hcv (by simpa using h.2 rfl)
  ·exact h.elim
 case binOp op t x y ty =>
  have fin : ∀ {gx gy : GV},(∃ u g,(∀ t w',(do eqGuard op t x y (a.eval x) (a.eval y); binOp op t (a.eval x) (a.eval y) : Sem Value).run p.P w'=.ok u w')∧Is H g u∧K g)→Gives p H σ a w (.binOp op t x y ty) K:=by
   rintro _ _ ⟨u,g,hr,hi,hk⟩
   refine ⟨u,g,fun w' _ o' ho=>?_,hi,hk⟩
   have:=hr t w'
   simp only [execOp,ho]
   rw [Sem.run_bind,this]
   rfl
  split at h
  ·rename_i k m j n hx hy
   exact fin (gx:=.b true) (gy:=.b true) (gives_bin (p:=p) (a:=a) (ev_is hg hρ hx) (ev_is hg hρ hy) h x y rfl rfl)
  ·rename_i s1 s2 hx hy
   exact fin (gx:=.b true) (gy:=.b true) (gives_bin (p:=p) (a:=a) (ev_is hg hρ hx) (ev_is hg hρ hy) h x y rfl rfl)
  ·rename_i gx gy _ _ hx hy
   obtain ⟨u,g,hr,hi,hk⟩:=eqVC_sound (x:=x) (y:=y) hp hs (ev_is hg hρ hx) (ev_is hg hρ hy) h
   refine ⟨u,g,fun w' _ o' ho=>?_,hi,hk⟩
   have:=hr w'
   simp only [execOp,ho]
   rw [Sem.run_bind,this]
   rfl
  ·exact h.elim
 case unOp op t x =>
  split at h
  ·rename_i t hx
   exact ⟨.bool (!t),_,fun w' _ o' ho=>by simp [execOp,ho,(ev_is hg hρ hx).inv_b,Op.unary],.ro (.b _),h⟩
  ·rename_i t hx
   exact ⟨.bool (!t),_,fun w' _ o' ho=>by simp [execOp,ho,(ev_is hg hρ hx).inv_v,Op.unary],.ro (.v _),h⟩
  ·rename_i k n hx
   exact ⟨.int k (k.wrap (0 - n)),_,fun w' _ o' ho=>by simp [execOp,ho,(ev_is hg hρ hx).inv_v,Op.unary,Op.intArith],.ro (.v _),h⟩
  ·exact h.elim
 case makeInterface t x =>
  split at h
  ·exact h.elim
  ·rename_i ti g hne hti hx
   obtain ⟨d,hu,hnd⟩:=(hp.tt _ _ hti).noIface (fun m e=>hne ti.sz ti.by_ ti.ag ti.zero m ti.eqk (by rw [← e]))
   refine ⟨.iface t (a.eval x),_,fun w' _ o' ho=>?_,.ifc (ev_is hg hρ hx),h⟩
   simp only [execOp,ho,Instr.makeInterface,Sem.run_bind,run_under hu,Result.andThen_ok]
   cases d <;> first | rfl | exact (hnd _ rfl).elim
  ·exact h.elim
 case load t x =>
  simp only [ble_and] at h
  split at h
  ·rename_i ti id off hti hx
   obtain ⟨hv,hid⟩:=(ev_is hg hρ hx).inv_p
   split at h
   ·rename_i ty cs hl
    obtain ⟨us,hw,hlen,his⟩:=hs.holds _ (hlook_mem hl)
    have e : ∀ j g,(cs.drop off)[j]?=some g→cs[off + j]?=some g:=fun j g hj=>by rwa [List.getElem?_drop] at hj
    refine gives_load (cs:=cs.drop off) (us:=fun j=>us.getD (off + j) undef) (hp.tt _ _ hti) hv (fun w' hb j g hj=>?_) (fun j g hj=>his _ _ (e j g hj)) ?_
    ·have hlt:=(List.getElem?_eq_some_iff.1 (e j g hj)).1
     exact blk_cell ((hb.blk hl).trans hw) (by omega)
    ·cases ha : ti.ag with
     | true=>rw [ha] at h; exact ⟨by have:=h.1; simp; omega,h.2⟩
     | false=>rw [ha] at h; simpa [List.getElem?_drop] using h
   ·exact h.elim
  ·rename_i ti id sz i off hti hx
   obtain ⟨g0,n0,c0,hv,hsv,hid⟩:=(ev_is hg hρ hx).inv_e
   split at h
   ·rename_i ty z rows hl
    cases hz : Nat.beq z sz with
    | false=>rw [hz] at h; exact h.elim
    | true =>
     rw [hz] at h
     have:=beq_eq hz
     subst this
     obtain ⟨row,hrow,hk⟩:=h
     obtain ⟨xs,hown,hrow'⟩:=hs.holds _ (hlook_mem hl)
     have hown' : ∀ w',Agr H σ w w'→w'.ownsRow 0 ty z (H.sv id) rows.length xs:=fun w' hb=>hb.row hl hown
     rw [hsv] at hown hown'
     have hrl:=hrow'.each
     have hxs:=hrow'.is
     have hrlen:=hrl row (List.mem_of_getElem? hrow)
     have hn : n0=rows.length:=by
      rcases hown.2 with ⟨he,_⟩ | ⟨_,_,_,he,_⟩
      ·cases he
      ·injection he
     subst hn
     have e : ∀ j g,(row.drop off)[j]?=some g→row[off + j]?=some g:=fun j g hj=>by rwa [List.getElem?_drop] at hj
     have hcell : ∀ j g,(row.drop off)[j]?=some g→∃ u,xs[i * z + off + j]?=some u∧IsR H.ro g u:=fun j g hj=>by
      have:=hxs i row hrow _ _ (e j g hj)
      rwa [← Nat.add_assoc] at this
     refine gives_load (cs:=row.drop off) (us:=fun j=>xs.getD (i * z + off + j) undef) (hp.tt _ _ hti) hv (fun w' hb j g hj=>?_) (fun j g hj=>?_) ?_
     ·obtain ⟨u,hu,_⟩:=hcell j g hj
      rw [addr_add_none]
      have:=row_cell (hown' w' hb) hu
      rw [this]
      simp [List.getD,hu]
     ·obtain ⟨u,hu,hi⟩:=hcell j g hj
      simp only [List.getD,hu,Option.getD_some]
      exact .ro hi
     ·cases ha : ti.ag with
      | true=>rw [ha] at hk; exact ⟨by have:=hk.1; simp; omega,hk.2⟩
      | false=>rw [ha] at hk; simpa [List.getElem?_drop] using hk
   ·exact h.elim
  ·rename_i ti cs hti hx
   obtain ⟨ad,us,hv,h1,h2⟩:=(ev_is hg hρ hx).inv_r
   exact gives_load (hp.tt _ _ hti) hv (fun w' hb j g hj=>roCell_cell hb.ro (h1 j g hj)) (fun j g hj=>.ro (h2 j g hj)) h
  ·exact h.elim
 case fieldAddr s x f =>
  split at h
  ·rename_i fs _q hti
   split at h
   ·rename_i off sz ag hf
    cases hz : Nat.beq sz 0 with
    | true=>rw [hz] at h; exact h.elim
    | false =>
     rw [hz] at h
     have hne:=beq_ne hz
     simp only [cond_false] at h
     split at h
     ·rename_i id o hx
      obtain ⟨hv,hid⟩:=(ev_is hg hρ hx).inv_p
      refine ⟨_,_,fun w' _ o' ho=>gives_fieldAddr (hp.tt _ _ hti) rfl hf hne hv w' o' ho,?_,h⟩
      rw [addr_add_none]
      exact .p hid
     ·rename_i id z i o hx
      obtain ⟨g0,n0,c0,hv,hsv,hid⟩:=(ev_is hg hρ hx).inv_e
      refine ⟨_,_,fun w' _ o' ho=>gives_fieldAddr (hp.tt _ _ hti) rfl hf hne hv w' o' ho,?_,h⟩
      rw [addr_add_none,Nat.add_assoc]
      exact .e hid hsv
     ·rename_i cs hx
      obtain ⟨ad,us,hv,h1,h2⟩:=(ev_is hg hρ hx).inv_r
      refine ⟨_,_,fun w' _ o' ho=>gives_fieldAddr (hp.tt _ _ hti) rfl hf hne hv w' o' ho,?_,h⟩
      refine .ro (.r (fun j=>us (off + j)) (fun j g hj=>?_) (fun j g hj=>?_))
      ·rw [List.getElem?_drop] at hj
       rw [addr_add_add]
       exact h1 _ _ hj
      ·rw [List.getElem?_drop] at hj
       exact h2 _ _ hj
     ·exact h.elim
   ·exact h.elim
  ·exact h.elim
 case field s x f =>
  split at h
  ·rename_i fs _q hti
   obtain ⟨fields,hu,hfs,hin⟩:=(hp.tt _ _ hti).d
   split at h
   ·rename_i off sz ag cs hf hx
    obtain ⟨us,hv,hl,his⟩:=(ev_is hg hρ hx).inv_agg
    have h1:=hfs f
    rw [hf] at h1
    cases hff : fields[f]? with
    | none=>rw [hff] at h1; cases h1
    | some fl =>
     rw [hff] at h1
     simp only [Option.map_some,Option.some.injEq,Prod.mk.injEq] at h1
     obtain ⟨e1,e2,e3⟩:=h1
     have hmem : fl ∈ fields.toList:=by
      obtain ⟨hlt,he⟩:=Array.getElem?_eq_some_iff.1 hff
      rw [← he]
      exact Array.getElem_mem_toList _
     obtain ⟨hi1,hi2⟩:=hin fl hmem
     obtain ⟨it,hit⟩:=Option.isSome_iff_exists.1 hi1
     obtain ⟨d,hd⟩:=Option.isSome_iff_exists.1 hi2
     have hsz' : it.size=sz:=by
      rw [e2]
      simp [Program.cellsOf,hit]
     have hag : ∀ w' : World,(isAgg fl.type).run p.P w'=.ok ag w':=fun w'=>by
      simp only [isAgg,Sem.run_bind,run_under hd,Result.andThen_ok]
      rw [e3,hd]
      cases d <;> rfl
     cases ag with
     | false =>
      simp only [cond_false] at h
      obtain ⟨g,hgo,hk⟩:=ons_some h
      have hlt : off < us.size:=by rw [← hl]; exact (List.getElem?_eq_some_iff.1 hgo).1
      have hgu : us[off]?=some (us.getD off undef):=by simp [Array.getD,hlt]
      refine ⟨us.getD off undef,g,fun w' _ o' ho=>?_,his _ _ hgo,hk⟩
      simp only [execOp,ho,Instr.field,hv,asAgg,Sem.run_bind,Sem.run_pure,run_under hu,Result.andThen_ok,hff,part,hag,← e1,Bool.false_eq_true,if_false,hgu]
     | true =>
      simp only [cond_true] at h
      rw [ble_and] at h
      obtain ⟨hle,hk⟩:=h
      refine ⟨.agg (us.extract off (off + sz)),_,fun w' _ o' ho=>?_,.agg ?_ (fun j g hj=>?_),hk⟩
      ·simp only [execOp,ho,Instr.field,hv,asAgg,Sem.run_bind,Sem.run_pure,run_under hu,Result.andThen_ok,hff,part,hag,← e1,if_true,run_size hit,hsz']
      ·simp; omega
      ·rw [List.getElem?_take] at hj
       split at hj
       ·rename_i hjs
        rw [List.getElem?_drop] at hj
        have:=his _ _ hj
        have hlt : off + j < us.size:=by rw [← hl]; exact (List.getElem?_eq_some_iff.1 hj).1
        have e : (us.extract off (off + sz)).getD j undef=us.getD (off + j) undef:=by
         rw [Array.getD_eq_getD_getElem?,Array.getD_eq_getD_getElem?,Array.getElem?_extract]
         rw [if_pos (by omega)]
        rw [e]
        exact this
       ·cases hj
   ·exact h.elim
  ·exact h.elim
 case indexAddr t x ix =>
  split at h
  ·rename_i e _q hti
   have hu : p.P.underlying t=some (.slice e):=(hp.tt _ _ hti).d
   split at h
   ·rename_i ei hei
    have hsz:=(hp.tt _ _ hei).size
    split at h
    ·rename_i z rows k i hx hi
     cases hz : Nat.beq z ei.sz with
     | false=>rw [hz] at h; exact h.elim
     | true =>
      rw [hz] at h
      have hze:=beq_eq hz
      obtain ⟨row,h0,hrow,hk⟩:=h
      have hiv:=(ev_is hg hρ hi).inv_v
      obtain ⟨A,c,us,hv,hc,hm,hrl,hne⟩:=(ev_is hg hρ hx).inv_sl.inv_sl
      obtain ⟨ad,rfl,h1,h2,_⟩:=hne (by rintro rfl; simp at hrow)
      have hlt : i.toNat < rows.length:=(List.getElem?_eq_some_iff.1 hrow).1
      refine ⟨.pointer (some (ad.add (i.toNat * ei.sz))),_,fun w' _ o' ho=>?_,.ro (.r (fun j=>us i.toNat j) (fun j g hj=>?_) (fun j g hj=>h2 _ _ hrow j g hj)),hk⟩
      ·have hb : 0≤i∧i < (rows.length : Int):=by omega
       simp [execOp,ho,Instr.indexAt,hv,hiv,asIntOf,run_under hu,hb,hsz]
      ·rw [addr_add_add,← hze]
       exact h1 _ _ hrow j g hj
    ·rename_i id k i hx hi
     split at h
     ·rename_i ty z rows hl
      cases hz : Nat.beq z ei.sz with
      | false=>rw [hz] at h; exact h.elim
      | true =>
       rw [hz] at h
       have hze:=beq_eq hz
       obtain ⟨h0,hlt,hk⟩:=h
       have hiv:=(ev_is hg hρ hi).inv_v
       obtain ⟨hv,hid⟩:=(ev_is hg hρ hx).inv_o
       obtain ⟨xs,hown,hrow'⟩:=hs.holds _ (hlook_mem hl)
       rcases hown.2 with ⟨_,hn⟩ | ⟨g0,cap,cur,hsv,_⟩
       ·omega
       ·refine ⟨.pointer (some ⟨g0,i.toNat * z + 0,none⟩),_,fun w' _ o' ho=>?_,.e hid hsv,hk⟩
        simp [execOp,ho,Instr.indexAt,hv,hsv,hiv,asIntOf,run_under hu,h0,hlt,hsz,addr_add_none,hze]
     ·rename_i z n hl
      cases hz : Nat.beq z ei.sz with
      | false=>rw [hz] at h; exact h.elim
      | true =>
       rw [hz] at h
       have hze:=beq_eq hz
       obtain ⟨h0,hlt,hk⟩:=h
       have hiv:=(ev_is hg hρ hi).inv_v
       obtain ⟨hv,hid⟩:=(ev_is hg hρ hx).inv_o
       obtain ⟨A,c,hsv,hA⟩:=hs.holds _ (hlook_mem hl)
       obtain ⟨g0,rfl⟩:=hA (by omega)
       refine ⟨.pointer (some ⟨g0,i.toNat * z + 0,none⟩),_,fun w' _ o' ho=>?_,.e hid hsv,hk⟩
       simp [execOp,ho,Instr.indexAt,hv,hsv,hiv,asIntOf,run_under hu,h0,hlt,hsz,addr_add_none,hze]
     ·exact h.elim
    ·exact h.elim
   ·exact h.elim
  ·rename_i len e _q hti
   have hu : p.P.underlying t=some (.array len e):=(hp.tt _ _ hti).d
   split at h
   ·rename_i ei hei
    have hsz:=(hp.tt _ _ hei).size
    split at h
    ·rename_i id off k i hx hi
     obtain ⟨h0,hlt,hk⟩:=h
     have hiv:=(ev_is hg hρ hi).inv_v
     obtain ⟨hv,hid⟩:=(ev_is hg hρ hx).inv_p
     refine ⟨.pointer (some ⟨H.bl id,off + i.toNat * ei.sz,none⟩),_,fun w' _ o' ho=>?_,.p hid,hk⟩
     simp [execOp,ho,Instr.indexAt,Instr.sureAddr,hv,hiv,asIntOf,run_under hu,h0,hlt,hsz,addr_add_none]
    ·rename_i cs k i hx hi
     obtain ⟨h0,hlt,hk⟩:=h
     have hiv:=(ev_is hg hρ hi).inv_v
     obtain ⟨ad,us,hv,h1,h2⟩:=(ev_is hg hρ hx).inv_r
     refine ⟨.pointer (some (ad.add (i.toNat * ei.sz))),_,fun w' _ o' ho=>?_,.ro (.r (fun j=>us (i.toNat * ei.sz + j)) (fun j g hj=>?_) (fun j g hj=>?_)),hk⟩
     ·simp [execOp,ho,Instr.indexAt,Instr.sureAddr,hv,hiv,asIntOf,run_under hu,h0,hlt,hsz]
     ·rw [List.getElem?_drop] at hj
      rw [addr_add_add]
      exact h1 _ _ hj
     ·rw [List.getElem?_drop] at hj
      exact h2 _ _ hj
    ·exact h.elim
   ·exact h.elim
  ·exact h.elim
 case index t x ix =>
  split at h
  ·rename_i hti
   have hu:=(hp.tt _ _ hti).d
   split at h
   ·rename_i s k i hx hi
    obtain ⟨b,h0,hb,hk⟩:=h
    have hv:=(ev_is hg hρ hx).inv_v
    have hiv:=(ev_is hg hρ hi).inv_v
    refine ⟨.int .u8 (b.toNat : Int),_,fun w' _ o' ho=>?_,.ro (.v _),hk⟩
    simp [execOp,ho,Instr.index,hv,hiv,asIntOf,run_under hu,h0,hb]
   ·exact h.elim
  ·rename_i len e _q hti
   have hu:=(hp.tt _ _ hti).d
   split at h
   ·rename_i ti hte
    have hto:=hp.tt _ _ hte
    cases hb : Nat.beq ti.sz 1 && !ti.ag with
    | false=>rw [hb] at h; exact h.elim
    | true =>
     rw [hb] at h
     simp only [Bool.and_eq_true,Bool.not_eq_true'] at hb
     split at h
     ·rename_i cs k i hx hi
      obtain ⟨g,h0,hlt,hgi,hk⟩:=h
      have hiv:=(ev_is hg hρ hi).inv_v
      obtain ⟨us,hv,hl,his⟩:=(ev_is hg hρ hx).inv_agg
      have hlu : i.toNat < us.size:=by rw [← hl]; exact (List.getElem?_eq_some_iff.1 hgi).1
      have hag : ∀ w' : World,(isAgg e).run p.P w'=.ok false w':=fun w'=>by rw [run_ag hto,hb.2]
      have hgu : us[i.toNat]?=some (us.getD i.toNat undef):=by simp [Array.getD,hlu]
      have hszz : ∀ w' : World,(sizeOf e).run p.P w'=.ok 1 w':=fun w'=>by rw [hto.size,beq_eq hb.1]
      refine ⟨us.getD i.toNat undef,_,fun w' _ o' ho=>?_,his _ _ hgi,hk⟩
      simp only [execOp,ho,Instr.index,hv,hiv,asIntOf,Sem.run_bind,Sem.run_pure,run_under hu,Result.andThen_ok]
      rw [if_pos ⟨h0,hlt⟩]
      simp only [Sem.run_bind,hszz,Result.andThen_ok,Nat.mul_one,part,hag,Bool.false_eq_true,if_false,hgu]
      rfl
     ·exact h.elim
   ·exact h.elim
  ·exact h.elim
 case slice t x lo hi mx =>
  cases mx with
  | some m=>exact h.elim
  | none =>
   simp only at h
   split at h
   ·rename_i hti
    have hu:=(hp.tt _ _ hti).d
    split at h
    ·rename_i s hx
     split at h
     ·rename_i l hh hl hhi
      obtain ⟨h0,h1,h2,hk⟩:=h
      have hv:=(ev_is hg hρ hx).inv_v
      refine ⟨.string (s.extract l.toNat hh.toNat),_,fun w' _ o' ho=>?_,.ro (.v _),hk⟩
      have hb:=run_bounds (p:=p) (isS:=false) hg hρ hl hhi h0 h1 h2 (Nat.le_refl _) w'
      simp only [execOp,ho,Instr.sliceAt,Sem.run_bind,run_under hu,Result.andThen_ok,Instr.slice,hv,Option.map_none,Option.isSome_none,Bool.false_eq_true,if_false,hb]
      rfl
     ·exact h.elim
    ·exact h.elim
   ·rename_i e _q hti
    have hu:=(hp.tt _ _ hti).d
    split at h
    ·rename_i ei hei
     have hsz:=(hp.tt _ _ hei).size
     split at h
     ·rename_i z rows hx
      cases hz : Nat.beq z ei.sz with
      | false=>rw [hz] at h; exact h.elim
      | true =>
       rw [hz] at h
       have hze:=beq_eq hz
       simp only [cond_true] at h
       split at h
       ·rename_i l hh hl hhi
        obtain ⟨h0,h1,h2,hk⟩:=h
        obtain ⟨A,c,us,hv,hc,hm,hrl,hne⟩:=(ev_is hg hρ hx).inv_sl.inv_sl
        have hlen : ((rows.take hh.toNat).drop l.toNat).length=hh.toNat - l.toNat:=by simp; omega
        refine ⟨.slice (if c=l.toNat then A else A.map (·.add (l.toNat * ei.sz))) (hh.toNat - l.toNat) (c - l.toNat),_,fun w' _ o' ho=>?_,.ro ?_,hk⟩
        ·have hb:=run_bounds (p:=p) (isS:=true) hg hρ hl hhi h0 h1 h2 hc w'
         simp only [execOp,ho,Instr.sliceAt,Sem.run_bind,run_under hu,Result.andThen_ok,Instr.slice,hv,Option.map_none,hb,hsz]
         rfl
        ·rw [← hlen]
         by_cases hr0 : rows=[]
         ·subst hr0
          simp at h2 hc hlen ⊢
          have hl0 : l.toNat=0:=by omega
          rw [hl0]
          have e0 : (if c=0 then A else A.map fun x=>x.add (0 * ei.sz))=A:=by
           cases A <;> simp [Addr.add]
          rw [e0]
          have:=(ev_is hg hρ hx).inv_sl
          rw [hv] at this
          cases this with
          | slnil=>exact .slnil
          | sl us' g0 gc gm g1 g2 g3=>exact .sl us' g0 gc gm g1 g2 g3
         ·obtain ⟨ad,rfl,h3,h4,h5⟩:=hne hr0
          have eA : (if c=l.toNat then some ad else (some ad).map fun x=>x.add (l.toNat * ei.sz))=some (if c=l.toNat then ad else ad.add (l.toNat * ei.sz)):=by split <;> rfl
          rw [eA]
          have hrow : ∀ i row,((rows.take hh.toNat).drop l.toNat)[i]?=some row→rows[l.toNat + i]?=some row:=fun i row hr=>by
           rw [List.getElem?_drop,List.getElem?_take] at hr
           split at hr
           ·exact hr
           ·cases hr
          refine .sl (fun i j=>us (l.toNat + i) j) (fun row hr=>hrl row (List.mem_of_mem_take (List.mem_of_mem_drop hr))) (by rw [hlen]; omega) (by omega) (fun i row hr j g hj=>?_) (fun i row hr j g hj=>h4 _ _ (hrow i row hr) j g hj) (fun i j=>h5 _ _)
          have hilt:=(List.getElem?_eq_some_iff.1 hr).1
          rw [hlen] at hilt
          have hcl : c ≠ l.toNat:=by omega
          rw [if_neg hcl,addr_add_add]
          have:=h3 _ _ (hrow i row hr) j g hj
          rw [Nat.add_mul,Nat.add_assoc] at this
          rw [← hze]
          exact this
       ·exact h.elim
     ·rename_i hx
      split at h
      ·rename_i l hh hl hhi
       obtain ⟨h0,h1,hk⟩:=h
       subst h0
       subst h1
       have hv:=(ev_is hg hρ hx).inv_v
       refine ⟨.slice none 0 0,_,fun w' _ o' ho=>?_,.ro (.v _),hk⟩
       have hb:=run_bounds (p:=p) (isS:=true) (len:=0) (cap:=0) hg hρ hl hhi (by omega) (by omega) (by omega) (Nat.le_refl _) w'
       simp only [execOp,ho,Instr.sliceAt,Sem.run_bind,run_under hu,Result.andThen_ok,Instr.slice,hv,Option.map_none,hb,hsz]
       rfl
      ·exact h.elim
     ·exact h.elim
    ·exact h.elim
   ·exact h.elim
 case convert t u x =>
  split at h
  ·rename_i k _q j n hti hx
   split at h
   ·rename_i j' _q' htt
    have hu:=(hp.tt _ _ hti).d
    have hu':=(hp.tt _ _ htt).d
    have hv:=(ev_is hg hρ hx).inv_v
    refine ⟨.int k (k.wrap n),_,fun w' _ o' ho=>?_,.ro (.v _),h⟩
    simp [execOp,ho,convert,run_under hu,run_under hu',hv,Conv.intToInt]
   ·exact h.elim
  ·rename_i s hti hx
   split at h
   ·rename_i htt
    have hu:=(hp.tt _ _ hti).d
    have hu':=(hp.tt _ _ htt).d
    have hv:=(ev_is hg hρ hx).inv_v
    refine ⟨.string s,_,fun w' _ o' ho=>?_,.ro (.v _),h⟩
    simp [execOp,ho,convert,run_under hu,run_under hu',hv]
   ·exact h.elim
  ·rename_i id hti hx
   cases hu8 : isU8 p.tt t with
   | false=>rw [hu8] at h; exact h.elim
   | true =>
    rw [hu8] at h
    simp only [cond_true] at h
    split at h
    ·rename_i ty z rows hl
     cases hz : Nat.beq z 1 with
     | false=>rw [hz] at h; exact h.elim
     | true =>
      rw [hz] at h
      have:=beq_eq hz
      subst this
      obtain ⟨s,rfl,hk⟩:=h
      obtain ⟨e,hu,he⟩:=isU8_spec hp hu8
      have hd:=(hp.tt _ _ hti).d
      obtain ⟨hv,hid⟩:=(ev_is hg hρ hx).inv_o
      obtain ⟨xs,hown,hrow⟩:=hs.holds _ (hlook_mem hl)
      have hown' : ∀ w',Agr H σ w w'→w'.ownsRow 0 ty 1 (H.sv id) (s.map byRow).length xs:=fun w' hb=>hb.row hl hown
      rcases hown.2 with ⟨hsv,hn⟩ | ⟨g0,cap,cur,hsv,_⟩
      ·have : s=[]:=by simpa using hn
       subst this
       refine ⟨.string ⟨#[]⟩,_,fun w' _ o' ho=>?_,.ro (.v _),hk⟩
       simp [execOp,ho,convert,run_under hu,run_under hd,run_under he,hv,hsv,Conv.bytesToString]
       rfl
      ·refine ⟨.string ⟨s.toArray⟩,_,fun w' hw' o' ho=>?_,.ro (.v _),hk⟩
       have hcells:=hown' w' hw'
       rw [hsv] at hcells
       have hb:=run_bytes (p:=p) w' (some ⟨g0,0,none⟩) cap s (fun _=>⟨_,rfl,fun j b hj=>by
        obtain ⟨u,hu',hi'⟩:=hrow.is j (byRow b) (by rw [List.getElem?_map,hj]; rfl) 0 _ rfl
        have:=(Is.ro (H:=H) hi').inv_v
        subst this
        rw [addr_add_none,Nat.zero_add]
        exact row_cell hcells (by simpa using hu')⟩)
       rw [List.length_map] at hsv
       simp only [execOp,ho,hv,hsv,run_convert_bytes_string w' _ _ e _ _ _ hu he hd,Sem.run_bind,hb]
       rfl
    ·exact h.elim
  ·rename_i z rows hti hx
   cases hu8 : isU8 p.tt t with
   | false=>rw [hu8] at h; exact h.elim
   | true =>
    rw [hu8] at h
    simp only [cond_true] at h
    cases hz : Nat.beq z 1 with
    | false=>rw [hz] at h; exact h.elim
    | true =>
     rw [hz] at h
     have:=beq_eq hz
     subst this
     obtain ⟨s,rfl,hk⟩:=h
     obtain ⟨e,hu,he⟩:=isU8_spec hp hu8
     have hd:=(hp.tt _ _ hti).d
     obtain ⟨A,c,us,hv,hc,hm,hrl,hne⟩:=(ev_is hg hρ hx).inv_sl.inv_sl
     refine ⟨.string ⟨s.toArray⟩,_,fun w' hw' o' ho=>?_,.ro (.v _),hk⟩
     have hb:=run_bytes (p:=p) w' A c s (fun hne'=>by
      obtain ⟨ad,rfl,h1,h2,_⟩:=hne (by simpa using hne')
      refine ⟨ad,rfl,fun j b hj=>?_⟩
      have hj' : (s.map byRow)[j]?=some (byRow b):=by rw [List.getElem?_map,hj]; rfl
      have e1:=h1 j _ hj' 0 _ rfl
      have e2:=(Is.ro (H:=H) (h2 j _ hj' 0 _ rfl)).inv_v
      rw [e2] at e1
      exact roCell_cell hw'.ro (by simpa using e1))
     rw [List.length_map] at hv
     simp only [execOp,ho,hv,run_convert_bytes_string w' _ _ e _ _ _ hu he hd,Sem.run_bind,hb]
     rfl
  ·rename_i hti hx
   cases hu8 : isU8 p.tt t with
   | false=>rw [hu8] at h; exact h.elim
   | true =>
    rw [hu8] at h
    simp only [cond_true] at h
    obtain ⟨e,hu,he⟩:=isU8_spec hp hu8
    have hd:=(hp.tt _ _ hti).d
    have hv:=(ev_is hg hρ hx).inv_v
    refine ⟨.string ⟨#[]⟩,_,fun w' _ o' ho=>?_,.ro (.v _),h⟩
    simp [execOp,ho,convert,run_under hu,run_under hd,run_under he,hv,Conv.bytesToString]
    rfl
  ·exact h.elim
 case nilCheck x =>
  split at h
  ·rename_i id off hx
   obtain ⟨hv,hid⟩:=(ev_is hg hρ hx).inv_p
   exact ⟨a.eval x,_,fun w' _ o' ho=>by simp only [execOp,ho,hv]; rfl,ev_is hg hρ hx,h⟩
  ·rename_i id sz i off hx
   obtain ⟨g0,n0,c0,hv,_,_⟩:=(ev_is hg hρ hx).inv_e
   exact ⟨a.eval x,_,fun w' _ o' ho=>by simp only [execOp,ho,hv]; rfl,ev_is hg hρ hx,h⟩
  ·rename_i cs hx
   obtain ⟨ad,us,hv,_,_⟩:=(ev_is hg hρ hx).inv_r
   exact ⟨a.eval x,_,fun w' _ o' ho=>by simp only [execOp,ho,hv]; rfl,ev_is hg hρ hx,h⟩
  ·exact h.elim
 case makeFunc fn first caps =>
  split at h
  ·rename_i aas cs h1 h2
   obtain ⟨l1,i1⟩:=evs_is hg hρ h1
   obtain ⟨l2,i2⟩:=evs_is hg hρ h2
   refine ⟨.func fn (first.map a.eval) (caps.map a.eval),_,fun w' _ o' ho=>by simp [execOp,ho,Instr.makeFunc],.fn (by simpa using l1) (fun j g hj=>?_) (by simpa using l2) (fun j g hj=>?_),h⟩
   ·obtain ⟨x,hx,his⟩:=i1 j g hj
    have hx' : first[j]?=some x:=by simpa using hx
    rw [Array.getD_eq_getD_getElem?,Array.getElem?_map,hx']
    exact his
   ·obtain ⟨x,hx,his⟩:=i2 j g hj
    have hx' : caps[j]?=some x:=by simpa using hx
    rw [Array.getD_eq_getD_getElem?,Array.getElem?_map,hx']
    exact his
  ·exact h.elim
 case lookup t x ix c =>
  split at h
  ·rename_i sz by_ ag z kt et eqk hti
   have hu:=(hp.tt _ _ hti).d
   split at h
   ·rename_i kti eti hkt het
    split at h
    ·rename_i kd z' kv hkd hz hx hix
     cases hsb : sortB kd kv with
     | false=>rw [hsb] at h; exact h.elim
     | true =>
      rw [hsb] at h
      obtain ⟨zv,hzr,hzi⟩:=run_zero (hp.tt _ _ het) hz
      have hku:=kdOf_spec (hp.tt _ _ hkt) hkd
      have hkv:=(ev_is hg hρ hix).inv_v
      have hxv:=(ev_is hg hρ hx).inv_v
      refine ⟨if c then .tuple #[zv,.bool false] else zv,_,fun w' _ o' ho=>?_,okG_is (hzi H) false,h⟩
      simp only [execOp,ho,hxv,hkv]
      have:=run_lookup_nil (t:=t) hu hku kv hzr c w'
      rw [Sem.run_bind,this]
      rfl
    ·rename_i kd z' gm kv hnn hkd hz hx hix
     cases hsb : sortB kd kv with
     | false=>rw [hsb] at h; exact h.elim
     | true =>
      rw [hsb] at h
      simp only [cond_true] at h
      obtain ⟨zv,hzr,hzi⟩:=run_zero (hp.tt _ _ het) hz
      have hku:=kdOf_spec (hp.tt _ _ hkt) hkd
      have hkv:=(ev_is hg hρ hix).inv_v
      split at h
      ·rename_i kd' es hm
       cases hkk : kdEq kd kd' with
       | false=>rw [hkk] at h; exact h.elim
       | true =>
        rw [hkk] at h
        obtain ⟨id,b,arr,clock,rfl,hb,hbm,hw,hmo⟩:=mapOf_spec hs hm
        obtain ⟨hv,hid⟩:=(ev_is hg hρ hx).inv_o
        have hkk':=kdEq_eq hkk
        subst hkk'
        cases hf : mfind kv es with
        | some g =>
         obtain ⟨j,e,e1,e2,e3,e4⟩:=fidx_some (i:=0) hmo.is g hf
         refine ⟨if c then .tuple #[e.val,.bool true] else e.val,_,fun w' hag o' ho=>?_,okG_is e4 true,h.1 g hf⟩
         simp only [execOp,ho,hv,hb,hkv]
         have:=run_lookup_map (t:=t) hu hku (c:=c) hsb ((hag.own b hbm).trans hw) hmo.sorts hzr (some (0 + j,e.val)) e1
         rw [Sem.run_bind,this]
         rfl
        | none =>
         refine ⟨if c then .tuple #[zv,.bool false] else zv,_,fun w' hag o' ho=>?_,okG_is (hzi H) false,h.2 hf⟩
         simp only [execOp,ho,hv,hb,hkv]
         have:=run_lookup_map (t:=t) hu hku (c:=c) hsb ((hag.own b hbm).trans hw) hmo.sorts hzr none (fidx_none hmo.is hf)
         rw [Sem.run_bind,this]
         rfl
      ·exact h.elim
    ·exact h.elim
   ·exact h.elim
  ·exact h.elim
 case entry x =>
  split at h
  ·rename_i it hx
   split at h
   ·rename_i kd es left k hl
    obtain ⟨g,hf,hk⟩:=h
    obtain ⟨hv,hid⟩:=(ev_is hg hρ hx).inv_p
    obtain ⟨b,arr,clock,seen,hsv,hne,hw,hmo,hi,hleft,hcur⟩:=hs.holds _ (hlook_mem hl)
    obtain ⟨hsk2,stamp,hback,hst⟩:=hcur k rfl
    obtain ⟨j,e,e1,e2,e3,e4⟩:=fidx_some (i:=0) hmo.is g hf
    have hmemb : ∀ x ∈ blocks H (it,.mr kd es left (some k)),x ∈ blks H σ:=fun x hx=>List.mem_flatMap.2 ⟨_,hlook_mem hl,hx⟩
    have hemem : e ∈ arr.toList:=List.mem_of_getElem? e2
    have hfind : arr.find? (fun x=>x.born == stamp)=some e:=by
     rw [← Array.find?_toList]
     have hone : ∀ x ∈ arr.toList,x.born=stamp→x=e:=fun x hx hxb=>by
      have h1:=(hst e hemem).2 e3
      exact nodup_inj hmo.st.2.1 hx hemem (hxb.trans h1.symm)
     cases hff : arr.toList.find? (fun x=>x.born == stamp) with
     | none =>
      rw [List.find?_eq_none] at hff
      have:=hff e hemem
      rw [(hst e hemem).2 e3] at this
      simp at this
     | some y =>
      have h1:=List.find?_some hff
      rw [hone y (List.mem_of_find?_eq_some hff) (by simpa using h1)]
    have hkey : e.key=k:=(vkey_eq hsk2 (hmo.sorts e hemem) e3).symm
    refine ⟨.tuple #[k,e.val],_,fun w' hag o' ho=>?_,.tup rfl (fun j g' hj=>?_),hk⟩
    ·have hw':=(hag.own b (hmemb b (by simp [blocks,hsv,mapBlk]))).trans hw
     have hi':=(hag.own _ (hmemb (H.bl it) (by simp [blocks]))).trans hi
     simp only [execOp,ho,hv]
     simp [Instr.entry,getObj,Sem.run,hw',hi',hback,hfind,hkey]
    ·match j with
     | 0=>simp at hj; subst hj; exact .ro (.v _)
     | 1=>simp at hj; subst hj; exact e4
     | j + 2=>simp at hj
   ·exact h.elim
  ·exact h.elim
 case extract x i =>
  split at h
  ·rename_i xs hx
   obtain ⟨us,hv,hl,hi⟩:=(ev_is hg hρ hx).inv_tup
   obtain ⟨g,hgx,hk⟩:=ons_some h
   have hlt:=(List.getElem?_eq_some_iff.1 hgx).1
   refine ⟨us.getD i undef,g,fun w' _ o' ho=>?_,hi _ _ hgx,hk⟩
   have : us[i]?=some (us.getD i undef):=by
    have h' : i < us.size:=by omega
    simp [Array.getD,h']
   simp only [execOp,ho,Instr.extract,hv]
   rw [this]
   rfl
  ·exact h.elim
end
end Go.GK
/-
  The ghost machine: operations that make and write memory of the call's own.
-/
namespace Go.GK
open Go.RowKit

section
variable {p : Pg} {H : Hid} {ρ : Env} {σ : Heap} {a : Act} {w : World}

theorem cells_is {g : GV} {u : Value} (h : Is H g u) : Cells H (cellsOf g) u.cells:=by
 have key : ∀ {g : GV} {u : Value},Is H g u→cellsOf g=[g]→u.cells=#[u]→Cells H (cellsOf g) u.cells:=by
  intro g u h e1 e2
  rw [e1,e2]
  refine ⟨rfl,fun j g' hj=>?_⟩
  cases j with
  | zero=>simp at hj; subst hj; exact h
  | succ j=>simp at hj
 cases h with
 | ro hr =>
  cases hr with
  | v =>
   cases u <;> try (exact key (.ro (.v _)) rfl rfl)
   case agg cs =>
    refine ⟨by simp [cellsOf,Value.cells],fun j g' hj=>?_⟩
    simp only [cellsOf,List.getElem?_map,Option.map_eq_some_iff] at hj
    obtain ⟨v,hv,rfl⟩:=hj
    have : (Value.agg cs).cells.getD j undef=v:=by
     have:=(List.getElem?_eq_some_iff.1 hv)
     obtain ⟨hlt,he⟩:=this
     simp at hlt
     simp [Value.cells,Array.getD,hlt]
     simpa using he
    rw [this]
    exact .ro (.v v)
  | b c=>exact key (.ro (.b _)) rfl rfl
  | r us h1 h2=>exact key (.ro (.r us h1 h2)) rfl rfl
  | slnil=>exact key (.ro .slnil) rfl rfl
  | sl us h0 hc hm h1 h2 h3=>exact key (.ro (.sl us h0 hc hm h1 h2 h3)) rfl rfl
  | agg hl h=>exact ⟨hl,fun j g hj=>.ro (h j g hj)⟩
  | tup hl h=>exact key (.ro (.tup hl h)) rfl rfl
  | fn hl h hl' h'=>exact key (.ro (.fn hl h hl' h')) rfl rfl
  | ifc h=>exact key (.ro (.ifc h)) rfl rfl
 | p h=>exact key (.p h) rfl rfl
 | e h hs=>exact key (.e h hs) rfl rfl
 | o hid hs h1=>exact key (.o hid hs h1) rfl (ow_one h1).1
 | agg hl h=>exact ⟨hl,h⟩
 | tup hl h=>exact key (.tup hl h) rfl rfl
 | fn hl h hl' h'=>exact key (.fn hl h hl' h') rfl rfl
 | ifc h=>exact key (.ifc h) rfl rfl

theorem RowOk.mono {ro ro' : Nat→Option Obj} (h : ∀ b o,ro b=some o→ro' b=some o) {sz : Nat} {rows : List (List GV)} {xs : List Value} (hr : RowOk ro sz rows xs) : RowOk ro' sz rows xs :=
 ⟨hr.len,hr.each,fun i row hi j g hj=>by obtain ⟨u,hu,his⟩:=hr.is i row hi j g hj; exact ⟨u,hu,his.mono h⟩,hr.one⟩

theorem hlook_split : ∀ {σ : Heap} {id : Nat} {x : Res},hlook σ id=some x→∃ l1 l2,σ=l1++(id,x) :: l2∧hdel σ id=l1++l2∧∀ y,hset σ id y=l1++(id,y) :: l2
 | [],_,_,h=>by simp [hlook] at h
 | (s,g) :: r,id,x,h=>by
  unfold hlook at h
  cases hb : Nat.beq s id with
  | true =>
   rw [hb] at h
   have:=beq_eq hb
   subst this
   simp at h
   subst h
   exact ⟨[],r,rfl,by simp [hdel],fun y=>by simp [hset]⟩
  | false =>
   rw [hb] at h
   obtain ⟨l1,l2,e,e2,e3⟩:=hlook_split (σ:=r) (id:=id) (x:=x) (by simpa using h)
   exact ⟨(s,g) :: l1,l2,by rw [e]; rfl,by simp [hdel,hb,e2],fun y=>by simp [hset,hb,e3]⟩

theorem blks_append (H : Hid) (l1 l2 : Heap) : blks H (l1++l2)=blks H l1++blks H l2:=by simp [blks]
theorem blks_cons (H : Hid) (x : Nat × Res) (l : Heap) : blks H (x :: l)=blocks H x++blks H l:=by simp [blks]

theorem blocks_le {H H' : Hid} (h : H.le H') {x : Nat × Res} (hx : x.1 < H.n) : blocks H' x=blocks H x:=by
 obtain ⟨id,r⟩:=x
 cases r <;> simp [blocks,h.bl id hx,h.sv id hx]
theorem blks_le {H H' : Hid} (h : H.le H') : ∀ {σ : Heap},(∀ x ∈ σ,x.1 < H.n)→blks H' σ=blks H σ
 | [],_=>rfl
 | x :: r,hi=>by
  rw [blks_cons,blks_cons,blocks_le h (hi x List.mem_cons_self),blks_le h (fun y hy=>hi y (List.mem_cons_of_mem _ hy))]
theorem esIs_mono {H H' : Hid} (h : ∀ g u,Is H g u→Is H' g u) : ∀ {es : List (Value × GV)} {l : List MapEntry},esIs H es l→esIs H' es l
 | [],[],_=>trivial
 | (_,_) :: _,_ :: _,hh=>⟨hh.1,h _ _ hh.2.1,esIs_mono h hh.2.2⟩
 | [],_ :: _,h=>h.elim
 | _ :: _,[],h=>h.elim
theorem MapOk.le {H H' : Hid} {kd : Option IntKind} {es : List (Value × GV)} {arr : Array MapEntry} {clock : Nat} (h : MapOk H kd es arr clock) (hl : H.le H') : MapOk H' kd es arr clock :=
 ⟨esIs_mono (fun _ _ hi=>hi.mono hl) h.is,h.sorts,h.st⟩
theorem holds_le {H H' : Hid} (h : H.le H') {x : Nat × Res} (hx : x.1 < H.n) (hh : holds H w x) : holds H' w x:=by
 obtain ⟨id,r⟩:=x
 cases r with
 | blk ty cs=>obtain ⟨us,h1,h2,h3⟩:=hh; exact ⟨us,by rw [h.bl id hx]; exact h1,h2,fun j g hj=>(h3 j g hj).mono h⟩
 | row ty sz rows =>
  obtain ⟨xs,h1,h2⟩:=hh
  exact ⟨xs,by rw [h.sv id hx]; exact h1,h2.mono h.ro⟩
 | ob o=>exact (by show w.heap[H'.bl id]?=some o; rw [h.bl id hx]; exact hh)
 | ln sz n=>obtain ⟨A,c,h1,h2⟩:=hh; exact ⟨A,c,by rw [h.sv id hx]; exact h1,h2⟩
 | sub i sz lo n =>
  obtain ⟨hi,A,c,h1,h2,h3,hz,h4⟩:=hh
  refine ⟨Nat.lt_of_lt_of_le hi h.n,A,c,by rw [h.sv id hx]; exact h1,h2,h3,hz,fun h0=>?_⟩
  obtain ⟨g,l',c',h5,h6⟩:=h4 h0
  exact ⟨g,l',c',by rw [h.sv i hi]; exact h5,h6⟩
 | mp kd es =>
  obtain ⟨b,arr,clock,h1,h2,h3⟩:=hh
  exact ⟨b,arr,clock,by rw [h.sv id hx]; exact h1,h2,h3.le h⟩
 | mr kd es left cur =>
  obtain ⟨b,arr,clock,seen,h1,hne,h2,h3,h4,h5⟩:=hh
  exact ⟨b,arr,clock,seen,by rw [h.sv id hx]; exact h1,by rw [h.bl id hx]; exact hne,h2,h3.le h,by rw [h.bl id hx]; exact h4,h5⟩
 | me kd es k st =>
  obtain ⟨hst,b,arr,clock,h1,h2,h3,h4,e,he,h5,h6⟩:=hh
  exact ⟨Nat.lt_of_lt_of_le hst h.n,b,arr,clock,by rw [h.sv id hx]; exact h1,h2,h3.le h,h4,e,he,h5,by rw [h.sv st hst]; exact h6⟩
 | ab A =>
  show A.P _ (H'.bl id) (H'.sv id) w
  rw [h.bl id hx,h.sv id hx]
  exact A.mono _ _ _ _ _ h.ro hh
 | mre kd es left cur k st =>
  obtain ⟨hst,b,arr,clock,seen,h1,hne,h2,h3,h4,h5,h6,h7,e,he,h8,h9⟩:=hh
  exact ⟨Nat.lt_of_lt_of_le hst h.n,b,arr,clock,seen,by rw [h.sv id hx]; exact h1,by rw [h.bl id hx]; exact hne,h2,h3.le h,by rw [h.bl id hx]; exact h4,h5,h6,h7,e,he,h8,by rw [h.sv st hst]; exact h9⟩
 | itr m =>
  obtain ⟨h1,h2,h3⟩:=hh
  exact ⟨Nat.lt_of_lt_of_le h1 h.n,by rw [h.sv id hx,h.sv m h1]; exact h2,by rw [h.sv m h1]; exact h3⟩

def Hid.more (H : Hid) (b : Nat) (v : Value) : Hid:={ H with bl:=fun i=>if i=H.n then b else H.bl i,sv:=fun i=>if i=H.n then v else H.sv i,n:=H.n + 1 }
theorem Hid.le_more (H : Hid) (b : Nat) (v : Value) : H.le (H.more b v) :=
 ⟨by simp [Hid.more],fun _ _ h=>h,fun i hi=>by simp [Hid.more]; omega,fun i hi=>by simp [Hid.more]; omega⟩

theorem Sat.none_size (h : Sat H σ w) : ∀ b,w.heap.size≤b→H.ro b=none:=by
 intro b hb
 cases hr : H.ro b with
 | none=>rfl
 | some o =>
  have:=(Array.getElem?_eq_some_iff.1 (h.ro b o hr)).1
  omega

theorem Sat.grow {H' : Hid} {w' : World} (h : Sat H σ w) (hl : H.le H') (hro : H'.ro=H.ro) (hb : ∀ b,b < w.heap.size→w'.heap[b]?=w.heap[b]?) {x : Nat × Res} (hid : x.1 < H'.n) (hh : GK.holds H' w' x) (hnd : (blocks H' x).Nodup)
  (hf : ∀ b ∈ blocks H' x,w.heap.size≤b) : Sat H' (x :: σ) w':=by
 have hbl : blks H' σ=blks H σ:=blks_le hl h.ids
 refine ⟨fun b o hr=>?_,fun y hy=>?_,?_,fun b hbm=>?_,fun y hy=>?_⟩
 ·rw [hro] at hr
  have:=h.ro b o hr
  rw [hb b (Array.getElem?_eq_some_iff.1 this).1]
  exact this
 ·rcases List.mem_cons.1 hy with rfl | hy
  ·exact hh
  ·refine holds_congr (w:=w) (fun b hbm=>?_) (holds_le hl (h.ids y hy) (h.holds y hy))
   rw [blocks_le hl (h.ids y hy)] at hbm
   exact hb b (h.lt b (List.mem_flatMap.2 ⟨y,hy,hbm⟩))
 ·rw [blks_cons,hbl]
  refine List.nodup_append.2 ⟨hnd,h.nodup,fun b hb1 c hb2 e=>?_⟩
  subst e
  have h1:=hf b hb1
  have h2:=h.lt b hb2
  omega
 ·rw [hro]
  rw [blks_cons,hbl] at hbm
  rcases List.mem_append.1 hbm with h1 | h1
  ·exact h.none_size b (hf b h1)
  ·exact h.free b h1
 ·rcases List.mem_cons.1 hy with rfl | hy
  ·exact hid
  ·exact Nat.lt_of_lt_of_le (h.ids y hy) hl.n

theorem Sim.grow {cx : Cx} {s : St} {H' : Hid} {w' : World} (h : Sim cx H s w) (hl : H.le H') (hro : H'.ro=H.ro) (hn : H'.n=s.n + 1) (hb : Below w.heap.size w w') {r : Res} (hh : GK.holds H' w' (s.n,r)) (hnd : (blocks H' (s.n,r)).Nodup)
  (hf : ∀ b ∈ blocks H' (s.n,r),w.heap.size≤b) (ρ : Env) : Sim cx H' { ρ:=ρ,σ:=(s.n,r) :: s.σ,n:=s.n + 1 } w':=by
 refine ⟨hn,h.sat.grow hl hro hb.block (by rw [hn]; exact Nat.lt_succ_self _) hh hnd hf,?_⟩
 have hfr:=h.fr
 refine ⟨hb.os.trans hfr.os,hb.tape.trans hfr.tape,hb.output.trans hfr.output,Nat.le_trans hfr.size hb.size,fun b h1 h2=>(hb.block b (Nat.lt_of_lt_of_le h1 hfr.size)).trans (hfr.keep b h1 h2),fun b hbm=>?_,fun b h1 h2=>hfr.fro b h1 (by rwa [hro] at h2),hfr.le.trans hl⟩
 have e : blks H' s.σ=blks H s.σ:=blks_le hl h.sat.ids
 simp only at hbm
 rw [blks_cons,e] at hbm
 rcases List.mem_append.1 hbm with h1 | h1
 ·exact .inr (Nat.le_trans hfr.size (hf b h1))
 ·exact hfr.own b h1

theorem Sim.alloc {cx : Cx} {s : St} (h : Sim cx H s w) {cs : List GV} {us : Array Value} (hc : Cells H cs us) (ty : TypeId) (ρ : Env) :
  Sim cx (H.more w.heap.size undef) { ρ:=ρ,σ:=(s.n,.blk ty cs) :: s.σ,n:=s.n + 1 } (w.alloc (.cells us ty))∧Is (H.more w.heap.size undef) (.p s.n 0) (.pointer (some ⟨w.heap.size,0,none⟩)):=by
 have hle:=H.le_more w.heap.size undef
 have e : (H.more w.heap.size undef).bl s.n=w.heap.size:=by simp [Hid.more,h.n]
 refine ⟨h.grow hle rfl (by simp [Hid.more,h.n]) ((Below.refl _ _).alloc (Nat.le_refl _) _) ?_ (by simp [blocks]) (by simp [blocks,e]) ρ,?_⟩
 ·refine ⟨us,?_,hc.1,fun j g hj=>(hc.2 j g hj).mono hle⟩
  rw [e]
  exact heap_alloc_new w _
 ·have:=Is.p (H:=H.more w.heap.size undef) (id:=s.n) (off:=0) (by simp [Hid.more,h.n])
  rwa [e] at this

theorem cells_splice {cs gs : List GV} {us vs : Array Value} (hc : Cells H cs us) (hg : Cells H gs vs) {off : Nat} (hl : off + gs.length≤cs.length) :
  Cells H (cs.take off++gs++cs.drop (off + gs.length)) (us.toList.take off++vs.toList++us.toList.drop (off + vs.toList.length)).toArray:=by
 have h1:=hc.1
 have h2:=hg.1
 have hv : vs.toList.length=gs.length:=by simp [h2]
 refine ⟨by simp; omega,fun j g hj=>?_⟩
 have e : ∀ (l : List Value) (k : Nat),l.toArray.getD k undef=l.getD k undef:=fun l k=>by simp [List.getD]
 rw [e]
 by_cases hj1 : j < off
 ·have a1 : (cs.take off++gs++cs.drop (off + gs.length))[j]?=cs[j]?:=by
   rw [List.append_assoc,List.getElem?_append_left (by simp; omega),List.getElem?_take,if_pos hj1]
  have a2 : (us.toList.take off++vs.toList++us.toList.drop (off + vs.toList.length)).getD j undef=us.getD j undef:=by
   simp only [List.getD,Array.getD_eq_getD_getElem?]
   rw [List.append_assoc,List.getElem?_append_left (by simp; omega),List.getElem?_take,if_pos hj1]
   simp
  rw [a2]
  exact hc.2 j g (a1 ▸ hj)
 ·by_cases hj2 : j < off + gs.length
  ·have a1 : (cs.take off++gs++cs.drop (off + gs.length))[j]?=gs[j - off]?:=by
    rw [List.append_assoc,List.getElem?_append_right (by simp; omega),List.getElem?_append_left (by simp; omega)]
    congr 1
    simp; omega
   have a2 : (us.toList.take off++vs.toList++us.toList.drop (off + vs.toList.length)).getD j undef=vs.getD (j - off) undef:=by
    simp only [List.getD,Array.getD_eq_getD_getElem?]
    rw [List.append_assoc,List.getElem?_append_right (by simp; omega),List.getElem?_append_left (by simp; omega)]
    have : j - (List.take off us.toList).length=j - off:=by simp; omega
    rw [this]
    simp
   rw [a2]
   exact hg.2 _ g (a1 ▸ hj)
  ·have a1 : (cs.take off++gs++cs.drop (off + gs.length))[j]?=cs[j]?:=by
    rw [List.getElem?_append_right (by simp; omega),List.getElem?_drop]
    congr 1
    simp; omega
   have a2 : (us.toList.take off++vs.toList++us.toList.drop (off + vs.toList.length)).getD j undef=us.getD j undef:=by
    simp only [List.getD,Array.getD_eq_getD_getElem?]
    rw [List.getElem?_append_right (by simp; omega),List.getElem?_drop]
    have : off + vs.toList.length + (j - (List.take off us.toList++vs.toList).length)=j:=by simp; omega
    rw [this]
    simp
   rw [a2]
   exact hc.2 j g (a1 ▸ hj)

theorem allOne_one : ∀ {cs : List GV} {us : Array Value},Cells H cs us→allOne cs=true→∀ v ∈ us.toList,v.oneCell'=true:=by
 intro cs us hc h1 v hv
 obtain ⟨j,hj⟩:=List.getElem?_of_mem hv
 have hlt:=(List.getElem?_eq_some_iff.1 hj).1
 have hcj : cs[j]?=some (cs[j]'(by have:=hc.1; simp at hlt; omega)):=List.getElem?_eq_getElem _
 have his:=hc.2 j _ hcj
 have hone : ∀ (l : List GV),allOne l=true→∀ g ∈ l,one g=true:=by
  intro l
  induction l with
  | nil=>simp
  | cons g r ih =>
   intro h g' hg'
   unfold allOne at h
   cases hb : one g with
   | false=>rw [hb] at h; cases h
   | true =>
    rw [hb] at h
    rcases List.mem_cons.1 hg' with rfl | hm
    ·exact hb
    ·exact ih (by simpa using h) g' hm
 have ho:=hone cs h1 _ (List.mem_of_getElem? hcj)
 have hvv : us.getD j undef=v:=by
  simp at hlt hj
  simp [Array.getD,hlt]
  obtain ⟨_,he⟩:=Array.getElem?_eq_some_iff.1 hj
  exact he
 rw [hvv] at his
 clear hcj
 generalize cs[j]'(by have:=hc.1; simp at hlt; omega)=gg at his ho
 cases his with
 | ro hr=>exact hr.one ho
 | p _=>rfl
 | e _ _=>rfl
 | o _ _ h1=>exact (ow_one h1).2.1
 | agg _ _=>cases ho
 | tup _ _=>cases ho
 | fn _ _ _ _=>rfl
 | ifc _=>rfl

theorem Sim.put {cx : Cx} {s : St} (h : Sim cx H s w) {id : Nat} {x y : Res} (hl : hlook s.σ id=some x) (hb : blocks H (id,y)=blocks H (id,x)) {w' : World} (hos : w'.os=w.os) (htape : w'.tape=w.tape) (hout : w'.output=w.output) (hsize : w.heap.size≤w'.heap.size)
  (hk : ∀ b,b < w.heap.size→b ∉ blocks H (id,x)→w'.heap[b]?=w.heap[b]?) (hh : GK.holds H w' (id,y)) (ρ : Env) : Sim cx H { s with ρ:=ρ,σ:=hset s.σ id y } w':=by
 obtain ⟨l1,l2,e1,_,e3⟩:=hlook_split hl
 have hs:=h.sat
 have hfr:=h.fr
 have ebl : blks H (hset s.σ id y)=blks H s.σ:=by rw [e3,e1,blks_append,blks_append,blks_cons,blks_cons,hb]
 have hin : ∀ b ∈ blocks H (id,x),b ∈ blks H s.σ:=fun b hb'=>by rw [e1,blks_append,blks_cons]; simp [hb']
 have hnd:=hs.nodup
 rw [e1,blks_append,blks_cons] at hnd
 have hother : ∀ z ∈ l1++l2,∀ b ∈ blocks H z,b ∉ blocks H (id,x):=by
  intro z hz b hbz hbx
  have n1:=List.nodup_append.1 hnd
  have n2:=List.nodup_append.1 n1.2.1
  rcases List.mem_append.1 hz with h1 | h1
  ·exact n1.2.2 b (List.mem_flatMap.2 ⟨z,h1,hbz⟩) b (by simp [hbx]) rfl
  ·exact n2.2.2 b hbx b (List.mem_flatMap.2 ⟨z,h1,hbz⟩) rfl
 refine ⟨h.n,⟨fun b o hr=>?_,fun z hz=>?_,by rw [ebl]; exact hs.nodup,fun b hbm=>hs.free b (by rwa [ebl] at hbm),fun z hz=>?_⟩,?_⟩
 ·have h1:=hs.ro b o hr
  rw [hk b (Array.getElem?_eq_some_iff.1 h1).1 (fun hbx=>by have:=hs.free b (hin b hbx); rw [this] at hr; cases hr)]
  exact h1
 ·simp only [e3] at hz
  have hz' : z=(id,y)∨z ∈ l1++l2:=by
   rcases List.mem_append.1 hz with h1 | h1
   ·exact .inr (List.mem_append.2 (.inl h1))
   ·rcases List.mem_cons.1 h1 with h2 | h2
    ·exact .inl h2
    ·exact .inr (List.mem_append.2 (.inr h2))
  rcases hz' with rfl | hz'
  ·exact hh
  ·have hmem : z ∈ s.σ:=by
    rw [e1]
    rcases List.mem_append.1 hz' with h1 | h1
    ·exact List.mem_append.2 (.inl h1)
    ·exact List.mem_append.2 (.inr (List.mem_cons_of_mem _ h1))
   exact holds_congr (fun b hbz=>hk b (hs.lt b (List.mem_flatMap.2 ⟨z,hmem,hbz⟩)) (hother z hz' b hbz)) (hs.holds z hmem)
 ·simp only [e3] at hz
  rcases List.mem_append.1 hz with h1 | h1
  ·exact hs.ids z (by rw [e1]; exact List.mem_append.2 (.inl h1))
  ·rcases List.mem_cons.1 h1 with rfl | h2
   ·exact hs.ids (id,x) (by rw [e1]; simp)
   ·exact hs.ids z (by rw [e1]; exact List.mem_append.2 (.inr (List.mem_cons_of_mem _ h2)))
 ·refine ⟨hos.trans hfr.os,htape.trans hfr.tape,hout.trans hfr.output,Nat.le_trans hfr.size hsize,fun b h1 h2=>?_,fun b hbm=>hfr.own b (by simp only at hbm; rwa [ebl] at hbm),hfr.fro,hfr.le⟩
  rw [hk b (Nat.lt_of_lt_of_le h1 hfr.size) (fun hbx=>?_)]
  ·exact hfr.keep b h1 h2
  ·rcases hfr.own b (hin b hbx) with h3 | h3
   ·exact h2 h3
   ·omega

theorem Sim.store {cx : Cx} {s : St} (h : Sim cx H s w) {id ty off : Nat} {cs gs : List GV} {vs : Array Value} (hl : hlook s.σ id=some (.blk ty cs)) (hg : Cells H gs vs) (hle : off + gs.length≤cs.length) (h1 : allOne gs=true) (ρ : Env) :
  ∃ w',(∀ P : Program,(storeCells ⟨H.bl id,off,none⟩ vs.toList).run P w=.ok () w')∧Sim cx H { s with ρ:=ρ,σ:=hset s.σ id (.blk ty (cs.take off++gs++cs.drop (off + gs.length))) } w':=by
 obtain ⟨us,hw,hlen,his⟩:=h.sat.holds _ (hlook_mem hl)
 have hvl : vs.toList.length=gs.length:=by simp [hg.1]
 refine ⟨w.setRow (H.bl id) (us.toList.take off++vs.toList++us.toList.drop (off + vs.toList.length)).toArray,fun P=>?_,?_⟩
 ·exact run_storeCells_at P (H.bl id) off ty vs.toList 0 us w hw (by have:=hg.1; simp only [Array.length_toList] at *; omega) (allOne_one hg h1)
 ·refine h.put (y:=.blk ty (cs.take off++gs++cs.drop (off + gs.length))) (w':=w.setRow (H.bl id) (us.toList.take off++vs.toList++us.toList.drop (off + vs.toList.length)).toArray) hl rfl rfl rfl rfl (by simp) (fun b hb hn=>?_) ?_ ρ
  ·exact setRow_other w _ b _ (fun e=>hn (by simp [blocks,e]))
  ·refine ⟨_,setRow_heap w _ us _ ty (0,0) hw,?_⟩
   exact cells_splice (H:=H) ⟨hlen,his⟩ hg hle

theorem foldl_set : ∀ (l : List Value) (k off : Nat) (cells : Array Value),
  (((l.zipIdx k).foldl (fun cs (x : Value × Nat)=>cs.setIfInBounds (off + x.2) x.1) cells).size=cells.size) ∧
  ∀ i,i < cells.size→((l.zipIdx k).foldl (fun cs (x : Value × Nat)=>cs.setIfInBounds (off + x.2) x.1) cells).getD i undef=if off + k≤i∧i < off + k + l.length then l.getD (i - (off + k)) undef else cells.getD i undef
 | [],k,off,cells=>by
  refine ⟨rfl,fun i _=>?_⟩
  simp only [List.zipIdx_nil,List.foldl_nil,List.length_nil,Nat.add_zero]
  rw [if_neg (by omega)]
 | v :: l,k,off,cells=>by
  obtain ⟨h1,h2⟩:=foldl_set l (k + 1) off (cells.setIfInBounds (off + k) v)
  simp only [List.zipIdx_cons,List.foldl_cons]
  refine ⟨by rw [h1]; simp,fun i hi=>?_⟩
  rw [h2 i (by simpa using hi)]
  by_cases e : i=off + k
  ·subst e
   rw [if_neg (by omega),if_pos (by simp)]
   simp [Array.getD,hi]
  ·by_cases h3 : off + (k + 1)≤i∧i < off + (k + 1) + l.length
   ·rw [if_pos h3,if_pos (by simp; omega)]
    have : i - (off + k)=(i - (off + (k + 1))) + 1:=by omega
    rw [this]
    rfl
   ·rw [if_neg h3,if_neg (by simp; omega)]
    simp only [Array.getD_eq_getD_getElem?]
    rw [Array.getElem?_setIfInBounds_ne (by omega)]

theorem fill_is {place : Nat→Option (Nat × Nat)} {places : List (Nat × Nat × Bool)} (hp : ∀ i off sz ag,places[i]?=some (off,sz,ag)→place i=some (off,sz)) : ∀ {gs : List (Nat × GV)} {vs : List (Nat × Value)} {cs : List GV} {us : Array Value} {cs' : List GV},
  gs.length=vs.length→(∀ (j : Nat) i g,gs[j]?=some (i,g)→∃ v,vs[j]?=some (i,v)∧Is H g v)→Cells H cs us→gfill places gs cs=some cs'→∃ us',Instr.fill place us vs=some us'∧Cells H cs' us'
 | [],[],cs,us,cs',_,_,hc,hf=>by simp only [gfill,Option.some.injEq] at hf; subst hf; exact ⟨us,rfl,hc⟩
 | (i,g) :: gs,(i',v) :: vs,cs,us,cs',hl,hi,hc,hf=>by
  obtain ⟨v0,hv',hisv⟩:=hi 0 i g rfl
  simp only [List.getElem?_cons_zero,Option.some.injEq,Prod.mk.injEq] at hv'
  obtain ⟨e1,e2⟩:=hv'
  subst e1; subst e2
  unfold gfill at hf
  cases hpl : places[i']? with
  | none=>rw [hpl] at hf; cases hf
  | some x =>
   obtain ⟨off,sz,ag⟩:=x
   rw [hpl] at hf
   simp only at hf
   cases hb : Nat.beq (cellsOf g).length sz with
   | false=>rw [hb] at hf; cases hf
   | true =>
    rw [hb] at hf
    have hsz:=beq_eq hb
    simp only [Bool.true_and] at hf
    cases hfb : Nat.ble (off + sz) cs.length with
    | false=>rw [hfb] at hf; cases hf
    | true =>
    rw [hfb] at hf
    have hfit:=Nat.le_of_ble_eq_true hfb
    simp only [cond_true] at hf
    have hcg:=cells_is hisv
    have hvs : v.cells.size=sz:=by rw [← hcg.1]; exact hsz
    ·have hfit' : off + v.cells.size≤us.size:=by rw [hvs,← hc.1]; exact hfit
     obtain ⟨f1,f2⟩:=foldl_set v.cells.toList 0 off us
     have hnew : Cells H (cs.take off++cellsOf g++cs.drop (off + sz)) (v.cells.zipIdx.foldl (fun cs (c,j)=>cs.setIfInBounds (off + j) c) us):=by
      have e : v.cells.zipIdx.foldl (fun cs (c,j)=>cs.setIfInBounds (off + j) c) us=(v.cells.toList.zipIdx 0).foldl (fun cs (x : Value × Nat)=>cs.setIfInBounds (off + x.2) x.1) us:=by
       rw [← Array.foldl_toList,Array.toList_zipIdx]
      rw [e]
      have hsp:=cells_splice hc hcg (off:=off) (by rw [hsz]; exact hfit)
      rw [hsz] at hsp
      refine ⟨by rw [f1,hsp.1]; have:=hc.1; have:=hcg.1; simp; omega,fun j g' hj=>?_⟩
      have hlt : j < us.size:=by
       have:=(List.getElem?_eq_some_iff.1 hj).1
       have h0:=hc.1
       simp at this
       omega
      have:=hsp.2 j g' hj
      rw [f2 j hlt]
      have e2 : (List.take off us.toList++v.cells.toList++List.drop (off + v.cells.toList.length) us.toList).toArray.getD j undef=if off + 0≤j∧j < off + 0 + v.cells.toList.length then v.cells.toList.getD (j - (off + 0)) undef else us.getD j undef:=by
       simp only [Nat.add_zero,Array.getD_eq_getD_getElem?,List.getElem?_toArray,List.getD]
       by_cases h1 : j < off
       ·rw [if_neg (by omega),List.append_assoc,List.getElem?_append_left (by simp; omega),List.getElem?_take,if_pos h1]
        simp
       ·by_cases h2 : j < off + v.cells.toList.length
        ·rw [if_pos ⟨by omega,h2⟩,List.append_assoc,List.getElem?_append_right (by simp; omega),List.getElem?_append_left (by simp at *; omega)]
         congr 2
         simp; omega
        ·rw [if_neg (by omega),List.getElem?_append_right (by simp at *; omega),List.getElem?_drop]
         have : off + v.cells.toList.length + (j - (List.take off us.toList++v.cells.toList).length)=j:=by simp at *; omega
         rw [this]
         simp
      rw [← e2]
      exact this
     obtain ⟨us',hu',hcu⟩:=fill_is hp (gs:=gs) (vs:=vs) (by simpa using hl) (fun j i g hj=>hi (j + 1) i g (by simpa using hj)) hnew hf
     refine ⟨us',?_,hcu⟩
     unfold Instr.fill
     rw [hp i' off sz ag hpl]
     simp only
     rw [if_neg (by simp [hvs]; omega)]
     exact hu'
 | [],_ :: _,_,_,_,hl,_,_,_=>by simp at hl
 | _ :: _,[],_,_,_,hl,_,_,_=>by simp at hl
end
end Go.GK
