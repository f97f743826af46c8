/-
  The ghost machine: a table of types held against the program's own.
-/
import Derived.Test.YtkoalgjlkcaonaaGreatDoorK04
import Derived.Test.YtkoalgjlkcaonaaGreatDoorProg
import Derived.KernelRfl
import Derived.Shelf.Strings.BuilderK
import Derived.Laws.OwnMore
set_option linter.unusedSimpArgs false
namespace Go.GK
open Go.RowKit

def zeq : List Value→List Value→Bool
 | [],[]=>true
 | .int k a :: xs,.int j b :: ys=>Nat.beq (kno k) (kno j) && decide (a=b) && zeq xs ys
 | .string a :: xs,.string b :: ys=>decide (a=b) && zeq xs ys
 | .bool a :: xs,.bool b :: ys=>(a == b) && zeq xs ys
 | .pointer none :: xs,.pointer none :: ys=>zeq xs ys
 | .slice none 0 0 :: xs,.slice none 0 0 :: ys=>zeq xs ys
 | .map none :: xs,.map none :: ys=>zeq xs ys
 | .nilIface :: xs,.nilIface :: ys=>zeq xs ys
 | .nilFunc :: xs,.nilFunc :: ys=>zeq xs ys
 | .chan none :: xs,.chan none :: ys=>zeq xs ys
 | _,_=>false

theorem zeq_eq : ∀ {xs ys : List Value},zeq xs ys=true→xs=ys:=by
 intro xs ys h
 fun_induction zeq xs ys
 case case2 k a xs j b ys ih =>
  simp only [Bool.and_eq_true,decide_eq_true_eq] at h
  rw [kno_inj (beq_eq h.1.1),h.1.2,ih h.2]
 all_goals simp_all

def agB : TypeDesc→Bool
 | .struct _ | .array _ _=>true
 | _=>false

def fieldB (P : Program) : List (Nat × Nat × Bool)→List Field→Bool
 | [],[]=>true
 | (o,s,g) :: r,f :: fs=>Nat.beq o f.offset && Nat.beq s (P.cellsOf f.type) && (g == (match P.underlying f.type with | some (.struct _) | some (.array _ _)=>true | _=>false)) && ((P.info? f.type).isSome && (P.underlying f.type).isSome) && fieldB P r fs
 | _,_=>false

def descB (P : Program) : TD→TypeDesc→Bool
 | .int k,.int j=>Nat.beq (kno k) (kno j)
 | .bool,.bool=>true
 | .str,.string=>true
 | .struct fs,.struct fields=>fieldB P fs fields.toList
 | .slice e,.slice e'=>Nat.beq e e'
 | .array n e,.array n' e'=>Nat.beq n n' && Nat.beq e e'
 | .iface m,.interface ms=>m == !ms.isEmpty
 | .map k e,.map k' e'=>Nat.beq k k' && Nat.beq e e'
 | .ptr,.pointer _=>true
 | .other,.interface _=>false
 | .other,_=>true
 | _,_=>false

def eqkB (P : Program) : Nat→List EqK→List Field→Bool
 | _,[],[]=>true
 | i, k :: ks, f :: fs => (f.name != "_") && Nat.beq f.offset i && (match k, P.underlying f.type with | .int, some (.int _) => true | .str, some .string => true | .bool, some .bool => true | _, _ => false) && eqkB P (i + 1) ks fs
 | _,_,_=>false

def tyB (P : Program) (t : Nat) (ti : TI) : Bool :=
 match P.info? t,P.underlying t with
 | some i,some d=>Nat.beq i.size ti.sz && Nat.beq i.bytes ti.by_ && (match i.zero with | some z=>zeq z.cells.toList ti.zero | none=>false) && Nat.beq ti.zero.length ti.sz && (match i.zero with | some z=>aggB z == ti.ag | none=>false) && (ti.ag == agB d) && descB P ti.d d &&
  (match ti.eqk,d with
   | none,_=>true
   | some ks,.struct fields=>!P.eqGuardType P.depth t && !P.stoodInHeld t && eqkB P 0 ks fields.toList
   | _,_=>false)
 | _,_=>false

theorem fieldB_spec {P : Program} : ∀ {fs : List (Nat × Nat × Bool)} {fields : List Field},fieldB P fs fields=true→(∀ f : Nat,fs[f]?=(fields[f]?).map (fun x=>(x.offset,P.cellsOf x.type,(match P.underlying x.type with | some (.struct _) | some (.array _ _)=>true | _=>false))))∧∀ f ∈ fields,(P.info? f.type).isSome=true∧(P.underlying f.type).isSome=true
 | [],[],_=>by simp
 | (o,s,g) :: r,f :: fs,h=>by
  simp only [fieldB,Bool.and_eq_true,beq_iff_eq] at h
  obtain ⟨⟨⟨⟨h1,h2⟩,h3⟩,h4⟩,h5⟩:=h
  obtain ⟨i1,i2⟩:=fieldB_spec h5
  refine ⟨fun k=>?_,fun x hx=>?_⟩
  ·cases k with
   | zero=>simp [beq_eq h1,beq_eq h2,h3]
   | succ k=>simpa using i1 k
  ·rcases List.mem_cons.1 hx with rfl | hx
   ·exact h4
   ·exact i2 x hx

theorem eqkB_spec {P : Program} : ∀ {i : Nat} {ks : List EqK} {fields : List Field}, eqkB P i ks fields = true → fields.length = ks.length ∧ ∀ (j : Nat) (f : Field), fields[j]? = some f → f.name ≠ "_" ∧ f.offset = i + j ∧ ∃ k, ks[j]? = some k ∧ (match k with | .int => ∃ j, P.underlying f.type = some (.int j) | .str => P.underlying f.type = some .string | .bool => P.underlying f.type = some .bool)
 | _,[],[],_=>by simp
 | i,k :: ks,f :: fs,h=>by
  simp only [eqkB,Bool.and_eq_true,bne_iff_ne,ne_eq] at h
  obtain ⟨⟨⟨h1,h2⟩,h3⟩,h4⟩:=h
  obtain ⟨i1,i2⟩:=eqkB_spec h4
  refine ⟨by simp [i1],fun j f' hj=>?_⟩
  cases j with
  | zero =>
   simp at hj
   subst hj
   refine ⟨h1,by simpa using beq_eq h2,k,rfl,?_⟩
   cases k <;> (cases hu : P.underlying f.type with
    | none=>simp [hu] at h3
    | some d=>cases d <;> simp_all)
  | succ j =>
   obtain ⟨a,b,c,d,e⟩:=i2 j f' (by simpa using hj)
   exact ⟨a,by omega,c,by simpa using d,e⟩

theorem tyB_ok {P : Program} {t : Nat} {ti : TI} (h : tyB P t ti=true) : TyOk P t ti:=by
 unfold tyB at h
 cases hi : P.info? t with
 | none=>simp [hi] at h
 | some i =>
  cases hu : P.underlying t with
  | none=>simp [hi,hu] at h
  | some d =>
   simp only [hi,hu,Bool.and_eq_true,beq_iff_eq] at h
   obtain ⟨⟨⟨⟨⟨⟨⟨h1,h2⟩,h3⟩,h4⟩,h8⟩,h5⟩,h6⟩,h7⟩:=h
   cases hz : i.zero with
   | none=>simp [hz] at h3
   | some z =>
    simp only [hz] at h3 h8
    refine ⟨⟨i,z,hi,beq_eq h1,beq_eq h2,hz,zeq_eq h3,beq_eq h4⟩,⟨i,z,hi,hz,by simpa using h8⟩,⟨d,hu,?_⟩,?_,fun ks hk=>?_⟩
    ·rw [h5]; cases d <;> rfl
    ·revert h6
     cases ti.d <;> cases d <;> simp only [descB,Bool.false_eq_true,false_implies,forall_const] <;> (try intro h6)
     case int.int=>rw [hu,kno_inj (beq_eq h6)]
     case bool.bool=>exact hu
     case str.string=>exact hu
     case struct.struct fs fields =>
      obtain ⟨a,b⟩:=fieldB_spec h6
      exact ⟨fields,hu,fun f=>(a f).trans (by rw [Array.getElem?_toList]; rfl),b⟩
     case slice.slice=>rw [hu,beq_eq h6]
     case array.array =>
      simp only [Bool.and_eq_true] at h6
      rw [hu,beq_eq h6.1,beq_eq h6.2]
     case iface.interface m ms=>exact ⟨ms,hu,by simpa using h6⟩
     case map.map =>
      simp only [Bool.and_eq_true] at h6
      rw [hu,beq_eq h6.1,beq_eq h6.2]
     case ptr.pointer e=>exact ⟨e,hu⟩
     all_goals (intros; simp_all)
    ·rw [hk] at h7
     cases d <;> simp only [Bool.false_eq_true] at h7
     case struct fields =>
      simp only [Bool.and_eq_true,Bool.not_eq_true'] at h7
      obtain ⟨⟨a,b⟩,c⟩:=h7
      obtain ⟨e1,e2⟩:=eqkB_spec c
      exact ⟨a,b,fields,hu,by simpa using e1,fun i f hf=>by obtain ⟨x1,x2,k,x3,x4⟩:=e2 i f (by simpa using hf); exact ⟨x1,by omega,k,x3,by cases k <;> exact x4⟩⟩

def ttB (P : Program) : TT→Bool
 | []=>true
 | (t,ti) :: r=>tyB P t ti && ttB P r

theorem Pg.ok_of {p : Pg} (h : ttB p.P p.tt=true) (hm : p.P.follows .mixedOrders=true) : p.Ok:=by
 refine ⟨fun t ti ht=>?_,hm⟩
 revert h ht
 generalize p.tt=tt
 induction tt with
 | nil=>intro _ ht; simp [tget] at ht
 | cons x r ih =>
  obtain ⟨s,g⟩:=x
  intro h ht
  simp only [ttB,Bool.and_eq_true] at h
  unfold tget at ht
  cases hb : Nat.beq s t with
  | true =>
   rw [hb] at ht
   have:=beq_eq hb
   subst this
   simp at ht
   subst ht
   exact tyB_ok h.1
  | false=>rw [hb] at ht; exact ih h.2 (by simpa using ht)
end Go.GK
/-
  The ghost machine: nil slices within own variables; bools as arguments.
-/
namespace Go.GK
open Go.RowKit

section
variable {cx : Cx} {T : Post}

theorem JK.ownNilB {k : List It} {s : St} (id j ty sz : Nat) {tb : Nat} {cs : List GV} (hl : hlook s.σ id=some (.blk tb cs)) (hj : cs[j]?=some (.v (.slice none 0 0)))
  (h : nfN (s.n + 1) fun m=>nfH ((s.n,.row ty sz []) :: hset s.σ id (.blk tb (cs.set j (.o s.n)))) fun σ=>JK cx T k ⟨s.ρ,σ,m⟩) : JK cx T k s:=by
 rw [nfN_eq,nfH_eq] at h
 refine JK.upd _ (fun H a w hg hs ha=>?_) h
 have hle:=H.le_more 0 (.slice none 0 0)
 have e : (H.more 0 (.slice none 0 0)).sv s.n=.slice none 0 0:=by simp [Hid.more,hs.n]
 have hs1 : Sim cx (H.more 0 (.slice none 0 0)) ⟨s.ρ,(s.n,.row ty sz []) :: s.σ,s.n + 1⟩ w:=by
  refine hs.grow hle rfl (by simp [Hid.more,hs.n]) (Below.refl _ _) ?_ (by simp [blocks,e,Value.ownBlock]) (by simp [blocks,e,Value.ownBlock]) _
  exact ⟨[],⟨by simp,.inl ⟨e,rfl⟩⟩,⟨by simp,by simp,by simp,by simp⟩⟩
 have hid : id < s.n:=by have:=hs.sat.ids _ (hlook_mem hl); rw [hs.n] at this; exact this
 have hbeq : Nat.beq s.n id=false:=by
  cases hb : Nat.beq s.n id with
  | false=>rfl
  | true=>have:=beq_eq hb; omega
 have hl1 : hlook ((s.n,Res.row ty sz []) :: s.σ) id=some (.blk tb cs):=by unfold hlook; rw [hbeq]; exact hl
 have hset1 : hset ((s.n,Res.row ty sz []) :: s.σ) id (.blk tb (cs.set j (.o s.n)))=(s.n,.row ty sz []) :: hset s.σ id (.blk tb (cs.set j (.o s.n))):=by
  rw [hset,hbeq]; rfl
 obtain ⟨us,hw,hlen,his⟩:=hs1.sat.holds _ (hlook_mem hl1)
 have hs2:=hs1.put (y:=.blk tb (cs.set j (.o s.n))) (w':=w) hl1 rfl rfl rfl rfl (Nat.le_refl _) (fun _ _ _=>rfl) ⟨us,hw,by simp [hlen],fun i g hi=>by
  by_cases hij : j=i
  ·subst hij
   have hlt : j < cs.length:=(List.getElem?_eq_some_iff.1 hj).1
   rw [List.getElem?_set_self hlt] at hi
   cases hi
   have hv:=(his j _ hj).inv_v
   rw [hv]
   exact .o (by simp [Hid.more,hs.n]) e rfl
  ·rw [List.getElem?_set_ne hij] at hi
   exact his i g hi⟩ s.ρ
 rw [hset1] at hs2
 exact ⟨_,hg.mono hle,hs2,ha.mono hle⟩
end

end Go.GK
/-
  The ghost machine: loops with a stated end.
-/
namespace Go.GK
open Go.RowKit

section
variable {cx : Cx} {T : Post}

def roundE {α β : Type} (cx : Cx) (T : Post) (k : List It) (id : Nat) (I : α→St) (pre : α→Prop) (m : α→Nat) (E : β→St) (q : β→Prop) (x : α) : Post:=fun e s =>
 match e with
 | .normal=>∃ (y : α) (f : Nat→Nat),Le cx.n0 f (I y) s∧pre y∧m y < m x
 | .exit j=>bif Nat.beq j id then ∃ (y : β) (f : Nat→Nat),Le cx.n0 f (E y) s∧q y else outT cx T k (.exit j) s
 | e=>outT cx T k e s

theorem JK.loopE {α β : Type} {c : Code} {id : Nat} {k : List It} {s : St} (I : α→St) (pre : α→Prop) (m : α→Nat) (E : β→St) (q : β→Prop) (x0 : α) (f0 : Nat→Nat) (h0 : Le cx.n0 f0 (I x0) s) (hp : pre x0)
  (body : ∀ x,pre x→JK cx (roundE cx T (.blk id :: k) id I pre m E q x) [.code c] (I x)) (hE : ∀ y,q y→JK cx T k (E y)) : JK cx T (.code (.loop c) :: .blk id :: k) s:=by
 intro H a w hg hs ha
 obtain ⟨H1,hg1,hs1,ha1⟩:=GK.weaken hg hs ha h0
 refine wp_loop_ghost (fun n a w=>∃ H x,GlOk cx.pg H∧Sim cx H (I x) w∧ActOk cx H (I x).ρ a∧pre x∧m x=n) (m x0) ⟨H1,x0,hg1,hs1,ha1,hp,rfl⟩ ?_
 rintro n a w ⟨H,x,hg,hs,ha,hpx,rfl⟩
 have hb:=body x hpx H a w hg hs ha
 have hgx : ∀ {H' : Hid},Hid.le cx.H0 H'→GlOk cx.pg H':=fun hle=>cx.g0.mono hle
 refine Code.wp_mono (fun e a' w' hq=>?_) hb
 obtain ⟨H',s',hs',ha',hT⟩:=hq
 cases e with
 | normal =>
  obtain ⟨y,f,hl,hpy,hm⟩:=hT
  obtain ⟨H2,hg2,hs2,ha2⟩:=GK.weaken (hgx hs'.fr.le) hs' ha' hl
  exact ⟨m y,hm,H2,y,hg2,hs2,ha2,hpy,rfl⟩
 | exit j =>
  simp only [roundE] at hT
  cases hj : Nat.beq j id with
  | false =>
   rw [hj] at hT
   exact cont_out (hgx hs'.fr.le) hs' ha' hT
  | true =>
   rw [hj] at hT
   have:=beq_eq hj
   subst this
   obtain ⟨y,f,hl,hy⟩:=hT
   obtain ⟨H2,hg2,hs2,ha2⟩:=GK.weaken (hgx hs'.fr.le) hs' ha' hl
   show cont _ _ (.blk j :: k) (.exit j) a' w'
   simp only [cont,if_true]
   exact hE y hy H2 a' w' hg2 hs2 ha2
 | goto l=>exact cont_out (hgx hs'.fr.le) hs' ha' hT
 | ret=>exact cont_out (hgx hs'.fr.le) hs' ha' hT
 | panic ch=>exact cont_out (hgx hs'.fr.le) hs' ha' hT
 | outgrown=>exact cont_out (hgx hs'.fr.le) hs' ha' hT

end
end Go.GK
/-
  The ghost machine: pieces of own slices; own slices lent to a function that only reads them.
-/
namespace Go.GK
open Go.RowKit

section
variable {cx : Cx} {T : Post}

def lent (σ : Heap) : GV→GV→Prop
 | .o m,.sl sz rows=>match hlook σ m with
  | some (.row _ z rs)=>z=sz∧rows=rs
  | some (.sub id z lo n)=>z=sz∧(match hlook σ id with
   | some (.row _ z' rs)=>z'=z∧lo + n≤rs.length∧rows=(rs.drop lo).take n
   | _=>False)
  | _=>False
 | g,g'=>g=g'∧idb 0 g=true

def lents (σ : Heap) : List GV→List GV→Prop
 | [],[]=>True
 | g :: gs,g' :: gs'=>lent σ g g'∧lents σ gs gs'
 | _,_=>False

theorem lents_spec {σ : Heap} : ∀ {gs cs : List GV},lents σ gs cs→gs.length=cs.length∧∀ (j : Nat) (c : GV),cs[j]?=some c→∃ g,gs[j]?=some g∧lent σ g c
 | [],[],_=>⟨rfl,fun j c h=>by simp at h⟩
 | g :: gs,c :: cs,h=>by
  obtain ⟨h1,h2⟩:=h
  obtain ⟨i1,i2⟩:=lents_spec h2
  refine ⟨by simp [i1],fun j x hx=>?_⟩
  cases j with
  | zero=>simp at hx; subst hx; exact ⟨g,rfl,h1⟩
  | succ j=>obtain ⟨y,hy,hl⟩:=i2 j x (by simpa using hx); exact ⟨y,by simpa using hy,hl⟩
 | [],_ :: _,h=>h.elim
 | _ :: _,[],h=>h.elim

theorem Is.free {H H' : Hid} {g : GV} {u : Value} (h : Is H g u) (h1 : idb 0 g=true) (h2 : roFree g=true) : Is H' g u:=by
 have e1 : Is (H.via id 0) g u:=by
  rw [← ren_id g] at h
  exact ren_back h h1
 have e2 : Is ((H.via id 0).at (fun _=>none)) g u:=roFree_at e1 h2
 exact e2.mono ⟨Nat.zero_le _,fun b o h=>(by cases h),fun i hi=>absurd hi (Nat.not_lt_zero _),fun i hi=>absurd hi (Nat.not_lt_zero _)⟩

theorem lent_is {H Hb : Hid} {σ : Heap} {w : World} (hs : Sat H σ w) (hro : ∀ b,Hb.ro b=w.heap[b]?) {g c : GV} {u : Value} (hl : lent σ g c) (h : Is H g u) : Is Hb c u:=by
 have hmono : ∀ b o,H.ro b=some o→Hb.ro b=some o:=fun b o hb=>by rw [hro]; exact hs.ro b o hb
 have plain : g=c∧idb 0 g=true→Is Hb c u:=fun ⟨e,hi⟩=>by
  subst e
  have e1 : Is (H.via id 0) g u:=by rw [← ren_id g] at h; exact ren_back h hi
  have hle : (H.via id 0).le Hb:=⟨Nat.zero_le _,hmono,fun i hi=>absurd hi (Nat.not_lt_zero _),fun i hi=>absurd hi (Nat.not_lt_zero _)⟩
  exact e1.mono hle
 cases g with
 | o m =>
  cases c with
  | sl sz rows =>
   obtain ⟨hv,hm⟩:=h.inv_o
   simp only [lent] at hl
   split at hl
   ·rename_i ty z rs hlk
    obtain ⟨rfl,rfl⟩:=hl
    obtain ⟨xs,hown,hrow⟩:=hs.holds _ (hlook_mem hlk)
    rw [hv]
    exact .ro (hrow.sl hmono hown (fun b _=>hro b))
   ·rename_i i z lo n hlk
    obtain ⟨rfl,hl⟩:=hl
    split at hl
    ·rename_i ty z' rs hlk'
     obtain ⟨rfl,hle,rfl⟩:=hl
     obtain ⟨_,A,c,hsv,hnc,hcm,hz,hA⟩:=hs.holds _ (hlook_mem hlk)
     obtain ⟨xs,hown,hrow⟩:=hs.holds _ (hlook_mem hlk')
     have hsl:=hrow.sl (ro':=Hb.ro) hmono hown (fun b _=>hro b)
     obtain ⟨A',c',us,hv',_,_,hrl,hne⟩:=hsl.inv_sl
     have hlen : ((rs.drop lo).take n).length=n:=by simp; omega
     rw [hv,hsv]
     by_cases hn : n=0
     ·subst hn
      simp only [List.take_zero]
      cases A with
      | none =>
       rw [hz rfl]
       exact .ro .slnil
      | some ad=>exact .ro (.sl (fun _ _=>.bool false) (by simp) (by simp) hcm (fun i row hr=>by simp at hr) (fun i row hr=>by simp at hr) (fun _ _=>rfl))
     ·obtain ⟨g,l',c2,hsi,hll,rfl⟩:=hA (by omega)
      have hrs : rs ≠ []:=fun e=>by
       have h0 : rs.length=0:=by rw [e]; rfl
       omega
      obtain ⟨ad,hA',h3,h4,h5⟩:=hne hrs
      rw [hsi] at hv'
      subst hA'
      injection hv' with e1 e2 e3
      injection e1 with e1
      subst e1
      have hget : ∀ i row,((rs.drop lo).take n)[i]?=some row→rs[lo + i]?=some row:=fun i row hr=>by
       rw [List.getElem?_take] at hr
       split at hr
       ·rwa [List.getElem?_drop] at hr
       ·cases hr
      have key:=IsR.sl (ro:=Hb.ro) (ad:=⟨g,lo * z',none⟩) (sz:=z') (rows:=(rs.drop lo).take n) (c:=c) (fun i j=>us (lo + i) j) (fun row hr=>hrl row (List.mem_of_mem_drop (List.mem_of_mem_take hr))) (by rw [hlen]; exact hnc) hcm (fun i row hr j gv hj=>by
       have:=h3 _ _ (hget i row hr) j gv hj
       rw [addr_add_none] at this ⊢
       rw [show lo * z' + (i * z' + j)=0 + ((lo + i) * z' + j) by rw [Nat.add_mul]; omega]
       exact this) (fun i row hr j gv hj=>h4 _ _ (hget i row hr) j gv hj) (fun i j=>h5 _ _)
      rw [hlen] at key
      exact .ro key
    ·exact hl.elim
   ·exact hl.elim
  | _=>exact plain hl
 | _=>exact plain (by cases c <;> exact hl)

theorem JK.callB {all : List Oper} {o : Oper} {rest : List Oper} {k : List It} {s : St} {fo : Operand} {args : Array Operand} {ts : Array TypeId} {f : FuncId} {first caps gs : List GV} {cargs : List GV} {Q : GV→Heap→Nat→Prop}
  (hct : Ct cx.pg f 0 cargs [] Q) (hcall : ∀ aas w,(callFunc f aas).run cx.pg.P w=.ok (.enter f aas) w)
  (ho : o.op=.call { callee:=.value fo,args:=args,argTypes:=ts }) (hgd : gdOk all s.ρ o.guard=true) (hf : ev cx.pg s.ρ fo=some (.fn (.func f) first caps)) (he : evs cx.pg s.ρ args.toList=some gs)
  (hl : lents s.σ (first++gs++caps) cargs) (hQ : ∀ g σ' n',Q g σ' n'→(idb 0 g && roFree g)=true)
  (h : ∀ g σ' n',Q g σ' n'→nf g fun g=>dput cx.N s.ρ o.dst g fun ρ'=>JK cx T (.ops false all rest :: k) ⟨ρ',s.σ,s.n⟩) :
  JK cx T (.ops false all (o :: rest) :: k) s:=by
 intro H a w hg hs ha
 have hw:=gdOk_wanted (o:=o) ha.env hgd
 obtain ⟨us,hc,hex⟩:=execOp_call (ts:=ts) hg ha.env hf he hcall
 let Hb : Hid:=⟨fun b=>w.heap[b]?,fun _=>0,fun _=>.bool false,0⟩
 obtain ⟨hlen,hlent⟩:=lents_spec hl
 have hcb : Cells Hb cargs us:=⟨by rw [← hlen]; exact hc.1,fun j c hj=>by
  obtain ⟨g,hgj,hl⟩:=hlent j c hj
  exact lent_is hs.sat (fun _=>rfl) hl (hc.2 j g hgj)⟩
 have hgb : GlOk cx.pg Hb:=⟨fun g gv hgv=>(hg g gv hgv).mono (fun b o hb=>hs.sat.ro b o hb),fun g cs hgc=>by
  obtain ⟨c,ty,fz,e,hz⟩:=hg.ex g cs hgc
  exact ⟨c,ty,fz,hs.sat.ro _ _ e,hz⟩⟩
 show wpList _ _ _ _ _ _
 unfold wpList
 rw [if_pos hw]
 refine .inl ?_
 unfold Oper.wp
 rw [hex o ho w,Oper.upon_enter]
 refine (hct Hb us w rfl hgb hcb ⟨fun b o h=>h,by simp,by simp [blks],by simp [blks],by simp⟩).mono ?_
 rintro e w' ⟨u,g,H',σ',rfl,hi,hs',hfr,hq⟩
 have hbel : Below w.heap.size w w':=⟨hfr.os,hfr.tape,hfr.output,hfr.size,fun b hb=>hfr.keep b hb (by simp [blks])⟩
 have hchk:=hQ g σ' _ hq
 simp only [Bool.and_eq_true] at hchk
 have hi' : Is H g u:=hi.free hchk.1 hchk.2
 have hd:=h g σ' _ hq
 rw [nf_eq] at hd
 obtain ⟨ρ',ha',hJ⟩:=ha.dput hi' hd
 exact hJ H (a.put o.dst u) w' hg ((hs.below hbel).ρ ρ') ha'
end
end Go.GK
/-
  The ghost machine: contracts of calls that only hand back a value and leave all that was as it was.
-/
namespace Go.GK
open Go.RowKit

section
variable {p : Pg}

theorem cells_vals {H : Hid} {vs : List Value} {us : Array Value} (h : Cells H (vs.map .v) us) : us=vs.toArray:=by
 obtain ⟨hl,hi⟩:=h
 refine Array.ext (by simpa using hl.symm) (fun i h1 h2=>?_)
 have h2' : i < vs.length:=by simpa using h2
 have:=(hi i (.v vs[i]) (by simp [h2'])).inv_v
 rw [Array.getD,dif_pos h1] at this
 simpa using this

theorem Fr.of_below {H : Hid} {w w' : World} (hb : Below w.heap.size w w') : Fr H [] w H [] w' :=
 ⟨hb.os,hb.tape,hb.output,hb.size,fun b h _=>hb.block b h,fun _ h=>(List.not_mem_nil h).elim,fun _ h1 h2=>(h2 h1).elim,Hid.le.refl H⟩

theorem Ct.of_below {f : FuncId} (vs : List Value) (g : Value) (h : ∀ w,Calls p.P f vs.toArray w fun e w'=>e=.returned g∧Below w.heap.size w w') : Ct p f 0 (vs.map .v) [] (Val fun x=>x=.v g):=by
 intro H us w hn hg hc hs
 rw [cells_vals hc]
 refine Calls.mono (h w) (fun e w' he=>?_)
 obtain ⟨rfl,hb⟩:=he
 exact ⟨g,.v g,H,[],rfl,.ro (.v g),hs.below hb,Fr.of_below hb,rfl,rfl,hn⟩
end
end Go.GK
/-
  The ghost machine: a contract of a call that sets one cell of an own block, told by its world.
-/
namespace Go.GK
open Go.RowKit

section
variable {p : Pg}

theorem GlOk.cell {H : Hid} {σ : Heap} {w : World} (hg : GlOk p H) (hs : Sat H σ w) {g : Nat} {x : Value} (h : look p.gl g=some (.r [.v x])) : w.cell? ⟨g,0,none⟩=some x:=by
 have h1:=hg g _ h
 cases h1 with
 | r us h1 h2 =>
  have e:=h1 0 (.v x) rfl
  have e2:=h2 0 (.v x) rfl
  cases e2
  rw [show (⟨g,0,none⟩ : Addr).add 0=⟨g,0,none⟩ from rfl] at e
  rw [roCell_cell hs.ro e]

theorem Ct.set1 {f : FuncId} {t1 t2 ty : TypeId} (m old x r : Value) {G : World→Prop} (hG : ∀ (H : Hid) (σ : Heap) (w : World),GlOk p H→Sat H σ w→G w)
  (h : ∀ t w,G w→w.cell? t=some old→w.frozen? t=false→Calls p.P f #[.iface t1 m,.iface t2 (.pointer (some t))] w fun e w'=>e=.returned r∧∃ w5,Below w.heap.size w w5∧w'=w5.setCell t x) :
  Ct p f 1 [.ifc t1 (.v m),.ifc t2 (.p 0 0)] [(0,.blk ty [.v old])] (fun g σ n=>g=.v r∧σ=[(0,.blk ty [.v x])]∧n=1):=by
 intro H us w hn hg hc hs
 obtain ⟨hl,hi⟩:=hc
 have hu : us=#[.iface t1 m,.iface t2 (.pointer (some ⟨H.bl 0,0,none⟩))]:=by
  have h0:=hi 0 _ rfl
  have h1:=hi 1 _ rfl
  obtain ⟨u0,e0,i0⟩:=h0.inv_ifc
  obtain ⟨u1,e1,i1⟩:=h1.inv_ifc
  have e2:=i0.inv_v
  have e3:=i1.inv_p
  refine Array.ext (by simpa using hl.symm) (fun i h1 h2=>?_)
  have h2' : i < 2:=by simpa using h2
  have eg : ∀ j (hj : j < us.size),us.getD j undef=us[j]:=fun j hj=>by rw [Array.getD,dif_pos hj]; rfl
  match i,h2' with
  | 0,_=>rw [← eg 0 h1,e0,e2]; rfl
  | 1,_=>rw [← eg 1 h1,e1,e3.1]; rfl
 subst hu
 have hb:=hs.holds (0,.blk ty [.v old]) (by simp)
 obtain ⟨cs,hh,hl2,hi2⟩:=hb
 have hcs : cs=#[old]:=by
  have:=cells_vals (vs:=[old]) (us:=cs) ⟨hl2,hi2⟩
  simpa using this
 subst hcs
 have hid : (0 : Nat) < H.n:=hs.ids (0,.blk ty [.v old]) (by simp)
 refine Calls.mono (h ⟨H.bl 0,0,none⟩ w (hG H _ w hg hs) (by unfold World.cell?; rw [hh]; rfl) (by unfold World.frozen?; rw [hh]; rfl)) (fun e w' he=>?_)
 obtain ⟨rfl,w5,hb5,rfl⟩:=he
 have hs5:=hs.below hb5
 have hlt : H.bl 0 < w.heap.size:=(Array.getElem?_eq_some_iff.1 hh).1
 have hh5 : w5.heap[H.bl 0]?=some (.cells #[old] ty (0,0)):=by rw [hb5.block _ hlt]; exact hh
 have hset : (w5.setCell ⟨H.bl 0,0,none⟩ x).heap[H.bl 0]?=some (.cells #[x] ty (0,0)):=by
  simp only [World.setCell,Array.getElem?_modify,if_true,hh5]
  rfl
 have hoth : ∀ b,b ≠ H.bl 0→(w5.setCell ⟨H.bl 0,0,none⟩ x).heap[b]?=w5.heap[b]?:=fun b hb=>Below.heap_setCell _ _ _ _ hb
 refine ⟨r,.v r,H,[(0,.blk ty [.v x])],rfl,.ro (.v r),⟨fun b o hr=>?_,?_,by simp [blks,blocks],?_,by simpa using hid⟩,?_,rfl,rfl,hn⟩
 ·rw [hoth b (fun e=>?_)]
  ·exact hs5.ro b o hr
  ·have:=hs.free (H.bl 0) (by simp [blks,blocks])
   rw [← e,hr] at this
   cases this
 ·intro y hy
  simp only [List.mem_singleton] at hy
  subst hy
  refine ⟨#[x],hset,rfl,fun j g hj=>?_⟩
  cases j with
  | zero=>simp at hj; subst hj; exact .ro (.v x)
  | succ j=>simp at hj
 ·intro b hb
  exact hs.free b (by simpa [blks,blocks] using hb)
 ·refine ⟨hb5.os,hb5.tape,hb5.output,?_,fun b h1 h2=>?_,fun b hb=>.inl (by simpa [blks,blocks] using hb),fun b h1 h2=>(h2 h1).elim,Hid.le.refl H⟩
  ·have:=hb5.size
   simpa [World.setCell] using this
  ·rw [hoth b (fun e=>h2 (by simp [blks,blocks,e]))]
   exact hb5.block b h1
end
end Go.GK
/-
  The ghost machine: a type assertion, told by its run; a package-level variable of one cell.
-/
namespace Go.GK
open Go.RowKit

section
variable {cx : Cx} {T : Post}

theorem JK.tassert {all : List Oper} {o : Oper} {rest : List Oper} {k : List It} {s : St} {x : Operand} {xT asserted t : TypeId} {g r : GV} (hf : ∀ (H : Hid) (u : Value) (w : World),Is H g u→∃ v,(Instr.typeAssert (.iface t u) xT asserted true).run cx.pg.P w=.ok v w∧Is H r v)
  (ho : o.op=.typeAssert x xT asserted true) (hgd : gdOk all s.ρ o.guard=true) (hx : ev cx.pg s.ρ x=some (.ifc t g))
  (hk : nf r fun r=>dput cx.N s.ρ o.dst r fun ρ'=>JK cx T (.ops false all rest :: k) ⟨ρ',s.σ,s.n⟩) : JK cx T (.ops false all (o :: rest) :: k) s:=by
 intro H a w hg hs ha
 have hw:=gdOk_wanted (o:=o) ha.env hgd
 obtain ⟨u,hu,hi⟩:=(ev_is hg ha.env hx).inv_ifc
 obtain ⟨v,hr,hv⟩:=hf H u w hi
 have hrun : (execOp a.eval o).run cx.pg.P w=.ok (.value v) w:=by
  simp only [execOp,ho,hu,Sem.run_bind,hr,Result.andThen_ok]
  rfl
 rw [nf_eq] at hk
 obtain ⟨ρ',ha',hJ⟩:=ha.dput hv hk
 exact wpList_run hw hrun (hJ H (a.put o.dst v) w hg (hs.ρ ρ') ha')

end
end Go.GK
/-
  The ghost machine: functions that hand back a value, calls of them in one step, the end of a range over a map.
-/
namespace Go.GK
open Go.RowKit

mutual
def eqG : GV→GV→Prop
 | .b c,.v (.bool d)=>d=c
 | .b c,.b d=>d=c
 | .v (.bool c),.b d=>d=c
 | .tup xs,.tup ys=>eqGs xs ys
 | x,y=>y=x
def eqGs : List GV→List GV→Prop
 | [],[]=>True
 | x :: xs,y :: ys=>eqG x y∧eqGs xs ys
 | _,_=>False
end

mutual
theorem eqG_is {H : Hid} : ∀ {x y : GV} {u : Value},eqG x y→Is H y u→Is H x u
 | .tup xs,.tup ys,u,h,hi=>by
  simp only [eqG] at h
  obtain ⟨us,rfl,hl,hi⟩:=hi.inv_tup
  obtain ⟨h1,h2⟩:=eqGs_is xs ys h hi
  exact .tup (by rw [h1]; exact hl) h2
 | .b c,y,u,h,hi=>by
  cases y with
  | v x =>
   cases x with
   | bool d=>simp only [eqG] at h; subst h; have:=hi.inv_v; subst this; exact .ro (.b _)
   | _=>simp only [eqG] at h; cases h
  | b d=>simp only [eqG] at h; subst h; exact hi
  | _=>simp only [eqG] at h; cases h
 | .v x,y,u,h,hi=>by
  cases x with
  | bool c =>
   cases y with
   | b d=>simp only [eqG] at h; subst h; have:=hi.inv_b; subst this; exact .ro (.v _)
   | v z=>simp only [eqG] at h; rw [← h]; exact hi
   | _=>simp only [eqG] at h; cases h
  | _=>simp only [eqG] at h; rw [← h]; exact hi
 | .tup xs,.v _,_,h,hi | .tup xs,.b _,_,h,hi | .tup xs,.p _ _,_,h,hi | .tup xs,.e _ _ _ _,_,h,hi | .tup xs,.o _,_,h,hi | .tup xs,.r _,_,h,hi | .tup xs,.sl _ _,_,h,hi | .tup xs,.agg _,_,h,hi | .tup xs,.fn _ _ _,_,h,hi | .tup xs,.ifc _ _,_,h,hi=>by simp only [eqG] at h; cases h
 | .p _ _,y,_,h,hi | .e _ _ _ _,y,_,h,hi | .o _,y,_,h,hi | .r _,y,_,h,hi | .sl _ _,y,_,h,hi | .agg _,y,_,h,hi | .fn _ _ _,y,_,h,hi | .ifc _ _,y,_,h,hi=>by simp only [eqG] at h; rw [← h]; exact hi
theorem eqGs_is {H : Hid} {F : Nat→Value} : ∀ (xs ys : List GV),eqGs xs ys→(∀ (j : Nat) (g : GV),ys[j]?=some g→Is H g (F j))→xs.length=ys.length∧∀ (j : Nat) (g : GV),xs[j]?=some g→Is H g (F j)
 | [],[],_,_=>⟨rfl,fun j g hj=>by simp at hj⟩
 | x :: xs,y :: ys,h,hi=>by
  simp only [eqGs] at h
  obtain ⟨h1,h2⟩:=eqGs_is (F:=fun j=>F (j + 1)) xs ys h.2 (fun j g hj=>hi (j + 1) g (by simpa using hj))
  refine ⟨by simp [h1],fun j g hj=>?_⟩
  cases j with
  | zero=>simp at hj; subst hj; exact eqG_is h.1 (hi 0 y rfl)
  | succ j=>exact h2 j g (by simpa using hj)
 | [],_ :: _,h,_=>by simp [eqGs] at h
 | _ :: _,[],h,_=>by simp [eqGs] at h
end

mutual
theorem eqG_idb : ∀ {x y : GV},eqG x y→idb 0 y=true→idb 0 x=true
 | .tup xs,.tup ys,h,hi=>by
  simp only [eqG] at h
  simp only [idb] at hi ⊢
  exact eqGs_idb xs ys h hi
 | .b c,y,_,_=>rfl
 | .v x,y,_,_=>rfl
 | .tup xs,.v _,h,hi | .tup xs,.b _,h,hi | .tup xs,.p _ _,h,hi | .tup xs,.e _ _ _ _,h,hi | .tup xs,.o _,h,hi | .tup xs,.r _,h,hi | .tup xs,.sl _ _,h,hi | .tup xs,.agg _,h,hi | .tup xs,.fn _ _ _,h,hi | .tup xs,.ifc _ _,h,hi=>by simp only [eqG] at h; cases h
 | .p _ _,y,h,hi | .e _ _ _ _,y,h,hi | .o _,y,h,hi | .r _,y,h,hi | .sl _ _,y,h,hi | .agg _,y,h,hi | .fn _ _ _,y,h,hi | .ifc _ _,y,h,hi=>by simp only [eqG] at h; rw [← h]; exact hi
theorem eqGs_idb : ∀ (xs ys : List GV),eqGs xs ys→idbL 0 ys=true→idbL 0 xs=true
 | [],[],_,_=>rfl
 | x :: xs,y :: ys,h,hi=>by
  simp only [eqGs] at h
  simp only [idbL,Bool.and_eq_true] at hi ⊢
  exact ⟨eqG_idb h.1 hi.1,eqGs_idb xs ys h.2 hi.2⟩
 | [],_ :: _,h,_=>by simp [eqGs] at h
 | _ :: _,[],h,_=>by simp [eqGs] at h
end

mutual
theorem ren_none (f : Nat→Nat) : ∀ {g : GV},idb 0 g=true→ren f g=g
 | .v _,_ | .b _,_ | .r _,_ | .sl _ _,_=>rfl
 | .p _ _,h | .e _ _ _ _,h | .o _,h=>by simp [idb] at h
 | .agg cs,h=>by simp only [idb] at h; simp only [ren,renL_none f cs h]
 | .tup cs,h=>by simp only [idb] at h; simp only [ren,renL_none f cs h]
 | .fn g aas cs,h=>by simp only [idb,Bool.and_eq_true] at h; simp only [ren,renL_none f aas h.1,renL_none f cs h.2]
 | .ifc t x,h=>by simp only [idb] at h; simp only [ren,ren_none f h]
theorem renL_none (f : Nat→Nat) : ∀ (l : List GV),idbL 0 l=true→renL f l=l
 | [],_=>rfl
 | g :: r,h=>by simp only [idbL,Bool.and_eq_true] at h; simp only [renL,ren_none f h.1,renL_none f r h.2]
end

structure Rq (p : Pg) (f : FuncId) (args : List GV) (Q : GV→Prop) : Prop where
 call : ∀ aas w,(callFunc f aas).run p.P w=.ok (.enter f aas) w
 ct : Ct p f 0 args [] (Val fun g=>Q g∧idb 0 g=true)
abbrev Rt (p : Pg) (f : FuncId) (args : List GV) (G : GV) : Prop:=Rq p f args (·=G)

theorem Rq.of {p : Pg} {f : FuncId} {fn : Func} {c : Code} {N : Nat} {args : List GV} {Q : GV→Prop} (hp : p.Ok) (hf : p.P.funcs[f]?=some fn) (hb : fn.body=some c) (hN : fn.ntmps=N) (hl : Nat.ble args.length N=true) {rs : Array ResultVar} (hr : fn.results=rs)
  (hc : ∀ aas w,(callFunc f aas).run p.P w=.ok (.enter f aas) w)
  (h : ∀ (H0 : Hid) (S0 : List Nat) (w0 : World) (h0 : H0.n=0) (g0 : GlOk p H0),vc ⟨p,N,0,H0,S0,w0,h0,g0⟩ (retT p rs.toList fun g _ _=>Q g∧idb 0 g=true) 400 [.code c] ⟨argEnv 0 args,[],0⟩) : Rq p f args Q :=
 ⟨hc,Ct.weak (Ct.of_JK hp hf hb hN hl hr fun H0 S0 w0 h0 g0=>vc_sound hp 400 _ _ (h H0 S0 w0 h0 g0)) fun g σ' n' hq=>⟨id,g,[],0,⟨hq,rfl,rfl⟩,(ren_id g).symm,trivial,by simp [hq.2,idbH,hids,distB,fixB]⟩⟩

theorem Rt.of {p : Pg} {f : FuncId} {fn : Func} {c : Code} {N : Nat} {args : List GV} {G : GV} (hp : p.Ok) (hf : p.P.funcs[f]?=some fn) (hb : fn.body=some c) (hN : fn.ntmps=N) (hl : Nat.ble args.length N=true) {rs : Array ResultVar} (hr : fn.results=rs)
  (hc : ∀ aas w,(callFunc f aas).run p.P w=.ok (.enter f aas) w)
  (h : ∀ (H0 : Hid) (S0 : List Nat) (w0 : World) (h0 : H0.n=0) (g0 : GlOk p H0),vc ⟨p,N,0,H0,S0,w0,h0,g0⟩ (retT p rs.toList fun g _ _=>eqG G g∧idb 0 g=true) 400 [.code c] ⟨argEnv 0 args,[],0⟩) : Rt p f args G:=by
 refine ⟨hc,fun H us w hn hg hcs hs=>?_⟩
 refine ((Rq.of (Q:=eqG G) hp hf hb hN hl hr hc h).ct H us w hn hg hcs hs).mono ?_
 rintro e w' ⟨u,g,H',σ',rfl,hi,hs',hfr,hq,h1,h2⟩
 exact ⟨u,G,H',σ',rfl,eqG_is hq.1 hi,hs',hfr,⟨rfl,eqG_idb hq.1 hq.2⟩,h1,h2⟩

theorem Rq.mono {p : Pg} {f : FuncId} {args : List GV} {Q Q' : GV→Prop} (h : Rq p f args Q) (hq : ∀ g,Q g→Q' g) : Rq p f args Q' :=
 ⟨h.call,fun H us w hn hg hcs hs=>(h.ct H us w hn hg hcs hs).mono fun _ _ ⟨u,g,H',σ',e,hi,hs',hfr,hv,r⟩=>⟨u,g,H',σ',e,hi,hs',hfr,⟨hq g hv.1,hv.2⟩,r⟩⟩

def callG (p : Pg) (all : List Oper) (ρ : Env) (o : Oper) : Option (FuncId × List GV) :=
 bif gdOk all ρ o.guard then (match o.op with
  | .call { callee:=.value fo,args:=args,.. }=>(match ev p ρ fo,evs p ρ args.toList with
   | some (.fn (.func f) first caps),some gs=>some (f,first++gs++caps)
   | _,_=>none)
  | _=>none) else none

theorem hrest_nil : ∀ σ : Heap,hrest [] σ=σ
 | []=>rfl
 | (id,x) :: r=>by simp [hrest,memB,hrest_nil r]

def dputV (N : Nat) (ρ : Env) : Option Nat→GV→(Env→Prop)→Prop
 | some d,g,K=>bif Nat.blt d N then K ((d,g) :: ρ) else False
 | none,_,K=>K ρ
theorem dputV_eq (N : Nat) (ρ : Env) (d : Option Nat) (g : GV) (K : Env→Prop) : dputV N ρ d g K=dput N ρ d g K:=by
 cases d <;> simp [dputV,dput,nf_eq]

section
variable {cx : Cx} {T : Post}

theorem callG_spec {p : Pg} {all : List Oper} {ρ : Env} {o : Oper} {f : FuncId} {cargs : List GV} (h : callG p all ρ o=some (f,cargs)) :
  ∃ fo args ts first caps gs,o.op=.call { callee:=.value fo,args:=args,argTypes:=ts }∧gdOk all ρ o.guard=true∧ev p ρ fo=some (.fn (.func f) first caps)∧evs p ρ args.toList=some gs∧first++gs++caps=cargs:=by
 unfold callG at h
 cases hg : gdOk all ρ o.guard with
 | false=>rw [hg] at h; cases h
 | true =>
  rw [hg] at h
  simp only [cond_true] at h
  split at h
  ·rename_i fo args ts ho
   split at h
   ·rename_i f' first caps gs h1 h2
    simp only [Option.some.injEq,Prod.mk.injEq] at h
    obtain ⟨rfl,rfl⟩:=h
    exact ⟨fo,args,ts,first,caps,gs,ho,rfl,h1,h2,rfl⟩
   ·cases h
  ·cases h

theorem JK.goQ {all : List Oper} {o : Oper} {rest : List Oper} {k : List It} {s : St} {f : FuncId} {cargs : List GV} {Q : GV→Prop} (hp : cx.pg.Ok) (hr : Rq cx.pg f cargs Q) (hk : callG cx.pg all s.ρ o=some (f,cargs)) (hb : idbL 0 cargs=true)
  (h : ∀ g,Q g→dputV cx.N s.ρ o.dst g fun ρ'=>vc cx T 400 (.ops false all rest :: k) ⟨ρ',s.σ,s.n⟩) : JK cx T (.ops false all (o :: rest) :: k) s:=by
 obtain ⟨fo,args,ts,first,caps,gs,ho,hgd,hf,he,hargs⟩:=callG_spec hk
 intro H a w hg hs ha
 have hw:=gdOk_wanted (o:=o) ha.env hgd
 show wpList _ _ _ _ _ _
 unfold wpList
 rw [if_pos hw]
 refine .inl (call_wp (r:=id) (n0:=0) (σc:=[]) hr.ct hr.call ho hf he (by rw [renL_id]; exact hargs) trivial (by simp [hb,idbH,hids,distB]) (by simp) hg hs ha.env fun H'' u g σ' n' w' hle hi hQ hsim=>?_)
 obtain ⟨⟨hq,hidb⟩,rfl,rfl⟩:=hQ
 have hd:=h g hq
 rw [dputV_eq] at hd
 rw [ren_none _ hidb] at hi
 have e : hrest (hids id []) s.σ=s.σ:=hrest_nil s.σ
 simp only [renH,List.nil_append,e] at hsim
 obtain ⟨ρ',ha',hJ⟩:=(ha.mono hle).dput hi hd
 exact vc_sound hp 400 _ _ hJ H'' (a.put o.dst u) w' (hg.mono hle) (hsim ρ') ha'

theorem JK.go {all : List Oper} {o : Oper} {rest : List Oper} {k : List It} {s : St} {f : FuncId} {cargs : List GV} {G : GV} (hp : cx.pg.Ok) (hr : Rt cx.pg f cargs G) (hk : callG cx.pg all s.ρ o=some (f,cargs)) (hb : idbL 0 cargs=true)
  (h : dputV cx.N s.ρ o.dst G fun ρ'=>vc cx T 400 (.ops false all rest :: k) ⟨ρ',s.σ,s.n⟩) : JK cx T (.ops false all (o :: rest) :: k) s :=
 JK.goQ hp hr hk hb fun g hg=>by subst hg; exact h

theorem JK.goB {all : List Oper} {o : Oper} {rest : List Oper} {k : List It} {s : St} {f : FuncId} {cargs gs : List GV} {G : GV} (hp : cx.pg.Ok) (hr : Rt cx.pg f cargs G) (hk : callG cx.pg all s.ρ o=some (f,gs)) (hl : lents s.σ gs cargs) (hfree : roFree G=true)
  (h : dputV cx.N s.ρ o.dst G fun ρ'=>vc cx T 400 (.ops false all rest :: k) ⟨ρ',s.σ,s.n⟩) : JK cx T (.ops false all (o :: rest) :: k) s:=by
 obtain ⟨fo,args,ts,first,caps,gs',ho,hgd,hf,he,hargs⟩:=callG_spec hk
 refine JK.callB hr.ct hr.call ho hgd hf he (by rw [hargs]; exact hl) (fun g σ' n' hq=>?_) (fun g σ' n' hq=>?_)
 ·obtain ⟨⟨rfl,h1⟩,_,_⟩:=hq
  simp [h1,hfree]
 ·obtain ⟨⟨rfl,h1⟩,_,_⟩:=hq
  rw [nf_eq,← dputV_eq]
  revert h
  cases o.dst with
  | none=>exact fun h=>vc_sound hp 400 _ _ h
  | some d =>
   simp only [dputV]
   cases Nat.blt d cx.N with
   | false=>exact fun h=>h
   | true=>exact fun h=>vc_sound hp 400 _ _ h


structure Hf (p : Pg) (f : FuncId) (n0 : Nat) (args : List GV) (σ : Heap) (Q : GV→Heap→Nat→Prop) : Prop where
 call : ∀ aas w,(callFunc f aas).run p.P w=.ok (.enter f aas) w
 ct : Ct p f n0 args σ Q

theorem Hf.of {p : Pg} {f : FuncId} {fn : Func} {c : Code} {n0 N : Nat} {args : List GV} {σ : Heap} {Q : GV→Heap→Nat→Prop} (hp : p.Ok) (hf : p.P.funcs[f]?=some fn) (hb : fn.body=some c) (hN : fn.ntmps=N) (hl : Nat.ble args.length N=true) {rs : Array ResultVar} (hr : fn.results=rs)
  (hc : ∀ aas w,(callFunc f aas).run p.P w=.ok (.enter f aas) w)
  (h : ∀ (H0 : Hid) (S0 : List Nat) (w0 : World) (h0 : H0.n=n0) (g0 : GlOk p H0),vc ⟨p,N,n0,H0,S0,w0,h0,g0⟩ (retT p rs.toList Q) 400 [.code c] ⟨argEnv 0 args,σ,n0⟩) : Hf p f n0 args σ Q :=
 ⟨hc,Ct.of_JK hp hf hb hN hl hr fun H0 S0 w0 h0 g0=>vc_sound hp 400 _ _ (h H0 S0 w0 h0 g0)⟩

theorem Hf.weak {p : Pg} {f : FuncId} {n0 : Nat} {args : List GV} {σ : Heap} {Q Q' : GV→Heap→Nat→Prop} (h : Hf p f n0 args σ Q)
  (hQ : ∀ g σ' n',Q g σ' n'→∃ (r : Nat→Nat) (g0 : GV) (τ : Heap) (m : Nat),Q' g0 τ m∧g=ren r g0∧leσ r τ σ'∧(idb m g0 && idbH m τ && distB (hids r τ) && fixB r n0 && Nat.ble n0 m)=true) : Hf p f n0 args σ Q' :=
 ⟨h.call,h.ct.weak hQ⟩

theorem JK.goH {all : List Oper} {o : Oper} {rest : List Oper} {k : List It} {s : St} {f : FuncId} {n0 : Nat} {cargs gs : List GV} {σc : Heap} {Q : GV→Heap→Nat→Prop} (hp : cx.pg.Ok) (hr : Hf cx.pg f n0 cargs σc Q) (r : Nat→Nat) (hk : callG cx.pg all s.ρ o=some (f,gs)) (hargs : gs=renL r cargs) (hσ : leσ r σc s.σ)
  (chk : (idbL n0 cargs && idbH n0 σc && distB (hids r σc))=true) (hrn : ∀ i,i < n0→r i < s.n)
  (h : ∀ g σ' n',Q g σ' n'→nf (ren (sh r n0 s.n) g) fun g=>nfH (renH (sh r n0 s.n) σ'++hrest (hids r σc) s.σ) fun σ=>nfN (s.n + (n' - n0)) fun n=>dput cx.N s.ρ o.dst g fun ρ'=>vc cx T 400 (.ops false all rest :: k) ⟨ρ',σ,n⟩) :
  JK cx T (.ops false all (o :: rest) :: k) s:=by
 obtain ⟨fo,args,ts,first,caps,gs',ho,hgd,hf,he,hargs'⟩:=callG_spec hk
 refine JK.call hr.ct hr.call r ho hgd hf he (hargs'.trans hargs) hσ chk hrn (fun g σ' n' hq=>?_)
 have:=h g σ' n' hq
 rw [nf_eq,nfH_eq,nfN_eq] at this ⊢
 have key : ∀ {d : Option Nat} {g : GV} {K K' : Env→Prop},(∀ ρ,K ρ→K' ρ)→dput cx.N s.ρ d g K→dput cx.N s.ρ d g K':=by
  intro d g K K' hKK h
  cases d with
  | none=>exact hKK _ h
  | some d =>
   simp only [dput,nf_eq] at h ⊢
   cases hb : Nat.blt d cx.N with
   | false=>rw [hb] at h; exact h
   | true=>rw [hb] at h; exact hKK _ h
 exact key (fun ρ hv=>vc_sound hp 400 _ _ hv) this

theorem RA.goA {ops : List Oper} {k : List It} {σs : Heap} {ρq : Env} {fuel : Nat} {listed : List Bool} {s : St} (i : Nat) (order : List (Nat × Bool)) (e : Bool) {o : Oper} {f : FuncId} {cargs : List GV} {G : GV} (hp : cx.pg.Ok) (hsel : Region.noSelect ops.toArray=true) (hT : ∀ ch s,¬ T (.panic ch) s) (hr : Rt cx.pg f cargs G) (hi : ops[i]?=some o) (hk : callG cx.pg ops s.ρ o=some (f,cargs)) (hb : idbL 0 cargs=true)
  (hB : (eqB (Region.ready .any ops.toArray listed.toArray) [i] && ordB ops e order (listed.set i true))=true)
  (h : dputV cx.N s.ρ o.dst G fun ρ'=>nfE (qput ρq o.dst G) fun ρq=>rvc cx T ops k σs e order fuel (listed.set i true) ρq ⟨ρ',s.σ,s.n⟩) : RA cx T ops k σs ρq (fuel + 1) listed s:=by
 obtain ⟨fo,args,ts,first,caps,gs,ho',hgd,hf,he,hargs⟩:=callG_spec hk
 simp only [Bool.and_eq_true] at hB
 refine RA.call (n0:=0) (r:=id) (σc:=[]) i hr.ct hr.call hi (eqB_eq hB.1) hgd ho' hf he (by rw [renL_id]; exact hargs) trivial (by simp [hb,idbH,hids,distB]) (by simp) ?_
 rintro g σ' n' ⟨⟨rfl,hidb⟩,rfl,rfl⟩
 rw [nf_eq,nfH_eq,nfN_eq,nfE_eq]
 rw [ren_none _ hidb,← dputV_eq]
 simp only [nfE_eq] at h
 have e1 : renH (sh id 0 s.n) []++hrest (hids id []) s.σ=s.σ:=by rw [show hids id []=[] from rfl,hrest_nil]; rfl
 rw [e1]
 revert h
 cases o.dst with
 | none=>exact fun h=>RA.run hp hsel hT order hB.2 h
 | some d =>
  simp only [dputV]
  cases Nat.blt d cx.N with
  | false=>exact fun h=>h
  | true=>exact fun h=>RA.run hp hsel hT order hB.2 h

theorem RA.skipA {ops : List Oper} {k : List It} {σs : Heap} {ρq : Env} {fuel : Nat} {listed : List Bool} {s : St} (i : Nat) (order : List (Nat × Bool)) (e : Bool) {o : Oper} (hp : cx.pg.Ok) (hsel : Region.noSelect ops.toArray=true) (hT : ∀ ch s,¬ T (.panic ch) s) (hi : ops[i]?=some o) (hgd : gdNo ops s.ρ o.guard=true)
  (hB : (eqB (Region.ready .any ops.toArray listed.toArray) [i] && ordB ops e order (listed.set i true))=true)
  (h : dputV cx.N s.ρ o.dst (.v undef) fun ρ'=>nfE (eput ρq o.dst (.v undef)) fun ρq=>rvc cx T ops k σs e order fuel (listed.set i true) ρq ⟨ρ',s.σ,s.n⟩) : RA cx T ops k σs ρq (fuel + 1) listed s:=by
 simp only [Bool.and_eq_true] at hB
 refine RA.skip i hi (eqB_eq hB.1) hgd ?_
 rw [← dputV_eq]
 simp only [nfE_eq] at h
 revert h
 cases o.dst with
 | none=>exact fun h=>RA.run hp hsel hT order hB.2 h
 | some d =>
  simp only [dputV]
  cases Nat.blt d cx.N with
  | false=>exact fun h=>h
  | true=>exact fun h=>RA.run hp hsel hT order hB.2 h
end
end Go.GK
/-
  The ghost machine: contracts of library functions that are given values and a slice of values.
-/
namespace Go.GK
open Go.RowKit
section
variable {p : Pg}

theorem Rt.calls {f : FuncId} (hc : ∀ a w,(callFunc f a).run p.P w=.ok (.enter f a) w) (vs : List Value) (g : Value) (h : ∀ w,Calls p.P f vs.toArray w fun e w'=>e=.returned g∧Below w.heap.size w w') : Rt p f (vs.map .v) (.v g) :=
 ⟨hc,fun H us w hn hg hcs hs=>(Ct.of_below vs g h H us w hn hg hcs hs).mono fun _ _ ⟨u,g',H',σ',e',hi',hs',hfr,hv,r⟩=>⟨u,g',H',σ',e',hi',hs',hfr,⟨hv,by rw [hv]; rfl⟩,r⟩⟩

structure SlAt (w : World) (A : Option Addr) (c : Nat) (xs : List Value) : Prop where
 cap : xs.length≤c
 max : c≤maxLen
 at_ : xs=[]∨∃ b o,A=some ⟨b,o,none⟩∧b < w.heap.size∧∀ (j : Nat) (x : Value),xs[j]?=some x→w.cell? ⟨b,o + j,none⟩=some x

theorem SlAt.of {ro : Nat→Option Obj} {w : World} (hro : ∀ b o,ro b=some o→w.heap[b]?=some o) {xs : List Value} {u : Value} (h : IsR ro (.sl 1 (xs.map fun x=>[.v x])) u) : ∃ A c,u=.slice A xs.length c∧SlAt w A c xs:=by
 obtain ⟨A,c,us,rfl,hlc,hcm,_,hne⟩:=h.inv_sl
 simp only [List.length_map] at hlc ⊢
 refine ⟨A,c,rfl,⟨hlc,hcm,?_⟩⟩
 cases xs with
 | nil=>exact .inl rfl
 | cons x0 r =>
  obtain ⟨⟨b,o,sp⟩,rfl,h1,h2,_⟩:=hne (by simp)
  refine .inr ?_
  have h00:=h1 0 [.v x0] rfl 0 (.v x0) rfl
  have hsp : sp=none:=by
   have : ({ block:=b,off:=o,spot:=sp } : Addr).add (0 * 1 + 0)=⟨b,o,sp⟩:=by simp [Addr.add]
   rw [this] at h00
   unfold roCell at h00
   split at h00
   ·split at h00
    ·cases h00
    ·rename_i hs; simpa using hs
   ·cases h00
  subst hsp
  have hcell:=roCell_cell hro h00
  refine ⟨b,o,rfl,?_,fun j x hj=>?_⟩
  ·have:=World.block_lt_of_cell? w _ hcell
   rwa [addr_add_block] at this
  ·have hr : ((x0 :: r).map fun x=>[GV.v x])[j]?=some [.v x]:=by rw [List.getElem?_map,hj]; rfl
   have e1:=roCell_cell hro (h1 j [.v x] hr 0 (.v x) rfl)
   have e2:=h2 j [.v x] hr 0 (.v x) rfl
   cases e2
   rw [addr_add_none] at e1
   simpa using e1

theorem Rt.slice {f : FuncId} (hc : ∀ a w,(callFunc f a).run p.P w=.ok (.enter f a) w) (xs vs : List Value) (g : Value) (h : ∀ (A : Option Addr) (c : Nat) (w : World),SlAt w A c xs→Calls p.P f (#[.slice A xs.length c]++vs.toArray) w fun e w'=>e=.returned g∧Below w.heap.size w w') :
  Rt p f (.sl 1 (xs.map fun x=>[.v x]) :: vs.map .v) (.v g):=by
 refine ⟨hc,fun H us w hn hg hcs hs=>?_⟩
 obtain ⟨hl,hi⟩:=hcs
 have h0 : us.size=vs.length + 1:=by rw [← hl]; simp
 obtain ⟨A,c,hu0,hat⟩:=SlAt.of hs.ro (hi 0 _ rfl).inv_sl
 have hus : us=#[.slice A xs.length c]++vs.toArray:=by
  apply Array.ext_getElem?
  intro i
  cases i with
  | zero =>
   have : us[0]?=some (us.getD 0 undef):=by simp [Array.getD,h0]
   rw [this,hu0]
   simp
  | succ i =>
   by_cases hlt : i < vs.length
   ·have h1:=(hi (i + 1) (.v vs[i]) (by simp [hlt])).inv_v
    have : us[i + 1]?=some (us.getD (i + 1) undef):=by simp [Array.getD,h0,hlt]
    rw [this,h1]
    simp [hlt]
   ·rw [Array.getElem?_eq_none (by omega),Array.getElem?_eq_none (by simp; omega)]
 rw [hus]
 refine (h A c w hat).mono ?_
 rintro e w' ⟨rfl,hb⟩
 exact ⟨g,.v g,H,[],rfl,.ro (.v g),hs.below hb,Fr.below (Fr.refl _ _ _) hb,⟨rfl,rfl⟩,rfl,hn⟩
end
end Go.GK
/-
  The ghost machine: an own variable that is written no more.
-/
namespace Go.GK
open Go.RowKit

mutual
def fzb (id : Nat) (cs0 : List GV) : GV→GV
 | .o j=>.o j
 | .agg cs=>.agg (fzbL id cs0 cs)
 | .tup cs=>.tup (fzbL id cs0 cs)
 | .fn f aas cs=>.fn f (fzbL id cs0 aas) (fzbL id cs0 cs)
 | .ifc t x=>.ifc t (fzb id cs0 x)
 | .v x=>.v x
 | .b c=>.b c
 | .p j off=>bif Nat.beq j id then .r (cs0.drop off) else .p j off
 | .e j z i off=>.e j z i off
 | .r cs=>.r cs
 | .sl z r=>.sl z r
def fzbL (id : Nat) (cs0 : List GV) : List GV→List GV
 | []=>[]
 | g :: r=>fzb id cs0 g :: fzbL id cs0 r
end

def fzbE (id : Nat) (cs0 : List GV) : Env→Env
 | []=>[]
 | (t,g) :: r=>(t,fzb id cs0 g) :: fzbE id cs0 r

def fzbR (id : Nat) (cs0 : List GV) : Res→Res
 | .blk ty cs=>.blk ty (fzbL id cs0 cs)
 | .row ty z rs=>.row ty z rs
 | .ob o=>.ob o
 | .ln sz n=>.ln sz n
 | .sub i z lo n=>.sub i z lo n
 | .mp kd es=>.mp kd (es.map fun x=>(x.1,fzb id cs0 x.2))
 | .mr kd es left cur=>.mr kd (es.map fun x=>(x.1,fzb id cs0 x.2)) left cur
 | .itr m=>.itr m
 | .me kd es k st=>.me kd (es.map fun x=>(x.1,fzb id cs0 x.2)) k st
 | .mre kd es left cur k st=>.mre kd (es.map fun x=>(x.1,fzb id cs0 x.2)) left cur k st
 | .ab A=>.ab A

def fzbH (id : Nat) (cs0 : List GV) : Heap→Heap
 | []=>[]
 | (j,x) :: r=>(j,fzbR id cs0 x) :: fzbH id cs0 r

theorem fzbL_get (id : Nat) (cs0 : List GV) : ∀ (l : List GV) (j : Nat),(fzbL id cs0 l)[j]?=(l[j]?).map (fzb id cs0)
 | [],j=>by simp [fzbL]
 | g :: r,0=>by simp [fzbL]
 | g :: r,j + 1=>by simp [fzbL,fzbL_get id cs0 r j]
theorem fzbL_len (id : Nat) (cs0 : List GV) : ∀ (l : List GV),(fzbL id cs0 l).length=l.length
 | []=>rfl
 | _ :: r=>by simp [fzbL,fzbL_len id cs0 r]

theorem fzbE_look (id : Nat) (cs0 : List GV) : ∀ (ρ : Env) (t : Nat),look (fzbE id cs0 ρ) t=(look ρ t).map (fzb id cs0)
 | [],t=>rfl
 | (s,g) :: r,t=>by
  simp only [fzbE,look]
  cases Nat.beq s t with
  | true=>rfl
  | false=>exact fzbE_look id cs0 r t

theorem fzbH_mem {id : Nat} {cs0 : List GV} : ∀ {σ : Heap} {x : Nat × Res},x ∈ fzbH id cs0 σ→∃ y ∈ σ,x=(y.1,fzbR id cs0 y.2)
 | [],_,h=>by simp [fzbH] at h
 | (j,y) :: r,x,h=>by
  simp only [fzbH,List.mem_cons] at h
  rcases h with rfl | h
  ·exact ⟨_,List.mem_cons_self,rfl⟩
  ·obtain ⟨z,hz,e⟩:=fzbH_mem h
   exact ⟨z,List.mem_cons_of_mem _ hz,e⟩

theorem fzbH_blks {H H' : Hid} (e1 : H'.bl=H.bl) (e2 : H'.sv=H.sv) {id : Nat} {cs0 : List GV} : ∀ (σ : Heap),blks H' (fzbH id cs0 σ)=blks H σ
 | []=>rfl
 | (j,y) :: r=>by
  simp only [fzbH,blks_cons,fzbH_blks e1 e2 r]
  congr 1
  cases y <;> simp [fzbR,blocks,e1,e2]

theorem Is.fzb {H H' : Hid} (hro : ∀ b o,H.ro b=some o→H'.ro b=some o) (e1 : H'.bl=H.bl) (e2 : H'.sv=H.sv) (e3 : H'.n=H.n) {id : Nat} {cs0 : List GV} (hs : ∀ off,IsR H'.ro (.r (cs0.drop off)) (.pointer (some ⟨H.bl id,off,none⟩))) {g : GV} {u : Value} (h : Is H g u) : Is H' (GK.fzb id cs0 g) u:=by
 have hle : H.le H':=⟨Nat.le_of_eq e3.symm,hro,fun i _=>by rw [e1],fun i _=>by rw [e2]⟩
 have hL : ∀ {cs : List GV} {us : Array Value},(∀ (j : Nat) (g : GV),cs[j]?=some g→Is H' (GK.fzb id cs0 g) (us.getD j undef))→∀ (j : Nat) (g : GV),(fzbL id cs0 cs)[j]?=some g→Is H' g (us.getD j undef):=by
  intro cs us hh j g hj
  rw [fzbL_get] at hj
  cases hc : cs[j]? with
  | none=>rw [hc] at hj; cases hj
  | some x=>rw [hc] at hj; simp at hj; subst hj; exact hh j x hc
 induction h with
 | ro hr =>
  have hR : ∀ {g : GV} {u : Value},IsR H.ro g u→Is H' (GK.fzb id cs0 g) u:=by
   intro g u hr
   induction hr with
   | v x=>exact .ro (.v x)
   | b c=>exact .ro (.b c)
   | r us h1 h2 _=>exact .ro ((IsR.r us h1 h2).mono hro)
   | slnil=>exact .ro .slnil
   | sl us h0 hc hm h1 h2 h3 _=>exact .ro ((IsR.sl us h0 hc hm h1 h2 h3).mono hro)
   | agg hl _ ih=>exact .agg (by rw [fzbL_len]; exact hl) (hL ih)
   | tup hl _ ih=>exact .tup (by rw [fzbL_len]; exact hl) (hL ih)
   | fn hl _ hl' _ ih ih'=>exact .fn (by rw [fzbL_len]; exact hl) (hL ih) (by rw [fzbL_len]; exact hl') (hL ih')
   | ifc _ ih=>exact .ifc ih
  exact hR hr
 | @p j off hid =>
  simp only [GK.fzb]
  cases hb : Nat.beq j id with
  | true =>
   have:=beq_eq hb
   subst this
   exact .ro (hs off)
  | false=>exact (Is.p hid).mono hle
 | e hid hs=>exact (Is.e hid hs).mono hle
 | o hid hsj how=>exact (Is.o hid hsj how).mono hle
 | agg hl _ ih=>exact .agg (by rw [fzbL_len]; exact hl) (hL ih)
 | tup hl _ ih=>exact .tup (by rw [fzbL_len]; exact hl) (hL ih)
 | fn hl _ hl' _ ih ih'=>exact .fn (by rw [fzbL_len]; exact hl) (hL ih) (by rw [fzbL_len]; exact hl') (hL ih')
 | ifc _ ih=>exact .ifc ih

theorem esIs_fzb {H H' : Hid} {id : Nat} {cs0 : List GV} (hf : ∀ {g : GV} {u : Value},Is H g u→Is H' (GK.fzb id cs0 g) u) : ∀ {es : List (Value × GV)} {l : List MapEntry},esIs H es l→esIs H' (es.map fun x=>(x.1,GK.fzb id cs0 x.2)) l
 | [],[],_=>trivial
 | (_,_) :: r,_ :: _,h=>⟨h.1,hf h.2.1,esIs_fzb hf (es:=r) h.2.2⟩
 | [],_ :: _,h=>h.elim
 | _ :: _,[],h=>h.elim
theorem MapOk.fzb {H H' : Hid} {id : Nat} {cs0 : List GV} (hf : ∀ {g : GV} {u : Value},Is H g u→Is H' (GK.fzb id cs0 g) u) {kd : Option IntKind} {es : List (Value × GV)} {arr : Array MapEntry} {clock : Nat} (h : MapOk H kd es arr clock) : MapOk H' kd (es.map fun x=>(x.1,GK.fzb id cs0 x.2)) arr clock :=
 ⟨esIs_fzb hf h.is,h.sorts,h.st⟩


section
variable {cx : Cx} {T : Post}
theorem JK.freezeB {k : List It} {s : St} (id : Nat) {ty : Nat} {cs0 : List GV} (hl : hlook s.σ id=some (.blk ty cs0)) (hb0 : idbL 0 cs0=true) (h : nfH (fzbH id cs0 (hdel s.σ id)) fun σ=>JK cx T k ⟨fzbE id cs0 s.ρ,σ,s.n⟩) : JK cx T k s:=by
 rw [nfH_eq] at h
 refine JK.upd _ (fun H a w hg hs ha=>?_) h
 obtain ⟨l1,l2,e1,e2,_⟩:=hlook_split hl
 have hmem:=hlook_mem hl
 obtain ⟨us,hwb,hlen0,his0⟩:=hs.sat.holds _ hmem
 let ro' : Nat→Option Obj:=fun b=>if H.bl id=b then w.heap[b]? else H.ro b
 have hfree : ∀ b,H.bl id=b→H.ro b=none:=fun b hb=>hs.sat.free b (List.mem_flatMap.2 ⟨_,hmem,by simp [blocks,hb]⟩)
 have hro : ∀ b o,H.ro b=some o→ro' b=some o:=by
  intro b o ho
  show (if _ then _ else _)=_
  rw [if_neg (fun hb=>by rw [hfree b hb] at ho; cases ho)]
  exact ho
 let H' : Hid:={ H with ro:=ro' }
 have hle : H.le H':=⟨Nat.le_refl _,hro,fun _ _=>rfl,fun _ _=>rfl⟩
 have hsl : ∀ off,IsR ro' (.r (cs0.drop off)) (.pointer (some ⟨H.bl id,off,none⟩)):=fun off=>by
  refine .r (fun j=>us.getD (off + j) undef) (fun j g hj=>?_) (fun j g hj=>?_)
  ·rw [List.getElem?_drop] at hj
   have hlt : off + j < us.size:=by rw [← hlen0]; exact (List.getElem?_eq_some_iff.1 hj).1
   rw [addr_add_none]
   unfold roCell
   have hr : ro' (H.bl id)=some (.cells us ty (0,0)):=by
    show (if H.bl id=H.bl id then w.heap[H.bl id]? else _)=_
    rw [if_pos rfl]; exact hwb
   simp only [hr,Option.isSome_none,Bool.false_eq_true,if_false]
   simp [Array.getD,hlt]
  ·rw [List.getElem?_drop] at hj
   exact ((his0 _ g hj).toR (idbL_get hb0 hj)).mono hro
 have hfz : ∀ {g : GV} {u : Value},Is H g u→Is H' (fzb id cs0 g) u:=fun hi=>Is.fzb (H':=H') hro rfl rfl rfl hsl hi
 have hfr:=hs.fr
 have hnd:=hs.sat.nodup
 have hbl : blks H' (fzbH id cs0 (hdel s.σ id))=blks H (l1++l2):=by rw [e2]; exact fzbH_blks rfl rfl _
 rw [e1,blks_append,blks_cons] at hnd
 have n1:=List.nodup_append.1 hnd
 have n2:=List.nodup_append.1 n1.2.1
 have hin : ∀ b ∈ blks H (l1++l2),b ∈ blks H s.σ:=fun b hb=>by
  rw [e1,blks_append,blks_cons]
  rw [blks_append] at hb
  rcases List.mem_append.1 hb with h1 | h1 <;> simp [h1]
 have hnin : ∀ b ∈ blks H (l1++l2),H.bl id ≠ b:=fun b hb hc=>by
  have hc' : b ∈ blocks H (id,.blk ty cs0):=by simp [blocks,hc]
  rw [blks_append] at hb
  rcases List.mem_append.1 hb with h1 | h1
  ·exact n1.2.2 b h1 b (by simp [hc']) rfl
  ·exact n2.2.2 b hc' b h1 rfl
 refine ⟨H',hg.up hro,⟨hs.n,⟨fun b o ho=>?_,fun x hx=>?_,?_,fun b hb=>?_,fun x hx=>?_⟩,?_⟩,⟨fun t g hlk=>?_,ha.size,ha.defers⟩⟩
 ·have ho' : (if H.bl id=b then w.heap[b]? else H.ro b)=some o:=ho
  split at ho'
  ·exact ho'
  ·exact hs.sat.ro b o ho'
 ·obtain ⟨y,hy,rfl⟩:=fzbH_mem hx
  rw [e2] at hy
  have hy' : y ∈ s.σ:=by
   rw [e1]
   rcases List.mem_append.1 hy with h1 | h1 <;> simp [h1]
  have hh:=hs.sat.holds y hy'
  obtain ⟨j,r⟩:=y
  cases r with
  | blk ty cs =>
   obtain ⟨us,hw,hlen,hi⟩:=hh
   refine ⟨us,hw,by rw [fzbL_len]; exact hlen,fun j g hj=>?_⟩
   rw [fzbL_get] at hj
   cases hc : cs[j]? with
   | none=>rw [hc] at hj; cases hj
   | some x=>rw [hc] at hj; simp at hj; subst hj; exact hfz (hi j x hc)
  | row ty z rs=>obtain ⟨ys,h1,h2⟩:=hh; exact ⟨ys,h1,h2.mono hro⟩
  | ob o=>exact hh
  | ln z n=>exact hh
  | sub i z lo n=>exact hh
  | mp kd es =>
   obtain ⟨b,arr,clock,h1,h2,h3⟩:=hh
   exact ⟨b,arr,clock,h1,h2,h3.fzb hfz⟩
  | mr kd es left cur =>
   obtain ⟨b,arr,clock,seen,h1,h2,h3,h4,h5⟩:=hh
   exact ⟨b,arr,clock,seen,h1,h2,h3,h4.fzb hfz,h5⟩
  | itr m=>exact hh
  | me kd es k st =>
   obtain ⟨h0,b,arr,clock,h1,h2,h3,h4⟩:=hh
   exact ⟨h0,b,arr,clock,h1,h2,h3.fzb hfz,h4⟩
  | ab A=>exact A.mono _ _ _ _ _ hro hh
  | mre kd es left cur k st =>
   obtain ⟨h0,b,arr,clock,seen,h1,h2,h3,h4,h5⟩:=hh
   exact ⟨h0,b,arr,clock,seen,h1,h2,h3,h4.fzb hfz,h5⟩
 ·rw [hbl,blks_append]
  exact List.nodup_append.2 ⟨n1.1,n2.2.1,fun b hb c hc e=>n1.2.2 b hb c (by simp [hc]) e⟩
 ·rw [hbl] at hb
  show (if _ then _ else _)=_
  rw [if_neg (hnin b hb)]
  exact hs.sat.free b (hin b hb)
 ·obtain ⟨y,hy,rfl⟩:=fzbH_mem hx
  rw [e2] at hy
  refine hs.sat.ids y ?_
  rw [e1]
  rcases List.mem_append.1 hy with h1 | h1 <;> simp [h1]
 ·refine ⟨hfr.os,hfr.tape,hfr.output,hfr.size,hfr.keep,fun b hb=>?_,fun b h1 h2=>?_,hfr.le.trans hle⟩
  ·rw [hbl] at hb
   exact hfr.own b (hin b hb)
  ·have h2' : (if H.bl id=b then w.heap[b]? else H.ro b) ≠ none:=h2
   split at h2'
   ·rename_i hb
    exact hfr.own b (List.mem_flatMap.2 ⟨_,hmem,by simp [blocks,hb]⟩)
   ·exact hfr.fro b h1 h2'
 ·rw [fzbE_look] at hlk
  cases hc : look s.ρ t with
  | none=>rw [hc] at hlk; cases hlk
  | some x=>rw [hc] at hlk; simp at hlk; subst hlk; exact hfz (ha.env t x hc)
end
end Go.GK
/-
  The ghost machine: a call to which own slices are lent, within a region that draws its order.
-/
namespace Go.GK
open Go.RowKit
section
variable {cx : Cx} {T : Post}

theorem call_wpB {o : Oper} {s : St} {fo : Operand} {args : Array Operand} {ts : Array TypeId} {f : FuncId} {first caps gs : List GV} {cargs : List GV} {Q : GV→Heap→Nat→Prop}
  (hct : Ct cx.pg f 0 cargs [] Q) (hcall : ∀ aas w,(callFunc f aas).run cx.pg.P w=.ok (.enter f aas) w)
  (ho : o.op=.call { callee:=.value fo,args:=args,argTypes:=ts }) {ρ : Env} (hf : ev cx.pg ρ fo=some (.fn (.func f) first caps)) (he : evs cx.pg ρ args.toList=some gs) {σ0 : Heap}
  (hl : lents σ0 (first++gs++caps) cargs) (hQ : ∀ g σ' n',Q g σ' n'→(idb 0 g && roFree g)=true)
  {H : Hid} {a : Act} {w : World} (hg : GlOk cx.pg H) (hs : Sim cx H s w) (hsat : Sat H σ0 w) (ha : EnvOk H ρ a) {K : Act→World→Prop} {Q' : Exit→Act→World→Prop}
  (hK : ∀ (u : Value) (g : GV) (w' : World) (σ' : Heap) (n' : Nat),Is H g u→Q g σ' n'→Sim cx H s w'→K (a.put o.dst u) w') : o.wp cx.pg.P a w K Q':=by
 obtain ⟨us,hc,hex⟩:=execOp_call (ts:=ts) hg ha hf he hcall
 let Hb : Hid:=⟨fun b=>w.heap[b]?,fun _=>0,fun _=>.bool false,0⟩
 obtain ⟨hlen,hlent⟩:=lents_spec hl
 have hcb : Cells Hb cargs us:=⟨by rw [← hlen]; exact hc.1,fun j c hj=>by
  obtain ⟨g,hgj,hl⟩:=hlent j c hj
  exact lent_is hsat (fun _=>rfl) hl (hc.2 j g hgj)⟩
 have hgb : GlOk cx.pg Hb:=⟨fun g gv hgv=>(hg g gv hgv).mono (fun b o hb=>hsat.ro b o hb),fun g cs hgc=>by
  obtain ⟨c,ty,fz,e,hz⟩:=hg.ex g cs hgc
  exact ⟨c,ty,fz,hsat.ro _ _ e,hz⟩⟩
 unfold Oper.wp
 rw [hex o ho w,Oper.upon_enter]
 refine (hct Hb us w rfl hgb hcb ⟨fun b o h=>h,by simp,by simp [blks],by simp [blks],by simp⟩).mono ?_
 rintro e w' ⟨u,g,H',σ',rfl,hi,hs',hfr,hq⟩
 have hbel : Below w.heap.size w w':=⟨hfr.os,hfr.tape,hfr.output,hfr.size,fun b hb=>hfr.keep b hb (by simp [blks])⟩
 have hchk:=hQ g σ' _ hq
 simp only [Bool.and_eq_true] at hchk
 exact hK u g w' σ' _ (hi.free hchk.1 hchk.2) hq (hs.below hbel)

theorem RA.goB {ops : List Oper} {k : List It} {σs : Heap} {ρq : Env} {fuel : Nat} {listed : List Bool} {s : St} (i : Nat) (order : List (Nat × Bool)) (e : Bool) {o : Oper} {f : FuncId} {cargs gs : List GV} {G : GV} (hp : cx.pg.Ok) (hsel : Region.noSelect ops.toArray=true) (hT : ∀ ch s,¬ T (.panic ch) s) (hr : Rt cx.pg f cargs G) (hi : ops[i]?=some o) (hk : callG cx.pg ops s.ρ o=some (f,gs)) (hl : lents (s.σ++σs) gs cargs) (hfree : roFree G=true)
  (hB : (eqB (Region.ready .any ops.toArray listed.toArray) [i] && ordB ops e order (listed.set i true))=true)
  (h : dputV cx.N s.ρ o.dst G fun ρ'=>nfE (qput ρq o.dst G) fun ρq=>rvc cx T ops k σs e order fuel (listed.set i true) ρq ⟨ρ',s.σ,s.n⟩) : RA cx T ops k σs ρq (fuel + 1) listed s:=by
 obtain ⟨fo,args,ts,first,caps,gs',ho',hgd,hf,he,hargs⟩:=callG_spec hk
 simp only [Bool.and_eq_true] at hB
 refine RA.only_of i hi (eqB_eq hB.1) hgd fun m0 H0 S0 w0 h0 g0 H a w K Q' hg hs ha hsat hK=>?_
 refine call_wpB (cx:=⟨cx.pg,cx.N,m0,H0,S0,w0,h0,g0⟩) hr.ct hr.call ho' hf he (σ0:=s.σ++σs) (by rw [hargs]; exact hl) (fun g σ' n' hq=>?_) hg hs hsat ha.env fun u g w' σ' n' hiu hq hsim=>?_
 ·obtain ⟨⟨rfl,h1⟩,_,_⟩:=hq
  simp [h1,hfree]
 ·obtain ⟨⟨rfl,_⟩,_,_⟩:=hq
  simp only [nfE_eq] at h
  rw [dputV_eq] at h
  have hlt:=dput_lt h
  obtain ⟨ρ',ha',hra⟩:=ha.dput hiu h
  exact hK H u g w' s ρ' (Hid.le.refl H) hiu (hsim.ρ ρ') ha' hlt (RA.run hp hsel hT order hB.2 hra)
end
end Go.GK
/-
  The program of this seat, and its types, as the ghost machine takes them.
-/
namespace Go.Proofs.YtkoalgjlkcaonaaGreatDoor
open Go.GK
def tyTab : TT:=[
 (1,⟨1,8,false,[.nilFunc],.other,none⟩),
 (2,⟨1,8,false,[.int .i64 0],.int .i64,none⟩),
 (3,⟨1,8,false,[.int .i64 0],.int .i64,none⟩),
 (4,⟨1,1,false,[.bool false],.bool,none⟩),
 (5,⟨1,1,false,[.int .u8 0],.int .u8,none⟩),
 (6,⟨1,1,false,[.int .u8 0],.int .u8,none⟩),
 (9,⟨1,16,false,[.string .empty],.str,none⟩),
 (12,⟨1,8,false,[.int .u64 0],.int .u64,none⟩),
 (13,⟨2,24,true,[.string .empty,.int .u64 0],.struct [(0,1,false),(1,1,false)],none⟩),
 (20,⟨1,16,false,[.nilIface],.iface false,none⟩),
 (21,⟨1,4,false,[.int .i32 0],.int .i32,none⟩),
 (22,⟨1,24,false,[.slice none 0 0],.slice 31,none⟩),
 (23,⟨1,8,false,[.nilFunc],.other,none⟩),
 (24,⟨1,8,false,[.nilFunc],.other,none⟩),
 (25,⟨1,8,false,[.nilFunc],.other,none⟩),
 (26,⟨3,40,true,[.int .i64 0,.int .i64 0,.slice none 0 0],.struct [(0,1,false),(1,1,false),(2,1,false)],none⟩),
 (27,⟨3,40,true,[.int .i64 0,.int .i64 0,.slice none 0 0],.struct [(0,1,false),(1,1,false),(2,1,false)],none⟩),
 (28,⟨1,24,false,[.slice none 0 0],.slice 95,none⟩),
 (29,⟨1,24,false,[.slice none 0 0],.slice 33,none⟩),
 (30,⟨2,48,true,[.slice none 0 0,.slice none 0 0],.struct [(0,1,false),(1,1,false)],none⟩),
 (31,⟨2,48,true,[.slice none 0 0,.slice none 0 0],.struct [(0,1,false),(1,1,false)],none⟩),
 (32,⟨2,16,true,[.int .i64 0,.int .i64 0],.struct [(0,1,false),(1,1,false)],none⟩),
 (33,⟨2,16,true,[.int .i64 0,.int .i64 0],.struct [(0,1,false),(1,1,false)],some [.int,.int]⟩),
 (34,⟨1,24,false,[.slice none 0 0],.slice 47,none⟩),
 (36,⟨1,8,false,[.nilFunc],.other,none⟩),
 (37,⟨1,8,false,[.nilFunc],.other,none⟩),
 (38,⟨1,8,false,[.nilFunc],.other,none⟩),
 (39,⟨1,8,false,[.nilFunc],.other,none⟩),
 (40,⟨1,24,false,[.slice none 0 0],.slice 116,none⟩),
 (41,⟨1,16,false,[.nilIface],.iface true,none⟩),
 (42,⟨1,16,false,[.nilIface],.iface true,none⟩),
 (44,⟨1,8,false,[.nilFunc],.other,none⟩),
 (45,⟨3,48,true,[.string .empty,.string .empty,.string .empty],.array 3 9,none⟩),
 (46,⟨2,32,true,[.slice none 0 0,.int .i64 0],.struct [(0,1,false),(1,1,false)],none⟩),
 (47,⟨2,32,true,[.slice none 0 0,.int .i64 0],.struct [(0,1,false),(1,1,false)],none⟩),
 (48,⟨1,8,false,[.nilFunc],.other,none⟩),
 (49,⟨1,8,false,[.nilFunc],.other,none⟩),
 (50,⟨3,40,true,[.int .i64 0,.int .i64 0,.slice none 0 0],.struct [(0,1,false),(1,1,false),(2,1,false)],none⟩),
 (51,⟨3,40,true,[.int .i64 0,.int .i64 0,.slice none 0 0],.struct [(0,1,false),(1,1,false),(2,1,false)],none⟩),
 (52,⟨1,8,false,[.pointer none],.ptr,none⟩),
 (53,⟨1,8,false,[.int .i64 0],.int .i64,none⟩),
 (54,⟨2,16,true,[.int .i64 0,.int .i64 0],.struct [(0,1,false),(1,1,false)],none⟩),
 (55,⟨2,16,true,[.int .i64 0,.int .i64 0],.struct [(0,1,false),(1,1,false)],some [.int,.int]⟩),
 (57,⟨1,8,false,[.nilFunc],.other,none⟩),
 (59,⟨1,8,false,[.nilFunc],.other,none⟩),
 (60,⟨1,8,false,[.nilFunc],.other,none⟩),
 (61,⟨1,8,false,[.nilFunc],.other,none⟩),
 (62,⟨2,32,true,[.slice none 0 0,.bool false],.struct [(0,1,false),(1,1,false)],none⟩),
 (63,⟨2,32,true,[.slice none 0 0,.bool false],.struct [(0,1,false),(1,1,false)],none⟩),
 (65,⟨1,8,false,[.nilFunc],.other,none⟩),
 (66,⟨1,8,false,[.nilFunc],.other,none⟩),
 (67,⟨1,8,false,[.nilFunc],.other,none⟩),
 (68,⟨1,8,false,[.nilFunc],.other,none⟩),
 (70,⟨1,8,false,[.nilFunc],.other,none⟩),
 (71,⟨1,8,false,[.nilFunc],.other,none⟩),
 (72,⟨1,24,false,[.slice none 0 0],.slice 9,none⟩),
 (73,⟨7,88,true,[.int .i64 0,.int .i64 0,.slice none 0 0,.int .i64 0,.slice none 0 0,.pointer none,.pointer none],.struct [(0,1,false),(1,1,false),(2,1,false),(3,1,false),(4,1,false),(5,1,false),(6,1,false)],none⟩),
 (74,⟨7,88,true,[.int .i64 0,.int .i64 0,.slice none 0 0,.int .i64 0,.slice none 0 0,.pointer none,.pointer none],.struct [(0,1,false),(1,1,false),(2,1,false),(3,1,false),(4,1,false),(5,1,false),(6,1,false)],none⟩),
 (75,⟨1,8,false,[.nilFunc],.other,none⟩),
 (76,⟨1,8,false,[.nilFunc],.other,none⟩),
 (77,⟨1,8,false,[.nilFunc],.other,none⟩),
 (78,⟨1,8,false,[.nilFunc],.other,none⟩),
 (79,⟨1,8,false,[.nilFunc],.other,none⟩),
 (80,⟨1,8,false,[.nilFunc],.other,none⟩),
 (81,⟨1,24,false,[.slice none 0 0],.slice 90,none⟩),
 (83,⟨1,8,false,[.nilFunc],.other,none⟩),
 (84,⟨1,8,false,[.nilFunc],.other,none⟩),
 (85,⟨1,8,false,[.pointer none],.ptr,none⟩),
 (86,⟨1,24,true,[.slice none 0 0],.struct [(0,1,false)],none⟩),
 (87,⟨1,24,true,[.slice none 0 0],.struct [(0,1,false)],none⟩),
 (88,⟨1,8,false,[.nilFunc],.other,none⟩),
 (89,⟨3,32,true,[.int .i64 0,.string .empty,.int .i64 0],.struct [(0,1,false),(1,1,false),(2,1,false)],none⟩),
 (90,⟨3,32,true,[.int .i64 0,.string .empty,.int .i64 0],.struct [(0,1,false),(1,1,false),(2,1,false)],some [.int,.str,.int]⟩),
 (91,⟨1,8,false,[.nilFunc],.other,none⟩),
 (92,⟨1,8,false,[.nilFunc],.other,none⟩),
 (93,⟨1,8,false,[.nilFunc],.other,none⟩),
 (94,⟨2,32,true,[.string .empty,.string .empty],.struct [(0,1,false),(1,1,false)],none⟩),
 (95,⟨2,32,true,[.string .empty,.string .empty],.struct [(0,1,false),(1,1,false)],some [.str,.str]⟩),
 (96,⟨1,8,false,[.nilFunc],.other,none⟩),
 (97,⟨1,24,false,[.slice none 0 0],.slice 105,none⟩),
 (99,⟨1,8,false,[.nilFunc],.other,none⟩),
 (100,⟨1,8,false,[.pointer none],.ptr,none⟩),
 (101,⟨3,40,true,[.slice none 0 0,.int .i64 0,.int .i64 0],.struct [(0,1,false),(1,2,true)],none⟩),
 (102,⟨3,40,true,[.slice none 0 0,.int .i64 0,.int .i64 0],.struct [(0,1,false),(1,2,true)],none⟩),
 (103,⟨1,8,false,[.nilFunc],.other,none⟩),
 (104,⟨3,32,true,[.int .i64 0,.string .empty,.int .i64 0],.struct [(0,1,false),(1,1,false),(2,1,false)],none⟩),
 (105,⟨3,32,true,[.int .i64 0,.string .empty,.int .i64 0],.struct [(0,1,false),(1,1,false),(2,1,false)],some [.int,.str,.int]⟩),
 (106,⟨1,8,false,[.nilFunc],.other,none⟩),
 (108,⟨1,8,false,[.nilFunc],.other,none⟩),
 (109,⟨1,8,false,[.nilFunc],.other,none⟩),
 (110,⟨1,8,false,[.nilFunc],.other,none⟩),
 (111,⟨1,8,false,[.nilFunc],.other,none⟩),
 (112,⟨1,8,false,[.nilFunc],.other,none⟩),
 (114,⟨1,8,false,[.nilFunc],.other,none⟩),
 (115,⟨3,40,true,[.string .empty,.int .i64 0,.string .empty],.struct [(0,1,false),(1,1,false),(2,1,false)],none⟩),
 (116,⟨3,40,true,[.string .empty,.int .i64 0,.string .empty],.struct [(0,1,false),(1,1,false),(2,1,false)],some [.str,.int,.str]⟩),
 (117,⟨1,8,false,[.nilFunc],.other,none⟩),
 (118,⟨4,4,true,[.bool false,.bool false,.bool false,.bool false],.array 4 4,none⟩),
 (119,⟨2,32,true,[.slice none 0 0,.bool false],.struct [(0,1,false),(1,1,false)],none⟩),
 (120,⟨2,32,true,[.slice none 0 0,.bool false],.struct [(0,1,false),(1,1,false)],none⟩),
 (122,⟨1,8,false,[.nilFunc],.other,none⟩),
 (123,⟨1,8,false,[.nilFunc],.other,none⟩),
 (124,⟨1,8,false,[.nilFunc],.other,none⟩),
 (125,⟨1,8,false,[.nilFunc],.other,none⟩),
 (126,⟨1,8,false,[.nilFunc],.other,none⟩),
 (127,⟨15,240,true,[.string .empty,.string .empty,.string .empty,.string .empty,.string .empty,.string .empty,.string .empty,.string .empty,.string .empty,.string .empty,.string .empty,.string .empty,.string .empty,.string .empty,.string .empty],.array 15 9,none⟩),
 (128,⟨1,8,false,[.nilFunc],.other,none⟩),
 (129,⟨1,8,false,[.pointer none],.ptr,none⟩),
 (130,⟨2,16,true,[.int .i64 0,.int .i64 0],.struct [(0,1,false),(1,1,false)],some [.int,.int]⟩),
 (131,⟨1,16,true,[.nilIface],.struct [(0,1,false)],none⟩),
 (132,⟨1,16,true,[.nilIface],.struct [(0,1,false)],none⟩),
 (134,⟨1,8,false,[.nilFunc],.other,none⟩),
 (135,⟨1,8,false,[.nilFunc],.other,none⟩),
 (136,⟨1,8,false,[.nilFunc],.other,none⟩),
 (137,⟨4,64,true,[.string .empty,.string .empty,.string .empty,.string .empty],.array 4 9,none⟩),
 (138,⟨1,8,false,[.nilFunc],.other,none⟩),
 (139,⟨1,8,false,[.nilFunc],.other,none⟩),
 (140,⟨1,24,false,[.slice none 0 0],.slice 3,none⟩),
 (141,⟨1,8,false,[.nilFunc],.other,none⟩),
 (142,⟨1,8,false,[.nilFunc],.other,none⟩),
 (143,⟨1,8,false,[.nilFunc],.other,none⟩),
 (144,⟨1,8,false,[.nilFunc],.other,none⟩),
 (145,⟨1,8,false,[.nilFunc],.other,none⟩),
 (147,⟨1,16,false,[.nilIface],.iface true,none⟩),
 (149,⟨1,8,false,[.nilFunc],.other,none⟩),
 (150,⟨1,8,false,[.nilFunc],.other,none⟩),
 (151,⟨1,8,false,[.nilFunc],.other,none⟩),
 (152,⟨1,8,false,[.nilFunc],.other,none⟩),
 (153,⟨1,8,false,[.int .u64 0],.int .u64,none⟩),
 (154,⟨1,8,false,[.nilFunc],.other,none⟩),
 (155,⟨1,8,false,[.nilFunc],.other,none⟩),
 (156,⟨1,8,false,[.nilFunc],.other,none⟩),
 (157,⟨1,8,false,[.nilFunc],.other,none⟩),
 (158,⟨1,8,false,[.nilFunc],.other,none⟩),
 (159,⟨1,8,false,[.nilFunc],.other,none⟩),
 (160,⟨1,8,false,[.nilFunc],.other,none⟩),
 (164,⟨1,8,false,[.nilFunc],.other,none⟩),
 (165,⟨1,8,false,[.nilFunc],.other,none⟩),
 (166,⟨1,8,false,[.pointer none],.ptr,none⟩),
 (167,⟨1,8,false,[.nilFunc],.other,none⟩),
 (168,⟨1,8,false,[.nilFunc],.other,none⟩),
 (169,⟨1,8,false,[.pointer none],.ptr,none⟩),
 (171,⟨1,8,false,[.int .u64 0],.int .u64,none⟩),
 (175,⟨1,8,false,[.nilFunc],.other,none⟩),
 (176,⟨1,8,false,[.nilFunc],.other,none⟩),
 (177,⟨1,8,false,[.nilFunc],.other,none⟩),
 (178,⟨2,16,true,[.nilFunc,.nilFunc],.struct [(0,1,false),(1,1,false)],none⟩),
 (179,⟨2,16,true,[.nilFunc,.nilFunc],.struct [(0,1,false),(1,1,false)],none⟩),
 (180,⟨1,8,false,[.nilFunc],.other,none⟩),
 (182,⟨1,8,false,[.nilFunc],.other,none⟩),
 (184,⟨1,8,false,[.nilFunc],.other,none⟩),
 (185,⟨1,8,false,[.nilFunc],.other,none⟩),
 (186,⟨1,8,false,[.nilFunc],.other,none⟩),
 (187,⟨1,8,false,[.nilFunc],.other,none⟩),
 (188,⟨1,8,false,[.nilFunc],.other,none⟩),
 (190,⟨1,8,false,[.nilFunc],.other,none⟩),
 (191,⟨1,8,false,[.nilFunc],.other,none⟩),
 (192,⟨5,80,true,[.string .empty,.string .empty,.string .empty,.string .empty,.string .empty],.array 5 9,none⟩),
 (196,⟨1,1,false,[.int .u8 0],.int .u8,none⟩),
 (203,⟨1,8,false,[.nilFunc],.other,none⟩),
 (204,⟨1,8,false,[.nilFunc],.other,none⟩),
 (205,⟨1,8,false,[.nilFunc],.other,none⟩),
 (206,⟨1,8,false,[.int .u64 0],.int .u64,none⟩),
 (207,⟨1,8,false,[.nilFunc],.other,none⟩),
 (208,⟨1,8,false,[.nilFunc],.other,none⟩),
 (210,⟨1,8,false,[.nilFunc],.other,none⟩),
 (214,⟨1,16,false,[.nilIface],.iface true,none⟩),
 (216,⟨1,8,false,[.nilFunc],.other,none⟩),
 (217,⟨1,16,false,[.nilIface],.iface true,none⟩),
 (218,⟨1,24,false,[.slice none 0 0],.slice 42,none⟩),
 (219,⟨1,8,false,[.nilFunc],.other,none⟩),
 (220,⟨1,8,false,[.nilFunc],.other,none⟩),
 (222,⟨2,2,true,[.int .u8 0,.int .u8 0],.struct [(0,1,false),(1,1,false)],none⟩),
 (223,⟨2,2,true,[.int .u8 0,.int .u8 0],.struct [(0,1,false),(1,1,false)],some [.int,.int]⟩),
 (224,⟨32,32,true,[.int .u8 0,.int .u8 0,.int .u8 0,.int .u8 0,.int .u8 0,.int .u8 0,.int .u8 0,.int .u8 0,.int .u8 0,.int .u8 0,.int .u8 0,.int .u8 0,.int .u8 0,.int .u8 0,.int .u8 0,.int .u8 0,.int .u8 0,.int .u8 0,.int .u8 0,.int .u8 0,.int .u8 0,.int .u8 0,.int .u8 0,.int .u8 0,.int .u8 0,.int .u8 0,.int .u8 0,.int .u8 0,.int .u8 0,.int .u8 0,.int .u8 0,.int .u8 0],.array 16 223,none⟩),
 (225,⟨1,8,false,[.nilFunc],.other,none⟩),
 (226,⟨1,8,false,[.nilFunc],.other,none⟩),
 (227,⟨1,8,false,[.nilFunc],.other,none⟩),
 (228,⟨1,8,false,[.nilFunc],.other,none⟩),
 (229,⟨1,8,false,[.int .i64 0],.int .i64,none⟩),
 (231,⟨1,8,false,[.nilFunc],.other,none⟩),
 (232,⟨1,8,false,[.pointer none],.ptr,none⟩),
 (233,⟨1,8,false,[.nilFunc],.other,none⟩),
 (234,⟨1,8,false,[.nilFunc],.other,none⟩),
 (235,⟨1,8,false,[.nilFunc],.other,none⟩),
 (236,⟨1,24,false,[.slice none 0 0],.slice 5,none⟩),
 (237,⟨1,8,false,[.nilFunc],.other,none⟩),
 (238,⟨3,48,true,[.string .empty,.string .empty,.nilIface],.struct [(0,1,false),(1,1,false),(2,1,false)],none⟩),
 (239,⟨3,48,true,[.string .empty,.string .empty,.nilIface],.struct [(0,1,false),(1,1,false),(2,1,false)],none⟩),
 (240,⟨1,8,false,[.nilFunc],.other,none⟩),
 (241,⟨1,8,false,[.pointer none],.ptr,none⟩),
 (242,⟨1,8,false,[.pointer none],.ptr,none⟩),
 (243,⟨1,16,true,[.string .empty],.struct [(0,1,false)],none⟩),
 (244,⟨1,16,true,[.string .empty],.struct [(0,1,false)],some [.str]⟩),
 (245,⟨1,8,false,[.nilFunc],.other,none⟩),
 (246,⟨24,24,true,[.int .u8 0,.int .u8 0,.int .u8 0,.int .u8 0,.int .u8 0,.int .u8 0,.int .u8 0,.int .u8 0,.int .u8 0,.int .u8 0,.int .u8 0,.int .u8 0,.int .u8 0,.int .u8 0,.int .u8 0,.int .u8 0,.int .u8 0,.int .u8 0,.int .u8 0,.int .u8 0,.int .u8 0,.int .u8 0,.int .u8 0,.int .u8 0],.array 24 5,none⟩),
 (247,⟨1,8,false,[.nilFunc],.other,none⟩),
 (248,⟨1,8,false,[.nilFunc],.other,none⟩),
 (250,⟨1,8,false,[.nilFunc],.other,none⟩),
 (251,⟨1,8,false,[.nilFunc],.other,none⟩),
 (252,⟨20,160,true,[.int .u64 0,.int .u64 0,.int .u64 0,.int .u64 0,.int .u64 0,.int .u64 0,.int .u64 0,.int .u64 0,.int .u64 0,.int .u64 0,.int .u64 0,.int .u64 0,.int .u64 0,.int .u64 0,.int .u64 0,.int .u64 0,.int .u64 0,.int .u64 0,.int .u64 0,.int .u64 0],.array 20 153,none⟩),
 (253,⟨1,4,false,[.int .u32 0],.int .u32,none⟩),
 (255,⟨1,8,false,[.nilFunc],.other,none⟩),
 (256,⟨1,8,false,[.nilFunc],.other,none⟩),
 (257,⟨32,32,true,[.int .u8 0,.int .u8 0,.int .u8 0,.int .u8 0,.int .u8 0,.int .u8 0,.int .u8 0,.int .u8 0,.int .u8 0,.int .u8 0,.int .u8 0,.int .u8 0,.int .u8 0,.int .u8 0,.int .u8 0,.int .u8 0,.int .u8 0,.int .u8 0,.int .u8 0,.int .u8 0,.int .u8 0,.int .u8 0,.int .u8 0,.int .u8 0,.int .u8 0,.int .u8 0,.int .u8 0,.int .u8 0,.int .u8 0,.int .u8 0,.int .u8 0,.int .u8 0],.array 32 5,none⟩),
 (265,⟨1,1,false,[.int .u8 0],.int .u8,none⟩),
 (267,⟨1,4,false,[.int .i32 0],.int .i32,none⟩),
 (268,⟨1,4,false,[.int .i32 0],.int .i32,none⟩),
 (271,⟨1,8,false,[.nilFunc],.other,none⟩),
 (277,⟨1,2,false,[.int .u16 0],.int .u16,none⟩),
 (281,⟨1,4,false,[.int .i32 0],.int .i32,none⟩),
 (284,⟨1,8,false,[.pointer none],.ptr,none⟩)]


def gl : Env:=[(0,.r [.v (.int .i64 0),.v (.int .i64 (-1))]),(1,.r [.v (.string ⟨#[33,61]⟩),.v (.string ⟨#[94,61]⟩),.v (.string ⟨#[33,94]⟩),.v (.string ⟨#[61]⟩),.v (.string ⟨#[123]⟩),.v (.string ⟨#[125]⟩),.v (.string ⟨#[91]⟩),.v (.string ⟨#[93]⟩),.v (.string ⟨#[40]⟩),.v (.string ⟨#[41]⟩),.v (.string ⟨#[44]⟩),.v (.string ⟨#[43]⟩),.v (.string ⟨#[45]⟩),.v (.string ⟨#[42]⟩),.v (.string ⟨#[47]⟩)]),(2,.r [.v (.string ⟨#[61]⟩),.v (.string ⟨#[33,61]⟩),.v (.string ⟨#[94,61]⟩),.v (.string ⟨#[33,94]⟩)]),(4,.r [.v (.string ⟨#[99,111,117,110,116]⟩),.v (.string ⟨#[115,117,109]⟩),.v (.string ⟨#[109,105,110]⟩),.v (.string ⟨#[109,97,120]⟩),.v (.string ⟨#[100,101,108,116,97]⟩)]),(5,.r [.v (.string ⟨#[116,111,116,97,108]⟩),.v (.string ⟨#[108,101,97,115,116]⟩),.v (.string ⟨#[109,111,115,116]⟩),.v (.string ⟨#[109,97,110,121]⟩)]),(10,.r [.ifc 242 (.r [.v (.string ⟨#[118,97,108,117,101,32,111,117,116,32,111,102,32,114,97,110,103,101]⟩)])]),(9,.r [.ifc 242 (.r [.v (.string ⟨#[105,110,118,97,108,105,100,32,115,121,110,116,97,120]⟩)])]),(11,.r [.v (.int .u64 1),.v (.int .u64 10),.v (.int .u64 100),.v (.int .u64 1000),.v (.int .u64 10000),.v (.int .u64 100000),.v (.int .u64 1000000),.v (.int .u64 10000000),.v (.int .u64 100000000),.v (.int .u64 1000000000),.v (.int .u64 10000000000),.v (.int .u64 100000000000),.v (.int .u64 1000000000000),.v (.int .u64 10000000000000),.v (.int .u64 100000000000000),.v (.int .u64 1000000000000000),.v (.int .u64 10000000000000000),.v (.int .u64 100000000000000000),.v (.int .u64 1000000000000000000),.v (.int .u64 10000000000000000000)]),(6,.r [.v (.iface 201 (.agg #[.pointer (some ⟨14,42,none⟩)]))])]
noncomputable def pg : Pg:=⟨Tryz.prog,tyTab,gl⟩
theorem pg_ok : pg.Ok:=Pg.ok_of (by kernel_rfl) (by kernel_rfl)
abbrev gi (x : Int) : GV:=.v (.int .i64 x)
theorem wrap_id {x : Int} (h : -9223372036854775808≤x) (h' : x≤9223372036854775807) : IntKind.i64.wrap x=x:=by rw [IntKind.wrap_i64]; omega
theorem succ_gi {i : Nat} (h : i < 9223372036854775807) : some (gi (IntKind.i64.wrap (i + 1 : Int)))=some (gi ((i + 1 : Nat) : Int)):=by
 rw [wrap_id (by omega) (by omega)]
 rfl
theorem tail_map {α : Type} (z : Nat) (f : α→List GV) (y : α) (l : List α) : some (GV.sl z ((((y :: l).map f).take (((y :: l).map f).length : Int).toNat).drop (1 : Int).toNat))=some (GV.sl z (l.map f)):=by
 simp only [Int.toNat_natCast,List.take_length]
 rfl
theorem idx {α : Type} {f : α→List GV} {l : List α} {i : Int} {K : List GV→Prop} (k : Nat) (hi : i=k) (hk : k < l.length) (h : K (f l[k])) : ∃ row,0≤i∧(l.map f)[i.toNat]?=some row∧K row:=by
 subst hi
 exact ⟨f l[k],by omega,by simp [hk],h⟩
theorem ons_mk {x : Option GV} {g : GV} {K : GV→Prop} (h : x=some g) (k : K g) : ons x K:=by subst h; exact k
abbrev gs (s : ByteArray) : GV:=.v (.string s)
def rr (a b : Nat) : Nat→Nat:=fun i=>bif Nat.beq i 0 then a else b
theorem rr_lt {a b n : Nat} (ha : Nat.blt a n=true) (hb : Nat.blt b n=true) : ∀ i,i < 2→rr a b i < n:=fun i _=>by
 rw [Nat.blt_eq] at ha hb
 unfold rr
 cases Nat.beq i 0 <;> assumption
def r1 (a b : Nat) : Nat→Nat:=fun i=>bif Nat.beq i a then b else i
theorem pos {c : Bool} {A B : Prop} (h : c=true) (k : A) : (c=true→A)∧(c=false→B):=⟨fun _=>k,fun e=>absurd (h.symm.trans e) (by decide)⟩
theorem neg {c : Bool} {A B : Prop} (h : c=false) (k : B) : (c=true→A)∧(c=false→B):=⟨fun e=>absurd (h.symm.trans e) (by decide),fun _=>k⟩
theorem pos' {c : Bool} {A B : Prop} (h : c=true) (k : B) : (c=false→A)∧(c=true→B):=⟨fun e=>absurd (h.symm.trans e) (by decide),fun _=>k⟩
theorem neg' {c : Bool} {A B : Prop} (h : c=false) (k : A) : (c=false→A)∧(c=true→B):=⟨fun _=>k,fun e=>absurd (h.symm.trans e) (by decide)⟩
theorem tf (c : Bool) : c=true∨c=false:=by cases c <;> simp
theorem p1 {c : Bool} {A B : Prop} (k : A) (h : c=true:=by first | with_reducible rfl | with_reducible assumption | rfl | exact decide_eq_true (by omega) | (simp; omega)) : (c=true→A)∧(c=false→B):=pos h k
theorem p2 {c : Bool} {A B : Prop} (k : B) (h : c=false:=by first | with_reducible rfl | with_reducible assumption | rfl | exact decide_eq_false (by omega) | (simp; omega)) : (c=true→A)∧(c=false→B):=neg h k
theorem p3 {c : Bool} {A B : Prop} (k : B) (h : c=true:=by first | with_reducible rfl | with_reducible assumption | rfl | exact decide_eq_true (by omega) | (simp; omega)) : (c=false→A)∧(c=true→B):=pos' h k
theorem p4 {c : Bool} {A B : Prop} (k : A) (h : c=false:=by first | with_reducible rfl | with_reducible assumption | rfl | exact decide_eq_false (by omega) | (simp; omega)) : (c=false→A)∧(c=true→B):=neg' h k
theorem ix {α : Type} {f : α→List GV} {l : List α} {i : Nat} {K : List GV→Prop} (hk : i < l.length:=by omega) (h : K (f (l[i]'hk))) : ∃ row,0≤(i : Int)∧(l.map f)[((i : Nat) : Int).toNat]?=some row∧K row:=⟨f l[i],by omega,by simp [hk],h⟩
theorem sx {s : ByteArray} {i : Nat} {K : UInt8→Prop} (hk : i < s.size:=by omega) (h : K (s[i]'hk)) : ∃ b,0≤(i : Int)∧s[((i : Nat) : Int).toNat]?=some b∧K b:=⟨s[i],by omega,by rw [Int.toNat_natCast]; exact getElem?_pos s i hk,h⟩

section
variable {N n0 : Nat} {H0 : Hid} {S0 : List Nat} {w0 : World} {h0 : H0.n=n0} {g0 : GlOk pg H0} {T : Post} {k : List It} {s : St}
theorem V (h : vc ⟨pg,N,n0,H0,S0,w0,h0,g0⟩ T 400 k s) : JK ⟨pg,N,n0,H0,S0,w0,h0,g0⟩ T k s:=vc_sound pg_ok 400 k s h
theorem GO {all : List Oper} {o : Oper} {rest : List Oper} {f : FuncId} {cargs : List GV} {G : GV} (hr : Rt pg f cargs G) (hk : callG pg all s.ρ o=some (f,cargs))
  (h : dputV N s.ρ o.dst G fun ρ'=>vc ⟨pg,N,n0,H0,S0,w0,h0,g0⟩ T 400 (.ops false all rest :: k) ⟨ρ',s.σ,s.n⟩) (hb : idbL 0 cargs=true:=by rfl) : JK ⟨pg,N,n0,H0,S0,w0,h0,g0⟩ T (.ops false all (o :: rest) :: k) s:=JK.go pg_ok hr hk hb h
theorem GOQ {all : List Oper} {o : Oper} {rest : List Oper} {f : FuncId} {cargs : List GV} {Q : GV→Prop} (hr : Rq pg f cargs Q) (hk : callG pg all s.ρ o=some (f,cargs))
  (h : ∀ g,Q g→dputV N s.ρ o.dst g fun ρ'=>vc ⟨pg,N,n0,H0,S0,w0,h0,g0⟩ T 400 (.ops false all rest :: k) ⟨ρ',s.σ,s.n⟩) (hb : idbL 0 cargs=true:=by rfl) : JK ⟨pg,N,n0,H0,S0,w0,h0,g0⟩ T (.ops false all (o :: rest) :: k) s:=JK.goQ pg_ok hr hk hb h
theorem GOB {all : List Oper} {o : Oper} {rest : List Oper} {f : FuncId} {cargs gs : List GV} {G : GV} (hr : Rt pg f cargs G) (hk : callG pg all s.ρ o=some (f,gs)) (hl : lents s.σ gs cargs)
  (h : dputV N s.ρ o.dst G fun ρ'=>vc ⟨pg,N,n0,H0,S0,w0,h0,g0⟩ T 400 (.ops false all rest :: k) ⟨ρ',s.σ,s.n⟩) (hf : roFree G=true:=by rfl) : JK ⟨pg,N,n0,H0,S0,w0,h0,g0⟩ T (.ops false all (o :: rest) :: k) s:=JK.goB pg_ok hr hk hl hf h
theorem GOH {all : List Oper} {o : Oper} {rest : List Oper} {f : FuncId} {m : Nat} {cargs gs : List GV} {σc : Heap} {Q : GV→Heap→Nat→Prop} (hr : Hf pg f m cargs σc Q) (r : Nat→Nat) (hk : callG pg all s.ρ o=some (f,gs)) (hargs : gs=renL r cargs) (hσ : leσ r σc s.σ)
  (chk : (idbL m cargs && idbH m σc && distB (hids r σc))=true) (hrn : ∀ i,i < m→r i < s.n)
  (h : ∀ g σ' n',Q g σ' n'→nf (ren (sh r m s.n) g) fun g=>nfH (renH (sh r m s.n) σ'++hrest (hids r σc) s.σ) fun σ=>nfN (s.n + (n' - m)) fun n=>dput N s.ρ o.dst g fun ρ'=>vc ⟨pg,N,n0,H0,S0,w0,h0,g0⟩ T 400 (.ops false all rest :: k) ⟨ρ',σ,n⟩) :
  JK ⟨pg,N,n0,H0,S0,w0,h0,g0⟩ T (.ops false all (o :: rest) :: k) s:=JK.goH pg_ok hr r hk hargs hσ chk hrn h
theorem FZB (id : Nat) {ty : Nat} {cs0 : List GV} (hl : hlook s.σ id=some (.blk ty cs0)) (hb0 : idbL 0 cs0=true) (h : nfH (fzbH id cs0 (hdel s.σ id)) fun σ=>nfE (fzbE id cs0 s.ρ) fun ρ=>vc ⟨pg,N,n0,H0,S0,w0,h0,g0⟩ T 400 k ⟨ρ,σ,s.n⟩) : JK ⟨pg,N,n0,H0,S0,w0,h0,g0⟩ T k s:=by
 rw [nfH_eq,nfE_eq] at h
 refine JK.freezeB id hl hb0 ?_
 rw [nfH_eq]
 exact V h
theorem FRZ (id : Nat) {ty sz : Nat} {rows : List (List GV)} (hl : hlook s.σ id=some (.row ty sz rows)) (h : nfH (frzH id sz rows (hdel s.σ id)) fun σ=>nfE (frzE id sz rows s.ρ) fun ρ=>vc ⟨pg,N,n0,H0,S0,w0,h0,g0⟩ T 400 k ⟨ρ,σ,s.n⟩) : JK ⟨pg,N,n0,H0,S0,w0,h0,g0⟩ T k s:=by
 rw [nfH_eq,nfE_eq] at h
 refine JK.freeze id hl ?_
 rw [nfH_eq]
 exact V h
theorem DRAW {id : Nat} {ops : Array Oper} (M : List Nat) (e : Bool) (order : List (Nat × Bool)) (hB : (Region.noSelect ops && ordB ops.toList e order (List.replicate ops.toList.length false))=true)
  (h : rvc ⟨pg,N,n0,H0,S0,w0,h0,g0⟩ T ops.toList k (hrest M s.σ++lns (hsel M s.σ)) e order ops.toList.length (List.replicate ops.toList.length false) s.ρ ⟨s.ρ,hsel M s.σ,s.n⟩) (hT : ∀ ch s,¬ T (.panic ch) s:=by intro _ _ h; exact h) : JK ⟨pg,N,n0,H0,S0,w0,h0,g0⟩ T (.code (.region id ops true) :: k) s:=by
 simp only [Bool.and_eq_true] at hB
 exact JK.draw M pg_ok (RA.run pg_ok hB.1 hT order hB.2 h)
theorem RGO {ops : List Oper} {σs : Heap} {ρq : Env} {fuel : Nat} {listed : List Bool} (i : Nat) (e : Bool) (order : List (Nat × Bool)) {o : Oper} {f : FuncId} {cargs : List GV} {G : GV} (hr : Rt pg f cargs G) (hi : ops[i]?=some o) (hk : callG pg ops s.ρ o=some (f,cargs))
  (hB : (Region.noSelect ops.toArray && eqB (Region.ready .any ops.toArray listed.toArray) [i] && ordB ops e order (listed.set i true))=true)
  (h : dputV N s.ρ o.dst G fun ρ'=>nfE (qput ρq o.dst G) fun ρq=>rvc ⟨pg,N,n0,H0,S0,w0,h0,g0⟩ T ops k σs e order fuel (listed.set i true) ρq ⟨ρ',s.σ,s.n⟩) (hb : idbL 0 cargs=true:=by rfl) (hT : ∀ ch s,¬ T (.panic ch) s:=by intro _ _ h; exact h) : RA ⟨pg,N,n0,H0,S0,w0,h0,g0⟩ T ops k σs ρq (fuel + 1) listed s:=by
 simp only [Bool.and_eq_true] at hB
 exact RA.goA i order e pg_ok hB.1.1 hT hr hi hk hb (by simp only [hB.1.2,hB.2,Bool.and_self]) h
theorem RGOB {ops : List Oper} {σs : Heap} {ρq : Env} {fuel : Nat} {listed : List Bool} (i : Nat) (e : Bool) (order : List (Nat × Bool)) {o : Oper} {f : FuncId} {cargs gs : List GV} {G : GV} (hr : Rt pg f cargs G) (hi : ops[i]?=some o) (hk : callG pg ops s.ρ o=some (f,gs)) (hl : lents (s.σ++σs) gs cargs)
  (hB : (Region.noSelect ops.toArray && eqB (Region.ready .any ops.toArray listed.toArray) [i] && ordB ops e order (listed.set i true))=true)
  (h : dputV N s.ρ o.dst G fun ρ'=>nfE (qput ρq o.dst G) fun ρq=>rvc ⟨pg,N,n0,H0,S0,w0,h0,g0⟩ T ops k σs e order fuel (listed.set i true) ρq ⟨ρ',s.σ,s.n⟩) (hfree : roFree G=true:=by rfl) (hT : ∀ ch s,¬ T (.panic ch) s:=by intro _ _ h; exact h) : RA ⟨pg,N,n0,H0,S0,w0,h0,g0⟩ T ops k σs ρq (fuel + 1) listed s:=by
 simp only [Bool.and_eq_true] at hB
 exact RA.goB i order e pg_ok hB.1.1 hT hr hi hk hl hfree (by simp only [hB.1.2,hB.2,Bool.and_self]) h
theorem RSKIP {ops : List Oper} {σs : Heap} {ρq : Env} {fuel : Nat} {listed : List Bool} (i : Nat) (e : Bool) (order : List (Nat × Bool)) {o : Oper} (hi : ops[i]?=some o) (hgd : gdNo ops s.ρ o.guard=true)
  (hB : (Region.noSelect ops.toArray && eqB (Region.ready .any ops.toArray listed.toArray) [i] && ordB ops e order (listed.set i true))=true)
  (h : dputV N s.ρ o.dst (.v undef) fun ρ'=>nfE (eput ρq o.dst (.v undef)) fun ρq=>rvc ⟨pg,N,n0,H0,S0,w0,h0,g0⟩ T ops k σs e order fuel (listed.set i true) ρq ⟨ρ',s.σ,s.n⟩) (hT : ∀ ch s,¬ T (.panic ch) s:=by intro _ _ h; exact h) : RA ⟨pg,N,n0,H0,S0,w0,h0,g0⟩ T ops k σs ρq (fuel + 1) listed s:=by
 simp only [Bool.and_eq_true] at hB
 exact RA.skipA i order e pg_ok hB.1.1 hT hi hgd (by simp only [hB.1.2,hB.2,Bool.and_self]) h
end
theorem _root_.Go.GK.Rq.bt {f : FuncId} {args : List GV} {c : Bool} (h : Rt pg f args (.b c)) {d : Bool} (e : c=d) : Rt pg f args (.v (.bool d)) :=
 ⟨h.call,fun H us w hn hg hcs hs=>(h.ct H us w hn hg hcs hs).mono fun _ _ ⟨u,g,H',σ',e',hi,hs',hfr,⟨hv,_⟩,r⟩=>⟨u,.v (.bool d),H',σ',e',by subst hv; subst e; have:=hi.inv_b; subst this; exact .ro (.v _),hs',hfr,⟨rfl,rfl⟩,r⟩⟩
theorem _root_.Go.GK.Rq.old {f : FuncId} {args : List GV} {G : GV} (hc : ∀ a w,(callFunc f a).run pg.P w=.ok (.enter f a) w) (h : Ct pg f 0 args [] (Val fun g=>g=G)) (hi : idb 0 G=true:=by rfl) : Rt pg f args G :=
 ⟨hc,fun H us w hn hg hcs hs=>(h H us w hn hg hcs hs).mono fun _ _ ⟨u,g,H',σ',e',hi',hs',hfr,hv,r⟩=>⟨u,g,H',σ',e',hi',hs',hfr,⟨hv,by rw [hv]; exact hi⟩,r⟩⟩
theorem _root_.Go.GK.Rq.nl {f : FuncId} {pre suf : List GV} {z : Nat} {Q : GV→Prop} (h : Rq pg f (pre++.sl z [] :: suf) Q) : Rq pg f (pre++.v (.slice none 0 0) :: suf) Q :=
 ⟨h.call,fun H us w hn hg hcs hs=>h.ct H us w hn hg ⟨by rw [← hcs.1]; simp,fun j g hj=>by
  by_cases hjp : j=pre.length
  ·subst hjp
   rw [List.getElem?_append_right (Nat.le_refl _),Nat.sub_self] at hj
   cases hj
   have:=(hcs.2 pre.length (.v (.slice none 0 0)) (by rw [List.getElem?_append_right (Nat.le_refl _),Nat.sub_self]; rfl)).inv_v
   rw [this]
   exact .ro .slnil
  ·refine hcs.2 j g ?_
   by_cases hlt : j < pre.length
   ·rw [List.getElem?_append_left hlt] at hj ⊢; exact hj
   ·rw [List.getElem?_append_right (by omega)] at hj ⊢
    obtain ⟨k,hk⟩ : ∃ k,j - pre.length=k + 1:=⟨j - pre.length - 1,by omega⟩
    rw [hk] at hj ⊢; exact hj⟩ hs⟩
end Go.Proofs.YtkoalgjlkcaonaaGreatDoor
/-
  The ghost machine: a map behind its range loop.
-/
namespace Go.GK
open Go.RowKit
section
variable {cx : Cx} {T : Post}

end
end Go.GK
/-
  The ghost machine: maps given by lists of pairs, whose values are no own things.
-/
namespace Go.GK
open Go.RowKit
section
variable {α : Type}

end
end Go.GK
/-
  The ghost machine: own things packed behind one number.
-/
namespace Go.GK
open Go.RowKit

def packP (n : Nat) (τ : Heap) (fp : List Nat) (ro : Nat→Option Obj) (b : Nat) (v : Value) (w : World) : Prop :=
 ∃ Hl : Hid,Hl.n=n∧Hl.bl 0=b∧Hl.sv 0=v∧(∀ c o,Hl.ro c=some o→ro c=some o)∧(∀ x ∈ τ,holds Hl w x)∧(∀ x ∈ τ,x.1 < n)∧blks Hl τ=fp

def pack (n : Nat) (τ : Heap) (fp : List Nat) : Abs where
 P:=packP n τ fp
 fp:=fp
 ex:=fun ro b v w h c hc=>by
  obtain ⟨Hl,_,_,_,_,h1,_,rfl⟩:=h
  obtain ⟨x,hx,hcx⟩:=List.mem_flatMap.1 hc
  exact holds_lt (h1 x hx) c hcx
 congr:=fun ro b v w w' hw h=>by
  obtain ⟨Hl,e1,e2,e3,h1,h2,h3,rfl⟩:=h
  exact ⟨Hl,e1,e2,e3,h1,fun x hx=>holds_congr (fun c hc=>hw c (List.mem_flatMap.2 ⟨x,hx,hc⟩)) (h2 x hx),h3,rfl⟩
 mono:=fun ro ro' b v w hro h=>by
  obtain ⟨Hl,e1,e2,e3,h1,h⟩:=h
  exact ⟨Hl,e1,e2,e3,fun c o hc=>hro c o (h1 c o hc),h⟩

def upf (id m : Nat) (i : Nat) : Nat:=bif Nat.beq i 0 then id else m + i

theorem Sat.pack {H : Hid} {σ : Heap} {w : World} (h : Sat H σ w) {r : Nat→Nat} {n id : Nat} {τ : Heap} (hl : leσ r τ σ) (hb : idbH n τ=true) (hd : distB (hids r τ)=true) (h0 : r 0=id) (hid : id < H.n) :
  ∃ fp,Sat H ((id,.ab (pack n τ fp)) :: hrest (hids r τ) σ) w∧∀ b ∈ blks H ((id,.ab (GK.pack n τ fp)) :: hrest (hids r τ) σ),b ∈ blks H σ:=by
 obtain ⟨hp,hpb⟩:=h.part hl hb hd
 have hbl : blks H ((id,.ab (GK.pack n τ (blks (H.via r n) τ))) :: hrest (hids r τ) σ)=blks (H.via r n) τ++blks H (hrest (hids r τ) σ):=by
  rw [blks_cons]; rfl
 have hin : ∀ b ∈ blks H ((id,.ab (GK.pack n τ (blks (H.via r n) τ))) :: hrest (hids r τ) σ),b ∈ blks H σ:=fun b hb=>by
  rw [hbl] at hb
  rcases List.mem_append.1 hb with hb | hb
  ·obtain ⟨x,hx,_,hbx⟩:=hpb b hb
   exact List.mem_flatMap.2 ⟨x,hx,hbx⟩
  ·obtain ⟨x,hx,hbx⟩:=List.mem_flatMap.1 hb
   exact List.mem_flatMap.2 ⟨x,(hrest_mem hx).1,hbx⟩
 refine ⟨blks (H.via r n) τ,⟨h.ro,fun x hx=>?_,?_,fun b hb=>h.free b (hin b hb),fun x hx=>?_⟩,hin⟩
 ·rcases List.mem_cons.1 hx with rfl | hx
  ·exact ⟨H.via r n,rfl,by show H.bl (r 0)=_; rw [h0],by show H.sv (r 0)=_; rw [h0],fun _ _ h=>h,hp.holds,hp.ids,rfl⟩
  ·exact h.holds x (hrest_mem hx).1
 ·rw [hbl]
  refine List.nodup_append.2 ⟨hp.nodup,hrest_nodup h.nodup,fun b hb c hc e=>?_⟩
  subst e
  obtain ⟨x,hx,hxi,hbx⟩:=hpb b hb
  obtain ⟨y,hy,hby⟩:=List.mem_flatMap.1 hc
  exact blks_apart h.nodup hx (hrest_mem hy).1 (fun e=>(hrest_mem hy).2 (by rw [← e]; exact hxi)) b hbx hby
 ·rcases List.mem_cons.1 hx with rfl | hx
  ·exact hid
  ·exact h.ids x (hrest_mem hx).1

section
variable {cx : Cx} {T : Post}

theorem JK.pack {k : List It} {s : St} (r : Nat→Nat) (n id : Nat) (τ : Heap) (hl : leσ r τ s.σ) (chk : (idbH n τ && distB (hids r τ) && Nat.beq (r 0) id && Nat.blt id s.n)=true)
  (h : ∀ fp,nfH ((id,.ab (GK.pack n τ fp)) :: hrest (hids r τ) s.σ) fun σ=>JK cx T k ⟨s.ρ,σ,s.n⟩) : JK cx T k s:=by
 simp only [Bool.and_eq_true] at chk
 obtain ⟨⟨⟨h1,h2⟩,h3⟩,h4⟩:=chk
 intro H a w hg hs ha
 obtain ⟨fp,hsat,hin⟩:=hs.sat.pack hl h1 h2 (beq_eq h3) (by rw [hs.n]; exact blt_lt h4)
 have hk:=h fp
 rw [nfH_eq] at hk
 refine hk H a w hg ⟨hs.n,hsat,?_⟩ ha
 have hf:=hs.fr
 exact ⟨hf.os,hf.tape,hf.output,hf.size,hf.keep,fun c hc=>hf.own c (hin c hc),hf.fro,hf.le⟩

theorem JK.unpack {k : List It} {s : St} (id : Nat) {n : Nat} {τ : Heap} {fp : List Nat} (hl : hlook s.σ id=some (.ab (GK.pack n τ fp)))
  (h : nfH (renH (upf id s.n) τ++hdel s.σ id) fun σ=>nfN (s.n + n) fun m=>JK cx T k ⟨s.ρ,σ,m⟩) : JK cx T k s:=by
 rw [nfH_eq,nfN_eq] at h
 refine JK.upd _ (fun H a w hg hs ha=>?_) h
 obtain ⟨l1,l2,e1,e2,_⟩:=hlook_split hl
 have hmem:=hlook_mem hl
 obtain ⟨Hl,hn,hb0,hv0,hro0,hh,hids,hfp⟩:=hs.sat.holds _ hmem
 have hidn : id < s.n:=by rw [← hs.n]; exact hs.sat.ids _ hmem
 have hHn:=hs.n
 let H' : Hid:={ ro:=H.ro,bl:=fun i=>if i < s.n then H.bl i else Hl.bl (i - s.n),sv:=fun i=>if i < s.n then H.sv i else Hl.sv (i - s.n),n:=s.n + n }
 have hle : H.le H':=⟨by show H.n≤s.n + n; omega,fun b o h=>h,fun i hi=>by show (if i < s.n then _ else _)=_; rw [if_pos (by omega)],fun i hi=>by show (if i < s.n then _ else _)=_; rw [if_pos (by omega)]⟩
 have hf : ∀ i,i < Hl.n→upf id s.n i < H'.n∧H'.bl (upf id s.n i)=Hl.bl i∧H'.sv (upf id s.n i)=Hl.sv i:=by
  intro i hi
  unfold upf
  cases hb : Nat.beq i 0 with
  | true =>
   have:=beq_eq hb
   subst this
   simp only [cond_true]
   refine ⟨by show id < s.n + n; omega,?_,?_⟩
   ·show (if id < s.n then H.bl id else _)=_
    rw [if_pos hidn,hb0]
   ·show (if id < s.n then H.sv id else _)=_
    rw [if_pos hidn,hv0]
  | false =>
   simp only [cond_false]
   refine ⟨by show s.n + i < s.n + n; omega,?_,?_⟩
   ·show (if s.n + i < s.n then _ else Hl.bl (s.n + i - s.n))=_
    rw [if_neg (by omega),show s.n + i - s.n=i by omega]
   ·show (if s.n + i < s.n then _ else Hl.sv (s.n + i - s.n))=_
    rw [if_neg (by omega),show s.n + i - s.n=i by omega]
 have hro : ∀ b o,Hl.ro b=some o→H'.ro b=some o:=hro0
 have hids' : ∀ x ∈ τ,x.1 < Hl.n:=fun x hx=>by rw [hn]; exact hids x hx
 have hb1 : blks H' (renH (upf id s.n) τ)=fp:=(blks_renH (fun i hi=>(hf i hi).2) hids').trans hfp
 have hsub : ∀ x ∈ l1++l2,x ∈ s.σ:=fun x hx=>by
  rw [e1]
  rcases List.mem_append.1 hx with h | h <;> simp [h]
 have hb2 : blks H' (l1++l2)=blks H (l1++l2):=blks_le hle (fun x hx=>hs.sat.ids x (hsub x hx))
 have hσ : blks H s.σ=blks H l1++(fp++blks H l2):=by rw [e1,blks_append,blks_cons]; rfl
 have hin : ∀ b ∈ blks H' (renH (upf id s.n) τ++hdel s.σ id),b ∈ blks H s.σ:=fun b hb=>by
  rw [e2,blks_append,hb1,hb2,blks_append] at hb
  rw [hσ]
  simp only [List.mem_append] at hb ⊢
  rcases hb with h | h | h <;> simp [h]
 have hnd:=hs.sat.nodup
 rw [hσ] at hnd
 refine ⟨H',hg.up (fun _ _ h=>h),⟨rfl,⟨hs.sat.ro,fun x hx=>?_,?_,fun b hb=>hs.sat.free b (hin b hb),fun x hx=>?_⟩,?_⟩,ha.mono hle⟩
 ·rcases List.mem_append.1 hx with hx | hx
  ·obtain ⟨y,hy,rfl⟩:=mem_renH hx
   exact holds_ren hro hf (hids' y hy) (hh y hy)
  ·rw [e2] at hx
   exact holds_le hle (hs.sat.ids x (hsub x hx)) (hs.sat.holds x (hsub x hx))
 ·show (blks H' (renH (upf id s.n) τ++hdel s.σ id)).Nodup
  rw [e2,blks_append,hb1,hb2,blks_append]
  have hperm : (blks H l1++(fp++blks H l2)).Perm (fp++(blks H l1++blks H l2)):=by
   rw [← List.append_assoc,← List.append_assoc]
   exact List.Perm.append_right _ List.perm_append_comm
  exact hperm.nodup_iff.1 hnd
 ·rcases List.mem_append.1 hx with hx | hx
  ·obtain ⟨y,hy,rfl⟩:=mem_renH hx
   exact (hf _ (hids' y hy)).1
  ·rw [e2] at hx
   exact Nat.lt_of_lt_of_le (hs.sat.ids x (hsub x hx)) hle.n
 ·have hfr:=hs.fr
  exact ⟨hfr.os,hfr.tape,hfr.output,hfr.size,hfr.keep,fun c hc=>hfr.own c (hin c hc),hfr.fro,hfr.le.trans hle⟩
end

theorem leσ_cons0 {A : Abs} {σ : Heap} : ∀ l : Heap,memB 0 (hids id l)=false→leσ id l σ→leσ id l ((0,.ab A) :: σ)
 | [],_,_=>trivial
 | (j,y) :: r,hm,hl=>by
  simp only [hids,memB,Bool.or_eq_false_iff] at hm
  refine ⟨?_,leσ_cons0 r hm.2 hl.2⟩
  show (bif Nat.beq 0 (id j) then _ else hlook σ (id j))=_
  rw [hm.1]
  exact hl.1

theorem Hf.pack {p : Pg} {f : FuncId} {n0 : Nat} {args : List GV} {σ : Heap} {Q Q' : GV→Heap→Nat→Prop} (h : Hf p f n0 args σ Q)
  (hQ : ∀ g σ' n',Q g σ' n'→∃ rest,(Nat.blt 0 n0 && Nat.ble n0 n' && idb n0 g && idbH n0 rest && distB (0 :: hids id rest))=true ∧
   ((∃ (r : Nat→Nat) (n : Nat) (τ : Heap),leσ r τ σ'∧leσ id rest (hrest (hids r τ) σ')∧(idbH n τ && distB (hids r τ) && Nat.beq (r 0) 0)=true∧∀ fp,Q' g ((0,.ab (GK.pack n τ fp)) :: rest) n0) ∨
   ∃ A,hlook σ' 0=some (.ab A)∧leσ id rest σ'∧Q' g ((0,.ab A) :: rest) n0)) : Hf p f n0 args σ Q':=by
 refine ⟨h.call,?_⟩
 have key : Ct p f n0 args σ (fun g σ' n'=>∃ rest A,hlook σ' 0=some (.ab A)∧leσ id rest σ'∧(Nat.blt 0 n0 && Nat.ble n0 n' && idb n0 g && idbH n0 rest && distB (0 :: hids id rest))=true∧Q' g ((0,.ab A) :: rest) n0):=by
  intro H us w hn hg hc hs
  refine Calls.mono (h.ct H us w hn hg hc hs) (fun e w' he=>?_)
  obtain ⟨u,g,H',σ',rfl,hi,hs',hfr,hq⟩:=he
  obtain ⟨rest,hchk,hq⟩:=hQ g σ' _ hq
  rcases hq with ⟨r,n,τ,h1,h2,hchk2,h3⟩ | ⟨A,h1,h2,h3⟩
  ·have hc1:=hchk
   simp only [Bool.and_eq_true] at hchk hchk2
   obtain ⟨⟨⟨⟨c4,c5⟩,c6⟩,c7⟩,c8⟩:=hchk
   obtain ⟨⟨c1,c2⟩,c3⟩:=hchk2
   have hn':=Nat.le_of_ble_eq_true c5
   have h00:=blt_lt c4
   obtain ⟨fp,hsat,hin⟩:=hs'.pack h1 c1 c2 (beq_eq c3) (by omega)
   simp only [distB,Bool.and_eq_true,Bool.not_eq_true'] at c8
   refine ⟨u,g,H',_,rfl,hi,hsat,?_,rest,_,rfl,leσ_cons0 rest c8.1 h2,hc1,h3 fp⟩
   exact ⟨hfr.os,hfr.tape,hfr.output,hfr.size,hfr.keep,fun c hc=>hfr.own c (hin c hc),hfr.fro,hfr.le⟩
  ·exact ⟨u,g,H',σ',rfl,hi,hs',hfr,rest,A,h1,h2,hchk,h3⟩
 refine key.weak fun g σ' n' hq=>?_
 obtain ⟨rest,A,hh,hl,hchk,hq⟩:=hq
 simp only [Bool.and_eq_true] at hchk
 obtain ⟨⟨⟨⟨c4,c5⟩,c6⟩,c7⟩,c8⟩:=hchk
 have hfix : ∀ n,fixB id n=true:=fun n=>by
  induction n with
  | zero=>rfl
  | succ n ih=>simp [fixB,ih]
 refine ⟨id,g,(0,.ab A) :: rest,n0,hq,(ren_id g).symm,⟨hh,hl⟩,?_⟩
 simp only [idbH,idbR,Bool.and_eq_true]
 exact ⟨⟨⟨⟨c6,⟨⟨c4,trivial⟩,c7⟩⟩,c8⟩,hfix n0⟩,by rw [Nat.ble_eq]; exact Nat.le_refl n0⟩

theorem Hf.eqG {p : Pg} {f : FuncId} {n0 : Nat} {args : List GV} {σ : Heap} {g : GV} {R : Heap→Nat→Prop} (h : Hf p f n0 args σ fun g' σ' n'=>GK.eqG g g'∧R σ' n') : Hf p f n0 args σ fun g' σ' n'=>g'=g∧R σ' n':=by
 refine ⟨h.call,fun H us w hn hg hc hs=>?_⟩
 refine Calls.mono (h.ct H us w hn hg hc hs) (fun e w' he=>?_)
 obtain ⟨u,g',H',σ',rfl,hi,hs',hfr,he,hR⟩:=he
 exact ⟨u,g,H',σ',rfl,eqG_is he hi,hs',hfr,rfl,hR⟩

section
variable {cx : Cx} {T : Post}
end
end Go.GK
/-
  strings.Builder: the shelf's walks once more, with what they change told exactly (one block, and its row of bytes).
-/
set_option linter.unusedVariables false
namespace Go.Lib
section
variable {P : Program} (w : World)
end
end Go.Lib
namespace Go.Proofs
open Go.Shelf Go.RowKit
variable {P : Program} {ρ : Ren}
end Go.Proofs
/-
  The ghost machine: calls on one packed thing, off the shelf; a strings.Builder.
-/
namespace Go.GK
open Go.RowKit

section
variable {cx : Cx} {T : Post}
end
section
variable {cx : Cx} {T : Post}
theorem RA.goH {ops : List Oper} {k : List It} {σs : Heap} {ρq : Env} {fuel : Nat} {listed : List Bool} {s : St} (i : Nat) (order : List (Nat × Bool)) (e : Bool) {o : Oper} {f : FuncId} {n0 : Nat} {cargs gs : List GV} {σc : Heap} {Q : GV→Heap→Nat→Prop} (hp : cx.pg.Ok) (hsel : Region.noSelect ops.toArray=true) (hT : ∀ ch s,¬ T (.panic ch) s) (hr : Hf cx.pg f n0 cargs σc Q) (r : Nat→Nat) (hi : ops[i]?=some o) (hk : callG cx.pg ops s.ρ o=some (f,gs)) (hargs : gs=renL r cargs) (hσ : leσ r σc s.σ)
  (chk : (idbL n0 cargs && idbH n0 σc && distB (hids r σc))=true) (hrn : ∀ i,i < n0→r i < s.n)
  (hB : (eqB (Region.ready .any ops.toArray listed.toArray) [i] && ordB ops e order (listed.set i true))=true)
  (h : ∀ g σ' n',Q g σ' n'→nf (ren (sh r n0 s.n) g) fun g=>nfH (renH (sh r n0 s.n) σ'++hrest (hids r σc) s.σ) fun σ=>nfN (s.n + (n' - n0)) fun n=>nfE (qput ρq o.dst g) fun ρq=>dputV cx.N s.ρ o.dst g fun ρ'=>rvc cx T ops k σs e order fuel (listed.set i true) ρq ⟨ρ',σ,n⟩) : RA cx T ops k σs ρq (fuel + 1) listed s:=by
 obtain ⟨fo,args,ts,first,caps,gs',ho',hgd,hf,he,hargs'⟩:=callG_spec hk
 simp only [Bool.and_eq_true] at hB
 refine RA.call (n0:=n0) (r:=r) (σc:=σc) i hr.ct hr.call hi (eqB_eq hB.1) hgd ho' hf he (hargs'.trans hargs) hσ chk hrn ?_
 intro g σ' n' hq
 have:=h g σ' n' hq
 rw [nf_eq,nfH_eq,nfN_eq,nfE_eq] at this ⊢
 revert this
 cases o.dst with
 | none=>exact fun h=>RA.run hp hsel hT order hB.2 h
 | some d =>
  simp only [dputV,dput]
  cases Nat.blt d cx.N with
  | false=>exact fun h=>h
  | true=>simp only [cond_true,nf_eq]; exact fun h=>RA.run hp hsel hT order hB.2 h
end
end Go.GK
/-
  The ghost machine: make of a slice whose elements take one cell.
-/
namespace Go.GK
open Go.RowKit
section
variable {cx : Cx} {T : Post}
end
end Go.GK
/-
  The ghost machine: a region that draws its order, two of whose operations that make memory may come up at once; its end told once.
-/
namespace Go.GK
open Go.RowKit
section
variable {cx : Cx} {T : Post}

def Stp (cx : Cx) (T : Post) (ops : List Oper) (k : List It) (σs : Heap) (ρq : Env) (fuel : Nat) (listed : List Bool) (s : St) (i : Nat) (o : Oper) : Prop :=
 ops[i]?=some o∧gdOk ops s.ρ o.guard=true∧∀ (n0 : Nat) (H0 : Hid) (S0 : List Nat) (w0 : World) (h0 : H0.n=n0) (g0 : GlOk cx.pg H0) (H : Hid) (a : Act) (w : World) (K : Act→World→Prop) (Q' : Exit→Act→World→Prop),GlOk cx.pg H→Sim ⟨cx.pg,cx.N,n0,H0,S0,w0,h0,g0⟩ H s w→ActOk cx H s.ρ a→Sat H (s.σ++σs) w →
   (∀ (H' : Hid) (u : Value) (g : GV) (w' : World) (s' : St) (ρ' : Env),H.le H'→Is H' g u→Sim ⟨cx.pg,cx.N,n0,H0,S0,w0,h0,g0⟩ H' { s' with ρ:=ρ' } w'→ActOk cx H' ρ' (a.put o.dst u)→(∀ d,o.dst=some d→d < cx.N)→RA cx T ops k σs (qput ρq o.dst g) fuel (listed.set i true) { s' with ρ:=ρ' }→K (a.put o.dst u) w') →
   o.wp cx.pg.P a w K Q'

theorem RA.both {ops : List Oper} {k : List It} {σs : Heap} {ρq : Env} {fuel : Nat} {listed : List Bool} {s : St} (i j : Nat) {oi oj : Oper} (hr : Region.ready .any ops.toArray listed.toArray=[i,j])
  (hi : Stp cx T ops k σs ρq fuel listed s i oi) (hj : Stp cx T ops k σs ρq fuel listed s j oj) : RA cx T ops k σs ρq (fuel + 1) listed s:=by
 have one : ∀ {q : Nat} {o : Oper},Stp cx T ops k σs ρq fuel listed s q o→∀ (n0 : Nat) (H0 : Hid) (S0 : List Nat) (w0 : World) (h0 : H0.n=n0) (g0 : GlOk cx.pg H0),Sat H0 σs w0→(∀ b ∈ blks H0 σs,b ∉ S0)→(∀ b ∈ S0,H0.ro b=none) →
   (∀ H s' w',Sim ⟨cx.pg,cx.N,n0,H0,S0,w0,h0,g0⟩ H s' w'→Sim cx H ⟨s'.ρ,s'.σ++σs,s'.n⟩ w') →
   ∀ H a w,Sim ⟨cx.pg,cx.N,n0,H0,S0,w0,h0,g0⟩ H s w→ActOk cx H s.ρ a→EnvOk (H.at H0.ro) ρq a →
   wpOp cx.pg.P ops.toArray (cont cx.pg.P (post cx T) k) q (fun a w=>Held S0 w0 w∧wpAnyH cx.pg.P .any ops.toArray (cont cx.pg.P (post cx T) k) (Held S0 w0) fuel (listed.toArray.setIfInBounds q true) a w) a w:=by
  intro q o hst n0 H0 S0 w0 h0 g0 hσ hap hfree hlink H a w hs ha hq
  obtain ⟨hq',hgd,h⟩:=hst
  unfold wpOp
  have hi' : ops.toArray[q]?=some o:=by simpa using hq'
  rw [hi']
  simp only
  have hw:=gdOk_wanted (o:=o) ha.env hgd
  rw [if_pos hw]
  refine .inl (h n0 H0 S0 w0 h0 g0 H a w _ _ (g0.mono hs.fr.le) hs ha (hlink H s w hs).sat fun H' u g w' s' ρ' hle hi hs' ha' hd hra=>?_)
  rw [set_list]
  refine ⟨hs'.keeps,hra n0 H0 S0 w0 h0 g0 hσ hap hfree hlink H' (a.put o.dst u) w' hs' ha' ?_⟩
  exact EnvOk.at_put (H:=H) hq hle (fun d hdd=>by rw [ha.size]; exact hd d hdd) hi
 intro n0 H0 S0 w0 h0 g0 hσ hap hfree hlink H a w hs ha hq
 refine wpAnyH_all hr (by simp) (fun q hq'=>?_)
 rcases List.mem_cons.1 hq' with rfl | hq'
 ·exact one hi n0 H0 S0 w0 h0 g0 hσ hap hfree hlink H a w hs ha hq
 ·obtain rfl:=List.mem_singleton.1 hq'
  exact one hj n0 H0 S0 w0 h0 g0 hσ hap hfree hlink H a w hs ha hq

theorem Stp.mem {ops : List Oper} {k : List It} {σs : Heap} {ρq : Env} {fuel : Nat} {listed : List Bool} {s : St} (i : Nat) {o : Oper} (hp : cx.pg.Ok) (hi : ops[i]?=some o) (hgd : gdOk ops s.ρ o.guard=true) (hpu : isPure o.op=false)
  (h : goVC cx false s o (fun s'=>RA cx T ops k σs (qput ρq o.dst (match s'.ρ with | (_,g) :: _=>g | []=>.v undef)) fuel (listed.set i true) s') (fun _=>False) s.ρ) : Stp cx T ops k σs ρq fuel listed s i o:=by
 refine ⟨hi,hgd,fun n0 H0 S0 w0 h0 g0 H a w K Q' hg hs ha _ hK=>?_⟩
 have ha' : ActOk ⟨cx.pg,cx.N,n0,H0,S0,w0,h0,g0⟩ H s.ρ a:=⟨ha.env,ha.size,ha.defers⟩
 have h' : goVC ⟨cx.pg,cx.N,n0,H0,S0,w0,h0,g0⟩ false s o (fun s'=>RA cx T ops k σs (qput ρq o.dst (match s'.ρ with | (_,g) :: _=>g | []=>.v undef)) fuel (listed.set i true) s') (fun _=>False) s.ρ:=h
 rcases go_mem (cx:=⟨cx.pg,cx.N,n0,H0,S0,w0,h0,g0⟩) hp hg hs ha' hpu h' with hl | ⟨H',u,g,w',s0,hle,hrun,hi,hd,hsim⟩
 ·exact hl.elim
 ·refine upon_value_wp hrun ?_
  have hlt:=dput_lt hd
  cases hdst : o.dst with
  | none =>
   rw [hdst] at hd
   have h1:=hK H' u g w' s0 s.ρ hle hi (hsim s.ρ) (by rw [hdst]; exact ha.mono hle) hlt (by rw [hdst]; exact hd)
   rw [hdst] at h1
   exact h1
  | some d =>
   rw [hdst] at hd
   simp only [dput,nf_eq] at hd
   have hdl:=hlt d hdst
   have hb : Nat.blt d cx.N=true:=by rw [Nat.blt_eq]; exact hdl
   rw [hb] at hd
   have hput : ActOk cx H' ((d,g) :: s.ρ) (a.put (some d) u):=⟨(ha.mono hle).env.put (by rw [ha.size]; exact hdl) hi,by simp [Act.put,ha.size],by simp [Act.put,ha.defers]⟩
   have h1:=hK H' u g w' s0 ((d,g) :: s.ρ) hle hi (hsim _) (by rw [hdst]; exact hput) hlt (by rw [hdst]; exact hd)
   rw [hdst] at h1
   exact h1

theorem JK.drawJ {id : Nat} {ops : Array Oper} {k : List It} {s : St} (M : List Nat) (I : St) (hp : cx.pg.Ok) (hk : JK cx T k I)
  (h : JK cx T k I→RA cx T ops.toList k (hrest M s.σ++lns (hsel M s.σ)) s.ρ ops.toList.length (List.replicate ops.toList.length false) ⟨s.ρ,hsel M s.σ,s.n⟩) : JK cx T (.code (.region id ops true) :: k) s :=
 JK.draw M hp (h hk)
theorem RA.endJ {ops : List Oper} {k : List It} {σs : Heap} {ρq : Env} {fuel : Nat} {listed : List Bool} {s I : St} (f : Nat→Nat) (hr : eqB (Region.ready .any ops.toArray listed.toArray) []=true) (hk : JK cx T k I) (hl : Le cx.n0 f I ⟨s.ρ,s.σ++σs,s.n⟩) : RA cx T ops k σs ρq fuel listed s :=
 RA.done (eqB_eq hr) (JK.weaken f I hl hk)

def cutT {α : Type} (cx : Cx) (T : Post) (k : List It) (I : α→St) (pre : α→Prop) : Post:=fun e s =>
 match e with
 | .normal=>∃ (y : α) (f : Nat→Nat),Le cx.n0 f (I y) s∧pre y
 | e=>outT cx T k e s
theorem JK.cut {α : Type} {c : Code} {k : List It} {s : St} (I : α→St) (pre : α→Prop) (hb : JK cx (cutT cx T k I pre) [.code c] s) (hk : ∀ x,pre x→JK cx T k (I x)) : JK cx T (.code c :: k) s:=by
 intro H a w hg hs ha
 have h1:=hb H a w hg hs ha
 have hgx : ∀ {H' : Hid},Hid.le cx.H0 H'→GlOk cx.pg H':=fun hle=>cx.g0.mono hle
 refine Code.wp_mono (fun e a' w' hq=>?_) h1
 obtain ⟨H',s',hs',ha',hT⟩:=hq
 cases e with
 | normal =>
  obtain ⟨y,f,hl,hpy⟩:=hT
  obtain ⟨H2,hg2,hs2,ha2⟩:=GK.weaken (hgx hs'.fr.le) hs' ha' hl
  exact hk y hpy H2 a' w' hg2 hs2 ha2
 | exit id=>exact cont_out (hgx hs'.fr.le) hs' ha' hT
 | goto l=>exact cont_out (hgx hs'.fr.le) hs' ha' hT
 | ret=>exact cont_out (hgx hs'.fr.le) hs' ha' hT
 | panic ch=>exact cont_out (hgx hs'.fr.le) hs' ha' hT
 | outgrown=>exact cont_out (hgx hs'.fr.le) hs' ha' hT
end
end Go.GK
/-
  The ghost machine: a value that is told otherwise (a nil slice as an empty one that is only read).
-/
namespace Go.GK
open Go.RowKit
def Sub (g' g : GV) : Prop:=∀ {H : Hid} {u : Value},Is H g u→Is H g' u
theorem Sub.rfl {g : GV} : Sub g g:=fun h=>h
theorem Sub.nil (sz : Nat) : Sub (.sl sz []) (.v (.slice none 0 0)):=fun {H u} h=>by
 rw [h.inv_v]
 exact .ro .slnil
theorem Sub.tup2 {a a' b b' : GV} (ha : Sub a' a) (hb : Sub b' b) : Sub (.tup [a',b']) (.tup [a,b]):=fun {H u} h=>by
 obtain ⟨us,rfl,hl,hi⟩:=h.inv_tup
 refine .tup hl fun j g hj=>?_
 match j with
 | 0=>simp at hj; subst hj; exact ha (hi 0 a _root_.rfl)
 | 1=>simp at hj; subst hj; exact hb (hi 1 b _root_.rfl)
 | j + 2=>simp at hj
theorem Hf.imp {p : Pg} {f : FuncId} {n0 : Nat} {args : List GV} {σ : Heap} {Q Q' : GV→Heap→Nat→Prop} (h : Hf p f n0 args σ Q) (hQ : ∀ g σ' n',Q g σ' n'→Q' g σ' n') : Hf p f n0 args σ Q' :=
 ⟨h.call,fun H us w a b c d=>(h.ct H us w a b c d).mono fun _ _ ⟨u,g,H',σ',e1,e2,e3,e4,hq⟩=>⟨u,g,H',σ',e1,e2,e3,e4,hQ _ _ _ hq⟩⟩
theorem Hf.sub {p : Pg} {f : FuncId} {n0 : Nat} {args : List GV} {σ : Heap} {Q Q' : GV→Heap→Nat→Prop} (h : Hf p f n0 args σ Q) (hQ : ∀ g σ' n',Q g σ' n'→∃ g',Sub g' g∧Q' g' σ' n') : Hf p f n0 args σ Q':=by
 refine ⟨h.call,fun H us w hn hg hc hs=>?_⟩
 refine Calls.mono (h.ct H us w hn hg hc hs) (fun e w' he=>?_)
 obtain ⟨u,g,H',σ',rfl,hi,hs',hfr,hq⟩:=he
 obtain ⟨g',hs2,hq'⟩:=hQ g σ' _ hq
 exact ⟨u,g',H',σ',rfl,hs2 hi,hs',hfr,hq'⟩
theorem Rq.sub {p : Pg} {f : FuncId} {args : List GV} {Q Q' : GV→Prop} (h : Rq p f args Q) (hQ : ∀ g,Q g→∃ g',Sub g' g∧Q' g'∧idb 0 g'=true) : Rq p f args Q' :=
 ⟨h.call,fun H us w hn hg hcs hs=>(h.ct H us w hn hg hcs hs).mono fun _ _ ⟨u,g,H',σ',e,hi,hs',hfr,hv,r⟩=>by
  obtain ⟨g',hs2,hq',hid⟩:=hQ g hv.1
  exact ⟨u,g',H',σ',e,hs2 hi,hs',hfr,⟨hq',hid⟩,r⟩⟩
section
variable {cx : Cx} {T : Post}
theorem JK.sub {k : List It} {s : St} (t : Nat) {g : GV} (g' : GV) (hl : look s.ρ t=some g) (hg : Sub g' g) (h : JK cx T k ⟨(t,g') :: s.ρ,s.σ,s.n⟩) : JK cx T k s:=by
 refine JK.upd _ (fun H a w hgl hs ha=>⟨H,hgl,hs.ρ _,⟨ha.env.cons ?_,ha.size,ha.defers⟩⟩) h
 exact hg (ha.env t _ hl)
end
end Go.GK
/-
  Rules: calls that have own things, what stands behind them not told as conditions yet; so many steps; a map's lookup.
-/
namespace Go.Proofs.YtkoalgjlkcaonaaGreatDoor
open Go.GK Go.RowKit
section
variable {N n0 : Nat} {H0 : Hid} {S0 : List Nat} {w0 : World} {h0 : H0.n=n0} {g0 : GlOk pg H0} {T : Post} {k : List It} {s : St}
theorem GOJ {all : List Oper} {o : Oper} {rest : List Oper} {f : FuncId} {m : Nat} {cargs gs : List GV} {σc : Heap} {Q : GV→Heap→Nat→Prop} (hr : Hf pg f m cargs σc Q) (r : Nat→Nat) (hk : callG pg all s.ρ o=some (f,gs)) (hargs : gs=renL r cargs) (hσ : leσ r σc s.σ)
  (chk : (idbL m cargs && idbH m σc && distB (hids r σc))=true) (hrn : ∀ i,i < m→r i < s.n)
  (h : ∀ g σ' n',Q g σ' n'→nf (ren (sh r m s.n) g) fun g=>nfH (renH (sh r m s.n) σ'++hrest (hids r σc) s.σ) fun σ=>nfN (s.n + (n' - m)) fun n=>dputV N s.ρ o.dst g fun ρ'=>JK ⟨pg,N,n0,H0,S0,w0,h0,g0⟩ T (.ops false all rest :: k) ⟨ρ',σ,n⟩) :
  JK ⟨pg,N,n0,H0,S0,w0,h0,g0⟩ T (.ops false all (o :: rest) :: k) s:=by
 obtain ⟨fo,args,ts,first,caps,gs',ho,hgd,hf,he,hargs'⟩:=callG_spec hk
 refine JK.call hr.ct hr.call r ho hgd hf he (hargs'.trans hargs) hσ chk hrn (fun g σ' n' hq=>?_)
 have:=h g σ' n' hq
 simp only [dputV_eq] at this
 exact this
theorem VM (n : Nat) (h : vc ⟨pg,N,n0,H0,S0,w0,h0,g0⟩ T n k s) : JK ⟨pg,N,n0,H0,S0,w0,h0,g0⟩ T k s:=vc_sound pg_ok n k s h
end
theorem RGOH {N n0 : Nat} {H0 : Hid} {S0 : List Nat} {w0 : World} {h0 : H0.n=n0} {g0 : GlOk pg H0} {T : Post} {k : List It} {s : St} {ops : List Oper} {σs : Heap} {ρq : Env} {fuel : Nat} {listed : List Bool} (i : Nat) (e : Bool) (order : List (Nat × Bool)) {o : Oper} {f : FuncId} {m : Nat} {cargs gs : List GV} {σc : Heap} {Q : GV→Heap→Nat→Prop} (hr : Hf pg f m cargs σc Q) (r : Nat→Nat) (hi : ops[i]?=some o) (hk : callG pg ops s.ρ o=some (f,gs)) (hargs : gs=renL r cargs) (hσ : leσ r σc s.σ)
  (chk : (idbL m cargs && idbH m σc && distB (hids r σc))=true) (hrn : ∀ i,i < m→r i < s.n)
  (hB : (Region.noSelect ops.toArray && eqB (Region.ready .any ops.toArray listed.toArray) [i] && ordB ops e order (listed.set i true))=true)
  (h : ∀ g σ' n',Q g σ' n'→nf (ren (sh r m s.n) g) fun g=>nfH (renH (sh r m s.n) σ'++hrest (hids r σc) s.σ) fun σ=>nfN (s.n + (n' - m)) fun n=>nfE (qput ρq o.dst g) fun ρq=>dputV N s.ρ o.dst g fun ρ'=>rvc ⟨pg,N,n0,H0,S0,w0,h0,g0⟩ T ops k σs e order fuel (listed.set i true) ρq ⟨ρ',σ,n⟩) (hT : ∀ ch s,¬ T (.panic ch) s:=by intro _ _ h; exact h) : RA ⟨pg,N,n0,H0,S0,w0,h0,g0⟩ T ops k σs ρq (fuel + 1) listed s:=by
 simp only [Bool.and_eq_true] at hB
 exact RA.goH i order e pg_ok hB.1.1 hT hr r hi hk hargs hσ chk hrn (by simp only [hB.1.2,hB.2,Bool.and_self]) h
theorem _root_.Go.GK.Rq.hf {f : FuncId} {args : List GV} {G : GV} (h : Rt pg f args G) : Hf pg f 0 args [] (fun g σ n=>g=G∧σ=[]∧n=0) :=
 ⟨h.call,fun H us w hn hg hcs hs=>(h.ct H us w hn hg hcs hs).mono fun _ _ ⟨u,g,H',σ',e,hi,hs',hfr,⟨hq,_⟩,h1,h2⟩=>⟨u,g,H',σ',e,hi,hs',hfr,hq,h1,h2⟩⟩
theorem id_lt {a n : Nat} (h : Nat.ble a n=true) : ∀ i,i < a→id i < n:=fun _ hi=>Nat.lt_of_lt_of_le hi (Nat.le_of_ble_eq_true h)
end Go.Proofs.YtkoalgjlkcaonaaGreatDoor
/-
  The ghost machine: a region that draws its order: one operation comes up, whose guard is told by a proof.
-/
namespace Go.GK
open Go.RowKit
section
variable {cx : Cx} {T : Post}
theorem RA.one {ops : List Oper} {k : List It} {σs : Heap} {ρq : Env} {fuel : Nat} {listed : List Bool} {s : St} (i : Nat) {oi : Oper} (hr : Region.ready .any ops.toArray listed.toArray=[i])
  (hi : Stp cx T ops k σs ρq fuel listed s i oi) : RA cx T ops k σs ρq (fuel + 1) listed s:=by
 have one : ∀ {q : Nat} {o : Oper},Stp cx T ops k σs ρq fuel listed s q o→∀ (n0 : Nat) (H0 : Hid) (S0 : List Nat) (w0 : World) (h0 : H0.n=n0) (g0 : GlOk cx.pg H0),Sat H0 σs w0→(∀ b ∈ blks H0 σs,b ∉ S0)→(∀ b ∈ S0,H0.ro b=none) →
   (∀ H s' w',Sim ⟨cx.pg,cx.N,n0,H0,S0,w0,h0,g0⟩ H s' w'→Sim cx H ⟨s'.ρ,s'.σ++σs,s'.n⟩ w') →
   ∀ H a w,Sim ⟨cx.pg,cx.N,n0,H0,S0,w0,h0,g0⟩ H s w→ActOk cx H s.ρ a→EnvOk (H.at H0.ro) ρq a →
   wpOp cx.pg.P ops.toArray (cont cx.pg.P (post cx T) k) q (fun a w=>Held S0 w0 w∧wpAnyH cx.pg.P .any ops.toArray (cont cx.pg.P (post cx T) k) (Held S0 w0) fuel (listed.toArray.setIfInBounds q true) a w) a w:=by
  intro q o hst n0 H0 S0 w0 h0 g0 hσ hap hfree hlink H a w hs ha hq
  obtain ⟨hq',hgd,h⟩:=hst
  unfold wpOp
  have hi' : ops.toArray[q]?=some o:=by simpa using hq'
  rw [hi']
  simp only
  have hw:=gdOk_wanted (o:=o) ha.env hgd
  rw [if_pos hw]
  refine .inl (h n0 H0 S0 w0 h0 g0 H a w _ _ (g0.mono hs.fr.le) hs ha (hlink H s w hs).sat fun H' u g w' s' ρ' hle hi hs' ha' hd hra=>?_)
  rw [set_list]
  refine ⟨hs'.keeps,hra n0 H0 S0 w0 h0 g0 hσ hap hfree hlink H' (a.put o.dst u) w' hs' ha' ?_⟩
  exact EnvOk.at_put (H:=H) hq hle (fun d hdd=>by rw [ha.size]; exact hd d hdd) hi
 intro n0 H0 S0 w0 h0 g0 hσ hap hfree hlink H a w hs ha hq
 refine wpAnyH_all hr (by simp) (fun q hq'=>?_)
 obtain rfl:=List.mem_singleton.1 hq'
 exact one hi n0 H0 S0 w0 h0 g0 hσ hap hfree hlink H a w hs ha hq

end
end Go.GK
/-
  The ghost machine: a contract of a call that sets one cell of an own block, told by its world; what is given beside it is told by a handle.
-/
namespace Go.GK
open Go.RowKit
section
variable {p : Pg}
theorem Ct.set1g {f : FuncId} {t1 t2 ty : TypeId} (m : GV) (old x r : Value) {G : Value→World→Prop} (hG : ∀ (H : Hid) (σ : Heap) (w : World) (u : Value),GlOk p H→Sat H σ w→Is H m u→G u w)
  (h : ∀ u t w,G u w→w.cell? t=some old→w.frozen? t=false→Calls p.P f #[.iface t1 u,.iface t2 (.pointer (some t))] w fun e w'=>e=.returned r∧∃ w5,Below w.heap.size w w5∧w'=w5.setCell t x) :
  Ct p f 1 [.ifc t1 m,.ifc t2 (.p 0 0)] [(0,.blk ty [.v old])] (fun g σ n=>g=.v r∧σ=[(0,.blk ty [.v x])]∧n=1):=by
 intro H us w hn hg hc hs
 obtain ⟨hl,hi⟩:=hc
 have h0:=hi 0 _ rfl
 have h1:=hi 1 _ rfl
 obtain ⟨u0,e0,i0⟩:=h0.inv_ifc
 obtain ⟨u1,e1,i1⟩:=h1.inv_ifc
 have e3:=i1.inv_p
 have hu : us=#[.iface t1 u0,.iface t2 (.pointer (some ⟨H.bl 0,0,none⟩))]:=by
  refine Array.ext (by simpa using hl.symm) (fun i h1 h2=>?_)
  have h2' : i < 2:=by simpa using h2
  have eg : ∀ j (hj : j < us.size),us.getD j undef=us[j]:=fun j hj=>by rw [Array.getD,dif_pos hj]; rfl
  match i,h2' with
  | 0,_=>rw [← eg 0 h1,e0]; rfl
  | 1,_=>rw [← eg 1 h1,e1,e3.1]; rfl
 subst hu
 have hb:=hs.holds (0,.blk ty [.v old]) (by simp)
 obtain ⟨cs,hh,hl2,hi2⟩:=hb
 have hcs : cs=#[old]:=by
  have:=cells_vals (vs:=[old]) (us:=cs) ⟨hl2,hi2⟩
  simpa using this
 subst hcs
 have hid : (0 : Nat) < H.n:=hs.ids (0,.blk ty [.v old]) (by simp)
 refine Calls.mono (h u0 ⟨H.bl 0,0,none⟩ w (hG H _ w u0 hg hs i0) (by unfold World.cell?; rw [hh]; rfl) (by unfold World.frozen?; rw [hh]; rfl)) (fun e w' he=>?_)
 obtain ⟨rfl,w5,hb5,rfl⟩:=he
 have hs5:=hs.below hb5
 have hlt : H.bl 0 < w.heap.size:=(Array.getElem?_eq_some_iff.1 hh).1
 have hh5 : w5.heap[H.bl 0]?=some (.cells #[old] ty (0,0)):=by rw [hb5.block _ hlt]; exact hh
 have hset : (w5.setCell ⟨H.bl 0,0,none⟩ x).heap[H.bl 0]?=some (.cells #[x] ty (0,0)):=by
  simp only [World.setCell,Array.getElem?_modify,if_true,hh5]
  rfl
 have hoth : ∀ b,b ≠ H.bl 0→(w5.setCell ⟨H.bl 0,0,none⟩ x).heap[b]?=w5.heap[b]?:=fun b hb=>Below.heap_setCell _ _ _ _ hb
 refine ⟨r,.v r,H,[(0,.blk ty [.v x])],rfl,.ro (.v r),⟨fun b o hr=>?_,?_,by simp [blks,blocks],?_,by simpa using hid⟩,?_,rfl,rfl,hn⟩
 ·rw [hoth b (fun e=>?_)]
  ·exact hs5.ro b o hr
  ·have:=hs.free (H.bl 0) (by simp [blks,blocks])
   rw [← e,hr] at this
   cases this
 ·intro y hy
  simp only [List.mem_singleton] at hy
  subst hy
  refine ⟨#[x],hset,rfl,fun j g hj=>?_⟩
  cases j with
  | zero=>simp at hj; subst hj; exact .ro (.v x)
  | succ j=>simp at hj
 ·intro b hb
  exact hs.free b (by simpa [blks,blocks] using hb)
 ·refine ⟨hb5.os,hb5.tape,hb5.output,?_,fun b h1 h2=>?_,fun b hb=>.inl (by simpa [blks,blocks] using hb),fun b h1 h2=>(h2 h1).elim,Hid.le.refl H⟩
  ·have:=hb5.size
   simpa [World.setCell] using this
  ·rw [hoth b (fun e=>h2 (by simp [blks,blocks,e]))]
   exact hb5.block b h1
theorem Is.r0 {H : Hid} {σ : Heap} {w : World} {x : Value} {cs : List GV} {u : Value} (hs : Sat H σ w) (h : Is H (.r (.v x :: cs)) u) : ∃ a,u=.pointer (some a)∧w.cell? a=some x:=by
 cases h with
 | ro h =>
  cases h with
  | r us h1 h2 =>
   rename_i ad
   have e:=h1 0 (.v x) rfl
   have e2:=h2 0 (.v x) rfl
   cases e2
   exact ⟨ad,rfl,roCell_cell hs.ro e⟩
end
end Go.GK
