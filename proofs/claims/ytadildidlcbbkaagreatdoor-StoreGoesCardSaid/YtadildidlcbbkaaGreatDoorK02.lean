/- A part of the proof of StoreGoesCardSaid. -/
import Derived.Test.YtadildidlcbbkaaGreatDoorK01
import Derived.Lib.Bytealg
import Derived.Laws.Strings
import Derived.Lib.SlTrimSet
set_option linter.all false
namespace Go.GK
open Go Go.RowKit IntKind
def yN:List Value->List Value->Bool
 | [],[]=>true
 | .int k a::xs,.int j b::ys=>Nat.beq (sn k) (sn j)&&decide (a=b)&&yN xs ys
 | .string a::xs,.string b::ys=>decide (a=b)&&yN xs ys
 | .bool a::xs,.bool b::ys=>(a==b)&&yN xs ys
 | .pointer none::xs,.pointer none::ys=>yN xs ys
 | .slice none 0 0::xs,.slice none 0 0::ys=>yN xs ys
 | .map none::xs,.map none::ys=>yN xs ys
 | .nilIface::xs,.nilIface::ys=>yN xs ys
 | .nilFunc::xs,.nilFunc::ys=>yN xs ys
 | .chan none::xs,.chan none::ys=>yN xs ys
 |_,_=>false
def Tp:∀{xs ys:List Value},yN xs ys=true->xs=ys:=by
 intro xs ys h
 fun_induction yN xs ys
 case case2 k a xs j b ys ih=>
  simp only[aG,decide_eq_true_eq]at h;rw[qy (beq_eq h.1.1),h.1.2,ih h.2]
 all_goals simp_all
def Vp:TypeDesc->Bool
 | .struct _| .array _ _=>true
 |_=>false
def CX(P:Program):List (Nat×Nat×Bool)->List Field->Bool
 | [],[]=>true
 | (o,s,g)::r,f::fs=>Nat.beq o f.offset&&Nat.beq s (P.cellsOf f.type)&&(g==(match P.underlying f.type with|some (.struct _)|some (.array _ _)=>true|_=>false))&&((P.info? f.type).isSome&&(P.underlying f.type).isSome)&&CX P r fs
 |_,_=>false
def QF(P:Program):TD->TypeDesc->Bool
 | .int k,.int j=>Nat.beq (sn k) (sn j)
 | .bool,.bool=>true
 | .str,.string=>true
 | .struct fs,.struct fields=>CX P fs fields.toList
 | .slice e,.slice e'=>Nat.beq e e'
 | .array n e,.array n' e'=>Nat.beq n n'&&Nat.beq e e'
 | .iface m,.interface ms=>m== !ms.isEmpty
 | .map k e,.map k' e'=>Nat.beq k k'&&Nat.beq e e'
 | .ptr,.pointer _=>true
 | .other,.interface _=>false
 | .other,_=>true
 |_,_=>false
def KG(P:Program):Nat->List MN->List Field->Bool
 |_,[],[]=>true
 |i,k::ks,f::fs=>(f.name != "_")&&Nat.beq f.offset i&&(match k,P.underlying f.type with| .int,some (.int _)=>true| .str,some .string=>true| .bool,some .bool=>true|_,_=>false)&&KG P (i+1) ks fs
 |_,_,_=>false
def TM(P:Program)(t:Nat)(ti:TI):Bool:=
 match P.info? t,P.underlying t with
 |some i,some d=>Nat.beq i.size ti.sz&&Nat.beq i.bytes ti.by_&&(match i.zero with|some z=>yN z.cells.toList ti.zero|none=>false)&&Nat.beq ti.zero.length ti.sz&&(match i.zero with|some z=>J6 z==ti.ag|none=>false)&&(ti.ag==Vp d)&&QF P ti.d d&&
  (match ti.eqk,d with
   |none,_=>true
   |some ks,.struct fields=> !P.eqGuardType P.depth t&& !P.stoodInHeld t&&KG P 0 ks fields.toList
   |_,_=>false)
 |_,_=>false
def A1{P:Program}:∀{fs:List (Nat×Nat×Bool)} {fields:List Field},CX P fs fields=true->(∀f:Nat,fs[f]? =(fields[f]?).map (λx=>(x.offset,P.cellsOf x.type,(match P.underlying x.type with|some (.struct _)|some (.array _ _)=>true|_=>false))))/\∀f∈fields,(P.info? f.type).isSome=true/\(P.underlying f.type).isSome=true
 | [],[],_=>aA
 | (o,s,g)::r,f::fs,h=>by
  simp only[CX,aG,beq_iff_eq]at h;obtain⟨⟨⟨⟨h1,h2⟩,h3⟩,h4⟩,h5⟩:=h;obtain⟨i1,i2⟩:=A1 h5;refine⟨λk=>?_,λx hx=>?_⟩
  ·cases k with
   |zero=>simp[beq_eq h1,beq_eq h2,h3]
   |succ k=>simpa using i1 k
  rcases aF.1 hx with rfl|hx
  ·exact h4
  exact i2 x hx
def E5{P:Program}:∀{i:Nat} {ks:List MN} {fields:List Field},KG P i ks fields=true->fields.length=ks.length/\∀(j:Nat) (f:Field),fields[j]? =some f->f.name≠ "_" /\f.offset=i+j/\∃k,ks[j]? =some k/\(match k with| .int=>∃j,P.underlying f.type=some (.int j)| .str=>P.underlying f.type=some .string| .bool=>P.underlying f.type=some .bool)
 |_,[],[],_=>aA
 |i,k::ks,f::fs,h=>by
  simp only[KG,aG,bne_iff_ne,ne_eq]at h;obtain⟨⟨⟨h1,h2⟩,h3⟩,h4⟩:=h;obtain⟨i1,i2⟩:=E5 h4;refine⟨by simp[i1],λj f' hj=>?_⟩;cases j with
  |zero=>
   simp at hj;subst hj;refine⟨h1,by simpa using beq_eq h2,k,rfl,?_⟩;cases k<;> (cases hu:P.underlying f.type with
    |none=>simp[hu]at h3
    |some d=>cases d<;>simp_all)
  |succ j=>
   obtain⟨a,b,c,d,e⟩:=i2 j f' (by simpa using hj);exact⟨a,az,c,by simpa using d,e⟩
def Uh{P:Program}{t:Nat}{ti:TI}(h:TM P t ti=true):pk P t ti:=by
 unfold TM at h;cases hi:P.info? t with
 |none=>simp[hi]at h
 |some i=>
  cases hu:P.underlying t with
  |none=>simp[hi,hu]at h
  |some d=>
   simp only[hi,hu,aG,beq_iff_eq]at h;obtain⟨⟨⟨⟨⟨⟨⟨h1,h2⟩,h3⟩,h4⟩,h8⟩,h5⟩,h6⟩,h7⟩:=h;cases hz:i.zero with
   |none=>simp[hz]at h3
   |some z=>
    simp only[hz]at h3 h8;refine⟨⟨i,z,hi,beq_eq h1,beq_eq h2,hz,Tp h3,beq_eq h4⟩,⟨i,z,hi,hz,by simpa using h8⟩,⟨d,hu,?_⟩,?_,λks hk=>?_⟩
    ·rw[h5];cases d<;>rfl
    ·revert h6
     cases ti.d<;>cases d<;>simp only[QF,a7,false_implies,forall_const] <;> (try intro h6)
     case int.int=>rw[hu,qy (beq_eq h6)]
     case bool.bool=>exact hu
     case str.string=>exact hu
     case struct.struct fs fields=>
      obtain⟨a,b⟩:=A1 h6;exact⟨fields,hu,λf=>(a f).trans (by rw[dq];rfl),b⟩
     case slice.slice=>rw[hu,beq_eq h6]
     case array.array=>
      simp only[aG]at h6;rw[hu,beq_eq h6.1,beq_eq h6.2]
     case iface.interface m ms=>exact⟨ms,hu,by simpa using h6⟩
     case map.map=>
      simp only[aG]at h6;rw[hu,beq_eq h6.1,beq_eq h6.2]
     case ptr.pointer e=>exact⟨e,hu⟩
     all_goals (intros;simp_all)
    rw[hk]at h7;cases d<;>simp only[a7]at h7
    case struct fields=>
     simp only[aG,bG]at h7;obtain⟨⟨a,b⟩,c⟩:=h7;obtain⟨e1,e2⟩:=E5 c;exact⟨a,b,fields,hu,by simpa using e1,λi f hf=>by obtain⟨x1,x2,k,x3,x4⟩:=e2 i f (by simpa using hf);exact⟨x1,az,k,x3,by cases k<;>exact x4⟩⟩
def S3(P:Program):TT->Bool
 | []=>true
 | (t,ti)::r=>TM P t ti&&S3 P r
def Pg.UC{p:Pg}(h:S3 p.P p.tt=true)(hm:p.P.follows .mixedOrders=true):p.Ok:=by
 refine⟨λt ti ht=>?_,hm⟩
 revert h ht
 generalize p.tt=tt;induction tt with
 |nil=>intro _ ht;simp[jv]at ht
 |cons x r ih=>
  obtain⟨s,g⟩:=x;intro h ht;simp only[S3,aG]at h;unfold jv at ht;cases hb:Nat.beq s t with
  |true=>
   rw[hb]at ht;have:=beq_eq hb;subst this;simp at ht;subst ht;exact Uh h.1
  |false=>rw[hb]at ht;exact ih h.2 (by simpa using ht)
section
variable {cx:Cx}{T:jz}
def JK.rX {k:List It} {s:St} (id j ty sz:Nat) {tb:Nat} {cs:List GV} (hl:gW s.σ id=some (.hZ tb cs)) (hj:cs[j]? =some (.v (.slice none 0 0)))
  (h:kW (s.n+1) λm=>kG ((s.n,.row ty sz [])::jh s.σ id (.hZ tb (cs.set j (.o s.n)))) λσ=>JK cx T k ⟨s.ρ,σ,m⟩):JK cx T k s:=by
 rw[j9,jy]at h;refine JK.CL _ (λH a w hg hs ha=>?_) h;have hle:=H.km 0 (.slice none 0 0);have e:(H.more 0 (.slice none 0 0)).sv s.n=.slice none 0 0:=by simp[Hid.more,hs.n]
 have hs1:iQ cx (H.more 0 (.slice none 0 0)) ⟨s.ρ,(s.n,.row ty sz [])::s.σ,s.n+1⟩ w:=by
  refine hs.grow hle rfl (by simp[Hid.more,hs.n]) (Below.refl _ _) ?_ (by simp[blocks,e,Value.ownBlock]) (by simp[blocks,e,Value.ownBlock]) _;exact⟨[],⟨by simp,.inl ⟨e,rfl⟩⟩,⟨by simp,by simp,by simp,by simp⟩⟩
 have hid:id<s.n:=by have:=hs.sat.ids _ (ib hl);rw[hs.n]at this;exact this
 have hbeq:Nat.beq s.n id=false:=by
  cases hb:Nat.beq s.n id with
  |false=>rfl
  |true=>have:=beq_eq hb;omega
 have hl1:gW ((s.n,hY.row ty sz [])::s.σ) id=some (.hZ tb cs):=by unfold gW;rw[hbeq];exact hl
 have hset1:jh ((s.n,hY.row ty sz [])::s.σ) id (.hZ tb (cs.set j (.o s.n)))=(s.n,.row ty sz [])::jh s.σ id (.hZ tb (cs.set j (.o s.n))):=by
  rw[jh,hbeq];rfl
 obtain⟨us,hw,hlen,his⟩:=hs1.sat.holds _ (ib hl1);have hs2:=hs1.put (y:=.hZ tb (cs.set j (.o s.n))) (w':=w) hl1 rfl rfl rfl rfl (aL _) (λ_ _ _=>rfl) ⟨us,hw,by simp[hlen],λi g hi=>by
  by_cases hij:j=i
  ·subst hij;have hlt:j<cs.length:=(aO.1 hj).1;rw[dZ hlt]at hi;cases hi;have hv:=(his j _ hj).iH;rw[hv];exact .o (by simp[Hid.more,hs.n]) e rfl
  rw[eM hij]at hi;exact his i g hi⟩ s.ρ
 rw[hset1]at hs2;exact⟨_,hg.mono hle,hs2,ha.mono hle⟩
end
def Ct.bv{p:Pg}{f:FuncId}{n0:Nat}{pre suf:List GV}{c:Bool}{σ:Heap}{Q:GV->Heap->Nat->Prop}(h:Ct p f n0 (pre++.b c::suf) σ Q):Ct p f n0 (pre++.v (.bool c)::suf) σ Q:=λH us w hn hg hc hs=>by
 refine h H us w hn hg ⟨by simpa using hc.1,λj g hj=>?_⟩ hs;rcases f_ j pre.length with hlt|rfl|hlt
 ·rw[bc hlt]at hj;exact hc.2 j g (by rw[bc hlt];exact hj)
 ·rw[aU (aL _),dh]at hj;simp at hj;subst hj;have:=hc.2 pre.length (.v (.bool c)) (by rw[aU (aL _),dh];rfl);rw[this.iH];exact .ro (.b c)
 rw[aU az]at hj;have e:j-pre.length=(j-pre.length-1)+1:=az
 rw[e]at hj;refine hc.2 j g ?_;rw[aU az,e];simpa using hj
section
variable {cx:Cx}{T:jz}
def MC{α β:Type}(cx:Cx)(T:jz)(k:List It)(id:Nat)(I:α->St)(pre:α->Prop)(m:α->Nat)(E:β->St)(q:β->Prop)(x:α):jz:=λe s=>
 match e with
 | .normal=>∃(y:α) (f:Nat->Nat),Le cx.n0 f (I y) s/\pre y/\m y<m x
 | .exit j=>bif Nat.beq j id then∃(y:β) (f:Nat->Nat),Le cx.n0 f (E y) s/\q y else D1 cx T k (.exit j) s
 |e=>D1 cx T k e s
def JK.iT {α β:Type} {c:Code} {id:Nat} {k:List It} {s:St} (I:α->St) (pre:α->Prop) (m:α->Nat) (E:β->St) (q:β->Prop) (x0:α) (f0:Nat->Nat) (h0:Le cx.n0 f0 (I x0) s) (hp:pre x0)
  (body:∀x,pre x->JK cx (MC cx T (.hZ id::k) id I pre m E q x) [.code c] (I x)) (hE:∀y,q y->JK cx T k (E y)):JK cx T (.code (.loop c):: .hZ id::k) s:=by
 intro H a w hg hs ha;obtain⟨H1,hg1,hs1,ha1⟩:=GK.weaken hg hs ha h0;refine wp_loop_ghost (λn a w=>∃H x,iX cx.pg H/\iQ cx H (I x) w/\kr cx H (I x).ρ a/\pre x/\m x=n) (m x0) ⟨H1,x0,hg1,hs1,ha1,hp,rfl⟩ ?_;rintro n a w ⟨H,x,hg,hs,ha,hpx,rfl⟩;have hb:=body x hpx H a w hg hs ha;have hgx:∀{H':Hid},Hid.le cx.H0 H'->iX cx.pg H':=λhle=>cx.g0.mono hle;refine Code.wp_mono (λe a' w' hq=>?_) hb;obtain⟨H',s',hs',ha',hT⟩:=hq;cases e with
 |normal=>
  obtain⟨y,f,hl,hpy,hm⟩:=hT;obtain⟨H2,hg2,hs2,ha2⟩:=GK.weaken (hgx hs'.fr.le) hs' ha' hl;exact⟨m y,hm,H2,y,hg2,hs2,ha2,hpy,rfl⟩
 |exit j=>
  simp only[MC]at hT;cases hj:Nat.beq j id with
  |false=>
   rw[hj]at hT;exact l6 (hgx hs'.fr.le) hs' ha' hT
  |true=>
   rw[hj]at hT;have:=beq_eq hj;subst this;obtain⟨y,f,hl,hy⟩:=hT;obtain⟨H2,hg2,hs2,ha2⟩:=GK.weaken (hgx hs'.fr.le) hs' ha' hl;show cont _ _ (.hZ j::k) (.exit j) a' w';simp only[cont,if_true];exact hE y hy H2 a' w' hg2 hs2 ha2
 |goto l=>exact l6 (hgx hs'.fr.le) hs' ha' hT
 |ret=>exact l6 (hgx hs'.fr.le) hs' ha' hT
 |panic ch=>exact l6 (hgx hs'.fr.le) hs' ha' hT
 |outgrown=>exact l6 (hgx hs'.fr.le) hs' ha' hT
end
section
variable {cx:Cx}{T:jz}
def JK.Gx {all:List Oper} {o:Oper} {rest:List Oper} {k:List It} {s:St} {t e:TypeId} {x:Operand} {lo hi:Option Operand} {id ty sz:Nat} {rows:List (List GV)} (hp:cx.pg.Ok) (ho:o.op=.slice t x lo hi none) (hgd:mS all s.ρ o.guard=true)
  {ti tie:TI} (ht:jv cx.pg.tt t=some ti) (htd:ti.d=.slice e) (hte:jv cx.pg.tt e=some tie) (hsz:tie.sz=sz) (hx:ev cx.pg s.ρ x=some (.o id)) (hl:gW s.σ id=some (.row ty sz rows)) {l h:Int} (hlo:vo cx.pg s.ρ 0 lo=some l) (hhi:vo cx.pg s.ρ rows.length hi=some h)
  (h0:0<=l) (h1:l<=h) (h2:h<=rows.length)
  (hk:kW (s.n+1) λm=>iO cx.N s.ρ o.dst (.o s.n) λρ'=>JK cx T (.ops false all rest::k) ⟨ρ',(s.n,.sub id sz l.toNat (h.toNat-l.toNat))::s.σ,m⟩):JK cx T (.ops false all (o::rest)::k) s:=by
 rw[j9]at hk;intro H a w hg hs ha;have hw:=j_ (o:=o) ha.env hgd;have hu:cx.pg.P.underlying t=some (.slice e):=by have:=(hp.tt _ _ ht).d;rw[htd]at this;exact this
 have hes:=(hp.tt _ _ hte).size;obtain⟨hv,hid⟩:=(iE hg ha.env hx).mh;obtain⟨xs,hown,hrow⟩:=hs.sat.holds _ (ib hl);have hA:∃A c,H.sv id=.slice A rows.length c/\rows.length<=c/\c<=maxLen/\(A=none->c=0)/\(0<rows.length->∃g,A=some ⟨g,0,none⟩):=by
  rcases hown.2 with ⟨he,hn⟩|⟨g,cap,cur,he,_,_,hc,hm,_⟩
  ·exact⟨none,0,by rw[he,hn],az,by simp[maxLen],λ_=>rfl,λh=>az⟩
  exact⟨_,cap,he,hc,hm,(λh=>by cases h),λ_=>⟨g,rfl⟩⟩
 obtain⟨A,c,hsv,hc,hm,hz,hA⟩:=hA;have hrun:(execOp a.eval o).run cx.pg.P w=.ok (.value (.slice (if c=l.toNat then A else A.map (·.add (l.toNat*sz))) (h.toNat-l.toNat) (c-l.toNat))) w:=by
  have hb:=qI (p:=cx.pg) (isS:=true) hg ha.env hlo hhi h0 h1 h2 hc w;simp only[execOp,ho,Instr.sliceAt,Sem.run_bind,ik hu,Result.andThen_ok,Instr.slice,hv,hsv,dG,hb,hes,hsz];rfl
 have hle:=H.km 0 (.slice (if c=l.toNat then A else A.map (·.add (l.toNat*sz))) (h.toNat-l.toNat) (c-l.toNat));have e:(H.more 0 (.slice (if c=l.toNat then A else A.map (·.add (l.toNat*sz))) (h.toNat-l.toNat) (c-l.toNat))).sv s.n=.slice (if c=l.toNat then A else A.map (·.add (l.toNat*sz))) (h.toNat-l.toNat) (c-l.toNat):=by simp[Hid.more,hs.n]
 have hidn:id<s.n:=by rw[<-hs.n];exact hid
 have esv:(H.more 0 (.slice (if c=l.toNat then A else A.map (·.add (l.toNat*sz))) (h.toNat-l.toNat) (c-l.toNat))).sv id=H.sv id:=hle.sv id hid;have hs1:=λρ=>hs.grow (r:=.sub id sz l.toNat (h.toNat-l.toNat)) (w':=w) hle rfl (by simp[Hid.more,hs.n]) (Below.refl _ _) (by
  refine⟨a_ hid hle.n,_,_,e,az,az,λhn=>?_,λhn=>?_⟩
  ·have:A=none:=by
    split at hn
    ·exact hn
    cases A with
    |none=>rfl
    |some a=>cases hn
   rw[hz this];omega
  obtain⟨g,rfl⟩:=hA az;refine⟨g,rows.length,c,by rw[esv];exact hsv,az,?_⟩;rw[if_neg az];simp[j5]) (by simp[blocks]) (by simp[blocks]) ρ
 obtain⟨ρ',ha',hJ⟩:=(ha.mono hle).iO (u:=.slice (if c=l.toNat then A else A.map (·.add (l.toNat*sz))) (h.toNat-l.toNat) (c-l.toNat)) (.o (by simp[Hid.more,hs.n]) e rfl) hk;exact lC hw hrun (hJ _ (a.put o.dst _) w (hg.mono hle) (hs1 ρ') ha')
def Lj(σ:Heap):GV->GV->Prop
 | .o m,.sl sz rows=>match gW σ m with
  |some (.row _ z rs)=>z=sz/\rows=rs
  |some (.sub id z lo n)=>z=sz/\(match gW σ id with
   |some (.row _ z' rs)=>z'=z/\lo+n<=rs.length/\rows=(rs.drop lo).take n
   |_=>False)
  |_=>False
 |g,g'=>g=g'/\iy 0 g=true
def uJ(σ:Heap):List GV->List GV->Prop
 | [],[]=>True
 |g::gs,g'::gs'=>Lj σ g g'/\uJ σ gs gs'
 |_,_=>False
def yz{σ:Heap}:∀{gs cs:List GV},uJ σ gs cs->gs.length=cs.length/\∀(j:Nat) (c:GV),cs[j]? =some c->∃g,gs[j]? =some g/\Lj σ g c
 | [],[],_=>⟨rfl,λj c h=>by simp at h⟩
 |g::gs,c::cs,h=>by
  obtain⟨h1,h2⟩:=h;obtain⟨i1,i2⟩:=yz h2;refine⟨by simp[i1],λj x hx=>?_⟩;cases j with
  |zero=>simp at hx;subst hx;exact⟨g,rfl,h1⟩
  |succ j=>obtain⟨y,hy,hl⟩:=i2 j x (by simpa using hx);exact⟨y,by simpa using hy,hl⟩
 | [],_::_,h=>h.elim
 |_::_,[],h=>h.elim
def Is.free{H H':Hid}{g:GV}{u:Value}(h:Is H g u)(h1:iy 0 g=true)(h2:mq g=true):Is H' g u:=by
 have e1:Is (H.via id 0) g u:=by
  rw[<-mR g]at h;exact ql h h1
 have e2:Is ((H.via id 0).at (λ_=>none)) g u:=vJ e1 h2;exact e2.mono ⟨aQ _,λb o h=>(by cases h),λi hi=>absurd hi (cf _),λi hi=>absurd hi (cf _)⟩
def JN{H Hb:Hid}{σ:Heap}{w:World}(hs:Sat H σ w)(hro:∀b,Hb.ro b=w.heap[b]?){g c:GV}{u:Value}(hl:Lj σ g c)(h:Is H g u):Is Hb c u:=by
 have hmono:∀b o,H.ro b=some o->Hb.ro b=some o:=λb o hb=>by rw[hro];exact hs.ro b o hb
 have plain:g=c/\iy 0 g=true->Is Hb c u:=λ⟨e,hi⟩=>by
  subst e;have e1:Is (H.via id 0) g u:=by rw[<-mR g]at h;exact ql h hi
  have hle:(H.via id 0).le Hb:=⟨aQ _,hmono,λi hi=>absurd hi (cf _),λi hi=>absurd hi (cf _)⟩;exact e1.mono hle
 cases g with
 |o m=>
  cases c with
  |sl sz rows=>
   obtain⟨hv,hm⟩:=h.mh;simp only[Lj]at hl;split at hl
   ·rename_i ty z rs hlk
    obtain⟨rfl,rfl⟩:=hl;obtain⟨xs,hown,hrow⟩:=hs.holds _ (ib hlk);rw[hv];exact .ro (hrow.sl hmono hown (λb _=>hro b))
   ·rename_i i z lo n hlk
    obtain⟨rfl,hl⟩:=hl;split at hl
    ·rename_i ty z' rs hlk'
     obtain⟨rfl,hle,rfl⟩:=hl;obtain⟨_,A,c,hsv,hnc,hcm,hz,hA⟩:=hs.holds _ (ib hlk);obtain⟨xs,hown,hrow⟩:=hs.holds _ (ib hlk');have hsl:=hrow.sl (ro':=Hb.ro) hmono hown (λb _=>hro b);obtain⟨A',c',us,hv',_,_,hrl,hne⟩:=hsl.ny;have hlen:((rs.drop lo).take n).length=n:=aq
     rw[hv,hsv];by_cases hn:n=0
     ·subst hn;simp only[eF];cases A with
      |none=>
       rw[hz rfl];exact .ro .slnil
      |some ad=>exact .ro (.sl (λ_ _=>.bool false) aA aA hcm (λi row hr=>by simp at hr) (λi row hr=>by simp at hr) (λ_ _=>rfl))
     obtain⟨g,l',c2,hsi,hll,rfl⟩:=hA az;have hrs:rs≠ []:=λe=>by
      have h0:rs.length=0:=by rw[e];rfl
      omega
     obtain⟨ad,hA',h3,h4,h5⟩:=hne hrs;rw[hsi]at hv';subst hA';injection hv' with e1 e2 e3;injection e1 with e1;subst e1;have hget:∀i row,((rs.drop lo).take n)[i]? =some row->rs[lo+i]? =some row:=λi row hr=>by
      rw[bD]at hr;split at hr
      ·rwa [bo]at hr
      cases hr
     have key:=jM.sl (ro:=Hb.ro) (ad:=⟨g,lo*z',none⟩) (sz:=z') (rows:=(rs.drop lo).take n) (c:=c) (λi j=>us (lo+i) j) (λrow hr=>hrl row (cF (b9 hr))) (by rw[hlen];exact hnc) hcm (λi row hr j gv hj=>by
      have:=h3 _ _ (hget i row hr) j gv hj;rw[j5]at this|-;rw[show lo*z'+(i*z'+j)=0+((lo+i)*z'+j) by rw[cg];omega];exact this) (λi row hr j gv hj=>h4 _ _ (hget i row hr) j gv hj) (λi j=>h5 _ _)
     rw[hlen]at key;exact .ro key
    exact hl.elim
   exact hl.elim
  |_=>exact plain hl
 |_=>exact plain (by cases c<;>exact hl)
def JK.AJ {all:List Oper} {o:Oper} {rest:List Oper} {k:List It} {s:St} {fo:Operand} {args:Array Operand} {ts:Array TypeId} {f:FuncId} {first caps gs:List GV} {cargs:List GV} {Q:GV->Heap->Nat->Prop}
  (hct:Ct cx.pg f 0 cargs [] Q) (hcall:∀aas w,(callFunc f aas).run cx.pg.P w=.ok (.enter f aas) w)
  (ho:o.op=.call {callee:=.value fo,args:=args,argTypes:=ts}) (hgd:mS all s.ρ o.guard=true) (hf:ev cx.pg s.ρ fo=some (.fn (.func f) first caps)) (he:qR cx.pg s.ρ args.toList=some gs)
  (hl:uJ s.σ (first++gs++caps) cargs) (hQ:∀g σ' n',Q g σ' n'->(iy 0 g&&mq g)=true)
  (h:∀g σ' n',Q g σ' n'->nf g λg=>iO cx.N s.ρ o.dst g λρ'=>JK cx T (.ops false all rest::k) ⟨ρ',s.σ,s.n⟩):
  JK cx T (.ops false all (o::rest)::k) s:=by
 intro H a w hg hs ha;have hw:=j_ (o:=o) ha.env hgd;obtain⟨us,hc,hex⟩:=tx (ts:=ts) hg ha.env hf he hcall
 let Hb:Hid:=⟨λb=>w.heap[b]?,λ_=>0,λ_=>.bool false,0⟩
 obtain⟨hlen,hlent⟩:=yz hl;have hcb:Cells Hb cargs us:=⟨by rw[<-hlen];exact hc.1,λj c hj=>by
  obtain⟨g,hgj,hl⟩:=hlent j c hj;exact JN hs.sat (λ_=>rfl) hl (hc.2 j g hgj)⟩
 have hgb:iX cx.pg Hb:=⟨λg gv hgv=>(hg g gv hgv).mono (λb o hb=>hs.sat.ro b o hb),λg cs hgc=>by
  obtain⟨c,ty,fz,e,hz⟩:=hg.ex g cs hgc;exact⟨c,ty,fz,hs.sat.ro _ _ e,hz⟩⟩
 show wpList _ _ _ _ _ _;unfold wpList;rw[if_pos hw];refine .inl ?_;unfold Oper.wp;rw[hex o ho w,Oper.upon_enter];refine (hct Hb us w rfl hgb hcb ⟨λb o h=>h,aA,by simp[g_],by simp[g_],aA⟩).mono ?_;rintro e w' ⟨u,g,H',σ',rfl,hi,hs',hfr,hq⟩;have hbel:Below w.heap.size w w':=⟨hfr.os,hfr.tape,hfr.output,hfr.size,λb hb=>hfr.keep b hb (by simp[g_])⟩;have hchk:=hQ g σ' _ hq;simp only[aG]at hchk;have hi':Is H g u:=hi.free hchk.1 hchk.2;have hd:=h g σ' _ hq;rw[nc]at hd;obtain⟨ρ',ha',hJ⟩:=ha.iO hi' hd;exact hJ H (a.put o.dst u) w' hg ((hs.below hbel).ρ ρ') ha'
end
section
variable {p:Pg}
def uq{H:Hid}{vs:List Value}{us:Array Value}(h:Cells H (vs.map .v) us):us=vs.toArray:=by
 obtain⟨hl,hi⟩:=h;refine dW (by simpa using hl.symm) (λi h1 h2=>?_);have h2':i<vs.length:=by simpa using h2
 have:=(hi i (.v vs[i]) (by simp[h2'])).iH;rw[Array.getD,dif_pos h1]at this;simpa using this
def Fr.x_{H:Hid}{w w':World}(hb:Below w.heap.size w w'):Fr H [] w H [] w':=
 ⟨hb.os,hb.tape,hb.output,hb.size,λb h _=>hb.block b h,λ_ h=>(dm h).elim,λ_ h1 h2=>(h2 h1).elim,Hid.le.refl H⟩
def Ct.x_{f:FuncId}(vs:List Value)(g:Value)(h:∀w,Calls p.P f vs.toArray w λe w'=>e=.returned g/\Below w.heap.size w w'):Ct p f 0 (vs.map .v) [] (uj λx=>x=.v g):=by
 intro H us w hn hg hc hs;rw[uq hc];refine Calls.mono (h w) (λe w' he=>?_);obtain⟨rfl,hb⟩:=he;exact⟨g,.v g,H,[],rfl,.ro (.v g),hs.below hb,Fr.x_ hb,rfl,rfl,hn⟩
end
section
variable {p:Pg}
end
section
variable {cx:Cx}{T:jz}
end
mutual
def lL:GV->GV->Prop
 | .b c,.v (.bool d)=>d=c
 | .b c,.b d=>d=c
 | .v (.bool c),.b d=>d=c
 | .tup xs,.tup ys=>t_ xs ys
 |x,y=>y=x
def t_:List GV->List GV->Prop
 | [],[]=>True
 |x::xs,y::ys=>lL x y/\t_ xs ys
 |_,_=>False
end
mutual
def zt{H:Hid}:∀{x y:GV} {u:Value},lL x y->Is H y u->Is H x u
 | .tup xs,.tup ys,u,h,hi=>by
  simp only[lL]at h;obtain⟨us,rfl,hl,hi⟩:=hi.uW;obtain⟨h1,h2⟩:=AF xs ys h hi;exact .tup (by rw[h1];exact hl) h2
 | .b c,y,u,h,hi=>by
  cases y with
  |v x=>
   cases x with
   |bool d=>simp only[lL]at h;subst h;have:=hi.iH;subst this;exact .ro (.b _)
   |_=>simp only[lL]at h;cases h
  |b d=>simp only[lL]at h;subst h;exact hi
  |_=>simp only[lL]at h;cases h
 | .v x,y,u,h,hi=>by
  cases x with
  |bool c=>
   cases y with
   |b d=>simp only[lL]at h;subst h;have:=hi.nF;subst this;exact .ro (.v _)
   |v z=>simp only[lL]at h;rw[<-h];exact hi
   |_=>simp only[lL]at h;cases h
  |_=>simp only[lL]at h;rw[<-h];exact hi
 | .tup xs,.v _,_,h,hi| .tup xs,.b _,_,h,hi| .tup xs,.p _ _,_,h,hi| .tup xs,.e _ _ _ _,_,h,hi| .tup xs,.o _,_,h,hi| .tup xs,.r _,_,h,hi| .tup xs,.sl _ _,_,h,hi| .tup xs,.agg _,_,h,hi| .tup xs,.fn _ _ _,_,h,hi| .tup xs,.ifc _ _,_,h,hi=>by simp only[lL]at h;cases h
 | .p _ _,y,_,h,hi| .e _ _ _ _,y,_,h,hi| .o _,y,_,h,hi| .r _,y,_,h,hi| .sl _ _,y,_,h,hi| .agg _,y,_,h,hi| .fn _ _ _,y,_,h,hi| .ifc _ _,y,_,h,hi=>by simp only[lL]at h;rw[<-h];exact hi
def AF{H:Hid}{F:Nat->Value}:∀(xs ys:List GV),t_ xs ys->(∀(j:Nat) (g:GV),ys[j]? =some g->Is H g (F j))->xs.length=ys.length/\∀(j:Nat) (g:GV),xs[j]? =some g->Is H g (F j)
 | [],[],_,_=>⟨rfl,λj g hj=>by simp at hj⟩
 |x::xs,y::ys,h,hi=>by
  simp only[t_]at h;obtain⟨h1,h2⟩:=AF (F:=λj=>F (j+1)) xs ys h.2 (λj g hj=>hi (j+1) g (by simpa using hj));refine⟨by simp[h1],λj g hj=>?_⟩;cases j with
  |zero=>simp at hj;subst hj;exact zt h.1 (hi 0 y rfl)
  |succ j=>exact h2 j g (by simpa using hj)
 | [],_::_,h,_=>by simp[t_]at h
 |_::_,[],h,_=>by simp[t_]at h
end
mutual
def DZ:∀{x y:GV},lL x y->iy 0 y=true->iy 0 x=true
 | .tup xs,.tup ys,h,hi=>by
  simp only[lL]at h;simp only[iy]at hi|-;exact G3 xs ys h hi
 | .b c,y,_,_=>rfl
 | .v x,y,_,_=>rfl
 | .tup xs,.v _,h,hi| .tup xs,.b _,h,hi| .tup xs,.p _ _,h,hi| .tup xs,.e _ _ _ _,h,hi| .tup xs,.o _,h,hi| .tup xs,.r _,h,hi| .tup xs,.sl _ _,h,hi| .tup xs,.agg _,h,hi| .tup xs,.fn _ _ _,h,hi| .tup xs,.ifc _ _,h,hi=>by simp only[lL]at h;cases h
 | .p _ _,y,h,hi| .e _ _ _ _,y,h,hi| .o _,y,h,hi| .r _,y,h,hi| .sl _ _,y,h,hi| .agg _,y,h,hi| .fn _ _ _,y,h,hi| .ifc _ _,y,h,hi=>by simp only[lL]at h;rw[<-h];exact hi
def G3:∀(xs ys:List GV),t_ xs ys->im 0 ys=true->im 0 xs=true
 | [],[],_,_=>rfl
 |x::xs,y::ys,h,hi=>by
  simp only[t_]at h;simp only[im,aG]at hi|-;exact⟨DZ h.1 hi.1,G3 xs ys h.2 hi.2⟩
 | [],_::_,h,_=>by simp[t_]at h
 |_::_,[],h,_=>by simp[t_]at h
end
mutual
def o4(f:Nat->Nat):∀{g:GV},iy 0 g=true->jW f g=g
 | .v _,_| .b _,_| .r _,_| .sl _ _,_=>rfl
 | .p _ _,h| .e _ _ _ _,h| .o _,h=>by simp[iy]at h
 | .agg cs,h=>by simp only[iy]at h;simp only[jW,qn f cs h]
 | .tup cs,h=>by simp only[iy]at h;simp only[jW,qn f cs h]
 | .fn g aas cs,h=>by simp only[iy,aG]at h;simp only[jW,qn f aas h.1,qn f cs h.2]
 | .ifc t x,h=>by simp only[iy]at h;simp only[jW,o4 f h]
def qn(f:Nat->Nat):∀(l:List GV),im 0 l=true->j4 f l=l
 | [],_=>rfl
 |g::r,h=>by simp only[im,aG]at h;simp only[j4,o4 f h.1,qn f r h.2]
end
structure Rq(p:Pg)(f:FuncId)(args:List GV)(Q:GV->Prop):Prop where
 call:∀aas w,(callFunc f aas).run p.P w=.ok (.enter f aas) w
 ct:Ct p f 0 args [] (uj λg=>Q g/\iy 0 g=true)
abbrev Rt(p:Pg)(f:FuncId)(args:List GV)(G:GV):Prop:=Rq p f args (· =G)
def Rq.of {p:Pg} {f:FuncId} {fn:Func} {c:Code} {N:Nat} {args:List GV} {Q:GV->Prop} (hp:p.Ok) (hf:p.P.funcs[f]? =some fn) (hb:fn.body=some c) (hN:fn.ntmps=N) (hl:Nat.ble args.length N=true) {rs:Array ResultVar} (hr:fn.results=rs)
  (hc:∀aas w,(callFunc f aas).run p.P w=.ok (.enter f aas) w)
  (h:∀(H0:Hid) (S0:List Nat) (w0:World) (h0:H0.n=0) (g0:iX p H0),vc ⟨p,N,0,H0,S0,w0,h0,g0⟩ (DC p rs.toList λg _ _=>Q g/\iy 0 g=true) 400 [.code c] ⟨qp 0 args,[],0⟩):Rq p f args Q:=
 ⟨hc,Ct.jK (Ct.j7 hp hf hb hN hl hr λH0 S0 w0 h0 g0=>ia hp 400 _ _ (h H0 S0 w0 h0 g0)) λg σ' n' hq=>⟨id,g,[],0,⟨hq,rfl,rfl⟩,(mR g).symm,trivial,by simp[hq.2,iL,iv,iu,jf]⟩⟩
def Rt.of {p:Pg} {f:FuncId} {fn:Func} {c:Code} {N:Nat} {args:List GV} {G:GV} (hp:p.Ok) (hf:p.P.funcs[f]? =some fn) (hb:fn.body=some c) (hN:fn.ntmps=N) (hl:Nat.ble args.length N=true) {rs:Array ResultVar} (hr:fn.results=rs)
  (hc:∀aas w,(callFunc f aas).run p.P w=.ok (.enter f aas) w)
  (h:∀(H0:Hid) (S0:List Nat) (w0:World) (h0:H0.n=0) (g0:iX p H0),vc ⟨p,N,0,H0,S0,w0,h0,g0⟩ (DC p rs.toList λg _ _=>lL G g/\iy 0 g=true) 400 [.code c] ⟨qp 0 args,[],0⟩):Rt p f args G:=by
 refine⟨hc,λH us w hn hg hcs hs=>(((Rq.of (Q:=lL G) hp hf hb hN hl hr hc h).ct H us w hn hg hcs hs).mono ?_)⟩;rintro e w' ⟨u,g,H',σ',rfl,hi,hs',hfr,hq,h1,h2⟩;exact⟨u,G,H',σ',rfl,zt hq.1 hi,hs',hfr,⟨rfl,DZ hq.1 hq.2⟩,h1,h2⟩
def Rq.mono{p:Pg}{f:FuncId}{args:List GV}{Q Q':GV->Prop}(h:Rq p f args Q)(hq:∀g,Q g->Q' g):Rq p f args Q':=
 ⟨h.call,λH us w hn hg hcs hs=>(h.ct H us w hn hg hcs hs).mono λ_ _ ⟨u,g,H',σ',e,hi,hs',hfr,hv,r⟩=>⟨u,g,H',σ',e,hi,hs',hfr,⟨hq g hv.1,hv.2⟩,r⟩⟩
def mQ(p:Pg)(all:List Oper)(ρ:Env)(o:Oper):Option (FuncId×List GV):=
 bif mS all ρ o.guard then (match o.op with
  | .call {callee:=.value fo,args:=args,.. }=>(match ev p ρ fo,qR p ρ args.toList with
   |some (.fn (.func f) first caps),some gs=>some (f,first++gs++caps)
   |_,_=>none)
  |_=>none) else none
def wa:∀σ:Heap,jr [] σ=σ
 | []=>rfl
 | (id,x)::r=>by simp[jr,je,wa r]
def lB(N:Nat)(ρ:Env):Option Nat->GV->(Env->Prop)->Prop
 |some d,g,K=>bif Nat.blt d N then K ((d,g)::ρ) else False
 |none,_,K=>K ρ
def oh(N:Nat)(ρ:Env)(d:Option Nat)(g:GV)(K:Env->Prop):lB N ρ d g K=iO N ρ d g K:=by
 cases d<;>simp[lB,iO,nc]
section
variable {cx:Cx}{T:jz}
def mu{p:Pg}{all:List Oper}{ρ:Env}{o:Oper}{f:FuncId}{cargs:List GV}(h:mQ p all ρ o=some (f,cargs)):
  ∃fo args ts first caps gs,o.op=.call {callee:=.value fo,args:=args,argTypes:=ts}/\mS all ρ o.guard=true/\ev p ρ fo=some (.fn (.func f) first caps)/\qR p ρ args.toList=some gs/\first++gs++caps=cargs:=by
 unfold mQ at h;cases hg:mS all ρ o.guard with
 |false=>rw[hg]at h;cases h
 |true=>
  rw[hg]at h;simp only[cond_true]at h;split at h
  ·rename_i fo args ts ho
   split at h
   ·rename_i f' first caps gs h1 h2
    simp only[aV,bK]at h;obtain⟨rfl,rfl⟩:=h;exact⟨fo,args,ts,first,caps,gs,ho,rfl,h1,h2,rfl⟩
   cases h
  cases h
def JK.UR {all:List Oper} {o:Oper} {rest:List Oper} {k:List It} {s:St} {f:FuncId} {cargs:List GV} {Q:GV->Prop} (hp:cx.pg.Ok) (hr:Rq cx.pg f cargs Q) (hk:mQ cx.pg all s.ρ o=some (f,cargs)) (hb:im 0 cargs=true)
  (h:∀g,Q g->lB cx.N s.ρ o.dst g λρ'=>vc cx T 400 (.ops false all rest::k) ⟨ρ',s.σ,s.n⟩):JK cx T (.ops false all (o::rest)::k) s:=by
 obtain⟨fo,args,ts,first,caps,gs,ho,hgd,hf,he,hargs⟩:=mu hk;intro H a w hg hs ha;have hw:=j_ (o:=o) ha.env hgd;show wpList _ _ _ _ _ _;unfold wpList;rw[if_pos hw];refine .inl (xm (r:=id) (n0:=0) (σc:=[]) hr.ct hr.call ho hf he (by rw[nE];exact hargs) trivial (by simp[hb,iL,iv,iu]) aA hg hs ha.env λH'' u g σ' n' w' hle hi hQ hsim=>?_);obtain⟨⟨hq,hidb⟩,rfl,rfl⟩:=hQ;have hd:=h g hq;rw[oh]at hd;rw[o4 _ hidb]at hi;have e:jr (iv id []) s.σ=s.σ:=wa s.σ;simp only[mm,dy,e]at hsim;obtain⟨ρ',ha',hJ⟩:=(ha.mono hle).iO hi hd;exact ia hp 400 _ _ hJ H'' (a.put o.dst u) w' (hg.mono hle) (hsim ρ') ha'
def JK.go {all:List Oper} {o:Oper} {rest:List Oper} {k:List It} {s:St} {f:FuncId} {cargs:List GV} {G:GV} (hp:cx.pg.Ok) (hr:Rt cx.pg f cargs G) (hk:mQ cx.pg all s.ρ o=some (f,cargs)) (hb:im 0 cargs=true)
  (h:lB cx.N s.ρ o.dst G λρ'=>vc cx T 400 (.ops false all rest::k) ⟨ρ',s.σ,s.n⟩):JK cx T (.ops false all (o::rest)::k) s:=
 JK.UR hp hr hk hb λg hg=>by subst hg;exact h
def JK.kN {all:List Oper} {o:Oper} {rest:List Oper} {k:List It} {s:St} {f:FuncId} {cargs gs:List GV} {G:GV} (hp:cx.pg.Ok) (hr:Rt cx.pg f cargs G) (hk:mQ cx.pg all s.ρ o=some (f,gs)) (hl:uJ s.σ gs cargs) (hfree:mq G=true)
  (h:lB cx.N s.ρ o.dst G λρ'=>vc cx T 400 (.ops false all rest::k) ⟨ρ',s.σ,s.n⟩):JK cx T (.ops false all (o::rest)::k) s:=by
 obtain⟨fo,args,ts,first,caps,gs',ho,hgd,hf,he,hargs⟩:=mu hk;refine JK.AJ hr.ct hr.call ho hgd hf he (by rw[hargs];exact hl) (λg σ' n' hq=>?_) (λg σ' n' hq=>?_)
 ·obtain⟨⟨rfl,h1⟩,_,_⟩:=hq;simp[h1,hfree]
 obtain⟨⟨rfl,h1⟩,_,_⟩:=hq;rw[nc,<-oh]
 revert h
 cases o.dst with
 |none=>exact λh=>ia hp 400 _ _ h
 |some d=>
  simp only[lB];cases Nat.blt d cx.N with
  |false=>exact λh=>h
  |true=>exact λh=>ia hp 400 _ _ h
structure Hf(p:Pg)(f:FuncId)(n0:Nat)(args:List GV)(σ:Heap)(Q:GV->Heap->Nat->Prop):Prop where
 call:∀aas w,(callFunc f aas).run p.P w=.ok (.enter f aas) w
 ct:Ct p f n0 args σ Q
def Hf.of {p:Pg} {f:FuncId} {fn:Func} {c:Code} {n0 N:Nat} {args:List GV} {σ:Heap} {Q:GV->Heap->Nat->Prop} (hp:p.Ok) (hf:p.P.funcs[f]? =some fn) (hb:fn.body=some c) (hN:fn.ntmps=N) (hl:Nat.ble args.length N=true) {rs:Array ResultVar} (hr:fn.results=rs)
  (hc:∀aas w,(callFunc f aas).run p.P w=.ok (.enter f aas) w)
  (h:∀(H0:Hid) (S0:List Nat) (w0:World) (h0:H0.n=n0) (g0:iX p H0),vc ⟨p,N,n0,H0,S0,w0,h0,g0⟩ (DC p rs.toList Q) 400 [.code c] ⟨qp 0 args,σ,n0⟩):Hf p f n0 args σ Q:=
 ⟨hc,Ct.j7 hp hf hb hN hl hr λH0 S0 w0 h0 g0=>ia hp 400 _ _ (h H0 S0 w0 h0 g0)⟩
def Hf.jK {p:Pg} {f:FuncId} {n0:Nat} {args:List GV} {σ:Heap} {Q Q':GV->Heap->Nat->Prop} (h:Hf p f n0 args σ Q)
  (hQ:∀g σ' n',Q g σ' n'->∃(r:Nat->Nat) (g0:GV) (τ:Heap) (m:Nat),Q' g0 τ m/\g=jW r g0/\o7 r τ σ'/\(iy m g0&&iL m τ&&iu (iv r τ)&&jf r n0&&Nat.ble n0 m)=true):Hf p f n0 args σ Q':=
 ⟨h.call,h.ct.jK hQ⟩
def JK.TW {all:List Oper} {o:Oper} {rest:List Oper} {k:List It} {s:St} {f:FuncId} {n0:Nat} {cargs gs:List GV} {σc:Heap} {Q:GV->Heap->Nat->Prop} (hp:cx.pg.Ok) (hr:Hf cx.pg f n0 cargs σc Q) (r:Nat->Nat) (hk:mQ cx.pg all s.ρ o=some (f,gs)) (hargs:gs=j4 r cargs) (hσ:o7 r σc s.σ)
  (chk:(im n0 cargs&&iL n0 σc&&iu (iv r σc))=true) (hrn:∀i,i<n0->r i<s.n)
  (h:∀g σ' n',Q g σ' n'->nf (jW (sh r n0 s.n) g) λg=>kG (mm (sh r n0 s.n) σ'++jr (iv r σc) s.σ) λσ=>kW (s.n+(n'-n0)) λn=>iO cx.N s.ρ o.dst g λρ'=>vc cx T 400 (.ops false all rest::k) ⟨ρ',σ,n⟩):
  JK cx T (.ops false all (o::rest)::k) s:=by
 obtain⟨fo,args,ts,first,caps,gs',ho,hgd,hf,he,hargs'⟩:=mu hk;refine JK.call hr.ct hr.call r ho hgd hf he (hargs'.trans hargs) hσ chk hrn (λg σ' n' hq=>?_);have:=h g σ' n' hq;rw[nc,jy,j9]at this|-;have key:∀{d:Option Nat} {g:GV} {K K':Env->Prop},(∀ρ,K ρ->K' ρ)->iO cx.N s.ρ d g K->iO cx.N s.ρ d g K':=by
  intro d g K K' hKK h;cases d with
  |none=>exact hKK _ h
  |some d=>
   simp only[iO,nc]at h|-;cases hb:Nat.blt d cx.N with
   |false=>rw[hb]at h;exact h
   |true=>rw[hb]at h;exact hKK _ h
 exact key (λρ hv=>ia hp 400 _ _ hv) this
def RA.Vj {ops:List Oper} {k:List It} {σs:Heap} {ρq:Env} {fuel:Nat} {listed:List Bool} {s:St} (i:Nat) (order:List (Nat×Bool)) (e:Bool) {o:Oper} {f:FuncId} {cargs:List GV} {G:GV} (hp:cx.pg.Ok) (kM:Region.noSelect ops.toArray=true) (hT:∀ch s,¬T (.panic ch) s) (hr:Rt cx.pg f cargs G) (hi:ops[i]? =some o) (hk:mQ cx.pg ops s.ρ o=some (f,cargs)) (hb:im 0 cargs=true)
  (hB:(vC (Region.ready .any ops.toArray listed.toArray) [i] &&sW ops e order (listed.set i true))=true)
  (h:lB cx.N s.ρ o.dst G λρ'=>p9 (oS ρq o.dst G) λρq=>r4 cx T ops k σs e order fuel (listed.set i true) ρq ⟨ρ',s.σ,s.n⟩):RA cx T ops k σs ρq (fuel+1) listed s:=by
 obtain⟨fo,args,ts,first,caps,gs,ho',hgd,hf,he,hargs⟩:=mu hk;simp only[aG]at hB;refine RA.call (n0:=0) (r:=id) (σc:=[]) i hr.ct hr.call hi (iV hB.1) hgd ho' hf he (by rw[nE];exact hargs) trivial (by simp[hb,iL,iv,iu]) aA ?_;rintro g σ' n' ⟨⟨rfl,hidb⟩,rfl,rfl⟩;rw[nc,jy,j9,oE];rw[o4 _ hidb,<-oh];simp only[oE]at h;have e1:mm (sh id 0 s.n) []++jr (iv id []) s.σ=s.σ:=by rw[show iv id []=[] from rfl,wa];rfl
 rw[e1]
 revert h
 cases o.dst with
 |none=>exact λh=>RA.run hp kM hT order hB.2 h
 |some d=>
  simp only[lB];cases Nat.blt d cx.N with
  |false=>exact λh=>h
  |true=>exact λh=>RA.run hp kM hT order hB.2 h
def RA.Ur {ops:List Oper} {k:List It} {σs:Heap} {ρq:Env} {fuel:Nat} {listed:List Bool} {s:St} (i:Nat) (order:List (Nat×Bool)) (e:Bool) {o:Oper} (hp:cx.pg.Ok) (kM:Region.noSelect ops.toArray=true) (hT:∀ch s,¬T (.panic ch) s) (hi:ops[i]? =some o) (hgd:B8 ops s.ρ o.guard=true)
  (hB:(vC (Region.ready .any ops.toArray listed.toArray) [i] &&sW ops e order (listed.set i true))=true)
  (h:lB cx.N s.ρ o.dst (.v undef) λρ'=>p9 (vp ρq o.dst (.v undef)) λρq=>r4 cx T ops k σs e order fuel (listed.set i true) ρq ⟨ρ',s.σ,s.n⟩):RA cx T ops k σs ρq (fuel+1) listed s:=by
 simp only[aG]at hB;refine RA.skip i hi (iV hB.1) hgd ?_;rw[<-oh];simp only[oE]at h
 revert h
 cases o.dst with
 |none=>exact λh=>RA.run hp kM hT order hB.2 h
 |some d=>
  simp only[lB];cases Nat.blt d cx.N with
  |false=>exact λh=>h
  |true=>exact λh=>RA.run hp kM hT order hB.2 h
end
section
variable {p:Pg}
def Rt.calls{f:FuncId}(hc:∀a w,(callFunc f a).run p.P w=.ok (.enter f a) w)(vs:List Value)(g:Value)(h:∀w,Calls p.P f vs.toArray w λe w'=>e=.returned g/\Below w.heap.size w w'):Rt p f (vs.map .v) (.v g):=
 ⟨hc,λH us w hn hg hcs hs=>(Ct.x_ vs g h H us w hn hg hcs hs).mono λ_ _ ⟨u,g',H',σ',e',hi',hs',hfr,hv,r⟩=>⟨u,g',H',σ',e',hi',hs',hfr,⟨hv,by rw[hv];rfl⟩,r⟩⟩
structure F9(w:World)(A:Option Addr)(c:Nat)(xs:List Value):Prop where
 cap:xs.length<=c
 max:c<=maxLen
 at_:xs=[] \/∃b o,A=some ⟨b,o,none⟩/\b<w.heap.size/\∀(j:Nat) (x:Value),xs[j]? =some x->w.cell? ⟨b,o+j,none⟩=some x
def F9.of{ro:Nat->Option Obj}{w:World}(hro:∀b o,ro b=some o->w.heap[b]? =some o){xs:List Value}{u:Value}(h:jM ro (.sl 1 (xs.map λx=>[.v x])) u):∃A c,u=.slice A xs.length c/\F9 w A c xs:=by
 obtain⟨A,c,us,rfl,hlc,hcm,_,hne⟩:=h.ny;simp only[aD]at hlc|-;refine⟨A,c,rfl,⟨hlc,hcm,?_⟩⟩;cases xs with
 |nil=>exact .inl rfl
 |cons x0 r=>
  obtain⟨⟨b,o,sp⟩,rfl,h1,h2,_⟩:=hne aA;refine .inr ?_;have h00:=h1 0 [.v x0] rfl 0 (.v x0) rfl;have hsp:sp=none:=by
   have:({block:=b,off:=o,spot:=sp}:Addr).add (0*1+0)=⟨b,o,sp⟩:=by simp[Addr.add]
   rw[this]at h00;unfold pn at h00;split at h00
   ·split at h00
    ·cases h00
    rename_i hs;simpa using hs
   cases h00
  subst hsp;have hcell:=pU hro h00;refine⟨b,o,rfl,?_,λj x hj=>?_⟩
  ·have:=World.block_lt_of_cell? w _ hcell
   rwa [Dz]at this
  have hr:((x0::r).map λx=>[GV.v x])[j]? =some [.v x]:=by rw[bg,hj];rfl
  have e1:=pU hro (h1 j [.v x] hr 0 (.v x) rfl);have e2:=h2 j [.v x] hr 0 (.v x) rfl;cases e2;rw[j5]at e1;simpa using e1
def Rt.slice{f:FuncId}(hc:∀a w,(callFunc f a).run p.P w=.ok (.enter f a) w)(xs vs:List Value)(g:Value)(h:∀(A:Option Addr) (c:Nat) (w:World),F9 w A c xs->Calls p.P f (#[.slice A xs.length c]++vs.toArray) w λe w'=>e=.returned g/\Below w.heap.size w w'):
  Rt p f (.sl 1 (xs.map λx=>[.v x])::vs.map .v) (.v g):=by
 refine⟨hc,λH us w hn hg hcs hs=>?_⟩;obtain⟨hl,hi⟩:=hcs;have h0:us.size=vs.length+1:=by rw[<-hl];simp
 obtain⟨A,c,hu0,hat⟩:=F9.of hs.ro (hi 0 _ rfl).ny;have hus:us=#[.slice A xs.length c]++vs.toArray:=by
  apply fc;intro i;cases i with
  |zero=>
   have:us[0]? =some (us.getD 0 undef):=by simp[Array.getD,h0]
   rw[this,hu0];simp
  |succ i=>
   by_cases hlt:i<vs.length
   ·have h1:=(hi (i+1) (.v vs[i]) (by simp[hlt])).iH;have:us[i+1]? =some (us.getD (i+1) undef):=by simp[Array.getD,h0,hlt]
    rw[this,h1];simp[hlt]
   rw[ft az,ft aq]
 rw[hus];refine (h A c w hat).mono ?_;rintro e w' ⟨rfl,hb⟩;exact⟨g,.v g,H,[],rfl,.ro (.v g),hs.below hb,Fr.below (Fr.refl _ _ _) hb,⟨rfl,rfl⟩,rfl,hn⟩
end
end Go.GK
namespace Go.GK
open Go Go.RowKit IntKind
mutual
def pB(id:Nat)(cs0:List GV):GV->GV
 | .o j=>.o j
 | .agg cs=>.agg (sU id cs0 cs)
 | .tup cs=>.tup (sU id cs0 cs)
 | .fn f aas cs=>.fn f (sU id cs0 aas) (sU id cs0 cs)
 | .ifc t x=>.ifc t (pB id cs0 x)
 | .v x=>.v x
 | .b c=>.b c
 | .p j off=>bif Nat.beq j id then .r (cs0.drop off) else .p j off
 | .e j z i off=>.e j z i off
 | .r cs=>.r cs
 | .sl z r=>.sl z r
def sU(id:Nat)(cs0:List GV):List GV->List GV
 | []=>[]
 |g::r=>pB id cs0 g::sU id cs0 r
end
def HF(id:Nat)(cs0:List GV):Env->Env
 | []=>[]
 | (t,g)::r=>(t,pB id cs0 g)::HF id cs0 r
def Pm(id:Nat)(cs0:List GV):hY->hY
 | .hZ ty cs=>.hZ ty (sU id cs0 cs)
 | .row ty z rs=>.row ty z rs
 | .ob o=>.ob o
 | .ln sz n=>.ln sz n
 | .sub i z lo n=>.sub i z lo n
 | .mp kd es=>.mp kd (es.map λx=>(x.1,pB id cs0 x.2))
 | .mr kd es left cur=>.mr kd (es.map λx=>(x.1,pB id cs0 x.2)) left cur
 | .itr m=>.itr m
 | .me kd es k st=>.me kd (es.map λx=>(x.1,pB id cs0 x.2)) k st
 | .mre kd es left cur k st=>.mre kd (es.map λx=>(x.1,pB id cs0 x.2)) left cur k st
 | .ab A=>.ab A
def xy(id:Nat)(cs0:List GV):Heap->Heap
 | []=>[]
 | (j,x)::r=>(j,Pm id cs0 x)::xy id cs0 r
def BC(id:Nat)(cs0:List GV):∀(l:List GV) (j:Nat),(sU id cs0 l)[j]? =(l[j]?).map (pB id cs0)
 | [],j=>by simp[sU]
 |g::r,0=>by simp[sU]
 |g::r,j+1=>by simp[sU,BC id cs0 r j]
def oR(id:Nat)(cs0:List GV):∀(l:List GV),(sU id cs0 l).length=l.length
 | []=>rfl
 |_::r=>by simp[sU,oR id cs0 r]
def Fc(id:Nat)(cs0:List GV):∀(ρ:Env) (t:Nat),look (HF id cs0 ρ) t=(look ρ t).map (pB id cs0)
 | [],t=>rfl
 | (s,g)::r,t=>by
  simp only[HF,look];cases Nat.beq s t with
  |true=>rfl
  |false=>exact Fc id cs0 r t
def BV{id:Nat}{cs0:List GV}:∀{σ:Heap} {x:Nat×hY},x∈xy id cs0 σ->∃y∈σ,x=(y.1,Pm id cs0 y.2)
 | [],_,h=>by simp[xy]at h
 | (j,y)::r,x,h=>by
  simp only[xy,aF]at h;rcases h with rfl|h
  ·exact⟨_,bf,rfl⟩
  obtain⟨z,hz,e⟩:=BV h;exact⟨z,aK _ hz,e⟩
def Fe{H H':Hid}(e1:H'.bl=H.bl)(e2:H'.sv=H.sv){id:Nat}{cs0:List GV}:∀(σ:Heap),g_ H' (xy id cs0 σ)=g_ H σ
 | []=>rfl
 | (j,y)::r=>by
  simp only[xy,iD,Fe e1 e2 r]
  congr 1
  cases y<;>simp[Pm,blocks,e1,e2]
def Is.pB{H H':Hid}(hro:∀b o,H.ro b=some o->H'.ro b=some o)(e1:H'.bl=H.bl)(e2:H'.sv=H.sv)(e3:H'.n=H.n){id:Nat}{cs0:List GV}(hs:∀off,jM H'.ro (.r (cs0.drop off)) (.pointer (some ⟨H.bl id,off,none⟩))){g:GV}{u:Value}(h:Is H g u):Is H' (GK.pB id cs0 g) u:=by
 have hle:H.le H':=⟨cM e3.symm,hro,λi _=>by rw[e1],λi _=>by rw[e2]⟩;have hL:∀{cs:List GV} {us:Array Value},(∀(j:Nat) (g:GV),cs[j]? =some g->Is H' (GK.pB id cs0 g) (us.getD j undef))->∀(j:Nat) (g:GV),(sU id cs0 cs)[j]? =some g->Is H' g (us.getD j undef):=by
  intro cs us hh j g hj;rw[BC]at hj;cases hc:cs[j]? with
  |none=>rw[hc]at hj;cases hj
  |some x=>rw[hc]at hj;simp at hj;subst hj;exact hh j x hc
 induction h with
 |ro hr=>
  have hR:∀{g:GV} {u:Value},jM H.ro g u->Is H' (GK.pB id cs0 g) u:=by
   intro g u hr;induction hr with
   |v x=>exact .ro (.v x)
   |b c=>exact .ro (.b c)
   |r us h1 h2 _=>exact .ro ((jM.r us h1 h2).mono hro)
   |slnil=>exact .ro .slnil
   |sl us h0 hc hm h1 h2 h3 _=>exact .ro ((jM.sl us h0 hc hm h1 h2 h3).mono hro)
   |agg hl _ ih=>exact .agg (by rw[oR];exact hl) (hL ih)
   |tup hl _ ih=>exact .tup (by rw[oR];exact hl) (hL ih)
   |fn hl _ hl' _ ih ih'=>exact .fn (by rw[oR];exact hl) (hL ih) (by rw[oR];exact hl') (hL ih')
   |ifc _ ih=>exact .ifc ih
  exact hR hr
 | @p j off hid=>
  simp only[GK.pB];cases hb:Nat.beq j id with
  |true=>
   have:=beq_eq hb;subst this;exact .ro (hs off)
  |false=>exact (Is.p hid).mono hle
 |e hid hs=>exact (Is.e hid hs).mono hle
 |o hid hsj how=>exact (Is.o hid hsj how).mono hle
 |agg hl _ ih=>exact .agg (by rw[oR];exact hl) (hL ih)
 |tup hl _ ih=>exact .tup (by rw[oR];exact hl) (hL ih)
 |fn hl _ hl' _ ih ih'=>exact .fn (by rw[oR];exact hl) (hL ih) (by rw[oR];exact hl') (hL ih')
 |ifc _ ih=>exact .ifc ih
def GQ{H H':Hid}{id:Nat}{cs0:List GV}(hf:∀{g:GV} {u:Value},Is H g u->Is H' (GK.pB id cs0 g) u):∀{es:List (Value×GV)} {l:List MapEntry},mT H es l->mT H' (es.map λx=>(x.1,GK.pB id cs0 x.2)) l
 | [],[],_=>trivial
 | (_,_)::r,_::_,h=>⟨h.1,hf h.2.1,GQ hf (es:=r) h.2.2⟩
 | [],_::_,h=>h.elim
 |_::_,[],h=>h.elim
def kB.pB{H H':Hid}{id:Nat}{cs0:List GV}(hf:∀{g:GV} {u:Value},Is H g u->Is H' (GK.pB id cs0 g) u){kd:Option IntKind}{es:List (Value×GV)}{arr:Array MapEntry}{clock:Nat}(h:kB H kd es arr clock):kB H' kd (es.map λx=>(x.1,GK.pB id cs0 x.2)) arr clock:=
 ⟨GQ hf h.is,h.sorts,h.st⟩
section
variable {cx:Cx}{T:jz}
def JK.qF{k:List It}{s:St}(id:Nat){ty:Nat}{cs0:List GV}(hl:gW s.σ id=some (.hZ ty cs0))(hb0:im 0 cs0=true)(h:kG (xy id cs0 (jQ s.σ id)) λσ=>JK cx T k ⟨HF id cs0 s.ρ,σ,s.n⟩):JK cx T k s:=by
 rw[jy]at h;refine JK.CL _ (λH a w hg hs ha=>?_) h;obtain⟨l1,l2,e1,e2,_⟩:=kU hl;have hmem:=ib hl;obtain⟨us,hwb,hlen0,his0⟩:=hs.sat.holds _ hmem
 let ro':Nat->Option Obj:=λb=>if H.bl id=b then w.heap[b]? else H.ro b
 have hfree:∀b,H.bl id=b->H.ro b=none:=λb hb=>hs.sat.free b (aX.2 ⟨_,hmem,by simp[blocks,hb]⟩);have hro:∀b o,H.ro b=some o->ro' b=some o:=by
  intro b o ho;show (if _ then _ else _)=_;rw[if_neg (λhb=>by rw[hfree b hb]at ho;cases ho)];exact ho
 let H':Hid:={H with ro:=ro'}
 have hle:H.le H':=⟨aL _,hro,λ_ _=>rfl,λ_ _=>rfl⟩;have hsl:∀off,jM ro' (.r (cs0.drop off)) (.pointer (some ⟨H.bl id,off,none⟩)):=λoff=>by
  refine .r (λj=>us.getD (off+j) undef) (λj g hj=>?_) (λj g hj=>?_)
  ·rw[bo]at hj;have hlt:off+j<us.size:=by rw[<-hlen0];exact (aO.1 hj).1
   rw[j5];unfold pn;have hr:ro' (H.bl id)=some (.cells us ty (0,0)):=by
    show (if H.bl id=H.bl id then w.heap[H.bl id]? else _)=_;rw[if_pos rfl];exact hwb
   simp only[hr,Option.isSome_none,a7,if_false];simp[Array.getD,hlt]
  rw[bo]at hj;exact ((his0 _ g hj).Qx (Bn hb0 hj)).mono hro
 have hfz:∀{g:GV} {u:Value},Is H g u->Is H' (pB id cs0 g) u:=λhi=>Is.pB (H':=H') hro rfl rfl rfl hsl hi;have hfr:=hs.fr;have hnd:=hs.sat.nodup;have hbl:g_ H' (xy id cs0 (jQ s.σ id))=g_ H (l1++l2):=by rw[e2];exact Fe rfl rfl _
 rw[e1,il,iD]at hnd;have n1:=a8.1 hnd;have n2:=a8.1 n1.2.1;have hin:∀b∈g_ H (l1++l2),b∈g_ H s.σ:=λb hb=>by
  rw[e1,il,iD];rw[il]at hb;rcases aE.1 hb with h1|h1<;>simp[h1]
 have hnin:∀b∈g_ H (l1++l2),H.bl id≠b:=λb hb hc=>by
  have hc':b∈blocks H (id,.hZ ty cs0):=by simp[blocks,hc]
  rw[il]at hb;rcases aE.1 hb with h1|h1
  ·exact n1.2.2 b h1 b (by simp[hc']) rfl
  exact n2.2.2 b hc' b h1 rfl
 refine⟨H',hg.up hro,⟨hs.n,⟨λb o ho=>?_,λx hx=>?_,?_,λb hb=>?_,λx hx=>?_⟩,?_⟩,⟨λt g hlk=>?_,ha.size,ha.defers⟩⟩
 ·have ho':(if H.bl id=b then w.heap[b]? else H.ro b)=some o:=ho;split at ho'
  ·exact ho'
  exact hs.sat.ro b o ho'
 ·obtain⟨y,hy,rfl⟩:=BV hx;rw[e2]at hy;have hy':y∈s.σ:=by
   rw[e1];rcases aE.1 hy with h1|h1<;>simp[h1]
  have hh:=hs.sat.holds y hy';obtain⟨j,r⟩:=y;cases r with
  |hZ ty cs=>
   obtain⟨us,hw,hlen,hi⟩:=hh;refine⟨us,hw,by rw[oR];exact hlen,λj g hj=>?_⟩;rw[BC]at hj;cases hc:cs[j]? with
   |none=>rw[hc]at hj;cases hj
   |some x=>rw[hc]at hj;simp at hj;subst hj;exact hfz (hi j x hc)
  |row ty z rs=>obtain⟨ys,h1,h2⟩:=hh;exact⟨ys,h1,h2.mono hro⟩
  |ob o=>exact hh
  |ln z n=>exact hh
  |sub i z lo n=>exact hh
  |mp kd es=>
   obtain⟨b,arr,clock,h1,h2,h3⟩:=hh;exact⟨b,arr,clock,h1,h2,h3.pB hfz⟩
  |mr kd es left cur=>
   obtain⟨b,arr,clock,seen,h1,h2,h3,h4,h5⟩:=hh;exact⟨b,arr,clock,seen,h1,h2,h3,h4.pB hfz,h5⟩
  |itr m=>exact hh
  |me kd es k st=>
   obtain⟨h0,b,arr,clock,h1,h2,h3,h4⟩:=hh;exact⟨h0,b,arr,clock,h1,h2,h3.pB hfz,h4⟩
  |ab A=>exact A.mono _ _ _ _ _ hro hh
  |mre kd es left cur k st=>
   obtain⟨h0,b,arr,clock,seen,h1,h2,h3,h4,h5⟩:=hh;exact⟨h0,b,arr,clock,seen,h1,h2,h3,h4.pB hfz,h5⟩
 ·rw[hbl,il];exact a8.2 ⟨n1.1,n2.2.1,λb hb c hc e=>n1.2.2 b hb c (by simp[hc]) e⟩
 ·rw[hbl]at hb;show (if _ then _ else _)=_;rw[if_neg (hnin b hb)];exact hs.sat.free b (hin b hb)
 ·obtain⟨y,hy,rfl⟩:=BV hx;rw[e2]at hy;refine hs.sat.ids y ?_;rw[e1];rcases aE.1 hy with h1|h1<;>simp[h1]
 ·refine⟨hfr.os,hfr.tape,hfr.output,hfr.size,hfr.keep,λb hb=>?_,λb h1 h2=>?_,hfr.le.trans hle⟩
  ·rw[hbl]at hb;exact hfr.own b (hin b hb)
  have h2':(if H.bl id=b then w.heap[b]? else H.ro b)≠none:=h2;split at h2'
  ·rename_i hb
   exact hfr.own b (aX.2 ⟨_,hmem,by simp[blocks,hb]⟩)
  exact hfr.fro b h1 h2'
 rw[Fc]at hlk;cases hc:look s.ρ t with
 |none=>rw[hc]at hlk;cases hlk
 |some x=>rw[hc]at hlk;simp at hlk;subst hlk;exact hfz (ha.env t x hc)
end
end Go.GK
namespace Go.GK
open Go Go.RowKit IntKind
section
variable {cx:Cx}{T:jz}
def On {o:Oper} {s:St} {fo:Operand} {args:Array Operand} {ts:Array TypeId} {f:FuncId} {first caps gs:List GV} {cargs:List GV} {Q:GV->Heap->Nat->Prop}
  (hct:Ct cx.pg f 0 cargs [] Q) (hcall:∀aas w,(callFunc f aas).run cx.pg.P w=.ok (.enter f aas) w)
  (ho:o.op=.call {callee:=.value fo,args:=args,argTypes:=ts}) {ρ:Env} (hf:ev cx.pg ρ fo=some (.fn (.func f) first caps)) (he:qR cx.pg ρ args.toList=some gs) {σ0:Heap}
  (hl:uJ σ0 (first++gs++caps) cargs) (hQ:∀g σ' n',Q g σ' n'->(iy 0 g&&mq g)=true)
  {H:Hid} {a:Act} {w:World} (hg:iX cx.pg H) (hs:iQ cx H s w) (hsat:Sat H σ0 w) (ha:jH H ρ a) {K:Act->World->Prop} {Q':Exit->Act->World->Prop}
  (hK:∀(u:Value) (g:GV) (w':World) (σ':Heap) (n':Nat),Is H g u->Q g σ' n'->iQ cx H s w'->K (a.put o.dst u) w'):o.wp cx.pg.P a w K Q':=by
 obtain⟨us,hc,hex⟩:=tx (ts:=ts) hg ha hf he hcall
 let Hb:Hid:=⟨λb=>w.heap[b]?,λ_=>0,λ_=>.bool false,0⟩
 obtain⟨hlen,hlent⟩:=yz hl;have hcb:Cells Hb cargs us:=⟨by rw[<-hlen];exact hc.1,λj c hj=>by
  obtain⟨g,hgj,hl⟩:=hlent j c hj;exact JN hsat (λ_=>rfl) hl (hc.2 j g hgj)⟩
 have hgb:iX cx.pg Hb:=⟨λg gv hgv=>(hg g gv hgv).mono (λb o hb=>hsat.ro b o hb),λg cs hgc=>by
  obtain⟨c,ty,fz,e,hz⟩:=hg.ex g cs hgc;exact⟨c,ty,fz,hsat.ro _ _ e,hz⟩⟩
 unfold Oper.wp;rw[hex o ho w,Oper.upon_enter];refine (hct Hb us w rfl hgb hcb ⟨λb o h=>h,aA,by simp[g_],by simp[g_],aA⟩).mono ?_;rintro e w' ⟨u,g,H',σ',rfl,hi,hs',hfr,hq⟩;have hbel:Below w.heap.size w w':=⟨hfr.os,hfr.tape,hfr.output,hfr.size,λb hb=>hfr.keep b hb (by simp[g_])⟩;have hchk:=hQ g σ' _ hq;simp only[aG]at hchk;exact hK u g w' σ' _ (hi.free hchk.1 hchk.2) hq (hs.below hbel)
def RA.kN {ops:List Oper} {k:List It} {σs:Heap} {ρq:Env} {fuel:Nat} {listed:List Bool} {s:St} (i:Nat) (order:List (Nat×Bool)) (e:Bool) {o:Oper} {f:FuncId} {cargs gs:List GV} {G:GV} (hp:cx.pg.Ok) (kM:Region.noSelect ops.toArray=true) (hT:∀ch s,¬T (.panic ch) s) (hr:Rt cx.pg f cargs G) (hi:ops[i]? =some o) (hk:mQ cx.pg ops s.ρ o=some (f,gs)) (hl:uJ (s.σ++σs) gs cargs) (hfree:mq G=true)
  (hB:(vC (Region.ready .any ops.toArray listed.toArray) [i] &&sW ops e order (listed.set i true))=true)
  (h:lB cx.N s.ρ o.dst G λρ'=>p9 (oS ρq o.dst G) λρq=>r4 cx T ops k σs e order fuel (listed.set i true) ρq ⟨ρ',s.σ,s.n⟩):RA cx T ops k σs ρq (fuel+1) listed s:=by
 obtain⟨fo,args,ts,first,caps,gs',ho',hgd,hf,he,hargs⟩:=mu hk;simp only[aG]at hB;refine RA.AB i hi (iV hB.1) hgd λm0 H0 S0 w0 h0 g0 H a w K Q' hg hs ha hsat hK=>?_;refine On (cx:=⟨cx.pg,cx.N,m0,H0,S0,w0,h0,g0⟩) hr.ct hr.call ho' hf he (σ0:=s.σ++σs) (by rw[hargs];exact hl) (λg σ' n' hq=>?_) hg hs hsat ha.env λu g w' σ' n' hiu hq hsim=>?_
 ·obtain⟨⟨rfl,h1⟩,_,_⟩:=hq;simp[h1,hfree]
 obtain⟨⟨rfl,_⟩,_,_⟩:=hq;simp only[oE]at h;rw[oh]at h;have hlt:=pc h;obtain⟨ρ',ha',hra⟩:=ha.iO hiu h;exact hK H u g w' s ρ' (Hid.le.refl H) hiu (hsim.ρ ρ') ha' hlt (RA.run hp kM hT order hB.2 hra)
end
section
variable {cx:Cx}{T:jz}
def JK.Ar {k:List It} {s:St} (id it:Nat) {kd:Option IntKind} {es:List (Value×GV)} {left:List Value} {cur:Option Value} (hid:gW s.σ id=some (.itr it)) (hit:gW s.σ it=some (.mr kd es left cur)) (hne:Nat.beq it id=false)
  (h:kG ((id,.mp kd es)::jQ (jQ s.σ it) id) λσ=>JK cx T k ⟨s.ρ,σ,s.n⟩):JK cx T k s:=by
 rw[jy]at h;refine JK.CL _ (λH a w hg hs ha=>?_) h;obtain⟨l1,l2,e1,e2,e0⟩:=kU hit;clear e0;have hid2:gW (jQ s.σ it) id=some (.itr it):=by
  rw[e2];rw[e1]at hid;clear e1 e2 h hg hs ha;induction l1 with
  |nil=>
   have hid':(bif Nat.beq it id then some (hY.mr kd es left cur) else gW l2 id)=some (.itr it):=hid;rw[hne]at hid';exact hid'
  |cons x r ih=>
   obtain⟨j,y⟩:=x;have hid':(bif Nat.beq j id then some y else gW (r++(it,hY.mr kd es left cur)::l2) id)=some (.itr it):=hid;show (bif Nat.beq j id then some y else gW (r++l2) id)=some (.itr it);cases hb:Nat.beq j id with
   |true=>rw[hb]at hid';exact hid'
   |false=>rw[hb]at hid';exact ih hid'
 obtain⟨m1,m2,e3,e4,_⟩:=kU hid2;have hmem:=ib hit;have hmem2:=ib hid;obtain⟨b,arr,clock,seen,hv,hbne,hwb,hok,hwi,hleft,hcur⟩:=hs.sat.holds _ hmem;obtain⟨hlt,hsv,_⟩:=hs.sat.holds _ hmem2;have hsv':H.sv id=H.sv it:=hsv;have hv':H.sv id=.map (some b):=by rw[hsv',hv]
 have hsub:∀x∈m1++m2,x∈s.σ:=λx hx=>by
  have h1:x∈jQ s.σ it:=by
   rw[e3];rcases aE.1 hx with h|h<;>simp[h]
  rw[e2]at h1;rw[e1];rcases aE.1 h1 with h|h<;>simp[h]
 have hbl:g_ H (m1++m2)=g_ H (l1++l2):=by
  rw[<-e2,e3];simp[il,iD,blocks]
 have hnd:=hs.sat.nodup;rw[e1,il,iD]at hnd;have n1:=a8.1 hnd;have n2:=a8.1 n1.2.1;have hbin:b∈blocks H (it,.mr kd es left cur):=by simp[blocks,hv,ju]
 have hbo:b∉g_ H (l1++l2):=λhb=>by
  rw[il]at hb;rcases aE.1 hb with h1|h1
  ·exact n1.2.2 b h1 b (by simp[hbin]) rfl
  exact n2.2.2 b hbin b h1 rfl
 have hbs:b∈g_ H s.σ:=by
  rw[e1,il,iD];simp[hbin]
 have hnew:g_ H ((id,.mp kd es)::(m1++m2))=b::g_ H (l1++l2):=by
  rw[iD,hbl];simp[blocks,hv',ju]
 have hin:∀c∈g_ H (l1++l2),c∈g_ H s.σ:=λc hc=>by
  rw[e1,il,iD];rw[il]at hc;rcases aE.1 hc with h1|h1<;>simp[h1]
 refine⟨H,hg,⟨hs.n,⟨hs.sat.ro,λx hx=>?_,?_,λc hc=>?_,λx hx=>?_⟩,?_⟩,⟨ha.env,ha.size,ha.defers⟩⟩
 ·rw[e4]at hx;rcases aF.1 hx with rfl|hx
  ·exact⟨b,arr,clock,hv',hwb,hok⟩
  exact hs.sat.holds x (hsub x hx)
 ·rw[e4,hnew];refine bJ.2 ⟨hbo,?_⟩;rw[il];exact a8.2 ⟨n1.1,n2.2.1,λc hc d hd e=>n1.2.2 c hc d (by simp[hd]) e⟩
 ·rw[e4,hnew]at hc;rcases aF.1 hc with rfl|hc
  ·exact hs.sat.free _ hbs
  exact hs.sat.free _ (hin c hc)
 ·rw[e4]at hx;rcases aF.1 hx with rfl|hx
  ·exact hs.sat.ids (id,.itr it) hmem2
  exact hs.sat.ids x (hsub x hx)
 have hf:=hs.fr;refine⟨hf.os,hf.tape,hf.output,hf.size,hf.keep,λc hc=>?_,hf.fro,hf.le⟩;rw[e4,hnew]at hc;rcases aF.1 hc with rfl|hc
 ·exact hf.own _ hbs
 exact hf.own _ (hin c hc)
end
section
variable {α:Type}
def iC(k:Value):List (Value×α)->Option α
 | []=>none
 | (k',x)::r=>if iA k k'=true then some x else iC k r
def jE(k:Value)(x:α):List (Value×α)->List (Value×α)
 | []=>[(k,x)]
 | (k',x')::r=>if iA k k'=true then (k,x)::r else (k',x')::jE k x r
def kA(k:Value):List (Value×α)->List (Value×α)
 | []=>[]
 | (k',x')::r=>if iA k k'=true then r else (k',x')::kA k r
abbrev iG(enc:α->GV)(l:List (Value×α)):List (Value×GV):=l.map λx=>(x.1,enc x.2)
def pC(enc:α->GV)(k:Value):∀l:List (Value×α),jl k (iG enc l)=(iC k l).map enc
 | []=>rfl
 | (k',x)::r=>by
  show (if iA k k'=true then some (enc x) else jl k (iG enc r))=(if iA k k'=true then some x else iC k r).map enc;rw[pC enc k r];split<;>rfl
def nP(enc:α->GV)(k:Value)(x:α):∀l:List (Value×α),jB k (enc x) (iG enc l)=iG enc (jE k x l)
 | []=>rfl
 | (k',x')::r=>by
  show (if iA k k'=true then (k,enc x)::iG enc r else (k',enc x')::jB k (enc x) (iG enc r))=iG enc (if iA k k'=true then (k,x)::r else (k',x')::jE k x r);rw[nP enc k x r];split<;>rfl
def oV(enc:α->GV)(k:Value):∀l:List (Value×α),nM k (iG enc l)=iG enc (kA k l)
 | []=>rfl
 | (k',x')::r=>by
  show (if iA k k'=true then iG enc r else (k',enc x')::nM k (iG enc r))=iG enc (if iA k k'=true then r else (k',x')::kA k r);rw[oV enc k r];split<;>rfl
def vv(enc:α->GV)(n:Nat)(henc:∀x,iy n (enc x)=true):∀l:List (Value×α),mM n (iG enc l)=true
 | []=>rfl
 | (k,x)::r=>by
  show (iy n (enc x)&&mM n (iG enc r))=true;rw[vv enc n henc r,henc x];rfl
def ym(enc:α->GV)(henc:∀x,iy 0 (enc x)=true)(f:Nat->Nat)(l:List (Value×α)):jS f (iG enc l)=iG enc l:=by
 unfold jS iG;rw[bR];exact cd λx _=>by show (x.1,jW f (enc x.2))=_;rw[o4 f (henc x.2)]
def tM{kd:Option IntKind}{k k':Value}(hk:iq kd k=true)(hk':iq kd k'=true)(x:α):∀l:List (Value×α),(∀y∈l,iq kd y.1=true)->iC k' (jE k x l)=if iA k' k=true then some x else iC k' l
 | [],_=>rfl
 | (q,y)::r,hl=>by
  have hq:iq kd q=true:=hl (q,y) aA;have ih:=tM hk hk' x r (λz hz=>hl z (by simp[hz]));show iC k' (if iA k q=true then (k,x)::r else (q,y)::jE k x r)=if iA k' k=true then some x else (if iA k' q=true then some y else iC k' r);by_cases h:iA k q=true
  ·rw[if_pos h];have e:k=q:=kH hk hq h;show (if iA k' k=true then some x else iC k' r)=_;by_cases h2:iA k' k=true
   ·rw[if_pos h2,if_pos h2]
   rw[if_neg h2,if_neg h2,<-e,if_neg h2]
  rw[if_neg h];show (if iA k' q=true then some y else iC k' (jE k x r))=_;rw[ih];by_cases h2:iA k' k=true
  ·rw[if_pos h2];have e:k'=k:=kH hk' hk h2;rw[e,if_neg h,if_pos (lj hk)]
  rw[if_neg h2,if_neg h2]
def E_{kd:Option IntKind}{k:Value}(hk:iq kd k=true)(x:α):∀l:List (Value×α),(∀y∈l,iq kd y.1=true)->∀y∈jE k x l,iq kd y.1=true
 | [],_,y,hy=>by
  rw[aH.1 hy];exact hk
 | (q,z)::r,hl,y,hy=>by
  have hy':y∈(if iA k q=true then (k,x)::r else (q,z)::jE k x r):=hy;by_cases h:iA k q=true
  ·rw[if_pos h]at hy';rcases aF.1 hy' with rfl|hy'
   ·exact hk
   exact hl y (by simp[hy'])
  rw[if_neg h]at hy';rcases aF.1 hy' with rfl|hy'
  ·exact hl (q,z) aA
  exact E_ hk x r (λw hw=>hl w (by simp[hw])) y hy'
def D3{kd:Option IntKind}(k:Value):∀l:List (Value×α),(∀y∈l,iq kd y.1=true)->∀y∈kA k l,iq kd y.1=true
 | [],_,y,hy=>by cases hy
 | (q,z)::r,hl,y,hy=>by
  have hy':y∈(if iA k q=true then r else (q,z)::kA k r):=hy;by_cases h:iA k q=true
  ·rw[if_pos h]at hy';exact hl y (by simp[hy'])
  rw[if_neg h]at hy';rcases aF.1 hy' with rfl|hy'
  ·exact hl (q,z) aA
  exact D3 k r (λw hw=>hl w (by simp[hw])) y hy'
def pP(l:List (Value×α)):Prop:=(l.map (·.1)).Nodup
def Df{kd:Option IntKind}{k:Value}(hk:iq kd k=true):∀{l:List (Value×α)},(∀y∈l,iq kd y.1=true)->(iC k l=none↔k∉l.map (·.1))
 | [],_=>by simp[iC]
 | (q,y)::r,hl=>by
  have hq:iq kd q=true:=hl (q,y) aA;have ih:=Df hk (l:=r) (λz hz=>hl z (by simp[hz]));show (if iA k q=true then some y else iC k r)=none↔_;by_cases h:iA k q=true
  ·rw[if_pos h];have e:=kH hk hq h;simp[e]
  rw[if_neg h,ih];have e:k≠q:=λe=>h (by subst e;exact lj hk);simp[e]
def xF{kd:Option IntKind}{k:Value}(hk:iq kd k=true)(x:α):∀{l:List (Value×α)},(∀y∈l,iq kd y.1=true)->pP l->pP (jE k x l)/\∀q∈(jE k x l).map (·.1),q=k\/q∈l.map (·.1)
 | [],_,_=>⟨by simp[jE,pP],by simp[jE]⟩
 | (q,y)::r,hl,hn=>by
  have hq:iq kd q=true:=hl (q,y) aA;obtain⟨hn1,hn2⟩:=bJ.1 hn;obtain⟨i1,i2⟩:=xF hk x (l:=r) (λz hz=>hl z (by simp[hz])) hn2;have e0:jE k x ((q,y)::r)=if iA k q=true then (k,x)::r else (q,y)::jE k x r:=rfl;rw[e0];by_cases h:iA k q=true
  ·rw[if_pos h];have e:=kH hk hq h;subst e;exact⟨hn,λz hz=>.inr hz⟩
  rw[if_neg h];have hne:q≠k:=λe=>h (by subst e;exact lj hk);refine⟨bJ.2 ⟨λhm=>?_,i1⟩,λz hz=>?_⟩
  ·rcases i2 _ hm with h1|h1
   ·exact hne h1
   exact hn1 h1
  rcases aF.1 hz with rfl|hz
  ·exact .inr aA
  rcases i2 _ hz with h1|h1
  ·exact .inl h1
  exact .inr (by simp at h1|-;exact .inr h1)
def Br{k:Value}:∀{l:List (Value×α)},∀y∈kA k l,y∈l
 | (q,z)::r,y,hy=>by
  have hy':y∈(if iA k q=true then r else (q,z)::kA k r):=hy;by_cases h:iA k q=true
  ·rw[if_pos h]at hy';exact aK _ hy'
  rw[if_neg h]at hy';rcases aF.1 hy' with rfl|hy'
  ·exact bf
  exact aK _ (Br y hy')
def C5{k:Value}:∀{l:List (Value×α)},pP l->pP (kA k l)
 | [],_=>by simp[kA,pP]
 | (q,y)::r,hn=>by
  obtain⟨hn1,hn2⟩:=bJ.1 hn;show pP (if iA k q=true then r else (q,y)::kA k r);by_cases h:iA k q=true
  ·rw[if_pos h];exact hn2
  rw[if_neg h];refine bJ.2 ⟨λhm=>?_,C5 hn2⟩;obtain⟨z,hz,e⟩:=ba.1 hm;exact hn1 (by rw[<-e];exact cc (Br z hz))
def ES{kd:Option IntKind}{k k':Value}(hk:iq kd k=true)(hk':iq kd k'=true):∀{l:List (Value×α)},(∀y∈l,iq kd y.1=true)->pP l->iC k' (kA k l)=if iA k' k=true then none else iC k' l
 | [],_,_=>by show none=_;split<;>rfl
 | (q,y)::r,hl,hn=>by
  have hq:iq kd q=true:=hl (q,y) aA;have hr:∀z∈r,iq kd z.1=true:=λz hz=>hl z (by simp[hz]);obtain⟨hn1,hn2⟩:=bJ.1 hn;have ih:=ES hk hk' hr hn2;show iC k' (if iA k q=true then r else (q,y)::kA k r)=if iA k' k=true then none else (if iA k' q=true then some y else iC k' r);by_cases h:iA k q=true
  ·rw[if_pos h];have e:=kH hk hq h;subst e;by_cases h2:iA k' k=true
   ·rw[if_pos h2];have e2:=kH hk' hk h2;subst e2;exact (Df hk' hr).2 hn1
   rw[if_neg h2,if_neg h2]
  rw[if_neg h];show (if iA k' q=true then some y else iC k' (kA k r))=_;rw[ih];by_cases h2:iA k' k=true
  ·rw[if_pos h2];have e:=kH hk' hk h2;subst e;rw[if_neg h,if_pos (lj hk')]
  rw[if_neg h2,if_neg h2]
def kF{kd:Option IntKind}{k:Value}{x:α}(hk:iq kd k=true):∀{l:List (Value×α)},(∀y∈l,iq kd y.1=true)->pP l->(iC k l=some x↔(k,x)∈l)
 | [],_,_=>by simp[iC]
 | (q,y)::r,hl,hn=>by
  have hq:iq kd q=true:=hl (q,y) aA;obtain⟨hn1,hn2⟩:=bJ.1 hn;have ih:=kF (x:=x) hk (l:=r) (λz hz=>hl z (by simp[hz])) hn2;show (if iA k q=true then some y else iC k r)=some x↔_;by_cases h:iA k q=true
  ·rw[if_pos h];have e:=kH hk hq h;subst e;constructor
   ·intro h;cases h;simp
   intro hm;rcases aF.1 hm with h1|h1
   ·cases h1;rfl
   exact absurd (cc (f:=(·.1)) h1) hn1
  rw[if_neg h,ih];have e:k≠q:=λe=>h (by subst e;exact lj hk);simp[e]
end
end Go.GK
namespace Go.PL
open Go Go.GK IntKind
abbrev Fl:=ByteArray×Int
abbrev ks(f:ByteArray):Value:=.string f
structure Dk where
 nil:Bool
 L:List (Value×Fl)
 left:Int
 cut:Bool
structure Dk.ok(B:Nat)(d:Dk):Prop where
 keys:∀y∈d.L,iq none y.1=true
 nd:pP d.L
 sz:∀y∈d.L,y.2.1.size<=B/\ -1<=y.2.2/\y.2.2<=y.2.1.size
 nl:d.nil=true->d.L=[]
 lo:0<=d.left
 hi:d.left<=9223372036854775807
def sK:Dk:=⟨true,[],0,false⟩
def Ub(B:Nat):sK.ok B:=⟨by simp[sK],by simp[sK,pP],by simp[sK],λ_=>rfl,by simp[sK],by simp[sK]⟩
def Dk.ok.mono{B B':Nat}{d:Dk}(h:d.ok B)(hb:B<=B'):d.ok B':=⟨h.keys,h.nd,λy hy=>⟨by have:=(h.sz y hy).1;omega,(h.sz y hy).2⟩,h.nl,h.lo,h.hi⟩
def sF(d:Dk):Bool:= !d.cut||decide (d.left>0)
def kc(d:Dk):Dk:=⟨false,d.L,if d.cut=true then d.left-1 else d.left,d.cut⟩
def o3{B:Nat}{d:Dk}(h:d.ok B)(ho:sF d=true):(kc d).ok B:=by
 refine⟨h.keys,h.nd,h.sz,λh=>(by cases h),?_,?_⟩
 ·show 0<=(if d.cut=true then d.left-1 else d.left);have:=h.lo;split
  ·rename_i hc
   have:d.left>0:=by simpa[sF,hc]using ho
   omega
  exact this
 show (if d.cut=true then d.left-1 else d.left)<=_;have:=h.hi;split<;>omega
def jg(f:ByteArray)(d:Dk):Option Fl:=iC (ks f) d.L
def mP(f:ByteArray)(x:Fl)(d:Dk):Dk:={d with L:=jE (ks f) x d.L}
def s8(f:ByteArray)(d:Dk):Dk:={d with L:=kA (ks f) d.L}
def tl{α:Type}{k:Value}{x:α}:∀{l:List (Value×α)},∀y∈jE k x l,y=(k,x)\/y∈l
 | [],y,hy=>.inl (aH.1 hy)
 | (q,z)::r,y,hy=>by
  have hy':y∈(if iA k q=true then (k,x)::r else (q,z)::jE k x r):=hy;by_cases h:iA k q=true
  ·rw[if_pos h]at hy';rcases aF.1 hy' with h|h
   ·exact .inl h
   exact .inr (aK _ h)
  rw[if_neg h]at hy';rcases aF.1 hy' with h|h
  ·exact .inr (by rw[h];exact bf)
  rcases tl y h with h|h
  ·exact .inl h
  exact .inr (aK _ h)
def yc{B:Nat}{d:Dk}(h:d.ok B)(hn:d.nil=false){f:ByteArray}{x:Fl}(h1:x.1.size<=B)(h2: -1<=x.2)(h3:x.2<=x.1.size):(mP f x d).ok B:=by
 refine⟨E_ rfl x d.L h.keys,(xF rfl x h.keys h.nd).1,λy hy=>?_,λe=>(by rw[show (mP f x d).nil=d.nil from rfl,hn]at e;cases e),h.lo,h.hi⟩;rcases tl y hy with rfl|hy
 ·exact⟨h1,h2,h3⟩
 exact h.sz y hy
def Jf{B:Nat}{d:Dk}(h:d.ok B){f:ByteArray}:(s8 f d).ok B:=
 ⟨D3 _ d.L h.keys,C5 h.nd,λy hy=>h.sz y (Br y hy),λe=>(by show kA _ d.L=[];rw[h.nl e];rfl),h.lo,h.hi⟩
def w9{B:Nat}{d:Dk}(h:d.ok B){f:ByteArray}{x:Fl}(hf:jg f d=some x):(ks f,x)∈d.L:=(kF rfl h.keys h.nd).1 hf
def zn{B:Nat}{d:Dk}(h:d.ok B){f:ByteArray}{x:Fl}(hf:jg f d=some x):x.1.size<=B/\ -1<=x.2/\x.2<=x.1.size:=h.sz _ (w9 h hf)
def wY{B:Nat}{d:Dk}(h:d.ok B)(f g:ByteArray)(x:Fl):jg g (mP f x d)=if g=f then some x else jg g d:=by
 unfold jg mP;rw[tM (kd:=none) rfl rfl x d.L h.keys];by_cases e:g=f
 ·subst e;rw[if_pos rfl,if_pos (lj (kd:=none) rfl)]
 rw[if_neg e,if_neg λhv=>e (by have:=kH (kd:=none) rfl rfl hv;injection this)]
def Jg{B:Nat}{d:Dk}(h:d.ok B)(f g:ByteArray):jg g (s8 f d)=if g=f then none else jg g d:=by
 unfold jg s8;rw[ES (kd:=none) rfl rfl h.keys h.nd];by_cases e:g=f
 ·subst e;rw[if_pos rfl,if_pos (lj (kd:=none) rfl)]
 rw[if_neg e,if_neg λhv=>e (by have:=kH (kd:=none) rfl rfl hv;injection this)]
def BQ{α:Type}(enc:α->GV){k:Value}{x y:α}:∀{l:List (Value×α)},(∀z∈l,iq none z.1=true)->iq none k=true->iC k l=some x->enc y=enc x->iG enc (jE k y l)=iG enc l
 | (q,z)::r,hs,hk,h,he=>by
  have h':(if iA k q=true then some z else iC k r)=some x:=h;show iG enc (if iA k q=true then (k,y)::r else (q,z)::jE k y r)=_;by_cases hv:iA k q=true
  ·rw[if_pos hv]at h'|-;have e:=kH (kd:=none) hk (hs (q,z) aA) hv;subst e;show (k,enc y)::_=(k,enc z)::_;rw[he,br h']
  rw[if_neg hv]at h'|-;show (q,enc z)::iG enc (jE k y r)=(q,enc z)::iG enc r;rw[BQ enc (λw hw=>hs w (by simp[hw])) hk h' he]
def pH(f:ByteArray):Bool:=(f.toList==(⟨#[]⟩:ByteArray).toList)||decide ((f.size:Int) >60)
def lM(f s:ByteArray)(d:Dk):Option Int×Dk:=
 if pH f=true then (some 1,d) else if sF d=true then (none,match jg f d with|some x=>mP f (x.1++s,x.2) (kc d)|none=>mP f (s, -1) (kc d)) else (some 14,d)
def nJ(f:ByteArray)(d:Dk):Option Int×Dk:=
 match jg f d with
 |none=>(some 7,d)
 |some x=>if sF d=true then (none,mP f (x.1,x.1.size) (kc d)) else (some 14,d)
def rl(f t:ByteArray)(d:Dk):Option Int×Dk:=
 if pH t=true then (some 1,d) else match jg f d with
 |none=>(some 7,d)
 |some x=>if sF d=true then (none,mP t x (s8 f (kc d))) else (some 14,d)
def lQ(f:ByteArray)(d:Dk):Option Int×Dk:=
 match jg f d with
 |none=>(some 7,d)
 |some _=>if sF d=true then (none,s8 f (kc d)) else (some 14,d)
def mf(keeps:Int)(x:Fl):Option Fl:=
 if x.2<0/\keeps<1 then none else some (x.1.extract 0 (max x.2 0+min (max keeps 0) (x.1.size-max x.2 0)).toNat,max x.2 0+min (max keeps 0) (x.1.size-max x.2 0))
def pf(keeps:Int)(d:Dk):Dk:={d with L:=d.L.filterMap λy=>(mf keeps y.2).map λz=>(y.1,z),cut:=false}
def rb(left:List Value)(q:Value):Bool:=left.any λk=>iA k q
def lp(keeps:Int)(left:List Value)(L:List (Value×Fl)):List (Value×Fl):=L.filterMap λy=>if rb left y.1=true then some y else (mf keeps y.2).map λz=>(y.1,z)
def ry(keeps:Int)(left:List Value)(y:Value×Fl)(r:List (Value×Fl)):lp keeps left (y::r)=(match (if rb left y.1=true then some y else (mf keeps y.2).map λz=>(y.1,z)) with|some z=>z::lp keeps left r|none=>lp keeps left r):=by
 unfold lp;rw[df];split<;>rename_i h<;>rw[h]
def Jy(keeps:Int){L:List (Value×Fl)}(hs:∀y∈L,iq none y.1=true):lp keeps (L.map (·.1)) L=L:=by
 have:∀l:List (Value×Fl),(∀y∈l,rb (L.map (·.1)) y.1=true)->lp keeps (L.map (·.1)) l=l:=by
  intro l;induction l with
  |nil=>intro _;rfl
  |cons y r ih=>
   intro h;rw[ry,if_pos (h y aA),ih (λz hz=>h z (by simp[hz]))]
 refine this L λy hy=>?_;unfold rb;rw[dp];exact⟨y.1,cc hy,lj (hs y hy)⟩
def EH{keeps:Int}{l l':List Value}:∀{L:List (Value×Fl)},(∀y∈L,rb l y.1=rb l' y.1)->lp keeps l L=lp keeps l' L
 | [],_=>rfl
 |y::r,h=>by rw[ry,ry,h y aA,EH (λz hz=>h z (by simp[hz]))]
def G8{keeps:Int}{k:Value}{x:Fl}{l l':List Value}(hk:iq none k=true)(hin:rb l k=true)(hl:∀q,iq none q=true->rb l' q=(rb l q&& !iA k q)):∀{L:List (Value×Fl)},(∀y∈L,iq none y.1=true)->pP L->iC k L=some x->
  iC k (lp keeps l L)=some x/\(match mf keeps x with|some z=>jE k z (lp keeps l L)|none=>kA k (lp keeps l L))=lp keeps l' L
 | (q,y)::r,hs,hn,hf=>by
  obtain⟨hn1,hn2⟩:=bJ.1 hn;have hq:iq none q=true:=hs (q,y) aA;have hr:∀z∈r,iq none z.1=true:=λz hz=>hs z (by simp[hz]);have hf':(if iA k q=true then some y else iC k r)=some x:=hf;by_cases hv:iA k q=true
  ·rw[if_pos hv]at hf';have e:=kH (kd:=none) hk hq hv;subst e;have hkk:iA k k=true:=hv;have e2:y=x:=br hf';subst e2;have hsame:lp keeps l r=lp keeps l' r:=EH λz hz=>by
    rw[hl z.1 (hr z hz)];have:iA k z.1=false:=by
     cases h:iA k z.1 with
     |false=>rfl
     |true=>
      have:=kH (kd:=none) hk (hr z hz) h;exact absurd (ba.2 ⟨z,hz,this.symm⟩) hn1
    rw[this];simp
   have e3:rb l' k=false:=by rw[hl k hk,hkk];simp
   have e4:lp keeps l ((k,y)::r)=(k,y)::lp keeps l r:=by rw[ry,if_pos hin]
   rw[e4,ry,if_neg (by show¬rb l' k=true;rw[e3];decide)];refine⟨?_,?_⟩
   ·show (if iA k k=true then some y else _)=_;rw[if_pos hkk]
   show (match mf keeps y with|some z=>jE k z ((k,y)::lp keeps l r)|none=>kA k ((k,y)::lp keeps l r))=(match (mf keeps y).map λz=>(k,z) with|some z=>z::lp keeps l' r|none=>lp keeps l' r);cases hkf:mf keeps y with
   |none=>
    show (if iA k k=true then lp keeps l r else _)=_;rw[if_pos hkk];exact hsame
   |some z=>
    show (if iA k k=true then (k,z)::lp keeps l r else _)=_;rw[if_pos hkk,hsame];rfl
  rw[if_neg hv]at hf';obtain⟨i1,i2⟩:=G8 hk hin hl hr hn2 hf';have hql:rb l' q=rb l q:=by rw[hl q hq];cases h:iA k q with|false=>simp|true=>exact absurd h hv
  rw[ry,ry,show rb l' (q,y).1=rb l (q,y).1 from hql];have pass:∀z:Fl,iC k ((q,z)::lp keeps l r)=some x/\(match mf keeps x with|some w=>jE k w ((q,z)::lp keeps l r)|none=>kA k ((q,z)::lp keeps l r))=(q,z)::lp keeps l' r:=λz=>by
   refine⟨?_,?_⟩
   ·show (if iA k q=true then some z else iC k (lp keeps l r))=_;rw[if_neg hv];exact i1
   rw[<-i2];cases mf keeps x with
   |none=>
    show (if iA k q=true then lp keeps l r else (q,z)::kA k (lp keeps l r))=_;rw[if_neg hv]
   |some w=>
    show (if iA k q=true then (k,w)::lp keeps l r else (q,z)::jE k w (lp keeps l r))=_;rw[if_neg hv]
  by_cases hi:rb l q=true
  ·rw[if_pos hi];exact pass y
  rw[if_neg hi];cases hky:mf keeps y with
  |none=>exact⟨i1,i2⟩
  |some z=>exact pass z
def Ny{l1 l2:List Value}{k q:Value}(hn:(l1++k::l2).Nodup)(hs:∀z∈l1++k::l2,iq none z=true)(hq:iq none q=true):rb (l1++l2) q=(rb (l1++k::l2) q&& !iA k q):=by
 have hk:iq none k=true:=hs k aA;unfold rb;rw[gN,gN,gS];cases h:iA k q with
 |false=>simp
 |true=>
  have e:=kH (kd:=none) hk hq h;subst e;have hno:∀l:List Value,(∀z∈l,iq none z=true)->k∉l->(l.any λz=>iA z k)=false:=λl hl hm=>by
   rw[dL];intro z hz hv;exact hm (by rw[<-kH (kd:=none) (hl z hz) hk hv];exact hz)
  have h2:=a8.1 hn;have h3:=bJ.1 h2.2.1;rw[hno l1 (λz hz=>hs z (by simp[hz])) (λhm=>h2.2.2 k hm k aA rfl),hno l2 (λz hz=>hs z (by simp[hz])) h3.1];rfl
def SB{l:List Value}{k:Value}(hk:iq none k=true)(h:k∈l):rb l k=true:=by
 unfold rb;rw[dp];exact⟨k,h,lj hk⟩
def P0{keeps:Int}{B:Nat}{x z:Fl}(h:x.1.size<=B/\ -1<=x.2/\x.2<=x.1.size)(hz:mf keeps x=some z):z.1.size<=B/\ -1<=z.2/\z.2<=z.1.size:=by
 unfold mf at hz;split at hz
 ·cases hz
 cases hz;simp only[cJ];omega
def uH{keeps:Int}{d:Dk}{y:Value×Fl}(h:y∈(pf keeps d).L):∃x,(y.1,x)∈d.L/\mf keeps x=some y.2:=by
 obtain⟨⟨q,x⟩,hx,e⟩:=fe.1 h;cases hk:mf keeps x with
 |none=>simp only[hk]at e;cases e
 |some z=>
  simp only[hk,cC,aV]at e;subst e;exact⟨x,hx,hk⟩
def Ek{keeps:Int}{B:Nat}{d:Dk}(h:d.ok B):(pf keeps d).ok B:=by
 refine⟨λy hy=>?_,?_,λy hy=>?_,λe=>by show List.filterMap _ d.L=[];rw[h.nl e];rfl,h.lo,h.hi⟩
 ·obtain⟨x,hx,_⟩:=uH hy;exact h.keys (y.1,x) hx
 ·have:∀l:List (Value×Fl),(l.map (·.1)).Nodup->((l.filterMap λy=>(mf keeps y.2).map λz=>(y.1,z)).map (·.1)).Nodup/\∀q∈(l.filterMap λy=>(mf keeps y.2).map λz=>(y.1,z)).map (·.1),q∈l.map (·.1):=by
   intro l;induction l with
   |nil=>intro _;exact⟨aA,aA⟩
   |cons y r ih=>
    intro hn;obtain⟨h1,h2⟩:=bJ.1 hn;obtain⟨i1,i2⟩:=ih h2;rw[df];cases hk:mf keeps y.2 with
    |none=>exact⟨i1,λq hq=>by simp only[bb,aF];exact .inr (i2 q hq)⟩
    |some z=>
     simp only[cC,bb];exact⟨bJ.2 ⟨λhm=>h1 (i2 _ hm),i1⟩,λq hq=>by
      rcases aF.1 hq with rfl|hq
      ·simp
      exact aK _ (i2 q hq)⟩
  exact (this d.L h.nd).1
 obtain⟨x,hx,e⟩:=uH hy;exact P0 (h.sz _ hx) e
def Mp{keeps:Int}{B:Nat}{d:Dk}(h:d.ok B)(f:ByteArray):jg f (pf keeps d)=(jg f d).bind (mf keeps):=by
 have hs:=Ek (keeps:=keeps) h;cases hf:jg f d with
 |none=>
  cases hg:jg f (pf keeps d) with
  |none=>rfl
  |some z=>
   obtain⟨x,hx,_⟩:=uH (w9 hs hg);have:jg f d=some x:=(kF rfl h.keys h.nd).2 hx;rw[hf]at this;cases this
 |some x=>
  show jg f (pf keeps d)=mf keeps x;cases hk:mf keeps x with
  |none=>
   cases hg:jg f (pf keeps d) with
   |none=>rfl
   |some z=>
    obtain⟨x',hx,e⟩:=uH (w9 hs hg);have:jg f d=some x':=(kF rfl h.keys h.nd).2 hx;rw[hf]at this;cases this;rw[hk]at e;cases e
  |some z=>
   exact (kF rfl hs.keys hs.nd).2 (fe.2 ⟨(ks f,x),w9 h hf,by rw[hk];rfl⟩)
def Lo(n:Nat):ByteArray:=⟨#[UInt8.ofNat (n/256),UInt8.ofNat n]⟩
def jU(s:ByteArray):ByteArray:=Lo s.size++s
def jc:List ByteArray->ByteArray
 | []=>ByteArray.empty
 |x::r=>jU x++jc r
def u6:∀a b:List ByteArray,jc (a++b)=jc a++jc b
 | [],b=>by simp[jc]
 |x::r,b=>by
  show jU x++jc (r++b)=(jU x++jc r)++jc b;rw[u6 r b,bB]
def vV(n:Nat):(Lo n).size=2:=rfl
def ml(s:ByteArray):(jU s).size=s.size+2:=by
 unfold jU;rw[aJ,vV];omega
def AS:∀l:List ByteArray,2*l.length<=(jc l).size
 | []=>by simp[jc]
 |x::r=>by
  have:=AS r;show _<=(jU x++jc r).size;rw[aJ,ml,aB];omega
def yD(a b:ByteArray)(j:Nat):(a++b)[a.size+j]? =b[j]? :=by
 by_cases h:j<b.size
 ·rw[getElem?_pos (a++b) (a.size+j) (by rw[aJ];omega),getElem?_pos b j h]
  congr 1
  rw[ByteArray.getElem_append_right az]
  congr 1
  omega
 rw[getElem?_neg (a++b) _ (by rw[aJ];omega),getElem?_neg b _ h]
def xC(a b:ByteArray)(j:Nat)(h:j<a.size):(a++b)[j]? =a[j]? :=by
 rw[getElem?_pos (a++b) j (by rw[aJ];omega),getElem?_pos a j h]
 congr 1
 exact ByteArray.getElem_append_left h
def KM(a b c:ByteArray):(a++(b++c)).extract a.size (a.size+b.size)=b:=by
 apply cE;simp only[cw,bQ];apply Array.ext';have ha:a.data.toList.length=a.size:=aA
 have hb:b.data.toList.length=b.size:=aA
 simp;rw[fu az,List.take_nil,dy];exact cv az
def CR(A x R:ByteArray):(A++(jU x++R))[A.size]? =some (UInt8.ofNat (x.size/256)):=by
 have:=yD A (jU x++R) 0;rw[b8]at this;rw[this,xC _ _ 0 (by rw[ml];omega)];unfold jU;rw[xC _ _ 0 (by rw[vV];omega)];rfl
def CJ(A x R:ByteArray):(A++(jU x++R))[A.size+1]? =some (UInt8.ofNat x.size):=by
 rw[yD,xC _ _ 1 (by rw[ml];omega)];unfold jU;rw[xC _ _ 1 (by rw[vV];omega)];rfl
def IT(A x R:ByteArray):(A++(jU x++R)).extract (A.size+2) (A.size+2+x.size)=x:=by
 have:=KM (A++Lo x.size) x R;rw[aJ,vV]at this;rw[show A++(jU x++R)=(A++Lo x.size)++(x++R) by unfold jU;simp only[bB]];exact this
def NV(p:ByteArray):Prop:=p.size<2\/∃a b,p[0]? =some a/\p[1]? =some b/\p.size<a.toNat*256+b.toNat+2
def Kk:NV ByteArray.empty:=.inl ax
def nN:ByteArray:=⟨#[119,97,108,47,110,111,116,101,115]⟩
def fN:ByteArray:=⟨#[119,97,108,47,102,114,101,115,104]⟩
def qJ{B:Nat}{d:Dk}(h:d.ok B)(f s:ByteArray):(lM f s d).2.ok (B+s.size):=by
 have hm:=h.mono (B':=B+s.size) az;unfold lM;split
 ·exact hm
 split
 ·rename_i ho
  have hd:=o3 h ho;have hd':=hd.mono (B':=B+s.size) az;cases hf:jg f d with
  |none=>exact yc hd' rfl (x:=(s, -1)) (by show s.size<=_;omega) (by show (-1:Int)<= -1;omega) (by show (-1:Int)<=s.size;omega)
  |some x=>
   have:=zn h hf;exact yc hd' rfl (x:=(x.1++s,x.2)) (by show (x.1++s).size<=_;rw[aJ];omega) this.2.1 (by show x.2<=((x.1++s).size:Int);rw[aJ];omega)
 exact hm
def vu{B:Nat}{d:Dk}(h:d.ok B)(f:ByteArray):(nJ f d).2.ok B:=by
 unfold nJ;cases hf:jg f d with
 |none=>exact h
 |some x=>
  have:=zn h hf;simp only[];split
  ·rename_i ho
   exact yc (o3 h ho) rfl (x:=(x.1,x.1.size)) this.1 (by show (-1:Int)<=x.1.size;omega) (bY _)
  exact h
def yy{B:Nat}{d:Dk}(h:d.ok B)(f:ByteArray):(lQ f d).2.ok B:=by
 unfold lQ;cases hf:jg f d with
 |none=>exact h
 |some x=>
  simp only[];split
  ·rename_i ho
   exact Jf (o3 h ho)
  exact h
def tC(a:Option Int×Dk)(k:Dk->Option Int×Dk):Option Int×Dk:=match a.1 with|none=>k a.2|some _=>a
def sa(s:ByteArray)(down:Bool)(d:Dk):Option Int×Bool×Dk:=
 if (s.size:Int) >60000 then (some 1,down,d) else if down=true then (some 6,down,d) else
  let b:=tC (lM nN (jU s) d) (nJ nN)
  (b.1,b.1.isSome,b.2)
def vr(d:Dk):Option Int×Dk:=match jg fN d with|some _=>lQ fN d|none=>(none,d)
def ox(l:List ByteArray)(d:Dk):Option Int×Dk:=
 tC (vr d) λd=>tC (lM fN (jc l) d) λd=>tC (nJ fN d) (rl fN nN)
def yk(l:List ByteArray):Bool:=l.any λx=>decide ((x.size:Int) >60000)
def pY(l:List ByteArray)(down:Bool)(d:Dk):Option Int×Bool×Dk:=
 if yk l=true then (some 1,down,d) else if down=true then (some 6,down,d) else ((ox l d).1,(ox l d).1.isSome,(ox l d).2)
def R2{B:Nat}{d:Dk}(h:d.ok B):(vr d).2.ok B:=by
 unfold vr;cases jg fN d with
 |none=>exact h
 |some x=>exact yy h fN
def nj(d:Dk)(k:Dk->Option Int×Dk):tC (none,d) k=k d:=rfl
def xz(m:Int)(d:Dk)(k:Dk->Option Int×Dk):tC (some m,d) k=(some m,d):=rfl
def RT{l:List ByteArray}{d d1:Dk}{m:Int}(h:vr d=(some m,d1)):ox l d=(some m,d1):=by unfold ox;rw[h,xz]
def JS{l:List ByteArray}{d d1 d2:Dk}{m:Int}(h:vr d=(none,d1))(h1:lM fN (jc l) d1=(some m,d2)):ox l d=(some m,d2):=by
 unfold ox;rw[h,nj,h1,xz]
def J0{l:List ByteArray}{d d1 d2 d3:Dk}{m:Int}(h:vr d=(none,d1))(h1:lM fN (jc l) d1=(none,d2))(h2:nJ fN d2=(some m,d3)):ox l d=(some m,d3):=by
 unfold ox;rw[h,nj,h1,nj,h2,xz]
def IG{l:List ByteArray}{d d1 d2 d3:Dk}(h:vr d=(none,d1))(h1:lM fN (jc l) d1=(none,d2))(h2:nJ fN d2=(none,d3)):ox l d=rl fN nN d3:=by
 unfold ox;rw[h,nj,h1,nj,h2,nj]
def cont(d:Dk):ByteArray:=match jg nN d with
 |some x=>x.1
 |none=>ByteArray.empty
def AQ(l:List ByteArray)(p:ByteArray)(d:Dk):Dk:=if p.size=0 then d else (ox l d).2
def pR{d:Dk}(h:d.cut=false):sF d=true:=by simp[sF,h]
def Jm:pH nN=false:=m7
def Rb:pH fN=false:=m7
def Fh{d:Dk}(hc:d.cut=false){f:ByteArray}(hf:pH f=false)(s:ByteArray):lM f s d=(none,match jg f d with|some x=>mP f (x.1++s,x.2) (kc d)|none=>mP f (s, -1) (kc d)):=by
 unfold lM;rw[if_neg (by rw[hf];decide),if_pos (pR hc)];try cases jg f d<;>rfl
structure zO{α:Type}(f:α->α->Int):Prop where
 rng:∀a b,f a b= -1\/f a b=0\/f a b=1
 anti:∀a b,f b a= -f a b
 eq0:∀a b,f a b=0↔a=b
 trans:∀a b c,f a b= -1->f b c= -1->f a c= -1
def zO.self{α:Type}{f:α->α->Int}(h:zO f)(a:α):f a a=0:=(h.eq0 a a).2 rfl
def mK{α:Type}(f:α->α->Int):List α->List α->Int
 | [],[]=>0
 | [],_::_=> -1
 |_::_,[]=>1
 |a::aas,b::bs=>if f a b=0 then mK f aas bs else f a b
def JW{α:Type}{f:α->α->Int}(h:zO f):zO (mK f):=by
 refine⟨?_,?_,?_,?_⟩
 ·intro a;induction a with
  |nil=>intro b;cases b<;>simp[mK]
  |cons x a ih=>
   intro b;cases b with
   |nil=>simp[mK]
   |cons y b=>
    simp only[mK];split
    ·exact ih b
    exact h.rng x y
 ·intro a;induction a with
  |nil=>intro b;cases b<;>simp[mK]
  |cons x a ih=>
   intro b;cases b with
   |nil=>simp[mK]
   |cons y b=>
    simp only[mK,h.anti x y];by_cases e:f x y=0
    ·rw[if_pos (by rw[e];rfl),if_pos e];exact ih b
    rw[if_neg az,if_neg e]
 ·intro a;induction a with
  |nil=>intro b;cases b<;>simp[mK]
  |cons x a ih=>
   intro b;cases b with
   |nil=>simp[mK]
   |cons y b=>
    simp only[mK];by_cases e:f x y=0
    ·rw[if_pos e,ih b,(h.eq0 x y).1 e];simp
    rw[if_neg e];refine⟨λk=>(e k).elim,λk=>?_⟩;injection k with k1 k2;exact (e ((h.eq0 x y).2 k1)).elim
 intro a;induction a with
 |nil=>
  intro b c;cases c with
  |nil=>cases b<;>simp[mK]
  |cons z c=>intro _ _;rfl
 |cons x a ih=>
  intro b c h1 h2;cases b with
  |nil=>simp[mK]at h1
  |cons y b=>
   cases c with
   |nil=>simp[mK]at h2
   |cons z c=>
    simp only[mK]at h1 h2|-;by_cases e1:f x y=0
    ·rw[if_pos e1]at h1;have:=(h.eq0 x y).1 e1;subst this;by_cases e2:f x z=0
     ·rw[if_pos e2]at h2|-;exact ih b c h1 h2
     rw[if_neg e2]at h2|-;exact h2
    rw[if_neg e1]at h1;by_cases e2:f y z=0
    ·have:=(h.eq0 y z).1 e2;subst this;rw[if_neg e1];exact h1
    rw[if_neg e2]at h2;have:=h.trans x y z h1 h2;rw[if_neg az];exact this
def AO{α β:Type}(f:α->α->Int)(g:β->β->Int)(a b:α×β):Int:=if f a.1 b.1=0 then g a.2 b.2 else f a.1 b.1
def O5{α β:Type}{f:α->α->Int}{g:β->β->Int}(hf:zO f)(hg:zO g):zO (AO f g):=by
 refine⟨λa b=>?_,λa b=>?_,λa b=>?_,λa b c h1 h2=>?_⟩
 ·unfold AO;split
  ·exact hg.rng _ _
  exact hf.rng _ _
 ·unfold AO;rw[hf.anti a.1 b.1];by_cases e:f a.1 b.1=0
  ·rw[if_pos az,if_pos e];exact hg.anti _ _
  rw[if_neg az,if_neg e]
 ·unfold AO;obtain⟨a1,a2⟩:=a;obtain⟨b1,b2⟩:=b;by_cases e:f a1 b1=0
  ·have e1:=(hf.eq0 a1 b1).1 e;subst e1;simp only[e,if_true,hg.eq0,bK,true_and]
  simp only[e,if_false,bK,false_iff];exact λk=>e ((hf.eq0 _ _).2 k.1)
 unfold AO at h1 h2|-;obtain⟨a1,a2⟩:=a;obtain⟨b1,b2⟩:=b;obtain⟨c1,c2⟩:=c;simp only at h1 h2|-;by_cases e1:f a1 b1=0
 ·rw[if_pos e1]at h1;have:=(hf.eq0 _ _).1 e1;subst this;by_cases e2:f a1 c1=0
  ·rw[if_pos e2]at h2|-;exact hg.trans _ _ _ h1 h2
  rw[if_neg e2]at h2|-;exact h2
 rw[if_neg e1]at h1;by_cases e2:f b1 c1=0
 ·have:=(hf.eq0 _ _).1 e2;subst this;rw[if_neg e1];exact h1
 rw[if_neg e2]at h2;have:=hf.trans _ _ _ h1 h2;rw[if_neg az];exact this
def wJ(a b:UInt8):Int:=if a<b then-1 else if b<a then 1 else 0
def Sq:zO wJ:=by
 refine⟨λa b=>?_,λa b=>?_,λa b=>?_,λa b c h1 h2=>?_⟩
 ·unfold wJ;split
  ·exact .inl rfl
  split
  ·exact .inr (.inr rfl)
  exact .inr (.inl rfl)
 ·unfold wJ;simp only[eH]
  repeat' split<;>first|rfl|omega
 ·unfold wJ;simp only[eH,<-eY];split
  ·exact⟨λh=>by simp at h,λh=>az⟩
  split
  ·exact⟨λh=>by simp at h,λh=>az⟩
  exact⟨λ_=>az,λ_=>rfl⟩
 unfold wJ at h1 h2|-;simp only[eH]at h1 h2|-;have h1':a.toNat<b.toNat:=by
  by_cases h:a.toNat<b.toNat
  ·exact h
  rw[if_neg h]at h1;split at h1<;>simp at h1
 have h2':b.toNat<c.toNat:=by
  by_cases h:b.toNat<c.toNat
  ·exact h
  rw[if_neg h]at h2;split at h2<;>simp at h2
 rw[if_pos az]
def PJ(a b:List UInt8):Lib.compareBytes a b=mK wJ a b:=by
 induction a generalizing b with
 |nil=>cases b<;>rfl
 |cons x a ih=>
  cases b with
  |nil=>rfl
  |cons y b=>
   simp only[Lib.compareBytes,mK,ih];unfold wJ;by_cases h1:x<y
   ·simp[h1]
   by_cases h2:y<x
   ·simp[h1,h2]
   simp[h1,h2]
def sg(a b:ByteArray):Int:=mK wJ a.data.toList b.data.toList
def zL{a b:ByteArray}(h:a.data.toList=b.data.toList):a=b:=cE (by simpa using h)
def xg:zO sg:=by
 have h:=JW Sq;exact⟨λa b=>h.rng _ _,λa b=>h.anti _ _,λa b=>⟨λe=>zL ((h.eq0 _ _).1 e),λe=>by rw[e];exact (h.eq0 _ _).2 rfl⟩,λa b c=>h.trans _ _ _⟩
abbrev mZ(a b:ByteArray):Bool:=a.toList==b.toList
abbrev EB(a b:ByteArray):Bool:=Op.bytesLess a.toList b.toList
def l_{a b:ByteArray}:mZ a b=true↔a=b:=by
 unfold mZ;rw[ByteArray.toList_eq,ByteArray.toList_eq,beq_iff_eq];exact⟨zL,λe=>by rw[e]⟩
def E0{a b:ByteArray}:mZ a b=false↔a≠b:=by
 rw[<-Bool.not_eq_true,ne_eq,l_]
def yQ:∀(a b:List UInt8),Op.bytesLess a b=decide (mK wJ a b= -1)
 | [],[]=>rfl
 | [],_::_=>rfl
 |_::_,[]=>rfl
 |x::a,y::b=>by
  simp only[Op.bytesLess,mK,yQ a b];unfold wJ;by_cases h1:x<y
  ·simp[h1]
  by_cases h2:y<x
  ·have:x≠y:=λe=>by subst e;exact h1 h2
   simp[h1,h2,this]
  have:x=y:=by
   rw[<-eY];rw[eH]at h1 h2;omega
  simp[this]
def Q7(a b:ByteArray):EB a b=decide (sg a b= -1):=by
 unfold EB sg;rw[ByteArray.toList_eq,ByteArray.toList_eq,yQ]
def Q5{a b:ByteArray}:EB a b=true↔sg a b= -1:=by rw[Q7,decide_eq_true_iff]
structure Lb where
 name:ByteArray
 value:ByteArray
structure Mt where
 name:ByteArray
 op:Int
 value:ByteArray
instance:Inhabited Lb:=⟨⟨⟨#[]⟩,⟨#[]⟩⟩⟩
instance:Inhabited Mt:=⟨⟨⟨#[]⟩,0,⟨#[]⟩⟩⟩
def p7(n:Nat)(p:Nat->Bool):Bool:=(List.range n).any p
def oa{n i:Nat}{p:Nat->Bool}(h:i<n)(hp:p i=true):p7 n p=true:=dp.2 ⟨i,eE.2 h,hp⟩
def nZ{n:Nat}{p:Nat->Bool}(h:∀i,i<n->p i=false):p7 n p=false:=by
 unfold p7;rw[dL];intro x hx;rw[h x (eE.1 hx)]
 decide
def oP{n:Nat}{p:Nat->Bool}(h:p7 n p=false)(i:Nat)(hi:i<n):p i=false:=by
 cases hp:p i with
 |false=>rfl
 |true=>rw[oa hi hp]at h;cases h
def lH(c:UInt8):Bool:=decide (97<=c.toNat/\c.toNat<=122)||(decide (65<=c.toNat/\c.toNat<=90)||decide (c.toNat=95))
def kz(c:UInt8):Bool:=decide (48<=c.toNat/\c.toNat<=57)
def K5(s:ByteArray)(i:Nat):Bool:=match s[i]? with
 |some c=> !lH c&&(i==0|| !kz c)
 |none=>false
def lU(s:ByteArray):Bool:= !p7 s.size (K5 s)&&decide (1<=s.size/\s.size<=24)
def zM(s:ByteArray)(i:Nat):Bool:=match s[i]? with
 |some c=>decide (c.toNat<32)||(decide (126<c.toNat)||(decide (c.toNat=34)||decide (c.toNat=92)))
 |none=>false
def ma(s:ByteArray):Bool:= !p7 s.size (zM s)&&decide (s.size<=24)
def vh(l:List Lb)(i:Nat):Bool:=
 !lU (l.getD i default).name||(!ma (l.getD i default).value||(mZ (l.getD i default).value ⟨#[]⟩||(decide (0<i)&& !EB (l.getD (i-1) default).name (l.getD i default).name)))
def iS(l:List Lb):Bool:= !p7 l.length (vh l)&&decide (1<=l.length/\l.length<=8)
def kT(l:List Lb)(n:ByteArray):ByteArray:=match l with
 | []=>⟨#[]⟩
 |x::r=>if mZ x.name n=true then x.value else kT r n
def yB(a b:Lb):Int:=AO sg sg (a.name,a.value) (b.name,b.value)
def iZ(a b:List Lb):Int:=mK yB a b
def xW:zO yB:=by
 have h:=O5 xg xg;refine⟨λa b=>h.rng _ _,λa b=>h.anti _ _,λa b=>?_,λa b c=>h.trans _ _ _⟩;rw[yB,h.eq0];obtain⟨a1,a2⟩:=a;obtain⟨b1,b2⟩:=b;simp
def jo:zO iZ:=JW xW
def bs(l:List UInt8):ByteArray:=⟨l.toArray⟩
def Sa(l:List UInt8):(bs l).data.toList=l:=by simp[bs]
def JF(l:List UInt8):(bs l).size=l.length:=by show l.toArray.size=_;simp
def size_data(s:ByteArray):s.data.toList.length=s.size:=bu
def xE(m:Mt):Bool:= !lU m.name||(!ma m.value|| !decide (0<=m.op/\m.op<=3))
def l8(l:List Mt):Bool:= !p7 l.length (λi=>xE (l.getD i default))&&decide (l.length<=8)
def nI(s p:ByteArray):Bool:=decide (p.size<=s.size)&&mZ (s.extract 0 p.size) p
def o_(l:List Lb)(m:Mt):Bool:=
 if m.op=0 then mZ (kT l m.name) m.value else if m.op=1 then !mZ (kT l m.name) m.value else if m.op=2 then nI (kT l m.name) m.value else !nI (kT l m.name) m.value
def rE(l:List Lb)(m:List Mt):Bool:=m.all (o_ l)
def tU(s:ByteArray)(n:Nat):(s.extract 0 n).data.toList=s.data.toList.take n:=by
 rw[cw,dz];rfl
def Nh{s p:ByteArray}:nI s p=true↔p.data.toList<+:s.data.toList:=by
 unfold nI;rw[aG,decide_eq_true_iff,l_,dD,size_data];constructor
 ·rintro⟨h1,h2⟩;rw[<-tU,h2]
 intro h;have h1:=congrArg List.length h;rw[aY,size_data,size_data]at h1;refine⟨az,zL ?_⟩;rw[tU];exact h.symm
def sy:List UInt8:=[97,98,99,100,101,102,103,104,105,106,107,108,109,110,111,112,113,114,115,116,117,118,119,120,121,122,65,66,67,68,69,70,71,72,73,74,75,76,77,78,79,80,81,82,83,84,85,86,87,88,89,90,95]
def tZ:List UInt8:=[48,49,50,51,52,53,54,55,56,57]
def Cy{p:UInt8->Bool}(h:∀n:Fin 256,p (UInt8.ofNat n.val)=true)(c:UInt8):p c=true:=by
 have:=h ⟨c.toNat,c.toNat_lt⟩;simpa using this
def HW(c:UInt8):decide (0<=Lib.indexByte sy c)=lH c:=by
 have:=Cy (p:=λc=>decide (0<=Lib.indexByte sy c)==lH c) (m7) c;simpa using this
def BP(c:UInt8):(sy++tZ).contains c=(lH c||kz c):=by
 have:=Cy (p:=λc=>(sy++tZ).contains c==(lH c||kz c)) (m7) c;simpa using this
def dropWhile_nil{α:Type}(p:α->Bool)(l:List α):l.dropWhile p=[] ↔∀x∈l,p x=true:=by
 induction l with
 |nil=>simp
 |cons a l ih=>
  simp only[List.dropWhile_cons];cases h:p a with
  |true=>simp[ih,h]
  |false=>simp[h]
def yH{α:Type}(p:α->Bool):∀(l:List α) (x:α),x∈l->x∈l.dropWhile p\/p x=true
 |a::l,x,h=>by
  simp only[List.dropWhile_cons];cases hp:p a with
  |true=>
   rcases aF.1 h with rfl|h
   ·exact .inr hp
   exact yH p l x h
  |false=>exact .inl h
def OS(l cs:List UInt8):Lib.trimS l cs=[] ↔∀x∈l,cs.contains x=true:=by
 unfold Lib.trimS Lib.trimLeftS Lib.trimRightS;rw[dropWhile_nil];constructor
 ·intro h x hx;rcases yH (cs.contains ·) l.reverse x (fC.2 hx) with h1|h1
  ·exact h x (fC.2 h1)
  exact h1
 intro h x hx;refine h x ?_;have:=(List.dropWhile_sublist (l:=l.reverse) (cs.contains ·)).subset (fC.1 hx);exact fC.1 this
def zX{s:ByteArray}{i:Nat}(h:i<s.size):K5 s i=(!lH s[i] &&(i==0|| !kz s[i])):=by
 unfold K5;rw[getElem?_pos s i h]
def Mf(s:ByteArray)(h0:1<=s.size)(h1:s.size<=24):lU s=(lH (s[0]'h0)&&decide (Lib.trimS s.data.toList (sy++tZ)=[])):=by
 unfold lU;rw[decide_eq_true (p:=1<=s.size/\s.size<=24) ⟨h0,h1⟩,gT,cp,bG,aG,decide_eq_true_iff,OS];constructor
 ·intro h;have h2:=oP h;have h3:=h2 0 h0;rw[zX h0]at h3;refine⟨by simpa using h3,λx hx=>?_⟩;obtain⟨i,hi,rfl⟩:=bz hx;rw[size_data]at hi;have h4:=h2 i hi;rw[zX hi]at h4;rw[BP];have e:s.data.toList[i]=s[i]:=rfl;rw[e]
  revert h4
  cases lH s[i] <;>cases kz s[i] <;>simp
 rintro⟨h2,h3⟩;refine nZ λi hi=>?_;rw[zX hi];have h4:=h3 s[i] (aR (l:=s.data.toList) (by rw[size_data];exact hi));rw[BP]at h4;by_cases hi0:i=0
 ·subst hi0;rw[h2];rfl
 have:(i==0)=false:=by simpa using hi0
 rw[this]
 revert h4
 cases lH s[i] <;>cases kz s[i] <;>simp
def G1{s:ByteArray}(h:¬(1<=s.size/\s.size<=24)):lU s=false:=by
 unfold lU;rw[decide_eq_false h,du]
abbrev nT(x:Int):Int:=i64.wrap x
def zS(x:Int):nT x=(x+9223372036854775808) % 18446744073709551616-9223372036854775808:=by
 unfold nT;rw[IntKind.wrap_i64]
def xr{x:Int}(h: -9223372036854775808<=x)(h':x<=9223372036854775807):nT x=x:=by rw[zS];omega
def rV(x y:Int):nT (nT x+y)=nT (x+y):=by simp only[zS];omega
def Ex(x y:Int):nT (x+nT y)=nT (x+y):=by simp only[zS];omega
structure Bk where
 start:Int
 count:Int
 sum:Int
 min:Int
 max:Int
 deriving DecidableEq
structure Sm where
 time:Int
 value:Int
 deriving DecidableEq
def La(a b:Bk):Bk:=⟨a.start,nT (a.count+b.count),nT (a.sum+b.sum),if b.min<a.min then b.min else a.min,if b.max>a.max then b.max else a.max⟩
def DB(l:List Bk)(b:Bk):List Bk:=match l.getLast? with
 |some x=>if x.start=b.start then l.dropLast++[La x b] else l++[b]
 |none=>l++[b]
def C1(t s:Int):Int:=if t.tmod s<0 then nT (t-nT (t.tmod s+s)) else nT (t-t.tmod s)
def wB(s:Int)(x:Sm):Bk:=⟨C1 x.time s,1,x.value,x.value,x.value⟩
def CV(out:List Bk)(l:List Bk):List Bk:=l.foldl DB out
def Gi(l:List Sm)(s:Int):List Bk:=CV [] (l.map (wB s))
def N6(b:Bk):DB [] b=[b]:=rfl
def Nu(l:List Bk)(x b:Bk):DB (l++[x]) b=if x.start=b.start then l++[La x b] else l++[x,b]:=by
 unfold DB;simp
def Lt(out l:List Bk)(b:Bk):CV out (l++[b])=DB (CV out l) b:=by
 unfold CV;rw[bN];rfl
def pG(l:List Bk):Int:=(l.map (·.count)).sum
def Dq(l:List Bk):Int:=(l.map (·.sum)).sum
def k_(l:List Sm):Int:=(l.map (·.value)).sum
def yh(l:List Bk)(b:Bk):pG (l++[b])=pG l+b.count:=by simp[pG]
def wc(l:List Bk)(b:Bk):Dq (l++[b])=Dq l+b.sum:=by simp[Dq]
def zh(l:List Sm)(b:Sm):k_ (l++[b])=k_ l+b.value:=by simp[k_]
def BZ{α:Type}{P:List α->Prop}(h0:P [])(h1:∀l x,P l->P (l++[x]))(l:List α):P l:=by
 induction hn:l.length generalizing l with
 |zero=>have:l=[]:=ca.1 hn;subst this;exact h0
 |succ n ih=>
  rcases List.eq_nil_or_concat l with rfl|⟨l',x,e⟩
  ·exact h0
  rw[List.concat_eq_append]at e;subst e;exact h1 l' x (ih l' (by simpa using hn))
def Nz(l:List Sm)(x:Sm)(s:Int):Gi (l++[x]) s=DB (Gi l s) (wB s x):=by
 unfold Gi;rw[aP];exact Lt _ _ _
def Kd{l:List Bk}(h:∀b∈l,1<=b.count):0<=pG l:=by
 induction l with
 |nil=>exact bY _
 |cons x r ih=>
  have h1:=h x aA;have h2:=ih λb hb=>h b (aK _ hb);simp only[pG,bb,cK]at h2|-;omega
structure rH(s:Int)(l:List Sm)(o:List Bk):Prop where
 each:∀b∈o,1<=b.count/\b.min<=b.max/\∃x∈l,b.start=C1 x.time s
 pG:pG o=l.length
 sum:nT (Dq o)=nT (k_ l)
def held(s:Int)(l:List Sm):l.length<=1000000->rH s l (Gi l s):=by
 refine BZ (P:=λl=>l.length<=1000000->rH s l (Gi l s)) (λ_=>⟨by simp[Gi,CV],rfl,rfl⟩) (λl x ih hlen=>?_) l;simp only[aI,aB,aM]at hlen;obtain⟨i1,i2,i3⟩:=ih az;rw[Nz];have hin:∀{b:Bk},(∃y∈l,b.start=C1 y.time s)->∃y∈l++[x],b.start=C1 y.time s:=λ⟨y,hy,e⟩=>⟨y,eO _ hy,e⟩;rcases List.eq_nil_or_concat (Gi l s) with e|⟨m,y,e⟩
 ·rw[e]at i2 i3|-;rw[N6];refine⟨λb hb=>?_,?_,?_⟩
  ·have:b=wB s x:=by simpa using hb
   subst this;exact⟨bY _,bY _,x,by simp,rfl⟩
  ·simp[PL.pG,wB]at i2|-;omega
  rw[zh,<-rV,<-i3];simp[Dq,wB,rV]
 rw[List.concat_eq_append]at e;rw[e]at i1 i2 i3|-;rw[Nu];rw[yh]at i2;rw[wc]at i3;have hm:0<=PL.pG m:=Kd λb hb=>(i1 b (eO _ hb)).1;have hy:=i1 y aA;by_cases h:y.start=(wB s x).start
 ·rw[if_pos h];refine⟨λb hb=>?_,?_,?_⟩
  ·rcases aE.1 hb with hb|hb
   ·obtain⟨a1,a2,a3⟩:=i1 b (eO _ hb);exact⟨a1,a2,hin a3⟩
   have:b=La y (wB s x):=by simpa using hb
   subst this;refine⟨?_,?_,hin hy.2.2⟩
   ·show 1<=nT (y.count+1);rw[xr az az];omega
   show (if x.value<y.min then x.value else y.min)<=(if x.value>y.max then x.value else y.max);have:=hy.2.1;split<;>split<;>omega
  ·rw[yh];show PL.pG m+nT (y.count+1)=_;rw[xr az az];simp;omega
  rw[wc,zh,<-rV (k_ l),<-i3,rV];show nT (Dq m+nT (y.sum+x.value))=_;rw[Ex]
  congr 1;omega
 rw[if_neg h];rw[show m++[y,wB s x]=(m++[y])++[wB s x] by simp];refine⟨λb hb=>?_,?_,?_⟩
 ·rcases aE.1 hb with hb|hb
  ·obtain⟨a1,a2,a3⟩:=i1 b hb;exact⟨a1,a2,hin a3⟩
  have:b=wB s x:=by simpa using hb
  subst this;exact⟨bY _,bY _,x,by simp,rfl⟩
 ·rw[yh,yh];show _+1=_;simp;omega
 rw[wc,wc,zh,<-rV (k_ l),<-i3,rV];rfl
structure xc(l:List Sm):Prop where
 lo:∀x∈l, -1099511627776<=x.time
 hi:∀x∈l,x.time<=1099511627776
 up:l.Pairwise (·.time< ·.time)
open Classical in
noncomputable def ke(l:List Sm):Bool:=decide (xc l/\l.length<=2000)
def ja(l:List Sm):ke l=true↔xc l/\l.length<=2000:=by unfold ke;simp
def Aw(l:List Sm)(i:Nat)(x:Sm):Prop:=x.time< -1099511627776\/x.time>1099511627776\/(0<i/\∃y,l[i-1]? =some y/\y.time>=x.time)
def Sl(l:List Sm):xc l↔∀i x,l[i]? =some x->¬Aw l i x:=by
 constructor
 ·rintro⟨h1,h2,h3⟩ i x hx (h|h|⟨hi,y,hy,h⟩)
  ·have:=h1 x (bp hx);omega
  ·have:=h2 x (bp hx);omega
  obtain⟨hi1,e1⟩:=aO.1 hx;obtain⟨hi2,e2⟩:=aO.1 hy;have:=bT.1 h3 (i-1) i hi2 hi1 az;rw[e1,e2]at this;omega
 intro h;have step:∀i,(hi:i+1<l.length)->l[i].time<l[i+1].time:=λi hi=>by
  have:=h (i+1) l[i+1] (aC hi);rcases Int.lt_or_le l[i].time l[i+1].time with h1|h1
  ·exact h1
  exact (this (.inr (.inr ⟨az,l[i],by rw[cP];exact aC az,h1⟩))).elim
 have far:∀d i,(hi:i+d+1<l.length)->l[i].time<l[i+d+1].time:=λd=>by
  induction d with
  |zero=>intro i hi;exact step i hi
  |succ d ih=>
   intro i hi;have h1:=ih i az;have h2:=step (i+d+1) hi;exact Int.lt_trans h1 h2
 refine⟨λx hx=>?_,λx hx=>?_,bT.2 λi j hi hj hij=>?_⟩
 ·obtain⟨i,hi,e⟩:=bz hx;have:=h i x (by rw[aC hi,e]);rcases Int.lt_or_le x.time (-1099511627776) with h1|h1
  ·exact (this (.inl h1)).elim
  exact h1
 ·obtain⟨i,hi,e⟩:=bz hx;have:=h i x (by rw[aC hi,e]);rcases Int.lt_or_le 1099511627776 x.time with h1|h1
  ·exact (this (.inr (.inl h1))).elim
  exact h1
 have:=far (j-i-1) i az;have e:i+(j-i-1)+1=j:=az
 simp only[e]at this;exact this
def Ji(l:List Sm):ke l=true↔(∀i x,l[i]? =some x->¬Aw l i x)/\l.length<=2000:=by rw[ja,Sl]
def vn(f:Nat->Bool):Nat:=(f 0).toNat*128+(f 1).toNat*64+(f 2).toNat*32+(f 3).toNat*16+(f 4).toNat*8+(f 5).toNat*4+(f 6).toNat*2+(f 7).toNat
def JD(f:Nat->Bool):vn f<256:=by
 unfold vn;have h:∀b:Bool,b.toNat<=1:=λb=>by cases b<;>decide
 have:=h (f 0);have:=h (f 1);have:=h (f 2);have:=h (f 3);have:=h (f 4);have:=h (f 5);have:=h (f 6);have:=h (f 7);omega
def uI{f g:Nat->Bool}(h:∀j,j<8->f j=g j):vn f=vn g:=by
 unfold vn;rw[h 0 az,h 1 az,h 2 az,h 3 az,h 4 az,h 5 az,h 6 az,h 7 az]
def Rh(f:Nat->Bool)(r:Nat)(hr:r<8)(hf:f r=false):vn (λj=>j==r||f j)=vn f||| (128>>>r):=by
 unfold vn
 match r,hr with
 |0,_=>simp only[hf];generalize f 1=b1;generalize f 2=b2;generalize f 3=b3;generalize f 4=b4;generalize f 5=b5;generalize f 6=b6;generalize f 7=b7;revert b1 b2 b3 b4 b5 b6 b7;decide+kernel
 |1,_=>simp only[hf];generalize f 0=b1;generalize f 2=b2;generalize f 3=b3;generalize f 4=b4;generalize f 5=b5;generalize f 6=b6;generalize f 7=b7;revert b1 b2 b3 b4 b5 b6 b7;decide+kernel
 |2,_=>simp only[hf];generalize f 0=b1;generalize f 1=b2;generalize f 3=b3;generalize f 4=b4;generalize f 5=b5;generalize f 6=b6;generalize f 7=b7;revert b1 b2 b3 b4 b5 b6 b7;decide+kernel
 |3,_=>simp only[hf];generalize f 0=b1;generalize f 1=b2;generalize f 2=b3;generalize f 4=b4;generalize f 5=b5;generalize f 6=b6;generalize f 7=b7;revert b1 b2 b3 b4 b5 b6 b7;decide+kernel
 |4,_=>simp only[hf];generalize f 0=b1;generalize f 1=b2;generalize f 2=b3;generalize f 3=b4;generalize f 5=b5;generalize f 6=b6;generalize f 7=b7;revert b1 b2 b3 b4 b5 b6 b7;decide+kernel
 |5,_=>simp only[hf];generalize f 0=b1;generalize f 1=b2;generalize f 2=b3;generalize f 3=b4;generalize f 4=b5;generalize f 6=b6;generalize f 7=b7;revert b1 b2 b3 b4 b5 b6 b7;decide+kernel
 |6,_=>simp only[hf];generalize f 0=b1;generalize f 1=b2;generalize f 2=b3;generalize f 3=b4;generalize f 4=b5;generalize f 5=b6;generalize f 7=b7;revert b1 b2 b3 b4 b5 b6 b7;decide+kernel
 |7,_=>simp only[hf];generalize f 0=b1;generalize f 1=b2;generalize f 2=b3;generalize f 3=b4;generalize f 4=b5;generalize f 5=b6;generalize f 6=b7;revert b1 b2 b3 b4 b5 b6 b7;decide+kernel
def Pv(f:Nat->Bool)(r:Nat)(hr:r<8):(vn f).testBit (7-r)=f r:=by
 unfold vn;generalize h0:f 0=b0;generalize h1:f 1=b1;generalize h2:f 2=b2;generalize h3:f 3=b3;generalize h4:f 4=b4;generalize h5:f 5=b5;generalize h6:f 6=b6;generalize h7:f 7=b7
 match r,hr with
 |0,_=>rw[h0];clear h0 h1 h2 h3 h4 h5 h6 h7;revert b0 b1 b2 b3 b4 b5 b6 b7;decide+kernel
 |1,_=>rw[h1];clear h0 h1 h2 h3 h4 h5 h6 h7;revert b0 b1 b2 b3 b4 b5 b6 b7;decide+kernel
 |2,_=>rw[h2];clear h0 h1 h2 h3 h4 h5 h6 h7;revert b0 b1 b2 b3 b4 b5 b6 b7;decide+kernel
 |3,_=>rw[h3];clear h0 h1 h2 h3 h4 h5 h6 h7;revert b0 b1 b2 b3 b4 b5 b6 b7;decide+kernel
 |4,_=>rw[h4];clear h0 h1 h2 h3 h4 h5 h6 h7;revert b0 b1 b2 b3 b4 b5 b6 b7;decide+kernel
 |5,_=>rw[h5];clear h0 h1 h2 h3 h4 h5 h6 h7;revert b0 b1 b2 b3 b4 b5 b6 b7;decide+kernel
 |6,_=>rw[h6];clear h0 h1 h2 h3 h4 h5 h6 h7;revert b0 b1 b2 b3 b4 b5 b6 b7;decide+kernel
 |7,_=>rw[h7];clear h0 h1 h2 h3 h4 h5 h6 h7;revert b0 b1 b2 b3 b4 b5 b6 b7;decide+kernel
def xU(bs:List Bool)(k:Nat):Bool:=bs[k]?.getD false
def lh(bs:List Bool)(i:Nat):Nat:=vn λj=>xU bs (8*i+j)
def pack(bs:List Bool):List UInt8:=(List.range ((bs.length+7) /8)).map λi=>UInt8.ofNat (lh bs i)
def tm(bs:List Bool):(pack bs).length=(bs.length+7) /8:=by simp[pack]
def qx(bs:List Bool)(i:Nat):(pack bs)[i]? =if i<(bs.length+7) /8 then some (UInt8.ofNat (lh bs i)) else none:=by
 unfold pack;rw[bg];by_cases h:i<(bs.length+7) /8
 ·rw[if_pos h,fO h];rfl
 rw[if_neg h,bI (by simpa using h)];rfl
def Af(bs:List Bool)(b:Bool)(k:Nat):xU (bs++[b]) k=if k=bs.length then b else xU bs k:=by
 unfold xU;by_cases h:k<bs.length
 ·rw[bc h,if_neg az]
 by_cases h2:k=bs.length
 ·subst h2;rw[if_pos rfl,aU (aL _)];simp
 rw[if_neg h2,bI aq,bI az]
def AD(bs:List Bool)(k:Nat)(h:bs.length<=k):xU bs k=false:=by
 unfold xU;rw[bI h];rfl
def q_(bs:List Bool)(i:Nat):lh (bs++[false]) i=lh bs i:=by
 unfold lh;refine uI λj _=>?_;rw[Af];split
 ·rename_i h;rw[AD bs _ az]
 rfl
def HZ(bs:List Bool)(i:Nat):lh (bs++[true]) i=if i=bs.length/8 then lh bs i||| (128>>> (bs.length % 8)) else lh bs i:=by
 by_cases hi:i=bs.length/8
 ·rw[if_pos hi];unfold lh;rw[<-Rh (λj=>xU bs (8*i+j)) (bs.length % 8) (eK _ az) (AD _ _ az)];refine uI λj hj=>?_;rw[Af];by_cases h:j=bs.length % 8
  ·rw[if_pos az];simp[h]
  rw[if_neg az];simp[h]
 rw[if_neg hi];unfold lh;refine uI λj hj=>?_;rw[Af,if_neg az]
def TL(bs:List Bool):pack (bs++[false])=if bs.length % 8=0 then pack bs++[0] else pack bs:=by
 by_cases h:bs.length % 8=0
 ·rw[if_pos h];refine cT λi=>?_;rw[qx];by_cases h1:i<(pack bs).length
  ·rw[bc h1,qx];rw[tm]at h1;rw[if_pos h1,if_pos aq,q_]
  rw[aU az];rw[tm]at h1|-;by_cases h2:i=(bs.length+7) /8
  ·subst h2;rw[if_pos aq,dh,q_];have:lh bs ((bs.length+7) /8)=0:=by
    unfold lh;rw[uI (g:=λ_=>false) (λj _=>AD _ _ az)];rfl
   rw[this];rfl
  rw[if_neg aq,bI aq]
 rw[if_neg h];refine cT λi=>?_;rw[qx,qx,q_];have:(bs++[false]).length=bs.length+1:=by simp
 rw[this,show (bs.length+1+7) /8=(bs.length+7) /8 by omega]
def S9(bs:List Bool):(pack (bs++[false])).set (bs.length/8) (UInt8.ofNat (lh bs (bs.length/8)||| (128>>> (bs.length % 8))))=pack (bs++[true]):=by
 refine cT λi=>?_;have e1:(bs++[false]).length=bs.length+1:=aA
 have e2:(bs++[true]).length=bs.length+1:=aA
 rw[qx,HZ,e2];by_cases hi:bs.length/8=i
 ·subst hi;rw[dZ (by rw[tm,e1];omega),if_pos az,if_pos rfl]
 have hi':¬i=bs.length/8:=λh=>hi h.symm;rw[eM hi,qx,e1,q_];simp only[if_neg hi']
def Rn(bs:List Bool):(pack (bs++[false]))[bs.length/8]? =some (UInt8.ofNat (lh bs (bs.length/8))):=by
 rw[qx,q_,if_pos aq]
def u7(x:UInt8):List Bool:=(List.range 8).map λj=>x.toNat.testBit (7-j)
def bitsOf(s:List UInt8):List Bool:=s.flatMap u7
def J7(s:List UInt8):(bitsOf s).length=8*s.length:=by
 unfold bitsOf;induction s with
 |nil=>rfl
 |cons x s ih=>simp only[dB,aI,ih,aB];simp[u7];omega
def Cs(s:List UInt8)(k:Nat):(bitsOf s)[k]? =(s[k/8]?).map λx=>x.toNat.testBit (7-k % 8):=by
 unfold bitsOf;induction s generalizing k with
 |nil=>simp
 |cons x s ih=>
  have h8:(u7 x).length=8:=by simp[u7]
  rw[dB];by_cases h:k<8
  ·rw[bc az,show k/8=0 by omega,show k % 8=k by omega];simp[u7,h]
  rw[aU az,h8,ih,show k/8=(k-8) /8+1 by omega,show (k-8) % 8=k % 8 by omega];rfl
def Iy(bs:List Bool):bitsOf (pack bs)=bs++List.replicate (8*((bs.length+7) /8) -bs.length) false:=by
 refine cT λk=>?_;rw[Cs,qx];by_cases h:k/8<(bs.length+7) /8
 ·rw[if_pos h];simp only[cC];have hb:(UInt8.ofNat (lh bs (k/8))).toNat=lh bs (k/8):=by
   have:=JD (λj=>xU bs (8*(k/8)+j));show (UInt8.ofNat (lh bs (k/8))).toNat=_;simp only[cO];exact cI this
  rw[hb];unfold lh;rw[Pv _ _ (eK _ az),show 8*(k/8)+k % 8=k by omega];by_cases h2:k<bs.length
  ·rw[bc h2];unfold xU;rw[aC h2];rfl
  rw[aU az,AD _ _ az,List.getElem?_replicate,if_pos az]
 rw[if_neg h,bI aq];rfl
def mD(l:List Bool):Nat:=l.foldl (λu b=>2*u+b.toNat) 0
def vQ(l:List Bool)(b:Bool):mD (l++[b])=2*mD l+b.toNat:=by simp[mD]
def JI(l:List Bool):mD l<2^l.length:=by
 refine BZ (P:=λl=>mD l<2^l.length) ax (λl b ih=>?_) l;rw[vQ,aI,List.length_singleton,fJ];cases b<;>simp<;>omega
def jR(u k:Nat):List Bool:=((List.range k).map λi=>u.testBit i).reverse
def qX(u k:Nat):(jR u k).length=k:=by simp[jR]
def FP(u k:Nat):jR u (k+1)=u.testBit k::jR u k:=by
 unfold jR;rw[fK];simp
def Ic(u k i:Nat)(h:i<k):(jR u k)[i]? =some (u.testBit (k-1-i)):=by
 unfold jR;rw[List.getElem?_reverse (by simpa using h)];simp;exact⟨k-1-i,by rw[fO az],rfl⟩
def PM(a b:List Bool):mD (a++b)=mD a*2^b.length+mD b:=by
 refine BZ (P:=λb=>mD (a++b)=mD a*2^b.length+mD b) (by simp[mD]) (λl x ih=>?_) b;rw[<-aS,vQ,vQ,ih,aI,List.length_singleton,fJ];rw[Nat.mul_add,<-Nat.mul_assoc,fb 2,Nat.mul_assoc,fb 2];omega
def Oc(u k:Nat):mD (jR u k)=u % 2^k:=by
 induction k with
 |zero=>simp[jR,mD];omega
 |succ k ih=>
  rw[FP,show u.testBit k::jR u k=[u.testBit k]++jR u k from rfl,PM,ih,qX];have h1:mD [u.testBit k]=(u.testBit k).toNat:=by simp[mD]
  have h2:(u.testBit k).toNat=u/2^k % 2:=by
   rw[fD];rcases eS (u/2^k) with h|h<;>rw[h] <;>rfl
  rw[h1,h2,Nat.mod_pow_succ,fb];omega
def mn(n:Int):Nat:=if n<0 then (-2*n-1).toNat else (2*n).toNat
def xN(u:Nat):Int:=if u % 2=0 then (u/2:Nat) else-((u/2:Nat):Int) -1
def R7(n:Int):xN (mn n)=n:=by
 unfold xN mn;by_cases h:n<0
 ·rw[if_pos h,if_neg az];omega
 rw[if_neg h,if_pos az];omega
def Mg{n:Int}(h1: -9223372036854775808<=n)(h2:n<=9223372036854775807):mn n<18446744073709551616:=by
 unfold mn;split<;>omega
def jd(k:Nat):Nat:=[0,4,7,12,20,32,64].getD k 0
def oX(u:Nat):Nat:=if u<1 then 0 else if u<16 then 1 else if u<128 then 2 else if u<4096 then 3 else if u<1048576 then 4 else if u<4294967296 then 5 else 6
def AN(u:Nat):oX u<=6:=by
  unfold oX;repeat' split
  all_goals omega
def QO{u:Nat}(h:u<18446744073709551616):u<2^jd (oX u):=by
 unfold oX;repeat' split
 all_goals (simp[jd];try omega)
def GP{u k:Nat}(h:k<oX u):u>>>jd k≠0:=by
 rw[cB];have h6:k<6:=a_ h (AN u);have hd:∀m,0<m->m<=u->u/m≠0:=λm hm hu=>Nat.ne_of_gt (Nat.div_pos hu hm);unfold oX at h
 match k,h6 with
 |0,_=>
   refine hd _ ax ?_;simp only[jd];repeat' split at h
   all_goals (simp;omega)
 |1,_=>
   refine hd _ ax ?_;simp only[jd];repeat' split at h
   all_goals (simp;omega)
 |2,_=>
   refine hd _ ax ?_;simp only[jd];repeat' split at h
   all_goals (simp;omega)
 |3,_=>
   refine hd _ ax ?_;simp only[jd];repeat' split at h
   all_goals (simp;omega)
 |4,_=>
   refine hd _ ax ?_;simp only[jd];repeat' split at h
   all_goals (simp;omega)
 |5,_=>
   refine hd _ ax ?_;simp only[jd];repeat' split at h
   all_goals (simp;omega)
def PH{u k:Nat}(h:oX u<=k)(hk:k<6):u>>>jd k=0:=by
 rw[cB];refine Nat.div_eq_of_lt ?_;unfold oX at h
 match k,hk with
 |0,_=>
   simp only[jd];repeat' split at h
   all_goals (simp;omega)
 |1,_=>
   simp only[jd];repeat' split at h
   all_goals (simp;omega)
 |2,_=>
   simp only[jd];repeat' split at h
   all_goals (simp;omega)
 |3,_=>
   simp only[jd];repeat' split at h
   all_goals (simp;omega)
 |4,_=>
   simp only[jd];repeat' split at h
   all_goals (simp;omega)
 |5,_=>
   simp only[jd];repeat' split at h
   all_goals (simp;omega)
def pre(k:Nat):List Bool:=List.replicate k true++(if k<6 then [false] else [])
def mz(n:Int):List Bool:=pre (oX (mn n))++jR (mn n) (jd (oX (mn n)))
def yE:Nat->Nat->List Bool->Option (Nat×List Bool)
 |0,k,bs=>some (k,bs)
 |_+1,_,[]=>none
 |n+1,k,b::bs=>if b then yE n (k+1) bs else some (k,bs)
def vA(bs:List Bool):Option (Int×List Bool):=
 match yE 6 0 bs with
 |none=>none
 |some (k,r)=>if r.length<jd k then none else if 0<k/\mD (r.take (jd k)) >>>jd (k-1)=0 then none else some (xN (mD (r.take (jd k))),r.drop (jd k))
def I9:∀(n k j:Nat) (r:List Bool),j<=n->k+n=6->yE n k (List.replicate j true++(if k+j<6 then [false] else [])++r)=some (k+j,r)
 |0,k,j,r,h1,h2=>by
  have:j=0:=by omega
  subst this;simp[yE,show¬k<6 by omega]
 |n+1,k,0,r,h1,h2=>by simp[yE,show k<6 by omega]
 |n+1,k,j+1,r,h1,h2=>by
  have ih:=I9 n (k+1) j r az az;rw[show k+1+j=k+(j+1) by omega]at ih;rw[List.replicate_succ];simpa[yE]using ih
def xx(n:Int)(h1: -9223372036854775808<=n)(h2:n<=9223372036854775807)(r:List Bool):vA (mz n++r)=some (n,r):=by
 have hz:=Mg h1 h2;have hl:=QO hz;have h6:=AN (mn n);unfold vA mz pre;have:=I9 6 0 (oX (mn n)) (jR (mn n) (jd (oX (mn n)))++r) h6 rfl;rw[cy]at this;rw[aS,this];simp only;have hlen:(jR (mn n) (jd (oX (mn n)))).length=jd (oX (mn n)):=qX _ _;rw[if_neg (by simp[hlen])];have ht:(jR (mn n) (jd (oX (mn n)))++r).take (jd (oX (mn n)))=jR (mn n) (jd (oX (mn n))):=by
  rw[eu az,cv az]
 have hd:(jR (mn n) (jd (oX (mn n)))++r).drop (jd (oX (mn n)))=r:=by
  rw[dC az,fu az];rfl
 rw[ht,hd,Oc,cI hl];rw[if_neg (λh=>GP az h.2),R7]
def xD(n:Int):1<=(mz n).length/\(mz n).length<=70:=by
 unfold mz pre;have h6:=AN (mn n);rw[aI,qX];generalize oX (mn n)=k at h6
 match k,h6 with
 |0,_=>decide
 |1,_=>decide
 |2,_=>decide
 |3,_=>decide
 |4,_=>decide
 |5,_=>decide
 |6,_=>decide
def Bh{x:Nat}(h:x<256):u8.wrap (x:Int)=x:=by rw[IntKind.wrap_u8];omega
def lR{x:Nat}(h:x<18446744073709551616):u64.wrap (x:Int)=x:=by rw[IntKind.wrap_u64];omega
def Qq{x:Nat}(h:x<256):(BitVec.ofInt IntKind.u8.bits (x:Int)).toNat=x:=by
 show (BitVec.ofInt 8 (x:Int)).toNat=x;rw[cQ,cV];exact cI h
def DT{x:Nat}(h:x<18446744073709551616):(BitVec.ofInt IntKind.u64.bits (x:Int)).toNat=x:=by
 show (BitVec.ofInt 64 (x:Int)).toNat=x;rw[cQ,cV];exact cI h
def Uy{x y:Nat}(hx:x<256)(hy:y<256):kh .or .u8 (x:Int) (y:Int)=((x|||y:Nat):Int):=by
 have h:x|||y<2^8:=gf hx hy;show u8.wrap ((BitVec.ofInt IntKind.u8.bits (x:Int)|||BitVec.ofInt IntKind.u8.bits (y:Int)).toNat:Int)=_;rw[fI,Qq hx,Qq hy,Bh h]
def S5{x y:Nat}(hx:x<256)(hy:y<256):kh .and .u8 (x:Int) (y:Int)=((x&&& y:Nat):Int):=by
 have h:x&&& y<256:=fg Nat.and_le_left hx;show u8.wrap ((BitVec.ofInt IntKind.u8.bits (x:Int)&&& BitVec.ofInt IntKind.u8.bits (y:Int)).toNat:Int)=_;rw[gC,Qq hx,Qq hy,Bh h]
def Ty{x y:Nat}(hx:x<18446744073709551616)(hy:y<18446744073709551616):kh .or .u64 (x:Int) (y:Int)=((x|||y:Nat):Int):=by
 have h:x|||y<2^64:=gf hx hy;show u64.wrap ((BitVec.ofInt IntKind.u64.bits (x:Int)|||BitVec.ofInt IntKind.u64.bits (y:Int)).toNat:Int)=_;rw[fI,DT hx,DT hy,lR h]
def II{x y:Nat}(hx:x<18446744073709551616)(hy:y<18446744073709551616):kh .and .u64 (x:Int) (y:Int)=((x&&& y:Nat):Int):=by
 have h:x&&& y<18446744073709551616:=fg Nat.and_le_left hx;show u64.wrap ((BitVec.ofInt IntKind.u64.bits (x:Int)&&& BitVec.ofInt IntKind.u64.bits (y:Int)).toNat:Int)=_;rw[gC,DT hx,DT hy,lR h]
def fdiv_pow(x r m:Nat)(h:r<=m):(x:Int).fdiv (2^ (min (r:Int).toNat m))=((x>>>r:Nat):Int):=by
 rw[bj,cq h,cB];have e:((2:Int) ^r)=((2^r:Nat):Int):=aA
 rw[e,dJ _ (aN _)];rfl
def zw{x:Nat}(h:x<256):(UInt8.ofNat x).toNat=x:=by
 simp only[cO];exact cI h
def Gg{u i:Nat}:((u>>>i&&& 1:Nat):Int)=(if u.testBit i then 1 else 0:Nat):=by
 rw[Nat.and_one_is_mod,cB,fD];rcases eS (u/2^i) with h|h<;>rw[h] <;>rfl
def MK{u i m:Nat}(hu:u<m):u>>>i<m:=by rw[cB];exact fg (Nat.div_le_self _ _) hu
def Qf(u k j:Nat)(h:j<k):(jR u k).take (k- (j+1))++[u.testBit j]=(jR u k).take (k-j):=by
 have hl:=qX u k;rw[show k-j=k- (j+1)+1 by omega,a6 az];have:=Ic u k (k- (j+1)) az;rw[aC az]at this;rw[br this]
 congr 3
 omega
def xor_zero{k:IntKind}{x:Int}:kh .xor k x 0=k.wrap ((BitVec.ofInt k.bits x).toNat:Int):=by
 show k.wrap ((BitVec.ofInt k.bits x^^^BitVec.ofInt k.bits 0).toNat:Int)=_;rw[BitVec.ofInt_ofNat];simp
def OI{n:Int}(h1: -9223372036854775808<=n)(h2:n<=9223372036854775807):kh .xor .u64 (u64.wrap (u64.wrap n*2^ (min (1:Int).toNat 64))) (u64.wrap (n.fdiv (2^ (min (63:Int).toNat 64))))=(mn n:Int):=by
 have e1:min (1:Int).toNat 64=1:=ax
 have e2:min (63:Int).toNat 64=63:=ax
 have hx:∃x:Nat,x<18446744073709551616/\u64.wrap (u64.wrap n*2^1)=(x:Int):=⟨(u64.wrap (u64.wrap n*2^1)).toNat,by rw[IntKind.wrap_u64];omega,by rw[IntKind.wrap_u64];omega⟩;rw[e1,e2];obtain⟨x,hx1,hx2⟩:=hx;rw[hx2];simp only[IntKind.wrap_u64]at hx2;rw[dJ _ ax];unfold mn;by_cases hn:n<0
 ·have e3:n/2^63= -1:=az
  rw[e3,if_pos hn];have e4:BitVec.ofInt IntKind.u64.bits (u64.wrap (-1))=BitVec.allOnes 64:=by show BitVec.ofInt 64 _=BitVec.allOnes 64;decide
  show u64.wrap ((BitVec.ofInt IntKind.u64.bits (x:Int) ^^^BitVec.ofInt IntKind.u64.bits (u64.wrap (-1))).toNat:Int)=_;rw[e4];show u64.wrap ((BitVec.ofInt 64 (x:Int) ^^^BitVec.allOnes 64).toNat:Int)=_;rw[BitVec.xor_allOnes,BitVec.toNat_not];have:=DT hx1;rw[show IntKind.u64.bits=64 from rfl]at this;rw[this,IntKind.wrap_u64];omega
 have e3:n/2^63=0:=az
 rw[e3,if_neg hn,show u64.wrap 0=0 from ax,xor_zero,DT hx1,lR hx1];omega
def OV{u:Nat}(hu:u<18446744073709551616):kh .xor .i64 (i64.wrap ((u:Int).fdiv (2^ (min (1:Int).toNat 64)))) (i64.wrap (0-i64.wrap (kh .and .u64 (u:Int) 1)))=xN u:=by
 have e1:(u:Int).fdiv (2^ (min (1:Int).toNat 64))=((u/2:Nat):Int):=by
  have:=fdiv_pow u 1 64 az;rw[cB]at this;exact this
 have e2:kh .and .u64 (u:Int) 1=((u % 2:Nat):Int):=by
  have:=II (x:=u) (y:=1) hu az;rw[Nat.and_one_is_mod]at this;exact this
 have hw:i64.wrap ((u/2:Nat):Int)=((u/2:Nat):Int):=xr az az;have hbv:(BitVec.ofInt IntKind.i64.bits ((u/2:Nat):Int)).toNat=u/2:=by
  show (BitVec.ofInt 64 ((u/2:Nat):Int)).toNat=u/2;rw[cQ,cV];omega
 rw[e1,e2,hw];unfold xN;rcases eS u with h|h
 ·rw[h,if_pos rfl,show i64.wrap (0-i64.wrap ((0:Nat):Int))=0 from ax,xor_zero,hbv];exact xr az az
 rw[h,if_neg ax];have e4:BitVec.ofInt IntKind.i64.bits (i64.wrap (0-i64.wrap ((1:Nat):Int)))=BitVec.allOnes 64:=by show BitVec.ofInt 64 _=BitVec.allOnes 64;decide
 show i64.wrap ((BitVec.ofInt IntKind.i64.bits ((u/2:Nat):Int) ^^^BitVec.ofInt IntKind.i64.bits (i64.wrap (0-i64.wrap ((1:Nat):Int)))).toNat:Int)=_;rw[e4];show i64.wrap ((BitVec.ofInt 64 ((u/2:Nat):Int) ^^^BitVec.allOnes 64).toNat:Int)=_;rw[BitVec.xor_allOnes,BitVec.toNat_not];rw[show IntKind.i64.bits=64 from rfl]at hbv;rw[hbv,IntKind.wrap_i64];omega
def T4(u b:Nat)(h:b<2):2*u|||b=2*u+b:=by
 have:=eI (i:=1) (b:=b) az u;simpa using this.symm
def QW(u:Nat)(x:UInt8)(r:Nat)(hr:r<8)(hu:u<9223372036854775808):kh .or .u64 (u64.wrap ((u:Int)*2^ (min (1:Int).toNat IntKind.u64.bits))) (u64.wrap (kh .and .u8 ((x.toNat:Int).fdiv (2^ (min (i64.wrap (7- (r:Int))).toNat IntKind.u8.bits))) 1))=((2*u+(x.toNat.testBit (7-r)).toNat:Nat):Int):=by
 have e1:u64.wrap ((u:Int)*2^ (min (1:Int).toNat IntKind.u64.bits))=((2*u:Nat):Int):=by
  rw[show min (1:Int).toNat IntKind.u64.bits=1 from rfl,show (u:Int)*2^1=((2*u:Nat):Int) by omega];exact lR az
 have e2:i64.wrap (7- (r:Int))=((7-r:Nat):Int):=by
  have:=xr (x:=7- (r:Int)) az az;show nT _=_;rw[this];omega
 have hx:=x.toNat_lt;have e3:(x.toNat:Int).fdiv (2^ (min ((7-r:Nat):Int).toNat IntKind.u8.bits))=((x.toNat>>> (7-r):Nat):Int):=fdiv_pow x.toNat (7-r) 8 az;have hb:x.toNat>>> (7-r)&&& 1=(x.toNat.testBit (7-r)).toNat:=by
  have h2:=Int.ofNat.inj (Gg (u:=x.toNat) (i:=7-r));rw[h2];cases x.toNat.testBit (7-r) <;>rfl
 have hb1:(x.toNat.testBit (7-r)).toNat<2:=by cases x.toNat.testBit (7-r) <;>decide
 rw[e1,e2,e3,show (1:Int)=((1:Nat):Int) from rfl,S5 (MK hx) az,hb,lR az,Ty az az,T4 _ _ hb1]
def sb(s:ByteArray):List Bool:=bitsOf s.data.toList
def LZ(s:ByteArray):(sb s).length=8*s.size:=by rw[sb,J7];rfl
def Tf{s:ByteArray}{k:Nat}(h:k<8*s.size):∃x:UInt8,s[k/8]? =some x/\(sb s)[k]? =some (x.toNat.testBit (7-k % 8)):=by
 have hk:k/8<s.data.size:=by show k/8<s.size;omega
 have e:s.data.toList[k/8]? =some (s.data[k/8]):=by rw[dq,dw hk]
 refine⟨s.data[k/8],?_,?_⟩
 ·have:k/8<s.size:=hk;simp[this];rfl
 rw[sb,Cs,e];rfl
def Lf{l:List Bool}(h:l.length<=63):mD l<9223372036854775808:=by
 have:=JI l;have h2:2^l.length<=2^63:=eP az h;have:(2:Nat) ^63=9223372036854775808:=ax
 omega
def KI{l:List Bool}(h:l.length<=64):mD l<18446744073709551616:=by
 have:=JI l;have h2:2^l.length<=2^64:=eP az h;have:(2:Nat) ^64=18446744073709551616:=ax
 omega
def D9{l:List Bool}{n i:Nat}{b:Bool}(h:l[n+i]? =some b):(l.drop n).take (i+1)=(l.drop n).take i++[b]:=by
 obtain⟨hlt,e⟩:=aO.1 h;rw[a6 (by rw[bw];omega)]
 congr 2
 rw[List.getElem_drop];exact e
def Sr(bs:List Bool):sb ⟨(pack bs).toArray⟩=bs++List.replicate (8*((bs.length+7) /8) -bs.length) false:=Iy bs
def nt:List Sm->Sm->Int->Bool->List Bool
 | [],_,_,_=>[]
 |x::r,last,step,f=>mz (x.time-last.time-step)++(mz (nT (x.value-last.value))++nt r x (if f then step else x.time-last.time) false)
def my(l:List Sm):List Bool:=mz l.length++nt l ⟨0,0⟩ 0 true
def enc(l:List Sm):ByteArray:=⟨(pack (my l)).toArray⟩
abbrev kp(x:Int):Prop:= -9223372036854775808<=x/\x<=9223372036854775807
def zY(x:Int):kp (nT x):=by rw[zS];constructor<;>omega
def lV(l:List Sm):Prop:=∀x∈l,kp x.value
def Bu{a b:Int}{x y:List Bool}(ha:kp a)(hb:kp b)(h:mz a++x=mz b++y):a=b/\x=y:=by
 have h1:=xx a ha.1 ha.2 x;rw[h,xx b hb.1 hb.2 y]at h1;simp only[aV,bK]at h1;exact⟨h1.1.symm,h1.2.symm⟩
structure Fit(last:Sm)(step:Int):Prop where
 t1: -1099511627776<=last.time
 t2:last.time<=1099511627776
 s1: -2199023255552<=step
 s2:step<=2199023255552
def Fit.diff{last:Sm}{step:Int}(h:Fit last step){x:Sm}(h1: -1099511627776<=x.time)(h2:x.time<=1099511627776): -4398046511104<=x.time-last.time-step/\x.time-last.time-step<=4398046511104:=by
 have:=h.t1;have:=h.t2;have:=h.s1;have:=h.s2;omega
def Fit.next{last:Sm}{step:Int}(h:Fit last step){x:Sm}(h1: -1099511627776<=x.time)(h2:x.time<=1099511627776)(f:Bool):Fit x (if f then step else x.time-last.time):=by
 have:=h.t1;have:=h.t2;have:=h.s1;have:=h.s2;refine⟨h1,h2,?_,?_⟩<;>cases f<;>simp<;>omega
def Fit.zero:Fit ⟨0,0⟩ 0:=⟨ax,ax,ax,ax⟩
def C0:∀(l m:List Sm) (last:Sm) (step:Int) (f:Bool) (x y:List Bool),l.length=m.length->(∀s∈l, -1099511627776<=s.time/\s.time<=1099511627776)->(∀s∈m, -1099511627776<=s.time/\s.time<=1099511627776)->lV l->lV m->Fit last step->
  nt l last step f++x=nt m last step f++y->l=m/\x=y
 | [],[],_,_,_,x,y,_,_,_,_,_,_,h=>⟨rfl,h⟩
 | [],_::_,_,_,_,_,_,h,_,_,_,_,_,_=>by simp at h
 |_::_,[],_,_,_,_,_,h,_,_,_,_,_,_=>by simp at h
 |a::l,b::m,last,step,f,x,y,hl,h1,h2,h3,h4,hf,h=>by
  unfold nt at h;have ha:=h1 a aA;have hb:=h2 b aA;have da:=hf.diff ha.1 ha.2;have db:=hf.diff hb.1 hb.2;simp only[aS]at h;obtain⟨e1,h⟩:=Bu (a:=a.time-last.time-step) (b:=b.time-last.time-step) ⟨az,az⟩ ⟨az,az⟩ h;obtain⟨e2,h⟩:=Bu (zY _) (zY _) h;have et:a.time=b.time:=az
  have ev:a.value=b.value:=by
   have va:=h3 a aA;have vb:=h4 b aA;simp only[zS]at e2;omega
  have eab:a=b:=by cases a;cases b;simp at et ev;rw[et,ev]
  subst eab;obtain⟨e3,e4⟩:=C0 l m a _ false x y (by simpa using hl) (λs hs=>h1 s (by simp[hs])) (λs hs=>h2 s (by simp[hs])) (λs hs=>h3 s (by simp[hs])) (λs hs=>h4 s (by simp[hs])) (hf.next ha.1 ha.2 f) h;exact⟨by rw[e3],e4⟩
def Kr{l m:List Sm}{x y:List Bool}(h1:xc l)(h2:xc m)(n1:l.length<=2000)(n2:m.length<=2000)(h3:lV l)(h4:lV m)(h:my l++x=my m++y):l=m/\x=y:=by
 unfold my at h;rw[aS,aS]at h;obtain⟨e1,h⟩:=Bu ⟨az,az⟩ ⟨az,az⟩ h;exact C0 l m ⟨0,0⟩ 0 true x y az (λs hs=>⟨h1.lo s hs,h1.hi s hs⟩) (λs hs=>⟨h2.lo s hs,h2.hi s hs⟩) h3 h4 .zero h
def Ca(l:List Sm):sb (enc l)=my l++List.replicate (8*(((my l).length+7) /8) - (my l).length) false:=Sr _
def SO{l m:List Sm}(h1:xc l)(h2:xc m)(n1:l.length<=2000)(n2:m.length<=2000)(h3:lV l)(h4:lV m)(h:enc l=enc m):l=m:=by
 have:=Ca l;rw[h,Ca m]at this;exact (Kr h2 h1 n2 n1 h4 h3 this).1.symm
def Kt(l:List Sm):∀(last:Sm) (step:Int) (f:Bool),(nt l last step f).length<=140*l.length:=by
 induction l with
 |nil=>intro _ _ _;exact aL _
 |cons x l ih=>
  intro last step f;unfold nt;have a:=(xD (x.time-last.time-step)).2;have b:=(xD (nT (x.value-last.value))).2;have c:=ih x (if f then step else x.time-last.time) false;simp only[aI,aB];omega
def yt(l:List Sm):(my l).length<=70+140*l.length:=by
 unfold my;have a:=(xD l.length).2;have b:=Kt l ⟨0,0⟩ 0 true;rw[aI];omega
def xc.takeN{l:List Sm}(h:xc l)(i:Nat):xc (l.take i):=
 ⟨λx hx=>h.lo x (b9 hx),λx hx=>h.hi x (b9 hx),h.up.sublist (List.take_sublist _ _)⟩
def xc.Qw{l:List Sm}(h:xc l)(i:Nat):xc (l.drop i):=
 ⟨λx hx=>h.lo x (cF hx),λx hx=>h.hi x (cF hx),h.up.sublist (List.drop_sublist _ _)⟩
def sC(l:List UInt8):Nat:=l.foldl (λu b=>u*256+b.toNat) 0
def N4(l:List UInt8)(b:UInt8):sC (l++[b])=sC l*256+b.toNat:=by
 unfold sC;rw[bN];rfl
def MI(l:List UInt8):sC l<256^l.length:=by
 have h:∀(l:List UInt8) (u k:Nat),u<256^k->l.foldl (λu b=>u*256+b.toNat) u<256^ (k+l.length):=by
  intro l;induction l with
  |nil=>intro u k h;exact h
  |cons b l ih=>
   intro u k h;have:=b.toNat_lt;have h2:u*256+b.toNat<256^ (k+1):=by
    rw[fJ];omega
   have:=ih _ _ h2;rw[bC,aB];rw[show k+(l.length+1)=k+1+l.length by omega];exact this
 have:=h l 0 0 Nat.one_pos
 rwa [cy]at this
def zW(s:ByteArray):Int:=i64.wrap (sC (s.data.toList.take 8):Int)
def CN(s:ByteArray):ByteArray:=s.extract 8 s.size
def kf(s:ByteArray):Option (Int×ByteArray):=if s.size<8 then none else some (zW s,CN s)
def lz(s:ByteArray):Option (ByteArray×ByteArray):=
 match kf s with
 |none=>none
 |some (n,r)=>if 0<=n/\n<=r.size then some (r.extract 0 n.toNat,r.extract n.toNat r.size) else none
def kQ:Nat->ByteArray->Option (List Lb×ByteArray)
 |0,s=>some ([],s)
 |j+1,s=>match kQ j s with
  |none=>none
  |some (l,r)=>match lz r with
   |none=>none
   |some (a,r1)=>match lz r1 with
    |none=>none
    |some (b,r2)=>some (l++[⟨a,b⟩],r2)
def mX(s:ByteArray):Option (List Lb×ByteArray):=
 match kf s with
 |none=>none
 |some (k,r)=>if 0<=k/\k<=8 then kQ k.toNat r else none
open Classical in
noncomputable def sQ(t:ByteArray):Option (List Sm):=if h:∃l,ke l=true/\lV l/\t=enc l then some h.choose else none
def DE{t:ByteArray}{l:List Sm}(h1:ke l=true)(h2:lV l)(h3:t=enc l):sQ t=some l:=by
 have h:∃l,ke l=true/\lV l/\t=enc l:=⟨l,h1,h2,h3⟩;unfold sQ;rw[dif_pos h];obtain⟨a1,a2,a3⟩:=h.choose_spec;have r1:=(ja l).1 h1;have r2:=(ja _).1 a1;exact congrArg some (SO r2.1 r1.1 r2.2 r1.2 a2 h2 (a3.symm.trans h3))
structure gY where
 labels:List Lb
 samples:List Sm
noncomputable def rn(s:ByteArray):Option (gY×ByteArray):=
 match mX s with
 |none=>none
 |some (l,r)=>if iS l=true then (match lz r with
  |none=>none
  |some (t,r2)=>match sQ t with
   |none=>none
   |some xs=>some (⟨l,xs⟩,r2)) else none
noncomputable def kI:Nat->ByteArray->Option (List gY×ByteArray)
 |0,s=>some ([],s)
 |i+1,s=>match kI i s with
  |none=>none
  |some (l,r)=>match rn r with
   |none=>none
   |some (x,r2)=>some (l++[x],r2)
noncomputable def lO(s:ByteArray):Option (List gY×ByteArray):=
 match kf s with
 |none=>none
 |some (n,r)=>if 0<=n/\n<=r.size then kI n.toNat r else none
def pA{s r:ByteArray}{n:Int}(h:kf s=some (n,r)):r.size+8=s.size/\n=zW s/\r=CN s:=by
 unfold kf at h;split at h
 ·cases h
 cases h;refine⟨?_,rfl,rfl⟩;unfold CN;rw[cJ];omega
def uu{s t r:ByteArray}(h:lz s=some (t,r)):t.size+r.size+8=s.size:=by
 unfold lz at h;cases hn:kf s with
 |none=>rw[hn]at h;cases h
 |some x=>
  obtain⟨n,r0⟩:=x;rw[hn]at h;have h0:=(pA hn).1;simp only at h;split at h
  ·cases h;rw[cJ,cJ];omega
  cases h
def tA:∀{j:Nat} {s r:ByteArray} {l:List Lb},kQ j s=some (l,r)->r.size+16*j<=s.size/\l.length=j/\∀x∈l,x.name.size<=s.size/\x.value.size<=s.size
 |0,s,r,l,h=>by cases h;exact⟨aL _,rfl,aA⟩
 |j+1,s,r,l,h=>by
  unfold kQ at h;cases h1:kQ j s with
  |none=>rw[h1]at h;cases h
  |some y=>
   obtain⟨l1,r1⟩:=y;rw[h1]at h;simp only at h;cases h2:lz r1 with
   |none=>rw[h2]at h;cases h
   |some y=>
    obtain⟨a,r2⟩:=y;rw[h2]at h;simp only at h;cases h3:lz r2 with
    |none=>rw[h3]at h;cases h
    |some y=>
     obtain⟨b,r3⟩:=y;rw[h3]at h;cases h;obtain⟨i1,i2,i3⟩:=tA h1;have s2:=uu h2;have s3:=uu h3;refine⟨az,by simp[i2],λx hx=>?_⟩;rcases aE.1 hx with hx|hx
     ·exact i3 x hx
     rw[aH.1 hx];exact⟨by show a.size<=_;omega,by show b.size<=_;omega⟩
def z8{s r:ByteArray}{l:List Lb}(h:mX s=some (l,r)):r.size+8<=s.size/\l.length<=8/\∀x∈l,x.name.size<=s.size/\x.value.size<=s.size:=by
 unfold mX at h;cases hn:kf s with
 |none=>rw[hn]at h;cases h
 |some x=>
  obtain⟨k,r0⟩:=x;rw[hn]at h;have h0:=(pA hn).1;simp only at h;split at h
  ·obtain⟨i1,i2,i3⟩:=tA h;refine⟨az,az,λx hx=>?_⟩;have:=i3 x hx;omega
  cases h
def Nq{s r:ByteArray}{x:gY}(h:rn s=some (x,r)):r.size+16<=s.size:=by
 unfold rn at h;cases hl:mX s with
 |none=>rw[hl]at h;cases h
 |some y=>
  obtain⟨l,r1⟩:=y;rw[hl]at h;have h1:=(z8 hl).1;simp only at h;split at h
  ·cases ht:lz r1 with
   |none=>rw[ht]at h;cases h
   |some y=>
    obtain⟨t,r2⟩:=y;rw[ht]at h;have h2:=uu ht;simp only at h;cases hd:sQ t with
    |none=>rw[hd]at h;cases h
    |some xs=>
     rw[hd]at h;cases h;omega
  cases h
def uA:∀{i:Nat} {s r:ByteArray} {l:List gY},kI i s=some (l,r)->r.size+16*i<=s.size/\l.length=i
 |0,s,r,l,h=>by cases h;exact⟨aL _,rfl⟩
 |i+1,s,r,l,h=>by
  unfold kI at h;cases h1:kI i s with
  |none=>rw[h1]at h;cases h
  |some y=>
   obtain⟨l1,r1⟩:=y;rw[h1]at h;simp only at h;cases h2:rn r1 with
   |none=>rw[h2]at h;cases h
   |some y=>
    obtain⟨x,r2⟩:=y;rw[h2]at h;cases h;obtain⟨i1,i2⟩:=uA h1;have:=Nq h2;exact⟨az,by simp[i2]⟩
def P2{n:Nat}{s:ByteArray}(h:s.size<n):kI n s=none:=by
 cases hs:kI n s with
 |none=>rfl
 |some y=>
  obtain⟨l,r⟩:=y;have:=(uA hs).1;omega
def KD{s:ByteArray}:∀{i j:Nat},i<=j->kI i s=none->kI j s=none:=by
 intro i j hij h;induction hij with
 |refl=>exact h
 |step _ ih=>unfold kI;rw[ih]
def Ir{s:ByteArray}:∀{i j:Nat},i<=j->kQ i s=none->kQ j s=none:=by
 intro i j hij h;induction hij with
 |refl=>exact h
 |step _ ih=>unfold kQ;rw[ih]
def lr(u:Nat):List UInt8:=[UInt8.ofNat (u/72057594037927936),UInt8.ofNat (u/281474976710656),UInt8.ofNat (u/1099511627776),UInt8.ofNat (u/4294967296),UInt8.ofNat (u/16777216),UInt8.ofNat (u/65536),UInt8.ofNat (u/256),UInt8.ofNat u]
def R4{u:Nat}(h:u<18446744073709551616):sC (lr u)=u:=by
 simp only[sC,lr,bC,eC,cO];omega
def QY{l:List UInt8}(h:l.length=8):lr (sC l)=l:=by
 match l,h with
 | [a,b,c,d,e,f,g,k],_=>
  have ha:=a.toNat_lt;have hb:=b.toNat_lt;have hc:=c.toNat_lt;have hd:=d.toNat_lt;have he:=e.toNat_lt;have hf:=f.toNat_lt;have hg:=g.toNat_lt;have hk:=k.toNat_lt;have ext:∀{n:Nat} {x:UInt8},n % 256=x.toNat->UInt8.ofNat n=x:=λ{n x} h=>by
   apply eY.1;rw[cO];exact h
  simp only[sC,lr,bC,eC]
  congr 1
  ·exact ext az
  congr 1
  ·exact ext az
  congr 1
  ·exact ext az
  congr 1
  ·exact ext az
  congr 1
  ·exact ext az
  congr 1
  ·exact ext az
  congr 1
  ·exact ext az
  congr 1
  exact ext az
def uN(n:Int):Nat:=(n % 18446744073709551616).toNat
def jJ(n:Int):ByteArray:=⟨(lr (uN n)).toArray⟩
def jw(n:Int):(jJ n).size=8:=rfl
def kX(s:ByteArray):ByteArray:=jJ s.size++s
def pQ:List Lb->ByteArray
 | []=>ByteArray.empty
 |x::l=>kX x.name++(kX x.value++pQ l)
def wm(l:List Lb):ByteArray:=jJ l.length++pQ l
def Bb(x:gY):ByteArray:=wm x.labels++kX (enc x.samples)
def pr:List gY->ByteArray
 | []=>ByteArray.empty
 |x::l=>Bb x++pr l
def lT(l:List gY):ByteArray:=jJ l.length++pr l
def Di(l m:List Lb):pQ (l++m)=pQ l++pQ m:=by
 induction l with
 |nil=>exact (di).symm
 |cons x l ih=>simp only[b_,pQ,ih,bB]
def DU(l m:List gY):pr (l++m)=pr l++pr m:=by
 induction l with
 |nil=>exact (di).symm
 |cons x l ih=>simp only[b_,pr,ih,bB]
def uT(s:ByteArray):s++ByteArray.empty=s:=ByteArray.append_empty
def U8(a b:ByteArray):(a++b).extract 0 a.size=a:=by
 rw[ByteArray.extract_append_eq_left rfl]
def TU(a b:ByteArray):(a++b).extract a.size (a++b).size=b:=by
 rw[ByteArray.extract_append_eq_right rfl aJ]
def pV{n:Int}(h:kp n)(r:ByteArray):kf (jJ n++r)=some (n,r):=by
 unfold kf;have hs:(jJ n++r).size=8+r.size:=by rw[aJ,jw]
 rw[if_neg az];refine congrArg some (Prod.ext ?_ (TU (jJ n) r));show i64.wrap (sC ((jJ n++r).data.toList.take 8):Int)=n;have e:(jJ n++r).data.toList.take 8=lr (uN n):=by
  rw[show (jJ n++r).data=(jJ n).data++r.data from bQ,dR];exact eZ rfl
 have hu:uN n<18446744073709551616:=by unfold uN;omega
 rw[e,R4 hu];unfold uN;rw[IntKind.wrap_i64];obtain⟨h1,h2⟩:=h;omega
def QP(s:ByteArray):kp (zW s):=by
 unfold zW;rw[IntKind.wrap_i64];constructor<;>omega
def B5{s r:ByteArray}{n:Int}(h:kf s=some (n,r)):s=jJ n++r/\kp n:=by
 obtain⟨h1,rfl,rfl⟩:=pA h;refine⟨?_,QP s⟩;have hl:(s.data.toList.take 8).length=8:=by
  rw[aY];have:s.data.toList.length=s.size:=rfl;omega
 have hlt:=MI (s.data.toList.take 8);rw[hl]at hlt;have hu:uN (zW s)=sC (s.data.toList.take 8):=by
  unfold uN zW;rw[IntKind.wrap_i64];omega
 have e:jJ (zW s)=s.extract 0 8:=by
  unfold jJ;rw[hu,QY hl];apply cE;rw[cw];apply Array.toList_inj.1;rw[dz];simp
 rw[e];unfold CN;rw[fE];simp
def xT{t:ByteArray}(h:t.size<9223372036854775808)(r:ByteArray):lz (kX t++r)=some (t,r):=by
 unfold lz kX;rw[bB,pV ⟨az,az⟩];have hs:(t++r).size=t.size+r.size:=aJ;simp only;rw[if_pos ⟨az,az⟩];refine congrArg some (Prod.ext ?_ ?_)
 ·exact U8 t r
 exact TU t r
def zr{s t r:ByteArray}(h:lz s=some (t,r)):s=kX t++r:=by
 unfold lz at h;cases hn:kf s with
 |none=>rw[hn]at h;cases h
 |some x=>
  obtain⟨n,r0⟩:=x;rw[hn]at h;obtain⟨h0, -⟩:=B5 hn;simp only at h;split at h
  ·rename_i hc
   cases h;have hsz:(r0.extract 0 n.toNat).size=n.toNat:=by rw[cJ];omega
   unfold kX;rw[hsz,bB,fE,h0];have e1:((n.toNat:Nat):Int)=n:=by omega
   have e2:r0.extract (min 0 n.toNat) (max n.toNat r0.size)=r0:=by
    rw[show min 0 n.toNat=0 by omega,show max n.toNat r0.size=r0.size by omega];exact fW
   rw[e1,e2]
  cases h
def Ml(l:List Lb)(hl:∀x∈l,x.name.size<9223372036854775808/\x.value.size<9223372036854775808)(r:ByteArray):∀j,j<=l.length->kQ j (pQ l++r)=some (l.take j,pQ (l.drop j)++r):=by
 intro j;induction j with
 |zero=>intro _;rfl
 |succ j ih=>
  intro hj;unfold kQ;rw[ih az,cn az];have hx:=hl l[j] (aR az);simp only[pQ,bB];rw[xT hx.1];simp only;rw[xT hx.2];simp only;rw[bx,aC az];rfl
def C7:∀{j:Nat} {s r:ByteArray} {l:List Lb},kQ j s=some (l,r)->s=pQ l++r
 |0,s,r,l,h=>by cases h;exact di.symm
 |j+1,s,r,l,h=>by
  unfold kQ at h;cases h1:kQ j s with
  |none=>rw[h1]at h;cases h
  |some y=>
   obtain⟨l1,r1⟩:=y;rw[h1]at h;simp only at h;cases h2:lz r1 with
   |none=>rw[h2]at h;cases h
   |some y=>
    obtain⟨a,r2⟩:=y;rw[h2]at h;simp only at h;cases h3:lz r2 with
    |none=>rw[h3]at h;cases h
    |some y=>
     obtain⟨b,r3⟩:=y;rw[h3]at h;cases h;rw[Di];simp only[pQ,uT,bB];rw[<-zr h3,<-zr h2];exact C7 h1
def KA{l:List Lb}(hl:∀x∈l,x.name.size<9223372036854775808/\x.value.size<9223372036854775808)(h8:l.length<=8)(r:ByteArray):mX (wm l++r)=some (l,r):=by
 unfold mX wm;rw[bB,pV ⟨az,az⟩];simp only;rw[if_pos ⟨az,az⟩,bj,Ml l hl r l.length (aL _),aT,dF];exact congrArg (λx=>some (l,x)) di
def Iz{s r:ByteArray}{l:List Lb}(h:mX s=some (l,r)):s=wm l++r:=by
 unfold mX at h;cases hn:kf s with
 |none=>rw[hn]at h;cases h
 |some x=>
  obtain⟨k,r0⟩:=x;rw[hn]at h;obtain⟨h0, -⟩:=B5 hn;simp only at h;split at h
  ·rename_i hk
   have h1:=(tA h).2.1;unfold wm;rw[h1,bB,<-C7 h,h0,show ((k.toNat:Nat):Int)=k by omega]
  cases h
def qe(x:gY):Prop:=iS x.labels=true/\ke x.samples=true/\lV x.samples
def lS{l:List Lb}(h:iS l=true):l.length<=8/\∀x∈l,x.name.size<=24/\x.value.size<=24:=by
 unfold iS at h;simp only[aG,bG,decide_eq_true_eq]at h;obtain⟨h1, -,h3⟩:=h;refine⟨h3,λx hx=>?_⟩;obtain⟨i,hi,rfl⟩:=fL.1 hx;have hb:vh l i=false:=by
  cases hc:vh l i with
  |false=>rfl
  |true=>
   have:=oa hi hc;rw[h1]at this;cases this
 unfold vh at hb;simp only[bO,dv]at hb;have e:l.getD i default=l[i]:=by rw[cR,aC hi];rfl
 rw[e]at hb;obtain⟨n1,n2, -⟩:=hb;unfold lU at n1;unfold ma at n2;simp only[aG,decide_eq_true_eq]at n1 n2;exact⟨n1.2.2,n2.2⟩
def Ly{l:List Sm}(h:ke l=true):(enc l).size<=100000:=by
 have h1:=yt l;have h2:=((ja l).1 h).2;show (pack (my l)).toArray.size<=_;rw[cr,tm];omega
def Sx{x:gY}(h:qe x)(r:ByteArray):rn (Bb x++r)=some (x,r):=by
 obtain⟨h1,h2,h3⟩:=h;obtain⟨r1,r2⟩:=lS h1;have h4:=Ly h2;unfold rn Bb;rw[bB,KA (λy hy=>by have:=r2 y hy;omega) r1];simp only;rw[if_pos h1,xT az];simp only;rw[DE h2 h3 rfl]
def EX{t:ByteArray}{l:List Sm}(h:sQ t=some l):ke l=true/\lV l/\t=enc l:=by
 unfold sQ at h;split at h
 ·rename_i hc
  cases h;exact hc.choose_spec
 cases h
def Ot{s r:ByteArray}{x:gY}(h:rn s=some (x,r)):s=Bb x++r/\qe x:=by
 unfold rn at h;cases hl:mX s with
 |none=>rw[hl]at h;cases h
 |some y=>
  obtain⟨l,r1⟩:=y;rw[hl]at h;have h1:=Iz hl;simp only at h;split at h
  ·rename_i hr
   cases ht:lz r1 with
   |none=>rw[ht]at h;cases h
   |some y=>
    obtain⟨t,r2⟩:=y;rw[ht]at h;have h2:=zr ht;simp only at h;cases hd:sQ t with
    |none=>rw[hd]at h;cases h
    |some xs=>
     rw[hd]at h;cases h;obtain⟨d1,d2,d3⟩:=EX hd;refine⟨?_,hr,d1,d2⟩;unfold Bb;rw[bB,<-d3,<-h2,<-h1]
  cases h
def P8(l:List gY)(hl:∀x∈l,qe x)(r:ByteArray):∀j,j<=l.length->kI j (pr l++r)=some (l.take j,pr (l.drop j)++r):=by
 intro j;induction j with
 |zero=>intro _;rfl
 |succ j ih=>
  intro hj;unfold kI;rw[ih az,cn az];simp only[pr,bB];rw[Sx (hl l[j] (aR az))];simp only;rw[bx,aC az];rfl
def Fo:∀{j:Nat} {s r:ByteArray} {l:List gY},kI j s=some (l,r)->s=pr l++r/\∀x∈l,qe x
 |0,s,r,l,h=>by cases h;exact⟨di.symm,aA⟩
 |j+1,s,r,l,h=>by
  unfold kI at h;cases h1:kI j s with
  |none=>rw[h1]at h;cases h
  |some y=>
   obtain⟨l1,r1⟩:=y;rw[h1]at h;simp only at h;cases h2:rn r1 with
   |none=>rw[h2]at h;cases h
   |some y=>
    obtain⟨a,r2⟩:=y;rw[h2]at h;cases h;obtain⟨i1,i2⟩:=Fo h1;obtain⟨o1,o2⟩:=Ot h2;refine⟨?_,λx hx=>?_⟩
    ·rw[DU];simp only[pr,uT,bB];rw[<-o1];exact i1
    rcases aE.1 hx with hx|hx
    ·exact i2 x hx
    rw[aH.1 hx];exact o2
def Ri(x:gY):16<=(Bb x).size:=by
 unfold Bb wm kX;simp only[aJ,jw];omega
def IL(l:List gY):16*l.length<=(pr l).size:=by
 induction l with
 |nil=>exact aL _
 |cons x l ih=>
  have:=Ri x;simp only[pr,aJ,aB];omega
def Cv{l:List gY}(hl:∀x∈l,qe x)(hn:l.length<9223372036854775808)(r:ByteArray):lO (lT l++r)=some (l,r):=by
 unfold lO lT;rw[bB,pV ⟨az,az⟩];have h1:=IL l;have h2:(pr l++r).size=(pr l).size+r.size:=aJ;simp only;rw[if_pos ⟨az,az⟩,bj,P8 l hl r l.length (aL _),aT,dF];exact congrArg (λx=>some (l,x)) di
def Ie{s r:ByteArray}{l:List gY}(h:lO s=some (l,r)):s=lT l++r/\∀x∈l,qe x:=by
 unfold lO at h;cases hn:kf s with
 |none=>rw[hn]at h;cases h
 |some x=>
  obtain⟨k,r0⟩:=x;rw[hn]at h;obtain⟨h0, -⟩:=B5 hn;simp only at h;split at h
  ·have h1:=(uA h).2;obtain⟨i1,i2⟩:=Fo h;refine⟨?_,i2⟩;unfold lT;rw[h1,bB,<-i1,h0,show ((k.toNat:Nat):Int)=k by omega]
  cases h
def zo(s:ByteArray):lO s=(match kf s with
  |none=>none
  |some (n,r)=>if 0<=n/\n<=s.size then kI n.toNat r else none):=by
 unfold lO;cases hn:kf s with
 |none=>rfl
 |some x=>
  obtain⟨n,r⟩:=x;have h0:=(pA hn).1;simp only;by_cases h:0<=n/\n<=r.size
  ·rw[if_pos h,if_pos ⟨h.1,az⟩]
  rw[if_neg h];by_cases h':0<=n/\n<=s.size
  ·rw[if_pos h',P2 az]
  rw[if_neg h']
def FE(to_:Int)(xs:List Sm):Bool:=match xs[xs.length-1]? with
 |some y=>decide (to_<y.time)
 |none=>false
def yC(l:List gY)(i:Nat)(x:gY):Bool:=decide (0<i)&&(match l[i-1]? with
 |some p=>decide (0<=iZ p.labels x.labels)
 |none=>false)
noncomputable def tG(to_:Int)(l:List gY)(i:Nat):Bool:=match l[i]? with
 |none=>false
 |some x=> !iS x.labels||(!ke x.samples||(decide (x.samples.length=0)||(FE to_ x.samples||yC l i x)))
def v7{to_:Int}{l:List gY}{i:Nat}(h:i<l.length):tG to_ l i=(!iS l[i].labels||(!ke l[i].samples||(decide (l[i].samples.length=0)||(FE to_ l[i].samples||yC l i l[i])))):=by
 unfold tG;rw[aC h]
def BS{to_:Int}{xs:List Sm}(h:xs.length-1<xs.length):FE to_ xs=decide (to_<xs[xs.length-1].time):=by
 unfold FE;rw[aC h]
def BE{l:List gY}{i:Nat}{x:gY}(h:i-1<l.length)(h0:0<i):yC l i x=decide (0<=iZ l[i-1].labels x.labels):=by
 unfold yC;rw[aC h,decide_eq_true h0];rfl
noncomputable def lZ(to_ iN:Int)(l:List gY):Bool:= !p7 l.length (tG to_ l)&&(decide (-1099511627776<=to_/\to_<=1099511627776)&&decide (-1<=iN))
def nQ{to_ iN:Int}{l:List gY}(h:lZ to_ iN l=true):∀x∈l,iS x.labels=true/\ke x.samples=true:=by
 unfold lZ at h;rw[aG,bG]at h;intro x hx;obtain⟨i,hi,rfl⟩:=bz hx;have:=oP h.1 i hi;unfold tG at this;rw[aC hi]at this;simp only[bO,dv]at this;exact⟨this.1,this.2.1⟩
def mw(to_ iN:Int)(l:List gY):ByteArray:=jJ to_++jJ iN++lT l
noncomputable def B7(s:ByteArray):Option ((Int×Int×List gY)×ByteArray):=match kf s with
 |none=>none
 |some (a,r)=>match kf r with
  |none=>none
  |some (b,r2)=>match lO r2 with
   |none=>none
   |some (l,r3)=>some ((a,b,l),r3)
abbrev nR:=List Lb->Int->Bool
def jZ(h:nR)(x:gY):List Sm:=x.samples.filter λs=> !h x.labels s.time
def gX(h:nR):List gY->List gY
 | []=>[]
 |x::l=>match jZ h x with
  | []=>gX h l
  |y::r=>⟨x.labels,y::r⟩::gX h l
def iW{h:nR}{x:gY}(l:List gY)(hx:jZ h x=[]):gX h (x::l)=gX h l:=by
 conv=>lhs;unfold gX
 rw[hx]
def iK{h:nR}{x:gY}{y:Sm}{r:List Sm}(l:List gY)(hx:jZ h x=y::r):gX h (x::l)=⟨x.labels,y::r⟩::gX h l:=by
 conv=>lhs;unfold gX
 rw[hx]
def NQ(h k:nR)(x:gY):jZ (λls t=>h ls t||k ls t) x=jZ k ⟨x.labels,jZ h x⟩:=by
 unfold jZ;rw[List.filter_filter];refine ez λs _=>?_;show (!(h x.labels s.time||k x.labels s.time))=(!k x.labels s.time&& !h x.labels s.time);cases h x.labels s.time<;>cases k x.labels s.time<;>rfl
def GX(h k:nR):∀l,gX k (gX h l)=gX (λls t=>h ls t||k ls t) l:=by
 intro l;induction l with
 |nil=>rfl
 |cons x l ih=>
  have key:=NQ h k x;cases hx:jZ h x with
  |nil=>
   rw[hx]at key;rw[iW l hx,iW l key];exact ih
  |cons y r=>
   rw[hx]at key;rw[iK l hx];cases hy:jZ k ⟨x.labels,y::r⟩ with
   |nil=>rw[iW _ hy,iW l (key.trans hy)];exact ih
   |cons z q=>rw[iK _ hy,iK l (key.trans hy),ih]
def Dn{h k:nR}(e:∀ls t,h ls t=k ls t)(l:List gY):gX h l=gX k l:=by
 have:h=k:=funext λls=>funext λt=>e ls t;rw[this]
structure Gn where
 mt:List Mt
 lo:Int
 hi:Int
def oB(g:Gn):nR:=λls t=>decide (g.lo<=t)&&(decide (t<=g.hi)&&rE ls g.mt)
def lD(l:List Gn):nR:=λls t=>l.any λg=>oB g ls t
def tV(h:nR)(x:gY):∀l:List gY,gX h (l++[x])=gX h l++gX h [x]
 | []=>rfl
 |y::l=>by
  rw[b_];cases hy:jZ h y with
  |nil=>rw[iW _ hy,iW _ hy];exact tV h x l
  |cons z r=>rw[iK _ hy,iK _ hy,tV h x l];rfl
def Dj(h:nR)(l:List gY)(i:Nat)(hi:i<l.length):gX h (l.take (i+1))=gX h (l.take i)++gX h [l[i]]:=by
 rw[a6 hi,tV]
def qv(h:nR):∀l:List gY,(gX h l).length<=l.length
 | []=>aL _
 |y::l=>by
  have:=qv h l;cases hy:jZ h y with
  |nil=>rw[iW _ hy];simp;omega
  |cons z r=>rw[iK _ hy];simp;omega
def yL(s:List gY)(h:∀x∈s,x.samples≠ []):gX (lD []) s=s:=by
 induction s with
 |nil=>rfl
 |cons x s ih=>
  have e:jZ (lD []) x=x.samples:=cD.2 λ_ _=>rfl;cases hx:x.samples with
  |nil=>exact absurd hx (h x aA)
  |cons y r=>
   rw[iK _ (e.trans hx),ih λz hz=>h z (by simp[hz]),<-hx]
def ij(mg:List Sm->List Sm->List Sm):List gY->List gY->List gY
 | [],b=>b
 |x::a,[]=>x::a
 |x::a,y::b=>
  if iZ x.labels y.labels<0 then x::ij mg a (y::b)
  else if iZ x.labels y.labels=0 then ⟨y.labels,mg x.samples y.samples⟩::ij mg a b
  else y::ij mg (x::a) b
termination_by a b=>a.length+b.length
def ko(mg:List Sm->List Sm->List Sm)(a:List gY):ij mg a []=a:=by
 cases a with
 |nil=>unfold ij;rfl
 |cons x a=>unfold ij;rfl
def jP(mg:List Sm->List Sm->List Sm)(b:List gY):ij mg [] b=b:=by unfold ij;rfl
def mI{a b c:List Lb}(h:iZ a b<0)(k:iZ b c<0):iZ a c<0:=by
 have h1:=jo.rng a b;have h2:=jo.rng b c;have:=jo.trans a b c az az;omega
def lW(l:List gY):Prop:=l.Pairwise λx y=>iZ x.labels y.labels<0
def ni{mg:List Sm->List Sm->List Sm}:∀(a b:List gY) (z:gY),z∈ij mg a b->∃y,(y∈a\/y∈b)/\y.labels=z.labels
 | [],b,z,h=>by rw[jP]at h;exact⟨z,.inr h,rfl⟩
 |x::a,[],z,h=>by rw[ko]at h;exact⟨z,.inl h,rfl⟩
 |x::a,y::b,z,h=>by
  unfold ij at h;split at h
  ·rcases aF.1 h with rfl|h
   ·exact⟨z,.inl aA,rfl⟩
   obtain⟨w,hw,e⟩:=ni a (y::b) z h;exact⟨w,hw.imp (λh=>by simp[h]) id,e⟩
  split at h
  ·rcases aF.1 h with rfl|h
   ·exact⟨y,.inr aA,rfl⟩
   obtain⟨w,hw,e⟩:=ni a b z h;exact⟨w,hw.imp (λh=>by simp[h]) (λh=>by simp[h]),e⟩
  rcases aF.1 h with rfl|h
  ·exact⟨z,.inr aA,rfl⟩
  obtain⟨w,hw,e⟩:=ni (x::a) b z h;exact⟨w,hw.imp id (λh=>by simp[h]),e⟩
termination_by a b=>a.length+b.length
def qH{mg:List Sm->List Sm->List Sm}:∀(a b:List gY),lW a->lW b->lW (ij mg a b)
 | [],b,_,hb=>by rw[jP];exact hb
 |x::a,[],ha,_=>by rw[ko];exact ha
 |x::a,y::b,ha,hb=>by
  obtain⟨ha1,ha2⟩:=bh.1 ha;obtain⟨hb1,hb2⟩:=bh.1 hb;unfold ij;split
  ·rename_i hxy
   refine bh.2 ⟨λz hz=>?_,qH a (y::b) ha2 hb⟩;obtain⟨w,hw,e⟩:=ni _ _ _ hz;rw[<-e];rcases hw with hw|hw
   ·exact ha1 w hw
   rcases aF.1 hw with rfl|hw
   ·exact hxy
   exact mI hxy (hb1 w hw)
  rename_i hxy
  split
  ·rename_i h0
   have hl:x.labels=y.labels:=(jo.eq0 _ _).1 h0;refine bh.2 ⟨λz hz=>?_,qH a b ha2 hb2⟩;obtain⟨w,hw,e⟩:=ni _ _ _ hz;show iZ y.labels z.labels<0;rw[<-e];rcases hw with hw|hw
   ·rw[<-hl];exact ha1 w hw
   exact hb1 w hw
  rename_i h0
  have hyx:iZ y.labels x.labels<0:=by
   have h1:=jo.anti x.labels y.labels;have h2:=jo.rng x.labels y.labels;omega
  refine bh.2 ⟨λz hz=>?_,qH (x::a) b ha hb2⟩;obtain⟨w,hw,e⟩:=ni _ _ _ hz;rw[<-e];rcases hw with hw|hw
  ·rcases aF.1 hw with rfl|hw
   ·exact hyx
   exact mI hyx (ha1 w hw)
  exact hb1 w hw
termination_by a b=>a.length+b.length
def zN{mg:List Sm->List Sm->List Sm}(x:gY)(a:List gY):∀b:List gY,(∀z∈b,iZ x.labels z.labels<0)->ij mg (x::a) b=x::ij mg a b
 | [],_=>by rw[ko,ko]
 |y::b,h=>by
  conv=>lhs;unfold ij
  rw[if_pos (h y aA)]
def yV{mg:List Sm->List Sm->List Sm}(y:gY)(b:List gY):∀a:List gY,(∀z∈a,iZ y.labels z.labels<0)->ij mg a (y::b)=y::ij mg a b
 | [],_=>by rw[jP,jP]
 |x::a,h=>by
  have h1:=h x aA;have h2:=jo.anti y.labels x.labels
  conv=>lhs;unfold ij
  rw[if_neg az,if_neg az]
def po{h:nR}:∀(l:List gY) (z:gY),z∈gX h l->∃x∈l,x.labels=z.labels
 | [],z,hz=>by cases hz
 |x::l,z,hz=>by
  cases hx:jZ h x with
  |nil=>
   rw[iW l hx]at hz;obtain⟨w,hw,e⟩:=po l z hz;exact⟨w,by simp[hw],e⟩
  |cons y r=>
   rw[iK l hx]at hz;rcases aF.1 hz with rfl|hz
   ·exact⟨x,aA,rfl⟩
   obtain⟨w,hw,e⟩:=po l z hz;exact⟨w,by simp[hw],e⟩
def qK{mg:List Sm->List Sm->List Sm}{h:nR}(h1:∀xs,mg xs []=xs)(h2:∀ys,mg [] ys=ys)(h3:∀xs ys,mg xs ys=[]->xs=[]/\ys=[]){G:List Sm->Prop}(h4:∀(p:Sm->Bool) xs ys,G xs->G ys->(∀s t:Sm,s.time=t.time->p s=p t)->(mg xs ys).filter p=mg (xs.filter p) (ys.filter p)):
  ∀a b:List gY,lW a->lW b->(∀x∈a,G x.samples)->(∀y∈b,G y.samples)->gX h (ij mg a b)=ij mg (gX h a) (gX h b)
 | [],b,_,_,_,_=>by rw[jP,show gX h []=[] from rfl,jP]
 |x::a,[],_,_,_,_=>by rw[ko,show gX h []=[] from rfl,ko]
 |x::a,y::b,ha,hb,ga0,gb0=>by
  obtain⟨ha1,ha2⟩:=bh.1 ha;obtain⟨hb1,hb2⟩:=bh.1 hb;have ga:∀l:List Lb,(∀z∈a,iZ l z.labels<0)->∀z∈gX h a,iZ l z.labels<0:=λl hl z hz=>by
   obtain⟨w,hw,e⟩:=po a z hz;rw[<-e];exact hl w hw
  have gb:∀l:List Lb,(∀z∈b,iZ l z.labels<0)->∀z∈gX h b,iZ l z.labels<0:=λl hl z hz=>by
   obtain⟨w,hw,e⟩:=po b z hz;rw[<-e];exact hl w hw
  conv=>lhs;unfold ij
  split
  ·rename_i hxy
   have ih:=qK (h:=h) h1 h2 h3 h4 a (y::b) ha2 hb (λz hz=>ga0 z (by simp[hz])) gb0;cases hx:jZ h x with
   |nil=>rw[iW _ hx,iW _ hx];exact ih
   |cons s r=>
    rw[iK _ hx,iK _ hx,ih,zN];intro z hz;obtain⟨w,hw,e⟩:=po (y::b) z hz;show iZ x.labels z.labels<0;rw[<-e];rcases aF.1 hw with rfl|hw
    ·exact hxy
    exact mI hxy (hb1 w hw)
  rename_i hxy
  split
  ·rename_i h0
   have hl:x.labels=y.labels:=(jo.eq0 _ _).1 h0;have ih:=qK (h:=h) h1 h2 h3 h4 a b ha2 hb2 (λz hz=>ga0 z (by simp[hz])) (λz hz=>gb0 z (by simp[hz]));have hf:jZ h ⟨y.labels,mg x.samples y.samples⟩=mg (jZ h x) (jZ h y):=by
    unfold jZ;rw[hl];exact h4 _ _ _ (ga0 x aA) (gb0 y aA) (λs t e=>by rw[e])
   have hax:∀z∈gX h a,iZ y.labels z.labels<0:=ga y.labels (by rw[<-hl];exact ha1);have hbx:∀z∈gX h b,iZ x.labels z.labels<0:=gb x.labels (by rw[hl];exact hb1);cases hx:jZ h x with
   |nil=>
    rw[hx,h2]at hf;cases hy:jZ h y with
    |nil=>rw[iW _ (hf.trans hy),iW _ hx,iW _ hy];exact ih
    |cons t q=>rw[iK _ (hf.trans hy),iW _ hx,iK _ hy,ih,yV ⟨y.labels,t::q⟩ _ _ hax]
   |cons s r=>
    cases hy:jZ h y with
    |nil=>
     rw[hy,h1]at hf;rw[iK _ (hf.trans hx),iK _ hx,iW _ hy,ih,zN ⟨x.labels,s::r⟩ _ _ hbx,hl]
    |cons t q=>
     rw[hx,hy]at hf;cases hm:mg (s::r) (t::q) with
     |nil=>exact absurd (h3 _ _ hm).1 aA
     |cons u v=>
      rw[iK _ (hf.trans hm),iK _ hx,iK _ hy,ih]
      conv=>rhs;unfold ij
      rw[if_neg hxy,if_pos h0,hm]
  rename_i h0
  have ih:=qK (h:=h) h1 h2 h3 h4 (x::a) b ha hb2 ga0 (λz hz=>gb0 z (by simp[hz]));have hyx:iZ y.labels x.labels<0:=by
   have e1:=jo.anti x.labels y.labels;have e2:=jo.rng x.labels y.labels;omega
  cases hy:jZ h y with
  |nil=>rw[iW _ hy,iW _ hy];exact ih
  |cons t q=>
   rw[iK _ hy,iK _ hy,ih,yV];intro z hz;obtain⟨w,hw,e⟩:=po (x::a) z hz;show iZ y.labels z.labels<0;rw[<-e];rcases aF.1 hw with rfl|hw
   ·exact hyx
   exact mI hyx (ha1 w hw)
termination_by a b=>a.length+b.length
abbrev mY(l:List Sm):Prop:=l.Pairwise (·.time< ·.time)
def jT:Nat->List Sm->List Sm->List Sm->List Sm
 |0,out,_,_=>out
 |_+1,out,[],[]=>out
 |n+1,out,x::a,[]=>jT n (out++[x]) a []
 |n+1,out,[],y::b=>jT n (out++[y]) [] b
 |n+1,out,x::a,y::b=>if x.time<y.time then jT n (out++[x]) a (y::b) else if x.time=y.time then jT n (out++[y]) a b else jT n (out++[y]) (x::a) b
def oU:∀(n:Nat) (out a b:List Sm),a.length+b.length<=n->jT (n+1) out a b=jT n out a b
 |0,out,a,b,hn=>by
  have:a=[]:=ca.1 az;have:b=[]:=ca.1 az
  subst_vars;rfl
 |n+1,out,[],[],_=>rfl
 |n+1,out,x::a,[],hn=>by
  rw[jT,jT,oU n _ _ _ (by simp at hn|-;omega)]
 |n+1,out,[],y::b,hn=>by
  rw[jT,jT,oU n _ _ _ (by simp at hn|-;omega)]
 |n+1,out,x::a,y::b,hn=>by
  simp only[aB]at hn;rw[jT,jT,oU n _ _ _ aq,oU n _ _ _ az,oU n _ _ _ aq]
def iJ(a b:List Sm):List Sm:=jT (a.length+b.length) [] a b
def AW:∀(k n:Nat) (out a b:List Sm),a.length+b.length<=n->jT (n+k) out a b=jT n out a b
 |0,_,_,_,_,_=>rfl
 |k+1,n,out,a,b,h=>by rw[<-fB,oU _ _ _ _ az,AW k n out a b h]
def vL{n:Nat}{a b:List Sm}(h:a.length+b.length<=n):jT n [] a b=iJ a b:=by
 have:=AW (n- (a.length+b.length)) (a.length+b.length) [] a b (aL _);rw[show a.length+b.length+(n- (a.length+b.length))=n by omega]at this;exact this
def kL:∀(n:Nat) (out a b:List Sm),jT n out a b=out++jT n [] a b
 |0,out,a,b=>by simp[jT]
 |n+1,out,[],[]=>by simp[jT]
 |n+1,out,x::a,[]=>by
  rw[jT,jT,kL n (out++[x]),kL n ([]++[x])];simp
 |n+1,out,[],y::b=>by
  rw[jT,jT,kL n (out++[y]),kL n ([]++[y])];simp
 |n+1,out,x::a,y::b=>by
  rw[jT,jT];split
  ·rw[kL n (out++[x]),kL n ([]++[x])];simp
  split
  ·rw[kL n (out++[y]) a b,kL n ([]++[y]) a b];simp
  rw[kL n (out++[y]),kL n ([]++[y])];simp
def oc:∀a:List Sm,iJ a []=a
 | []=>rfl
 |x::a=>by
  have ih:=oc a;unfold iJ at ih|-;rw[show (x::a).length+([]:List Sm).length=(a.length+([]:List Sm).length)+1 by simp,jT,kL,ih];rfl
def mo:∀b:List Sm,iJ [] b=b
 | []=>rfl
 |y::b=>by
  have ih:=mo b;unfold iJ at ih|-;rw[show ([]:List Sm).length+(y::b).length=(([]:List Sm).length+b.length)+1 by simp,jT,kL,ih];rfl
def pI(x y:Sm)(a b:List Sm):iJ (x::a) (y::b)=if x.time<y.time then x::iJ a (y::b) else if x.time=y.time then y::iJ a b else y::iJ (x::a) b:=by
 conv=>lhs;unfold iJ
 rw[show (x::a).length+(y::b).length=(a.length+(y::b).length)+1 by simp only[aB];omega,jT];split
 ·rw[kL,vL (aL _)];rfl
 split
 ·rw[kL,vL aA];rfl
 rw[kL,vL aq];rfl
def oN(mg:List Sm->List Sm->List Sm)(x y:gY)(a b:List gY):ij mg (x::a) (y::b)=if iZ x.labels y.labels<0 then x::ij mg a (y::b) else if iZ x.labels y.labels=0 then ⟨y.labels,mg x.samples y.samples⟩::ij mg a b else y::ij mg (x::a) b:=by
 conv=>lhs;unfold ij
def GY{a b:List Sm}(h:iJ a b=[]):a=[]/\b=[]:=by
 match a,b with
 | [],b=>rw[mo]at h;exact⟨rfl,h⟩
 |x::a,[]=>rw[oc]at h;cases h
 |x::a,y::b=>
  rw[pI]at h;split at h
  ·cases h
  split at h<;>cases h
def xp:∀a b:List Sm,(iJ a b).length<=a.length+b.length
 | [],b=>by rw[mo];simp
 |x::a,[]=>by rw[oc];simp
 |x::a,y::b=>by
  rw[pI];split
  ·have:=xp a (y::b);simp at this|-;omega
  split
  ·have:=xp a b;simp;omega
  have:=xp (x::a) b;simp at this|-;omega
termination_by a b=>a.length+b.length
def D5(x:Sm)(a:List Sm):∀b:List Sm,(∀z∈b,x.time<z.time)->iJ (x::a) b=x::iJ a b
 | [],_=>by rw[oc,oc]
 |y::b,h=>by rw[pI,if_pos (h y aA)]
def Ku(y:Sm)(b:List Sm):∀a:List Sm,(∀z∈a,y.time<z.time)->iJ a (y::b)=y::iJ a b
 | [],_=>by rw[mo,mo]
 |x::a,h=>by
  have:=h x aA;rw[pI,if_neg az,if_neg az]
def uK(p:Sm->Bool)(hp:∀s t:Sm,s.time=t.time->p s=p t):∀a b:List Sm,mY a->mY b->(iJ a b).filter p=iJ (a.filter p) (b.filter p)
 | [],b,_,_=>by rw[mo,e_,mo]
 |x::a,[],_,_=>by rw[oc,e_,oc]
 |x::a,y::b,ha,hb=>by
  obtain⟨ha1,ha2⟩:=bh.1 ha;obtain⟨hb1,hb2⟩:=bh.1 hb;rw[pI];split
  ·rename_i h
   have ih:=uK p hp a (y::b) ha2 hb;rw[bV,ih]
   conv=>rhs;rw[bV]
   split
   ·rw[D5];intro z hz;have hz':=(bF.1 hz).1;rcases aF.1 hz' with rfl|hz'
    ·exact h
    have:=hb1 z hz';omega
   rfl
  rename_i h
  split
  ·rename_i he
   have ih:=uK p hp a b ha2 hb2;rw[bV,ih]
   conv=>rhs;rw[bV,bV,hp x y he]
   split
   ·rw[pI,if_neg h,if_pos he]
   rfl
  rename_i he
  have ih:=uK p hp (x::a) b ha hb2;rw[bV,ih]
  conv=>rhs;rhs;rw[bV]
  split
  ·rw[Ku];intro z hz;have hz':=(bF.1 hz).1;rcases aF.1 hz' with rfl|hz'
   ·omega
   have:=ha1 z hz';omega
  rfl
termination_by a b=>a.length+b.length
def kp.Ud{to_ iN:Int}{l:List gY}(h:lZ to_ iN l=true):kp to_:=by
 unfold lZ at h;simp only[aG,decide_eq_true_eq]at h;exact⟨az,az⟩
def RM{to_ iN:Int}{l:List gY}(h1:kp to_)(h2:kp iN)(hl:∀x∈l,qe x)(hn:l.length<9223372036854775808):B7 (mw to_ iN l)=some ((to_,iN,l),ByteArray.empty):=by
 have h:=Cv hl hn ByteArray.empty;rw[uT]at h;unfold B7 mw;rw[bB,pV h1];simp only;rw[pV h2];simp only;rw[h]
def th{to_ iN:Int}{l:List gY}(h:lZ to_ iN l=true):lW l/\∀x∈l,mY x.samples/\x.samples≠ []:=by
 have hall:=nQ h;unfold lZ at h;rw[aG,bG]at h;have hb:=λi (hi:i<l.length)=>(v7 (to_:=to_) hi).symm.trans (oP h.1 i hi);have hne:∀x∈l,x.samples≠ []:=λx hx=>by
  obtain⟨i,hi,rfl⟩:=bz hx;have:=hb i hi;simp only[bO,decide_eq_false_iff_not]at this;exact λe=>this.2.2.1 (by rw[e];rfl)
 have hst:∀i (hi:i+1<l.length),iZ l[i].labels l[i+1].labels<0:=λi hi=>by
  have:=hb (i+1) hi;simp only[bO]at this;have h5:=this.2.2.2.2;rw[BE (show i+1-1<l.length by omega) (Nat.succ_pos i)]at h5;have h6:=of_decide_eq_false h5;simp only[cP]at h6;omega
 refine⟨?_,λx hx=>⟨((ja _).1 (hall x hx).2).1.up,hne x hx⟩⟩;refine bT.2 λi j hi hj hij=>?_;obtain⟨d,rfl⟩:∃d,j=i+1+d:=⟨j- (i+1),by omega⟩;clear hij;induction d with
 |zero=>exact hst i hj
 |succ d ih=>exact mI (ih az) (hst (i+1+d) hj)
def uw(mg:List Sm->List Sm->List Sm):∀(a b:List gY),(ij mg a b).length<=a.length+b.length
 | [],b=>by rw[jP];simp
 |x::a,[]=>by rw[ko];simp
 |x::a,y::b=>by
  rw[oN];split
  ·have:=uw mg a (y::b);simp at this|-;omega
  split
  ·have:=uw mg a b;simp;omega
  have:=uw mg (x::a) b;simp at this|-;omega
termination_by a b=>a.length+b.length
instance decLbs:DecidableEq (List Lb):=λa b=>decidable_of_iff (iZ a b=0) (jo.eq0 a b)
def iB(ls:List Lb):List gY->Option (List Sm)
 | []=>none
 |x::r=>if x.labels=ls then some x.samples else iB ls r
def DL(l:List gY):Prop:=(l.map (·.labels)).Nodup
def mA{ls:List Lb}:∀{l:List gY},iB ls l=none↔∀x∈l,x.labels≠ls
 | []=>by simp[iB]
 |x::r=>by
  unfold iB;by_cases h:x.labels=ls
  ·simp[h]
  rw[if_neg h,mA (l:=r)];simp[h]
def kg{ls:List Lb}{s:List Sm}:∀{l:List gY},iB ls l=some s->⟨ls,s⟩∈l
 |x::r,h=>by
  unfold iB at h;split at h
  ·rename_i e;cases h;rw[<-e];simp
  have:=kg h;simp[this]
def mb{x:gY}:∀{l:List gY},DL l->x∈l->iB x.labels l=some x.samples
 |y::r,hn,hx=>by
  unfold DL at hn;simp only[bb,bJ]at hn;unfold iB;rcases aF.1 hx with rfl|hx
  ·rw[if_pos rfl]
  rw[if_neg (λe=>hn.1 (by rw[e];exact cc hx)),mb hn.2 hx]
def lW.dl{l:List gY}(h:lW l):DL l:=by
 unfold DL List.Nodup;rw[fq];refine h.imp λ{x y} hxy e=>?_;rw[(jo.eq0 _ _).2 e]at hxy;omega
def wW:∀{l m:List gY},lW l->lW m->(∀ls,iB ls l=iB ls m)->l=m
 | [],[],_,_,_=>rfl
 | [],y::m,_,_,h=>by have:=h y.labels;unfold iB at this;rw[if_pos rfl]at this;cases this
 |x::l,[],_,_,h=>by have:=h x.labels;unfold iB at this;rw[if_pos rfl]at this;cases this
 |x::l,y::m,hl,hm,h=>by
  obtain⟨l1,l2⟩:=bh.1 hl;obtain⟨m1,m2⟩:=bh.1 hm;have nl:∀ls,iZ ls x.labels<0\/ls=x.labels->iB ls l=none:=λls hls=>by
   rw[mA];intro z hz e;have:=l1 z hz;rw[e]at this;have a:=jo.anti ls x.labels;rcases hls with h1|h1
   ·omega
   rw[h1,jo.self]at this;omega
  have nm:∀ls,iZ ls y.labels<0\/ls=y.labels->iB ls m=none:=λls hls=>by
   rw[mA];intro z hz e;have:=m1 z hz;rw[e]at this;have a:=jo.anti ls y.labels;rcases hls with h1|h1
   ·omega
   rw[h1,jo.self]at this;omega
  have hxy:x.labels=y.labels:=by
   by_cases e:x.labels=y.labels
   ·exact e
   have hr:=jo.rng x.labels y.labels;have ha:=jo.anti x.labels y.labels;have h0:iZ x.labels y.labels≠0:=λh0=>e ((jo.eq0 _ _).1 h0);by_cases hlt:iZ x.labels y.labels<0
   ·have:=h x.labels;unfold iB at this;rw[if_pos rfl,if_neg (λe'=>e e'.symm),nm x.labels (.inl hlt)]at this;cases this
   have:=h y.labels;unfold iB at this;rw[if_pos rfl,if_neg e,nl y.labels (.inl az)]at this;cases this
  have hs:x.samples=y.samples:=by
   have:=h x.labels;unfold iB at this;rw[if_pos rfl,if_pos hxy.symm]at this;exact br this
  have ht:l=m:=wW l2 m2 λls=>by
   by_cases e:ls=x.labels
   ·rw[nl ls (.inr e),nm ls (.inr (e.trans hxy))]
   have:=h ls;unfold iB at this
   rwa [if_neg (λe'=>e e'.symm),if_neg (λe'=>e (hxy.trans e').symm)]at this
  rw[ht];obtain⟨xl,xs⟩:=x;obtain⟨yl,ys⟩:=y;simp only at hxy hs;rw[hxy,hs]
def both(mg:List Sm->List Sm->List Sm):Option (List Sm)->Option (List Sm)->Option (List Sm)
 |none,y=>y
 |some x,none=>some x
 |some x,some y=>some (mg x y)
def jx(mg:List Sm->List Sm->List Sm)(ls:List Lb):∀(a b:List gY),lW a->lW b->iB ls (ij mg a b)=both mg (iB ls a) (iB ls b)
 | [],b,_,_=>by rw[jP];rfl
 |x::a,[],_,_=>by
  rw[ko];show _=both mg _ none;cases iB ls (x::a) <;>rfl
 |x::a,y::b,ha,hb=>by
  obtain⟨ha1,ha2⟩:=bh.1 ha;obtain⟨hb1,hb2⟩:=bh.1 hb;rw[oN];split
  ·rename_i hxy
   have ih:=jx mg ls a (y::b) ha2 hb
   conv=>lhs;unfold iB
   conv=>rhs;rw[show iB ls (x::a)=if x.labels=ls then some x.samples else iB ls a from rfl]
   by_cases e:x.labels=ls
   ·rw[if_pos e,if_pos e];have hn:iB ls (y::b)=none:=by
     rw[mA];intro z hz e2;have:iZ x.labels z.labels<0:=by
      rcases aF.1 hz with rfl|hz
      ·exact hxy
      exact mI hxy (hb1 z hz)
     rw[e,e2,jo.self]at this;omega
    rw[hn];rfl
   rw[if_neg e,if_neg e,ih]
  rename_i hxy
  split
  ·rename_i h0
   have hl:x.labels=y.labels:=(jo.eq0 _ _).1 h0;have ih:=jx mg ls a b ha2 hb2
   conv=>lhs;unfold iB
   conv=>rhs;rw[show iB ls (x::a)=if x.labels=ls then some x.samples else iB ls a from rfl,show iB ls (y::b)=if y.labels=ls then some y.samples else iB ls b from rfl]
   by_cases e:y.labels=ls
   ·rw[if_pos e,if_pos e,if_pos (hl.trans e)];rfl
   rw[if_neg e,if_neg e,if_neg (λe2=>e (hl.symm.trans e2)),ih]
  rename_i h0
  have ih:=jx mg ls (x::a) b ha hb2;have hyx:iZ y.labels x.labels<0:=by
   have e1:=jo.anti x.labels y.labels;have e2:=jo.rng x.labels y.labels;omega
  conv=>lhs;unfold iB
  conv=>rhs;rw[show iB ls (y::b)=if y.labels=ls then some y.samples else iB ls b from rfl]
  by_cases e:y.labels=ls
  ·rw[if_pos e,if_pos e];have hn:iB ls (x::a)=none:=by
    rw[mA];intro z hz e2;have:iZ y.labels z.labels<0:=by
     rcases aF.1 hz with rfl|hz
     ·exact hyx
     exact mI hyx (ha1 z hz)
    rw[e,e2,jo.self]at this;omega
   rw[hn];rfl
  rw[if_neg e,if_neg e,ih]
termination_by a b=>a.length+b.length
def i_(ls:List Lb):List gY->Nat
 | []=>0
 |x::r=>if iZ x.labels ls<0 then i_ ls r+1 else 0
def Aj(ls:List Lb):∀l:List gY,i_ ls l<=l.length
 | []=>aL _
 |x::r=>by
  unfold i_;split
  ·simpa using Aj ls r
  simp
def Al(ls:List Lb):∀(l:List gY) (i:Nat) (h:i<l.length),i<i_ ls l->iZ l[i].labels ls<0
 |x::r,i,h,hi=>by
  unfold i_ at hi;split at hi
  ·rename_i hc
   cases i with
   |zero=>exact hc
   |succ i=>exact Al ls r i (by simpa using h) az
  omega
def AI(ls:List Lb):∀(l:List gY) (h:i_ ls l<l.length),¬iZ l[i_ ls l].labels ls<0
 |x::r,h=>by
  by_cases hc:iZ x.labels ls<0
  ·have e:i_ ls (x::r)=i_ ls r+1:=by rw[i_,if_pos hc]
   have:=AI ls r (by rw[e]at h;simpa using h);simpa[e]using this
  have e:i_ ls (x::r)=0:=by rw[i_,if_neg hc]
  simpa[e]using hc
def RQ{ls:List Lb}{l:List gY}(hr:lW l)(i:Nat)(h:i<l.length)(hi:i_ ls l<=i):¬iZ l[i].labels ls<0:=by
 have h0:i_ ls l<l.length:=az
 have:=AI ls l h0;rcases Nat.eq_or_lt_of_le hi with e|e
 ·simpa[<-e]using this
 intro hc;have hp:iZ l[i_ ls l].labels l[i].labels<0:=bT.1 hr _ _ h0 h e;exact this (mI hp hc)
def mJ(ls:List Lb)(l:List gY):Option gY:=match l[i_ ls l]? with|some y=>if iZ y.labels ls=0 then some y else none|none=>none
def u_{ls:List Lb}{l:List gY}{y:gY}(h:mJ ls l=some y):∃hn:i_ ls l<l.length,l[i_ ls l]=y/\iZ y.labels ls=0:=by
 unfold mJ at h;split at h
 ·rename_i z hz
  obtain⟨hn,hz⟩:=aO.1 hz;split at h
  ·rename_i hc
   cases h;exact⟨hn,hz,hc⟩
  cases h
 cases h
def BW{ls:List Lb}{l:List gY}(h:mJ ls l=none)(hn:i_ ls l<l.length):iZ l[i_ ls l].labels ls≠0:=by
 unfold mJ at h;rw[aC hn]at h;intro hc;simp[hc]at h
def jV(l:List gY)(x:gY):List gY:=ij (· ++ ·) l [x]
def vX(y:gY)(r:List gY)(x:gY):jV (y::r) x=if iZ y.labels x.labels<0 then y::jV r x else if iZ y.labels x.labels=0 then ⟨x.labels,y.samples++x.samples⟩::r else x::y::r:=by
 unfold jV;rw[oN,ko,ko]
def xL(x:gY):jV [] x=[x]:=jP _ _
def yf{x y:gY}:∀{l:List gY},mJ x.labels l=some y->jV l x=l.set (i_ x.labels l) ⟨x.labels,y.samples++x.samples⟩
 | [],h=>by simp[mJ,i_]at h
 |z::r,h=>by
  rw[vX];by_cases hc:iZ z.labels x.labels<0
  ·have e:i_ x.labels (z::r)=i_ x.labels r+1:=by rw[i_,if_pos hc]
   have h':mJ x.labels r=some y:=by
    unfold mJ at h|-;rw[e]at h;simpa using h
   rw[if_pos hc,e,List.set_cons_succ,yf h']
  have e:i_ x.labels (z::r)=0:=by rw[i_,if_neg hc]
  obtain⟨hn,h1,h2⟩:=u_ h;simp only[e,d_]at h1;subst h1;rw[if_neg hc,if_pos h2,e];rfl
def AT{x:gY}:∀{l:List gY},mJ x.labels l=none->jV l x=l.take (i_ x.labels l)++x::l.drop (i_ x.labels l)
 | [],_=>by simp[xL,i_]
 |z::r,h=>by
  rw[vX];by_cases hc:iZ z.labels x.labels<0
  ·have e:i_ x.labels (z::r)=i_ x.labels r+1:=by rw[i_,if_pos hc]
   have h':mJ x.labels r=none:=by
    unfold mJ at h|-;rw[e]at h;simpa using h
   rw[if_pos hc,e,fP,List.drop_succ_cons,AT h'];rfl
  have e:i_ x.labels (z::r)=0:=by rw[i_,if_neg hc]
  have h1:=BW h (by rw[e];simp);simp only[e,d_]at h1;rw[if_neg hc,if_neg h1,e];rfl
def yr{l:List gY}(x:gY)(h:lW l):lW (jV l x):=qH l [x] h (dE _ _)
def yb{x z:gY}:∀{l:List gY},z∈jV l x->z∈l\/z=x\/∃y∈l,iZ y.labels x.labels=0/\z=⟨x.labels,y.samples++x.samples⟩
 | [],h=>by rw[xL]at h;exact .inr (.inl (by simpa using h))
 |y::r,h=>by
  rw[vX]at h;split at h
  ·rcases aF.1 h with rfl|h
   ·exact .inl aA
   rcases yb h with h|h|⟨y',h1,h2⟩
   ·exact .inl (by simp[h])
   ·exact .inr (.inl h)
   exact .inr (.inr ⟨y',by simp[h1],h2⟩)
  split at h
  ·rename_i hc
   rcases aF.1 h with rfl|h
   ·exact .inr (.inr ⟨y,aA,hc,rfl⟩)
   exact .inl (by simp[h])
  rcases aF.1 h with rfl|h
  ·exact .inr (.inl rfl)
  exact .inl h
def pT(s:List Sm):Int:=match s with|x::_=>x.time| []=>0
def rk(s:List Sm):Int:=match s.getLast? with|some x=>x.time|none=>0
noncomputable def mi(mk:Int)(l:List gY)(x:gY):Int:=
 if (iS x.labels&&ke x.samples&& !decide (x.samples.length=0))=false then 1 else if pT x.samples<=mk then 10 else
 match mJ x.labels l with
 |none=>if 60<=l.length then 12 else 0
 |some y=>if pT x.samples<=rk y.samples then 10 else if 2000<y.samples.length+x.samples.length then 12 else 0
def NW(mk:Int)(l:List gY)(x:gY):0<=mi mk l x/\mi mk l x<=12:=by
 unfold mi
 repeat' split
 all_goals omega
noncomputable def lF(mk:Int):List gY->List gY->Nat->Option (Int×Nat)
 |_,[],_=>none
 |S,x::r,i=>if mi mk S x=0 then lF mk (jV S x) r (i+1) else some (mi mk S x,i)
def ir(l:List gY):Nat:=(l.map (·.samples.length)).sum
def F6(l:List gY)(i:Nat)(h:i<l.length):ir (l.take (i+1))=ir (l.take i)+l[i].samples.length:=by
 unfold ir;rw[a6 h,aP,List.sum_append];simp
def GN(l:List gY)(i:Nat):ir (l.take i)<=ir l:=by
 conv=>rhs;rw[<-cj i l]
 unfold ir;rw[aP,List.sum_append];omega
noncomputable def jb(mk:Int)(S l:List gY):(Int×Int)×List gY:=
 if 40<ir l then ((4, -1),S) else match lF mk S l 0 with|none=>((0, -1),l.foldl jV S)|some (e,i)=>((e,(i:Int)),S)
structure lI(S:List gY):Prop where
 ris:lW S
 len:S.length<=60
 each:∀x∈S,iS x.labels=true/\ke x.samples=true/\x.samples≠ []
def lI.nil:lI []:=⟨.nil,aA,aA⟩
def Hy{s:List Sm}(hu:mY s){z:Sm}(hz:z∈s):z.time<=rk s:=by
 unfold rk;cases hl:s.getLast? with
 |none=>rw[dM]at hl;subst hl;cases hz
 |some y=>
  obtain⟨a,rfl⟩:=fa.1 hl;rcases aE.1 hz with h|h
  ·have:=(cG.1 hu).2.2 z h y aA;show z.time<=y.time;omega
  simp at h;rw[h];exact bY _
def EE{s:List Sm}(hu:mY s){z:Sm}(hz:z∈s):pT s<=z.time:=by
 cases s with
 |nil=>cases hz
 |cons x r=>
  rcases aF.1 hz with rfl|h
  ·exact bY _
  have:=(bh.1 hu).1 z h;show x.time<=z.time;omega
def RG{a b:List Sm}(ha:ke a=true)(hb:ke b=true)(hab:¬pT b<=rk a)(hl:¬2000<a.length+b.length):ke (a++b)=true:=by
 rw[ja]at ha hb|-;refine⟨⟨λx hx=>?_,λx hx=>?_,?_⟩,aq⟩
 ·rcases aE.1 hx with h|h
  ·exact ha.1.lo x h
  exact hb.1.lo x h
 ·rcases aE.1 hx with h|h
  ·exact ha.1.hi x h
  exact hb.1.hi x h
 refine cG.2 ⟨ha.1.up,hb.1.up,λx hx y hy=>?_⟩;have h1:=Hy ha.1.up hx;have h2:=EE hb.1.up hy;omega
def PF(l:List gY)(x:gY):(jV l x).length=if (mJ x.labels l).isSome then l.length else l.length+1:=by
 cases h:mJ x.labels l with
 |none=>
  rw[AT h];have:=Aj x.labels l;simp;omega
 |some y=>rw[yf h];simp
def By{mk:Int}{S:List gY}{x:gY}(h:lI S)(he:mi mk S x=0):lI (jV S x):=by
 unfold mi at he;split at he
 ·omega
 rename_i hb
 rw[Bool.not_eq_false,aG,aG,bG,decide_eq_false_iff_not]at hb;obtain⟨⟨b1,b2⟩,b3⟩:=hb;split at he
 ·omega
 have hne:x.samples≠ []:=λe=>b3 (by rw[e];rfl);refine⟨yr x h.ris,?_,λz hz=>?_⟩
 ·rw[PF];have:=h.len;split
  ·exact this
  rename_i hs
  cases ha:mJ x.labels S with
  |some y=>rw[ha]at hs;exact absurd rfl hs
  |none=>rw[ha]at he;simp only at he;split at he<;>omega
 rcases yb hz with hz|rfl|⟨y,hy,hc,rfl⟩
 ·exact h.each z hz
 ·exact⟨b1,b2,hne⟩
 refine⟨b1,?_,by simp[hne]⟩;obtain⟨y1,y2,y3⟩:=h.each y hy;cases ha:mJ x.labels S with
 |none=>
  exfalso;obtain⟨i,hi,rfl⟩:=bz hy;rcases f_ i (i_ x.labels S) with hi'|hi'|hi'
  ·have:=Al x.labels S i hi hi';omega
  ·have:=BW ha az;simp only[<-hi']at this;exact this hc
  have hn:i_ x.labels S<S.length:=az
  have hp:iZ S[i_ x.labels S].labels S[i].labels<0:=bT.1 h.ris _ _ hn hi hi';rw[(jo.eq0 _ _).1 hc]at hp;exact AI x.labels S hn hp
 |some y'=>
  rw[ha]at he;simp only at he;obtain⟨hn,e1,e2⟩:=u_ ha;have:y'=y:=by
   have hd:=h.ris.dl;have k1:=mb hd hy;have k2:=mb hd (e1 ▸ aR hn:y'∈S);have el:y'.labels=y.labels:=((jo.eq0 _ _).1 e2).trans ((jo.eq0 _ _).1 hc).symm;rw[el,k1]at k2;cases y;cases y';simp only at el;cases k2;rw[el]
  subst this;split at he
  ·omega
  rename_i h1
  split at he
  ·omega
  rename_i h2
  exact RG y2 b2 h1 h2
def DX{mk:Int}:∀{l S:List gY} {i:Nat},lI S->lF mk S l i=none->lI (l.foldl jV S)
 | [],_,_,h,_=>h
 |x::r,S,i,h,ht=>by
  unfold lF at ht;split at ht
  ·rename_i he
   exact DX (l:=r) (By h he) ht
  cases ht
def sZ{mk:Int}{S:List gY}(l:List gY)(h:lI S):lI (jb mk S l).2:=by
 unfold jb;split
 ·exact h
 split
 ·rename_i ht
  exact DX h ht
 exact h
def R3{mk:Int}{S l:List gY}{i:Nat}(hi:i<l.length)(h:lF mk S l 0=lF mk ((l.take i).foldl jV S) (l.drop i) i):
  (mi mk ((l.take i).foldl jV S) l[i]=0->lF mk S l 0=lF mk ((l.take (i+1)).foldl jV S) (l.drop (i+1)) (i+1))/\
  (mi mk ((l.take i).foldl jV S) l[i] ≠0->lF mk S l 0=some (mi mk ((l.take i).foldl jV S) l[i],i)):=by
 rw[h,cn hi,a6 hi,bN];refine⟨λhe=>?_,λhe=>?_⟩
 ·rw[lF,if_pos he];rfl
 rw[lF,if_neg he]
def Px{mk:Int}{S l:List gY}(h:lF mk S l 0=lF mk ((l.take l.length).foldl jV S) (l.drop l.length) l.length):lF mk S l 0=none:=by
 rw[h,dF];rfl
def GM(x:gY):∀l:List gY,ir (jV l x)=ir l+x.samples.length
 | []=>by rw[xL];simp[ir]
 |y::r=>by
  rw[vX];split
  ·have:=GM x r;simp only[ir,bb,cK]at this|-;omega
  split
  ·simp[ir];omega
  simp[ir];omega
def vP:∀(l S:List gY),ir (l.foldl jV S)=ir S+ir l
 | [],S=>by simp[ir]
 |x::r,S=>by
  rw[bC,vP r,GM];simp[ir];omega
def jO(t:Int):nR:=λ_ s=>decide (s<=t)
def mN(h:nR):nR:=λls s=> !h ls s
def Fk(t:Int):∀{s:List Sm},mY s->iJ (s.filter λx=>decide (x.time<=t)) (s.filter λx=> !decide (x.time<=t))=s
 | [],_=>oc []
 |x::r,h=>by
  obtain⟨h1,h2⟩:=bh.1 h;by_cases hx:x.time<=t
  ·rw[dd (by simpa using hx),de (by simpa using hx),D5,Fk t h2];exact λz hz=>h1 z (bF.1 hz).1
  have e:r.filter (λx=>decide (x.time<=t))=[]:=by
   rw[dj];intro z hz;have:=h1 z hz;simp;omega
  have e2:r.filter (λx=> !decide (x.time<=t))=r:=by
   rw[cD];intro z hz;have:=h1 z hz;simp;omega
  rw[de (by simpa using hx),dd (by simpa using hx),e,e2,mo]
def CY{s:List Sm}(p:Sm->Bool)(h:ke s=true):ke (s.filter p)=true:=by
 rw[ja]at h|-;refine⟨⟨λx hx=>h.1.lo x (bF.1 hx).1,λx hx=>h.1.hi x (bF.1 hx).1,h.1.up.filter _⟩,bE (bZ _ _) h.2⟩
end Go.PL
