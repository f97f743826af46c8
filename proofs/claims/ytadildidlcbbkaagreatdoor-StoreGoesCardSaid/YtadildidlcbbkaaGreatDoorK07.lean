/- A part of the proof of StoreGoesCardSaid. -/
import Derived.Test.YtadildidlcbbkaaGreatDoorK06
import Derived.Shelf.Small.Bits
import Derived.Shelf.LaysM
import Derived.Shelf.LaysC
import Derived.Test.YtadildidlcbbkaaGreatDoorProg
import Derived.Shelf.Sort.Plain
import Derived.Shelf.Slices.In.SortNone
import Derived.Shelf.Slices.In.SortNone2
import Derived.Shelf.SlIter.Nil
import Derived.Shelf.SlIter.Sorted
set_option linter.all false
namespace Go.Proofs.YtadildidlcbbkaaGreatDoor
open Go Go.GK Go.PL Go.RowKit IntKind Go.Proofs.Tryz
set_option maxRecDepth 100000
def Ip(s t:ByteArray)(ht:t.size<=1000)(ha:t.data.toList.all (λb=>decide (b.toNat<128))=true):Rt pg 265 [gs s,gs t] (gs (bS (Lib.trimLeftS s.data.toList t.data.toList))):=
 Rt.calls call265 [.string s,.string t] _ λw=>(Any.strings_TrimLeft_laid Tryz.RD au s t w az (λ_ b hb=>of_decide_eq_true (cW.1 ha b (bp hb)))).mono λe w' ⟨he,hw⟩=>⟨he,hw⟩
def F4(s t:ByteArray)(hs:s.size<=1000000)(ht:t.size<=1000)(ha:t.data.toList.all (λb=>decide (b.toNat<128))=true):Rt pg 207 [gs s,gs t] (gi ((s.data.toList.takeWhile (t.data.toList.contains ·)).length:Nat)):=by
 refine Rt.of gV func207 rfl ntmps207 rfl results207 call207 λH0 S0 w0 h0 g0=>?_;refine GO (Ip s t ht ha) rfl ⟨?_,rfl⟩;have h:=UF (p:=(t.data.toList.contains ·)) s.data.toList;have e1:(bS (Lib.trimLeftS s.data.toList t.data.toList)).size=(s.data.toList.dropWhile (t.data.toList.contains ·)).length:=by
  show (Lib.trimLeftS s.data.toList t.data.toList).toArray.size=_;simp[Lib.trimLeftS]
 have e2:s.size=s.data.toList.length:=aA
 show gi (i64.wrap ((s.size:Int) - ((bS (Lib.trimLeftS s.data.toList t.data.toList)).size:Int)))=gi _;rw[e1,ic az az];have:(s.size:Int) - ((s.data.toList.dropWhile (t.data.toList.contains ·)).length:Int)=((s.data.toList.takeWhile (t.data.toList.contains ·)).length:Nat):=az
 rw[this]
def Ug:Except (Int×Int) (List Tok)->GV
 | .ok l=>.tup [yX l,.v .nilIface]
 | .error (e,p)=>.tup [.v (.slice none 0 0),.ifc 137 (.r [gi e,gi p])]
theorem Oy(s:ByteArray)(hs:s.size≤100000):Rt pg 153 [gs s] (Ug (pe s.data.toList (s.size+1) 0 0)):=by
 have hsz:s.data.toList.length=s.size:=by simp
 generalize hR:pe s.data.toList (s.size+1) 0 0=R;refine Rt.q9 gV func153 rfl ntmps153 rfl results153 call153 fun H0 S0 w0 h0 g0=>?_;refine V ?_;show JK _ _ _ _;refine JK.kx 4 243 3 rfl ?_;refine JK.loop (α:=List Tok×Nat×Nat) (fun x=>⟨[(0,gs s),(4,.o 0),(5,gi x.2.1)],[(0,.row 243 3 (x.1.map oz))],1⟩) (fun x=>(match pe s.data.toList x.2.2 x.2.1 x.1.length with| .ok l=>.ok (x.1++l)| .error e=>.error e)=R∧x.2.1≤s.size∧s.size-x.2.1<x.2.2∧x.1.length≤120) (fun x=>s.size-x.2.1) ([],0,s.size+1) id ?_ ?_ ?_
 ·exact⟨⟨rfl,rfl,rfl,trivial⟩,⟨rfl,trivial⟩,rfl⟩
 ·refine⟨?_,aQ _,by simp,by simp⟩;show (match pe s.data.toList (s.size+1) 0 0 with| .ok l=>Except.ok ([]++l)| .error e=>.error e)=R;rw[hR];cases R<;>rfl
 rintro⟨out,i,f⟩ ⟨hO,hi,hf,ho⟩;replace hO:(match pe s.data.toList f i out.length with| .ok l=>.ok (out++l)| .error e=>.error e)=R:=hO;replace hi:i≤s.size:=hi;replace hf:s.size-i<f:=hf;replace ho:out.length≤120:=ho;obtain⟨f,rfl⟩:∃k,f=k+1:=⟨f-1,by omega⟩;have hdr:(s.extract i s.size).data.toList=s.data.toList.drop i:=by
  rw[cw,dz];simp[List.extract,cv]
 have hk:((s.data.toList.drop i).takeWhile (· ==32)).length≤s.size-i:=by
  have:=(fA (l:=s.data.toList.drop i) (· ==32)).length_le;rw[bw,hsz]at this;exact this
 refine VM 7 ?_;refine⟨show (0:Int)≤(i:Int) by omega,show (i:Int)≤(s.size:Int) by omega,bY _,?_⟩;have hrun:Rt pg 207 [gs (s.extract i s.size),gs (bS [32])] (gi (((s.data.toList.drop i).takeWhile (· ==32)).length:Nat)):=by
  have h:=F4 (s.extract i s.size) (bS [32]) (by rw[cJ];omega) ax ax;rw[hdr,BA (q:=(· ==32)) (fun b=>by
   show ([32]:List UInt8).contains b=_;rw[cp];simp)]at h
  exact h
 generalize hkk:((s.data.toList.drop i).takeWhile (· ==32)).length=k at hk hrun;refine sw hrun.hf (fun _=>0) rfl rfl trivial rfl (fun _ h=>absurd h (cf _)) ?_;rintro g σ' n' ⟨rfl,rfl,rfl⟩;refine VM 2 ?_;have hw:gi ((i+k:Nat):Int)=gi (i64.wrap ((i:Int)+(k:Int))):=by rw[ic az az];rfl
 show JK _ _ _ _;refine JK.sub 5 (gi ((i+k:Nat):Int)) rfl (Sub.eq hw) ?_;rw[pe]at hO;simp only[hkk,hsz]at hO;by_cases he:s.size≤i+k
 ·rw[if_pos he]at hO;subst hO;refine VM 20 ?_;refine p1 ?_ aq;refine⟨by simp;omega,?_⟩;show JK _ _ _ _;refine ot 2 rfl ?_;exact⟨⟨congrArg (GV.sl 3) (aP (l₁:=out) (l₂:=[⟨5,⟨#[]⟩,((i+k:Nat):Int)⟩]) (f:=oz)).symm,rfl,trivial⟩,rfl⟩
 ·rw[if_neg he]at hO;refine VM 33 ?_;refine p2 ?_ aq;refine⟨show (0:Int)≤((i+k:Nat):Int) by omega,show ((i+k:Nat):Int)≤(s.size:Int) by omega,bY _,?_⟩;have hlt:i+k<s.size:=by omega
  have hsx:(s.extract (i+k) s.size).size=s.size- (i+k):=by rw[cJ];omega
  obtain⟨c,r,hcr⟩:∃c r,s.data.toList.drop (i+k)=c::r:=by
   cases h:s.data.toList.drop (i+k) with
   |nil=>have:=congrArg List.length h;rw[bw,hsz]at this;simp at this;omega
   |cons c r=>exact⟨c,r,rfl⟩
  have hdr2:(s.extract (i+k) s.size).data.toList=c::r:=by
   rw[←hcr,cw,dz];simp[List.extract,cv]
  have hc0:(s.extract (i+k) s.size)[0]? =some c:=Uw hdr2;refine⟨c,by decide,hc0,?_⟩;show JK _ _ _ _;generalize hL:s.extract (i+k) s.size=left at hsx hdr2 hc0;refine JK.cut (α:=Unit) (fun _=>⟨[(0,gs s),(4,.o 0),(5,gi ((i+k:Nat):Int)),(6,gs left),(7,.p 1 0),(8,gi ((lg (c::r)).1:Nat))],[(0,.row 243 3 (out.map oz)),(1,.hZ 243 [gi (lg (c::r)).2,gs ⟨#[]⟩,gi ((i+k:Nat):Int)])],2⟩) (fun _=>True) ?_ ?_
  ·subst hL;refine V ?_;refine GO (r7 ⟨sy.toArray⟩ c) rfl ?_;have e:decide (0≤Lib.indexByte sy c)=lH c:=HW _;cases hl:lH c with
   |true=>
    rw[hl]at e;refine p1 ?_ e;have hx:lg (c::r)=(((c::r).takeWhile fun b=>lH b||kz b).length,1):=by simp only[lg,hl,if_true]
    have h:=F4 (s.extract (i+k) s.size) ⟨(sy++tZ).toArray⟩ az ax ax;rw[hdr2,BA (q:=fun b=>lH b||kz b) (fun b=>BP b)]at h;rw[hx];refine GO h rfl ?_;exact⟨(),id,⟨⟨rfl,rfl,rfl,rfl,rfl,rfl,trivial⟩,⟨rfl,rfl,trivial⟩,rfl⟩,trivial⟩
   |false=>
    rw[hl]at e;refine p2 ?_ e;refine GO (r7 ⟨tZ.toArray⟩ c) rfl ?_;have e:decide (0≤Lib.indexByte tZ c)=kz c:=QL _;cases hd:kz c with
    |true=>
     rw[hd]at e;refine p1 ?_ e;have hx:lg (c::r)=(((c::r).takeWhile kz).length,2):=by simp only[lg,hl,hd,if_true,a7,if_false]
     have h:=F4 (s.extract (i+k) s.size) ⟨tZ.toArray⟩ az ax ax;rw[hdr2,BA (q:=kz) (fun b=>Qd b)]at h;rw[hx];refine GO h rfl ?_;exact⟨(),id,⟨⟨rfl,rfl,rfl,rfl,rfl,rfl,trivial⟩,⟨rfl,rfl,trivial⟩,rfl⟩,trivial⟩
    |false=>
     rw[hd]at e;refine p2 ?_ e;by_cases hq:c.toNat=34
     ·refine p1 ?_ aq;refine⟨by omega,by simp;omega,by omega,?_⟩;have hx:lg (c::r)=(match r.findIdx? (· ==34) with|some j=>j+2|none=>0,3):=by
       unfold lg;simp only[hl,hd,a7,if_false];rw[if_pos hq];rfl
      have hdr3:((s.extract (i+k) s.size).extract 1 (s.extract (i+k) s.size).size).data.toList=r:=by
       rw[cw,dz,hdr2];have hlen:=congrArg List.length hdr2;have:(s.extract (i+k) s.size).data.toList.length=(s.extract (i+k) s.size).size:=by simp
       rw[this]at hlen;simp only[aB]at hlen;rw[hlen];simp[List.extract]
      have h:=r7 ((s.extract (i+k) s.size).extract 1 (s.extract (i+k) s.size).size) 34;rw[hdr3,E7]at h;cases hfi:r.findIdx? (· ==34) with
      |none=>
       rw[hfi]at h hx;rw[hx];refine GO h rfl ?_;refine p1 ?_;exact⟨(),id,⟨⟨rfl,rfl,rfl,rfl,rfl,rfl,trivial⟩,⟨rfl,rfl,trivial⟩,rfl⟩,trivial⟩
      |some j=>
       rw[hfi]at h hx;have hj:j<r.length:=(ck.1 hfi).1;have hrl:r.length<100000:=by
        have:=congrArg List.length hcr;rw[bw,hsz]at this;simp at this;omega
       have hw2:i64.wrap (2+(j:Int))=((j+2:Nat):Int):=by rw[ic az az];omega
       rw[hx];refine GO h rfl ?_;refine p2 ?_ (decide_eq_false (by show¬i64.wrap (2+(j:Int))=1;rw[hw2];omega));exact⟨(),id,⟨⟨rfl,rfl,rfl,rfl,rfl,congrArg (fun x:Int=>some (gi x)) hw2,trivial⟩,⟨rfl,rfl,trivial⟩,rfl⟩,trivial⟩
     ·refine p2 ?_ aq;show JK _ _ _ _;obtain⟨n,hn,hm1,hm2,_⟩:=tr k7 fun m=>m.isPrefixOf (c::r);have hml:k7.length=15:=rfl;have hx:lg (c::r)=(match k7[n]? with|some m=>m.length|none=>0,4):=by
       unfold lg;simp only[hl,hd,a7,if_false];rw[if_neg hq,←Cn (p:=fun m=>m.isPrefixOf (c::r)) hn hm1 hm2];rfl
      have hpf:∀m:List UInt8,nI (s.extract (i+k) s.size) (bS m)=m.isPrefixOf (c::r):=fun m=>by rw[OO,hdr2]
      refine JK.iT (α:=Nat) (β:=Unit) (fun j=>⟨[(0,gs s),(4,.o 0),(5,gi ((i+k:Nat):Int)),(6,gs (s.extract (i+k) s.size)),(7,.p 1 0),(8,gi 0),(35,.agg (k7.map fun m=>gs (bS m))),(36,gi j)],[(0,.row 243 3 (out.map oz)),(1,.hZ 243 [gi 4,gs ⟨#[]⟩,gi ((i+k:Nat):Int)])],2⟩) (fun j=>j≤n) (fun j=>n-j)
       (fun _=>⟨[(0,gs s),(4,.o 0),(5,gi ((i+k:Nat):Int)),(6,gs (s.extract (i+k) s.size)),(7,.p 1 0),(8,gi ((lg (c::r)).1:Nat))],[(0,.row 243 3 (out.map oz)),(1,.hZ 243 [gi (lg (c::r)).2,gs ⟨#[]⟩,gi ((i+k:Nat):Int)])],2⟩) (fun _=>True) 0 id ?_ (aQ _) ?_ ?_
      ·exact⟨⟨rfl,rfl,rfl,rfl,rfl,rfl,rfl,rfl,trivial⟩,⟨rfl,rfl,trivial⟩,rfl⟩
      ·intro j hj;replace hj:j≤n:=hj;refine V ?_;by_cases hlt:j<15
       ·refine p1 ?_;refine⟨gs (bS (k7[j]'(by rw[hml];exact hlt))),by omega,by omega,?_,?_⟩
        ·show (k7.map fun m=>gs (bS m))[((j:Nat):Int).toNat]? =some _;rw[bj,bg,aC (by rw[hml];exact hlt)];rfl
        have hp:=oe (s.extract (i+k) s.size) (bS (k7[j]'(by rw[hml];exact hlt)));rw[hpf]at hp;by_cases hjn:j<n
        ·refine GO (hp.bt (hm1 j (by rw[hml];exact hlt) hjn)) rfl ?_;exact⟨j+1,id,⟨⟨rfl,rfl,rfl,rfl,rfl,rfl,rfl,h_ az,trivial⟩,⟨rfl,rfl,trivial⟩,rfl⟩,hjn,by show n- (j+1)<n-j;omega⟩
        ·obtain rfl:j=n:=by omega
         refine GO (hp.bt (hm2 (by rw[hml];exact hlt))) rfl ?_;rw[aC (by rw[hml];exact hlt)]at hx;rw[hx];exact⟨(),id,⟨⟨rfl,rfl,rfl,rfl,rfl,congrArg (fun x:Nat=>some (gi (x:Int))) (show (k7[j]'(by rw[hml];exact hlt)).toArray.size=_ by simp),trivial⟩,⟨rfl,rfl,trivial⟩,rfl⟩,trivial⟩
       ·refine p2 ?_;rw[bI (by rw[hml];omega)]at hx;rw[hx];exact⟨(),id,⟨⟨rfl,rfl,rfl,rfl,rfl,rfl,trivial⟩,⟨rfl,rfl,trivial⟩,rfl⟩,trivial⟩
      ·intro _ _;refine V ?_;exact⟨(),id,⟨⟨rfl,rfl,rfl,rfl,rfl,rfl,trivial⟩,⟨rfl,rfl,trivial⟩,rfl⟩,trivial⟩
  rintro _ _;subst hL;rw[hcr]at hO;have hle:=JM (c::r);have hlen:=congrArg List.length hcr;rw[bw,hsz]at hlen;rw[←hlen]at hle;generalize lg (c::r)=nk at hO hle;obtain⟨n,kd⟩:=nk;replace hle:n≤s.size- (i+k):=hle;by_cases hn0:n=0
  ·simp only[hn0,if_true]at hO;subst hO;refine VM 18 ?_;refine p1 ?_;show JK _ _ _ _;refine JK.qF 2 rfl rfl ?_;refine V ?_;exact⟨⟨rfl,rfl,trivial⟩,rfl⟩
  rw[if_neg hn0]at hO;by_cases hk2:kd=2∧18<n
  ·rw[if_pos (.inl hk2)]at hO;subst hO;refine VM 34 ?_;refine p2 ?_ aq;refine p1 ?_ (by simp[hk2.1]);refine p3 ?_ (decide_eq_true (by show ((n:Int) >18);omega));show JK _ _ _ _;refine JK.qF 2 rfl rfl ?_;refine V ?_;exact⟨⟨rfl,rfl,trivial⟩,rfl⟩
  by_cases h120:120≤out.length
  ·rw[if_pos (.inr h120)]at hO;subst hO;by_cases hkd:kd=2
   ·have h18:¬18<n:=fun h=>hk2 ⟨hkd,h⟩;refine VM 34 ?_;refine p2 ?_ aq;refine p1 ?_ (by simp[hkd]);refine p4 ?_ (decide_eq_false (by show¬((n:Int) >18);omega));refine p1 ?_ aq;show JK _ _ _ _;refine JK.qF 2 rfl rfl ?_;refine V ?_;exact⟨⟨rfl,rfl,trivial⟩,rfl⟩
   ·refine VM 34 ?_;refine p2 ?_ aq;refine p2 ?_ (by simp[hkd]);refine p1 ?_ aq;show JK _ _ _ _;refine JK.qF 2 rfl rfl ?_;refine V ?_;exact⟨⟨rfl,rfl,trivial⟩,rfl⟩
  rw[if_neg (fun h=>h.elim hk2 h120)]at hO;have ht:(s.extract (i+k) s.size).extract 0 n=⟨((c::r).take n).toArray⟩:=by
   have h1:=tU (s.extract (i+k) s.size) n;rw[hdr2]at h1;have h2:∀b:ByteArray,b=⟨b.data.toList.toArray⟩:=fun b=>by cases b;simp
   rw[h2 ((s.extract (i+k) s.size).extract 0 n),h1]
  have hfin:(match pe s.data.toList f (i+k+n) (out++[(⟨kd,(s.extract (i+k) s.size).extract 0 n,((i+k:Nat):Int)⟩:Tok)]).length with| .ok l=>.ok ((out++[(⟨kd,(s.extract (i+k) s.size).extract 0 n,((i+k:Nat):Int)⟩:Tok)])++l)| .error e=>.error e)=R:=by
   rw[←hO,aI,ht];show (match pe s.data.toList f (i+k+n) (out.length+1) with| .ok l=>_| .error e=>_)=_;cases pe s.data.toList f (i+k+n) (out.length+1) with
   |error e=>rfl
   |ok l=>simp
  have hx1:i+k+n≤s.size:=by omega
  have hx2:s.size- (i+k+n)<f:=by omega
  have hx3:(out++[(⟨kd,(s.extract (i+k) s.size).extract 0 n,((i+k:Nat):Int)⟩:Tok)]).length≤120:=by simp;omega
  have hx4:s.size- (i+k+n)<s.size-i:=by omega
  have hwn:i64.wrap (((i+k:Nat):Int)+(n:Int))=((i+k+n:Nat):Int):=by rw[ic az az];omega
  by_cases hkd:kd=2
  ·refine V ?_;refine p2 ?_ aq;refine p1 ?_ (by simp[hkd]);have h18:¬18<n:=fun h=>hk2 ⟨hkd,h⟩;refine p4 ?_ (decide_eq_false (by show¬((n:Int) >18);omega));refine p2 ?_ aq;refine⟨by omega,show (0:Int)≤(n:Int) by omega,show (n:Int)≤((s.extract (i+k) s.size).size:Int) by omega,?_⟩;refine⟨by simp;omega,?_⟩;exact⟨(out++[(⟨kd,(s.extract (i+k) s.size).extract 0 n,((i+k:Nat):Int)⟩:Tok)],i+k+n,f),fun q=>bif Nat.beq q 0 then 3 else q,⟨⟨rfl,rfl,congrArg (fun x:Int=>some (gi x)) hwn,trivial⟩,⟨congrArg (fun x=>some (hY.row 243 3 x)) (aP (l₁:=out) (l₂:=[(⟨kd,(s.extract (i+k) s.size).extract 0 n,((i+k:Nat):Int)⟩:Tok)]) (f:=oz)).symm,trivial⟩,rfl⟩,⟨hfin,hx1,hx2,hx3⟩,hx4⟩
  ·refine V ?_;refine p2 ?_ aq;refine p2 ?_ (by simp[hkd]);refine p2 ?_ aq;refine⟨by omega,show (0:Int)≤(n:Int) by omega,show (n:Int)≤((s.extract (i+k) s.size).size:Int) by omega,?_⟩;refine⟨by simp;omega,?_⟩;exact⟨(out++[(⟨kd,(s.extract (i+k) s.size).extract 0 n,((i+k:Nat):Int)⟩:Tok)],i+k+n,f),fun q=>bif Nat.beq q 0 then 3 else q,⟨⟨rfl,rfl,congrArg (fun x:Int=>some (gi x)) hwn,trivial⟩,⟨congrArg (fun x=>some (hY.row 243 3 x)) (aP (l₁:=out) (l₂:=[(⟨kd,(s.extract (i+k) s.size).extract 0 n,((i+k:Nat):Int)⟩:Tok)]) (f:=oz)).symm,trivial⟩,rfl⟩,⟨hfin,hx1,hx2,hx3⟩,hx4⟩
def vi(l:List Tok):Except (Int×Int) (List Mt):=match n_ l with
 | .error e=>.error e
 | .ok (q,l')=>if (qQ l').kind≠5 then .error (3,(qQ l').pos) else .ok q
def Nx(t:Tok)(l:List Tok)(hE:nB (t::l))(hl:l.length<=200):Hx pg 155 2 [.p 0 0,.p 1 0] [(0,.hZ 234 [yX (t::l)]),(1,.hZ 23 [.v (.slice none 0 0)])]
  (λg σ n=>∃q,vi (t::l)=.ok q/\g=.tup []/\σ=[(0,.hZ 234 [yX (t::l)]),(1,.hZ 23 [.sl 3 (q.map mt)])]/\n=2) (λg=>∃e p,vi (t::l)=.error (e,p)/\g=vw e p):=by
 refine Hx.jK (Q:=λg σ n=>2<=n/\∃q l',vi (t::l)=.ok q/\g=.tup []/\σ=[(2,.hZ 240 [yX l']),(0,.hZ 234 [yX (t::l)]),(1,.hZ 23 [.sl 3 (q.map mt)])]) ?_ (λ_ h=>h) (λg σ' n' ⟨hn,q,l',h1,h3,h4⟩=>⟨id,.tup [],[(0,.hZ 234 [yX (t::l)]),(1,.hZ 23 [.sl 3 (q.map mt)])],2,⟨q,h1,rfl,rfl,rfl⟩,by rw[h3];rfl,by rw[h4];exact A0z,by simp[L3,iL,jm,im,iy,iv,iu,jf,je];rfl⟩);refine Hx.q9 gV func155 rfl ntmps155 rfl results155 call155 λH0 S0 w0 h0 g0=>?_;refine V (vR (λg=>∃e p,vi (t::l)=.error (e,p)/\g=vw e p) (IB t l hE az) (λg ⟨e,p,h1,h2⟩=>⟨e,p,by rw[vi];simp only[h1],h2⟩) (λ_=>2) rfl rfl ⟨rfl,trivial⟩ rfl (λ_ _=>a_ ax (aL 3)) ?_);rintro g σ' n' ⟨q,l2,hq,hE2,hl2,rfl,rfl,rfl⟩;obtain⟨t2,l2,rfl⟩:=hE2.cons;refine V ⟨oz t2,ax,rfl,?_⟩;by_cases hk:t2.kind=5
 ·exact p2 ⟨bA rfl,q,t2::l2,by rw[vi];simp only[hq];rw[if_neg (by simp[qQ,hk])],rfl,rfl⟩ (by simp[hk])
 refine p1 (vR (λg=>∃e p,vi (t::l)=.error (e,p)/\g=vw e p) (uY t2 l2 3) (λg hg=>⟨3,t2.pos,by rw[vi];simp only[hq];rw[if_pos (by simpa[qQ]using hk)];rfl,hg⟩) (λ_=>2) rfl rfl ⟨rfl,trivial⟩ rfl (λ_ _=>a_ ax (aL 3)) ?_) (by simp[hk]);exact λ_ _ _ h=>h.elim
def Lp(t:Tok)(l:List Tok)(hE:nB (t::l))(hl:l.length<=200):Hf pg 154 2 [.fn (.func 155) [] [.p 0 0,.p 1 0]] [(0,.hZ 234 [yX (t::l)]),(1,.hZ 23 [.v (.slice none 0 0)])]
  (λg σ n=>(∃q,vi (t::l)=.ok q/\g=.v .nilIface/\σ=[(0,.hZ 234 [yX (t::l)]),(1,.hZ 23 [.sl 3 (q.map mt)])]/\n=2)\/(∃e p,vi (t::l)=.error (e,p)/\g=.ifc 137 (.r [gi e,gi p])/\σ=[]/\n=2)):=by
 refine (NB _ _ _ _ _ _ (Nx t l hE hl) (λx ⟨e,p,_,h⟩=>⟨e,p,h⟩)).jK λg σ' n' hq=>?_;rcases hq with ⟨x,⟨q,h1,_,rfl,rfl⟩,rfl⟩|⟨e,p,⟨e',p',h1,h2⟩,rfl,rfl⟩
 ·exact⟨id,.v .nilIface,_,2,.inl ⟨q,h1,rfl,rfl,rfl⟩,rfl,A0z,by simp[L3,iL,jm,im,iy,iv,iu,jf,je];rfl⟩
 cases h2;exact⟨id,.ifc 137 (.r [gi e,gi p]),[],2,.inr ⟨e,p,h1,rfl,rfl,rfl⟩,rfl,trivial,by simp[iL,iy,iv,iu,jf]⟩
def TQ:Except (Int×Int) (List Mt)->GV
 | .ok q=>.tup [.sl 3 (q.map mt),.v .nilIface]
 | .error (e,p)=>.tup [.v (.slice none 0 0),.ifc 137 (.r [gi e,gi p])]
def Om(s:ByteArray)(hs:s.size<=1000):Rt pg 90 [gs s] (TQ (tE s.data.toList)):=by
 have hsz:s.data.toList.length=s.size:=aA
 have hsp:=Oy s az;refine Rt.of gV func90 rfl ntmps90 rfl results90 call90 λH0 S0 w0 h0 g0=>?_;cases hT:pe s.data.toList (s.size+1) 0 0 with
 |error ep=>
  obtain⟨e,p⟩:=ep;rw[hT]at hsp;have hP:tE s.data.toList=.error (e,p):=by rw[tE,hsz,hT]
  rw[hP];exact GO hsp rfl (p1 A0z)
 |ok l=>
  rw[hT]at hsp;obtain⟨hE,hlen⟩:=Gr s.data.toList az _ _ _ l hT az;obtain⟨t,l,rfl⟩:=hE.cons;simp only[aB]at hlen;have hP:tE s.data.toList=vi (t::l):=by rw[tE,hsz,hT];rfl
  rw[hP];refine GO hsp rfl (p2 (ig (Lp t l hE az) id rfl rfl A0z rfl ay ?_));rintro g σ' n' (⟨q,h1,rfl,rfl,rfl⟩|⟨e,p,h1,rfl,rfl,rfl⟩)
  ·rw[h1];exact p2 A0z
  rw[h1];exact p1 A0z
def TX{o:Int}(h0:0<=o)(h1:o<=3):(List.drop (o.toNat*1) [gs (bS [61]),gs (bS [33,61]),gs (bS [94,61]),gs (bS [33,94])])[0]? =some (gs (opsL.getD o.toNat ⟨#[]⟩)):=by
 match o,h0,h1 with
 |0,_,_=>rfl
 |1,_,_=>rfl
 |2,_,_=>rfl
 |3,_,_=>rfl
def OF{o:Int}(h0:0<=o)(h1:o<=3):(opsL.getD o.toNat ⟨#[]⟩).size<=2:=by
 have ho:∀k:Fin 4,(opsL.getD k.val ⟨#[]⟩).size<=2:=ax
 exact ho ⟨o.toNat,az⟩
def PI{m:Mt}(h:IW m):m.name.size<=24/\m.value.size<=24:=by
 obtain⟨h1,h2,_⟩:=h;rw[lU,aG,decide_eq_true_iff]at h1;rw[ma,aG,decide_eq_true_iff]at h2;exact⟨h1.2.2,h2.2⟩
def IY(b:UInt8):ByteArray.size ⟨#[b]⟩=1:=rfl
def Oi(m:Mt):m.name++opsL.getD m.op.toNat ⟨#[]⟩++⟨#[34]⟩++m.value++⟨#[34]⟩=bS (o9 m):=by
 rw[o9,pz,pz,pz,pz,An,An,An];rfl
theorem G6(l:List Mt)(hl:sd l):Rt pg 110 [.sl 3 (l.map mt)] (gs (jN l)):=by
 refine Rt.of gV func110 rfl ntmps110 rfl results110 call110 fun H0 S0 w0 h0 g0=>?_;have hl1:=hl.2;have hll:(l.map mt).length=l.length:=by simp
 refine JK.kx 3 9 1 rfl ?_;refine JK.iT (α:=Nat) (β:=Unit) (fun i=>⟨[(3,.o 0),(6,.sl 3 (l.map mt)),(7,gi (l.map mt).length),(8,gi i)],[(0,.row 9 1 ((l.take i).map fun x=>[gs (bS (o9 x))]))],1⟩) (fun i=>i≤l.length) (fun i=>l.length-i)
  (fun _=>⟨[(3,.o 0)],[(0,.row 9 1 (l.map fun x=>[gs (bS (o9 x))]))],1⟩) (fun _=>True) 0 id ?_ (aQ _) ?_ ?_
 ·exact⟨⟨rfl,rfl,rfl,rfl,trivial⟩,⟨rfl,trivial⟩,rfl⟩
 ·rintro i hi;refine V ?_;by_cases hlt:i<l.length
  ·have hm:=hl.1 l[i] (aR hlt);have h1:=OF hm.2.2.1 hm.2.2.2;obtain⟨h2,h3⟩:=PI hm;refine p1 ?_;refine ix (h:=?_);refine iU [0] true (tk [0,1,2,3,4,5,6,7,8,9,10,11,12]++al [13,14]++tk [15]) au ?_;refine⟨hm.2.2.1,by have:=hm.2.2.2;omega,?_⟩;refine tL (TX hm.2.2.1 hm.2.2.2) ?_;refine⟨by omega,?_⟩;refine⟨by simp only[x7,IY];omega,?_⟩;refine⟨by simp only[x7,IY];omega,?_⟩;refine⟨by simp only[x7,IY];omega,?_⟩;refine⟨by simp;omega,?_⟩;refine V ?_;refine⟨i+1,fun _=>3,⟨⟨rfl,rfl,rfl,h_ az,trivial⟩,⟨?_,trivial⟩,rfl⟩,hlt,by show l.length- (i+1)<l.length-i;omega⟩;rw[a6 hlt,aP];show some (hY.row _ _ (_++[[gs (l[i].name++opsL.getD l[i].op.toNat ⟨#[]⟩++⟨#[34]⟩++l[i].value++⟨#[34]⟩)]]))=some (hY.row _ _ (_++[[gs (bS (o9 l[i]))]]));rw[Oi]
  ·refine p2 ?_;obtain rfl:i=l.length:=by omega
   exact⟨(),id,⟨⟨rfl,trivial⟩,⟨by rw[aT];rfl,trivial⟩,rfl⟩,trivial⟩
 ·rintro _ _;refine V ?_;have hs:=vg hl;have e1:Lib.join ((l.map fun x=>bS (o9 x)).map (·.data.toList)) [44]=([44]:List UInt8).intercalate (l.map o9):=by
   rw[bR];rfl
  have hj:(([44]:List UInt8).intercalate (l.map o9)).length+2≤500:=by
   rw[Bo]at hs;simp only[aI,aB,aM]at hs;omega
  refine Ma (Su (l.map fun x=>bS (o9 x)) ⟨#[44]⟩ (by rw[show (ByteArray.mk #[44]).data.toList=[44] from rfl,e1];omega) aq) rfl ⟨⟨rfl,by rw[bR];rfl⟩,⟨rfl,rfl⟩,trivial⟩ ?_;rw[show (ByteArray.mk #[44]).data.toList=[44] from rfl,e1];refine⟨by rw[JF,IY];omega,?_⟩;refine⟨by rw[x7,JF,IY,IY];omega,?_⟩;refine⟨?_,rfl⟩;show gs _=gs _;rw[jN,Bo,pz,pz];rfl
def Av(n:Int)(h0:0<=n)(h1:n<1000000000000000000):Rt pg 86 [gi n] (gs (jk n)):=by
 have hz:=(um h0 h1).1;have e:(⟨#[98,108,111,99,107,47]⟩:ByteArray)++bS (Lib.itoa n)=jk n:=by
  unfold jk;rw[pz];rfl
 refine Rt.of gV func86 rfl ntmps86 rfl results86 call86 λH0 S0 w0 h0 g0=>?_;refine GO (T9 n az az) rfl ?_;have hs:(bS (Lib.itoa n)).size<=24:=by
  rw[<-e,aJ]at hz;omega
 exact⟨by show 6+(bS (Lib.itoa n)).size<=_;omega,⟨congrArg (λs=>gs s) e,rfl⟩⟩
theorem wK(a b:Int):Rt pg 71 [gi a,gi b] (gs (iR (.mark a b))):=by
 have e:(⟨([]++lr (uN a)++lr (uN b)).toArray⟩:ByteArray)=jJ a++jJ b:=by
  apply cE;rw[bQ];simp[jJ]
 have hz:(⟨#[3]⟩:ByteArray).size+(jJ a++jJ b).size≤4611686018427387904:=by
  rw[aJ,jw,jw]
  decide
 refine Rt.of gV func71 rfl ntmps71 rfl results71 call71 fun H0 S0 w0 h0 g0=>?_;refine JK.rX 0 0 5 1 rfl rfl (ig (p5 [] a aA) (rr 0 1) rfl rfl ⟨rfl,rfl,trivial⟩ rfl av ?_);rintro _ _ _ ⟨rfl,rfl,rfl⟩;refine ig (p5 ([]++lr (uN a)) b (by simp[lr])) (rr 0 2) rfl rfl ⟨rfl,rfl,trivial⟩ rfl av ?_;rintro _ _ _ ⟨rfl,rfl,rfl⟩;refine iU [0,3] false (tk [2]) au (RA.both 0 3 (iV au) (iY.mem 0 gV rfl rfl rfl ?_) (iY.hf 3 (pE _) (rr 0 3) rfl rfl rfl ⟨rfl,rfl,trivial⟩ rfl av ?_))
 ·refine RA.both 1 3 (iV au) (iY.read 1 gV rfl rfl ?_) (iY.hf 3 (pE _) (rr 0 3) rfl rfl rfl ⟨rfl,rfl,trivial⟩ rfl av ?_)
  ·refine⟨[3],rfl,(ka 3 true (tk [4,5]) (pE _) (rr 0 3) rfl rfl rfl ⟨rfl,rfl,trivial⟩ rfl av au ?_)⟩;rintro _ _ _ ⟨rfl,rfl,rfl⟩;rw[e];exact⟨hz,(V ⟨rfl,rfl⟩)⟩
  ·rintro _ _ _ ⟨rfl,rfl,rfl⟩;refine RA.run (e:=true) gV au (fun _ _ h=>h) (al [1]++tk [4,5]) au ?_;rw[e];exact⟨[3],rfl,hz,(V ⟨rfl,rfl⟩)⟩
 ·rintro _ _ _ ⟨rfl,rfl,rfl⟩;refine RA.run (e:=true) gV au (fun _ _ h=>h) (al [0,1]++tk [4,5]) au ?_;rw[e];exact⟨[3],rfl,hz,(V ⟨rfl,rfl⟩)⟩
theorem A6(x:Int×Gn)(hm:sd x.2.mt)(hp:(jN x.2.mt).size≤1000000):Rt pg 42 [.agg (gr x)] (gs (iR (.went x.1 x.2))):=by
 have e:(⟨([]++lr (uN x.1)++lr (uN x.2.lo)++lr (uN x.2.hi)++(kX (jN x.2.mt)).data.toList).toArray⟩:ByteArray)=jJ x.1++jJ x.2.lo++jJ x.2.hi++kX (jN x.2.mt):=by
  apply cE;rw[bQ,bQ,bQ];simp[jJ]
 have hz:(⟨#[2]⟩:ByteArray).size+(jJ x.1++jJ x.2.lo++jJ x.2.hi++kX (jN x.2.mt)).size≤4611686018427387904:=by
  rw[aJ,aJ,aJ,jw,jw,jw];unfold kX;rw[aJ,jw];show 1+_≤_;omega
 refine Rt.of gV func42 rfl ntmps42 rfl results42 call42 fun H0 S0 w0 h0 g0=>?_;refine JK.rX 1 0 5 1 rfl rfl (ig (p5 [] x.1 aA) (rr 1 2) rfl rfl ⟨rfl,rfl,trivial⟩ rfl av ?_);rintro _ _ _ ⟨rfl,rfl,rfl⟩;refine ig (p5 ([]++lr (uN x.1)) x.2.lo (by simp[lr])) (rr 1 3) rfl rfl ⟨rfl,rfl,trivial⟩ rfl av ?_;rintro _ _ _ ⟨rfl,rfl,rfl⟩;refine ig (p5 ([]++lr (uN x.1)++lr (uN x.2.lo)) x.2.hi (by simp[lr])) (rr 1 4) rfl rfl ⟨rfl,rfl,trivial⟩ rfl av ?_;rintro _ _ _ ⟨rfl,rfl,rfl⟩;refine GO (G6 x.2.mt hm) rfl (ig (yx ([]++lr (uN x.1)++lr (uN x.2.lo)++lr (uN x.2.hi)) (jN x.2.mt) (by simp[lr];omega)) (rr 1 5) rfl rfl ⟨rfl,rfl,trivial⟩ rfl av ?_);rintro _ _ _ ⟨rfl,rfl,rfl⟩;refine iU [1,6] false (tk [2]) au (RA.both 0 3 (iV au) (iY.mem 0 gV rfl rfl rfl ?_) (iY.hf 3 (pE _) (rr 1 6) rfl rfl rfl ⟨rfl,rfl,trivial⟩ rfl av ?_))
 ·refine RA.both 1 3 (iV au) (iY.read 1 gV rfl rfl ?_) (iY.hf 3 (pE _) (rr 1 6) rfl rfl rfl ⟨rfl,rfl,trivial⟩ rfl av ?_)
  ·refine⟨[2],rfl,(ka 3 true (tk [4,5]) (pE _) (rr 1 6) rfl rfl rfl ⟨rfl,rfl,trivial⟩ rfl av au ?_)⟩;rintro _ _ _ ⟨rfl,rfl,rfl⟩;rw[e];exact⟨hz,(V ⟨rfl,rfl⟩)⟩
  ·rintro _ _ _ ⟨rfl,rfl,rfl⟩;refine RA.run (e:=true) gV au (fun _ _ h=>h) (al [1]++tk [4,5]) au ?_;rw[e];exact⟨[2],rfl,hz,(V ⟨rfl,rfl⟩)⟩
 ·rintro _ _ _ ⟨rfl,rfl,rfl⟩;refine RA.run (e:=true) gV au (fun _ _ h=>h) (al [0,1]++tk [4,5]) au ?_;rw[e];exact⟨[2],rfl,hz,(V ⟨rfl,rfl⟩)⟩
theorem AX(l:List gY)(hb:rB l=none)(hl:(lT l).size≤10000000)(hlab:∀x∈l,Sh x.labels):Rt pg 70 [jn l] (gs (iR (.came l))):=by
 refine Rt.of gV func70 rfl ntmps70 rfl results70 call70 fun H0 S0 w0 h0 g0=>?_;refine ig (Gc hb hl hlab) id rfl rfl trivial rfl ay ?_;rintro _ _ _ ⟨rfl,rfl,rfl⟩;exact⟨[1],rfl,by show 1+(lT l).size≤4611686018427387904;omega,⟨rfl,rfl⟩⟩
def zb{a:Option Int×Dk}{k:Dk->Option Int×Dk}{d':Dk}(h:tC a k=(none,d')):∃d1,a=(none,d1)/\k d1=(none,d'):=by
 obtain⟨e,d1⟩:=a;cases e with
 |none=>exact⟨d1,rfl,h⟩
 |some x=>cases (fU h).1
def EC(s:iz)(d:Dk)(fp:List Nat)(B:Nat)(hok:d.ok B)(n:Int)(b:Bl)(h0:0<=n)(h1:n<1000000000000000000)(hlab:∀x∈b.L,tN x)(hl:(lT b.L).size<=1000000)(hR:lZ b.to_ b.iN b.L=true)(hB:B+(mw b.to_ b.iN b.L).size<=4611686018427387904){d':Dk}(hw:yq kO (jk n) (mw b.to_ b.iN b.L) d=(none,d')):
  Hf pg 96 7 [.p 0 0,gi n,F1 b.to_ b.iN b.L] [sB s 3 5,(1,.ab (dk d fp))] (λG σ m=>G=.v .nilIface/\(∃fp,σ=[sB s 3 5,(1,.ab (dk d' fp))])/\m=7):=by
 obtain⟨d1,hc,hw⟩:=zb hw;obtain⟨d2,ha,hw⟩:=zb hw;obtain⟨d3,hs,hm⟩:=zb hw;have ok1:d1.ok B:=by
  unfold GW at hc;split at hc
  ·have:=yy hok kO;rw[hc]at this;exact this
  cases hc;exact hok
 have ok2:d2.ok (B+(mw b.to_ b.iN b.L).size):=by
  have:=qJ ok1 kO (mw b.to_ b.iN b.L);rw[ha]at this;exact this
 have ok3:d3.ok (B+(mw b.to_ b.iN b.L).size):=by
  have:=vu ok2 kO;rw[hs]at this;exact this
 have hap:∀fp,Hf pg 105 1 [.p 0 0,gs kO,gs (mw b.to_ b.iN b.L)] [(0,.ab (dk d1 fp))] (mH (qi none) d2):=λfp=>by
  have:=vY d1 fp B ok1 kO (mw b.to_ b.iN b.L) hB;rw[ha]at this;exact this
 have hsy:∀fp,Hf pg 107 1 [.p 0 0,gs kO] [(0,.ab (dk d2 fp))] (mH (qi none) d3):=λfp=>by
  have:=Ah d2 fp _ ok2 kO;rw[hs]at this;exact this
 have hmv:∀fp,Hf pg 143 1 [.p 0 0,gs kO,gs (jk n)] [(0,.ab (dk d3 fp))] (mH (qi none) d'):=λfp=>by
  have:=DN d3 fp _ ok3 kO (jk n);rw[hm]at this;exact this
 refine Hf.jK (Q:=λg σ _=>g=.v .nilIface/\gW σ 0=some (sB s 3 5).2/\∃fp,gW σ 1=some (.ab (dk d' fp))) (Hf.of gV func96 rfl ntmps96 rfl results96 call96 λH0 S0 w0 hn0 g0=>(GO (Lc b.to_ b.iN b.L hlab hl hR) rfl ?_)) (λG σ m ⟨hG,e0,fp,e1⟩=>⟨id,.v .nilIface,[sB s 3 5,(1,.ab (dk d' fp))],7,⟨rfl,⟨fp,rfl⟩,rfl⟩,by rw[hG];rfl,⟨e0,e1,trivial⟩,rfl⟩)
 repeat (first|refine p1 ?_|refine p2 ?_|refine p3 ?_|refine p4 ?_)
 refine ig (xe d fp B hok kO) (λ_=>1) rfl rfl ⟨rfl,trivial⟩ rfl aA ?_;rintro _ _ _ ⟨rfl,⟨fp1,rfl⟩,rfl⟩;unfold GW at hc;cases hf:jg kO d with
 |none=>
  rw[hf]at hc;obtain rfl:d=d1:=(fU hc).2;refine p2 (ig (hap _) (λ_=>1) rfl rfl ⟨rfl,trivial⟩ rfl aA ?_);rintro _ _ _ ⟨rfl,⟨fp2,rfl⟩,rfl⟩
  repeat (first|refine p1 ?_|refine p2 ?_|refine p3 ?_|refine p4 ?_)
  refine ig (hsy _) (λ_=>1) rfl rfl ⟨rfl,trivial⟩ rfl aA ?_;rintro _ _ _ ⟨rfl,⟨fp3,rfl⟩,rfl⟩
  repeat (first|refine p1 ?_|refine p2 ?_|refine p3 ?_|refine p4 ?_)
  refine iU [1] false (tk [0,1,2,3,4]) au (kE 5 false (tk []) (Av n h0 h1) rfl rfl au (ka 6 true (tk [7]) (hmv _) (λ_=>1) rfl rfl rfl ⟨rfl,trivial⟩ rfl aA au ?_));rintro _ _ _ ⟨rfl,⟨fp4,rfl⟩,rfl⟩;exact V ⟨rfl,rfl,fp4,rfl⟩
 |some x=>
  rw[hf]at hc;replace hc:lQ kO d=(none,d1):=hc;have hrm:∀fp,Hf pg 85 1 [.p 0 0,gs kO] [(0,.ab (dk d fp))] (mH (qi none) d1):=λfp=>by
   have:=vM d fp B hok kO;rw[hc]at this;exact this
  refine p1 (ig (hrm _) (λ_=>1) rfl rfl ⟨rfl,trivial⟩ rfl aA ?_);rintro _ _ _ ⟨rfl,⟨fp5,rfl⟩,rfl⟩
  repeat (first|refine p1 ?_|refine p2 ?_|refine p3 ?_|refine p4 ?_)
  refine ig (hap _) (λ_=>1) rfl rfl ⟨rfl,trivial⟩ rfl aA ?_;rintro _ _ _ ⟨rfl,⟨fp2,rfl⟩,rfl⟩
  repeat (first|refine p1 ?_|refine p2 ?_|refine p3 ?_|refine p4 ?_)
  refine ig (hsy _) (λ_=>1) rfl rfl ⟨rfl,trivial⟩ rfl aA ?_;rintro _ _ _ ⟨rfl,⟨fp3,rfl⟩,rfl⟩
  repeat (first|refine p1 ?_|refine p2 ?_|refine p3 ?_|refine p4 ?_)
  refine iU [1] false (tk [0,1,2,3,4]) au (kE 5 false (tk []) (Av n h0 h1) rfl rfl au (ka 6 true (tk [7]) (hmv _) (λ_=>1) rfl rfl rfl ⟨rfl,trivial⟩ rfl aA au ?_));rintro _ _ _ ⟨rfl,⟨fp4,rfl⟩,rfl⟩;exact V ⟨rfl,rfl,fp4,rfl⟩
abbrev vx(l:List Nt):List (List GV):=(l.map iR).map λx=>[gs x]
abbrev nG(s:iz)(i:Nat):List Nt:=.mark s.mark s.nx::(s.G.take i).map λx=>.went x.1 x.2
abbrev nS(s:iz)(i:Nat):List Nt:=nG s s.G.length++(s.S.take i).map λx=>.came [x]
def Ta(s:iz):nS s s.S.length=kK s.mem:=by
 show (.mark s.mark s.nx::(s.G.take s.G.length).map λx=>Nt.went x.1 x.2)++_=_;rw[aT,aT];rfl
def RC(s:iz){i:Nat}(h:i<s.G.length):vx (nG s i)++[[gs (iR (.went s.G[i].1 s.G[i].2))]]=vx (nG s (i+1)):=by
 unfold nG;rw[bx,aC h];simp only[cU,aP,bb,cN,b_,aS,vx]
def QH(s:iz){i:Nat}(h:i<s.S.length):vx (nS s i)++[[gs (iR (.came [s.S[i]]))]]=vx (nS s (i+1)):=by
 unfold nS;rw[bx,aC h];simp only[cU,aP,bb,cN,b_,aS,vx]
theorem Hd(s:iz)(hg:s.G.length≤1000)(hS:s.S.length≤1000)(hgk:∀x∈s.G,sd x.2.mt∧(jN x.2.mt).size≤1000000)(hs:∀x∈s.S,x.samples.length≤1000000∧x.labels.length≤1000000)(hsk:∀x∈s.S,rB [x]=none∧(lT [x]).size≤10000000∧Sh x.labels):
  Hf pg 98 7 [.p 0 0] [sB s 3 5,nC s 3 6,sG s 5,sR s 6] (fun G σ n=>G=.sl 1 (vx (kK s.mem))∧σ=[sB s 3 5,nC s 3 6,sG s 5,sR s 6]∧n=7):=by
 refine Hf.jK (Q:=fun G σ _=>G=.sl 1 (vx (kK s.mem))∧gW σ 0=some (sB s 3 5).2∧gW σ 3=some (nC s 3 6).2∧gW σ 5=some (sG s 5).2∧gW σ 6=some (sR s 6).2) ?_ (fun G σ n ⟨hG,h0,h3,h5,h6⟩=>⟨id,.sl 1 (vx (kK s.mem)),[sB s 3 5,nC s 3 6,sG s 5,sR s 6],7,⟨rfl,rfl,rfl⟩,by rw[hG];rfl,⟨h0,h3,h5,h6,trivial⟩,rfl⟩);refine Hf.of gV func98 rfl ntmps98 rfl results98 call98 fun H0 S0 w0 h0 g0=>?_;refine iU [3,6] false (tk [0,1,2,3,5,6,7,8]) au ?_;refine ka 4 false (tk []) (oW s.mark s.S) (rr 3 6) rfl rfl rfl ⟨rfl,rfl,trivial⟩ rfl av au ?_;rintro _ _ _ ⟨rfl,rfl,rfl⟩;refine kE 9 true (al [10]++tk [11]) (wK s.mark s.nx) rfl rfl au ?_;refine V ?_;refine JK.iT (α:=Nat) (β:=Unit) (fun i=>⟨[(0,.p 0 0),(3,.o 7),(22,.o 5),(23,gi (s.G.map gr).length),(24,gi i)],[sB s 3 5,nC s 3 6,sG s 5,sR s 6,(7,.row 9 1 (vx (nG s i)))],8⟩) (fun i=>i≤s.G.length) (fun i=>s.G.length-i)
  (fun _=>⟨[(0,.p 0 0),(3,.o 7)],[sB s 3 5,nC s 3 6,sG s 5,sR s 6,(7,.row 9 1 (vx (nG s s.G.length)))],8⟩) (fun _=>True) 0 id ?_ (aQ _) ?_ ?_
 ·exact⟨⟨rfl,rfl,rfl,rfl,rfl,trivial⟩,⟨rfl,rfl,rfl,rfl,rfl,trivial⟩,rfl⟩
 ·rintro i hi;replace hi:i≤s.G.length:=hi;refine V ?_;have hll:(s.G.map gr).length=s.G.length:=by simp
  by_cases hlt:i<s.G.length
  ·obtain⟨hm,hp⟩:=hgk s.G[i] (aR hlt);refine p1 ?_ aj;refine⟨by omega,by omega,?_⟩;refine⟨gr s.G[i],by simp[hlt],?_⟩;refine GO (A6 s.G[i] hm hp) rfl ?_;refine⟨by simp only[aD,aB,aM,aY];omega,?_⟩;refine⟨i+1,r1 7 10,⟨⟨rfl,rfl,rfl,rfl,h_ az,trivial⟩,⟨rfl,rfl,rfl,rfl,?_,trivial⟩,rfl⟩,hlt,by show s.G.length- (i+1)<s.G.length-i;omega⟩;exact congrArg (fun x=>some (hY.row 9 1 x)) (RC s hlt)
  ·refine p2 ?_ ai;obtain rfl:i=s.G.length:=by omega
   exact⟨(),id,⟨⟨rfl,rfl,trivial⟩,⟨rfl,rfl,rfl,rfl,rfl,trivial⟩,rfl⟩,trivial⟩
 ·rintro _ _;refine V ?_;refine ig (uB s.mark s.S az hs) (rr 3 6) rfl rfl ⟨rfl,rfl,trivial⟩ rfl av ?_;rintro _ _ _ ⟨rfl,rfl,rfl⟩;refine JK.iT (α:=Nat) (β:=Unit) (fun i=>⟨[(3,.o 7),(38,jn s.S),(39,gi (s.S.map se).length),(40,gi i)],[sB s 3 5,nC s 3 6,sG s 5,sR s 6,(7,.row 9 1 (vx (nS s i)))],8⟩) (fun i=>i≤s.S.length) (fun i=>s.S.length-i)
   (fun _=>⟨[(3,.o 7)],[sB s 3 5,nC s 3 6,sG s 5,sR s 6,(7,.row 9 1 (vx (nS s s.S.length)))],8⟩) (fun _=>True) 0 id ?_ (aQ _) ?_ ?_
  ·refine⟨⟨rfl,rfl,rfl,rfl,trivial⟩,⟨rfl,rfl,rfl,rfl,?_,trivial⟩,rfl⟩;exact congrArg (fun x=>some (hY.row 9 1 x)) aA
  ·rintro i hi;replace hi:i≤s.S.length:=hi;refine V ?_;have hll:(s.S.map se).length=s.S.length:=by simp
   by_cases hlt:i<s.S.length
   ·obtain⟨hb,hw,hsh⟩:=hsk s.S[i] (aR hlt);refine p1 ?_ aj;refine ix (h:=?_);refine Ma (AX [s.S[i]] hb hw (fun x hx=>by rw[aH.1 hx];exact hsh)) rfl ⟨⟨rfl,rfl⟩,trivial⟩ ?_;refine⟨by simp only[aD,aB,aM,aY,aI];omega,?_⟩;refine⟨i+1,r1 7 11,⟨⟨rfl,rfl,rfl,h_ az,trivial⟩,⟨rfl,rfl,rfl,rfl,?_,trivial⟩,rfl⟩,hlt,by show s.S.length- (i+1)<s.S.length-i;omega⟩;exact congrArg (fun x=>some (hY.row 9 1 x)) (QH s hlt)
   ·refine p2 ?_ ai;obtain rfl:i=s.S.length:=by omega
    exact⟨(),id,⟨⟨rfl,trivial⟩,⟨rfl,rfl,rfl,rfl,rfl,trivial⟩,rfl⟩,trivial⟩
  ·rintro _ _;rw[Ta];refine ot 7 rfl ?_;exact⟨rfl,rfl,rfl,rfl,rfl⟩
end Go.Proofs.YtadildidlcbbkaaGreatDoor
namespace Go.Proofs.YtadildidlcbbkaaGreatDoor
open Go.GK Go.PL Go.RowKit
open Go.Sort (swp ltInt insInner insOuter insertionSort)
open IntKind Go.Proofs.Tryz
set_option maxRecDepth 100000
def NP(x:Int):Rt pg 290 [gi x] (.v (.bool false)):=by
 refine Rt.of gV func290 rfl ntmps290 rfl results290 call290 λH0 S0 w0 h0 g0=>?_;exact⟨by simp;rfl,rfl⟩
def nL(x y:Int):Rt pg 242 [gi x,gi y] (.b (ltInt x y)):=by
 refine Rt.of gV func242 rfl ntmps242 rfl results242 call242 λH0 S0 w0 h0 g0=>?_;exact GO (NP x) rfl ⟨rfl,rfl⟩
abbrev n5(d:Array Int):List (List GV):=d.toList.map λz=>[gi z]
abbrev R6(d:Array Int):hY:=.row 2 1 (n5 d)
def ld{d:Array Int}{i:Nat}(hk:i<d.size):(n5 d)[((i:Nat):Int).toNat]? =some [gi d[i]!]:=by rw[bj];exact Nl d hk λz=>[gi z]
def ll{d:Array Int}{i:Int}(h:i<d.size):i<((n5 d).length:Nat):=by simpa using h
def CS{d:Array Int}{i j:Nat}{x:List GV}(hj:j<d.size)(h:i≠j):((n5 d).set ((i:Nat):Int).toNat x)[((j:Nat):Int).toNat]? =some [gi d[j]!]:=by
 rw[bj,bj,eM h];exact Nl d hj λz=>[gi z]
def p_(d:Array Int)(i j:Nat):((n5 d).set ((i:Nat):Int).toNat [gi d[j]!]).set ((j:Nat):Int).toNat [gi d[i]!]=n5 (swp d i j):=by
 rw[bj,bj];exact Sv d i j λz=>[gi z]
def ls{d:Array Int}{i:Int}{k:Nat}{x:List GV}(h:i<d.size):i<(((n5 d).set k x).length:Nat):=by simpa using h
def sr(a b:Nat)(h:b<=a)(h':a<4611686018427387904):i64.wrap ((a:Int) - (b:Int))=((a-b:Nat):Int):=by rw[ic az az];omega
def S6(d:Array Int):GV->Heap->Nat->Prop:=λG σ n=>G=.tup []/\σ=[(0,R6 d)]/\n=1
def OU{f:FuncId}{args:List GV}{σ0:Heap}{d:Array Int}(h:Hf pg f 1 args σ0 λG σ _=>G=.tup []/\gW σ 0=some (R6 d)):Hf pg f 1 args σ0 (S6 d):=
 Hf.jK h λG σ n ⟨hG,h0⟩=>⟨id,.tup [],[(0,R6 d)],1,A0z,by rw[hG];rfl,⟨h0,trivial⟩,rfl⟩
def za{d d':Array Int}(h:d=d'):some (R6 d)=some (R6 d'):=by rw[h]
theorem RV(d:Array Int)(a b:Nat)(hb:b≤d.size)(hlen:d.size<1099511627776)(hab:a≤b):
  Hf pg 236 1 [.o 0,gi a,gi b] [(0,R6 d)] (S6 (insertionSort ltInt d a b)):=by
 refine OU (Hf.of gV func236 rfl ntmps236 rfl results236 call236 fun H0 S0 w0 h0 g0=>?_);refine JK.loop (α:=Array Int×Nat) (fun z=>⟨[(0,.o 0),(1,gi a),(2,gi b),(6,gi (z.2:Nat))],[(0,R6 z.1)],1⟩) (fun z=>insOuter ltInt a b z.2 z.1=insertionSort ltInt d a b∧z.1.size=d.size∧a<z.2∧z.2≤b+1) (fun z=>b+1-z.2) (d,a+1) id ?_ ⟨rfl,rfl,by omega,by omega⟩ ?_
 ·exact⟨⟨rfl,rfl,rfl,h_ az,trivial⟩,⟨rfl,trivial⟩,rfl⟩
 ·rintro⟨d1,i⟩ ⟨h1,h2,h3,h4⟩;simp only at h1 h2 h3 h4;refine V ?_;by_cases hi:i<b
  ·refine p1 ?_ aj;refine JK.iT (α:=Array Int×Nat) (β:=Array Int) (fun z=>⟨[(0,.o 0),(1,gi a),(2,gi b),(6,gi (i:Nat)),(7,gi (z.2:Nat))],[(0,R6 z.1)],1⟩) (fun z=>insInner ltInt a z.2 z.1=insInner ltInt a i d1∧z.1.size=d.size∧z.2≤i) (fun z=>z.2)
    (fun z=>⟨[(0,.o 0),(1,gi a),(2,gi b),(6,gi (i:Nat))],[(0,R6 z)],1⟩) (fun z=>z=insInner ltInt a i d1∧z.size=d.size) (d1,i) id ?_ ⟨rfl,h2,aL _⟩ ?_ ?_
   ·exact⟨⟨rfl,rfl,rfl,rfl,rfl,trivial⟩,⟨rfl,trivial⟩,rfl⟩
   ·rintro⟨d2,j⟩ ⟨k1,k2,k3⟩;simp only at k1 k2 k3;refine V ?_;refine iU [] false (tk [0,1,2,3,4,5,6,7,8,9,10,11,12]) au ?_;by_cases hj:a<j
    ·refine p1 ?_ aj;have e1:i64.wrap ((j:Int) -1)=((j-1:Nat):Int):=sr j 1 az az;refine⟨aN j,ll an,_,ld an,?_⟩;refine⟨by rw[e1];omega,ll (by rw[e1];simp only;omega),_,by rw[e1];exact ld an,?_⟩;refine kE 13 true (tk [14]) (nL d2[j]! d2[j-1]!) rfl (congrArg (fun c=>bif (c==true) then some (242,[gi d2[j]!,gi d2[j-1]!]) else none) (decide_eq_true (show (j:Int) > (a:Int) by omega))) au ?_;refine V ?_;obtain⟨m,hm⟩:∃m,j=m+1:=⟨j-1,by omega⟩;refine⟨fun hlt=>?_,fun hlt=>?_⟩
     ·refine V ?_;refine iU [0] false (tk [0,1,2,3,4,5,6,7,8,10,11,12]) au ?_;refine⟨by rw[e1];omega,ll (by rw[e1];simp only;omega),?_⟩;refine⟨aN j,ll an,?_⟩;refine RA.both 9 13 (iV au) (iY.read 9 gV rfl rfl ⟨_,by rw[e1];exact ld an,?_⟩) (iY.read 13 gV rfl rfl ⟨_,ld an,?_⟩)
      ·refine RA.run (e:=true) gV au (fun _ _ h=>h) (al [13]++tk [14]++al [15]++tk [16]++al [17]) au ?_;refine⟨_,ld an,?_⟩;refine⟨aN j,ll an,_,ld an,?_⟩;refine⟨by rw[e1];omega,by rw[e1];simp only[aD,bu];omega,_,by rw[e1];exact CS an an,?_⟩;refine V ?_;refine⟨(swp d2 j (j-1),j-1),id,⟨⟨rfl,rfl,rfl,rfl,congrArg (fun i=>some (gi i)) e1,trivial⟩,⟨?_,trivial⟩,rfl⟩,⟨?_,by simp only[Go.Sort.size_swp];exact k2,by simp only;omega⟩,by simp only;omega⟩
       ·show some (hY.row 2 1 (((n5 d2).set ((j:Nat):Int).toNat [gi d2[j-1]!]).set (i64.wrap ((j:Int) -1)).toNat [gi d2[j]!]))=some (R6 (swp d2 j (j-1)));rw[e1,p_]
       ·subst hm;show insInner ltInt a (m+1-1) (swp d2 (m+1) (m+1-1))=_;rw[cP]at hlt⊢;rw[←k1,insInner,if_pos (by simp[hlt];omega)]
      ·refine RA.run (e:=true) gV au (fun _ _ h=>h) (al [9]++tk [14]++al [15]++tk [16]++al [17]) au ?_;refine⟨_,by rw[e1];exact ld an,?_⟩;refine⟨aN j,ll an,_,ld an,?_⟩;refine⟨by rw[e1];omega,by rw[e1];simp only[aD,bu];omega,_,by rw[e1];exact CS an an,?_⟩;refine V ?_;refine⟨(swp d2 j (j-1),j-1),id,⟨⟨rfl,rfl,rfl,rfl,congrArg (fun i=>some (gi i)) e1,trivial⟩,⟨?_,trivial⟩,rfl⟩,⟨?_,by simp only[Go.Sort.size_swp];exact k2,by simp only;omega⟩,by simp only;omega⟩
       ·show some (hY.row 2 1 (((n5 d2).set ((j:Nat):Int).toNat [gi d2[j-1]!]).set (i64.wrap ((j:Int) -1)).toNat [gi d2[j]!]))=some (R6 (swp d2 j (j-1)));rw[e1,p_]
       ·subst hm;show insInner ltInt a (m+1-1) (swp d2 (m+1) (m+1-1))=_;rw[cP]at hlt⊢;rw[←k1,insInner,if_pos (by simp[hlt];omega)]
     ·refine⟨d2,id,⟨⟨rfl,rfl,rfl,rfl,trivial⟩,⟨rfl,trivial⟩,rfl⟩,⟨?_,k2⟩⟩;rw[←k1,hm,insInner,if_neg];subst hm;simp only[cP]at hlt;simp[hlt]
    ·refine p2 ?_ ai;refine pN 13 true (tk [14]) rfl (congrArg (fun c=>c== !true) ai) au ?_;refine V ?_;refine⟨d2,id,⟨⟨rfl,rfl,rfl,rfl,trivial⟩,⟨rfl,trivial⟩,rfl⟩,⟨?_,k2⟩⟩;rw[←k1];cases j with
     |zero=>rfl
     |succ m=>rw[insInner,if_neg aq]
   ·rintro d3 ⟨k1,k2⟩;refine V ?_;refine⟨(d3,i+1),id,⟨⟨rfl,rfl,rfl,h_ az,trivial⟩,⟨rfl,trivial⟩,rfl⟩,⟨?_,k2,by simp only;omega,by simp only;omega⟩,by simp only;omega⟩;rw[insOuter,if_pos hi]at h1;rw[k1];exact h1
  ·refine p2 ?_ (decide_eq_false an);refine V ?_;rw[insOuter,if_neg hi]at h1;exact⟨rfl,za h1⟩
end Go.Proofs.YtadildidlcbbkaaGreatDoor
namespace Go.Proofs.YtadildidlcbbkaaGreatDoor
open Go.GK Go.PL Go.RowKit
open Go.Sort (swp ltInt siftDown)
open IntKind Go.Proofs.Tryz
set_option maxRecDepth 100000
def na(a b:Nat)(h:a+b<4611686018427387904):i64.wrap ((a:Int)+(b:Int))=((a+b:Nat):Int):=by rw[ic az az];omega
def n1(a:Nat)(h:a<4611686018427387904):i64.wrap ((a:Int)+1)=((a+1:Nat):Int):=by rw[ic az az];omega
def n2(a:Nat)(h:a<1099511627776):i64.wrap (2*(a:Int))=((2*a:Nat):Int):=by rw[ic az az];omega
theorem BH(d:Array Int)(hi first root:Nat)(hlen:d.size<1099511627776)(hs:first+hi≤d.size)(hr:root<1099511627776):
  Hf pg 285 1 [.o 0,gi root,gi hi,gi first] [(0,R6 d)] (S6 (siftDown ltInt hi first root d)):=by
 refine OU (Hf.of gV func285 rfl ntmps285 rfl results285 call285 fun H0 S0 w0 h0 g0=>?_);refine JK.loop (α:=Array Int×Nat) (fun z=>⟨[(0,.o 0),(2,gi hi),(3,gi first),(8,gi (z.2:Nat))],[(0,R6 z.1)],1⟩) (fun z=>siftDown ltInt hi first z.2 z.1=siftDown ltInt hi first root d∧z.1.size=d.size∧z.2<1099511627776) (fun z=>hi-z.2) (d,root) id ?_ ⟨rfl,rfl,hr⟩ ?_
 ·exact⟨⟨rfl,rfl,rfl,rfl,trivial⟩,⟨rfl,trivial⟩,rfl⟩
 ·rintro⟨d1,r⟩ ⟨h1,h2,h3⟩;simp only at h1 h2 h3;have e9:i64.wrap (i64.wrap (2*(r:Int))+1)=((2*r+1:Nat):Int):=by rw[n2 r h3,n1 _ az]
  have e10:i64.wrap (((2*r+1:Nat):Int)+1)=((2*r+2:Nat):Int):=n1 _ az;have er:i64.wrap ((first:Int)+(r:Int))=((first+r:Nat):Int):=na _ _ az;have ef1:i64.wrap ((first:Int)+((2*r+1:Nat):Int))=((first+(2*r+1):Nat):Int):=na _ _ az;have ef2:i64.wrap (i64.wrap ((first:Int)+((2*r+1:Nat):Int))+1)=((first+(2*r+1)+1:Nat):Int):=by rw[ef1,n1 _ az]
  refine V ?_;by_cases hc:hi≤2*r+1
  ·refine p1 ?_ (by rw[e9];exact decide_eq_true az);refine V ?_;rw[siftDown,dif_pos hc]at h1;exact⟨rfl,za h1⟩
  ·refine p2 ?_ (by rw[e9];exact decide_eq_false az);rw[e9];refine iU [] false (tk [0,1,2,3,4,5,6,7,8,9,10,11,12,13,14,15,16,17]) au ?_;by_cases hcc:2*r+2<hi
   ·refine p1 ?_ (by rw[e10];exact decide_eq_true az);refine⟨by rw[ef1];omega,by rw[ef1];exact ll an,_,by rw[ef1];exact ld an,?_⟩;refine⟨by rw[ef2];omega,by rw[ef2];exact ll an,_,by rw[ef2];exact ld an,?_⟩;refine kE 18 true (tk [19]) (nL d1[first+(2*r+1)]! d1[first+(2*r+1)+1]!) rfl (congrArg (fun c=>bif (c==true) then some (242,[gi d1[first+(2*r+1)]!,gi d1[first+(2*r+1)+1]!]) else none) (show decide (i64.wrap (((2*r+1:Nat):Int)+1)<(hi:Int))=true by rw[e10];exact decide_eq_true az)) au ?_;refine V ?_;refine⟨fun hlt=>?_,fun hlt=>?_⟩
    ·have hif:(decide (2*r+1+1<hi)&&ltInt d1[first+(2*r+1)]! d1[first+(2*r+1)+1]!)=true:=by rw[hlt];simp;omega
     refine V ?_;rw[e10];refine iU [] false (tk [0,1,2,3,4,5,6,7,8,9,10,11]) au ?_;have ec:i64.wrap ((first:Int)+((2*r+2:Nat):Int))=((first+(2*r+2):Nat):Int):=na _ _ az;refine⟨by rw[er];omega,by rw[er];exact ll an,_,by rw[er];exact ld an,?_⟩;refine⟨by rw[ec];omega,by rw[ec];exact ll an,_,by rw[ec];exact ld an,?_⟩;refine kE 12 true (tk [13]) (nL d1[first+r]! d1[first+(2*r+2)]!) rfl rfl au ?_;refine V ?_;refine⟨fun hl=>?_,fun hl=>?_⟩
     ·rw[siftDown,dif_neg hc,if_pos hif,if_pos hl]at h1;exact⟨rfl,za h1⟩
     ·have hl':(!ltInt d1[first+r]! d1[first+(2*r+2)]!)=false:=hl;refine V ?_;refine iU [0] false (tk [0,1,2,3,4,5,6,7,8,9,10,11,12,14,15,16,17,18]) au ?_;refine⟨by rw[ec];omega,by rw[ec];exact ll an,?_⟩;refine⟨by rw[er];omega,by rw[er];exact ll an,?_⟩;refine RA.both 13 19 (iV au) (iY.read 13 gV rfl rfl ⟨_,by rw[ec];exact ld an,?_⟩) (iY.read 19 gV rfl rfl ⟨_,by rw[er];exact ld an,?_⟩)
      ·refine RA.run (e:=true) gV au (fun _ _ h=>h) (al [19]++tk [20]++al [21]++tk [22]++al [23]) au ?_;refine⟨_,by rw[er];exact ld an,?_⟩;refine⟨by rw[er];omega,by rw[er];exact ll an,_,by rw[er];exact ld an,?_⟩;refine⟨by rw[ec];omega,by rw[ec];simp only[aD,bu];omega,_,by rw[er,ec];exact CS an az,?_⟩;refine V ?_;refine⟨(swp d1 (first+r) (first+(2*r+2)),2*r+2),id,⟨⟨rfl,rfl,rfl,rfl,trivial⟩,⟨?_,trivial⟩,rfl⟩,⟨?_,by simp only[Go.Sort.size_swp];exact h2,by simp only;omega⟩,by simp only;omega⟩
       ·show some (hY.row 2 1 (((n5 d1).set (i64.wrap ((first:Int)+(r:Int))).toNat [gi d1[first+(2*r+2)]!]).set (i64.wrap ((first:Int)+((2*r+2:Nat):Int))).toNat [gi d1[first+r]!]))=some (R6 (swp d1 (first+r) (first+(2*r+2))));rw[er,ec,p_]
       ·rw[siftDown,dif_neg hc,if_pos hif,if_neg (by rw[hl'];exact bM),dif_pos hcc]at h1;exact h1
      ·refine RA.run (e:=true) gV au (fun _ _ h=>h) (al [13]++tk [20]++al [21]++tk [22]++al [23]) au ?_;refine⟨_,by rw[ec];exact ld an,?_⟩;refine⟨by rw[er];omega,by rw[er];exact ll an,_,by rw[er];exact ld an,?_⟩;refine⟨by rw[ec];omega,by rw[ec];simp only[aD,bu];omega,_,by rw[er,ec];exact CS an az,?_⟩;refine V ?_;refine⟨(swp d1 (first+r) (first+(2*r+2)),2*r+2),id,⟨⟨rfl,rfl,rfl,rfl,trivial⟩,⟨?_,trivial⟩,rfl⟩,⟨?_,by simp only[Go.Sort.size_swp];exact h2,by simp only;omega⟩,by simp only;omega⟩
       ·show some (hY.row 2 1 (((n5 d1).set (i64.wrap ((first:Int)+(r:Int))).toNat [gi d1[first+(2*r+2)]!]).set (i64.wrap ((first:Int)+((2*r+2:Nat):Int))).toNat [gi d1[first+r]!]))=some (R6 (swp d1 (first+r) (first+(2*r+2))));rw[er,ec,p_]
       ·rw[siftDown,dif_neg hc,if_pos hif,if_neg (by rw[hl'];exact bM),dif_pos hcc]at h1;exact h1
    ·have hif:¬(decide (2*r+1+1<hi)&&ltInt d1[first+(2*r+1)]! d1[first+(2*r+1)+1]!)=true:=by rw[hlt];simp
     refine V ?_;refine iU [] false (tk [0,1,2,3,4,5,6,7,8,9,10,11]) au ?_;have ec:i64.wrap ((first:Int)+((2*r+1:Nat):Int))=((first+(2*r+1):Nat):Int):=na _ _ az;refine⟨by rw[er];omega,by rw[er];exact ll an,_,by rw[er];exact ld an,?_⟩;refine⟨by rw[ec];omega,by rw[ec];exact ll an,_,by rw[ec];exact ld an,?_⟩;refine kE 12 true (tk [13]) (nL d1[first+r]! d1[first+(2*r+1)]!) rfl rfl au ?_;refine V ?_;refine⟨fun hl=>?_,fun hl=>?_⟩
     ·rw[siftDown,dif_neg hc,if_neg hif,if_pos hl]at h1;exact⟨rfl,za h1⟩
     ·have hl':(!ltInt d1[first+r]! d1[first+(2*r+1)]!)=false:=hl;refine V ?_;refine iU [0] false (tk [0,1,2,3,4,5,6,7,8,9,10,11,12,14,15,16,17,18]) au ?_;refine⟨by rw[ec];omega,by rw[ec];exact ll an,?_⟩;refine⟨by rw[er];omega,by rw[er];exact ll an,?_⟩;refine RA.both 13 19 (iV au) (iY.read 13 gV rfl rfl ⟨_,by rw[ec];exact ld an,?_⟩) (iY.read 19 gV rfl rfl ⟨_,by rw[er];exact ld an,?_⟩)
      ·refine RA.run (e:=true) gV au (fun _ _ h=>h) (al [19]++tk [20]++al [21]++tk [22]++al [23]) au ?_;refine⟨_,by rw[er];exact ld an,?_⟩;refine⟨by rw[er];omega,by rw[er];exact ll an,_,by rw[er];exact ld an,?_⟩;refine⟨by rw[ec];omega,by rw[ec];simp only[aD,bu];omega,_,by rw[er,ec];exact CS an az,?_⟩;refine V ?_;refine⟨(swp d1 (first+r) (first+(2*r+1)),2*r+1),id,⟨⟨rfl,rfl,rfl,rfl,trivial⟩,⟨?_,trivial⟩,rfl⟩,⟨?_,by simp only[Go.Sort.size_swp];exact h2,by simp only;omega⟩,by simp only;omega⟩
       ·show some (hY.row 2 1 (((n5 d1).set (i64.wrap ((first:Int)+(r:Int))).toNat [gi d1[first+(2*r+1)]!]).set (i64.wrap ((first:Int)+((2*r+1:Nat):Int))).toNat [gi d1[first+r]!]))=some (R6 (swp d1 (first+r) (first+(2*r+1))));rw[er,ec,p_]
       ·rw[siftDown,dif_neg hc,if_neg hif,if_neg (by rw[hl'];exact bM)]at h1;exact h1
      ·refine RA.run (e:=true) gV au (fun _ _ h=>h) (al [13]++tk [20]++al [21]++tk [22]++al [23]) au ?_;refine⟨_,by rw[ec];exact ld an,?_⟩;refine⟨by rw[er];omega,by rw[er];exact ll an,_,by rw[er];exact ld an,?_⟩;refine⟨by rw[ec];omega,by rw[ec];simp only[aD,bu];omega,_,by rw[er,ec];exact CS an az,?_⟩;refine V ?_;refine⟨(swp d1 (first+r) (first+(2*r+1)),2*r+1),id,⟨⟨rfl,rfl,rfl,rfl,trivial⟩,⟨?_,trivial⟩,rfl⟩,⟨?_,by simp only[Go.Sort.size_swp];exact h2,by simp only;omega⟩,by simp only;omega⟩
       ·show some (hY.row 2 1 (((n5 d1).set (i64.wrap ((first:Int)+(r:Int))).toNat [gi d1[first+(2*r+1)]!]).set (i64.wrap ((first:Int)+((2*r+1:Nat):Int))).toNat [gi d1[first+r]!]))=some (R6 (swp d1 (first+r) (first+(2*r+1))));rw[er,ec,p_]
       ·rw[siftDown,dif_neg hc,if_neg hif,if_neg (by rw[hl'];exact bM)]at h1;exact h1
   ·refine p2 ?_ (by rw[e10];exact decide_eq_false az);have hif:¬(decide (2*r+1+1<hi)&&ltInt d1[first+(2*r+1)]! d1[first+(2*r+1)+1]!)=true:=by rw[decide_eq_false az];simp
    refine pN 18 true (tk [19]) rfl (congrArg (fun c=>c== !true) (show decide (i64.wrap (((2*r+1:Nat):Int)+1)<(hi:Int))=false by rw[e10];exact decide_eq_false az)) au ?_;refine V ?_;refine iU [] false (tk [0,1,2,3,4,5,6,7,8,9,10,11]) au ?_;have ec:i64.wrap ((first:Int)+((2*r+1:Nat):Int))=((first+(2*r+1):Nat):Int):=na _ _ az;refine⟨by rw[er];omega,by rw[er];exact ll an,_,by rw[er];exact ld an,?_⟩;refine⟨by rw[ec];omega,by rw[ec];exact ll an,_,by rw[ec];exact ld an,?_⟩;refine kE 12 true (tk [13]) (nL d1[first+r]! d1[first+(2*r+1)]!) rfl rfl au ?_;refine V ?_;refine⟨fun hl=>?_,fun hl=>?_⟩
    ·rw[siftDown,dif_neg hc,if_neg hif,if_pos hl]at h1;exact⟨rfl,za h1⟩
    ·have hl':(!ltInt d1[first+r]! d1[first+(2*r+1)]!)=false:=hl;refine V ?_;refine iU [0] false (tk [0,1,2,3,4,5,6,7,8,9,10,11,12,14,15,16,17,18]) au ?_;refine⟨by rw[ec];omega,by rw[ec];exact ll an,?_⟩;refine⟨by rw[er];omega,by rw[er];exact ll an,?_⟩;refine RA.both 13 19 (iV au) (iY.read 13 gV rfl rfl ⟨_,by rw[ec];exact ld an,?_⟩) (iY.read 19 gV rfl rfl ⟨_,by rw[er];exact ld an,?_⟩)
     ·refine RA.run (e:=true) gV au (fun _ _ h=>h) (al [19]++tk [20]++al [21]++tk [22]++al [23]) au ?_;refine⟨_,by rw[er];exact ld an,?_⟩;refine⟨by rw[er];omega,by rw[er];exact ll an,_,by rw[er];exact ld an,?_⟩;refine⟨by rw[ec];omega,by rw[ec];simp only[aD,bu];omega,_,by rw[er,ec];exact CS an az,?_⟩;refine V ?_;refine⟨(swp d1 (first+r) (first+(2*r+1)),2*r+1),id,⟨⟨rfl,rfl,rfl,rfl,trivial⟩,⟨?_,trivial⟩,rfl⟩,⟨?_,by simp only[Go.Sort.size_swp];exact h2,by simp only;omega⟩,by simp only;omega⟩
      ·show some (hY.row 2 1 (((n5 d1).set (i64.wrap ((first:Int)+(r:Int))).toNat [gi d1[first+(2*r+1)]!]).set (i64.wrap ((first:Int)+((2*r+1:Nat):Int))).toNat [gi d1[first+r]!]))=some (R6 (swp d1 (first+r) (first+(2*r+1))));rw[er,ec,p_]
      ·rw[siftDown,dif_neg hc,if_neg hif,if_neg (by rw[hl'];exact bM)]at h1;exact h1
     ·refine RA.run (e:=true) gV au (fun _ _ h=>h) (al [13]++tk [20]++al [21]++tk [22]++al [23]) au ?_;refine⟨_,by rw[ec];exact ld an,?_⟩;refine⟨by rw[er];omega,by rw[er];exact ll an,_,by rw[er];exact ld an,?_⟩;refine⟨by rw[ec];omega,by rw[ec];simp only[aD,bu];omega,_,by rw[er,ec];exact CS an az,?_⟩;refine V ?_;refine⟨(swp d1 (first+r) (first+(2*r+1)),2*r+1),id,⟨⟨rfl,rfl,rfl,rfl,trivial⟩,⟨?_,trivial⟩,rfl⟩,⟨?_,by simp only[Go.Sort.size_swp];exact h2,by simp only;omega⟩,by simp only;omega⟩
      ·show some (hY.row 2 1 (((n5 d1).set (i64.wrap ((first:Int)+(r:Int))).toNat [gi d1[first+(2*r+1)]!]).set (i64.wrap ((first:Int)+((2*r+1:Nat):Int))).toNat [gi d1[first+r]!]))=some (R6 (swp d1 (first+r) (first+(2*r+1))));rw[er,ec,p_]
      ·rw[siftDown,dif_neg hc,if_neg hif,if_neg (by rw[hl'];exact bM)]at h1;exact h1
end Go.Proofs.YtadildidlcbbkaaGreatDoor
namespace Go.Proofs.YtadildidlcbbkaaGreatDoor
open Go.GK Go.PL Go.RowKit
open Go.Sort (swp ltInt siftDown heapBuild heapPop heapSort)
open IntKind Go.Proofs.Tryz
set_option maxRecDepth 100000
def TY{x:GV}{a b c a' b' c':Int}(h1:a=a')(h2:b=b')(h3:c=c'):[x,gi a,gi b,gi c]=[x,gi a',gi b',gi c']:=by subst h1;subst h2;subst h3;rfl
def ug{d:Array Int}{i j:Nat}(hj:j<d.size):((n5 d).set ((i:Nat):Int).toNat [gi d[j]!])[((j:Nat):Int).toNat]? =some [gi d[j]!]:=by
 by_cases h:i=j
 ·subst h;rw[bj,dZ (by simpa using hj)]
 exact CS hj h
def zZ(hi first root:Nat)(d:Array Int):(siftDown ltInt hi first root d).size=d.size:=by
 fun_induction siftDown ltInt hi first root d<;>simp_all [Go.Sort.size_swp]
theorem Ox(d:Array Int)(a b:Nat)(hlen:d.size<1099511627776)(hab:a≤b)(hb:b≤d.size):
  Hf pg 237 1 [.o 0,gi a,gi b] [(0,R6 d)] (S6 (heapSort ltInt d a b)):=by
 refine OU (Hf.of gV func237 rfl ntmps237 rfl results237 call237 fun H0 S0 w0 h0 g0=>?_);have eh:i64.wrap ((b:Int) - (a:Int))=((b-a:Nat):Int):=sr b a hab az;refine⟨by decide,?_⟩;refine JK.iT (α:=Array Int×Nat) (β:=Array Int) (fun z=>⟨[(0,.o 0),(6,gi a),(7,gi 0),(8,gi (b-a:Nat)),(9,gi ((z.2:Nat) -1:Int))],[(0,R6 z.1)],1⟩)
  (fun z=>heapBuild ltInt (b-a) a z.2 z.1=heapBuild ltInt (b-a) a ((b-a-1) /2+1) d∧z.1.size=d.size∧z.2≤b+1) (fun z=>z.2)
  (fun z=>⟨[(0,.o 0),(6,gi a),(7,gi 0),(8,gi (b-a:Nat))],[(0,R6 z)],1⟩) (fun z=>z=heapBuild ltInt (b-a) a ((b-a-1) /2+1) d∧z.size=d.size) (d,(b-a-1) /2+1) id ?_ ⟨rfl,rfl,by omega⟩ ?_ ?_
 ·refine⟨⟨rfl,rfl,rfl,congrArg (fun i=>some (gi i)) eh,congrArg (fun i=>some (gi i)) ?_,trivial⟩,⟨rfl,trivial⟩,rfl⟩;show i64.wrap ((i64.wrap (i64.wrap ((b:Int) - (a:Int)) -1)).tdiv 2)=_;rw[eh,ic (x:=((b-a:Nat):Int) -1) az az];simp only;by_cases h0:b-a=0
  ·rw[h0];decide
  ·rw[show ((b-a:Nat):Int) -1=((b-a-1:Nat):Int) by omega,eU az,ic az az];omega
 ·rintro⟨d1,k⟩ ⟨k1,k2,k3⟩;simp only at k1 k2 k3;refine V ?_;cases k with
  |zero=>
   refine p2 ?_ (decide_eq_false aA);exact⟨d1,id,⟨⟨rfl,rfl,rfl,rfl,trivial⟩,⟨rfl,trivial⟩,rfl⟩,k1,k2⟩
  |succ k=>
   refine p1 ?_ (decide_eq_true an);refine ig (BH d1 (b-a) a k az az az) id rfl (TY aA rfl rfl) ⟨rfl,trivial⟩ rfl ay ?_;rintro _ _ _ ⟨rfl,rfl,rfl⟩;refine⟨(siftDown ltInt (b-a) a k d1,k),id,⟨⟨rfl,rfl,rfl,rfl,congrArg (fun i=>some (gi i)) ?_,trivial⟩,⟨rfl,trivial⟩,rfl⟩,⟨k1,(zZ _ _ _ _).trans k2,by simp only;omega⟩,by simp only;omega⟩;show i64.wrap (((k+1:Nat):Int) -1-1)=(k:Int) -1;rw[ic az az];omega
 ·rintro d2 ⟨k1,k2⟩;refine V ?_;refine JK.loop (α:=Array Int×Nat) (fun z=>⟨[(0,.o 0),(6,gi a),(7,gi 0),(10,gi ((z.2:Nat) -1:Int))],[(0,R6 z.1)],1⟩)
   (fun z=>heapPop ltInt a z.2 z.1=heapSort ltInt d a b∧z.1.size=d.size∧z.2≤b-a) (fun z=>z.2) (d2,b-a) id ?_ ⟨by rw[k1];rfl,k2,aL _⟩ ?_
  ·refine⟨⟨rfl,rfl,rfl,congrArg (fun i=>some (gi i)) ?_,trivial⟩,⟨rfl,trivial⟩,rfl⟩;exact ic az az
  ·rintro⟨d1,k⟩ ⟨k1,k2,k3⟩;simp only at k1 k2 k3;refine V ?_;cases k with
   |zero=>
    refine p2 ?_ (decide_eq_false aA);refine V ?_;exact⟨rfl,za k1⟩
   |succ k=>
    refine p1 ?_ (decide_eq_true an);have e1:i64.wrap ((a:Int)+(((k+1:Nat):Int) -1))=((a+k:Nat):Int):=by rw[ic az az];omega
    refine iU [0] false (tk [0,1,2,3,4,5,6,7,8,9,10,12,13,14]) au ?_;refine⟨by rw[e1];omega,by rw[e1];exact ll an,?_⟩;refine⟨aN a,ll an,?_⟩;refine RA.both 11 15 (iV au) (iY.read 11 gV rfl rfl ⟨_,by rw[e1];exact ld an,?_⟩) (iY.read 15 gV rfl rfl ⟨_,ld an,?_⟩)
    ·refine RA.run (e:=true) gV au (fun _ _ h=>h) (al [15]++tk [16]++al [17]++tk [18]++al [19]) au ?_;refine⟨_,ld an,?_⟩;refine⟨aN a,ll an,_,ld an,?_⟩;refine⟨by rw[e1];omega,by rw[e1];simp only[aD,bu];omega,_,by rw[e1];exact ug an,?_⟩;refine V ?_;refine ig (BH (swp d1 a (a+k)) k a 0 (by rw[Go.Sort.size_swp];omega) (by rw[Go.Sort.size_swp];omega) az) id rfl (TY rfl aA rfl) ⟨?_,trivial⟩ rfl ay ?_
     ·show some (hY.row 2 1 (((n5 d1).set ((a:Nat):Int).toNat [gi d1[a+k]!]).set (i64.wrap ((a:Int)+(((k+1:Nat):Int) -1))).toNat [gi d1[a]!]))=some (R6 (swp d1 a (a+k)));rw[e1,p_]
     ·rintro _ _ _ ⟨rfl,rfl,rfl⟩;refine⟨(siftDown ltInt k a 0 (swp d1 a (a+k)),k),id,⟨⟨rfl,rfl,rfl,congrArg (fun i=>some (gi i)) ?_,trivial⟩,⟨rfl,trivial⟩,rfl⟩,⟨k1,(zZ _ _ _ _).trans ((Go.Sort.size_swp _ _ _).trans k2),by simp only;omega⟩,by simp only;omega⟩;show i64.wrap (((k+1:Nat):Int) -1-1)=(k:Int) -1;rw[ic az az];omega
    ·refine RA.run (e:=true) gV au (fun _ _ h=>h) (al [11]++tk [16]++al [17]++tk [18]++al [19]) au ?_;refine⟨_,by rw[e1];exact ld an,?_⟩;refine⟨aN a,ll an,_,ld an,?_⟩;refine⟨by rw[e1];omega,by rw[e1];simp only[aD,bu];omega,_,by rw[e1];exact ug an,?_⟩;refine V ?_;refine ig (BH (swp d1 a (a+k)) k a 0 (by rw[Go.Sort.size_swp];omega) (by rw[Go.Sort.size_swp];omega) az) id rfl (TY rfl aA rfl) ⟨?_,trivial⟩ rfl ay ?_
     ·show some (hY.row 2 1 (((n5 d1).set ((a:Nat):Int).toNat [gi d1[a+k]!]).set (i64.wrap ((a:Int)+(((k+1:Nat):Int) -1))).toNat [gi d1[a]!]))=some (R6 (swp d1 a (a+k)));rw[e1,p_]
     ·rintro _ _ _ ⟨rfl,rfl,rfl⟩;refine⟨(siftDown ltInt k a 0 (swp d1 a (a+k)),k),id,⟨⟨rfl,rfl,rfl,congrArg (fun i=>some (gi i)) ?_,trivial⟩,⟨rfl,trivial⟩,rfl⟩,⟨k1,(zZ _ _ _ _).trans ((Go.Sort.size_swp _ _ _).trans k2),by simp only;omega⟩,by simp only;omega⟩;show i64.wrap (((k+1:Nat):Int) -1-1)=(k:Int) -1;rw[ic az az];omega
end Go.Proofs.YtadildidlcbbkaaGreatDoor
namespace Go.Proofs.YtadildidlcbbkaaGreatDoor
open Go.GK Go.PL Go.RowKit
open Go.Sort (swp ltInt reverseLoop reverseRange order2)
open IntKind Go.Proofs.Tryz
set_option maxRecDepth 100000
end Go.Proofs.YtadildidlcbbkaaGreatDoor
namespace Go.Proofs.YtadildidlcbbkaaGreatDoor
open Go.GK Go.PL Go.RowKit
open Go.Sort (swp ltInt order2 median)
open IntKind Go.Proofs.Tryz
set_option maxRecDepth 100000
abbrev P6(d:Array Int)(s:Nat):Heap:=[(0,R6 d),(1,.hZ 3 [gi (s:Nat)])]
def Dm(d:Array Int)(a b s:Nat)(ha:a<d.size)(hb:b<d.size)(hs:s<1000):
  Hf pg 336 2 [.o 0,gi a,gi b,.p 1 0] (P6 d s) (λG σ n=>G=.tup [gi ((order2 ltInt d a b s).1:Nat),gi ((order2 ltInt d a b s).2.1:Nat)]/\σ=P6 d (order2 ltInt d a b s).2.2/\n=2):=by
 refine Hf.jK (Q:=λG σ n=>G=.tup [gi ((order2 ltInt d a b s).1:Nat),gi ((order2 ltInt d a b s).2.1:Nat)]/\gW σ 0=some (R6 d)/\gW σ 1=some (.hZ 3 [gi ((order2 ltInt d a b s).2.2:Nat)])) (Hf.of gV func336 rfl ntmps336 rfl results336 call336 λH0 S0 w0 h0 g0=>?_) λG σ n ⟨hG,h0,h1⟩=>⟨id,_,P6 d (order2 ltInt d a b s).2.2,2,A0z,by rw[hG];rfl,⟨h0,h1,trivial⟩,rfl⟩;refine iU [] false (tk [0,1,2,3,4,5,6,7]) au ⟨aN b,ll az,_,ld az,⟨aN a,ll az,_,ld az,(kE 8 true [] (nL d[b]! d[a]!) rfl rfl au (V ⟨λh=>?_,λh=>?_⟩))⟩⟩
 ·have e:order2 ltInt d a b s=(b,a,s+1):=if_pos h;rw[e];exact⟨rfl,rfl,congrArg (λi=>some (hY.hZ 3 [gi i])) (n1 s az)⟩
 have e:order2 ltInt d a b s=(a,b,s):=if_neg (by rw[h];exact bM);rw[e];exact A0z
def y5{d:Array Int}{a b s n:Nat}(ha:a<n)(hb:b<n):(order2 ltInt d a b s).1<n/\(order2 ltInt d a b s).2.1<n/\(order2 ltInt d a b s).2.2<=s+1:=by
 unfold order2;split
 ·exact⟨hb,ha,aL _⟩
 exact⟨ha,hb,gQ _⟩
theorem QT(d:Array Int)(a b c s:Nat)(ha:a<d.size)(hb:b<d.size)(hc:c<d.size)(hs:s<900):
  Hf pg 289 2 [.o 0,gi a,gi b,gi c,.p 1 0] (P6 d s) (fun G σ n=>G=gi ((median ltInt d a b c s).1:Nat)∧σ=P6 d (median ltInt d a b c s).2∧n=2):=by
 refine Hf.jK (Q:=fun G σ n=>G=gi ((median ltInt d a b c s).1:Nat)∧gW σ 0=some (R6 d)∧gW σ 1=some (.hZ 3 [gi ((median ltInt d a b c s).2:Nat)])) (Hf.of gV func289 rfl ntmps289 rfl results289 call289 fun H0 S0 w0 h0 g0=>?_) fun G σ n ⟨hG,h0,h1⟩=>⟨id,_,P6 d (median ltInt d a b c s).2,2,⟨rfl,rfl,rfl⟩,by rw[hG];rfl,⟨h0,h1,trivial⟩,rfl⟩;obtain⟨x1,x2,x3⟩:=y5 (d:=d) (s:=s) ha hb;obtain⟨y1,y2,y3⟩:=y5 (d:=d) (s:=(order2 ltInt d a b s).2.2) x2 hc;refine ig (Dm d a b s ha hb az) id rfl rfl ⟨rfl,rfl,trivial⟩ rfl ay ?_;rintro _ _ _ ⟨rfl,rfl,rfl⟩;refine ig (Dm d (order2 ltInt d a b s).2.1 c (order2 ltInt d a b s).2.2 x2 hc az) id rfl rfl ⟨rfl,rfl,trivial⟩ rfl ay ?_;rintro _ _ _ ⟨rfl,rfl,rfl⟩;refine ig (Dm d (order2 ltInt d a b s).1 (order2 ltInt d (order2 ltInt d a b s).2.1 c (order2 ltInt d a b s).2.2).1 (order2 ltInt d (order2 ltInt d a b s).2.1 c (order2 ltInt d a b s).2.2).2.2 x1 y1 az) id rfl rfl ⟨rfl,rfl,trivial⟩ rfl ay ?_;rintro _ _ _ ⟨rfl,rfl,rfl⟩;exact⟨rfl,rfl,rfl⟩
end Go.Proofs.YtadildidlcbbkaaGreatDoor
namespace Go.Proofs.YtadildidlcbbkaaGreatDoor
open Go.GK Go.PL Go.RowKit
open Go.Sort (swp ltInt order2 median choosePivot)
open IntKind Go.Proofs.Tryz
set_option maxRecDepth 100000
def q4(l:Nat)(h:l<1099511627776):i64.wrap ((l:Int).tdiv 4)=((l/4:Nat):Int):=by
 rw[eU az,ic az az];omega
def Te{d:Array Int}{a b c s n:Nat}(ha:a<n)(hb:b<n)(hc:c<n):(median ltInt d a b c s).1<n/\(median ltInt d a b c s).2<=s+3:=by
 obtain⟨x1,x2,x3⟩:=y5 (d:=d) (s:=s) ha hb;obtain⟨y1,y2,y3⟩:=y5 (d:=d) (s:=(order2 ltInt d a b s).2.2) x2 hc;obtain⟨z1,z2,z3⟩:=y5 (d:=d) (s:=(order2 ltInt d (order2 ltInt d a b s).2.1 c (order2 ltInt d a b s).2.2).2.2) x1 y1;unfold median;exact⟨z2,an⟩
theorem RY(d:Array Int)(a b:Nat)(hlen:d.size<1099511627776)(hab:a+8≤b)(h50:b<a+50)(hb:b≤d.size):
  Hf pg 239 1 [.o 0,gi a,gi b] [(0,R6 d)] (fun G σ _=>G=.tup [gi ((median ltInt d (a+(b-a) /4*1) (a+(b-a) /4*2) (a+(b-a) /4*3) 0).1:Nat),gi (if (median ltInt d (a+(b-a) /4*1) (a+(b-a) /4*2) (a+(b-a) /4*3) 0).2=0 then 1 else 0)]∧gW σ 0=some (R6 d)):=by
 have eh:i64.wrap ((b:Int) - (a:Int))=((b-a:Nat):Int):=sr b a az az;have ek:∀k:Nat,k≤3→i64.wrap ((a:Int)+i64.wrap (i64.wrap (((b-a:Nat):Int).tdiv 4)*(k:Int)))=((a+(b-a) /4*k:Nat):Int):=fun k hk=>by
  rw[q4 _ az];have hm:(b-a) /4*k≤50*3:=Nat.mul_le_mul az hk;rw[←Int.natCast_mul,ic (x:=(((b-a) /4*k:Nat):Int)) az az,na _ _ az]
 have h3:(b-a) /4*3<b-a:=az
 obtain⟨_,hm⟩:=Te (d:=d) (a:=a+(b-a) /4*1) (b:=a+(b-a) /4*2) (c:=a+(b-a) /4*3) (s:=0) (n:=d.size) az az az;refine Hf.of gV func239 rfl ntmps239 rfl results239 call239 fun H0 S0 w0 h0 g0=>?_;refine⟨ax,ax,ax,(p1 (p2 (ig (QT d (a+(b-a) /4*1) (a+(b-a) /4*2) (a+(b-a) /4*3) 0 az az az az) id rfl ?_ ⟨rfl,rfl,trivial⟩ rfl ay ?_) (by rw[eh];exact decide_eq_false az)) (by rw[eh];exact decide_eq_true az))⟩
 ·rw[eh,show (1:Int)=((1:Nat):Int) from rfl,show (2:Int)=((2:Nat):Int) from rfl,show (3:Int)=((3:Nat):Int) from rfl,ek 1 az,ek 2 az,ek 3 az];rfl
 ·rintro _ _ _ ⟨rfl,rfl,rfl⟩;by_cases hz:(median ltInt d (a+(b-a) /4*1) (a+(b-a) /4*2) (a+(b-a) /4*3) 0).2=0
  ·exact p1 ⟨by rw[if_pos hz];rfl,rfl⟩ aj
  ·exact p2 (p2 ⟨by rw[if_neg hz];rfl,rfl⟩ ai) ai
end Go.Proofs.YtadildidlcbbkaaGreatDoor
namespace Go.Proofs.YtadildidlcbbkaaGreatDoor
open Go.GK Go.PL Go.RowKit
open Go.Sort (swp ltInt scanSorted)
open IntKind Go.Proofs.Tryz
set_option maxRecDepth 100000
theorem Ro(d:Array Int)(a b:Nat)(hlen:d.size<1099511627776)(hab:a+1≤b)(h50:b<a+50)(hb:b≤d.size):
  Hf pg 241 1 [.o 0,gi a,gi b] [(0,R6 d)] (fun G σ _=>G=.v (.bool (decide (scanSorted ltInt d b (a+1)=b)))∧gW σ 0=some (R6 d)):=by
 have eh:i64.wrap ((b:Int) - (a:Int))=((b-a:Nat):Int):=sr b a az az;refine Hf.of gV func241 rfl ntmps241 rfl results241 call241 fun H0 S0 w0 h0 g0=>?_;refine JK.loop (α:=Unit) (fun _=>⟨[(0,.o 0),(1,gi a),(2,gi b),(7,gi (a+1:Nat)),(8,gi 0)],[(0,R6 d)],1⟩) (fun _=>True) (fun _=>0) () id ?_ trivial ?_
 ·exact⟨⟨rfl,rfl,rfl,h_ az,rfl,trivial⟩,⟨rfl,trivial⟩,rfl⟩
 ·rintro _ _;refine V ?_;refine p1 ?_ ax;refine JK.iT (α:=Nat) (β:=Nat) (fun i=>⟨[(0,.o 0),(1,gi a),(2,gi b),(7,gi (i:Nat)),(8,gi 0)],[(0,R6 d)],1⟩) (fun i=>scanSorted ltInt d b i=scanSorted ltInt d b (a+1)∧a<i∧i≤b) (fun i=>b-i)
   (fun i=>⟨[(0,.o 0),(1,gi a),(2,gi b),(7,gi (i:Nat)),(8,gi 0)],[(0,R6 d)],1⟩) (fun i=>i=scanSorted ltInt d b (a+1)∧i≤b) (a+1) id ?_ ⟨rfl,by omega,by omega⟩ ?_ ?_
  ·exact⟨⟨rfl,rfl,rfl,rfl,rfl,trivial⟩,⟨rfl,trivial⟩,rfl⟩
  ·rintro i ⟨h1,h2,h3⟩;have e1:i64.wrap ((i:Int) -1)=((i-1:Nat):Int):=sr i 1 az az;refine V ?_;refine iU [] false (tk [0,1,2,3,4,5,6,7,8,9,10,11,12]) au ?_;by_cases hi:i<b
   ·refine p1 ?_ aj;refine⟨aN i,ll az,_,ld az,?_⟩;refine⟨by rw[e1];omega,by rw[e1];exact ll az,_,by rw[e1];exact ld az,?_⟩;refine kE 13 true (tk [14,15]) (nL d[i]! d[i-1]!) rfl (congrArg (fun c=>bif (c==true) then some (242,[gi d[i]!,gi d[i-1]!]) else none) (decide_eq_true (show (i:Int)<(b:Int) by omega))) au ?_;refine V ?_;refine⟨fun hl=>?_,fun hl=>?_⟩
    ·have hl':(!ltInt d[i]! d[i-1]!)=true:=hl;refine⟨i+1,id,⟨⟨rfl,rfl,rfl,h_ az,rfl,trivial⟩,⟨rfl,trivial⟩,rfl⟩,⟨?_,by first|omega| (simp only;omega),by first|omega| (simp only;omega)⟩,by first|omega| (simp only;omega)⟩;rw[←h1,scanSorted.eq_def ltInt d b i,if_pos (by rw[hl',decide_eq_true hi];rfl)]
    ·have hl':(!ltInt d[i]! d[i-1]!)=false:=hl;refine⟨i,id,⟨⟨rfl,rfl,rfl,rfl,rfl,trivial⟩,⟨rfl,trivial⟩,rfl⟩,?_,h3⟩;rw[←h1,scanSorted,if_neg (by rw[hl',du];exact bM)]
   ·refine p2 ?_ ai;refine pN 13 true (tk [14,15]) rfl (congrArg (fun c=>c== !true) (show decide ((i:Int)<(b:Int))=false from decide_eq_false az)) au ?_;refine V ?_;refine⟨i,id,⟨⟨rfl,rfl,rfl,rfl,rfl,trivial⟩,⟨rfl,trivial⟩,rfl⟩,?_,h3⟩;rw[←h1,scanSorted,if_neg (by simp[hi])]
  ·rintro i ⟨h1,h2⟩;refine V ?_;by_cases hi:i=b
   ·refine p1 ?_ aj;exact⟨by rw[←h1,decide_eq_true hi];rfl,rfl⟩
   ·refine p2 ?_ ai;refine p1 ?_ (by rw[eh];exact decide_eq_true az);exact⟨by rw[←h1,decide_eq_false hi];rfl,rfl⟩
end Go.Proofs.YtadildidlcbbkaaGreatDoor
namespace Go.Proofs.YtadildidlcbbkaaGreatDoor
open Go.GK Go.PL Go.RowKit
open Go.Sort (swp ltInt scanUp scanDown partLoop partition)
open IntKind Go.Proofs.Tryz
set_option maxRecDepth 100000
section
variable {d:Array Int}{a b p i1 j1:Nat}
def ML(h:i1>j1)(u:i1=scanUp (λx=>ltInt x (swp d a p)[a]!) (swp d a p) (b-1) (a+1))(v:j1=scanDown (λx=> !ltInt x (swp d a p)[a]!) (swp d a p) i1 (b-1)):partition ltInt d a b p=(j1,true,swp (swp d a p) j1 a):=by
 unfold partition;simp only;rw[<-u,<-v,if_pos h]
def S4(h:i1>j1)(u:i1=scanUp (λx=>ltInt x (swp d a p)[a]!) (swp d a p) (b-1) (a+1))(v:j1=scanDown (λx=> !ltInt x (swp d a p)[a]!) (swp d a p) i1 (b-1)):(.tup [gi (j1:Nat),.v (.bool true)]:GV)=.tup [gi ((partition ltInt d a b p).1:Nat),.v (.bool (partition ltInt d a b p).2.1)]:=by rw[ML h u v]
def RF(h:i1>j1)(u:i1=scanUp (λx=>ltInt x (swp d a p)[a]!) (swp d a p) (b-1) (a+1))(v:j1=scanDown (λx=> !ltInt x (swp d a p)[a]!) (swp d a p) i1 (b-1)):swp (swp d a p) j1 a=(partition ltInt d a b p).2.2:=by rw[ML h u v]
variable {z:Nat×Array Int}
def LF(h:¬i1>j1)(u:i1=scanUp (λx=>ltInt x (swp d a p)[a]!) (swp d a p) (b-1) (a+1))(v:j1=scanDown (λx=> !ltInt x (swp d a p)[a]!) (swp d a p) i1 (b-1))(hz:z=partLoop ltInt a (i1+1) (j1-1) (swp (swp d a p) i1 j1)):partition ltInt d a b p=(z.1,false,swp z.2 z.1 a):=by
 unfold partition;simp only;rw[<-u,<-v,if_neg h,hz]
def Tm(h:¬i1>j1)(u:i1=scanUp (λx=>ltInt x (swp d a p)[a]!) (swp d a p) (b-1) (a+1))(v:j1=scanDown (λx=> !ltInt x (swp d a p)[a]!) (swp d a p) i1 (b-1))(hz:z=partLoop ltInt a (i1+1) (j1-1) (swp (swp d a p) i1 j1)):(.tup [gi (z.1:Nat),.v (.bool false)]:GV)=.tup [gi ((partition ltInt d a b p).1:Nat),.v (.bool (partition ltInt d a b p).2.1)]:=by rw[LF h u v hz]
def Q2(h:¬i1>j1)(u:i1=scanUp (λx=>ltInt x (swp d a p)[a]!) (swp d a p) (b-1) (a+1))(v:j1=scanDown (λx=> !ltInt x (swp d a p)[a]!) (swp d a p) i1 (b-1))(hz:z=partLoop ltInt a (i1+1) (j1-1) (swp (swp d a p) i1 j1)):swp z.2 z.1 a=(partition ltInt d a b p).2.2:=by rw[LF h u v hz]
end
set_option maxHeartbeats 4000000 in
theorem O8(d:Array Int)(a b p:Nat)(hlen:d.size<1099511627776)(hap:a≤p)(hpb:p<b)(hab:a+1<b)(hb:b≤d.size):
  Hf pg 244 1 [.o 0,gi a,gi b,gi p] [(0,R6 d)] (fun G σ _=>G=.tup [gi ((partition ltInt d a b p).1:Nat),.v (.bool (partition ltInt d a b p).2.1)]∧gW σ 0=some (R6 (partition ltInt d a b p).2.2)):=by
 have hsz:(swp d a p).size=d.size:=Go.Sort.size_swp _ _ _;refine Hf.of gV func244 rfl ntmps244 rfl results244 call244 fun H0 S0 w0 h0 g0=>?_;have hx:a<(d).size:=by omega
 have hy:p<(d).size:=by omega
 refine JK.pb [0] ⟨[(0,.o 0),(1,gi a),(2,gi b)],[(0,R6 (swp d (a) (p)))],1⟩ gV ?_ (fun hk=>?_)
 ·clear hx hy;refine V ?_;refine JK.iT (α:=Nat) (β:=Nat) (fun z=>⟨[(0,.o 0),(1,gi a),(10,gi (z:Nat)),(11,gi (b-1:Nat))],[(0,R6 (swp d a p))],1⟩) (fun z=>scanUp (fun x=>ltInt x (swp d a p)[a]!) (swp d a p) (b-1) (z)=scanUp (fun x=>ltInt x (swp d a p)[a]!) (swp d a p) (b-1) (a+1)∧a+1≤z∧(z≤b-1+1∨z=a+1)) (fun z=>b-1+1-z) (fun z=>⟨[(0,.o 0),(1,gi a),(10,gi (z:Nat)),(11,gi (b-1:Nat))],[(0,R6 (swp d a p))],1⟩) (fun z=>z=scanUp (fun x=>ltInt x (swp d a p)[a]!) (swp d a p) (b-1) (a+1)∧a+1≤z∧(z≤b-1+1∨z=a+1)) (a+1) id ?_ ⟨rfl,aL _,.inr rfl⟩ ?_ ?_
  ·exact⟨⟨rfl,rfl,h_ az,congrArg (fun i=>some (gi i)) (sr b 1 az az),trivial⟩,⟨rfl,trivial⟩,rfl⟩
  ·rintro z ⟨h1,h2,h3⟩;refine V ?_;refine iU [] false (tk [0,1,2,3,4,5,6,7,8,9,10,11]) au ?_;by_cases hz:z≤b-1
   ·refine p1 ?_ aj;refine⟨aN z,ll az,_,ld az,?_⟩;refine⟨aN a,ll az,_,ld az,?_⟩;refine kE 12 true (tk [13]) (nL (swp d a p)[z]! (swp d a p)[a]!) rfl (congrArg (fun c=>bif (c==true) then some (242,[gi (swp d a p)[z]!,gi (swp d a p)[a]!]) else none) (decide_eq_true (show ((z:Nat):Int)≤((b-1:Nat):Int) by omega))) au ?_;refine V ?_;refine⟨fun hl=>?_,fun hl=>?_⟩
    ·have hl':(fun x=>ltInt x (swp d a p)[a]!) (swp d a p)[z]! =true:=hl;exact⟨z+1,id,⟨⟨rfl,rfl,h_ az,rfl,trivial⟩,⟨rfl,trivial⟩,rfl⟩,⟨(Ql (p:=(fun x=>ltInt x (swp d a p)[a]!)) (d:=(swp d a p)) hz hl').symm.trans h1,by omega,by omega⟩,by simp only;omega⟩
    ·have hl':(fun x=>ltInt x (swp d a p)[a]!) (swp d a p)[z]! =false:=hl;exact⟨z,id,⟨⟨rfl,rfl,rfl,rfl,trivial⟩,⟨rfl,trivial⟩,rfl⟩,(Qt (p:=(fun x=>ltInt x (swp d a p)[a]!)) (d:=(swp d a p)) hl').symm.trans h1,h2,h3⟩
   ·refine p2 ?_ ai;refine pN 12 true (tk [13]) rfl (congrArg (fun c=>c== !true) (show decide (((z:Nat):Int)≤((b-1:Nat):Int))=false from decide_eq_false az)) au ?_;refine V ?_;exact⟨z,id,⟨⟨rfl,rfl,rfl,rfl,trivial⟩,⟨rfl,trivial⟩,rfl⟩,(NJ hz).symm.trans h1,h2,h3⟩
  ·rintro i1 ⟨u1,u2,u3⟩;refine V ?_;refine JK.iT (α:=Nat) (β:=Nat) (fun z=>⟨[(0,.o 0),(1,gi a),(10,gi (i1:Nat)),(11,gi (z:Nat))],[(0,R6 (swp d a p))],1⟩) (fun z=>scanDown (fun x=> !ltInt x (swp d a p)[a]!) (swp d a p) (i1) (z)=scanDown (fun x=> !ltInt x (swp d a p)[a]!) (swp d a p) (i1) (b-1)∧z≤b-1∧(i1≤z+1∨z=b-1)) (fun z=>z) (fun z=>⟨[(0,.o 0),(1,gi a),(10,gi (i1:Nat)),(11,gi (z:Nat))],[(0,R6 (swp d a p))],1⟩) (fun z=>z=scanDown (fun x=> !ltInt x (swp d a p)[a]!) (swp d a p) (i1) (b-1)∧z≤b-1∧(i1≤z+1∨z=b-1)) (b-1) id ?_ ⟨rfl,aL _,.inr rfl⟩ ?_ ?_
   ·exact⟨⟨rfl,rfl,rfl,rfl,trivial⟩,⟨rfl,trivial⟩,rfl⟩
   ·rintro z ⟨h1,h2,h3⟩;refine V ?_;refine iU [] false (tk [0,1,2,3,4,5,6,7,8,9,10,11]) au ?_;by_cases hz:i1≤z
    ·refine p1 ?_ aj;refine⟨aN z,ll az,_,ld az,?_⟩;refine⟨aN a,ll az,_,ld az,?_⟩;refine kE 12 true (tk [13,14]) (nL (swp d a p)[z]! (swp d a p)[a]!) rfl (congrArg (fun c=>bif (c==true) then some (242,[gi (swp d a p)[z]!,gi (swp d a p)[a]!]) else none) (decide_eq_true (show ((i1:Nat):Int)≤((z:Nat):Int) by omega))) au ?_;refine V ?_;refine⟨fun hl=>?_,fun hl=>?_⟩
     ·have hl':(fun x=> !ltInt x (swp d a p)[a]!) (swp d a p)[z]! =true:=hl;exact⟨z-1,id,⟨⟨rfl,rfl,rfl,congrArg (fun i=>some (gi i)) (sr z 1 az az),trivial⟩,⟨rfl,trivial⟩,rfl⟩,⟨(Qm (p:=(fun x=> !ltInt x (swp d a p)[a]!)) (d:=(swp d a p)) az hz hl').symm.trans h1,by omega,by omega⟩,by simp only;omega⟩
     ·have hl':(fun x=> !ltInt x (swp d a p)[a]!) (swp d a p)[z]! =false:=hl;exact⟨z,id,⟨⟨rfl,rfl,rfl,rfl,trivial⟩,⟨rfl,trivial⟩,rfl⟩,(Qj (p:=(fun x=> !ltInt x (swp d a p)[a]!)) (d:=(swp d a p)) hl').symm.trans h1,h2,h3⟩
    ·refine p2 ?_ ai;refine pN 12 true (tk [13,14]) rfl (congrArg (fun c=>c== !true) (show decide (((i1:Nat):Int)≤((z:Nat):Int))=false from decide_eq_false az)) au ?_;refine V ?_;exact⟨z,id,⟨⟨rfl,rfl,rfl,rfl,trivial⟩,⟨rfl,trivial⟩,rfl⟩,(Mv hz).symm.trans h1,h2,h3⟩
   ·rintro j1 ⟨v1,v2,v3⟩;refine V ?_;by_cases hgt:i1>j1
    ·refine p1 ?_ aj;have hx:j1<((swp d a p)).size:=by omega
     have hy:a<((swp d a p)).size:=by omega
     refine JK.pb [0] ⟨[(11,gi (j1:Nat))],[(0,R6 (swp (swp d a p) (j1) (a)))],1⟩ gV ?_ (fun hk=>?_)
     ·clear hx hy;refine V ?_;exact⟨S4 hgt u1 v1,za (RF hgt u1 v1)⟩
     ·refine RA.run (cx:=⟨pg,_,_,_,_,_,_,_⟩) gV au ak (tk [0,1,2,3,4,5,6,8,9,10]) (e:=false) au ?_;refine⟨aN _,ll (bq.2 hy),?_⟩;refine⟨aN _,ll (bq.2 hx),?_⟩;refine RA.both 7 11 (iV au) (iY.read 7 gV rfl rfl ⟨_,ld hy,?_⟩) (iY.read 11 gV rfl rfl ⟨_,ld hx,?_⟩)
      ·refine RA.run (cx:=⟨pg,_,_,_,_,_,_,_⟩) gV au ak (al [11]++tk [12]++al [13]++tk [14]++al [15]) (e:=false) au ?_;refine⟨_,ld hx,?_⟩;refine⟨aN _,ll (bq.2 hx),_,ld hx,?_⟩;refine⟨aN _,ll (bq.2 hy),_,ug hy,?_⟩;refine RA.kD id au hk ⟨⟨rfl,trivial⟩,⟨?_,trivial⟩,rfl⟩;show some (hY.row 2 1 (((n5 (swp d a p)).set ((j1:Nat):Int).toNat [gi ((swp d a p))[a]!]).set ((a:Nat):Int).toNat [gi ((swp d a p))[j1]!]))=some (R6 (swp (swp d a p) (j1) (a)));rw[p_]
      ·refine RA.run (cx:=⟨pg,_,_,_,_,_,_,_⟩) gV au ak (al [7]++tk [12]++al [13]++tk [14]++al [15]) (e:=false) au ?_;refine⟨_,ld hy,?_⟩;refine⟨aN _,ll (bq.2 hx),_,ld hx,?_⟩;refine⟨aN _,ll (bq.2 hy),_,ug hy,?_⟩;refine RA.kD id au hk ⟨⟨rfl,trivial⟩,⟨?_,trivial⟩,rfl⟩;show some (hY.row 2 1 (((n5 (swp d a p)).set ((j1:Nat):Int).toNat [gi ((swp d a p))[a]!]).set ((a:Nat):Int).toNat [gi ((swp d a p))[j1]!]))=some (R6 (swp (swp d a p) (j1) (a)));rw[p_]
    ·refine p2 ?_ ai;have hx:i1<((swp d a p)).size:=by omega
     have hy:j1<((swp d a p)).size:=by omega
     refine JK.pb [0] ⟨[(0,.o 0),(1,gi a),(10,gi (i1:Nat)),(11,gi (j1:Nat))],[(0,R6 (swp (swp d a p) (i1) (j1)))],1⟩ gV ?_ (fun hk=>?_)
     ·clear hx hy;refine V ?_;refine JK.iT (α:=Array Int×Nat×Nat) (β:=Nat×Array Int) (fun z=>⟨[(0,.o 0),(1,gi a),(10,gi (z.2.1:Nat)),(11,gi (z.2.2:Nat))],[(0,R6 z.1)],1⟩)
       (fun z=>partLoop ltInt a z.2.1 z.2.2 z.1=partLoop ltInt a (i1+1) (j1-1) (swp (swp d a p) i1 j1)∧z.1.size=d.size∧a+2≤z.2.1∧z.2.1≤z.2.2+2∧z.2.2<b) (fun z=>z.2.2+1-z.2.1)
       (fun z=>⟨[(0,.o 0),(1,gi a),(11,gi (z.1:Nat))],[(0,R6 z.2)],1⟩) (fun z=>z=partLoop ltInt a (i1+1) (j1-1) (swp (swp d a p) i1 j1)∧a≤z.1∧z.1<b∧z.2.size=d.size) (swp (swp d a p) i1 j1,i1+1,j1-1) id ?_ ⟨rfl,by simp only[Go.Sort.size_swp],by simp only;omega,by simp only;omega,by simp only;omega⟩ ?_ ?_
      ·exact⟨⟨rfl,rfl,h_ az,congrArg (fun i=>some (gi i)) (sr j1 1 az az),trivial⟩,⟨rfl,trivial⟩,rfl⟩
      ·rintro⟨d2,i,j⟩ ⟨k1,k2,k3,k4,k5⟩;simp only at k1 k2 k3 k4 k5;refine V ?_;refine JK.iT (α:=Nat) (β:=Nat) (fun z=>⟨[(0,.o 0),(1,gi a),(10,gi (z:Nat)),(11,gi (j:Nat))],[(0,R6 d2)],1⟩) (fun z=>scanUp (fun x=>ltInt x d2[a]!) d2 (j) (z)=scanUp (fun x=>ltInt x d2[a]!) d2 (j) (i)∧i≤z∧(z≤j+1∨z=i)) (fun z=>j+1-z) (fun z=>⟨[(0,.o 0),(1,gi a),(10,gi (z:Nat)),(11,gi (j:Nat))],[(0,R6 d2)],1⟩) (fun z=>z=scanUp (fun x=>ltInt x d2[a]!) d2 (j) (i)∧i≤z∧(z≤j+1∨z=i)) (i) id ?_ ⟨rfl,aL _,.inr rfl⟩ ?_ ?_
       ·exact⟨⟨rfl,rfl,rfl,rfl,trivial⟩,⟨rfl,trivial⟩,rfl⟩
       ·rintro z ⟨h1,h2,h3⟩;refine V ?_;refine iU [] false (tk [0,1,2,3,4,5,6,7,8,9,10,11]) au ?_;by_cases hz:z≤j
        ·refine p1 ?_ aj;refine⟨aN z,ll az,_,ld az,?_⟩;refine⟨aN a,ll az,_,ld az,?_⟩;refine kE 12 true (tk [13]) (nL d2[z]! d2[a]!) rfl (congrArg (fun c=>bif (c==true) then some (242,[gi d2[z]!,gi d2[a]!]) else none) (decide_eq_true (show ((z:Nat):Int)≤((j:Nat):Int) by omega))) au ?_;refine V ?_;refine⟨fun hl=>?_,fun hl=>?_⟩
         ·have hl':(fun x=>ltInt x d2[a]!) d2[z]! =true:=hl;exact⟨z+1,id,⟨⟨rfl,rfl,h_ az,rfl,trivial⟩,⟨rfl,trivial⟩,rfl⟩,⟨(Ql (p:=(fun x=>ltInt x d2[a]!)) (d:=d2) hz hl').symm.trans h1,by omega,by omega⟩,by simp only;omega⟩
         ·have hl':(fun x=>ltInt x d2[a]!) d2[z]! =false:=hl;exact⟨z,id,⟨⟨rfl,rfl,rfl,rfl,trivial⟩,⟨rfl,trivial⟩,rfl⟩,(Qt (p:=(fun x=>ltInt x d2[a]!)) (d:=d2) hl').symm.trans h1,h2,h3⟩
        ·refine p2 ?_ ai;refine pN 12 true (tk [13]) rfl (congrArg (fun c=>c== !true) (show decide (((z:Nat):Int)≤((j:Nat):Int))=false from decide_eq_false az)) au ?_;refine V ?_;exact⟨z,id,⟨⟨rfl,rfl,rfl,rfl,trivial⟩,⟨rfl,trivial⟩,rfl⟩,(NJ hz).symm.trans h1,h2,h3⟩
       ·rintro i2 ⟨u1,u2,u3⟩;refine V ?_;refine JK.iT (α:=Nat) (β:=Nat) (fun z=>⟨[(0,.o 0),(1,gi a),(10,gi (i2:Nat)),(11,gi (z:Nat))],[(0,R6 d2)],1⟩) (fun z=>scanDown (fun x=> !ltInt x d2[a]!) d2 (i2) (z)=scanDown (fun x=> !ltInt x d2[a]!) d2 (i2) (j)∧z≤j∧(i2≤z+1∨z=j)) (fun z=>z) (fun z=>⟨[(0,.o 0),(1,gi a),(10,gi (i2:Nat)),(11,gi (z:Nat))],[(0,R6 d2)],1⟩) (fun z=>z=scanDown (fun x=> !ltInt x d2[a]!) d2 (i2) (j)∧z≤j∧(i2≤z+1∨z=j)) (j) id ?_ ⟨rfl,aL _,.inr rfl⟩ ?_ ?_
        ·exact⟨⟨rfl,rfl,rfl,rfl,trivial⟩,⟨rfl,trivial⟩,rfl⟩
        ·rintro z ⟨h1,h2,h3⟩;refine V ?_;refine iU [] false (tk [0,1,2,3,4,5,6,7,8,9,10,11]) au ?_;by_cases hz:i2≤z
         ·refine p1 ?_ aj;refine⟨aN z,ll az,_,ld az,?_⟩;refine⟨aN a,ll az,_,ld az,?_⟩;refine kE 12 true (tk [13,14]) (nL d2[z]! d2[a]!) rfl (congrArg (fun c=>bif (c==true) then some (242,[gi d2[z]!,gi d2[a]!]) else none) (decide_eq_true (show ((i2:Nat):Int)≤((z:Nat):Int) by omega))) au ?_;refine V ?_;refine⟨fun hl=>?_,fun hl=>?_⟩
          ·have hl':(fun x=> !ltInt x d2[a]!) d2[z]! =true:=hl;exact⟨z-1,id,⟨⟨rfl,rfl,rfl,congrArg (fun i=>some (gi i)) (sr z 1 az az),trivial⟩,⟨rfl,trivial⟩,rfl⟩,⟨(Qm (p:=(fun x=> !ltInt x d2[a]!)) (d:=d2) az hz hl').symm.trans h1,by omega,by omega⟩,by simp only;omega⟩
          ·have hl':(fun x=> !ltInt x d2[a]!) d2[z]! =false:=hl;exact⟨z,id,⟨⟨rfl,rfl,rfl,rfl,trivial⟩,⟨rfl,trivial⟩,rfl⟩,(Qj (p:=(fun x=> !ltInt x d2[a]!)) (d:=d2) hl').symm.trans h1,h2,h3⟩
         ·refine p2 ?_ ai;refine pN 12 true (tk [13,14]) rfl (congrArg (fun c=>c== !true) (show decide (((i2:Nat):Int)≤((z:Nat):Int))=false from decide_eq_false az)) au ?_;refine V ?_;exact⟨z,id,⟨⟨rfl,rfl,rfl,rfl,trivial⟩,⟨rfl,trivial⟩,rfl⟩,(Mv hz).symm.trans h1,h2,h3⟩
        ·rintro j2 ⟨v1,v2,v3⟩;refine V ?_;rw[Go.Sort.partLoop_eq,←u1,←v1]at k1;by_cases hgt:i2>j2
         ·refine p1 ?_ aj;rw[if_pos hgt]at k1;exact⟨(j2,d2),id,⟨⟨rfl,rfl,rfl,trivial⟩,⟨rfl,trivial⟩,rfl⟩,k1,by omega,by omega,k2⟩
         ·refine p2 ?_ ai;rw[if_neg hgt]at k1;have hx:i2<(d2).size:=by omega
          have hy:j2<(d2).size:=by omega
          refine JK.pb [0] ⟨[(0,.o 0),(1,gi a),(10,gi (i2:Nat)),(11,gi (j2:Nat))],[(0,R6 (swp d2 (i2) (j2)))],1⟩ gV ?_ (fun hk=>?_)
          ·clear hx hy;refine V ?_;exact⟨(swp d2 i2 j2,i2+1,j2-1),id,⟨⟨rfl,rfl,h_ az,congrArg (fun i=>some (gi i)) (sr j2 1 az az),trivial⟩,⟨rfl,trivial⟩,rfl⟩,⟨k1,(Go.Sort.size_swp _ _ _).trans k2,by simp only;omega,by simp only;omega,by simp only;omega⟩,by simp only;omega⟩
          ·refine RA.run (cx:=⟨pg,_,_,_,_,_,_,_⟩) gV au ak (tk [0,1,2,3,4,5,6,8,9,10]) (e:=false) au ?_;refine⟨aN _,ll (bq.2 hy),?_⟩;refine⟨aN _,ll (bq.2 hx),?_⟩;refine RA.both 7 11 (iV au) (iY.read 7 gV rfl rfl ⟨_,ld hy,?_⟩) (iY.read 11 gV rfl rfl ⟨_,ld hx,?_⟩)
           ·refine RA.run (cx:=⟨pg,_,_,_,_,_,_,_⟩) gV au ak (al [11]++tk [12]++al [13]++tk [14]++al [15]) (e:=false) au ?_;refine⟨_,ld hx,?_⟩;refine⟨aN _,ll (bq.2 hx),_,ld hx,?_⟩;refine⟨aN _,ll (bq.2 hy),_,ug hy,?_⟩;refine RA.kD id au hk ⟨⟨rfl,rfl,rfl,rfl,trivial⟩,⟨?_,trivial⟩,rfl⟩;show some (hY.row 2 1 (((n5 d2).set ((i2:Nat):Int).toNat [gi (d2)[j2]!]).set ((j2:Nat):Int).toNat [gi (d2)[i2]!]))=some (R6 (swp d2 (i2) (j2)));rw[p_]
           ·refine RA.run (cx:=⟨pg,_,_,_,_,_,_,_⟩) gV au ak (al [7]++tk [12]++al [13]++tk [14]++al [15]) (e:=false) au ?_;refine⟨_,ld hy,?_⟩;refine⟨aN _,ll (bq.2 hx),_,ld hx,?_⟩;refine⟨aN _,ll (bq.2 hy),_,ug hy,?_⟩;refine RA.kD id au hk ⟨⟨rfl,rfl,rfl,rfl,trivial⟩,⟨?_,trivial⟩,rfl⟩;show some (hY.row 2 1 (((n5 d2).set ((i2:Nat):Int).toNat [gi (d2)[j2]!]).set ((j2:Nat):Int).toNat [gi (d2)[i2]!]))=some (R6 (swp d2 (i2) (j2)));rw[p_]
      ·rintro⟨m,d2⟩ ⟨k1,k2,k3,k4⟩;simp only at k1 k2 k3 k4;refine V ?_;have hx:m<(d2).size:=by omega
       have hy:a<(d2).size:=by omega
       refine JK.pb [0] ⟨[(11,gi (m:Nat))],[(0,R6 (swp d2 (m) (a)))],1⟩ gV ?_ (fun hk=>?_)
       ·clear hx hy;refine V ?_;exact⟨Tm hgt u1 v1 k1,za (Q2 hgt u1 v1 k1)⟩
       ·refine RA.run (cx:=⟨pg,_,_,_,_,_,_,_⟩) gV au ak (tk [0,1,2,3,4,5,6,8,9,10]) (e:=false) au ?_;refine⟨aN _,ll (bq.2 hy),?_⟩;refine⟨aN _,ll (bq.2 hx),?_⟩;refine RA.both 7 11 (iV au) (iY.read 7 gV rfl rfl ⟨_,ld hy,?_⟩) (iY.read 11 gV rfl rfl ⟨_,ld hx,?_⟩)
        ·refine RA.run (cx:=⟨pg,_,_,_,_,_,_,_⟩) gV au ak (al [11]++tk [12]++al [13]++tk [14]++al [15]) (e:=false) au ?_;refine⟨_,ld hx,?_⟩;refine⟨aN _,ll (bq.2 hx),_,ld hx,?_⟩;refine⟨aN _,ll (bq.2 hy),_,ug hy,?_⟩;refine RA.kD id au hk ⟨⟨rfl,trivial⟩,⟨?_,trivial⟩,rfl⟩;show some (hY.row 2 1 (((n5 d2).set ((m:Nat):Int).toNat [gi (d2)[a]!]).set ((a:Nat):Int).toNat [gi (d2)[m]!]))=some (R6 (swp d2 (m) (a)));rw[p_]
        ·refine RA.run (cx:=⟨pg,_,_,_,_,_,_,_⟩) gV au ak (al [7]++tk [12]++al [13]++tk [14]++al [15]) (e:=false) au ?_;refine⟨_,ld hy,?_⟩;refine⟨aN _,ll (bq.2 hx),_,ld hx,?_⟩;refine⟨aN _,ll (bq.2 hy),_,ug hy,?_⟩;refine RA.kD id au hk ⟨⟨rfl,trivial⟩,⟨?_,trivial⟩,rfl⟩;show some (hY.row 2 1 (((n5 d2).set ((m:Nat):Int).toNat [gi (d2)[a]!]).set ((a:Nat):Int).toNat [gi (d2)[m]!]))=some (R6 (swp d2 (m) (a)));rw[p_]
     ·refine RA.run (cx:=⟨pg,_,_,_,_,_,_,_⟩) gV au ak (tk [0,1,2,3,4,5,6,8,9,10]) (e:=false) au ?_;refine⟨aN _,ll (bq.2 hy),?_⟩;refine⟨aN _,ll (bq.2 hx),?_⟩;refine RA.both 7 11 (iV au) (iY.read 7 gV rfl rfl ⟨_,ld hy,?_⟩) (iY.read 11 gV rfl rfl ⟨_,ld hx,?_⟩)
      ·refine RA.run (cx:=⟨pg,_,_,_,_,_,_,_⟩) gV au ak (al [11]++tk [12]++al [13]++tk [14]++al [15]) (e:=false) au ?_;refine⟨_,ld hx,?_⟩;refine⟨aN _,ll (bq.2 hx),_,ld hx,?_⟩;refine⟨aN _,ll (bq.2 hy),_,ug hy,?_⟩;refine RA.kD id au hk ⟨⟨rfl,rfl,rfl,rfl,trivial⟩,⟨?_,trivial⟩,rfl⟩;show some (hY.row 2 1 (((n5 (swp d a p)).set ((i1:Nat):Int).toNat [gi ((swp d a p))[j1]!]).set ((j1:Nat):Int).toNat [gi ((swp d a p))[i1]!]))=some (R6 (swp (swp d a p) (i1) (j1)));rw[p_]
      ·refine RA.run (cx:=⟨pg,_,_,_,_,_,_,_⟩) gV au ak (al [7]++tk [12]++al [13]++tk [14]++al [15]) (e:=false) au ?_;refine⟨_,ld hy,?_⟩;refine⟨aN _,ll (bq.2 hx),_,ld hx,?_⟩;refine⟨aN _,ll (bq.2 hy),_,ug hy,?_⟩;refine RA.kD id au hk ⟨⟨rfl,rfl,rfl,rfl,trivial⟩,⟨?_,trivial⟩,rfl⟩;show some (hY.row 2 1 (((n5 (swp d a p)).set ((i1:Nat):Int).toNat [gi ((swp d a p))[j1]!]).set ((j1:Nat):Int).toNat [gi ((swp d a p))[i1]!]))=some (R6 (swp (swp d a p) (i1) (j1)));rw[p_]
 ·refine RA.run (cx:=⟨pg,_,_,_,_,_,_,_⟩) gV au ak (tk [0,1,2,3,4,5,6,8,9,10]) (e:=false) au ?_;refine⟨aN _,ll (bq.2 hy),?_⟩;refine⟨aN _,ll (bq.2 hx),?_⟩;refine RA.both 7 11 (iV au) (iY.read 7 gV rfl rfl ⟨_,ld hy,?_⟩) (iY.read 11 gV rfl rfl ⟨_,ld hx,?_⟩)
  ·refine RA.run (cx:=⟨pg,_,_,_,_,_,_,_⟩) gV au ak (al [11]++tk [12]++al [13]++tk [14]++al [15]) (e:=false) au ?_;refine⟨_,ld hx,?_⟩;refine⟨aN _,ll (bq.2 hx),_,ld hx,?_⟩;refine⟨aN _,ll (bq.2 hy),_,ug hy,?_⟩;refine RA.kD id au hk ⟨⟨rfl,rfl,rfl,trivial⟩,⟨?_,trivial⟩,rfl⟩;show some (hY.row 2 1 (((n5 d).set ((a:Nat):Int).toNat [gi (d)[p]!]).set ((p:Nat):Int).toNat [gi (d)[a]!]))=some (R6 (swp d (a) (p)));rw[p_]
  ·refine RA.run (cx:=⟨pg,_,_,_,_,_,_,_⟩) gV au ak (al [7]++tk [12]++al [13]++tk [14]++al [15]) (e:=false) au ?_;refine⟨_,ld hy,?_⟩;refine⟨aN _,ll (bq.2 hx),_,ld hx,?_⟩;refine⟨aN _,ll (bq.2 hy),_,ug hy,?_⟩;refine RA.kD id au hk ⟨⟨rfl,rfl,rfl,trivial⟩,⟨?_,trivial⟩,rfl⟩;show some (hY.row 2 1 (((n5 d).set ((a:Nat):Int).toNat [gi (d)[p]!]).set ((p:Nat):Int).toNat [gi (d)[a]!]))=some (R6 (swp d (a) (p)));rw[p_]
end Go.Proofs.YtadildidlcbbkaaGreatDoor
namespace Go.Proofs
open Go.Shelf
def Tryz.IA:Go.Shelf.Ren:=⟨fun|125=>189|128=>245|129=>246|n=>n,fun|46=>219|3=>3|51=>315|53=>233|4=>4|5=>5|9=>9|n=>n,fun|n=>n⟩
def Tryz.QX:Go.Proofs.Lays.n125 Tryz.prog Tryz.IA:={
 mixed:=au
 f125:=Tryz.func189.trans ah
 f128:=Tryz.func245.trans ah
 f129:=Tryz.func246.trans ah
 t3:=Tryz.underlying3
 a3:=Tryz.isAgg3
 z3:=Tryz.sizeOf3
 v3:=Tryz.zeroValue3
 t4:=Tryz.underlying4
 a4:=Tryz.isAgg4
 z4:=Tryz.sizeOf4
 v4:=Tryz.zeroValue4
 t5:=Tryz.underlying5
 a5:=Tryz.isAgg5
 z5:=Tryz.sizeOf5
 v5:=Tryz.zeroValue5
 t9:=Tryz.underlying9
 a9:=Tryz.isAgg9
 z9:=Tryz.sizeOf9
 v9:=Tryz.zeroValue9
 t46:=Tryz.underlying219
 a46:=Tryz.isAgg219
 z46:=Tryz.sizeOf219
 v46:=Tryz.zeroValue219
 t51:=Tryz.underlying315
 a51:=Tryz.isAgg315
 z51:=Tryz.sizeOf315
 v51:=Tryz.zeroValue315
 t53:=Tryz.underlying233
 a53:=Tryz.isAgg233
 z53:=Tryz.sizeOf233
 v53:=Tryz.zeroValue233}
def Tryz.bits_Len(x:Int)(w:World)(h0:0<=x)(h1:x<=18446744073709551615):
  Calls Tryz.prog 189 #[.int .u64 x] w λe w'=>e=.returned (.int .i64 (Lib.bitLen x.toNat))/\w'=w:=Any.bits_Len Tryz.QX x w h0 h1
end Go.Proofs
namespace Go.Proofs.YtadildidlcbbkaaGreatDoor
open Go.GK Go.PL Go.RowKit
open Go.Sort (swp ltInt PermIn)
open IntKind Go.Proofs.Tryz
set_option maxRecDepth 100000
def PX(r:Int):Hf pg 287 1 [.p 0 0] [(0,.hZ 360 [.v (.int .u64 r)])] (λg σ n=>∃x:Int,g=.v (.int .u64 x)/\σ=[(0,.hZ 360 [.v (.int .u64 x)])]/\n=1):=by
 refine Hf.jK (Q:=λg σ _=>∃x:Int,g=.v (.int .u64 x)/\gW σ 0=some (.hZ 360 [.v (.int .u64 x)])) (Hf.of gV func287 rfl ntmps287 rfl results287 call287 λH0 S0 w0 h0 g0=>?_) ?_
 ·refine iU [0] false (tk [0,1,3,4]) au (RA.both 2 5 (iV au) (iY.read 2 gV rfl rfl ?_) (iY.read 5 gV rfl rfl ?_))
  ·refine RA.run (e:=true) gV au (λ_ _ h=>h) (al [5]++tk [6,7,8]++al [9]) au ⟨ax,(V (iU [0] false (tk [0,1,3,4]) au (RA.both 2 5 (iV au) (iY.read 2 gV rfl rfl ?_) (iY.read 5 gV rfl rfl ?_))))⟩
   ·refine RA.run (e:=true) gV au (λ_ _ h=>h) (al [5]++tk [6,7,8]++al [9]) au ⟨ax,(V (iU [0] false (tk [0,1,3,4]) au (RA.both 2 5 (iV au) (iY.read 2 gV rfl rfl ?_) (iY.read 5 gV rfl rfl ?_))))⟩
    ·exact RA.run (e:=true) gV au (λ_ _ h=>h) (al [5]++tk [6,7,8]++al [9]) au ⟨ax,(V ⟨_,rfl,rfl⟩)⟩
    exact RA.run (e:=true) gV au (λ_ _ h=>h) (tk [6]++al [2]++tk [7,8]++al [9]) au ⟨ax,(V ⟨_,rfl,rfl⟩)⟩
   refine RA.run (e:=true) gV au (λ_ _ h=>h) (tk [6]++al [2]++tk [7,8]++al [9]) au ⟨ax,(V (iU [0] false (tk [0,1,3,4]) au (RA.both 2 5 (iV au) (iY.read 2 gV rfl rfl ?_) (iY.read 5 gV rfl rfl ?_))))⟩
   ·exact RA.run (e:=true) gV au (λ_ _ h=>h) (al [5]++tk [6,7,8]++al [9]) au ⟨ax,(V ⟨_,rfl,rfl⟩)⟩
   exact RA.run (e:=true) gV au (λ_ _ h=>h) (tk [6]++al [2]++tk [7,8]++al [9]) au ⟨ax,(V ⟨_,rfl,rfl⟩)⟩
  refine RA.run (e:=true) gV au (λ_ _ h=>h) (tk [6]++al [2]++tk [7,8]++al [9]) au ⟨ax,(V (iU [0] false (tk [0,1,3,4]) au (RA.both 2 5 (iV au) (iY.read 2 gV rfl rfl ?_) (iY.read 5 gV rfl rfl ?_))))⟩
  ·refine RA.run (e:=true) gV au (λ_ _ h=>h) (al [5]++tk [6,7,8]++al [9]) au ⟨ax,(V (iU [0] false (tk [0,1,3,4]) au (RA.both 2 5 (iV au) (iY.read 2 gV rfl rfl ?_) (iY.read 5 gV rfl rfl ?_))))⟩
   ·exact RA.run (e:=true) gV au (λ_ _ h=>h) (al [5]++tk [6,7,8]++al [9]) au ⟨ax,(V ⟨_,rfl,rfl⟩)⟩
   exact RA.run (e:=true) gV au (λ_ _ h=>h) (tk [6]++al [2]++tk [7,8]++al [9]) au ⟨ax,(V ⟨_,rfl,rfl⟩)⟩
  refine RA.run (e:=true) gV au (λ_ _ h=>h) (tk [6]++al [2]++tk [7,8]++al [9]) au ⟨ax,(V (iU [0] false (tk [0,1,3,4]) au (RA.both 2 5 (iV au) (iY.read 2 gV rfl rfl ?_) (iY.read 5 gV rfl rfl ?_))))⟩
  ·exact RA.run (e:=true) gV au (λ_ _ h=>h) (al [5]++tk [6,7,8]++al [9]) au ⟨ax,(V ⟨_,rfl,rfl⟩)⟩
  exact RA.run (e:=true) gV au (λ_ _ h=>h) (tk [6]++al [2]++tk [7,8]++al [9]) au ⟨ax,(V ⟨_,rfl,rfl⟩)⟩
 rintro g σ n ⟨x,rfl,h0⟩;exact⟨id,.v (.int .u64 x),[(0,.hZ 360 [.v (.int .u64 x)])],1,⟨x,rfl,rfl,rfl⟩,rfl,⟨h0,trivial⟩,rfl⟩
def TE(x:Int)(m:Nat)(h:m<4611686018427387904):∃k:Nat,kh .and .u64 x (m:Int)=(k:Int)/\k<=m:=by
 have hm:(BitVec.ofInt 64 (m:Int)).toNat=m:=by
  rw[cQ,cV,cI az]
 have hle:(BitVec.ofInt 64 x&&& BitVec.ofInt 64 (m:Int)).toNat<=m:=by
  rw[gC,hm];exact Nat.and_le_right
 exact⟨(BitVec.ofInt 64 x&&& BitVec.ofInt 64 (m:Int)).toNat,(lR (x:=(BitVec.ofInt 64 x&&& BitVec.ofInt 64 (m:Int)).toNat) az),hle⟩
def I5(n:Nat)(h:n<4611686018427387904):Rt pg 189 [gu n] (gi (Lib.bitLen n:Nat)):=
 Rt.calls call189 [.int .u64 n] _ λw=>(Tryz.bits_Len (n:Int) w az az).mono λe w' ⟨he,hw⟩=>⟨by rw[he];simp,by rw[hw];exact Below.refl _ _⟩
def uE:∀n:Fin 50,2^Lib.bitLen n.val<=2*n.val+1/\Lib.bitLen n.val<=6:=m7
def OZ:∀n:Fin 50,n.val=0\/2^Lib.bitLen n.val<=2*n.val:=m7
def yd{n:Nat}(h:n<50):2^Lib.bitLen n-1<4611686018427387904:=by
 have:=(uE ⟨n,h⟩).1;simp only at this;omega
def R_{n o:Nat}(h:n<50)(h1:1<=n)(ho:o<=2^Lib.bitLen n-1):o<=2*n:=by
 have:=(uE ⟨n,h⟩).1;simp only at this;omega
def OY{n o:Nat}(h:n<50)(h1:1<=n)(ho:o<=2^Lib.bitLen n-1):o<2*n:=by
 have:=(OZ ⟨n,h⟩);simp only at this;omega
def PA{n o:Nat}{x:Int}(h:n<50)(ho:kh .and .u64 x ((2^Lib.bitLen n-1:Nat):Int)=(o:Int))(hol:o<=2^Lib.bitLen n-1):i64.wrap (kh .and .u64 x (u64.wrap (((2^Lib.bitLen n:Nat):Int) -1)))=(o:Int):=by
 have h1:=yd h;have h2:0<2^Lib.bitLen n:=Nat.pow_pos az;have e:((2^Lib.bitLen n:Nat):Int) -1=((2^Lib.bitLen n-1:Nat):Int):=az
 rw[e,lR az,ho,ic az az]
def Rk(n:Nat)(h:n<50):Rt pg 286 [gi n] (gu (2^Lib.bitLen n)):=by
 have h6:=(uE ⟨n,h⟩).2;have h1:=yd h;simp only at h6;refine Rt.of gV func286 rfl ntmps286 rfl results286 call286 λH0 S0 w0 h0 g0=>?_;refine GO (I5 n az) (congrArg (λi=>some (189,[GV.v (.int .u64 i)])) (lR az)) ?_;refine⟨aN _,?_,rfl⟩;refine congrArg (λi=>GV.v (.int .u64 i)) ?_;rw[bj,cq (show Lib.bitLen n<=IntKind.u64.bits from by show Lib.bitLen n<=64;omega),Int.one_mul,show ((2:Int) ^Lib.bitLen n)=((2^Lib.bitLen n:Nat):Int) by simp,lR az]
theorem Ra(d:Array Int)(a b:Nat)(hlen:d.size<1099511627776)(hab:a+13≤b)(h50:b<a+50)(hb:b≤d.size):
  Hf pg 238 1 [.o 0,gi a,gi b] [(0,R6 d)] (fun G σ n=>G=.tup []∧∃d',PermIn a b d d'∧σ=[(0,R6 d')]∧n=1):=by
 refine Hf.jK (Q:=fun G σ _=>G=.tup []∧∃d',PermIn a b d d'∧gW σ 0=some (R6 d')) ?_ (fun G σ n ⟨hG,d',hp,h0⟩=>⟨id,.tup [],[(0,R6 d')],1,⟨rfl,d',hp,rfl,rfl⟩,by rw[hG];rfl,⟨h0,trivial⟩,rfl⟩);have el:i64.wrap ((b:Int) - (a:Int))=((b-a:Nat):Int):=sr b a az az;have hL:b-a<50:=by omega
 have hL2:13≤b-a:=by omega
 have eq4:i64.wrap (i64.wrap (((b-a:Nat):Int).tdiv 4)*2)=(((b-a) /4*2:Nat):Int):=by
  rw[q4 _ az,ic az az];omega
 refine Hf.of gV func238 rfl ntmps238 rfl results238 call238 fun H0 S0 w0 h0 g0=>?_;refine p1 ?_ (by rw[el];exact decide_eq_true az);refine GO (Rk (b-a) hL) (congrArg (fun i=>some (286,[gi i])) el) ?_;refine⟨by decide,?_⟩;have hI:∃I,I+1=a+(b-a) /4*2:=⟨a+(b-a) /4*2-1,by omega⟩;obtain⟨I,hI⟩:=hI;have e0:i64.wrap (i64.wrap ((a:Int)+(((b-a) /4*2:Nat):Int)) -1)=(I:Int):=by
  rw[na _ _ az,ic az az];omega
 have e2:i64.wrap (i64.wrap ((a:Int)+(((b-a) /4*2:Nat):Int))+1)=((I+2:Nat):Int):=by
  rw[na _ _ az,ic az az];omega
 refine JK.loop (α:=Array Int×Nat×Int) (fun z=>⟨[(0,.o 0),(1,gi a),(6,gi (b-a:Nat)),(7,.p 1 0),(8,gu (2^Lib.bitLen (b-a))),(9,gi (I+z.2.1:Nat))],[(0,R6 z.1),(1,.hZ 360 [.v (.int .u64 z.2.2)])],2⟩) (fun z=>PermIn a b d z.1∧z.2.1≤3) (fun z=>3-z.2.1) (d,0,u64.wrap ((b-a:Nat):Int)) id ?_ ⟨Go.Sort.permIn_refl d a b,by simp only;omega⟩ ?_
 ·exact⟨⟨rfl,rfl,congrArg (fun i=>some (gi i)) el,rfl,rfl,congrArg (fun i=>some (gi i)) (by rw[el,eq4];exact e0),trivial⟩,⟨rfl,congrArg (fun i=>some (hY.hZ 360 [GV.v (.int .u64 (u64.wrap i))])) el,trivial⟩,rfl⟩
 ·rintro⟨d1,k,r⟩ ⟨h1,h2⟩;simp only at h1 h2;have hs:d1.size=d.size:=h1.1;refine V ?_;refine⟨by decide,?_⟩;by_cases hk:k<3
  ·refine p1 ?_ (by rw[eq4,e2];exact decide_eq_true an);refine ig (PX r) (fun _=>1) rfl rfl ⟨rfl,trivial⟩ rfl aA ?_;rintro _ _ _ ⟨x,rfl,rfl,rfl⟩;obtain⟨o,ho,hol⟩:=TE x (2^Lib.bitLen (b-a) -1) (yd hL);have eo:i64.wrap (kh .and .u64 x (u64.wrap (((2^Lib.bitLen (b-a):Nat):Int) -1)))=(o:Int):=PA hL ho hol;have hlo:o≤2*(b-a):=R_ hL az hol;have hlo2:o<2*(b-a):=OY hL az hol;by_cases hc:b-a≤o
   ·refine p1 ?_ (by rw[eo];exact decide_eq_true az);have es:i64.wrap ((o:Int) - ((b-a:Nat):Int))=((o- (b-a):Nat):Int):=sr o (b-a) hc az;have hx:I+k<d1.size:=by omega
    have hy:a+(o- (b-a))<d1.size:=by omega
    have ey:i64.wrap ((a:Int)+i64.wrap (i64.wrap (kh .and .u64 x (u64.wrap (((2^Lib.bitLen (b-a):Nat):Int) -1))) - ((b-a:Nat):Int)))=((a+(o- (b-a)):Nat):Int):=by rw[eo,es,na _ _ az]
    refine JK.pb [0] ⟨[(0,.o 0),(1,gi a),(6,gi (b-a:Nat)),(7,.p 1 0),(8,gu (2^Lib.bitLen (b-a))),(9,gi (I+k:Nat))],[(0,R6 (swp d1 (I+k) (a+(o- (b-a))))),(1,.hZ 360 [.v (.int .u64 x)])],2⟩ gV ?_ (fun hk=>?_)
    ·refine V ?_;exact⟨(swp d1 (I+k) (a+(o- (b-a))),k+1,x),id,⟨⟨rfl,rfl,rfl,rfl,rfl,h_ az,trivial⟩,⟨rfl,rfl,trivial⟩,rfl⟩,⟨G5 h1 hb az az az az,by simp only;omega⟩,by simp only;omega⟩
    ·refine RA.run (cx:=⟨pg,_,_,_,_,_,_,_⟩) gV au ak (tk [0,1,2,3,4,5,6,7,8,9,10,12,13,14]) (e:=false) au ?_;refine⟨by rw[ey];exact aN _,by rw[ey];exact ll (bq.2 hy),?_⟩;refine⟨aN _,ll (bq.2 hx),?_⟩;refine RA.both 11 15 (iV au) (iY.read 11 gV rfl rfl ⟨_,by rw[ey];exact ld hy,?_⟩) (iY.read 15 gV rfl rfl ⟨_,ld hx,?_⟩)
     ·refine RA.run (cx:=⟨pg,_,_,_,_,_,_,_⟩) gV au ak (al [15]++tk [16]++al [17]++tk [18]++al [19]) (e:=false) au ?_;refine⟨_,ld hx,?_⟩;refine⟨aN _,ll (bq.2 hx),_,ld hx,?_⟩;refine⟨by rw[ey];exact aN _,by rw[ey];exact ll (bq.2 hy),_,by rw[ey];exact ug hy,?_⟩;refine RA.kD id au hk ⟨⟨rfl,rfl,rfl,rfl,rfl,rfl,trivial⟩,⟨?_,rfl,trivial⟩,rfl⟩;show some (hY.row 2 1 (((n5 d1).set ((I+k:Nat):Int).toNat [gi d1[a+(o- (b-a))]!]).set (i64.wrap ((a:Int)+i64.wrap (i64.wrap (kh .and .u64 x (u64.wrap (((2^Lib.bitLen (b-a):Nat):Int) -1))) - ((b-a:Nat):Int)))).toNat [gi d1[I+k]!]))=some (R6 (swp d1 (I+k) (a+(o- (b-a)))));rw[ey,p_]
     ·refine RA.run (cx:=⟨pg,_,_,_,_,_,_,_⟩) gV au ak (al [11]++tk [16]++al [17]++tk [18]++al [19]) (e:=false) au ?_;refine⟨_,by rw[ey];exact ld hy,?_⟩;refine⟨aN _,ll (bq.2 hx),_,ld hx,?_⟩;refine⟨by rw[ey];exact aN _,by rw[ey];exact ll (bq.2 hy),_,by rw[ey];exact ug hy,?_⟩;refine RA.kD id au hk ⟨⟨rfl,rfl,rfl,rfl,rfl,rfl,trivial⟩,⟨?_,rfl,trivial⟩,rfl⟩;show some (hY.row 2 1 (((n5 d1).set ((I+k:Nat):Int).toNat [gi d1[a+(o- (b-a))]!]).set (i64.wrap ((a:Int)+i64.wrap (i64.wrap (kh .and .u64 x (u64.wrap (((2^Lib.bitLen (b-a):Nat):Int) -1))) - ((b-a:Nat):Int)))).toNat [gi d1[I+k]!]))=some (R6 (swp d1 (I+k) (a+(o- (b-a)))));rw[ey,p_]
   ·refine p2 ?_ (by rw[eo];exact decide_eq_false az);have hx:I+k<d1.size:=by omega
    have hy:a+o<d1.size:=by omega
    have ey:i64.wrap ((a:Int)+i64.wrap (kh .and .u64 x (u64.wrap (((2^Lib.bitLen (b-a):Nat):Int) -1))))=((a+o:Nat):Int):=by rw[eo,na _ _ az]
    refine JK.pb [0] ⟨[(0,.o 0),(1,gi a),(6,gi (b-a:Nat)),(7,.p 1 0),(8,gu (2^Lib.bitLen (b-a))),(9,gi (I+k:Nat))],[(0,R6 (swp d1 (I+k) (a+o))),(1,.hZ 360 [.v (.int .u64 x)])],2⟩ gV ?_ (fun hk=>?_)
    ·refine V ?_;exact⟨(swp d1 (I+k) (a+o),k+1,x),id,⟨⟨rfl,rfl,rfl,rfl,rfl,h_ az,trivial⟩,⟨rfl,rfl,trivial⟩,rfl⟩,⟨G5 h1 hb az az az az,by simp only;omega⟩,by simp only;omega⟩
    ·refine RA.run (cx:=⟨pg,_,_,_,_,_,_,_⟩) gV au ak (tk [0,1,2,3,4,5,6,7,8,9,10,12,13,14]) (e:=false) au ?_;refine⟨by rw[ey];exact aN _,by rw[ey];exact ll (bq.2 hy),?_⟩;refine⟨aN _,ll (bq.2 hx),?_⟩;refine RA.both 11 15 (iV au) (iY.read 11 gV rfl rfl ⟨_,by rw[ey];exact ld hy,?_⟩) (iY.read 15 gV rfl rfl ⟨_,ld hx,?_⟩)
     ·refine RA.run (cx:=⟨pg,_,_,_,_,_,_,_⟩) gV au ak (al [15]++tk [16]++al [17]++tk [18]++al [19]) (e:=false) au ?_;refine⟨_,ld hx,?_⟩;refine⟨aN _,ll (bq.2 hx),_,ld hx,?_⟩;refine⟨by rw[ey];exact aN _,by rw[ey];exact ll (bq.2 hy),_,by rw[ey];exact ug hy,?_⟩;refine RA.kD id au hk ⟨⟨rfl,rfl,rfl,rfl,rfl,rfl,trivial⟩,⟨?_,rfl,trivial⟩,rfl⟩;show some (hY.row 2 1 (((n5 d1).set ((I+k:Nat):Int).toNat [gi d1[a+o]!]).set (i64.wrap ((a:Int)+i64.wrap (kh .and .u64 x (u64.wrap (((2^Lib.bitLen (b-a):Nat):Int) -1))))).toNat [gi d1[I+k]!]))=some (R6 (swp d1 (I+k) (a+o)));rw[ey,p_]
     ·refine RA.run (cx:=⟨pg,_,_,_,_,_,_,_⟩) gV au ak (al [11]++tk [16]++al [17]++tk [18]++al [19]) (e:=false) au ?_;refine⟨_,by rw[ey];exact ld hy,?_⟩;refine⟨aN _,ll (bq.2 hx),_,ld hx,?_⟩;refine⟨by rw[ey];exact aN _,by rw[ey];exact ll (bq.2 hy),_,by rw[ey];exact ug hy,?_⟩;refine RA.kD id au hk ⟨⟨rfl,rfl,rfl,rfl,rfl,rfl,trivial⟩,⟨?_,rfl,trivial⟩,rfl⟩;show some (hY.row 2 1 (((n5 d1).set ((I+k:Nat):Int).toNat [gi d1[a+o]!]).set (i64.wrap ((a:Int)+i64.wrap (kh .and .u64 x (u64.wrap (((2^Lib.bitLen (b-a):Nat):Int) -1))))).toNat [gi d1[I+k]!]))=some (R6 (swp d1 (I+k) (a+o)));rw[ey,p_]
  ·refine p2 ?_ (by rw[eq4,e2];exact decide_eq_false an);refine V ?_;exact⟨rfl,d1,h1,rfl⟩
end Go.Proofs.YtadildidlcbbkaaGreatDoor
namespace Go.Proofs.YtadildidlcbbkaaGreatDoor
open Go.GK Go.PL Go.RowKit
open Go.Sort (swp ltInt PermIn SortedIn Below median partition partialInsertionSort scanSorted insertionSort heapSort)
open IntKind Go.Proofs.Tryz
set_option maxRecDepth 100000
def Pz{d:Array Int}{a b:Nat}(hab:a<b)(hb:b<=d.size)(hB:Below ltInt a b d)(h:scanSorted ltInt d b (a+1)=b):SortedIn ltInt a b d:=by
 have h1:=Go.Sort.partialInsertionSort_holds Go.Sort.swo_ltInt d a b hab hb hB;have e:partialInsertionSort ltInt d a b=(d,true):=by
  unfold partialInsertionSort;rw[Go.Sort.partialIns_succ];simp only[h,if_true]
 rw[e]at h1;exact h1.2 rfl
def Tn{d:Array Int}{a b:Nat}(h8:a+8<=b):a<=(median ltInt d (a+(b-a) /4*1) (a+(b-a) /4*2) (a+(b-a) /4*3) 0).1/\(median ltInt d (a+(b-a) /4*1) (a+(b-a) /4*2) (a+(b-a) /4*3) 0).1<b:=by
 rcases Go.Sort.median_mem ltInt d (a+(b-a) /4*1) (a+(b-a) /4*2) (a+(b-a) /4*3) 0 with h|h|h<;>rw[h] <;>omega
def P4(d:Array Int)(a b p:Nat)(hlen:d.size<1099511627776)(hap:a<=p)(hpb:p<b)(hab:a+1<b)(hb:b<=d.size):
  Hf pg 244 1 [.o 0,gi a,gi b,gi p] [(0,R6 d)] (λG σ n=>G=.tup [gi ((partition ltInt d a b p).1:Nat),.v (.bool (partition ltInt d a b p).2.1)]/\σ=[(0,R6 (partition ltInt d a b p).2.2)]/\n=1):=
 (O8 d a b p hlen hap hpb hab hb).jK λ_ _ _ ⟨hG,h0⟩=>⟨id,.tup [gi ((partition ltInt d a b p).1:Nat),.v (.bool (partition ltInt d a b p).2.1)],[(0,R6 (partition ltInt d a b p).2.2)],1,⟨rfl,rfl,rfl⟩,by rw[hG];rfl,⟨h0,trivial⟩,rfl⟩
def SM(d:Array Int)(a b:Nat)(hlen:d.size<1099511627776)(hab:a+8<=b)(h50:b<a+50)(hb:b<=d.size):
  Hf pg 239 1 [.o 0,gi a,gi b] [(0,R6 d)] (λG σ n=>∃p h:Nat,a<=p/\p<b/\h<=1/\G=.tup [gi (p:Nat),gi (h:Nat)]/\σ=[(0,R6 d)]/\n=1):=by
 refine (RY d a b hlen hab h50 hb).jK λ_ _ _ ⟨hG,h0⟩=>?_;obtain⟨m1,m2⟩:=Tn (d:=d) hab;refine⟨id,.tup [gi ((median ltInt d (a+(b-a) /4*1) (a+(b-a) /4*2) (a+(b-a) /4*3) 0).1:Nat),gi ((if (median ltInt d (a+(b-a) /4*1) (a+(b-a) /4*2) (a+(b-a) /4*3) 0).2=0 then 1 else 0:Nat):Int)],[(0,R6 d)],1,⟨_,_,m1,m2,?_,rfl,rfl,rfl⟩,?_,⟨h0,trivial⟩,rfl⟩
 ·split<;>omega
 rw[hG];show GV.tup _=GV.tup _;refine congrArg (λi=>GV.tup [gi ((median ltInt d (a+(b-a) /4*1) (a+(b-a) /4*2) (a+(b-a) /4*3) 0).1:Nat),gi i]) ?_;split<;>rfl
def RS(d:Array Int)(a b:Nat)(hlen:d.size<1099511627776)(hab:a+1<=b)(h50:b<a+50)(hb:b<=d.size):
  Hf pg 241 1 [.o 0,gi a,gi b] [(0,R6 d)] (λG σ n=>G=.v (.bool (decide (scanSorted ltInt d b (a+1)=b)))/\σ=[(0,R6 d)]/\n=1):=
 (Ro d a b hlen hab h50 hb).jK λ_ _ _ ⟨hG,h0⟩=>⟨id,.v (.bool (decide (scanSorted ltInt d b (a+1)=b))),[(0,R6 d)],1,⟨rfl,rfl,rfl⟩,by rw[hG];rfl,⟨h0,trivial⟩,rfl⟩
def Sub.bool{c:Bool}:Sub (.v (.bool c)) (.b c):=λ{H u} h=>zt (H:=H) (x:=.v (.bool c)) (y:=.b c) (u:=u) rfl h
set_option maxHeartbeats 4000000 in
def QJ(d0:Array Int)(h50:d0.size<50)(hn0:d0.toList.Nodup):∀(n:Nat) (d:Array Int) (a b l:Nat),b-a<=n->d.size=d0.size->d.toList.Nodup->a<=b->b<=d.size->l<1000->Below ltInt a b d->
  Hf pg 188 1 [.o 0,gi a,gi b,gi l] [(0,R6 d)] (λG σ n=>G=.tup []/\∃R,PermIn a b d R/\SortedIn ltInt a b R/\σ=[(0,R6 R)]/\n=1):=by
 intro n;induction n using Nat.strongRecOn with
 |ind n ih=>
 intro d a b l hn hsz hnd hab hb hl hB;refine Hf.jK (Q:=λG σ _=>G=.tup []/\∃R,PermIn a b d R/\SortedIn ltInt a b R/\gW σ 0=some (R6 R)) ?_ (λG σ n ⟨hG,d',hp,hs,h0⟩=>⟨id,.tup [],[(0,R6 d')],1,⟨rfl,d',hp,hs,rfl,rfl⟩,by rw[hG];rfl,⟨h0,trivial⟩,rfl⟩);refine Hf.of gV func188 rfl ntmps188 rfl results188 call188 λH0 S0 w0 h0 g0=>?_;refine JK.loop (α:=Array Int×(Nat×Nat×Nat)×(Bool×Bool)) (λz=>⟨[(0,.o 0),(1,gi (z.2.1.1:Nat)),(2,gi (z.2.1.2.1:Nat)),(3,gi (z.2.1.2.2:Nat)),(8,.v (.bool z.2.2.1)),(9,.v (.bool z.2.2.2))],[(0,R6 z.1)],1⟩)
  (λz=>Fin a b d z.2.1.1 z.2.1.2.1 z.1/\z.1.toList.Nodup/\z.2.1.2.2<1000/\z.2.1.2.1-z.2.1.1<=b-a) (λz=>z.2.1.2.1-z.2.1.1) (d,(a,b,l),(true,true)) id ?_ ⟨⟨rfl,hab,hb,hB,λR h1 h2=>⟨h1,h2⟩⟩,hnd,hl,aL _⟩ ?_
 ·exact⟨⟨rfl,rfl,rfl,rfl,rfl,rfl,trivial⟩,⟨rfl,trivial⟩,rfl⟩
 rintro⟨d1,⟨x,y,m⟩,wb,wp⟩ ⟨⟨f1,f2,f3,f4,f5⟩,hn1,hm,hxy⟩;simp only at f1 f2 f3 f4 f5 hn1 hm hxy;have el:i64.wrap ((y:Int) - (x:Int))=((y-x:Nat):Int):=sr y x az az;refine VM 25 ?_;by_cases h12:y-x<=12
 ·refine p1 ?_ (by rw[el];exact decide_eq_true az);refine V ?_;refine ig (RV d1 x y az az az) id rfl rfl ⟨rfl,trivial⟩ rfl ay ?_;rintro _ _ _ ⟨rfl,rfl,rfl⟩;obtain⟨i1,i2⟩:=Go.Sort.insertionSort_holds Go.Sort.swo_ltInt d1 x y f2 f3;obtain⟨j1,j2⟩:=f5 _ i1 i2;exact⟨rfl,_,j1,j2,rfl⟩
 refine p2 ?_ (by rw[el];exact decide_eq_false az);by_cases hm0:m=0
 ·refine p1 ?_ (decide_eq_true (show ((m:Nat):Int)=0 by omega));refine V ?_;refine ig (Ox d1 x y az az az) id rfl rfl ⟨rfl,trivial⟩ rfl ay ?_;rintro _ _ _ ⟨rfl,rfl,rfl⟩;obtain⟨i1,i2⟩:=Go.Sort.heapSort_holds Go.Sort.swo_ltInt d1 x y f2 f3;obtain⟨j1,j2⟩:=f5 _ i1 i2;exact⟨rfl,_,j1,j2,rfl⟩
 refine p2 ?_ (decide_eq_false an);show JK _ _ _ _;refine JK.cut (α:=Array Int×Nat) (λz=>⟨[(0,.o 0),(1,gi x),(2,gi y),(3,gi (z.2:Nat)),(8,.v (.bool wb)),(9,.v (.bool wp)),(10,gi (y-x:Nat))],[(0,R6 z.1)],1⟩) (λz=>PermIn x y d1 z.1/\z.2<1000) ?_ ?_
 ·refine V ?_;cases wb with
  |true=>
   exact⟨(d1,m),id,⟨⟨rfl,rfl,rfl,rfl,rfl,rfl,congrArg (λi=>some (gi i)) el,trivial⟩,⟨rfl,trivial⟩,rfl⟩,Go.Sort.permIn_refl d1 x y,hm⟩
  |false=>
   refine ig (Ra d1 x y az az az az) id rfl rfl ⟨rfl,trivial⟩ rfl ay ?_;rintro _ _ _ ⟨rfl,d2,hp,rfl,rfl⟩;exact⟨(d2,m-1),id,⟨⟨rfl,rfl,rfl,congrArg (λi=>some (gi i)) (sr m 1 az az),rfl,rfl,congrArg (λi=>some (gi i)) el,trivial⟩,⟨rfl,trivial⟩,rfl⟩,hp,by simp only;omega⟩
 rintro⟨d2,m2⟩ ⟨hp,hm2⟩;simp only at hp hm2;have hs2:d2.size=d1.size:=hp.1;have hn2:=s7 f3 hp hn1;have hf2:=Fin.perm (⟨f1,f2,f3,f4,f5⟩:Fin a b d x y d1) hp;obtain⟨k1,k2,k3,k4,k5⟩:=hf2;refine V ?_;refine sw (SM d2 x y az az az az) id rfl rfl ⟨rfl,trivial⟩ rfl ay ?_;rintro _ _ _ ⟨p,h,hp1,hp2,hh,rfl,rfl,rfl⟩;refine VM 15 ?_;refine p2 ?_ ai;show JK _ _ _ _;refine JK.cut (α:=Unit) (λ_=>⟨[(0,.o 0),(1,gi x),(2,gi y),(3,gi (m2:Nat)),(10,gi (y-x:Nat)),(11,gi (p:Nat))],[(0,R6 d2)],1⟩) (λ_=>True) ?_ ?_
 ·refine V ?_;cases wb with
  |false=>exact⟨(),id,⟨⟨rfl,rfl,rfl,rfl,rfl,rfl,trivial⟩,⟨rfl,trivial⟩,rfl⟩,trivial⟩
  |true=>
   cases wp with
   |false=>exact⟨(),id,⟨⟨rfl,rfl,rfl,rfl,rfl,rfl,trivial⟩,⟨rfl,trivial⟩,rfl⟩,trivial⟩
   |true=>
    by_cases hh1:h=1
    ·refine p1 ?_ (decide_eq_true (show ((h:Nat):Int)=1 by omega));have h7:=RS d2 x y az az az az;by_cases hsc:scanSorted ltInt d2 y (x+1)=y
     ·rw[decide_eq_true hsc]at h7;refine ig h7 id rfl rfl ⟨rfl,trivial⟩ rfl ay ?_;rintro _ _ _ ⟨rfl,rfl,rfl⟩;obtain⟨j1,j2⟩:=k5 d2 (Go.Sort.permIn_refl d2 x y) (Pz az k3 k4 hsc);exact⟨rfl,_,j1,j2,rfl⟩
     rw[decide_eq_false hsc]at h7;refine ig h7 id rfl rfl ⟨rfl,trivial⟩ rfl ay ?_;rintro _ _ _ ⟨rfl,rfl,rfl⟩;exact⟨(),id,⟨⟨rfl,rfl,rfl,rfl,rfl,rfl,trivial⟩,⟨rfl,trivial⟩,rfl⟩,trivial⟩
    refine p2 ?_ (decide_eq_false (show¬((h:Nat):Int)=1 by omega));exact⟨(),id,⟨⟨rfl,rfl,rfl,rfl,rfl,rfl,trivial⟩,⟨rfl,trivial⟩,rfl⟩,trivial⟩
 rintro _ _;have hpart:=Go.Sort.round_part (lt:=ltInt) Go.Sort.swo_ltInt (Go.Sort.partition_holds ltInt) (d3:=d2) (d4:=(partition ltInt d2 x y p).2.2) (mid:=(partition ltInt d2 x y p).1) (ap:=(partition ltInt d2 x y p).2.1) hp1 hp2 k3 k4 rfl;generalize hP:partition ltInt d2 x y p=P at hpart;obtain⟨mid,ap,d4⟩:=P;simp only at hpart;obtain⟨q1,q2,q3,q4',q5,q6,q7⟩:=hpart;have hprt:=P4 d2 x y p az hp1 hp2 az k3;rw[hP]at hprt;simp only at hprt;have hpp:PermIn x y d2 d4:=by
  have:=(Go.Sort.partition_holds ltInt Go.Sort.swo_ltInt d2 x y p hp1 hp2 k3).2.2.1;rw[hP]at this;exact this
 have hn4:d4.toList.Nodup:=s7 k3 hpp hn2;refine V ?_;refine iU [] false (tk [0,1,2,3,4,5,6,7,8,9,10,11]) au ?_;by_cases hx0:0<x
 ·refine p1 ?_ aj;have ex:i64.wrap ((x:Int) -1)=((x-1:Nat):Int):=sr x 1 az az;refine⟨by rw[ex];omega,by rw[ex];exact ll az,_,by rw[ex];exact ld az,?_⟩;refine⟨aN p,ll az,_,ld az,?_⟩;refine kE 12 true (tk [13,14]) (nL d2[x-1]! d2[p]!) rfl (congrArg (λc=>bif (c==true) then some (242,[gi d2[x-1]!,gi d2[p]!]) else none) (decide_eq_true (show (x:Int) >0 by omega))) au ?_;refine V ?_;refine p2 ?_ (show (!ltInt d2[x-1]! d2[p]!)=false by rw[Io hx0 k4 hp1 hp2 k3 hn2];rfl);refine ig hprt id rfl rfl ⟨rfl,trivial⟩ rfl ay ?_;rintro _ _ _ ⟨rfl,rfl,rfl⟩;have eL:i64.wrap ((mid:Int) - (x:Int))=((mid-x:Nat):Int):=sr mid x az az;have eR:i64.wrap ((y:Int) - (mid:Int))=((y-mid:Nat):Int):=sr y mid az az;refine⟨by decide,?_⟩;by_cases hlr:mid-x<y-mid
  ·refine p1 ?_ (by rw[eL,eR];exact decide_eq_true az);refine JK.sub 8 _ rfl Sub.bool ?_;refine ig (ih (mid-x) az d4 x mid m2 (aL _) az hn4 q1 az hm2 q4') id rfl rfl ⟨rfl,trivial⟩ rfl ay ?_;rintro _ _ _ ⟨rfl,L,l1,l2,rfl,rfl⟩;have hnL:L.toList.Nodup:=s7 az l1 hn4;have hsL:L.size=d4.size:=l1.1;obtain⟨r1,r2⟩:=q6 L l1 l2;refine⟨(L,(mid+1,y,m2),(_,ap)),id,⟨⟨rfl,h_ az,rfl,rfl,rfl,rfl,trivial⟩,⟨rfl,trivial⟩,rfl⟩,⟨⟨by simp only;omega,by simp only;omega,by simp only;omega,r1,λR e1 e2=>?_⟩,hnL,hm2,by simp only;omega⟩,by simp only;omega⟩;obtain⟨t1,t2⟩:=r2 R e1 e2;exact k5 R t1 t2
  refine p2 ?_ (by rw[eL,eR];exact decide_eq_false az);refine JK.sub 8 _ rfl Sub.bool ?_;refine ig (ih (y- (mid+1)) az d4 (mid+1) y m2 (aL _) az hn4 az az hm2 q5) id rfl (by rw[<-n1 mid az];rfl) ⟨rfl,trivial⟩ rfl ay ?_;rintro _ _ _ ⟨rfl,L,l1,l2,rfl,rfl⟩;have hnL:L.toList.Nodup:=s7 az l1 hn4;have hsL:L.size=d4.size:=l1.1;obtain⟨r1,r2⟩:=q7 L l1 l2;refine⟨(L,(x,mid,m2),(_,ap)),id,⟨⟨rfl,rfl,rfl,rfl,rfl,rfl,trivial⟩,⟨rfl,trivial⟩,rfl⟩,⟨⟨by simp only;omega,by simp only;omega,by simp only;omega,r1,λR e1 e2=>?_⟩,hnL,hm2,by simp only;omega⟩,by simp only;omega⟩;obtain⟨t1,t2⟩:=r2 R e1 e2;exact k5 R t1 t2
 refine p2 ?_ ai;refine pN 12 true (tk [13,14]) rfl (congrArg (λc=>c== !true) (show decide ((x:Int) >0)=false from decide_eq_false az)) au ?_;refine V ?_;refine ig hprt id rfl rfl ⟨rfl,trivial⟩ rfl ay ?_;rintro _ _ _ ⟨rfl,rfl,rfl⟩;have eL:i64.wrap ((mid:Int) - (x:Int))=((mid-x:Nat):Int):=sr mid x az az;have eR:i64.wrap ((y:Int) - (mid:Int))=((y-mid:Nat):Int):=sr y mid az az;refine⟨by decide,?_⟩;by_cases hlr:mid-x<y-mid
 ·refine p1 ?_ (by rw[eL,eR];exact decide_eq_true az);refine JK.sub 8 _ rfl Sub.bool ?_;refine ig (ih (mid-x) az d4 x mid m2 (aL _) az hn4 q1 az hm2 q4') id rfl rfl ⟨rfl,trivial⟩ rfl ay ?_;rintro _ _ _ ⟨rfl,L,l1,l2,rfl,rfl⟩;have hnL:L.toList.Nodup:=s7 az l1 hn4;have hsL:L.size=d4.size:=l1.1;obtain⟨r1,r2⟩:=q6 L l1 l2;refine⟨(L,(mid+1,y,m2),(_,ap)),id,⟨⟨rfl,h_ az,rfl,rfl,rfl,rfl,trivial⟩,⟨rfl,trivial⟩,rfl⟩,⟨⟨by simp only;omega,by simp only;omega,by simp only;omega,r1,λR e1 e2=>?_⟩,hnL,hm2,by simp only;omega⟩,by simp only;omega⟩;obtain⟨t1,t2⟩:=r2 R e1 e2;exact k5 R t1 t2
 refine p2 ?_ (by rw[eL,eR];exact decide_eq_false az);refine JK.sub 8 _ rfl Sub.bool ?_;refine ig (ih (y- (mid+1)) az d4 (mid+1) y m2 (aL _) az hn4 az az hm2 q5) id rfl (by rw[<-n1 mid az];rfl) ⟨rfl,trivial⟩ rfl ay ?_;rintro _ _ _ ⟨rfl,L,l1,l2,rfl,rfl⟩;have hnL:L.toList.Nodup:=s7 az l1 hn4;have hsL:L.size=d4.size:=l1.1;obtain⟨r1,r2⟩:=q7 L l1 l2;refine⟨(L,(x,mid,m2),(_,ap)),id,⟨⟨rfl,rfl,rfl,rfl,rfl,rfl,trivial⟩,⟨rfl,trivial⟩,rfl⟩,⟨⟨by simp only;omega,by simp only;omega,by simp only;omega,r1,λR e1 e2=>?_⟩,hnL,hm2,by simp only;omega⟩,by simp only;omega⟩;obtain⟨t1,t2⟩:=r2 R e1 e2;exact k5 R t1 t2
end Go.Proofs.YtadildidlcbbkaaGreatDoor
namespace Go.Proofs.YtadildidlcbbkaaGreatDoor
open Go.GK Go.PL Go.RowKit
open Go.Sort (PermIn SortedIn Below ltInt)
open IntKind Go.Proofs.Tryz
set_option maxRecDepth 100000
def PQ(L:List Int)(h50:L.length<50)(hn:L.Nodup):
  Hf pg 136 1 [.o 0] [(0,.row 2 1 (L.map λz=>[gi z]))] (λG σ n=>G=.tup []/\σ=[(0,.row 2 1 ((p6 L).map λz=>[gi z]))]/\n=1):=by
 refine Hf.jK (Q:=λG σ _=>G=.tup []/\gW σ 0=some (.row 2 1 ((p6 L).map λz=>[gi z]))) ?_ (λG σ n ⟨hG,h0⟩=>⟨id,.tup [],[(0,.row 2 1 ((p6 L).map λz=>[gi z]))],1,A0z,by rw[hG];rfl,⟨h0,trivial⟩,rfl⟩);refine Hf.of gV func136 rfl ntmps136 rfl results136 call136 λH0 S0 w0 h0 g0=>?_;have e:(L.map λz=>[gi z]).length=L.length:=aA
 refine GO (I5 L.length az) (congrArg (λi=>some (189,[GV.v (.int .u64 i)])) (show u64.wrap (((L.map λz=>[gi z]).length:Nat):Int)=(L.length:Int) by rw[e,lR az])) ?_;have hb:=(uE ⟨L.length,h50⟩).2;simp only at hb;refine ig (QJ L.toArray (by simpa using h50) (by simpa using hn) L.length L.toArray 0 L.length (Lib.bitLen L.length) az rfl (by simpa using hn) az aA az (.inl rfl)) id rfl (congrArg (λn:Nat=>[GV.o 0,gi 0,gi (n:Int),gi (Lib.bitLen L.length:Nat)]) e) ⟨rfl,trivial⟩ rfl ay ?_;rintro _ _ _ ⟨rfl,R,h1,h2,rfl,rfl⟩;refine⟨rfl,?_⟩;have h3:=KX (d:=L.toArray) (R:=R) (by simpa using h1) (by simpa using h2);show some (hY.row 2 1 (R.toList.map λz=>[gi z]))=_;rw[h3]
end Go.Proofs.YtadildidlcbbkaaGreatDoor
namespace Go.Proofs.YtadildidlcbbkaaGreatDoor
open Go Go.GK Go.PL Go.RowKit IntKind Go.Proofs.Tryz
set_option maxRecDepth 100000
def take_set{α:Type}(R:List α)(i:Nat)(x:α)(h:i<R.length):(R.set i x).take (i+1)=R.take i++[x]:=by
 rw[a6 (by simpa using h),List.getElem_set_self,List.take_set,List.set_eq_of_length_le aq]
def drop_set{α:Type}(R:List α)(i j:Nat)(x:α)(h:i<j):(R.set i x).drop j=R.drop j:=by
 rw[List.drop_set,if_pos h]
def ex{α:Type}{f:α->List GV}{l:List α}{i:Nat}{K:List GV->Prop}(k:Nat)(hi:i=k)(hk:k<l.length)(h:K (f l[k])):∃row,(l.map f)[i]? =some row/\K row:=by
 subst hi;exact⟨f l[i],by simp[hk],h⟩
def Re{α:Type}(p:α->Bool)(l:List α)(h:∀i (h:i<l.length),p l[i]=false):l.filter (λx=> !p x)=l:=by
 refine cD.2 λx hx=>?_;obtain⟨i,hi,rfl⟩:=bz hx;rw[h i hi];rfl
def Lu{α:Type}(p:α->Bool)(l:List α)(n:Nat)(h:n<l.length)(h1:∀i (h:i<l.length),i<n->p l[i]=false)(h2:p l[n]=true):(l.take (n+1)).filter (λx=> !p x)=l.take n:=by
 rw[a6 h,cH,bV,h2];simp only[dU,a7,if_false,e_,aZ];refine cD.2 λx hx=>?_;obtain⟨i,hi,rfl⟩:=bz hx;rw[eB,h1 i (by simp at hi;omega) (by simp at hi;omega)];rfl
def NL{α:Type}(p:α->Bool)(l:List α)(j:Nat)(h:j<l.length):(l.take (j+1)).filter (λx=> !p x)=(l.take j).filter (λx=> !p x)++if p l[j]=true then [] else [l[j]]:=by
 rw[a6 h,cH,bV];cases p l[j] <;>rfl
def Tx(l:List Sm)(f:FuncId)(caps:List GV)(hcaps:im 0 caps=true)(p:Sm->Bool)(hf:∀x∈l,Rt pg f (.agg (sm x)::caps) (.b (p x)))(hl:l.length<=1000000):
  Hf pg 45 1 [.o 0,.fn (.func f) [] caps] [(0,.row 109 2 (l.map sm))] (λg σ n=>g=.o 1/\σ=[(1,.row 109 2 ((l.filter λx=> !p x).map sm))]/\n=2):=by
 have hcap1:=td 1 caps hcaps;have hr:∀r:Nat->Nat,j4 r caps=caps:=λr=>qn r caps hcaps;have hll:(l.map sm).length=l.length:=by simp
 obtain⟨n,h1,h2,h3,h4⟩:=tr l p;refine Hf.jK (Q:=λg σ m=>∃id:Nat,g=.o id/\gW σ id=some (.row 109 2 ((l.filter λx=> !p x).map sm))) (Hf.of gV func45 rfl ntmps45 rfl results45 call45 λH0 S0 w0 h0 g0=>?_) ?_
 ·refine Ma (FU l f caps hcaps p hf n h1 h2 h3 az) rfl ⟨⟨rfl,rfl⟩,⟨rfl,by simp[iy,im,hcaps]⟩,trivial⟩ ?_;by_cases hn:n<l.length
  ·rw[if_pos hn];refine p2 ?_ (beq_false_of_ne az);refine JK.iT (α:=Nat×Nat×List Sm) (β:=Nat×List Sm) (λx=>⟨[(0,.o 0),(1,.fn (.func f) [] caps),(5,gi x.1),(6,gi x.2.1)],[(0,.row 109 2 (x.2.2.map sm))],1⟩)
    (λx=>x.1<x.2.1/\x.2.1<=l.length/\x.2.2.length=l.length/\x.2.2.take x.1=(l.take x.2.1).filter (λy=> !p y)/\x.2.2.drop x.2.1=l.drop x.2.1) (λx=>l.length-x.2.1)
    (λx=>⟨[(0,.o 0),(5,gi x.1)],[(0,.row 109 2 (x.2.map sm))],1⟩) (λx=>x.1<=x.2.length/\x.2.length=l.length/\x.2.take x.1=l.filter (λy=> !p y)) (n,n+1,l) id ?_ ?_ ?_ ?_
   ·refine⟨⟨rfl,by simp only[jW,j4,hr];rfl,rfl,h_ az,trivial⟩,⟨rfl,trivial⟩,by simp[jt,iy,im,hcap1,iL,jm,iv,iu,jf,je]⟩
   ·exact⟨eJ n,hn,rfl,(Lu p l n hn h2 (h3 hn)).symm,rfl⟩
   ·rintro⟨i,j,R⟩ ⟨hij,hj,hlen,htk,hdr⟩;simp only at hij hj hlen htk hdr;have hRl:(R.map sm).length=R.length:=by simp
    refine V ?_;by_cases hlt:j<l.length
    ·have hjR:j<R.length:=by omega
     have hRj:R[j]=l[j]:=by
      have e1:(R.drop j)[0]? =(l.drop j)[0]? :=by rw[hdr]
      rw[bo,bo,b8,aC hjR,aC hlt]at e1;exact br e1
     have hdr1:R.drop (j+1)=l.drop (j+1):=by
      rw[<-dO,<-dO,hdr]
     have hst:=NL p l j hlt;refine p1 ?_ (decide_eq_true (by dsimp only;omega));refine⟨by dsimp only;omega,by dsimp only;omega,?_⟩;refine ex (k:=j) rfl hjR ?_;rw[hRj];have hp:=hf l[j] (aR hlt);cases hpj:p l[j] with
     |true=>
      rw[hpj]at hst;refine GO (hp.bt hpj) rfl ?_ (by simp[im,iy,hcaps]);exact⟨(i,j+1,R),id,⟨⟨rfl,by simp only[jW,j4,hr];rfl,rfl,h_ (by dsimp only;omega),trivial⟩,⟨rfl,trivial⟩,by simp[jt,iy,im,hcap1,iL,jm,iv,iu,jf,je]⟩,⟨by simp;omega,by simp;omega,hlen,by rw[htk,hst];simp,hdr1⟩,by show l.length- (j+1)<l.length-j;omega⟩
     |false=>
      rw[hpj]at hst;refine GO (hp.bt hpj) rfl ?_ (by simp[im,iy,hcaps]);refine⟨by dsimp only;omega,by dsimp only;omega,?_⟩;refine ex (k:=i) rfl (by dsimp only;omega) ?_;refine⟨(i+1,j+1,R.set i l[j]),id,⟨⟨rfl,by simp only[jW,j4,hr];rfl,h_ (by dsimp only;omega),h_ (by dsimp only;omega),trivial⟩,⟨?_,trivial⟩,by simp[jt,iy,im,hcap1,iL,jm,iv,iu,jf,je]⟩,⟨by simp;omega,by simp;omega,by simpa using hlen,?_,?_⟩,by show l.length- (j+1)<l.length-j;omega⟩
      ·exact congrArg (λr=>some (hY.row 109 2 r)) (fM (f:=sm)).symm
      ·show (R.set i l[j]).take (i+1)=_;rw[take_set R i l[j] az,htk,hst];rfl
      show (R.set i l[j]).drop (j+1)=_;rw[drop_set R i (j+1) l[j] az];exact hdr1
    refine p2 ?_ (decide_eq_false (by dsimp only;omega));obtain rfl:j=l.length:=by omega
    rw[aT]at htk;exact⟨(i,R),id,A0z,by show i<=R.length;omega,hlen,htk⟩
   rintro⟨i,R⟩ ⟨hi,hlen,htk⟩;simp only at hi hlen htk;have hRl:(R.map sm).length=R.length:=by simp
   refine V ?_;refine JK.Gx (ty:=109) (rows:=R.map sm) (sz:=2) (l:=i) (h:=(R.map sm).length) gV rfl rfl rfl rfl rfl rfl rfl rfl rfl rfl az az (bY _) ?_;refine JK.Pd (rows:=R.map sm) gV rfl rfl rfl rfl rfl rfl rfl rfl rfl rfl az (λzs hzs=>?_);refine V ?_;refine JK.Ov (ty:=109) (rows:=(R.map sm).take i++zs++(R.map sm).drop (i+((R.map sm).length-i))) (sz:=2) (h:=i) gV rfl rfl rfl rfl rfl rfl rfl rfl rfl rfl az aq ?_;refine V ?_;refine⟨_,rfl,?_⟩;refine congrArg (λr=>some (hY.row 109 2 r)) ?_;rw[<-htk,bj,aS,eu aq,fh,Nat.min_self,fZ]
  rw[if_neg hn];refine p1 ?_ ax;refine⟨0,rfl,?_⟩;rw[Re p l λi hi=>h2 i hi az];rfl
 rintro g σ m ⟨id,rfl,h⟩;exact⟨r1 1 id,.o 1,[(1,.row 109 2 ((l.filter λx=> !p x).map sm))],2,A0z,rfl,⟨h,trivial⟩,rfl⟩
def QK(g:Gn)(x:Sm)(s:gY)(hm:g.mt.length<=1000000):Rt pg 49 [.agg (gn g),.r (sm x),.r (se s)] (.b (oB g s.labels x.time)):=by
 refine Rt.of gV func49 rfl ntmps49 rfl results49 call49 λH0 S0 w0 h0 g0=>?_;unfold oB;by_cases h1:g.lo<=x.time
 ·refine p1 ?_ (decide_eq_true h1);by_cases h2:x.time<=g.hi
  ·exact p1 (GO (Jn s.labels g.mt az) rfl ⟨by rw[decide_eq_true h1,decide_eq_true h2];rfl,rfl⟩) (decide_eq_true h2)
  exact p2 ⟨by rw[decide_eq_false h2,fi,du];rfl,rfl⟩ (decide_eq_false h2)
 exact p2 ⟨by rw[decide_eq_false h1];rfl,rfl⟩ (decide_eq_false h1)
def QR(gone:List Gn)(x:Sm)(s:gY)(hg:gone.length<=1000000)(hm:∀g∈gone,g.mt.length<=1000000):Rt pg 47 [.agg (sm x),.r [Qv gone],.r (se s)] (.b (lD gone s.labels x.time)):=by
 refine Rt.of gV func47 rfl ntmps47 rfl results47 call47 λH0 S0 w0 h0 g0=>?_;exact sI 0 rfl rfl (GO (Gj gone 49 [.r (sm x),.r (se s)] rfl (λg=>oB g s.labels x.time) (λg hgm=>QK g x s (hm g hgm)) az) rfl ⟨rfl,rfl⟩)
def Mq(l:List gY):Prop:=∀x∈l,x.samples.length<=1000000/\x.labels.length<=1000000
def Tu(l:List Gn):Prop:=l.length<=1000000/\∀g∈l,g.mt.length<=1000000
theorem C2(l:List gY)(gone:List Gn)(hl:l.length≤1000000)(hs:Mq l)(hg:Tu gone):Rt pg 13 [jn l,Qv gone] (jn (gX (lD gone) l)):=by
 have hll:(l.map se).length=l.length:=by simp
 refine Rt.of gV func13 rfl ntmps13 rfl results13 call13 fun H0 S0 w0 h0 g0=>?_;refine sI 0 rfl rfl ?_;refine JK.kx 5 105 2 rfl ?_;refine JK.iT (α:=Nat) (β:=Unit) (fun i=>⟨[(3,.r [Qv gone]),(5,.o 0),(9,jn l),(10,gi (l.map se).length),(11,gi i)],[(0,.row 105 2 ((gX (lD gone) (l.take i)).map se))],1⟩) (fun i=>i≤l.length) (fun i=>l.length-i)
  (fun _=>⟨[(5,.o 0)],[(0,.row 105 2 ((gX (lD gone) l).map se))],1⟩) (fun _=>True) 0 (fun _=>1) ?_ (aQ _) ?_ ?_
 ·exact⟨⟨rfl,rfl,rfl,rfl,rfl,trivial⟩,⟨rfl,trivial⟩,rfl⟩
 ·rintro i hi;replace hi:i≤l.length:=hi;refine V ?_;by_cases hlt:i<l.length
  ·obtain⟨hx1,hx2⟩:=hs l[i] (aR hlt);have hst:=Dj (lD gone) l i hlt;have hlen:(gX (lD gone) (l.take i)).length≤l.length:=bE (qv _ _) aq;refine p1 ?_ aj;refine ix (h:=?_);refine sI 1 rfl rfl ?_;refine ig (K3 l[i].samples hx1) id rfl rfl trivial rfl (by exact K9 rfl) ?_;rintro _ _ _ ⟨rfl,rfl,rfl⟩;refine ig (Tx l[i].samples 47 [.r [Qv gone],.r (se l[i])] rfl (fun x=>lD gone l[i].labels x.time) (fun x _=>QR gone x l[i] hg.1 hg.2) hx1) (r1 0 2) rfl rfl ⟨rfl,trivial⟩ rfl (tw rfl) ?_;rintro _ _ _ ⟨rfl,rfl,rfl⟩;have hfl:(l[i].samples.filter fun x=> !lD gone l[i].labels x.time)=jZ (lD gone) l[i]:=rfl;rw[hfl];cases hleft:jZ (lD gone) l[i] with
   |nil=>
    refine p2 ?_ (decide_eq_false aA);refine⟨i+1,id,⟨⟨rfl,rfl,rfl,rfl,h_ az,trivial⟩,⟨?_,trivial⟩,rfl⟩,hlt,by show l.length- (i+1)<l.length-i;omega⟩;rw[hst,iW _ hleft,show gX (lD gone) []=[] from rfl,aZ];rfl
   |cons y r=>
    refine p1 ?_ (decide_eq_true (by rw[aD,aB];omega));refine ot 3 rfl ?_;refine GO (nX l[i].labels hx2) rfl ?_;refine⟨by simp only[aD,aB,aM];omega,?_⟩;refine⟨i+1,fun _=>5,⟨⟨rfl,rfl,rfl,rfl,h_ az,trivial⟩,⟨?_,trivial⟩,rfl⟩,hlt,by show l.length- (i+1)<l.length-i;omega⟩;refine congrArg (fun r=>some (hY.row 105 2 r)) ?_;rw[hst,iK _ hleft,aP];rfl
  ·refine p2 ?_ ai;obtain rfl:i=l.length:=by omega
   rw[aT];exact⟨(),id,⟨⟨rfl,trivial⟩,⟨rfl,trivial⟩,rfl⟩,trivial⟩
 ·rintro _ _;refine ot 0 rfl ?_;exact⟨rfl,rfl⟩
theorem M6(a b R:List Sm)(ha:a.length≤100000)(hb:b.length≤100000)(hR:∀n,a.length+b.length≤n→jT n [] a b=R):Rt pg 52 [.sl 2 (a.map sm),.sl 2 (b.map sm)] (.sl 2 (R.map sm)):=by
 refine Rt.of gV func52 rfl ntmps52 rfl results52 call52 fun H0 S0 w0 h0 g0=>?_;refine JK.kx 5 109 2 rfl ?_;refine JK.iT (α:=List Sm×List Sm×List Sm) (β:=Unit) (fun x=>⟨[(0,.sl 2 (x.2.1.map sm)),(1,.sl 2 (x.2.2.map sm)),(5,.o 0)],[(0,.row 109 2 (x.1.map sm))],1⟩)
  (fun x=>(∀n,x.2.1.length+x.2.2.length≤n→jT n x.1 x.2.1 x.2.2=R)∧x.1.length+x.2.1.length+x.2.2.length≤200000) (fun x=>x.2.1.length+x.2.2.length) (fun _=>⟨[(5,.o 0)],[(0,.row 109 2 (R.map sm))],1⟩) (fun _=>True) ([],a,b) id ?_ ⟨hR,by simp;omega⟩ ?_ ?_
 ·exact⟨⟨rfl,rfl,rfl,trivial⟩,⟨rfl,trivial⟩,rfl⟩
 ·rintro⟨out,a,b⟩ ⟨hR,hlen⟩;simp only at hlen hR;refine V ?_;cases a with
  |nil=>cases b with
   |nil=>
    repeat (first|refine p1 ?_|refine p2 ?_|refine p3 ?_|refine p4 ?_|refine⟨by kernel_rfl,?_⟩)
    have:out=R:=hR 0 (aL _);subst this;exact⟨(),id,⟨⟨rfl,trivial⟩,⟨rfl,trivial⟩,rfl⟩,trivial⟩
   |cons y b=>
    simp only[aB,aM]at hlen;have hB:decide (((List.map sm (y::b)).length:Int) >0)=true:=decide_eq_true (by rw[aD,aB];omega);have hB0:(((List.map sm (y::b)).length:Int)==0)=false:=beq_false_of_ne (by rw[aD,aB];omega)
    repeat (first|refine p1 ?_|refine p2 ?_|refine p3 ?_|refine p4 ?_|refine⟨by kernel_rfl,?_⟩)
    refine iU [0] true (tk [0,1,2,3,6,7]++al [4,5]++tk [8,9]) au ?_;refine ix (i:=0) (hk:=bP _) (h:=?_);refine⟨by omega,by simp<;>omega,by omega,?_⟩;refine⟨by simp only[aD,aB,aM];omega,?_⟩;refine V ?_;refine⟨(out++[y],[],b),fun _=>2,⟨⟨rfl,qu 2 sm y b,rfl,trivial⟩,⟨congrArg (fun r=>some (hY.row 109 2 r)) (by rw[aP];rfl),trivial⟩,rfl⟩,⟨fun n hn=>?_,?_⟩,?_⟩
    ·rw[←hR (n+1) (by simp only[aB,aM]at hn⊢;omega)];rfl
    ·simp only[aI,aB,aM];omega
    ·simp only[aB,aM];omega
  |cons x a=>cases b with
   |nil=>
    simp only[aB,aM]at hlen;have hA:decide (((List.map sm (x::a)).length:Int) >0)=true:=decide_eq_true (by rw[aD,aB];omega)
    repeat (first|refine p1 ?_|refine p2 ?_|refine p3 ?_|refine p4 ?_|refine⟨by kernel_rfl,?_⟩)
    refine iU [0] true (tk [0,1,2,3,6,7]++al [4,5]++tk [8,9]) au ?_;refine ix (i:=0) (hk:=bP _) (h:=?_);refine⟨by omega,by simp<;>omega,by omega,?_⟩;refine⟨by simp only[aD,aB,aM];omega,?_⟩;refine V ?_;refine⟨(out++[x],a,[]),fun _=>2,⟨⟨qu 2 sm x a,rfl,rfl,trivial⟩,⟨congrArg (fun r=>some (hY.row 109 2 r)) (by rw[aP];rfl),trivial⟩,rfl⟩,⟨fun n hn=>?_,?_⟩,?_⟩
    ·rw[←hR (n+1) (by simp only[aB,aM]at hn⊢;omega)];rfl
    ·simp only[aI,aB,aM];omega
    ·simp only[aB,aM];omega
   |cons y b=>
    simp only[aB]at hlen;have hA:decide (((List.map sm (x::a)).length:Int) >0)=true:=decide_eq_true (by rw[aD,aB];omega);have hB:decide (((List.map sm (y::b)).length:Int) >0)=true:=decide_eq_true (by rw[aD,aB];omega);have hB0:(((List.map sm (y::b)).length:Int)==0)=false:=beq_false_of_ne (by rw[aD,aB];omega)
    repeat (first|refine p1 ?_|refine p2 ?_|refine p3 ?_|refine p4 ?_|refine⟨by kernel_rfl,?_⟩)
    refine ix (i:=0) (hk:=bP _) (h:=?_);refine ix (i:=0) (hk:=bP _) (h:=?_);by_cases h:x.time<y.time
    ·refine p1 ?_ (decide_eq_true h);refine iU [0] true (tk [0,1,2,3,6,7]++al [4,5]++tk [8,9]) au ?_;refine ix (i:=0) (hk:=bP _) (h:=?_);refine⟨by omega,by simp<;>omega,by omega,?_⟩;refine⟨by simp only[aD,aB,aM];omega,?_⟩;refine V ?_;refine⟨(out++[x],a,y::b),fun _=>2,⟨⟨qu 2 sm x a,rfl,rfl,trivial⟩,⟨congrArg (fun r=>some (hY.row 109 2 r)) (by rw[aP];rfl),trivial⟩,rfl⟩,⟨fun n hn=>?_,?_⟩,?_⟩
     ·rw[←hR (n+1) (by simp only[aB]at hn⊢;omega)];rw[jT,if_pos h]
     ·simp only[aI,aB,aM];omega
     ·simp only[aB];omega
    ·refine p2 ?_ (decide_eq_false h)
     repeat (first|refine p1 ?_|refine p2 ?_|refine p3 ?_|refine p4 ?_|refine⟨by kernel_rfl,?_⟩)
     refine ix (i:=0) (hk:=bP _) (h:=?_);refine ix (i:=0) (hk:=bP _) (h:=?_);by_cases he:x.time=y.time
     ·refine p1 ?_ (beq_iff_eq.2 he);refine⟨by omega,by simp<;>omega,by omega,?_⟩;refine iU [0] true (tk [0,1,2,3,6,7]++al [4,5]++tk [8,9]) au ?_;refine ix (i:=0) (hk:=bP _) (h:=?_);refine⟨by omega,by simp<;>omega,by omega,?_⟩;refine⟨by simp only[aD,aB,aM];omega,?_⟩;refine V ?_;refine⟨(out++[y],a,b),fun _=>2,⟨⟨qu 2 sm x a,qu 2 sm y b,rfl,trivial⟩,⟨congrArg (fun r=>some (hY.row 109 2 r)) (by rw[aP];rfl),trivial⟩,rfl⟩,⟨fun n hn=>?_,?_⟩,?_⟩
      ·rw[←oU n _ _ _ hn,←hR (n+2) (by simp only[aB]at hn⊢;omega)];rw[jT,if_neg h,if_pos he]
      ·simp only[aI,aB,aM];omega
      ·simp only[aB];omega
     ·refine p2 ?_ (beq_false_of_ne he);refine iU [0] true (tk [0,1,2,3,6,7]++al [4,5]++tk [8,9]) au ?_;refine ix (i:=0) (hk:=bP _) (h:=?_);refine⟨by omega,by simp<;>omega,by omega,?_⟩;refine⟨by simp only[aD,aB,aM];omega,?_⟩;refine V ?_;refine⟨(out++[y],x::a,b),fun _=>2,⟨⟨rfl,qu 2 sm y b,rfl,trivial⟩,⟨congrArg (fun r=>some (hY.row 109 2 r)) (by rw[aP];rfl),trivial⟩,rfl⟩,⟨fun n hn=>?_,?_⟩,?_⟩
      ·rw[←hR (n+1) (by simp only[aB]at hn⊢;omega)];rw[jT,if_neg h,if_neg he]
      ·simp only[aI,aB,aM];omega
      ·simp only[aB];omega
 ·rintro _ _;refine ot 0 rfl ?_;exact⟨rfl,rfl⟩
def Fi(a b:List Sm)(ha:a.length<=3000)(hb:b.length<=3000):Rt pg 52 [rL a,rL b] (rL (iJ a b)):=
 M6 a b (iJ a b) az az (λ_ h=>vL h)
def CB(b:List Sm)(hb:b.length<=3000):Rt pg 52 [.v (.slice none 0 0),rL b] (rL b):=by
 have h:=Fi [] b aA hb;rw[mo]at h;exact Rq.nl (pre:=[]) (suf:=[rL b]) (z:=2) h
def uQ(y:gY)(l:List gY):some (GV.sl 2 ((((y::l).map se).take (((y::l).map se).length:Int).toNat).drop (1:Int).toNat))=some (jn l):=qu 2 se y l
def KP(l:List gY):Prop:=∀x∈l,x.samples.length<=3000/\x.labels.length<=3000
theorem tT(a b:List gY)(ha:a.length≤100000)(hb:b.length≤100000)(hsa:KP a)(hsb:KP b):Rt pg 16 [jn a,jn b] (jn (ij iJ a b)):=by
 refine Rt.of gV func16 rfl ntmps16 rfl results16 call16 fun H0 S0 w0 h0 g0=>?_;refine JK.kx 5 105 2 rfl ?_;refine JK.iT (α:=List gY×List gY×List gY) (β:=Unit) (fun x=>⟨[(0,jn x.2.1),(1,jn x.2.2),(5,.o 0)],[(0,.row 105 2 (x.1.map se))],1⟩)
  (fun x=>x.1++ij iJ x.2.1 x.2.2=ij iJ a b∧x.1.length+x.2.1.length+x.2.2.length≤200000∧KP x.2.1∧KP x.2.2) (fun x=>x.2.1.length+x.2.2.length) (fun _=>⟨[(5,.o 0)],[(0,.row 105 2 ((ij iJ a b).map se))],1⟩) (fun _=>True) ([],a,b) id ?_ ⟨rfl,by simp;omega,hsa,hsb⟩ ?_ ?_
 ·exact⟨⟨rfl,rfl,rfl,trivial⟩,⟨rfl,trivial⟩,rfl⟩
 ·rintro⟨out,a,b⟩ ⟨hR,hlen,hsa,hsb⟩;simp only at hlen hR hsa hsb;refine V ?_;cases a with
  |nil=>cases b with
   |nil=>
    repeat (first|refine p1 ?_|refine p2 ?_|refine p3 ?_|refine p4 ?_)
    rw[jP,aZ]at hR;subst hR;exact⟨(),id,⟨⟨rfl,trivial⟩,⟨rfl,trivial⟩,rfl⟩,trivial⟩
   |cons y b=>
    obtain⟨hy1,hy2⟩:=hsb y aA;simp only[aB,aM]at hlen;rw[jP]at hR;have hB:decide (((List.map se (y::b)).length:Int) >0)=true:=decide_eq_true (by rw[aD,aB];omega)
    repeat (first|refine p1 ?_|refine p2 ?_|refine p3 ?_|refine p4 ?_)
    refine iU [1] false (tk [0,1,2,3,4,6,7,8,9,12,13]++al [5]) au ?_;refine ix (i:=0) (hk:=bP _) (h:=?_);refine ix (i:=0) (hk:=bP _) (h:=?_);refine⟨by omega,by simp<;>omega,by omega,?_⟩;refine kE 10 true (al [11,14]++tk [15]) (CB y.samples hy1) rfl rfl au ?_;refine V ?_;refine sI 1 rfl rfl ?_;refine iU [0] false (tk [0,1,2,4,5]) au ?_;refine kE 3 false (tk []) (nX y.labels az) rfl rfl au ?_;refine kE 6 true (al [7,8,9]++tk [10]) (qM y.samples az) rfl rfl au ?_;refine⟨by simp only[aD,aB,aM];omega,?_⟩;refine V ?_;refine⟨(out++[⟨y.labels,y.samples⟩],[],b),fun _=>3,⟨⟨rfl,uQ y b,rfl,trivial⟩,⟨congrArg (fun r=>some (hY.row 105 2 r)) (by rw[aP];rfl),trivial⟩,rfl⟩,⟨?_,?_,hsa,(fun z hz=>hsb z (by simp[hz]))⟩,?_⟩
    ·rw[←hR,jP];simp
    ·simp only[aI,aB,aM];omega
    ·simp only[aB,aM];omega
  |cons x a=>
   obtain⟨hx1,hx2⟩:=hsa x aA;have hA:decide (((List.map se (x::a)).length:Int) >0)=true:=decide_eq_true (by rw[aD,aB];omega);have hA0:(((List.map se (x::a)).length:Int)==0)=false:=beq_false_of_ne (by rw[aD,aB];omega);cases b with
   |nil=>
    simp only[aB,aM]at hlen;rw[ko]at hR
    repeat (first|refine p1 ?_|refine p2 ?_|refine p3 ?_|refine p4 ?_)
    refine iU [1] true (tk [0,1,2,3,4]++al [5]++tk [6]) au ?_;refine ix (i:=0) (hk:=bP _) (h:=?_);refine⟨by omega,by simp<;>omega,by omega,?_⟩;refine V ?_
    repeat (first|refine p1 ?_|refine p2 ?_|refine p3 ?_|refine p4 ?_)
    refine sI 1 rfl rfl ?_;refine iU [0] false (tk [0,1,2,4,5]) au ?_;refine kE 3 false (tk []) (nX x.labels az) rfl rfl au ?_;refine kE 6 true (al [7,8,9]++tk [10]) (qM x.samples az) rfl rfl au ?_;refine⟨by simp only[aD,aB,aM];omega,?_⟩;refine V ?_;refine⟨(out++[⟨x.labels,x.samples⟩],a,[]),fun _=>3,⟨⟨uQ x a,rfl,rfl,trivial⟩,⟨congrArg (fun r=>some (hY.row 105 2 r)) (by rw[aP];rfl),trivial⟩,rfl⟩,⟨?_,?_,(fun z hz=>hsa z (by simp[hz])),hsb⟩,?_⟩
    ·rw[←hR,ko];simp
    ·simp only[aI,aB,aM];omega
    ·simp only[aB,aM];omega
   |cons y b=>
    obtain⟨hy1,hy2⟩:=hsb y aA;simp only[aB]at hlen;have hB:decide (((List.map se (y::b)).length:Int) >0)=true:=decide_eq_true (by rw[aD,aB];omega);rw[oN]at hR
    repeat (first|refine p1 ?_|refine p2 ?_|refine p3 ?_|refine p4 ?_)
    refine iU [] false (tk [0,1,2,3,4,5,6,7]) au ?_;refine ix (i:=0) (hk:=bP _) (h:=?_);refine ix (i:=0) (hk:=bP _) (h:=?_);refine kE 8 true (tk [9]) (ra x.labels y.labels) rfl rfl au ?_;refine V ?_;by_cases h1:iZ x.labels y.labels<0
    ·rw[if_pos h1]at hR;refine p1 ?_ aj;refine iU [1] true (tk [0,1,2,3,4]++al [5]++tk [6]) au ?_;refine ix (i:=0) (hk:=bP _) (h:=?_);refine⟨by omega,by simp<;>omega,by omega,?_⟩;refine V ?_;refine p2 ?_ ai;refine sI 1 rfl rfl ?_;refine iU [0] false (tk [0,1,2,4,5]) au ?_;refine kE 3 false (tk []) (nX x.labels az) rfl rfl au ?_;refine kE 6 true (al [7,8,9]++tk [10]) (qM x.samples az) rfl rfl au ?_;refine⟨by simp only[aD,aB,aM];omega,?_⟩;refine V ?_;refine⟨(out++[⟨x.labels,x.samples⟩],a,(y::b)),fun _=>3,⟨⟨uQ x a,rfl,rfl,trivial⟩,⟨congrArg (fun r=>some (hY.row 105 2 r)) (by rw[aP];rfl),trivial⟩,rfl⟩,⟨?_,?_,(fun z hz=>hsa z (by simp[hz])),hsb⟩,?_⟩
     ·rw[←hR];simp
     ·simp only[aI,aB,aM];omega
     ·simp only[aB];omega
    rw[if_neg h1]at hR;by_cases h2:iZ x.labels y.labels=0
    ·rw[if_pos h2]at hR;have hml:=xp x.samples y.samples;refine p1 ?_ aj;refine iU [1] true (tk [0,1,2,3,4]++al [5]++tk [6]) au ?_;refine ix (i:=0) (hk:=bP _) (h:=?_);refine⟨by omega,by simp<;>omega,by omega,?_⟩;refine V ?_;refine p1 ?_ aj;refine iU [1] false (tk [0,1,2,3,4,6,7,8,9,12,13]++al [5]) au ?_;refine ix (i:=0) (hk:=bP _) (h:=?_);refine ix (i:=0) (hk:=bP _) (h:=?_);refine⟨by omega,by simp<;>omega,by omega,?_⟩;refine kE 10 true (al [11,14]++tk [15]) (Fi x.samples y.samples hx1 hy1) rfl rfl au ?_;refine V ?_;refine sI 1 rfl rfl ?_;refine iU [0] false (tk [0,1,2,4,5]) au ?_;refine kE 3 false (tk []) (nX y.labels az) rfl rfl au ?_;refine kE 6 true (al [7,8,9]++tk [10]) (qM (iJ x.samples y.samples) az) rfl rfl au ?_;refine⟨by simp only[aD,aB,aM];omega,?_⟩;refine V ?_;refine⟨(out++[⟨y.labels,iJ x.samples y.samples⟩],a,b),fun _=>3,⟨⟨uQ x a,uQ y b,rfl,trivial⟩,⟨congrArg (fun r=>some (hY.row 105 2 r)) (by rw[aP];rfl),trivial⟩,rfl⟩,⟨?_,?_,(fun z hz=>hsa z (by simp[hz])),(fun z hz=>hsb z (by simp[hz]))⟩,?_⟩
     ·rw[←hR];simp
     ·simp only[aI,aB,aM];omega
     ·simp only[aB];omega
    rw[if_neg h2]at hR;refine p2 ?_ ai;refine p1 ?_ aj;refine iU [1] false (tk [0,1,2,3,4,6,7,8,9,12,13]++al [5]) au ?_;refine ix (i:=0) (hk:=bP _) (h:=?_);refine ix (i:=0) (hk:=bP _) (h:=?_);refine⟨by omega,by simp<;>omega,by omega,?_⟩;refine kE 10 true (al [11,14]++tk [15]) (CB y.samples hy1) rfl rfl au ?_;refine V ?_;refine sI 1 rfl rfl ?_;refine iU [0] false (tk [0,1,2,4,5]) au ?_;refine kE 3 false (tk []) (nX y.labels az) rfl rfl au ?_;refine kE 6 true (al [7,8,9]++tk [10]) (qM y.samples az) rfl rfl au ?_;refine⟨by simp only[aD,aB,aM];omega,?_⟩;refine V ?_;refine⟨(out++[⟨y.labels,y.samples⟩],(x::a),b),fun _=>3,⟨⟨rfl,uQ y b,rfl,trivial⟩,⟨congrArg (fun r=>some (hY.row 105 2 r)) (by rw[aP];rfl),trivial⟩,rfl⟩,⟨?_,?_,hsa,(fun z hz=>hsb z (by simp[hz]))⟩,?_⟩
    ·rw[←hR];simp
    ·simp only[aI,aB,aM];omega
    ·simp only[aB];omega
 ·rintro _ _;refine ot 0 rfl ?_;exact⟨rfl,rfl⟩
abbrev qW(l:List Int):GV:=.sl 1 (l.map λn=>[gi n])
def JJ(B:List (Value×Bl)):(iG eb B).map (·.1)=B.map (·.1):=aA
def Uq{B:List (Value×Bl)}{nx:Int}(h:iP B nx):B.map (·.1)=(B.map λy=>oO y.1).map kn:=by
 rw[bR];refine cd λy hy=>?_;obtain⟨n,e,_⟩:=h.keys y hy;show y.1=kn (oO y.1);rw[e];rfl
def QQ{a b:List Int}(h:(a.map kn).Perm (b.map kn)):a.Perm b:=by
 have:=h.map oO;rw[bR,bR]at this;simpa[Function.comp_def,oO]using this
def SE{l1 l2:List Value}{n:Int}{vis:List Int}{X:List Value}(h:(l1++kn n::l2++vis.map kn).Perm X):(l1++l2++(vis++[n]).map kn).Perm X:=by
 refine List.Perm.trans ?_ h;rw[aP,<-aS];refine dt.trans ?_;show (kn n::(l1++l2++vis.map kn)).Perm _;rw[aS,aS];exact dQ.symm
def SD{B:List (Value×Bl)}{k:Value}{g:GV}(h:jl k (iG eb B)=some g):∃b,g=eb b:=by
 rw[pC]at h;obtain⟨b,_,rfl⟩:=cu.1 h;exact⟨b,rfl⟩
def xu{id sz:Nat}{rows:List (List GV)}(B:List (Value×Bl)):(iG eb B).map (λx=>(x.1,lJ id sz rows x.2))=iG eb B:=by
 rw[bR];exact cd λx _=>rfl
theorem qO(s:iz){nx:Int}(hB:iP s.B nx)(hl:s.B.length<50):
  Hf pg 73 7 [.p 0 0] [sB s 3 5,sM s] (fun G σ n=>G=qW (gZ s.B)∧σ=[sB s 3 5,sM s]∧n=7):=by
 refine Hf.jK (Q:=fun G σ n=>G=qW (gZ s.B)∧gW σ 0=some (sB s 3 5).2∧gW σ 4=some (sM s).2) ?_ (fun G σ n ⟨hG,h0,h4⟩=>⟨id,qW (gZ s.B),[sB s 3 5,sM s],7,⟨rfl,rfl,rfl⟩,by rw[hG];rfl,⟨h0,?_,trivial⟩,by simp[jt,iy,im,iL,jm,iv,iu,je,nb];decide⟩)
 ·refine Hf.of gV func73 rfl ntmps73 rfl results73 call73 fun H0 S0 w0 h0 g0=>?_;refine JK.kx 3 2 1 rfl ?_;refine JK.iT (α:=List Value×Option Value×List Int) (β:=Option Value×List Int) (fun a=>⟨[(0,.p 0 0),(3,.o 8),(9,.p 7 0)],[sB s 3 5,(4,.itr 7),(7,.mr (some .i64) (iG eb s.B) a.1 a.2.1),(8,.row 2 1 (a.2.2.map fun n=>[gi n]))],9⟩)
   (fun a=>(a.1++a.2.2.map kn).Perm ((s.B.map fun y=>oO y.1).map kn)) (fun a=>a.1.length)
   (fun c=>⟨[(0,.p 0 0),(3,.o 8),(9,.p 7 0)],[sB s 3 5,(4,.itr 7),(7,.mr (some .i64) (iG eb s.B) [] c.1),(8,.row 2 1 (c.2.map fun n=>[gi n]))],9⟩) (fun c=>(c.2.map kn).Perm ((s.B.map fun y=>oO y.1).map kn)) (s.B.map (·.1),none,[]) id ?_ ?_ ?_ ?_
  ·refine⟨⟨rfl,rfl,rfl,trivial⟩,⟨rfl,rfl,?_,rfl,trivial⟩,by simp[jt,iy,im,iL,jm,iv,iu,jf,je,nb];try decide⟩;exact congr (congrArg (fun x y=>some (hY.mr (some IntKind.i64) x y none)) (np _ _).symm) (JJ s.B)
  ·show (s.B.map (·.1)++[].map kn).Perm _;rw[cN,aZ,Uq hB]
  ·rintro⟨lf,cur,vis⟩ hp;replace hp:(lf++vis.map kn).Perm ((s.B.map fun y=>oO y.1).map kn):=hp;have hlen:=hp.length_eq;simp only[aI,aD]at hlen;refine V ?_;refine⟨fun e=>?_,fun kl1 k kl2 g hlk hg=>?_⟩
   ·obtain rfl:lf=[]:=e;exact⟨(cur,vis),id,⟨⟨rfl,rfl,rfl,trivial⟩,⟨rfl,rfl,congrArg (fun x=>some (hY.mr (some IntKind.i64) x [] cur)) (np _ _).symm,rfl,trivial⟩,by simp[jt,iy,im,iL,jm,iv,iu,jf,je,nb];try decide⟩,hp⟩
   ·obtain rfl:lf=kl1++k::kl2:=hlk;obtain⟨n,hn,rfl⟩:∃n,n∈(s.B.map fun y=>oO y.1)∧kn n=k:=ba.1 (hp.mem_iff.1 aA);simp only[aI,aB]at hlen;obtain⟨b,rfl⟩:=SD hg;refine⟨_,hg,?_⟩;refine⟨by simp only[aD,aB,aM];omega,?_⟩;refine⟨(kl1++kl2,some (kn n),vis++[n]),fun i=>bif Nat.beq i 8 then 10 else i,⟨⟨rfl,rfl,rfl,trivial⟩,⟨rfl,rfl,congrArg (fun x=>some (hY.mr (some IntKind.i64) x (kl1++kl2) (some (kn n)))) (np _ _).symm,?_,trivial⟩,by simp[jt,iy,im,iL,jm,iv,iu,jf,je,nb];try decide⟩,SE hp,by show (kl1++kl2).length<(kl1++kn n::kl2).length;simp⟩;exact congrArg (fun x=>some (hY.row 2 1 x)) (aP (l₁:=vis) (l₂:=[n])).symm
  ·rintro⟨c,vis⟩ hp;have hp2:=QQ (show (vis.map kn).Perm ((s.B.map fun y=>oO y.1).map kn) from hp);have hlen:=hp2.length_eq;rw[aD]at hlen;refine JK.Ar 4 7 rfl rfl rfl ?_;refine V ?_;refine sw (PQ vis az (hp2.nodup_iff.2 (BU hB))) (fun _=>8) rfl rfl ⟨rfl,trivial⟩ rfl (fun _ _=>bA rfl) ?_;rintro _ _ _ ⟨rfl,rfl,rfl⟩;refine ot 8 rfl ?_;refine⟨?_,rfl,?_⟩
   ·rw[RU hp2 (BU hB)];rfl
   ·exact congrArg (fun x=>some (hY.mp (some IntKind.i64) x)) (xu s.B)
 ·show gW σ 4=some (.mp (some .i64) (jS id (iG eb s.B)));rw[np];exact h4
def iI(f:Nat->Nat)(B:List (Value×Bl)):some (hY.mp (some .i64) (iG eb B))=some (hY.mp (some .i64) (jS f (iG eb B))):=by rw[np]
def j6(g f:Nat->Nat)(B:List (Value×Bl)):some (hY.mp (some .i64) (jS g (iG eb B)))=some (hY.mp (some .i64) (jS f (iG eb B))):=by rw[np,np]
def FB{id sz:Nat}{rows:List (List GV)}(f:Nat->Nat)(B:List (Value×Bl)):some (hY.mp (some .i64) ((iG eb B).map λx=>(x.1,lJ id sz rows x.2)))=some (hY.mp (some .i64) (jS f (iG eb B))):=by rw[xu,np]
def wR{B:List (Value×Bl)}{nx:Int}(h:iP B nx){n:Int}(hn:n∈gZ B):jl (kn n) (iG eb B)=some (eb (js B n)):=by
 rw[pC];obtain⟨b,hb⟩:=cL.1 ((mV h).1 hn);unfold js;rw[hb];rfl
def Oj{l:List gY}(h:Sz l):Mq l:=λx hx=>⟨by have:=(h.2 x hx).1;omega,by have:=(h.2 x hx).2;omega⟩
theorem s5(s:iz)(h:zV s):
  Hf pg 95 7 [.p 0 0] [sB s 3 5,sM s,sG s 5] (fun G σ n=>G=jn (iF s.B s.G)∧σ=[sB s 3 5,sM s,sG s 5]∧n=7):=by
 have hl:=h.len;have hgl:=h.gl;refine Hf.jK (Q:=fun G σ n=>G=jn (iF s.B s.G)∧gW σ 0=some (sB s 3 5).2∧gW σ 4=some (sM s).2∧gW σ 5=some (sG s 5).2) ?_ (fun G σ n ⟨hG,h0,h4,h5⟩=>⟨id,jn (iF s.B s.G),[sB s 3 5,sM s,sG s 5],7,⟨rfl,rfl,rfl⟩,by rw[hG];rfl,⟨h0,h4.trans (iI id s.B),h5,trivial⟩,by simp[jt,iy,im,iL,jm,iv,iu,je,nb];decide⟩);refine Hf.of gV func95 rfl ntmps95 rfl results95 call95 fun H0 S0 w0 h0 g0=>?_;refine ig (qO s h.bls az) id rfl rfl ⟨rfl,iI id s.B,trivial⟩ af ay ?_;rintro _ _ _ ⟨rfl,rfl,rfl⟩;refine JK.sub 3 (jn []) rfl (Sub.nil 2) ?_;have hnl:((gZ s.B).map fun n=>[gi n]).length=(gZ s.B).length:=by simp
 have hnum:(gZ s.B).length=s.B.length:=by
  show (p6 _).length=_;rw[(ku _).length_eq,aD]
 refine JK.iT (α:=Nat) (β:=Unit) (fun i=>⟨[(0,.p 0 0),(3,jn (qd s.B s.G ((gZ s.B).take i))),(10,qW (gZ s.B)),(11,gi ((gZ s.B).map fun n=>[gi n]).length),(12,gi i)],[sB s 3 5,sM s,sG s 5],7⟩) (fun i=>i≤(gZ s.B).length) (fun i=>(gZ s.B).length-i)
  (fun _=>⟨[(3,jn (iF s.B s.G))],[sB s 3 5,sM s,sG s 5],7⟩) (fun _=>True) 0 id ?_ (aQ _) ?_ ?_
 ·exact⟨⟨rfl,rfl,rfl,rfl,rfl,trivial⟩,⟨rfl,j6 _ id s.B,rfl,trivial⟩,by simp[jt,iy,im,iL,jm,iv,iu,jf,je,nb];try decide⟩
 ·rintro i hi;replace hi:i≤(gZ s.B).length:=hi;refine V ?_;by_cases hlt:i<(gZ s.B).length
  ·have hn:=aR hlt;refine p1 ?_ aj;refine ix (h:=?_);refine JK.kx 6 25 3 rfl ?_;refine JK.iT (α:=Nat) (β:=Unit) (fun j=>⟨[(0,.p 0 0),(3,jn (qd s.B s.G ((gZ s.B).take i))),(10,qW (gZ s.B)),(11,gi ((gZ s.B).map fun n=>[gi n]).length),(12,gi i),(5,gi (gZ s.B)[i]),(6,.o 7),(19,.o 5),(20,gi (s.G.map gr).length),(21,gi j)],[sB s 3 5,sM s,sG s 5,(7,.row 25 3 ((mv (s.G.take j) (gZ s.B)[i]).map gn))],8⟩) (fun j=>j≤s.G.length) (fun j=>s.G.length-j)
    (fun _=>⟨[(0,.p 0 0),(3,jn (qd s.B s.G ((gZ s.B).take i))),(10,qW (gZ s.B)),(11,gi ((gZ s.B).map fun n=>[gi n]).length),(12,gi i),(5,gi (gZ s.B)[i]),(6,.o 7)],[sB s 3 5,sM s,sG s 5,(7,.row 25 3 ((mv s.G (gZ s.B)[i]).map gn))],8⟩) (fun _=>True) 0 id ?_ (aQ _) ?_ ?_
   ·exact⟨⟨rfl,rfl,rfl,rfl,rfl,rfl,rfl,rfl,rfl,rfl,trivial⟩,⟨rfl,iI id s.B,rfl,rfl,trivial⟩,by simp[jt,iy,im,iL,jm,iv,iu,jf,je,nb];try decide⟩
   ·rintro j hj;replace hj:j≤s.G.length:=hj;have hgll:(s.G.map gr).length=s.G.length:=by simp
    refine V ?_;by_cases hjl:j<s.G.length
    ·have hst:=KH (gZ s.B)[i] hjl;have hgo:=EU (s.G.take j) (gZ s.B)[i];rw[aY]at hgo;refine p1 ?_ aj;refine⟨by omega,by omega,?_⟩;refine⟨gr s.G[j],by simp[hjl],?_⟩;by_cases hc:(gZ s.B)[i]≤s.G[j].1
     ·refine p1 ?_ (decide_eq_true hc);rw[if_pos hc]at hst;refine⟨by simp only[aD,aB,aM];omega,?_⟩;refine⟨j+1,r1 7 10,⟨⟨rfl,rfl,rfl,rfl,rfl,rfl,rfl,rfl,rfl,h_ az,trivial⟩,⟨rfl,iI _ s.B,rfl,?_,trivial⟩,by simp[jt,iy,im,iL,jm,iv,iu,jf,je,nb];try decide⟩,hjl,by show s.G.length- (j+1)<s.G.length-j;omega⟩;exact congrArg (fun x=>some (hY.row 25 3 x)) (by rw[hst,aP];rfl)
     ·refine p2 ?_ (decide_eq_false hc);rw[if_neg hc,aZ]at hst;refine⟨j+1,id,⟨⟨rfl,rfl,rfl,rfl,rfl,rfl,rfl,rfl,rfl,h_ az,trivial⟩,⟨rfl,iI _ s.B,rfl,?_,trivial⟩,by simp[jt,iy,im,iL,jm,iv,iu,jf,je,nb];try decide⟩,hjl,by show s.G.length- (j+1)<s.G.length-j;omega⟩;exact congrArg (fun x=>some (hY.row 25 3 (x.map gn))) hst.symm
    ·refine p2 ?_ ai;obtain rfl:j=s.G.length:=by omega
     refine⟨(),id,⟨⟨rfl,rfl,rfl,rfl,rfl,rfl,rfl,trivial⟩,⟨rfl,iI _ s.B,rfl,?_,trivial⟩,by simp[jt,iy,im,iL,jm,iv,iu,jf,je,nb];try decide⟩,trivial⟩;exact congrArg (fun x=>some (hY.row 25 3 ((mv x (gZ s.B)[i]).map gn))) (aT (l:=s.G))
   ·rintro _ _;refine ot 7 rfl ?_;refine oK (by rw[xu];exact wR h.bls hn) ?_;have hb:=h.bl _ hn;have hlf:=h.left _ hn;have haw:=h.aw i hi;refine GO (C2 (js s.B (gZ s.B)[i]).L (mv s.G (gZ s.B)[i]) (by have:=hb.1;omega) (Oj hb) ⟨by have:=EU s.G (gZ s.B)[i];omega,fun g hg=>by obtain⟨x,hx,rfl⟩:=LW hg;have:=h.gm x hx;omega⟩) rfl ?_;refine GO (tT (qd s.B s.G ((gZ s.B).take i)) (kl s.B s.G (gZ s.B)[i]) haw.1 hlf.1 haw.2 hlf.2) rfl ?_;refine⟨i+1,id,⟨⟨rfl,congrArg (fun x=>some (jn x)) (Ky s.B s.G hlt).symm,rfl,rfl,h_ az,trivial⟩,⟨rfl,FB _ s.B,rfl,trivial⟩,by simp[jt,iy,im,iL,jm,iv,iu,jf,je,nb];try decide⟩,hlt,by show (gZ s.B).length- (i+1)<(gZ s.B).length-i;omega⟩
  ·refine p2 ?_ ai;obtain rfl:i=(gZ s.B).length:=by omega
   exact⟨(),id,⟨⟨congrArg (fun x=>some (jn (qd s.B s.G x))) (aT (l:=gZ s.B)),trivial⟩,⟨rfl,iI _ s.B,rfl,trivial⟩,by simp[jt,iy,im,iL,jm,iv,iu,jf,je,nb];try decide⟩,trivial⟩
 ·rintro _ _;refine V ?_;exact⟨rfl,rfl,rfl,rfl⟩
abbrev RH(s:iz):Heap:=[sB s 3 5,nC s 3 6,sM s,sG s 5,sR s 6]
def w8{f:FuncId}{args:List GV}{σ:Heap}{s:iz}{G:GV}(hG:iy 0 G=true)(h:Hf pg f 7 args σ λg σ' _=>g=G/\gW σ' 0=some (sB s 3 5).2/\gW σ' 3=some (nC s 3 6).2/\gW σ' 4=some (sM s).2/\gW σ' 5=some (sG s 5).2/\gW σ' 6=some (sR s 6).2):Hf pg f 7 args σ (λg σ n=>g=G/\σ=RH s/\n=7):=by
 refine h.jK λg σ n ⟨hg,h0,h3,h4,h5,h6⟩=>⟨id,G,RH s,7,A0z,by rw[hg,mR],⟨h0,h3,h4.trans (iI id s.B),h5,h6,trivial⟩,?_⟩;have:=r_ 7 hG;simp[jt,iy,im,iL,jm,iv,iu,je,nb,this]
 decide
theorem IS(s:iz)(h:zV s)(hA:Sz (iF s.B s.G)):Hf pg 74 7 [.p 0 0] (RH s) (fun g σ n=>g=jn (iw s)∧σ=RH s∧n=7):=by
 have hS:=h.hd;refine w8 rfl (Hf.of gV func74 rfl ntmps74 rfl results74 call74 fun H0 S0 w0 h0 g0=>(iU [0,3,4,5,6] false (tk [0,2,3,4]) au (RA.both 1 5 (iV au) (iY.hf 1 (s5 s h) id rfl rfl rfl ⟨rfl,iI id s.B,rfl,trivial⟩ af ay ?_) (iY.read 5 gV rfl rfl ?_))))
 ·rintro _ _ _ ⟨rfl,rfl,rfl⟩;refine RA.run (e:=false) gV au (fun _ _ h=>h) (al [5]) au (ka 6 false (tk []) (uB s.mark s.S (by have:=hS.1;omega) (fun x hx=>⟨by have:=(hS.2 x hx).1;omega,by have:=(hS.2 x hx).2;omega⟩)) (rr 3 6) rfl rfl rfl ⟨rfl,rfl,trivial⟩ rfl av au ?_);rintro _ _ _ ⟨rfl,rfl,rfl⟩;exact kE 7 true (al [8]) (tT (iF s.B s.G) s.S hA.1 hS.1 hA.2 hS.2) rfl rfl au (V ⟨rfl,rfl,rfl,(iI _ s.B).symm,rfl,rfl⟩)
 ·refine ka 1 false (tk []) (s5 s h) id rfl rfl rfl ⟨rfl,iI id s.B,rfl,trivial⟩ af ay au ?_;rintro _ _ _ ⟨rfl,rfl,rfl⟩;refine ka 6 false (tk []) (uB s.mark s.S (by have:=hS.1;omega) (fun x hx=>⟨by have:=(hS.2 x hx).1;omega,by have:=(hS.2 x hx).2;omega⟩)) (rr 3 6) rfl rfl rfl ⟨rfl,rfl,trivial⟩ rfl av au ?_;rintro _ _ _ ⟨rfl,rfl,rfl⟩;exact kE 7 true (al [8]) (tT (iF s.B s.G) s.S hA.1 hS.1 hA.2 hS.2) rfl rfl au (V ⟨rfl,rfl,rfl,(iI _ s.B).symm,rfl,rfl⟩)
def Sk(a b:List gY):ir (a++b)=ir a+ir b:=by
 induction a with
 |nil=>simp[ir]
 |cons x r ih=>
  show x.samples.length+ir (r++b)=x.samples.length+ir r+ir b;omega
def MW(ls:List Lb)(l:List gY){i:Nat}(h:i<l.length):nH ls (l.take (i+1))=nH ls (l.take i)+if iZ l[i].labels ls=0 then l[i].samples.length else 0:=by
 unfold nH;rw[bx,aC h,cH,Sk];refine congrArg _ ?_;by_cases hc:iZ l[i].labels ls=0
 ·rw[if_pos hc];simp[hc,ir]
 rw[if_neg hc];simp[hc,ir]
theorem SL(s:iz)(ls:List Lb)(h:zV s)(hA:Sz (iF s.B s.G))(hL:Sz (iw s)):Hf pg 68 7 [.p 0 0,om ls] (RH s) (fun g σ n=>g=gi (nH ls (iw s):Nat)∧σ=RH s∧n=7):=by
 have hlen:=hL.1;refine w8 rfl (Hf.of gV func68 rfl ntmps68 rfl results68 call68 fun H0 S0 w0 h0 g0=>(ig (IS s h hA) id rfl rfl ⟨rfl,rfl,iI id s.B,rfl,rfl,trivial⟩ af ay ?_));rintro _ _ _ ⟨rfl,rfl,rfl⟩;have hll:((iw s).map se).length=(iw s).length:=aA
 have hle:∀i,nH ls ((iw s).take i)≤300000000:=fun i=>by
  have h1:∀l:List gY,(∀x∈l,x.samples.length≤3000)→ir l≤3000*l.length:=by
   intro l;induction l with
   |nil=>intro _;exact aQ _
   |cons y r ih=>
    intro hy;have h2:=ih fun x hx=>hy x (by simp[hx]);have h3:=hy y aA;show y.samples.length+ir r≤3000*(r.length+1);omega
  have h4:=h1 (((iw s).take i).filter fun x=>decide (iZ x.labels ls=0)) fun x hx=>(hL.2 x (b9 (bF.1 hx).1)).1;have h5:(((iw s).take i).filter fun x=>decide (iZ x.labels ls=0)).length≤(iw s).length:=bE (bZ _ _) (by rw[aY];omega);unfold nH;omega
 refine JK.iT (α:=Nat) (β:=Unit) (fun i=>⟨[(1,om ls),(5,gi (nH ls ((iw s).take i):Nat)),(9,jn (iw s)),(10,gi ((iw s).map se).length),(11,gi i)],RH s,7⟩) (fun i=>i≤(iw s).length) (fun i=>(iw s).length-i)
  (fun _=>⟨[(5,gi (nH ls (iw s):Nat))],RH s,7⟩) (fun _=>True) 0 id ?_ (aQ _) ?_ ?_
 ·exact⟨⟨rfl,rfl,rfl,rfl,rfl,trivial⟩,⟨rfl,rfl,j6 _ id s.B,rfl,rfl,trivial⟩,by simp[jt,iy,im,iL,jm,iv,iu,jf,je,nb];try decide⟩
 ·rintro i hi;replace hi:i≤(iw s).length:=hi;refine V ?_;by_cases hlt:i<(iw s).length
  ·have hst:=MW ls (iw s) hlt;have h1:=hle i;have h2:=(hL.2 (iw s)[i] (aR hlt)).1;refine p1 (ix (h:=(GO (ra (iw s)[i].labels ls) rfl ?_))) aj;by_cases hc:iZ (iw s)[i].labels ls=0
   ·refine p1 ?_ (decide_eq_true hc);rw[if_pos hc]at hst;refine⟨i+1,id,⟨⟨rfl,congrArg (fun x=>some (gi x)) ?_,rfl,rfl,h_ az,trivial⟩,⟨rfl,rfl,iI id s.B,rfl,rfl,trivial⟩,by simp[jt,iy,im,iL,jm,iv,iu,jf,je,nb];try decide⟩,hlt,m8⟩;rw[hst];have hsl:((iw s)[i].samples.map sm).length=(iw s)[i].samples.length:=aA
    show i64.wrap (((nH ls ((iw s).take i):Nat):Int)+(((iw s)[i].samples.map sm).length:Int))=_;rw[ic az az,hsl];omega
   ·refine p2 ?_ (decide_eq_false hc);rw[if_neg hc,b8]at hst;exact⟨i+1,id,⟨⟨rfl,congrArg (fun x:Nat=>some (gi x)) hst.symm,rfl,rfl,h_ az,trivial⟩,⟨rfl,rfl,iI id s.B,rfl,rfl,trivial⟩,by simp[jt,iy,im,iL,jm,iv,iu,jf,je,nb];try decide⟩,hlt,m8⟩
  ·refine p2 ?_ ai;obtain rfl:i=(iw s).length:=az
   exact⟨(),id,⟨⟨congrArg (fun x=>some (gi (nH ls x:Nat))) (aT (l:=iw s)),trivial⟩,⟨rfl,rfl,iI id s.B,rfl,rfl,trivial⟩,by simp[jt,iy,im,iL,jm,iv,iu,jf,je,nb];try decide⟩,trivial⟩
 ·rintro _ _;exact V ⟨rfl,rfl,rfl,rfl,rfl,rfl⟩
def o0(s:iz)(d:Dk)(fp:List Nat):Hf pg 37 7 [.p 0 0] [sB s 3 5,(1,.ab (dk d fp)),wl 2 1 false] (λG σ n=>G=.b false/\(∃fp,σ=[sB s 3 5,(1,.ab (dk d fp)),wl 2 1 false])/\n=7):=by
 refine (Hf.lL (g:=.b false) (R:=λσ _=>gW σ 0=some (sB s 3 5).2/\(∃fp,gW σ 1=some (.ab (dk d fp)))/\gW σ 2=some (wl 2 1 false).2) (Hf.of gV func37 rfl ntmps37 rfl results37 call37 λH0 S0 w0 h0 g0=>?_)).jK ?_
 ·refine ig (Sw d fp false) (rr 1 2) rfl rfl A0z rfl av ?_;rintro _ _ _ ⟨rfl,⟨fp1,rfl⟩,rfl⟩;exact⟨rfl,rfl,⟨fp1,rfl⟩,rfl⟩
 rintro g σ n ⟨rfl,h0,⟨fp,h1⟩,h2⟩;exact⟨id,.b false,[sB s 3 5,(1,.ab (dk d fp)),wl 2 1 false],7,⟨rfl,⟨fp,rfl⟩,rfl⟩,rfl,⟨h0,h1,h2,trivial⟩,rfl⟩
def vy(s:iz)(d:Dk)(fp:List Nat):Hf pg 64 7 [.p 0 0] [sB s 3 5,(1,.ab (dk d fp)),wl 2 1 false] (λG σ n=>G=.v .nilIface/\(∃fp,σ=[sB s 3 5,(1,.ab (dk d fp)),wl 2 1 false])/\n=7):=by
 refine Hf.jK (Q:=λG σ _=>G=.v .nilIface/\gW σ 0=some (sB s 3 5).2/\(∃fp,gW σ 1=some (.ab (dk d fp)))/\gW σ 2=some (wl 2 1 false).2) (Hf.of gV func64 rfl ntmps64 rfl results64 call64 λH0 S0 w0 h0 g0=>?_) ?_
 ·refine ig (o0 s d fp) id rfl rfl A0z rfl ay ?_;rintro _ _ _ ⟨rfl,⟨fp1,rfl⟩,rfl⟩;exact p2 ⟨rfl,rfl,⟨fp1,rfl⟩,rfl⟩
 rintro g σ n ⟨rfl,h0,⟨fp,h1⟩,h2⟩;exact⟨id,.v .nilIface,[sB s 3 5,(1,.ab (dk d fp)),wl 2 1 false],7,⟨rfl,⟨fp,rfl⟩,rfl⟩,rfl,⟨h0,h1,h2,trivial⟩,rfl⟩
abbrev vZ(s:iz)(b:Bl):iz:={s with B:=jE (kn s.nx) b s.B,nx:=s.nx+1}
structure Qz(s:iz):Prop where
 gl:s.G.length<=1000
 sl:s.S.length<=1000
 g:∀x∈s.G,sd x.2.mt/\(jN x.2.mt).size<=1000000
 sz:∀x∈s.S,x.samples.length<=1000000/\x.labels.length<=1000000
 k:∀x∈s.S,rB [x]=none/\(lT [x]).size<=10000000/\Sh x.labels
theorem OQ (s:iz) (d:Dk) (fp:List Nat) (B:Nat) (hok:d.ok B) (b:Bl) (h0:0≤s.nx) (h1:s.nx<1000000000000000000) (hlab:∀x∈b.L,tN x) (hl:(lT b.L).size≤1000000) (hR:lZ b.to_ b.iN b.L=true) (hB:B+(mw b.to_ b.iN b.L).size≤4611686018427387904) {d1 d2:Dk} {B1:Nat} (hw:yq kO (jk s.nx) (mw b.to_ b.iN b.L) d=(none,d1)) (hn:Qz (vZ s b)) (hok1:d1.ok B1)
  (hB1:B1+(jc ((kK (vZ s b).mem).map iR)).size≤1000000000000) (jh:pY ((kK (vZ s b).mem).map iR) false d1=(none,false,d2)):
  Hf pg 72 7 [.p 0 0,gi s.nx,F1 b.to_ b.iN b.L] (SH s d fp 3 5 6) (lq (.v .nilIface) (vZ s b) d2):=by
 have hse:∀fp,Hf pg 97 2 [.p 1 0,.sl 1 (vx (kK (vZ s b).mem))] [(0,.ab (dk d1 fp)),wl 1 0 false] (oC (qi none) false d2):=fun fp=>by
  have:=Fq d1 fp B1 hok1 ((kK (vZ s b).mem).map iR) (by rw[aD,we];have h1:s.G.length≤1000:=hn.gl;have h2:s.S.length≤1000:=hn.sl;show 1+s.G.length+s.S.length≤_;omega) hB1 false;rw[jh]at this;exact this
 have hno:=Hd (vZ s b) hn.gl hn.sl hn.g hn.sz hn.k;refine lq.of rfl (Hf.of gV func72 rfl ntmps72 rfl results72 call72 fun H0 S0 w0 h0' g0=>(ig (EC s d fp B hok s.nx b h0 h1 hlab hl hR hB hw) id rfl rfl ⟨rfl,rfl,trivial⟩ rfl ay ?_));rintro _ _ _ ⟨rfl,⟨fp1,rfl⟩,rfl⟩;refine p1 (iU [4] true (tk [0,1,2,3,4,5]++al [6]) au (V ?_));have enx:i64.wrap (s.nx+1)=s.nx+1:=ic az az;refine iU [0,1,2,3,5,6] false (tk [0,1,2,4]) au (RA.both 3 5 (iV au) (iY.read 3 gV rfl rfl ?_) (iY.hf 5 hno id rfl rfl rfl ⟨congrArg (fun i=>some (hY.hZ 87 [.p 1 0,.p 2 0,.p 3 0,.o 4,.o 5,gi i,.v (.bool false)])) enx,rfl,rfl,rfl,trivial⟩ rfl ay ?_))
 ·refine ka 5 false (tk []) hno id rfl rfl rfl ⟨congrArg (fun i=>some (hY.hZ 87 [.p 1 0,.p 2 0,.p 3 0,.o 4,.o 5,gi i,.v (.bool false)])) enx,rfl,rfl,rfl,trivial⟩ rfl ay au ?_;rintro _ _ _ ⟨rfl,rfl,rfl⟩;refine ka 6 true (tk [7]) (hse _) (rr 1 2) rfl rfl rfl ⟨rfl,rfl,trivial⟩ rfl av au ?_;rintro _ _ _ ⟨rfl,⟨fp3,rfl⟩,rfl⟩;exact V ⟨rfl,3,5,6,rfl,⟨s.nx+1,.b false,rfl,rfl,rfl⟩,⟨fp3,rfl⟩,rfl,rfl,(congrArg (fun x=>some (hY.mp (some IntKind.i64) x)) (nP eb (kn s.nx) b s.B)),rfl,rfl⟩
 ·rintro _ _ _ ⟨rfl,rfl,rfl⟩;refine RA.run (e:=false) gV au (fun _ _ h=>h) (al [3]) au (ka 6 true (tk [7]) (hse _) (rr 1 2) rfl rfl rfl ⟨rfl,rfl,trivial⟩ rfl av au ?_);rintro _ _ _ ⟨rfl,⟨fp3,rfl⟩,rfl⟩;exact V ⟨rfl,3,5,6,rfl,⟨s.nx+1,.b false,rfl,rfl,rfl⟩,⟨fp3,rfl⟩,rfl,rfl,(congrArg (fun x=>some (hY.mp (some IntKind.i64) x)) (nP eb (kn s.nx) b s.B)),rfl,rfl⟩
def Il(s:ByteArray)(hs:s.size<=1000000){v:Int}(h:Lib.parseIntB 64 s.data.toList=.ok v):Rq pg 83 [gs s,gi 10,gi 64] (λg=>g=.tup [gi v,.v .nilIface]):=by
 refine Rq.MZ (p:=pg) call83 [.string s,.int .i64 10,.int .i64 64] _ λH w hg hro=>?_;have tup:∀(n:Int) (e:Value) (ro:Nat->Option Obj),jM ro (.tup [gi n,.v e]) (.tuple #[.int .i64 n,e]):=λn e ro=>.tup rfl λj g hj=>by
  match j with
  |0=>simp at hj;subst hj;exact .v _
  |1=>simp at hj;subst hj;exact .v _
  |j+2=>simp at hj
 refine (Tryz.strconv_ParseInt_10_at64_ok s az v h w).mono ?_;rintro e w' ⟨rfl,hw⟩;refine⟨_,_,rfl,?_,tup v .nilIface,rfl,rfl⟩;rcases hw with rfl|⟨t,rfl⟩
 ·exact Below.refl _ _
 exact Lib.bytesWorld_below w _ t
theorem KU(s p:ByteArray)(h:nI s p=true)(hz:p.size≤s.size):Rt pg 82 [gs s,gs p] (.tup [gs (s.extract p.size s.size),.v (.bool true)]):=by
 have h1:Rt pg 146 [gs s,gs p] (.tup [gs (s.extract p.size s.size),.v (.bool true)]):=by
  refine Rt.of gV func146 rfl ntmps146 rfl results146 call146 fun H0 S0 w0 h0 g0=>?_;exact GO ((tg s p).bt h) rfl ⟨az,az,bY _,⟨rfl,rfl,trivial⟩,rfl⟩
 refine Rt.of gV func82 rfl ntmps82 rfl results82 call82 fun H0 S0 w0 h0 g0=>?_;exact GO h1 rfl ⟨⟨rfl,rfl,trivial⟩,rfl⟩
def LN(s p:ByteArray)(h:nI s p=false):Rt pg 82 [gs s,gs p] (.tup [gs s,.v (.bool false)]):=by
 have h1:Rt pg 146 [gs s,gs p] (.tup [gs s,.v (.bool false)]):=by
  refine Rt.of gV func146 rfl ntmps146 rfl results146 call146 λH0 S0 w0 h0 g0=>?_;exact GO ((tg s p).bt h) rfl A0z
 refine Rt.of gV func82 rfl ntmps82 rfl results82 call82 λH0 S0 w0 h0 g0=>?_;exact GO h1 rfl A0z
end Go.Proofs.YtadildidlcbbkaaGreatDoor
namespace Go.Proofs
open Go.Shelf
def Tryz.Iw:Go.Shelf.Ren:=⟨fun|190=>195|125=>189|258=>253|128=>245|129=>246|302=>295|303=>296|304=>297|305=>298|306=>299|307=>300|308=>301|309=>302|310=>303|333=>345|329=>286|330=>287|334=>346|335=>347|336=>348|344=>364|n=>n,fun|31=>79|9=>9|3=>3|46=>219|0=>0|51=>315|53=>233|4=>4|183=>308|182=>307|131=>206|5=>5|218=>360|222=>364|228=>406|229=>407|n=>n,fun|n=>n⟩
def Tryz.I8:Go.Proofs.Lays.n190 Tryz.prog Tryz.Iw:={
 mixed:=au
 f125:=Tryz.func189.trans ah
 f128:=Tryz.func245.trans ah
 f129:=Tryz.func246.trans ah
 f190:=Tryz.func195.trans ah
 f258:=Tryz.func253.trans ah
 f302:=Tryz.func295.trans ah
 f303:=Tryz.func296.trans ah
 f304:=Tryz.func297.trans ah
 f305:=Tryz.func298.trans ah
 f306:=Tryz.func299.trans ah
 f307:=Tryz.func300.trans ah
 f308:=Tryz.func301.trans ah
 f309:=Tryz.func302.trans ah
 f310:=Tryz.func303.trans ah
 f329:=Tryz.func286.trans ah
 f330:=Tryz.func287.trans ah
 f333:=Tryz.func345.trans ah
 f334:=Tryz.func346.trans ah
 f335:=Tryz.func347.trans ah
 f336:=Tryz.func348.trans ah
 f344:=Tryz.func364.trans ah
 t0:=Tryz.underlying0
 a0:=Tryz.isAgg0
 z0:=Tryz.sizeOf0
 v0:=Tryz.zeroValue0
 t3:=Tryz.underlying3
 a3:=Tryz.isAgg3
 z3:=Tryz.sizeOf3
 v3:=Tryz.zeroValue3
 t4:=Tryz.underlying4
 a4:=Tryz.isAgg4
 z4:=Tryz.sizeOf4
 v4:=Tryz.zeroValue4
 t5:=Tryz.underlying5
 a5:=Tryz.isAgg5
 z5:=Tryz.sizeOf5
 v5:=Tryz.zeroValue5
 t9:=Tryz.underlying9
 a9:=Tryz.isAgg9
 z9:=Tryz.sizeOf9
 v9:=Tryz.zeroValue9
 t31:=Tryz.underlying79
 a31:=Tryz.isAgg79
 z31:=Tryz.sizeOf79
 v31:=Tryz.zeroValue79
 t46:=Tryz.underlying219
 a46:=Tryz.isAgg219
 z46:=Tryz.sizeOf219
 v46:=Tryz.zeroValue219
 t51:=Tryz.underlying315
 a51:=Tryz.isAgg315
 z51:=Tryz.sizeOf315
 v51:=Tryz.zeroValue315
 t53:=Tryz.underlying233
 a53:=Tryz.isAgg233
 z53:=Tryz.sizeOf233
 v53:=Tryz.zeroValue233
 t131:=Tryz.underlying206
 a131:=Tryz.isAgg206
 z131:=Tryz.sizeOf206
 v131:=Tryz.zeroValue206
 t182:=Tryz.underlying307
 a182:=Tryz.isAgg307
 z182:=Tryz.sizeOf307
 v182:=Tryz.zeroValue307
 t183:=Tryz.underlying308
 a183:=Tryz.isAgg308
 z183:=Tryz.sizeOf308
 v183:=Tryz.zeroValue308
 t218:=Tryz.underlying360
 a218:=Tryz.isAgg360
 z218:=Tryz.sizeOf360
 v218:=Tryz.zeroValue360
 t222:=Tryz.underlying364
 a222:=Tryz.isAgg364
 z222:=Tryz.sizeOf364
 v222:=Tryz.zeroValue364
 t228:=Tryz.underlying406
 a228:=Tryz.isAgg406
 z228:=Tryz.sizeOf406
 v228:=Tryz.zeroValue406
 t229:=Tryz.underlying407
 a229:=Tryz.isAgg407
 z229:=Tryz.sizeOf407
 v229:=Tryz.zeroValue407}
open Go.Sort Go.RowKit in
def Tryz.slices_Sort_string(hZ off cap:Nat)(ss:List (List UInt8))(w:World)(hH:Holds encStr w hZ off ss.toArray)(hblk:hZ<w.heap.size)(hsz:ss.length<4611686018427387904):
  Calls Tryz.prog 195 #[.slice (some ⟨hZ,off,none⟩) ss.length cap] w λe w'=>
   e=.returned (.tuple #[])/\∃n os,w'=grow (putRow encStr (Sort.ahead w n) hZ off (ss.mergeSort λx y=>decide (x<=y)).toArray) os:=Any.slices_Sort_string Tryz.I8 hZ off cap ss w hH hblk hsz
open Go.RowKit Go.Sort in
def Tryz.slices_Sort_string_none(p:Option Addr)(cap:Nat)(w:World):
  Calls Tryz.prog 195 #[.slice p 0 cap] w λe w'=>e=.returned (.tuple #[])/\w'=w:=Any.slices_Sort_string_none Tryz.I8 p cap w
def Tryz.z_:Go.Shelf.Ren:=⟨fun|7=>145|10=>196|n=>n,fun|23=>30|26=>9|3=>9|28=>226|0=>0|27=>225|33=>177|4=>4|n=>n,fun|n=>n⟩
def Tryz.ji:Go.Proofs.SlLaysZ.n7 Tryz.prog Tryz.z_:={
 mixed:=au
 f7:=⟨Tryz.f145.name,ax,Tryz.func145.trans ah⟩
 f10:=⟨Tryz.f196.name,ax,Tryz.func196.trans ah⟩
 t0:=Tryz.underlying0
 a0:=Tryz.isAgg0
 z0:=Tryz.sizeOf0
 v0:=Tryz.zeroValue0
 t4:=Tryz.underlying4
 a4:=Tryz.isAgg4
 z4:=Tryz.sizeOf4
 v4:=Tryz.zeroValue4
 t23:=Tryz.underlying30
 a23:=Tryz.isAgg30
 z23:=Tryz.sizeOf30
 v23:=Tryz.zeroValue30
 t26:=Tryz.underlying9
 a26:=Tryz.isAgg9
 z26:=Tryz.sizeOf9
 v26:=Tryz.zeroValue9
 t27:=Tryz.underlying225
 a27:=Tryz.isAgg225
 z27:=Tryz.sizeOf225
 v27:=Tryz.zeroValue225
 t28:=Tryz.underlying226
 a28:=Tryz.isAgg226
 z28:=Tryz.sizeOf226
 v28:=Tryz.zeroValue226
 t33:=Tryz.underlying177
 a33:=Tryz.isAgg177
 z33:=Tryz.sizeOf177
 v33:=Tryz.zeroValue177}
def Tryz.Bi:Go.Shelf.Ren:=⟨fun|6=>144|8=>194|9=>195|11=>252|13=>189|12=>253|23=>245|24=>246|14=>295|15=>296|16=>297|17=>298|18=>299|19=>300|20=>301|21=>302|22=>303|25=>345|26=>286|27=>287|28=>346|29=>347|30=>348|31=>364|n=>n,fun|26=>9|28=>226|24=>79|0=>0|3=>3|37=>219|48=>315|50=>233|4=>4|40=>308|39=>307|45=>206|5=>5|9=>9|51=>360|55=>364|57=>406|58=>407|33=>177|n=>n,fun|n=>n⟩
def Tryz.Jv:Go.Proofs.SlLaysZ.n6 Tryz.prog Tryz.Bi:={
 mixed:=au
 f6:=⟨Tryz.f144.name,ax,Tryz.func144.trans ah⟩
 f8:=⟨Tryz.f194.name,ax,Tryz.func194.trans ah⟩
 f11:=⟨Tryz.f252.name,ax,Tryz.func252.trans ah⟩
 t0:=Tryz.underlying0
 a0:=Tryz.isAgg0
 z0:=Tryz.sizeOf0
 v0:=Tryz.zeroValue0
 t24:=Tryz.underlying79
 a24:=Tryz.isAgg79
 z24:=Tryz.sizeOf79
 v24:=Tryz.zeroValue79
 t26:=Tryz.underlying9
 a26:=Tryz.isAgg9
 z26:=Tryz.sizeOf9
 v26:=Tryz.zeroValue9
 t28:=Tryz.underlying226
 a28:=Tryz.isAgg226
 z28:=Tryz.sizeOf226
 v28:=Tryz.zeroValue226
 i26:=by kernel_rfl}
end Go.Proofs
