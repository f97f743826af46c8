/- A part of the proof of StoreGoesCardSaid. -/
import Derived.Test.YtadildidlcbbkaaGreatDoorK08
import Derived.Test.YtadildidlcbbkaaGreatDoorRows
import Derived.ProofKit
import Derived.LaidMore
import Derived.LaidLaws
import Derived.LaidHandle
import Derived.LaidSub
import Derived.Lay
import Derived.ChangeSame
import Derived.OpenShut
import Derived.Stop.Joined
set_option linter.all false
namespace Go.Proofs.YtadildidlcbbkaaGreatDoor
open Go Go.GK Go.PL Go.RowKit IntKind Go.Proofs.Tryz
set_option maxRecDepth 100000
def Ef(l:List gY):Rt pg 23 [jn l] (.b (yU l)):=by
 refine Rt.of gV func23 rfl ntmps23 rfl results23 call23 λH0 S0 w0 h0 g0=>?_;have hll:(l.map se).length=l.length:=aA
 unfold yU;by_cases hl:l.length<=20
 ·refine p2 (JK.loop (α:=Nat) (λi=>⟨[(0,jn l),(3,gi i)],[],0⟩) (λi=>i<=l.length/\∀j,j<i->Dx l j=false) (λi=>l.length-i) 0 id ?_ ⟨aQ _,λj hj=>absurd hj az⟩ ?_)
  ·exact A0z
  rintro i ⟨hi,hgood⟩;refine V ?_;by_cases hlt:i<l.length
  ·have hg:=Jz hlt;have hbad:(!Bd l[i].labels||decide (60<l[i].samples.length))=true->(decide (l.length<=20)&& !p7 l.length (Dx l))=false:=λh=>by rw[oa hlt (by rw[hg];exact h)];simp
   have hnext:(!Bd l[i].labels||decide (60<l[i].samples.length))=false->∀j,j<i+1->Dx l j=false:=λh j hj=>by
    rcases bX.1 hj with h1|h1
    ·exact hgood j h1
    subst h1;rw[hg];exact h
   refine p1 (ix (h:=?_)) aj;have hsm:(l[i].samples.map sm).length=l[i].samples.length:=aA
   rcases tf (Bd l[i].labels) with h1|h1
   ·refine GO ((CT l[i].labels).bt h1) rfl ?_
    repeat (first|refine p1 ?_|refine p2 ?_|refine p3 ?_|refine p4 ?_)
    refine ix (h:=?_);by_cases h2:60<l[i].samples.length
    ·exact p1 ⟨(hbad (by rw[decide_eq_true h2,ff])).symm,rfl⟩ aj
    exact p2 ⟨i+1,id,⟨⟨rfl,h_ az,trivial⟩,trivial,rfl⟩,⟨hlt,hnext (by rw[decide_eq_false h2,h1];rfl)⟩,m8⟩ ai
   refine GO ((CT l[i].labels).bt h1) rfl ?_
   repeat (first|refine p1 ?_|refine p2 ?_|refine p3 ?_|refine p4 ?_)
   exact⟨(hbad (by rw[h1];rfl)).symm,rfl⟩
  refine p2 (V ?_) ai;obtain rfl:i=l.length:=az
  exact⟨by rw[nZ hgood,decide_eq_true hl];rfl,rfl⟩
 exact p1 ⟨by rw[decide_eq_false hl];rfl,rfl⟩
def qB(l:List gY):Rt pg 12 [jn l,jn l] (.b true):=by
 refine Rt.of gV func12 rfl ntmps12 rfl results12 call12 λH0 S0 w0 h0 g0=>?_;refine p2 ?_ aA;refine JK.len 0 rfl λhlen _=>?_;have hlen':l.length<=9223372036854775807:=by simpa[maxLen]using hlen
 refine JK.loop (α:=Nat) (λi=>⟨[(0,jn l),(1,jn l),(5,gi i)],[],0⟩) (λi=>i<=l.length) (λi=>l.length-i) 0 id ?_ (aQ _) ?_
 ·exact A0z
 intro i hi;refine V ?_;by_cases h:i<l.length
 ·refine p1 ?_ (decide_eq_true (by simp only[aD];omega));have hc:=ra l[i].labels l[i].labels;rw[show iZ l[i].labels l[i].labels=0 from (jo.eq0 _ _).2 rfl]at hc;refine iU [] false (tk [0,1,2,3,4,5,6,7,8,9]) au (ix (h:=(ix (h:=(kE 10 false (tk [11,12,13,14,15,16,17,18,19,20,21,22]) hc rfl rfl au ?_)))))
  repeat (first|refine p1 ?_|refine p2 ?_|refine p3 ?_|refine p4 ?_)
  exact ix (h:=(ix (h:=(kE 23 true (tk [24,25]) ((Rq.iN call44 (Mm l[i].samples l[i].samples)).bt (d:=true) (decide_eq_true rfl)) rfl rfl au (V ⟨i+1,id,⟨⟨rfl,rfl,h_ az,trivial⟩,trivial,rfl⟩,h,m8⟩)))))
 exact p2 (V ⟨rfl,rfl⟩) (decide_eq_false (by simp only[aD];omega))
abbrev sp(x:Sp):List GV:=[gi x.w,jn x.L,gi x.t,.sl 3 (x.g.mt.map mt),gi x.g.lo,gi x.g.hi]
def jD{a b:Int}(h:a≠b):(a==b)=false:=by simpa using h
def lx{a b:Int}(h:a=b):(a==b)=true:=by simpa using h
def O0(s:iz)(d:Dk)(fp:List Nat)(t:Int)(ht:¬(-1099511627776<=t/\t<=1099511627776)):
  Hf pg 26 7 [.p 0 0,gi t] (SH s d fp 3 5 6) (lq (.ifc 54 (gi 2)) s d):=by
 refine lq.of rfl (Hf.of gV func26 rfl ntmps26 rfl results26 call26 λH0 S0 w0 hn0 g0=>(ig (o0 s d fp) id rfl rfl A0z rfl ay ?_));rintro _ _ _ ⟨rfl,⟨fp1,rfl⟩,rfl⟩;refine p2 ?_;by_cases h1:t< -1099511627776
 ·exact p3 ⟨rfl,3,5,6,rfl,⟨_,.v (.bool false),rfl,rfl,rfl⟩,⟨fp1,rfl⟩,rfl,rfl,rfl,rfl,rfl⟩ (decide_eq_true h1)
 exact p4 (p1 ⟨rfl,3,5,6,rfl,⟨_,.v (.bool false),rfl,rfl,rfl⟩,⟨fp1,rfl⟩,rfl,rfl,rfl,rfl,rfl⟩ aj) (decide_eq_false h1)
def MV(s:iz)(d:Dk)(fp:List Nat)(t:Int)(ht: -1099511627776<=t/\t<=1099511627776)(hl:30<=s.B.length):
  Hf pg 26 7 [.p 0 0,gi t] (SH s d fp 3 5 6) (lq (.ifc 54 (gi 12)) s d):=by
 have hbl:(iG eb s.B).length=s.B.length:=aA
 refine lq.of rfl (Hf.of gV func26 rfl ntmps26 rfl results26 call26 λH0 S0 w0 hn0 g0=>(ig (o0 s d fp) id rfl rfl A0z rfl ay ?_));rintro _ _ _ ⟨rfl,⟨fp1,rfl⟩,rfl⟩;exact p2 (p4 (p2 (p1 ⟨rfl,3,5,6,rfl,⟨_,.v (.bool false),rfl,rfl,rfl⟩,⟨fp1,rfl⟩,rfl,rfl,rfl,rfl,rfl⟩ aj) ai) ai)
def Ei(s:iz)(d:Dk)(fp:List Nat)(g:Gn)(hg:l8 g.mt=false)(hv:∀x∈g.mt,x.value.size<4611686018427387904):
  Hf pg 11 7 [.p 0 0,.agg (gn g)] (SH s d fp 3 5 6) (lq (.ifc 54 (gi 1)) s d):=by
 refine lq.of rfl (Hf.of gV func11 rfl ntmps11 rfl results11 call11 λH0 S0 w0 hn0 g0=>(ig (o0 s d fp) id rfl rfl A0z rfl ay ?_));rintro _ _ _ ⟨rfl,⟨fp1,rfl⟩,rfl⟩;refine p2 (GO ((qt g.mt hv).bt hg) rfl ?_)
 repeat (first|refine p1 ?_|refine p2 ?_|refine p3 ?_|refine p4 ?_)
 exact⟨rfl,3,5,6,rfl,⟨_,.v (.bool false),rfl,rfl,rfl⟩,⟨fp1,rfl⟩,rfl,rfl,rfl,rfl,rfl⟩
def CQ(s:iz)(d:Dk)(fp:List Nat)(g:Gn)(hg:l8 g.mt=true)(hv:∀x∈g.mt,x.value.size<4611686018427387904)(hl:200<=s.G.length):
  Hf pg 11 7 [.p 0 0,.agg (gn g)] (SH s d fp 3 5 6) (lq (.ifc 54 (gi 12)) s d):=by
 have hgl:(s.G.map gr).length=s.G.length:=aA
 refine lq.of rfl (Hf.of gV func11 rfl ntmps11 rfl results11 call11 λH0 S0 w0 hn0 g0=>(ig (o0 s d fp) id rfl rfl A0z rfl ay ?_));rintro _ _ _ ⟨rfl,⟨fp1,rfl⟩,rfl⟩;exact p2 (GO ((qt g.mt hv).bt hg) rfl (p1 ⟨rfl,3,5,6,rfl,⟨_,.v (.bool false),rfl,rfl,rfl⟩,⟨fp1,rfl⟩,rfl,rfl,rfl,rfl,rfl⟩ aj))
def stay{W K:Nat}{s:iz}{d:Dk}(h:iM W K s d):iM W (K+1) s d:=⟨h.sto,h.few,h.iN,h.up,by have:=h.nx;show s.nx<=((K+1:Nat):Int);omega,h.gl,h.gok,h.size.mono az,h.disk⟩
structure G4(x:Sp):Prop where
 s:yU x.L=true
 m:yP x.g.mt=true
 v:∀y∈x.L,lV y.samples
 lo:kp x.g.lo
 hi:kp x.g.hi
def D7{l:List gY}(h:yU l=true):l.length<=20/\∀x∈l,Sh x.labels/\x.samples.length<=100000/\x.labels.length<=100000:=by
 obtain⟨h0,h⟩:=Nw h;refine⟨h0,λx hx=>?_⟩;obtain⟨h1,h2⟩:=h x hx;obtain⟨h3,h4⟩:=L1 h1;exact⟨λy hy=>by have:=h4 y hy;omega,az,az⟩
def Ey{l:List Mt}(h:yP l=true):l.length<=20/\∀x∈l,x.value.size<4611686018427387904:=by
 unfold yP at h;rw[aG,bG,decide_eq_true_eq]at h;refine⟨h.1,λx hx=>?_⟩;obtain⟨i,hi,rfl⟩:=bz hx;have h1:=oP h.2 i hi;rw[cR,aC hi]at h1;simp only[dP,bO,decide_eq_false_iff_not]at h1;omega
def nV(x:Sp)(s s':iz)(ok:Bool):Prop:=x.w≠2->x.w≠4->ou (iw s) (iw s')/\ir (iw s')=ir (iw s)+(if x.w=0/\ok=true then ir x.L else 0)
def nV.same{x:Sp}{s s':iz}{ok:Bool}(h0:x.w≠0\/ok=false)(h:iw s'=iw s):nV x s s' ok:=λ_ _=>by
 rw[h,if_neg (by rintro⟨a,b⟩;rcases h0 with h0|h0;exact h0 a;rw[h0]at b;cases b)];exact⟨ou.rfl,rfl⟩
def nV.not{x:Sp}{s s':iz}{ok:Bool}(h0:x.w=2\/x.w=4):nV x s s' ok:=λa b=>by
 rcases h0 with h0|h0
 ·exact absurd h0 a
 exact absurd h0 b
def IQ{W K:Nat}{s:iz}{d:Dk}(h:iM W K s d)(hK:K<60)(hW:W<=100000000000)(x:Sp)(hx:G4 x):
  ∃(ok:Bool) (G:GV) (s':iz) (d':Dk) (W':Nat),(W'<=W+50000000/\iM W' (K+1) s' d')/\(∀fp,Hf pg 9 7 [.p 0 0,.agg (sp x)] (SH s d fp 3 5 6) (lq G s' d'))/\(ok=true->G=.v .nilIface)/\(ok=false->(∃T e,G=.ifc T (gi e))\/∃T a b,G=.ifc T (.r [gi a,gi b]))/\nV x s s' ok:=by
 obtain⟨hl20,hxs⟩:=D7 hx.s;obtain⟨hm20,hmv⟩:=Ey hx.m;by_cases w0:x.w=0
 ·obtain⟨d',W',hle,st,hf⟩:=Ch h hK hW x.L az hxs hx.v;rcases tP (j8 x.L s).1 with ⟨e0,eG⟩|⟨e0,eG⟩|⟨e0,eG⟩
  ·rw[eG]at hf;refine⟨true,.v .nilIface,_,d',W',⟨az,st⟩,λfp=>(lq.of rfl (Hf.of gV func9 rfl ntmps9 rfl results9 call9 λH0 S0 w0 hn0 g0=>(p1 (ig (hf fp) id rfl rfl ⟨rfl,rfl,rfl,rfl,iI id s.B,rfl,rfl,trivial⟩ af ae ?_) (lx az)))),λ_=>rfl,λe=>(by cases e),λ_ _=>⟨LI h.sto,by rw[if_pos ⟨w0,rfl⟩];exact Nb h.sto e0⟩⟩;rintro _ _ _ ⟨rfl,⟨fp1,rfl⟩,rfl⟩;exact⟨rfl,8,9,10,rfl,⟨_,.v (.bool false),rfl,rfl,rfl⟩,⟨fp1,rfl⟩,rfl,rfl,(iI _ _).symm,rfl,rfl⟩
  ·rw[eG]at hf;refine⟨false,(.ifc 54 (gi (j8 x.L s).1.1)),_,d',W',⟨az,st⟩,λfp=>(lq.of rfl (Hf.of gV func9 rfl ntmps9 rfl results9 call9 λH0 S0 w0 hn0 g0=>(p1 (ig (hf fp) id rfl rfl ⟨rfl,rfl,rfl,rfl,iI id s.B,rfl,rfl,trivial⟩ af ae ?_) (lx az)))),λe=>(by cases e),λ_=>.inl ⟨_,_,rfl⟩,nV.same (.inr rfl) (by rw[y_ e0])⟩;rintro _ _ _ ⟨rfl,⟨fp1,rfl⟩,rfl⟩;exact⟨rfl,8,9,10,rfl,⟨_,.v (.bool false),rfl,rfl,rfl⟩,⟨fp1,rfl⟩,rfl,rfl,(iI _ _).symm,rfl,rfl⟩
  rw[eG]at hf;refine⟨false,(.ifc 137 (.r [gi (j8 x.L s).1.1,gi (j8 x.L s).1.2])),_,d',W',⟨az,st⟩,λfp=>(lq.of rfl (Hf.of gV func9 rfl ntmps9 rfl results9 call9 λH0 S0 w0 hn0 g0=>(p1 (ig (hf fp) id rfl rfl ⟨rfl,rfl,rfl,rfl,iI id s.B,rfl,rfl,trivial⟩ af ae ?_) (lx az)))),λe=>(by cases e),λ_=>.inr ⟨_,_,_,rfl⟩,nV.same (.inr rfl) (by rw[y_ e0])⟩;rintro _ _ _ ⟨rfl,⟨fp1,rfl⟩,rfl⟩;exact⟨rfl,8,9,10,rfl,⟨_,.v (.bool false),rfl,rfl,rfl⟩,⟨fp1,rfl⟩,rfl,rfl,(iI _ _).symm,rfl,rfl⟩
 by_cases w1:x.w=1
 ·by_cases ht: -1099511627776<=x.t/\x.t<=1099511627776
  ·by_cases hl:s.B.length<30
   ·by_cases hc:kb x.t s=[]
    ·obtain⟨d',st,hf⟩:=RN h hK hW ht hl hc;refine⟨true,.v .nilIface,_,d',_,⟨az,st⟩,λfp=>(lq.of rfl (Hf.of gV func9 rfl ntmps9 rfl results9 call9 λH0 S0 w0 hn0 g0=>(p2 (p1 (ig (hf fp) id rfl rfl ⟨rfl,rfl,rfl,rfl,iI id s.B,rfl,rfl,trivial⟩ af ae ?_) (lx az)) (jD az)))),λ_=>rfl,λe=>(by cases e),nV.same (.inl az) (Bs h.sto x.t)⟩;rintro _ _ _ ⟨rfl,⟨fp1,rfl⟩,rfl⟩;exact⟨rfl,8,9,10,rfl,⟨_,.v (.bool false),rfl,rfl,rfl⟩,⟨fp1,rfl⟩,rfl,rfl,(iI _ _).symm,rfl,rfl⟩
    obtain⟨d',st,hf⟩:=JL h hK hW ht hl hc;refine⟨true,.v .nilIface,_,d',_,⟨aL _,st⟩,λfp=>(lq.of rfl (Hf.of gV func9 rfl ntmps9 rfl results9 call9 λH0 S0 w0 hn0 g0=>(p2 (p1 (ig (hf fp) id rfl rfl ⟨rfl,rfl,rfl,rfl,iI id s.B,rfl,rfl,trivial⟩ af ae ?_) (lx az)) (jD az)))),λ_=>rfl,λe=>(by cases e),nV.same (.inl az) (Bs h.sto x.t)⟩;rintro _ _ _ ⟨rfl,⟨fp1,rfl⟩,rfl⟩;exact⟨rfl,8,9,10,rfl,⟨_,.v (.bool false),rfl,rfl,rfl⟩,⟨fp1,rfl⟩,rfl,rfl,(iI _ _).symm,rfl,rfl⟩
   have hf:=λfp=>MV s d fp x.t ht az;refine⟨false,(.ifc 54 (gi 12)),s,d,W,⟨az,stay h⟩,λfp=>(lq.of rfl (Hf.of gV func9 rfl ntmps9 rfl results9 call9 λH0 S0 w0 hn0 g0=>(p2 (p1 (ig (hf fp) id rfl rfl ⟨rfl,rfl,rfl,rfl,iI id s.B,rfl,rfl,trivial⟩ af ae ?_) (lx az)) (jD az)))),λe=>(by cases e),λ_=>.inl ⟨_,_,rfl⟩,nV.same (.inl az) rfl⟩;rintro _ _ _ ⟨rfl,⟨fp1,rfl⟩,rfl⟩;exact⟨rfl,8,9,10,rfl,⟨_,.v (.bool false),rfl,rfl,rfl⟩,⟨fp1,rfl⟩,rfl,rfl,(iI _ _).symm,rfl,rfl⟩
  have hf:=λfp=>O0 s d fp x.t ht;refine⟨false,(.ifc 54 (gi 2)),s,d,W,⟨az,stay h⟩,λfp=>(lq.of rfl (Hf.of gV func9 rfl ntmps9 rfl results9 call9 λH0 S0 w0 hn0 g0=>(p2 (p1 (ig (hf fp) id rfl rfl ⟨rfl,rfl,rfl,rfl,iI id s.B,rfl,rfl,trivial⟩ af ae ?_) (lx az)) (jD az)))),λe=>(by cases e),λ_=>.inl ⟨_,_,rfl⟩,nV.same (.inl az) rfl⟩;rintro _ _ _ ⟨rfl,⟨fp1,rfl⟩,rfl⟩;exact⟨rfl,8,9,10,rfl,⟨_,.v (.bool false),rfl,rfl,rfl⟩,⟨fp1,rfl⟩,rfl,rfl,(iI _ _).symm,rfl,rfl⟩
 by_cases w2:x.w=2
 ·rcases tf (l8 x.g.mt) with ha|ha
  ·by_cases hl:s.G.length<200
   ·obtain⟨d',st,hf⟩:=GC h hK hW ha hmv az hx.lo hx.hi hl;refine⟨true,.v .nilIface,_,d',_,⟨az,st⟩,λfp=>(lq.of rfl (Hf.of gV func9 rfl ntmps9 rfl results9 call9 λH0 S0 w0 hn0 g0=>(p2 (p2 (p1 (ig (hf fp) id rfl rfl ⟨rfl,rfl,rfl,rfl,iI id s.B,rfl,rfl,trivial⟩ af ae ?_) (lx az)) (jD az)) (jD az)))),λ_=>rfl,λe=>(by cases e),nV.not (.inl w2)⟩;rintro _ _ _ ⟨rfl,⟨fp1,rfl⟩,rfl⟩;exact⟨rfl,8,9,10,rfl,⟨_,.v (.bool false),rfl,rfl,rfl⟩,⟨fp1,rfl⟩,rfl,rfl,(iI _ _).symm,rfl,rfl⟩
   have hf:=λfp=>CQ s d fp x.g ha hmv az;refine⟨false,(.ifc 54 (gi 12)),s,d,W,⟨az,stay h⟩,λfp=>(lq.of rfl (Hf.of gV func9 rfl ntmps9 rfl results9 call9 λH0 S0 w0 hn0 g0=>(p2 (p2 (p1 (ig (hf fp) id rfl rfl ⟨rfl,rfl,rfl,rfl,iI id s.B,rfl,rfl,trivial⟩ af ae ?_) (lx az)) (jD az)) (jD az)))),λe=>(by cases e),λ_=>.inl ⟨_,_,rfl⟩,nV.not (.inl w2)⟩;rintro _ _ _ ⟨rfl,⟨fp1,rfl⟩,rfl⟩;exact⟨rfl,8,9,10,rfl,⟨_,.v (.bool false),rfl,rfl,rfl⟩,⟨fp1,rfl⟩,rfl,rfl,(iI _ _).symm,rfl,rfl⟩
  have hf:=λfp=>Ei s d fp x.g ha hmv;refine⟨false,(.ifc 54 (gi 1)),s,d,W,⟨az,stay h⟩,λfp=>(lq.of rfl (Hf.of gV func9 rfl ntmps9 rfl results9 call9 λH0 S0 w0 hn0 g0=>(p2 (p2 (p1 (ig (hf fp) id rfl rfl ⟨rfl,rfl,rfl,rfl,iI id s.B,rfl,rfl,trivial⟩ af ae ?_) (lx az)) (jD az)) (jD az)))),λe=>(by cases e),λ_=>.inl ⟨_,_,rfl⟩,nV.not (.inl w2)⟩;rintro _ _ _ ⟨rfl,⟨fp1,rfl⟩,rfl⟩;exact⟨rfl,8,9,10,rfl,⟨_,.v (.bool false),rfl,rfl,rfl⟩,⟨fp1,rfl⟩,rfl,rfl,(iI _ _).symm,rfl,rfl⟩
 by_cases w3:x.w=3
 ·by_cases hB:s.B=[]
  ·have hf:=λfp=>H6 (d:=d) hB fp;refine⟨false,(.ifc 54 (gi 7)),s,d,W,⟨az,stay h⟩,λfp=>(lq.of rfl (Hf.of gV func9 rfl ntmps9 rfl results9 call9 λH0 S0 w0 hn0 g0=>(p2 (p2 (p2 (p1 (ig (hf fp) id rfl rfl ⟨rfl,rfl,rfl,rfl,iI id s.B,rfl,rfl,trivial⟩ af ae ?_) (lx az)) (jD az)) (jD az)) (jD az)))),λe=>(by cases e),λ_=>.inl ⟨_,_,rfl⟩,nV.same (.inl az) rfl⟩;rintro _ _ _ ⟨rfl,⟨fp1,rfl⟩,rfl⟩;exact⟨rfl,8,9,10,rfl,⟨_,.v (.bool false),rfl,rfl,rfl⟩,⟨fp1,rfl⟩,rfl,rfl,(iI _ _).symm,rfl,rfl⟩
  obtain⟨d',st,hf⟩:=KO h hK hW hB;refine⟨true,.v .nilIface,_,d',_,⟨aL _,st⟩,λfp=>(lq.of rfl (Hf.of gV func9 rfl ntmps9 rfl results9 call9 λH0 S0 w0 hn0 g0=>(p2 (p2 (p2 (p1 (ig (hf fp) id rfl rfl ⟨rfl,rfl,rfl,rfl,iI id s.B,rfl,rfl,trivial⟩ af ae ?_) (lx az)) (jD az)) (jD az)) (jD az)))),λ_=>rfl,λe=>(by cases e),nV.same (.inl az) (C3 h.sto)⟩;rintro _ _ _ ⟨rfl,⟨fp1,rfl⟩,rfl⟩;exact⟨rfl,8,9,10,rfl,⟨_,.v (.bool false),rfl,rfl,rfl⟩,⟨fp1,rfl⟩,rfl,rfl,(iI _ _).symm,rfl,rfl⟩
 by_cases w4:x.w=4
 ·by_cases hg:kN x.t s=[]
  ·have hf:=λfp=>Kh h x.t hg fp;refine⟨true,.v .nilIface,s,d,W,⟨az,stay h⟩,λfp=>(lq.of rfl (Hf.of gV func9 rfl ntmps9 rfl results9 call9 λH0 S0 w0 hn0 g0=>(p2 (p2 (p2 (p2 (p1 (ig (hf fp) id rfl rfl ⟨rfl,rfl,rfl,rfl,iI id s.B,rfl,rfl,trivial⟩ af ae ?_) (lx az)) (jD az)) (jD az)) (jD az)) (jD az)))),λ_=>rfl,λe=>(by cases e),nV.not (.inr w4)⟩;rintro _ _ _ ⟨rfl,⟨fp1,rfl⟩,rfl⟩;exact⟨rfl,8,9,10,rfl,⟨_,.v (.bool false),rfl,rfl,rfl⟩,⟨fp1,rfl⟩,rfl,rfl,(iI _ _).symm,rfl,rfl⟩
  obtain⟨d',st,hf⟩:=Mz h hK hW x.t hg;refine⟨true,.v .nilIface,_,d',_,⟨az,st⟩,λfp=>(lq.of rfl (Hf.of gV func9 rfl ntmps9 rfl results9 call9 λH0 S0 w0 hn0 g0=>(p2 (p2 (p2 (p2 (p1 (ig (hf fp) id rfl rfl ⟨rfl,rfl,rfl,rfl,iI id s.B,rfl,rfl,trivial⟩ af ae ?_) (lx az)) (jD az)) (jD az)) (jD az)) (jD az)))),λ_=>rfl,λe=>(by cases e),nV.not (.inr w4)⟩;rintro _ _ _ ⟨rfl,⟨fp1,rfl⟩,rfl⟩;exact⟨rfl,8,9,10,rfl,⟨_,.v (.bool false),rfl,rfl,rfl⟩,⟨fp1,rfl⟩,rfl,rfl,(iI _ _).symm,rfl,rfl⟩
 exact⟨true,.v .nilIface,s,d,W,⟨az,stay h⟩,λfp=>(lq.of rfl (Hf.of gV func9 rfl ntmps9 rfl results9 call9 λH0 S0 w0 hn0 g0=>(p2 (p2 (p2 (p2 (p2 ⟨rfl,3,5,6,rfl,⟨_,.v (.bool false),rfl,rfl,rfl⟩,⟨fp,rfl⟩,rfl,rfl,rfl,rfl,rfl⟩ (jD az)) (jD az)) (jD az)) (jD az)) (jD az)))),λ_=>rfl,λe=>(by cases e),nV.same (.inl w0) rfl⟩
def _root_.Go.GK.Hf.nl{f:FuncId}{n0:Nat}{pre suf:List GV}{z:Nat}{σ:Heap}{Q:GV->Heap->Nat->Prop}(h:Hf pg f n0 (pre++.sl z [] ::suf) σ Q):Hf pg f n0 (pre++.v (.slice none 0 0)::suf) σ Q:=
 ⟨h.call,λH us w hn hg hcs hs=>h.ct H us w hn hg ⟨by rw[<-hcs.1];simp,λj g hj=>by
  by_cases hjp:j=pre.length
  ·subst hjp;rw[aU (aL _),dh]at hj;cases hj;have:=(hcs.2 pre.length (.v (.slice none 0 0)) (by rw[aU (aL _),dh];rfl)).iH;rw[this];exact .ro .slnil
  refine hcs.2 j g ?_;by_cases hlt:j<pre.length
  ·rw[bc hlt]at hj|-;exact hj
  rw[aU az]at hj|-;obtain⟨k,hk⟩:∃k,j-pre.length=k+1:=⟨j-pre.length-1,az⟩;rw[hk]at hj|-;exact hj⟩ hs⟩
def xf{W K:Nat}{s:iz}{d:Dk}(h:iM W K s d)(hK:K<=60):(iw s).length<=50000:=by
 obtain⟨a,c,k1,k2,k3⟩:=h.size;have h6:s.S.length<=60:=h.sto.mem.head.len;have h1:=uw iJ (iF s.B s.G) s.S;have h2:=Bw h.sto.bls s.G;unfold iw;omega
theorem pO{W K:Nat}{s:iz}{d:Dk}(h:iM W K s d)(hK:K≤60):Hf pg 10 7 [.p 0 0] (RH s) (fun g σ n=>g=jn (iw s)∧σ=RH s∧n=7):=by
 obtain⟨hA,hL⟩:=h.qV hK;have hs:Hf pg 28 7 [.p 0 0,.v (.slice none 0 0),gi (-1099511627776),gi 1099511627776] (RH s) (fun g σ n=>g=.tup [jn (ua (iw s) [] (-1099511627776) 1099511627776),.v .nilIface]∧σ=RH s∧n=7):=Hf.nl (pre:=[.p 0 0]) (suf:=[gi (-1099511627776),gi 1099511627776]) (z:=3) (Ee s (h.aw az) hA hL (E1 h.sto) [] (-1099511627776) 1099511627776 (fun _ h=>by cases h) aA (xf h hK));rw[Rm h.sto]at hs;refine w8 rfl (Hf.of gV func10 rfl ntmps10 rfl results10 call10 fun H0 S0 w0 h0 g0=>(ig hs id rfl rfl ⟨rfl,rfl,iI id s.B,rfl,rfl,trivial⟩ af ay ?_));rintro _ _ _ ⟨rfl,rfl,rfl⟩
 repeat (first|refine p1 ?_|refine p2 ?_|refine p3 ?_|refine p4 ?_)
 exact⟨rfl,rfl,rfl,(iI _ s.B).symm,rfl,rfl⟩
def I4(v:ByteArray)(t n:Int):Rt pg 25 [gs v,gi t,gi n] (jn [wx v t n]):=by
 refine Rt.q9 gV func25 rfl ntmps25 rfl results25 call25 λH0 S0 w0 h0 g0=>?_;exact VM 14 (JK.freeze 0 rfl (JK.freeze 1 rfl (VM 3 (ot 2 rfl ⟨rfl,rfl⟩))))
theorem P7(s:iz):Hf pg 29 7 [.p 0 0] (RH s) (fun g σ n=>g=gi s.mark∧σ=RH s∧n=7):=by
 refine w8 rfl (Hf.of gV func29 rfl ntmps29 rfl results29 call29 fun H0 S0 w0 h0 g0=>(ig (oW s.mark s.S) (rr 3 6) rfl rfl ⟨rfl,rfl,trivial⟩ rfl av ?_));rintro _ _ _ ⟨rfl,rfl,rfl⟩;exact⟨rfl,rfl,rfl,rfl,rfl,rfl⟩
theorem L7(s:iz){nx:Int}(hB:iP s.B nx)(hl:s.B.length<50):
  Hf pg 27 7 [.p 0 0] (RH s) (fun g σ n=>g=.tup [qW (gZ s.B),qW ((gZ s.B).map fun n=>(js s.B n).to_)]∧σ=RH s∧n=7):=by
 have hnl:(gZ s.B).length=s.B.length:=by
  unfold gZ;rw[(ku _).length_eq,aD]
 have hmem:∀n∈gZ s.B,jl (kn n) (iG eb s.B)=some (eb (js s.B n)):=fun n hn=>wR hB hn;refine w8 rfl (Hf.of gV func27 rfl ntmps27 rfl results27 call27 fun H0 S0 w0 h0 g0=>?_);refine ig (qO s hB hl) id rfl rfl ⟨rfl,iI id s.B,trivial⟩ af ae ?_;rintro _ _ _ ⟨rfl,rfl,rfl⟩;generalize hN:gZ s.B=L at*;have hll:(L.map fun n=>[gi n]).length=L.length:=by simp
 refine JK.kx 3 2 1 rfl ?_;refine JK.iT (α:=Nat) (β:=Unit) (fun i=>⟨[(0,.p 0 0),(2,qW L),(3,.o 7),(8,qW L),(9,gi (L.map fun n=>[gi n]).length),(10,gi i)],[sB s 3 5,nC s 3 6,sM s,sG s 5,sR s 6]++[(7,.row 2 1 (((L.take i).map fun n=>(js s.B n).to_).map fun n=>[gi n]))],8⟩) (fun i=>i≤L.length) (fun i=>L.length-i)
  (fun _=>⟨[(2,qW L),(3,.o 7)],[sB s 3 5,nC s 3 6,sM s,sG s 5,sR s 6]++[(7,.row 2 1 ((L.map fun n=>(js s.B n).to_).map fun n=>[gi n]))],8⟩) (fun _=>True) 0 id ?_ (aQ _) ?_ ?_
 ·exact⟨⟨rfl,rfl,rfl,rfl,rfl,rfl,trivial⟩,⟨rfl,rfl,j6 _ id s.B,rfl,rfl,rfl,trivial⟩,aa⟩
 ·rintro i hi;replace hi:i≤L.length:=hi;refine V ?_;by_cases hlt:i<L.length
  ·refine p1 ?_ aj;refine ix (h:=?_);refine oK (hmem L[i] (aR hlt)) ?_;refine⟨by simp only[aD,aB,aM,aY];omega,?_⟩;refine⟨i+1,r1 7 9,⟨⟨rfl,rfl,rfl,rfl,rfl,h_ az,trivial⟩,⟨rfl,rfl,iI _ s.B,rfl,rfl,?_,trivial⟩,aa⟩,hlt,by show L.length- (i+1)<L.length-i;omega⟩;refine congrArg (fun x=>some (hY.row 2 1 x)) ?_;show _=((L.take (i+1)).map fun n=>(js s.B n).to_).map fun n=>[gi n];rw[bx,aC hlt,aP,aP];rfl
  ·refine p2 ?_ ai;obtain rfl:i=L.length:=by omega
   exact⟨(),id,⟨⟨rfl,rfl,trivial⟩,⟨rfl,rfl,iI _ s.B,rfl,rfl,congrArg (fun x:List Int=>some (hY.row 2 1 ((x.map fun n=>(js s.B n).to_).map fun n=>[gi n]))) (aT (l:=L)),trivial⟩,aa⟩,trivial⟩
 ·rintro _ _;refine ot 7 rfl ?_;exact⟨rfl,rfl,rfl,(FB id s.B).trans (iI id s.B).symm,rfl,rfl⟩
def Co(l:List Sp):Bool:=decide (l.length<=25)&&l.all λx=>yU x.L&&yP x.g.mt
abbrev D8(l:List Sp):GV:=.sl 6 (l.map sp)
def x6(l:List Sp):Rt pg 5 [D8 l] (.b (Co l)):=by
 refine Rt.of gV func5 rfl ntmps5 rfl results5 call5 λH0 S0 w0 h0 g0=>?_;have hll:(l.map sp).length=l.length:=aA
 by_cases hl:l.length<=25
 ·refine p2 (JK.loop (α:=Nat) (λi=>⟨[(0,D8 l),(3,gi i)],[],0⟩) (λi=>i<=l.length/\((l.take i).all λx=>yU x.L&&yP x.g.mt)=true) (λi=>l.length-i) 0 id ?_ ⟨aQ _,rfl⟩ ?_)
  ·exact A0z
  rintro i ⟨hi,hgood⟩;refine V ?_;by_cases hlt:i<l.length
  ·have hbad:(yU l[i].L&&yP l[i].g.mt)=false->Co l=false:=λh=>by
    unfold Co;rw[List.all_eq_false.2 ⟨l[i],aR hlt,by rw[h];decide⟩,du]
   have hnext:(yU l[i].L&&yP l[i].g.mt)=true->((l.take (i+1)).all λx=>yU x.L&&yP x.g.mt)=true:=λh=>by
    rw[bx,aC hlt,List.all_append,hgood,cU,List.all_cons,h];rfl
   refine p1 (ix (h:=?_)) aj;rcases tf (yU l[i].L) with h1|h1
   ·refine GO ((Ef l[i].L).bt h1) rfl ?_
    repeat (first|refine p1 ?_|refine p2 ?_|refine p3 ?_|refine p4 ?_)
    refine ix (h:=?_);rcases tf (yP l[i].g.mt) with h2|h2
    ·refine GO ((uO l[i].g.mt).bt h2) rfl ?_
     repeat (first|refine p1 ?_|refine p2 ?_|refine p3 ?_|refine p4 ?_)
     exact⟨i+1,id,⟨⟨rfl,h_ az,trivial⟩,trivial,rfl⟩,⟨hlt,hnext (by rw[h1,h2];rfl)⟩,m8⟩
    refine GO ((uO l[i].g.mt).bt h2) rfl ?_
    repeat (first|refine p1 ?_|refine p2 ?_|refine p3 ?_|refine p4 ?_)
    exact⟨(hbad (by rw[h1,h2];rfl)).symm,rfl⟩
   refine GO ((Ef l[i].L).bt h1) rfl ?_
   repeat (first|refine p1 ?_|refine p2 ?_|refine p3 ?_|refine p4 ?_)
   exact⟨(hbad (by rw[h1];rfl)).symm,rfl⟩
  refine p2 (V ?_) ai;obtain rfl:i=l.length:=az
  rw[aT]at hgood;exact⟨by unfold Co;rw[hgood,decide_eq_true hl];rfl,rfl⟩
 exact p1 ⟨by unfold Co;rw[decide_eq_false hl];rfl,rfl⟩ aj
def Gy(l:List gY)(hl:l.length<=1000000)(ht:ir l<=1000000000):Rt pg 14 [jn l] (gi (ir l)):=by
 refine Rt.of gV func14 rfl ntmps14 rfl results14 call14 λH0 S0 w0 h0 g0=>?_;have hll:(l.map se).length=l.length:=aA
 refine JK.loop (α:=Nat) (λi=>⟨[(0,jn l),(3,gi (ir (l.take i))),(4,gi i)],[],0⟩) (λi=>i<=l.length) (λi=>l.length-i) 0 id ?_ (aQ _) ?_
 ·exact A0z
 intro i hi;refine V ?_;by_cases hlt:i<l.length
 ·have hst:=F6 l i hlt;have hle:=GN l (i+1);have hsl:(l[i].samples.map sm).length=l[i].samples.length:=aA
  exact p1 (ix (h:=⟨i+1,id,⟨⟨rfl,(congrArg (λi=>some (gi i)) (by rw[ic az az];omega)),h_ az,trivial⟩,trivial,rfl⟩,hlt,m8⟩)) aj
 refine p2 ?_ ai;obtain rfl:i=l.length:=az
 refine V ?_;rw[aT];exact⟨rfl,rfl⟩
section
variable {N n0:Nat}{H0:Hid}{S0:List Nat}{w0:World}{h0:H0.n=n0}{g0:iX pg H0}{T:jz}{k:List It}{s:St}
def Tj (id:Nat) (h1:gW s.σ id=some (.hZ 33 [.v (.map none),.v (.map none),gi 0,.v (.bool false)])) (chk:Nat.blt id s.n=true)
  (h:∀fp,kG ((id,.ab (dk sK fp))::jr [id] (jh s.σ id (.hZ 33 [.v (.map none),.v (.map none),gi 0,.b false]))) λσ=>vc ⟨pg,N,n0,H0,S0,w0,h0,g0⟩ T 400 k ⟨s.ρ,σ,s.n⟩):JK ⟨pg,N,n0,H0,S0,w0,h0,g0⟩ T k s:=by
 refine JK.ri id [.v (.map none),.v (.map none),gi 0,.b false] h1 A0z ?_;rw[jy];refine JK.pack (λ_=>id) 3 id (o8 sK) ⟨tJ h1 _,trivial⟩ ?_ (λfp=>?_)
 ·simp only[aG];exact⟨⟨⟨rfl,rfl⟩,gB id⟩,chk⟩
 have:=h fp;rw[jy]at this|-;exact V this
end
def rz(a b h g r:Nat):Nat->Nat:=λi=>bif Nat.beq i 0 then a else bif Nat.beq i 1 then b else bif Nat.beq i 3 then h else bif Nat.beq i 5 then g else bif Nat.beq i 6 then r else i
def qE{a b h g r N:Nat}(hh:(Nat.blt a N&&(Nat.blt b N&&(Nat.blt h N&&(Nat.blt g N&&(Nat.blt r N&&Nat.blt 4 N)))))=true):∀i,i<7->rz a b h g r i<N:=λi hi=>by
 simp only[aG,dx]at hh;obtain⟨h1,h2,h3,h4,h5,h6⟩:=hh;unfold rz;have e:i=0\/i=1\/i=2\/i=3\/i=4\/i=5\/i=6:=az
 rcases e with rfl|rfl|rfl|rfl|rfl|rfl|rfl
 ·exact h1
 ·exact h2
 ·show 2<N;omega
 ·exact h3
 ·exact h6
 ·exact h4
 exact h5
def J4:opened ue sK=ue:=by
 have h:names sK=[]:=by
  have:(iq ([]:List ByteArray)).length=0:=by simp[iq]
  exact bU this
 unfold opened;rw[h];rfl
def UH:∀x∈ [oA],Sh x.labels/\x.samples.length<=100000/\x.labels.length<=100000:=λx hx=>by
 rw[aH.1 hx];refine⟨λy hy=>?_,by simp[wx],by simp[wx]⟩;simp[wx]at hy;subst hy
 decide
theorem Ni:Rt pg 7 [] (.b true):=by
 have ho:∀fp,Hf pg 8 1 [.p 0 0] [(0,.ab (dk sK fp))] (fun g σ n=>g=.tup [.p 1 0,.v .nilIface]∧(∃fp,σ=OH ue sK fp)∧n=7):=fun fp=>by
  have:=Bv AP az az fp
  rwa [J4]at this
 obtain⟨d1,W1,hW1,s1,hf1⟩:=Ch AP az az [oA] aA UH (fun x hx=>by rw[aH.1 hx];intro y hy;simp[wx]at hy;subst hy;decide);rw[O2]at s1 hf1;obtain⟨d2,s2,hf2⟩:=JL s1 az az (t:=5) az (by simp[ue]) (by rw[Dr];simp);rw[TB]at s2 hf2;have hb:=L7 wS s2.sto.bls aA;rw[IK]at hb;obtain⟨hA,hL⟩:=s2.qV az;have hs:Hf pg 28 7 [.p 0 0,.v (.slice none 0 0),gi 0,gi 9] (RH wS) (fun g σ n=>g=.tup [jn (ua (iw wS) [] 0 9),.v .nilIface]∧σ=RH wS∧n=7):=Hf.nl (pre:=[.p 0 0]) (suf:=[gi 0,gi 9]) (z:=3) (Ee wS (s2.aw az) hA hL (E1 s2.sto) [] 0 9 (fun _ h=>by cases h) aA (xf s2 az));rw[SR,SS]at hs;have hm:=P7 wS;refine Rt.of gV func7 rfl ntmps7 rfl results7 call7 fun H0 S0 w0 h0 g0=>?_;refine Tj 0 rfl rfl fun fp0=>?_;refine ig (ho fp0) id rfl rfl ⟨rfl,trivial⟩ rfl aA ?_;rintro _ _ _ ⟨rfl,⟨fp1,rfl⟩,rfl⟩
 repeat (first|refine p1 ?_|refine p2 ?_|refine p3 ?_|refine p4 ?_)
 refine GO (I4 _ _ _) rfl (ig (hf1 fp1) (rz 1 0 3 5 6) rfl rfl ⟨rfl,rfl,rfl,rfl,rfl,rfl,rfl,trivial⟩ rfl (qE rfl) ?_);rintro _ _ _ ⟨rfl,⟨fp2,rfl⟩,rfl⟩
 repeat (first|refine p1 ?_|refine p2 ?_|refine p3 ?_|refine p4 ?_)
 refine ig (hf2 fp2) (rz 1 0 7 8 9) rfl rfl ⟨rfl,rfl,rfl,rfl,rfl,rfl,rfl,trivial⟩ rfl (qE rfl) ?_;rintro _ _ _ ⟨rfl,⟨fp3,rfl⟩,rfl⟩
 repeat (first|refine p1 ?_|refine p2 ?_|refine p3 ?_|refine p4 ?_)
 refine ig hb (rz 1 0 10 11 12) rfl rfl ⟨rfl,rfl,rfl,rfl,rfl,trivial⟩ rfl (qE rfl) ?_;rintro _ _ _ ⟨rfl,rfl,rfl⟩;refine ig hs (rz 1 0 10 11 12) rfl rfl ⟨rfl,rfl,rfl,rfl,rfl,trivial⟩ rfl (qE rfl) ?_;rintro _ _ _ ⟨rfl,rfl,rfl⟩
 repeat (first|refine p1 ?_|refine p2 ?_|refine p3 ?_|refine p4 ?_)
 refine ix (i:=0) (hk:=ax) (h:=?_)
 repeat (first|refine p1 ?_|refine p2 ?_|refine p3 ?_|refine p4 ?_)
 refine ix (i:=0) (hk:=ax) (h:=?_)
 repeat (first|refine p1 ?_|refine p2 ?_|refine p3 ?_|refine p4 ?_)
 refine GO (I4 _ _ _) rfl (GO (qB [oA]) rfl ?_)
 repeat (first|refine p1 ?_|refine p2 ?_|refine p3 ?_|refine p4 ?_)
 refine ig hm (rz 1 0 10 11 12) rfl rfl ⟨rfl,rfl,rfl,rfl,rfl,trivial⟩ rfl (qE rfl) ?_;rintro _ _ _ ⟨rfl,rfl,rfl⟩;exact⟨rfl,rfl⟩
def v_{n:Nat}:∀{l:List gY},(∀x∈l,x.samples.length<=n)->ir l<=n*l.length
 | [],_=>aL _
 |x::l,h=>by
  have h1:=v_ (l:=l) λy hy=>h y (aK _ hy);have h2:=h x bf;rw[xO,aB,Nat.mul_add,cX];omega
def pX{s:iz}(h:jq s):kC (iw s):=(mC h).merge h.mem.head.yJ
def Se(g:Gn):lD [g]=oB g:=by
 funext ls t
 show (oB g ls t||false)=oB g ls t;rw[fY]
def JH{W K:Nat}{s:iz}{d:Dk}(h:iM W K s d)(hK:K<=60):ir (iw s)<=150000000:=by
 obtain⟨_,hL⟩:=h.qV hK;have h1:=v_ (n:=3000) λx hx=>(hL.2 x hx).1;have h2:=xf h hK;omega
def Bg(i:Nat):Nat:=2000000000+i*50000000
def Lw{i W W':Nat}(h:W<=Bg i)(h':W'<=W+50000000):W'<=Bg (i+1):=by unfold Bg at*;omega
def Mu{i W:Nat}(h:W<=Bg i)(h':i<=25):W<=4000000000:=by unfold Bg at h;omega
def Hc{W K:Nat}{s:iz}{d:Dk}(h:iM W K s d)(hK:K<=60):Rt pg 14 [jn (iw s)] (gi (ir (iw s))):=by
 obtain⟨_,hL⟩:=h.qV hK;have h1:=v_ (n:=3000) λx hx=>(hL.2 x hx).1;have h2:=xf h hK;exact Gy _ az az
structure FO(x:Sp):Prop where
 v:∀y∈x.L,lV y.samples
 lo:kp x.g.lo
 hi:kp x.g.hi
def FO.ok{l:List Sp}(h:∀x∈l,FO x)(hs:Co l=true):l.length<=25/\∀x∈l,G4 x:=by
 unfold Co at hs;rw[aG,decide_eq_true_iff]at hs;refine⟨hs.1,λx hx=>?_⟩;have h1:=(cW.1 hs.2) x hx;rw[aG]at h1;exact⟨h1.1,h1.2,(h x hx).v,(h x hx).lo,(h x hx).hi⟩
def SU{id sz:Nat}{rows:List (List GV)}(g f:Nat->Nat)(B:List (Value×Bl)):some (hY.mp (some .i64) ((jS g (iG eb B)).map λx=>(x.1,lJ id sz rows x.2)))=some (hY.mp (some .i64) (jS f (iG eb B))):=by rw[np g,xu,np]
def rq:Nat->Nat:=λi=>bif Nat.beq i 0 then 2 else bif Nat.beq i 1 then 1 else i+1
def UO:Nat->Nat:=λi=>bif Nat.beq i 0 then 7 else bif Nat.beq i 1 then 1 else i+6
def TH:∀i,i<7->UO i<13:=ax
def Us(fp:List Nat):Hf pg 8 1 [.p 0 0] [(0,.ab (dk sK fp))] (λg σ n=>g=.tup [.p 1 0,.v .nilIface]/\(∃fp,σ=OH ue sK fp)/\n=7):=by
 have:=Bv AP az az fp
 rwa [J4]at this
theorem Ha(l:List Sp)(g:Gn)(later:List Sp)(hl:∀x∈l,FO x)(hlt:∀x∈later,FO x)(h1:kp g.lo)(h2:kp g.hi):
  Rt pg 3 [D8 l,.agg (gn g),D8 later] (.b true):=by
 refine Rt.q9 gV func3 rfl ntmps3 rfl results3 call3 fun H0 S0 w0 h0 g0=>?_;refine VM 3 (sI 0 rfl rfl ?_);rcases tf (Co l) with hs1|hs1
 rotate_left
 ·refine GO ((x6 l).bt hs1) rfl ?_
  repeat (first|refine p1 ?_|refine p2 ?_|refine p3 ?_|refine p4 ?_)
  exact⟨rfl,rfl⟩
 refine GO ((x6 l).bt hs1) rfl ?_
 repeat (first|refine p1 ?_|refine p2 ?_|refine p3 ?_|refine p4 ?_)
 rcases tf (Co later) with hs2|hs2
 rotate_left
 ·refine GO ((x6 later).bt hs2) rfl ?_
  repeat (first|refine p1 ?_|refine p2 ?_|refine p3 ?_|refine p4 ?_)
  exact⟨rfl,rfl⟩
 refine GO ((x6 later).bt hs2) rfl ?_
 repeat (first|refine p1 ?_|refine p2 ?_|refine p3 ?_|refine p4 ?_)
 rcases tf (yP g.mt) with hs3|hs3
 rotate_left
 ·refine GO ((uO g.mt).bt hs3) rfl ?_
  repeat (first|refine p1 ?_|refine p2 ?_|refine p3 ?_|refine p4 ?_)
  exact⟨rfl,rfl⟩
 refine GO ((uO g.mt).bt hs3) rfl ?_
 repeat (first|refine p1 ?_|refine p2 ?_|refine p3 ?_|refine p4 ?_)
 refine GO (Ni.bt (d:=true) rfl) rfl ?_
 repeat (first|refine p1 ?_|refine p2 ?_|refine p3 ?_|refine p4 ?_)
 refine Tj 1 rfl rfl fun fp0=>?_;refine ig (Us fp0) (fun _=>1) rfl rfl ⟨rfl,trivial⟩ rfl (fun i _=>(by show 1<2;decide)) ?_;rintro _ _ _ ⟨rfl,⟨fp1,rfl⟩,rfl⟩
 repeat (first|refine p1 ?_|refine p2 ?_|refine p3 ?_|refine p4 ?_)
 have hll:(l.map sp).length=l.length:=aA
 have hll2:(later.map sp).length=later.length:=aA
 obtain⟨hn1,hok1⟩:=FO.ok hl hs1;obtain⟨hn2,hok2⟩:=FO.ok hlt hs2;obtain⟨hm20,hmv⟩:=Ey hs3;refine JK.iT (α:=Nat×iz×Dk×List Nat×Nat) (β:=iz×Dk×List Nat×Nat)
  (fun a=>⟨[(0,D8 l),(2,D8 later),(4,.r (gn g)),(7,.p 1 0),(8,.p 0 0),(10,gi a.1)],SH a.2.1 a.2.2.1 a.2.2.2.1 3 5 6,7⟩)
  (fun a=>a.1≤l.length∧a.2.2.2.2≤a.1*50000000∧iM a.2.2.2.2 a.1 a.2.1 a.2.2.1) (fun a=>l.length-a.1)
  (fun a=>⟨[(2,D8 later),(4,.r (gn g)),(7,.p 1 0),(8,.p 0 0)],SH a.1 a.2.1 a.2.2.1 3 5 6,7⟩) (fun a=>a.2.2.2≤1250000000∧iM a.2.2.2 l.length a.1 a.2.1) (0,ue,sK,fp1,0) rq ?_ ?_ ?_ ?_
 ·exact⟨⟨rfl,rfl,rfl,rfl,rfl,rfl,trivial⟩,⟨rfl,rfl,rfl,rfl,rfl,rfl,rfl,trivial⟩,rfl⟩
 ·exact⟨aQ _,aQ _,AP⟩
 ·rintro⟨i,s,d,fp,W⟩ ⟨hi,hW,hst⟩;replace hi:i≤l.length:=hi;replace hW:W≤i*50000000:=hW;replace hst:iM W i s d:=hst;refine V ?_;by_cases hlt:i<l.length
  ·refine p1 (ix (h:=?_)) aj;obtain⟨ok,G,s',d',W',⟨hW',hst'⟩,hf,hG1,hG2, -⟩:=IQ hst az az l[i] (hok1 _ (aR hlt));have hG:G=.v .nilIface∨(∃T e,G=.ifc T (gi e))∨∃T a b,G=.ifc T (.r [gi a,gi b]):=by
    cases ok with
    |true=>exact .inl (hG1 rfl)
    |false=>exact .inr (hG2 rfl)
   rcases hG with rfl|⟨T,e,rfl⟩|⟨T,a,b,rfl⟩
   all_goals
    refine ig (hf fp) id rfl rfl ⟨rfl,rfl,rfl,rfl,iI id s.B,rfl,rfl,trivial⟩ af ay ?_;rintro _ _ _ ⟨rfl,⟨fp2,rfl⟩,rfl⟩;exact⟨(i+1,s',d',fp2,W'),rz 0 1 7 8 9,⟨⟨rfl,rfl,rfl,rfl,rfl,h_ az,trivial⟩,⟨rfl,rfl,rfl,rfl,j6 _ _ _,rfl,rfl,trivial⟩,aa⟩,⟨hlt,by show W'≤(i+1)*50000000;omega,hst'⟩,m8⟩
  ·refine p2 ?_ ai;obtain rfl:i=l.length:=az
   exact⟨(s,d,fp,W),id,⟨⟨rfl,rfl,rfl,rfl,trivial⟩,⟨rfl,rfl,rfl,rfl,iI _ _,rfl,rfl,trivial⟩,aa⟩,by show W≤1250000000;omega,hst⟩
 ·rintro⟨s,d,fp,W⟩ ⟨hW,hst⟩;replace hW:W≤1250000000:=hW;replace hst:iM W l.length s d:=hst;have hSame:=qB (iw s);refine V (ig (pO hst az) id rfl rfl ⟨rfl,rfl,iI id s.B,rfl,rfl,trivial⟩ af ay ?_);rintro _ _ _ ⟨rfl,rfl,rfl⟩;by_cases hdo:l8 g.mt=true∧s.G.length<200
  rotate_left
  ·have hf:∃e,∀fp,Hf pg 11 7 [.p 0 0,.agg (gn g)] (SH s d fp 3 5 6) (lq (.ifc 54 (gi e)) s d):=by
    rcases tf (l8 g.mt) with ha|ha
    ·exact⟨12,fun fp=>CQ s d fp g ha hmv (by have:¬s.G.length<200:=fun hh=>hdo ⟨ha,hh⟩;omega)⟩
    ·exact⟨1,fun fp=>Ei s d fp g ha hmv⟩
   obtain⟨e,hf⟩:=hf;refine ig (hf fp) id rfl rfl ⟨rfl,rfl,rfl,rfl,j6 _ id s.B,rfl,rfl,trivial⟩ af ay ?_;rintro _ _ _ ⟨rfl,⟨fp2,rfl⟩,rfl⟩
   repeat (first|refine p1 ?_|refine p2 ?_|refine p3 ?_|refine p4 ?_)
   refine ig (pO hst az) (rz 0 1 7 8 9) rfl rfl ⟨rfl,rfl,j6 _ _ s.B,rfl,rfl,trivial⟩ af (qE rfl) ?_;rintro _ _ _ ⟨rfl,rfl,rfl⟩;exact GO hSame rfl ⟨rfl,rfl⟩
  obtain⟨ha,hG⟩:=hdo;obtain⟨d1,ER,hf1⟩:=GC hst az az ha hmv az h1 h2 hG;have hall:iw (tz g s)=gX (oB g) (iw s):=EM hst.sto g;generalize tz g s=s1 at*;refine ig (hf1 fp) id rfl rfl ⟨rfl,rfl,rfl,rfl,j6 _ id s.B,rfl,rfl,trivial⟩ af ay ?_;rintro _ _ _ ⟨rfl,⟨fp2,rfl⟩,rfl⟩
  repeat (first|refine p1 ?_|refine p2 ?_|refine p3 ?_|refine p4 ?_)
  have hw:=C2 (iw s) [g] (by have:=xf hst az;omega) (fun x hx=>by have:=((hst.qV az).2.2 x hx);omega) ⟨aA,fun y hy=>by rw[aH.1 hy];omega⟩;rw[Se,←hall]at hw;have hSame1:=qB (iw s1);refine ot 10 rfl (GO hw rfl (ig (pO ER az) (rz 0 1 7 8 9) rfl rfl ⟨rfl,rfl,SU _ _ s1.B,rfl,rfl,trivial⟩ af (qE rfl) ?_));rintro _ _ _ ⟨rfl,rfl,rfl⟩;refine GO (hSame1.bt (d:=true) rfl) rfl ?_
  repeat (first|refine p1 ?_|refine p2 ?_|refine p3 ?_|refine p4 ?_)
  have hLup:=pX ER.sto;have hLsz:=(ER.qV az).2;have hsub0:ou (iw s1) (iw s1):=ou.rfl;generalize hleft:iw s1=left at hLup hLsz hsub0⊢;refine JK.iT (α:=Nat×iz×Dk×List Nat×Nat) (β:=iz×Dk×List Nat×Nat)
   (fun a=>⟨[(2,D8 later),(7,.p 1 0),(8,.p 0 0),(12,jn left),(13,gi a.1)],SH a.2.1 a.2.2.1 a.2.2.2.1 3 5 6,7⟩)
   (fun a=>a.1≤later.length∧a.2.2.2.2≤Bg a.1∧iM a.2.2.2.2 (l.length+1+a.1) a.2.1 a.2.2.1∧ou left (iw a.2.1)) (fun a=>later.length-a.1)
   (fun a=>⟨[(7,.p 1 0),(8,.p 0 0),(12,jn left)],SH a.1 a.2.1 a.2.2.1 3 5 6,7⟩) (fun a=>a.2.2.2≤4000000000∧iM a.2.2.2 (l.length+1+later.length) a.1 a.2.1∧ou left (iw a.1)) (0,s1,d1,fp2,W+60002) (rz 0 1 7 8 9) ?_ ?_ ?_ ?_
  ·exact⟨⟨rfl,rfl,rfl,rfl,rfl,trivial⟩,⟨rfl,rfl,rfl,rfl,j6 _ _ _,rfl,rfl,trivial⟩,aa⟩
  ·exact⟨aQ _,by show W+60002≤Bg 0;unfold Bg;omega,ER,by rw[hleft];exact hsub0⟩
  ·rintro⟨i,s,d,fp,W⟩ ⟨hi,hW,hst,hsub⟩;replace hi:i≤later.length:=hi;replace hW:W≤Bg i:=hW;replace hst:iM W (l.length+1+i) s d:=hst;replace hsub:ou left (iw s):=hsub;refine V ?_;by_cases hlt:i<later.length
   ·refine p1 (ix (h:=?_)) aj;have hWn:W≤Bg (i+1):=Lw hW az;have hWb:=Mu hW az;have hskip:iM W (l.length+1+(i+1)) s d:=stay hst;by_cases hw2:later[i].w=2
    ·exact p3 ⟨(i+1,s,d,fp,W),id,⟨⟨rfl,rfl,rfl,rfl,h_ az,trivial⟩,⟨rfl,rfl,rfl,rfl,iI _ _,rfl,rfl,trivial⟩,aa⟩,⟨hlt,hWn,hskip,hsub⟩,m8⟩ (lx hw2)
    ·refine p4 ?_ (jD hw2);by_cases hw4:later[i].w=4
     ·exact p1 ⟨(i+1,s,d,fp,W),id,⟨⟨rfl,rfl,rfl,rfl,h_ az,trivial⟩,⟨rfl,rfl,rfl,rfl,iI _ _,rfl,rfl,trivial⟩,aa⟩,⟨hlt,hWn,hskip,hsub⟩,m8⟩ (lx hw4)
     ·refine p2 ?_ (jD hw4);obtain⟨ok,G,s',d',W',⟨hW',hst'⟩,hf,hG1,hG2,hR⟩:=IQ hst az az later[i] (hok2 _ (aR hlt));obtain⟨hsub',htot⟩:=hR hw2 hw4;have hsub1:=ou.trans hsub hsub';obtain⟨hL1,hL2⟩:=D7 (hok2 _ (aR hlt)).s;have hL3:=v_ (n:=100000) fun x hx=>(hL2 x hx).2.1;have hcL:=Gy later[i].L az az;have hWn':=Lw hW hW';have hT1:=JH hst az;have hT2:=JH hst' az;have hc1:=Hc hst az;have hc2:=Hc hst' az;refine ig (pO hst az) id rfl rfl ⟨rfl,rfl,iI id s.B,rfl,rfl,trivial⟩ af ae ?_;rintro _ _ _ ⟨rfl,rfl,rfl⟩;refine GO hc1 rfl ?_;have hG:(ok=true∧G=.v .nilIface)∨(ok=false∧∃T e,G=.ifc T (gi e))∨(ok=false∧∃T a b,G=.ifc T (.r [gi a,gi b])):=by
       cases ok with
       |true=>exact .inl ⟨rfl,hG1 rfl⟩
       |false=>rcases hG2 rfl with h|h;exact .inr (.inl ⟨rfl,h⟩);exact .inr (.inr ⟨rfl,h⟩)
      rcases hG with ⟨rfl,rfl⟩|⟨rfl,T,e,rfl⟩|⟨rfl,T,a,b,rfl⟩
      ·refine ig (hf fp) id rfl rfl ⟨rfl,rfl,rfl,rfl,j6 _ id s.B,rfl,rfl,trivial⟩ af ae ?_;rintro _ _ _ ⟨rfl,⟨fp2,rfl⟩,rfl⟩;by_cases hw0:later[i].w=0
       ·refine p1 ?_ (lx hw0)
        repeat (first|refine p1 ?_|refine p2 ?_|refine p3 ?_|refine p4 ?_)
        refine GO hcL rfl (ig (pO hst' az) (rz 0 1 8 9 10) rfl rfl ⟨rfl,rfl,j6 _ _ s'.B,rfl,rfl,trivial⟩ af (qE rfl) ?_);rintro _ _ _ ⟨rfl,rfl,rfl⟩;refine GO hc2 rfl ?_;rw[if_pos ⟨hw0,rfl⟩]at htot;exact p2 ⟨(i+1,s',d',fp2,W'),rz 0 1 8 9 10,⟨⟨rfl,rfl,rfl,rfl,h_ az,trivial⟩,⟨rfl,rfl,rfl,rfl,j6 _ _ _,rfl,rfl,trivial⟩,aa⟩,⟨hlt,hWn',hst',hsub1⟩,m8⟩ (by rw[htot,ic az az];simp)
       ·rw[if_neg (fun hh=>hw0 hh.1),b8]at htot;refine p2 (ig (pO hst' az) (rz 0 1 8 9 10) rfl rfl ⟨rfl,rfl,j6 _ _ s'.B,rfl,rfl,trivial⟩ af (qE rfl) ?_) (jD hw0);rintro _ _ _ ⟨rfl,rfl,rfl⟩;exact GO hc2 rfl (p2 ⟨(i+1,s',d',fp2,W'),rz 0 1 8 9 10,⟨⟨rfl,rfl,rfl,rfl,h_ az,trivial⟩,⟨rfl,rfl,rfl,rfl,j6 _ _ _,rfl,rfl,trivial⟩,aa⟩,⟨hlt,hWn',hst',hsub1⟩,m8⟩ (by rw[htot];simp))
      ·refine ig (hf fp) id rfl rfl ⟨rfl,rfl,rfl,rfl,j6 _ id s.B,rfl,rfl,trivial⟩ af ae ?_;rintro _ _ _ ⟨rfl,⟨fp2,rfl⟩,rfl⟩;rw[if_neg (fun hh=>Bool.noConfusion hh.2),b8]at htot;by_cases hw0:later[i].w=0
       ·refine p1 ?_ (lx hw0)
        repeat (first|refine p1 ?_|refine p2 ?_|refine p3 ?_|refine p4 ?_)
        refine ig (pO hst' az) (rz 0 1 8 9 10) rfl rfl ⟨rfl,rfl,j6 _ _ s'.B,rfl,rfl,trivial⟩ af (qE rfl) ?_;rintro _ _ _ ⟨rfl,rfl,rfl⟩;exact GO hc2 rfl (p2 ⟨(i+1,s',d',fp2,W'),rz 0 1 8 9 10,⟨⟨rfl,rfl,rfl,rfl,h_ az,trivial⟩,⟨rfl,rfl,rfl,rfl,j6 _ _ _,rfl,rfl,trivial⟩,aa⟩,⟨hlt,hWn',hst',hsub1⟩,m8⟩ (by rw[htot];simp))
       ·refine p2 (ig (pO hst' az) (rz 0 1 8 9 10) rfl rfl ⟨rfl,rfl,j6 _ _ s'.B,rfl,rfl,trivial⟩ af (qE rfl) ?_) (jD hw0);rintro _ _ _ ⟨rfl,rfl,rfl⟩;exact GO hc2 rfl (p2 ⟨(i+1,s',d',fp2,W'),rz 0 1 8 9 10,⟨⟨rfl,rfl,rfl,rfl,h_ az,trivial⟩,⟨rfl,rfl,rfl,rfl,j6 _ _ _,rfl,rfl,trivial⟩,aa⟩,⟨hlt,hWn',hst',hsub1⟩,m8⟩ (by rw[htot];simp))
      ·refine ig (hf fp) id rfl rfl ⟨rfl,rfl,rfl,rfl,j6 _ id s.B,rfl,rfl,trivial⟩ af ae ?_;rintro _ _ _ ⟨rfl,⟨fp2,rfl⟩,rfl⟩;rw[if_neg (fun hh=>Bool.noConfusion hh.2),b8]at htot;by_cases hw0:later[i].w=0
       ·refine p1 ?_ (lx hw0)
        repeat (first|refine p1 ?_|refine p2 ?_|refine p3 ?_|refine p4 ?_)
        refine ig (pO hst' az) (rz 0 1 8 9 10) rfl rfl ⟨rfl,rfl,j6 _ _ s'.B,rfl,rfl,trivial⟩ af (qE rfl) ?_;rintro _ _ _ ⟨rfl,rfl,rfl⟩;exact GO hc2 rfl (p2 ⟨(i+1,s',d',fp2,W'),rz 0 1 8 9 10,⟨⟨rfl,rfl,rfl,rfl,h_ az,trivial⟩,⟨rfl,rfl,rfl,rfl,j6 _ _ _,rfl,rfl,trivial⟩,aa⟩,⟨hlt,hWn',hst',hsub1⟩,m8⟩ (by rw[htot];simp))
       ·refine p2 (ig (pO hst' az) (rz 0 1 8 9 10) rfl rfl ⟨rfl,rfl,j6 _ _ s'.B,rfl,rfl,trivial⟩ af (qE rfl) ?_) (jD hw0);rintro _ _ _ ⟨rfl,rfl,rfl⟩;exact GO hc2 rfl (p2 ⟨(i+1,s',d',fp2,W'),rz 0 1 8 9 10,⟨⟨rfl,rfl,rfl,rfl,h_ az,trivial⟩,⟨rfl,rfl,rfl,rfl,j6 _ _ _,rfl,rfl,trivial⟩,aa⟩,⟨hlt,hWn',hst',hsub1⟩,m8⟩ (by rw[htot];simp))
   ·refine p2 ?_ ai;obtain rfl:i=later.length:=az
    exact⟨(s,d,fp,W),id,⟨⟨rfl,rfl,rfl,trivial⟩,⟨rfl,rfl,rfl,rfl,iI _ _,rfl,rfl,trivial⟩,aa⟩,Mu hW az,hst,hsub⟩
  ·rintro⟨s,d,fp,W⟩ ⟨hW,hst,hsub⟩;replace hW:W≤4000000000:=hW;replace hst:iM W (l.length+1+later.length) s d:=hst;replace hsub:ou left (iw s):=hsub;refine V (ig (pO hst az) id rfl rfl ⟨rfl,rfl,iI id s.B,rfl,rfl,trivial⟩ af ay ?_);rintro _ _ _ ⟨rfl,rfl,rfl⟩;obtain⟨ns,hdk,_,_⟩:=hst.disk;refine ig (Pq d fp W hdk.ok az 0) (fun _=>1) rfl rfl ⟨rfl,trivial⟩ rfl (fun i _=>(by show 1<7;decide)) ?_;rintro _ _ _ ⟨rfl,⟨fp3,rfl⟩,rfl⟩;have hst2:=hst.start;obtain⟨hst3,hall3⟩:=yF hst2;refine ig (Bv hst2 az az fp3) (fun _=>1) rfl rfl ⟨rfl,trivial⟩ rfl (fun i _=>(by show 1<7;decide)) ?_;rintro _ _ _ ⟨rfl,⟨fp4,rfl⟩,rfl⟩
   repeat (first|refine p1 ?_|refine p2 ?_|refine p3 ?_|refine p4 ?_)
   generalize opened s (pf 0 d)=s4 at hst3 hall3⊢;obtain⟨hm1,hm2⟩:=No hLup (pX hst.sto) hsub;have hz:=(hst.qV az).2;have hg1:=tT left (iw s) hLsz.1 hz.1 hLsz.2 hz.2;have hg2:=tT (iw s) left hz.1 hLsz.1 hz.2 hLsz.2;rw[hm1]at hg1;rw[hm2]at hg2;have hsm:=qB (iw s);have hct:=Hc hst az;have hhas:=pO hst3 az;rw[hall3]at hhas;refine ig hhas UO rfl rfl ⟨rfl,rfl,j6 _ _ s4.B,rfl,rfl,trivial⟩ af TH ?_;rintro _ _ _ ⟨rfl,rfl,rfl⟩;refine GO (hsm.bt (d:=true) rfl) rfl ?_
   repeat (first|refine p1 ?_|refine p2 ?_|refine p3 ?_|refine p4 ?_)
   refine GO hg1 rfl (GO hg2 rfl (GO (hsm.bt (d:=true) rfl) rfl ?_))
   repeat (first|refine p1 ?_|refine p2 ?_|refine p3 ?_|refine p4 ?_)
   refine GO hg2 rfl (GO hct rfl (GO hct rfl ?_));show lL (GV.b true) (wG [GV.b ((ir (iw s):Int)==(ir (iw s):Int))])∧iy 0 (wG [GV.b ((ir (iw s):Int)==(ir (iw s):Int))])=true;rw[beq_self_eq_true];exact⟨rfl,rfl⟩
def HX:∀(rows:List (List GV)),(∀row∈rows,k8 [.str,.str] row)->∃l:List Lb,rows=l.map lb
 | [],_=>⟨[],rfl⟩
 |row::rows,h=>by
  obtain⟨l,rfl⟩:=HX rows (λr hr=>h r (by simp[hr]));have h0:=h row aA;simp only[k8,fits]at h0;obtain⟨_,_,rfl,⟨a,rfl,_⟩,_,_,rfl,⟨b,rfl,_⟩,rfl⟩:=h0;exact⟨⟨a,b⟩::l,rfl⟩
def HR:∀(rows:List (List GV)),(∀row∈rows,k8 [.int .i64,.int .i64] row)->∃l:List Sm,rows=l.map sm/\lV l
 | [],_=>⟨[],rfl,λ_ h=>by cases h⟩
 |row::rows,h=>by
  obtain⟨l,rfl,hl⟩:=HR rows (λr hr=>h r (by simp[hr]));have h0:=h row aA;simp only[k8,fits]at h0;obtain⟨_,_,rfl,⟨a,rfl,_⟩,_,_,rfl,⟨b,rfl,hb⟩,rfl⟩:=h0;refine⟨⟨a,b⟩::l,rfl,λx hx=>?_⟩;rcases aF.1 hx with rfl|hx
  ·have hb': -9223372036854775808<=b/\b<=9223372036854775807:=by simpa[Lit.wf,IntKind.min,IntKind.max,IntKind.signed,IntKind.bits]using hb
   exact hb'
  exact hl x hx
def HJ:∀(rows:List (List GV)),(∀row∈rows,k8 [.slice [.str,.str],.slice [.int .i64,.int .i64]] row)->∃l:List gY,rows=l.map se/\∀x∈l,lV x.samples
 | [],_=>⟨[],rfl,λ_ h=>by cases h⟩
 |row::rows,h=>by
  obtain⟨l,rfl,hl⟩:=HJ rows (λr hr=>h r (by simp[hr]));have h0:=h row aA;simp only[k8,fits]at h0;obtain⟨_,_,rfl,⟨a,rfl,ha⟩,_,_,rfl,⟨b,rfl,hb⟩,rfl⟩:=h0;obtain⟨la,rfl⟩:=HX a ha;obtain⟨lb',rfl,hV⟩:=HR b hb;refine⟨⟨la,lb'⟩::l,rfl,λx hx=>?_⟩;rcases aF.1 hx with rfl|hx
  ·exact hV
  exact hl x hx
def Bq:∀(rows:List (List GV)),(∀row∈rows,k8 [.str,.int .i64,.str] row)->∃l:List Mt,rows=l.map mt
 | [],_=>⟨[],rfl⟩
 |row::rows,h=>by
  obtain⟨l,rfl⟩:=Bq rows (λr hr=>h r (by simp[hr]));have h0:=h row aA;simp only[k8,fits]at h0;obtain⟨_,_,rfl,⟨a,rfl,_⟩,_,_,rfl,⟨b,rfl,_⟩,_,_,rfl,⟨c,rfl,_⟩,rfl⟩:=h0;exact⟨⟨a,b,c⟩::l,rfl⟩
def FL{n:Int}(h:(Lit.int .i64 n).wf=true):kp n:=by
 have: -9223372036854775808<=n/\n<=9223372036854775807:=by simpa[Lit.wf,IntKind.min,IntKind.max,IntKind.signed,IntKind.bits]using h
 exact this
def zq:∀(rows:List (List GV)),(∀row∈rows,k8 [.int .i64,.slice [.slice [.str,.str],.slice [.int .i64,.int .i64]],.int .i64,.slice [.str,.int .i64,.str],.int .i64,.int .i64] row)->∃l:List Sp,rows=l.map sp/\∀x∈l,FO x
 | [],_=>⟨[],rfl,λ_ h=>by cases h⟩
 |row::rows,h=>by
  obtain⟨l,rfl,hl⟩:=zq rows (λr hr=>h r (by simp[hr]));have h0:=h row aA;simp only[k8,fits]at h0;obtain⟨_,_,rfl,⟨a,rfl,_⟩,_,_,rfl,⟨b,rfl,hb⟩,_,_,rfl,⟨c,rfl,_⟩,_,_,rfl,⟨d,rfl,hd⟩,_,_,rfl,⟨e,rfl,he⟩,_,_,rfl,⟨f,rfl,hf⟩,rfl⟩:=h0;obtain⟨x,rfl,hx⟩:=HJ b hb;obtain⟨m,rfl⟩:=Bq d hd;refine⟨⟨a,x,c,⟨m,e,f⟩⟩::l,rfl,λy hy=>?_⟩;rcases aF.1 hy with rfl|hy
  ·exact⟨hx,FL he,FL hf⟩
  exact hl y hy
def Uo{f:FuncId}{gs:List GV}(h:Rt pg f gs (.b true)):Ct pg f 0 gs [] (uj λg=>g=.b true):=by
 exact h.ct.jK λg σ' n' hq=>⟨id,g,[],0,⟨hq.1.1,rfl,rfl⟩,(mR g).symm,trivial,by simp[hq.1.2,iL,iv,iu,jf]⟩
end Go.Proofs.YtadildidlcbbkaaGreatDoor
namespace Go.Proofs.YtadildidlcbbkaaGreatDoor
open Go.GK Go.ChangeShapes Go.WideShapes Go.RowKit
open IntKind Go.Proofs.Tryz
set_option maxRecDepth 100000
abbrev uU:List (String×DataW Unit):=[("math/bits.deBruijn32tab",Rows.laid_math_bits_deBruijn32tab),("math/bits.deBruijn64tab",Rows.laid_math_bits_deBruijn64tab),("internal/strconv.uint64pow10",Rows.laid_internal_strconv_uint64pow10),("unicode/utf8.acceptRanges",Rows.laid_unicode_utf8_acceptRanges),("raingauge/bits.sizes",Rows.laid_raingauge_bits_sizes),("strconv.ErrRange",Rows.laid_strconv_ErrRange),("strconv.ErrSyntax",Rows.laid_strconv_ErrSyntax),("raingauge/ask.marks",Rows.laid_raingauge_ask_marks),("raingauge/ask.ops",Rows.laid_raingauge_ask_ops),("unicode/utf8.first",Rows.laid_unicode_utf8_first)]
abbrev nw:List (String×DataW Unit):=[("math/bits.deBruijn32tab",Rows.laid_math_bits_deBruijn32tab),("math/bits.deBruijn64tab",Rows.laid_math_bits_deBruijn64tab),("internal/strconv.uint64pow10",Rows.laid_internal_strconv_uint64pow10),("unicode/utf8.acceptRanges",Rows.laid_unicode_utf8_acceptRanges),("raingauge/bits.sizes",Rows.laid_raingauge_bits_sizes),("strconv.ErrRange",Rows.laid_strconv_ErrRange),("strconv.ErrSyntax",Rows.laid_strconv_ErrSyntax),("raingauge/ask.marks",Rows.laid_raingauge_ask_marks),("raingauge/ask.ops",Rows.laid_raingauge_ask_ops),("unicode/utf8.first",Rows.laid_unicode_utf8_first)]
theorem own:ownKnob prog.godebug=none:=by kernel_rfl
theorem laidOut:laidOutB prog=true:=by kernel_rfl
theorem Gu: "*" ++ "errors.errorString" = "*errors.errorString" :=by decide
theorem Jj(u:TypeId)(h:prog.typeName? 3 u=some "*errors.errorString"):u=375:=
 typeName_ptr_named (nm:= "errors.errorString") (by rw[Gu];kernel_rfl) au ax u (by rw[Gu];exact h)
theorem wM{W:World}(h:laidMet prog [("raingauge/bits.sizes",Rows.laid_raingauge_bits_sizes)] W):mB W 7 (.r ([0,4,7,12,20,32,64].map fun x=>.v (.int .i64 x))):=
 mB.ints (t:=357) (e:=3) (n:= "raingauge/bits.sizes") (k:=.i64) (zs:=[0,4,7,12,20,32,64]) h au au au au au au
theorem xb{W:World}(h:laidMet prog [("raingauge/ask.marks",Rows.laid_raingauge_ask_marks)] W):mB W 2 (.r [.v (.string ⟨#[33,61]⟩),.v (.string ⟨#[94,61]⟩),.v (.string ⟨#[33,94]⟩),.v (.string ⟨#[61]⟩),.v (.string ⟨#[123]⟩),.v (.string ⟨#[125]⟩),.v (.string ⟨#[91]⟩),.v (.string ⟨#[93]⟩),.v (.string ⟨#[40]⟩),.v (.string ⟨#[41]⟩),.v (.string ⟨#[44]⟩),.v (.string ⟨#[43]⟩),.v (.string ⟨#[45]⟩),.v (.string ⟨#[42]⟩),.v (.string ⟨#[47]⟩)]):=
 mB.strs (t:=282) (e:=9) (n:= "raingauge/ask.marks") (zs:=[[33,61],[94,61],[33,94],[61],[123],[125],[91],[93],[40],[41],[44],[43],[45],[42],[47]]) h au au au au au au
theorem y0{W:World}(h:laidMet prog [("raingauge/ask.ops",Rows.laid_raingauge_ask_ops)] W):mB W 1 (.r [.v (.string ⟨#[61]⟩),.v (.string ⟨#[33,61]⟩),.v (.string ⟨#[94,61]⟩),.v (.string ⟨#[33,94]⟩)]):=
 mB.strs (t:=251) (e:=9) (n:= "raingauge/ask.ops") (zs:=[[61],[33,61],[94,61],[33,94]]) h au au au au au au
theorem zT{W:World}(h:laidMet prog [("strconv.ErrRange",Rows.laid_strconv_ErrRange)] W):mB W 5 (.r [.ifc 375 (.r [.v (.string ⟨#[118,97,108,117,101,32,111,117,116,32,111,102,32,114,97,110,103,101]⟩)])]):=
 mB.err (t:=36) (n:= "strconv.ErrRange") (text:=[118,97,108,117,101,32,111,117,116,32,111,102,32,114,97,110,103,101]) h au au underlying36 Jj underlying375 underlying377 rfl rfl underlying9 au au
theorem y4{W:World}(h:laidMet prog [("strconv.ErrSyntax",Rows.laid_strconv_ErrSyntax)] W):mB W 4 (.r [.ifc 375 (.r [.v (.string ⟨#[105,110,118,97,108,105,100,32,115,121,110,116,97,120]⟩)])]):=
 mB.err (t:=36) (n:= "strconv.ErrSyntax") (text:=[105,110,118,97,108,105,100,32,115,121,110,116,97,120]) h au au underlying36 Jj underlying375 underlying377 rfl rfl underlying9 au au
theorem sD{W:World}(h:laidMet prog [("internal/strconv.uint64pow10",Rows.laid_internal_strconv_uint64pow10)] W):mB W 8 (.r [.v (.int .u64 1),.v (.int .u64 10),.v (.int .u64 100),.v (.int .u64 1000),.v (.int .u64 10000),.v (.int .u64 100000),.v (.int .u64 1000000),.v (.int .u64 10000000),.v (.int .u64 100000000),.v (.int .u64 1000000000),.v (.int .u64 10000000000),.v (.int .u64 100000000000),.v (.int .u64 1000000000000),.v (.int .u64 10000000000000),.v (.int .u64 100000000000000),.v (.int .u64 1000000000000000),.v (.int .u64 10000000000000000),.v (.int .u64 100000000000000000),.v (.int .u64 1000000000000000000),.v (.int .u64 10000000000000000000)]):=
 mB.ints (t:=383) (e:=233) (n:= "internal/strconv.uint64pow10") (k:=.u64) (zs:=[1,10,100,1000,10000,100000,1000000,10000000,100000000,1000000000,10000000000,100000000000,1000000000000,10000000000000,100000000000000,1000000000000000,10000000000000000,100000000000000000,1000000000000000000,10000000000000000000]) h au au au au au au
theorem Tb{W:World}(hL:laidMetH prog uU W):∀H:Hid,H.ro=sf W→iX pg H:=by
 rw[MakeChecks.laidMetH_plain _ _ _ au]at hL;have h:=hL;refine iX.Sd ?_;show∀x∈gl,mB W x.1 x.2;unfold gl;refine dA.2 ⟨wM (h.filter fun x=>x.1== "raingauge/bits.sizes"),?_⟩;refine dA.2 ⟨xb (h.filter fun x=>x.1== "raingauge/ask.marks"),?_⟩;refine dA.2 ⟨y0 (h.filter fun x=>x.1== "raingauge/ask.ops"),?_⟩;refine dA.2 ⟨zT (h.filter fun x=>x.1== "strconv.ErrRange"),?_⟩;refine dA.2 ⟨y4 (h.filter fun x=>x.1== "strconv.ErrSyntax"),?_⟩;refine dA.2 ⟨sD (h.filter fun x=>x.1== "internal/strconv.uint64pow10"),?_⟩;exact fun x hx=>by cases hx
noncomputable def Es(os:Os):World:=(World.doorLaid prog 400 os).layVars prog nw
theorem TS(os:Os):(Es os).os=os:=World.layVars_os _ _ _
theorem Qc(os:Os):(World.doorLaid prog 400 os).layFits prog nw []=true:=by kernel_rfl
theorem Kc(os:Os):(World.doorLaid prog 400 os).layIfaces prog nw (Es os)=true:=by kernel_rfl
theorem K6(os:Os)(args:Array Value):(uU.filter fun x=>x.2.handleName?.isSome).all (handleAtB prog ((Es os).forCall (fun _ _=>0) ⟨#[],args,[]⟩).memory)=true:=by kernel_rfl
theorem Lv(os:Os)(args:Array Value):((Es os).forCall (fun _ _=>0) ⟨#[],args,[]⟩).Shaped prog:=World.shaped_of_ZipB au au
theorem R0(os:Os)(args:Array Value):laidMetH prog uU ((Es os).forCall (fun _ _=>0) ⟨#[],args,[]⟩).memory:=by
 have e1:(nw.filter fun x=>(nw.map (·.1)).contains x.1)=nw:=cD.2 fun x hx=>List.contains_iff_mem.2 (ba.2 ⟨x,hx,rfl⟩);have e2:(nw.filter fun x=> !(nw.map (·.1)).contains x.1)=[]:=dj.2 fun x hx=>by rw[List.contains_iff_mem.2 (ba.2 ⟨x,hx,rfl⟩)];simp
 have h:laidMet prog nw (Es os):=laidMet_layVars (w0:=World.doorLaid prog 400 os) (nw.map (·.1)) [] (by rw[e1];rfl) (by rw[e1];exact Qc os) (by rw[e1];exact Kc os) (by rw[e2];exact LaidIn.none);have h':laidMet prog nw ((Es os).forCall (fun _ _=>0) ⟨#[],args,[]⟩).memory:=h.of_heap (by simp[World.memory,World.forCall,Input.heap]);exact laidMetH_of_parts h' (K6 os args)
end Go.Proofs.YtadildidlcbbkaaGreatDoor
